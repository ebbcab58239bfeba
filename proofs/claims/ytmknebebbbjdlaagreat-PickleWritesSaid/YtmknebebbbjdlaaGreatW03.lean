/- A part of the proof: Hh, Pl, Pm, Pn, Po, Pp, Pq, Pr, ShB, Ps, Pt, Pu, Pv, Pw, Px, Py, Pz. -/
import Derived.Test.YtmknebebbbjdlaaGreatW02
import Derived.Test.YtmknebebbbjdlaaGreatProg
set_option linter.unusedSectionVars false
set_option linter.unusedVariables false
set_option linter.unusedSimpArgs false
set_option maxRecDepth 200000
namespace Go.Ce
section
variable {α:Type} {W:CW} {el n:Nat} {v:Value}
theorem flatMap_length {enc:α→List Value} (hn:∀ x,(enc x).length=n) (l:List α):(l.flatMap enc).length=l.length*n:=by
 induction l with
 | nil=>simp
 | cons x l ih=>rw [List.flatMap_cons,List.length_append,ih,hn,List.length_cons,Nat.succ_mul,Nat.add_comm]
theorem ownSl {enc:α→List Value} (hn:∀ x,(enc x).length=n) (h0:0<n) {l:List α} (h:Own W el n v (l.flatMap enc)):IsSl n (fun b o x=>Cells W b o (enc x)) v l:=by
 generalize hc:l.flatMap enc=cs at h
 have hl:=flatMap_length hn l
 rw [hc] at hl
 cases h with
 | nil =>
  have:l.length=0:=by
   rcases Nat.eq_zero_or_pos l.length with h | h
   ·exact h
   ·have:=Nat.mul_pos h h0
    rw [←hl] at this; simp at this
  exact ⟨none,0,by rw [this],fun i x hx=>by have:=(List.getElem?_eq_some_iff.1 hx).1; omega⟩
 | @some b len _ hB hbl =>
  have:len=l.length:=Nat.eq_of_mul_eq_mul_right h0 (by rw [←hbl,hl])
  refine ⟨some ⟨b,0,none⟩,len,by rw [this],fun i x hx=>⟨_,rfl,?_⟩⟩
  have h1:=hB.cells
  rw [←hc] at h1
  exact flat_cells hn l 0 h1 i x hx
theorem map_flat (f:α→Value) (l:List α):l.map f=l.flatMap fun x=>[f x]:=by
 induction l with
 | nil=>rfl
 | cons x l ih=>rw [List.map_cons,List.flatMap_cons,ih]; rfl
theorem ownMap {f:α→Value} {l:List α} (h:Own W el 1 v (l.map f)):IsSl 1 (fun b o x=>W.cell b o=some (f x)) v l:=by
 rw [map_flat] at h
 obtain ⟨a,cap,h1,h2⟩:=ownSl (n:=1) (fun _=>rfl) (by omega) h
 refine ⟨a,cap,h1,fun i x hx=>?_⟩
 obtain ⟨p,hp,hr⟩:=h2 i x hx
 exact ⟨p,hp,by have:=hr 0 (f x) rfl; rwa [Nat.add_zero] at this⟩
theorem ownNil (h:Own W el n v []):v=.slice none 0 0∨∃ b,v=.slice (some ⟨b,0,none⟩) 0 0∨n=0:=by
 cases h with
 | nil=>exact .inl rfl
 | @some b len _ hB hl =>
  right
  rcases Nat.eq_zero_or_pos n with h0 | h0
  ·exact ⟨b,.inr h0⟩
  ·refine ⟨b,.inl ?_⟩
   have:len=0:=by
    rcases Nat.eq_zero_or_pos len with h | h
    ·exact h
    ·have:=Nat.mul_pos h h0; rw [←hl] at this; simp at this
   rw [this]
end
theorem ownLen {P:Program} {t el':TypeId} (u:P.underlying t=some (.slice el')) {W W':CW} {el n:Nat} {v:Value} {cs:List Value} (h:Own W el n v cs) (hn:0<n) {m:Nat} (hm:cs.length=m*n):clen P t v W'=some (.int .i64 m):=by
 cases h with
 | nil =>
  have:m=0:=by
   rcases Nat.eq_zero_or_pos m with h | h
   ·exact h
   ·have:=Nat.mul_pos h hn; rw [←hm] at this; simp at this
  rw [clen_sl u,this]
 | @some b len _ hB hl =>
  have:len=m:=Nat.eq_of_mul_eq_mul_right hn (by rw [←hl,hm])
  rw [clen_sl u,this]
def Agree (ts:List Nat) (e e':Env):Prop:=∀ t,t ∈ ts→e' t=e t
theorem Agree.refl (ts:List Nat) (e:Env):Agree ts e e:=fun _ _=>rfl
theorem Agree.trans {ts:List Nat} {a b c:Env} (h:Agree ts a b) (k:Agree ts b c):Agree ts a c:=fun t ht=>(k t ht).trans (h t ht)
theorem Agree.put {ts:List Nat} {e:Env} {l:List (Nat × Value)} (h:(ts.all fun t=>l.all fun p=>!Nat.beq t p.1)=true):Agree ts e (Env.of e l):=by
 intro t ht
 have h1:=List.all_eq_true.1 h t ht
 clear h ht
 induction l with
 | nil=>rfl
 | cons p l ih =>
  simp only [List.all_cons,Bool.and_eq_true,Bool.not_eq_true'] at h1
  simp only [Env.of,h1.1,cond_false]
  exact ih h1.2
theorem w_mono {v:Value} {X Y X' Y':Prop} (h:wI v X Y) (h1:X→X') (h2:Y→Y'):wI v X' Y':=by
 unfold wI at h ⊢
 split at h
 ·exact h1 h
 ·exact h2 h
 ·obtain ⟨b,hb,h3,h4⟩:=h
  exact ⟨b,hb,fun e=>h1 (h3 e),fun e=>h2 (h4 e)⟩
def forK (J:Nat→Env→List Deferred→CW→Prop) (i n:Nat) (K:Kont):Kont:=fun x e ds W=>match x with
 | .normal=>i<n∧J (i+1) e ds W
 | x=>K x e ds W
section
variable (J:Nat→Env→List Deferred→CW→Prop) (i n:Nat) (K:Kont) (e:Env) (ds:List Deferred) (W:CW)
theorem zKn:forK J i n K .normal e ds W=(i<n∧J (i+1) e ds W):=rfl
theorem zKr:forK J i n K .ret e ds W=K .ret e ds W:=rfl
theorem zKx (j:Nat):forK J i n K (.exit j) e ds W=K (.exit j) e ds W:=rfl
theorem zKp (ch:List PanicEntry):forK J i n K (.panic ch) e ds W=K (.panic ch) e ds W:=rfl
end
theorem w_for {P:Program} {L:List FuncId} {ro:Option Nat} {fn:FuncId} {nt:Nat} {b:Code} {K:Kont} (J:Nat→Env→List Deferred→CW→Prop) (n:Nat) {e:Env} {ds:List Deferred} {W:CW} (h0:J 0 e ds W)
  (hstep:∀ i e ds W,i≤n→J i e ds W→wCode P L ro fn nt b e ds W (forK J i n K)):WEnv P L ro fn nt (.loop b) e ds W K:=by
 suffices key:∀ k i e ds W,n-i=k→i≤n→J i e ds W→WEnv P L ro fn nt (.loop b) e ds W K from key n 0 e ds W rfl (Nat.zero_le _) h0
 intro k
 induction k using Nat.strongRecOn with
 | ind k ih =>
  intro i e ds W hk hin hi a ha hn
  obtain ⟨m,⟨x1,a1,W1⟩,h1,e1,h2,h3,h4⟩:=wCode_sound (hstep i e ds W hin hi) a ha hn
  cases x1 with
  | normal =>
   obtain ⟨h5,h6⟩:=h4
   obtain ⟨m',o,h7,h8⟩:=ih (n-(i+1)) (by omega) (i+1) e1 a1.defers W1 rfl h5 h6 a1 h2 h3
   refine ⟨max m m'+1,o,?_,h8⟩
   show seqO ((evC P L (max m m')).code ro fn b a W) ((evC P L (max m m')).code ro fn (.loop b))=some [o]
   rw [code_up (Nat.le_max_left m m') h1]
   exact bindO_inv1 (code_up (Nat.le_max_right m m') h7)
  | _ =>
   refine ⟨m+1,_,?_,e1,h2,h3,h4⟩
   show seqO ((evC P L m).code ro fn b a W) ((evC P L m).code ro fn (.loop b))=_
   rw [h1]
   exact bindO_inv1 rfl
theorem pre_succ {bad:Nat→Bool} {i:Nat} (h:∀ m,m<i→bad m=false) (hi:bad i=false):∀ m,m<i+1→bad m=false:=fun m hm=>by
 rcases Nat.lt_succ_iff_lt_or_eq.1 hm with h2 | rfl
 ·exact h m h2
 ·exact hi
theorem inc64 {i:Nat} (h:i<1000000000000):IntKind.i64.wrap ((i:Int)+1)=((i+1:Nat):Int):=by rw [wrap64 (by omega) (by omega)]; rfl
theorem w_lt {i n:Nat} {X Y:Prop} (h1:i<n→X) (h2:n≤i→Y):wI (.bool (decide ((i:Int)<(n:Int)))) X Y :=
 wI_bool (fun h=>h1 (by have:=of_decide_eq_true h; omega)) (fun h=>h2 (by have:=of_decide_eq_false h; omega))
theorem w_gt {i n:Nat} {X Y:Prop} (h1:n<i→X) (h2:i≤n→Y):wI (.bool (decide ((i:Int)>(n:Int)))) X Y :=
 wI_bool (fun h=>h1 (by have:=of_decide_eq_true h; omega)) (fun h=>h2 (by have:=of_decide_eq_false h; omega))
theorem putAt_all {vs ws:List Value} (h:ws.length=vs.length):putAt vs 0 ws=ws:=by
 unfold putAt
 rw [List.take_zero,List.nil_append,List.drop_eq_nil_of_le (by omega),List.append_nil]
section
variable {P:Program}
theorem w_var {t:TypeId} {m:Nat} {z:Value} (hz:zer P t=some z) (hs:siz P t=some m) (hzl:z.cells.size=m) {ws:List Value} (h1:ws.all oneCell=true) (hm:ws.length=m) {W:CW} {K:Value→CW→Prop} (ht:Top W)
  (hk:∀ W2,Kp W W2→Top W2→W2.sz=W.sz+1→Blk W2 W.sz t ws→K (.pointer (some ⟨W.sz,0,none⟩)) W2):wVW (alc P t W) fun v W1=>wV (sto P t v (.agg ws.toArray) W1) fun W2=>K v W2:=by
 refine w_alc hz hs ht fun W1 k1 t1 z1 hB=>?_
 refine w_sto_agg hs (a:=⟨W.sz,0,none⟩) h1 hm hB (by simp [hzl]) fun W2 hu hB2=>?_
 rw [putAt_all (by simp [hzl,hm])] at hB2
 exact hk W2 (k1.upd (Nat.le_refl _) hu) (t1.upd (by rw [z1]; exact Nat.lt_succ_self _) hu) (by rw [hu.sz,z1]) hB2
end
section
variable {P:Program}
theorem w_push2 {t el:TypeId} {ts:List TypeId} {n bytes:Nat} {z x:Value} {xs:List Value} (ut:P.underlying t=some (.slice el)) (hs:siz P el=some n) (hz:zer P el=some z) (hzn:z.cells.size=n) (hn:0<n) (hby:(P.info? el).map (·.bytes)=some bytes) (hb:bytes≤1024)
  (hbsl:∀ W,bsl P t 1 [(0,x)] W=some (.slice (some ⟨W.sz,0,none⟩) 1 1,W.new (.cells (Tr.nil.putFrom 0 xs) xs.length #[] el))) (hxs:xs.length=n) (hx1:xs.all oneCell=true)
  {W:CW} (ht:Top W) {v:Value} {cs:List Value} (hv:Own W el n v cs) (hlim:cs.length<900000) {K:Value→CW→Value→CW→Prop}
  (hk:∀ u Wa v1 W1,Kp W Wa→Top Wa→Pushed v W W1→Top W1→Own W1 el n v1 (cs++xs)→(∀ A,A≤W.sz→Newer A v1)→K u Wa v1 W1):wVW (bsl P t 1 [(0,x)] W) fun u W1=>wVW (app P (t::t::ts) v u W1) fun v1 W2=>K u W1 v1 W2:=by
 refine wVW_of (hbsl W) ?_
 have hkp:Kp W (W.new (.cells (Tr.nil.putFrom 0 xs) xs.length #[] el)):=.new _
 have hB:Blk (W.new (.cells (Tr.nil.putFrom 0 xs) xs.length #[] el)) W.sz el xs:=⟨_,_,_,by rw [obj_new,if_pos rfl],rfl,fun k w hw=>by
  rw [cellAt_list _ _ _ (List.getElem?_eq_some_iff.1 hw).1,List.getD_eq_getElem?_getD,hw]; rfl⟩
 have hv':Own (W.new (.cells (Tr.nil.putFrom 0 xs) xs.length #[] el)) el n v cs:=by
  cases hv with
  | nil=>exact .nil
  | some h hl=>exact .some (h.ext ht hkp) hl
 have hvb:∀ b l c,v=.slice (some b) l c→b.block<W.sz:=by
  intro b l c e
  cases hv with
  | nil=>cases e
  | some h hl=>cases e; exact h.lt ht
 have hu:noInt P t=true:=by unfold noInt; rw [ut]
 refine w_app (x:=.slice (some ⟨W.sz,0,none⟩) 1 1) (m:=1) (news:=xs) ut hu hs hz hzn hn hby hb (ht.new _) hv' rfl (by omega) ?_ hx1 (by omega) (by omega) fun W1 len hg hl hB1=>?_
 ·show firstN (some ⟨W.sz,0,none⟩) (1*n) _=some xs
  rw [Nat.one_mul,←hxs]
  exact firstN_of hB.cells
 ·refine hk _ _ _ W1 hkp (ht.new _) ⟨by rw [hg.sz,sz_new]; omega,fun i hi hne=>?_⟩ (hg.top (ht.new _)) (.some hB1 hl) (fun A hA b l c e=>by cases e; rw [sz_new]; show A≤W.sz+1; omega)
  rw [hg.obj i (by rw [sz_new]; omega) hne,obj_new,if_neg (by omega)]
end
theorem ownUpd {W W':CW} {el n i:Nat} {v:Value} {cs:List Value} (h:Own W el n v cs) (hu:Upd i W W') (hi:∀ b l c,v=.slice (some b) l c→b.block≠i):Own W' el n v cs:=by
 cases h with
 | nil=>exact Own.nil
 | some hB hl=>exact Own.some (hB.congr (hu.obj _ (hi _ _ _ rfl))) hl
theorem ownOne {W:CW} {el n:Nat} {v:Value} {cs:List Value} (h:Own W el n v cs):oneCell v=true:=by cases h <;> rfl
theorem ownNe {W:CW} {el el' n i:Nat} {v:Value} {cs ws:List Value} (h:Own W el n v cs) (hB:Blk W i el' ws) (he:el≠el'):∀ b l c,v=.slice (some b) l c→b.block≠i:=by
 intro b l c hv hb
 cases h with
 | nil=>cases hv
 | some h1 hl =>
  cases hv
  simp only at hb
  subst hb
  obtain ⟨c1,n1,z1,h2,_⟩:=h1
  obtain ⟨c2,n2,z2,h3,_⟩:=hB
  rw [h2] at h3
  cases h3
  exact he rfl
theorem Pushed.blk {v:Value} {W W':CW} (h:Pushed v W W') (ht:Top W) {i:Nat} {el:TypeId} {ws:List Value} (hB:Blk W i el ws) (hi:∀ b l c,v=.slice (some b) l c→b.block≠i):Blk W' i el ws :=
 hB.congr (h.obj i (hB.lt ht) fun b l c e=>(hi b l c e).symm)
theorem leave_cell {P:Program} {fn:Func} {Q:Ending→CW→Prop} {e:Env} {W:CW} {s:Tmp} {ty:TypeId} {p:Addr} {v:Value} (hr:fn.results.toList=[.cell s ty]) (he:e s=.pointer (some p)) (hv:ld P ty (.pointer (some p)) W=some v) (hq:Q (.returned v) W):wLeave P fn Q .ret e [] W:=by
 have hv:cload P ty p W=some v:=hv
 simp only [wLeave,wResults,hr,wResL,wRes,he,hv]
 exact hq
structure Chg (S:Nat→Prop) (W W':CW):Prop where
 sz:W.sz≤W'.sz
 obj:∀ i,i<W.sz→¬S i→W'.obj i=W.obj i
theorem Chg.refl (S:Nat→Prop) (W:CW):Chg S W W:=⟨Nat.le_refl _,fun _ _ _=>rfl⟩
theorem Chg.of_kp {S:Nat→Prop} {W W':CW} (h:Kp W W'):Chg S W W':=⟨h.sz,fun i hi _=>h.obj i hi⟩
theorem Chg.then {S T:Nat→Prop} {A B C:CW} (h:Chg S A B) (k:Chg T B C) (hT:∀ i,i<A.sz→T i→S i):Chg S A C :=
 ⟨Nat.le_trans h.sz k.sz,fun i hi hs=>(k.obj i (Nat.lt_of_lt_of_le hi h.sz) fun ht=>hs (hT i hi ht)).trans (h.obj i hi hs)⟩
theorem Chg.kp {S:Nat→Prop} {A B C:CW} (h:Kp A B) (k:Chg S B C) (hS:∀ i,S i→A.sz≤i):Kp A C :=
 ⟨Nat.le_trans h.sz k.sz,fun i hi=>(k.obj i (Nat.lt_of_lt_of_le hi h.sz) fun hs=>by have:=hS i hs; omega).trans (h.obj i hi)⟩
theorem Chg.cell {S:Nat→Prop} {W W':CW} (h:Chg S W W') (ht:Top W) {b k:Nat} (hb:¬S b) {v:Value} (hc:W.cell b k=some v):W'.cell b k=some v:=by
 rw [cell_congr (h.obj b (cell_lt ht hc) hb)]; exact hc
theorem Chg.blk {S:Nat→Prop} {W W':CW} (h:Chg S W W') (ht:Top W) {b:Nat} (hb:¬S b) {el:TypeId} {ws:List Value} (hB:Blk W b el ws):Blk W' b el ws :=
 hB.congr (h.obj b (hB.lt ht) hb)
def InBlk (v:Value) (i:Nat):Prop:=∃ b l c,v=.slice (some b) l c∧b.block=i
theorem Pushed.chg {v:Value} {W W':CW} (h:Pushed v W W'):Chg (InBlk v) W W':=⟨h.sz,fun i hi hs=>h.obj i hi fun b l c e hb=>hs ⟨b,l,c,e,hb.symm⟩⟩
theorem Upd.chg {i:Nat} {W W':CW} (h:Upd i W W'):Chg (·=i) W W':=⟨by rw [h.sz]; exact Nat.le_refl _,fun j _ hj=>h.obj j hj⟩
theorem Chg.own {S:Nat→Prop} {W W':CW} (h:Chg S W W') (ht:Top W) {el n:Nat} {v:Value} {cs:List Value} (ho:Own W el n v cs) (hv:∀ i,InBlk v i→¬S i):Own W' el n v cs:=by
 cases ho with
 | nil=>exact Own.nil
 | some hB hl=>exact Own.some (h.blk ht (hv _ ⟨_,_,_,rfl,rfl⟩) hB) hl
theorem Newer.in {A:Nat} {v:Value} (h:Newer A v) {i:Nat} (hi:InBlk v i):A≤i:=by
 obtain ⟨b,l,c,e,rfl⟩:=hi
 exact h b l c e
theorem ownLt {W:CW} (ht:Top W) {el n:Nat} {v:Value} {cs:List Value} (h:Own W el n v cs) {i:Nat} (hi:InBlk v i):i<W.sz:=by
 obtain ⟨b,l,c,e,rfl⟩:=hi
 cases h with
 | nil=>cases e
 | some hB hl=>cases e; exact hB.lt ht
theorem isSl_chg {α:Type} {n:Nat} {S:Nat→Prop} {W W':CW} {R:CW→Nat→Nat→α→Prop} {v:Value} {l:List α} (h:IsSl n (R W) v l) (hv:l≠[]→∀ i,InBlk v i→¬S i) (hR:∀ b o x,¬S b→R W b o x→R W' b o x):IsSl n (R W') v l:=by
 obtain ⟨a,cap,rfl,h2⟩:=h
 refine ⟨a,cap,rfl,fun i x hx=>?_⟩
 obtain ⟨p,rfl,hr⟩:=h2 i x hx
 exact ⟨p,rfl,hR _ _ _ (hv (fun e=>by rw [e] at hx; cases hx) _ ⟨_,_,_,rfl,rfl⟩) hr⟩
section
variable {P:Program}
theorem w_mks {t el:TypeId} {z:Value} {bytes:Nat} (ut:P.underlying t=some (.slice el)) (hs:siz P el=some 1) (hz:zer P el=some z) (hzc:z.cells=#[z]) (hby:(P.info? el).map (·.bytes)=some bytes) (hb:bytes≤1024) {n:Nat} (hn:n≤2000000) {k1 k2:IntKind} {W:CW} (ht:Top W) {K:Value→CW→Prop}
  (hk:∀ W1,Kp W W1→Top W1→W1.sz=W.sz+1→Blk W1 W.sz el (List.replicate n z)→K (.slice (some ⟨W.sz,0,none⟩) n n) W1):wVW (mks P t (.int k1 n) (.int k2 n) W) K:=by
 have hc:mks P t (.int k1 n) (.int k2 n) W=some (.slice (some ⟨W.sz,0,none⟩) n n,W.new (.cells .nil (n*1) z.cells el)):=by
  unfold mks
  simp only [ut,hs,hz,optB,hby,Option.getD_some,hzc]
  rw [show Nat.ble bytes 1024=true from Nat.ble_eq_true_of_le hb]
  simp only [cond_eq_ite]
  rw [if_pos (by simp; omega)]
  simp
 refine wVW_of hc (hk _ (.new _) (ht.new _) rfl ⟨.nil,_,_,by rw [obj_new,if_pos rfl],by simp,fun k v hv=>?_⟩)
 have h1:v=z:=List.eq_of_mem_replicate (List.mem_of_getElem? hv)
 subst h1
 unfold cellAt
 simp only [Tr.get_nil,hzc]
 simp [Nat.mod_one]
end
section
variable {P:Program}
theorem w_apps2 {t u el:TypeId} {ts:List TypeId} {n bytes:Nat} {z:Value} (ut:P.underlying t=some (.slice el)) (hu:noInt P u=true) (hs:siz P el=some n) (hz:zer P el=some z) (hzn:z.cells.size=n) (hn:0<n) (hby:(P.info? el).map (·.bytes)=some bytes) (hb:bytes≤1024)
  {W:CW} (ht:Top W) {v:Value} {cs news:List Value} {a:Option Addr} {m cap:Nat} (hv:Own W el n v cs) (hsrc:0<m→∃ p,a=some p∧Cells W p.block p.off news) (h1:news.all oneCell=true) (hnl:news.length=m*n) (hlim:cs.length+m≤1000000) {K:Value→CW→Prop}
  (hk:∀ v1 W1,Pushed v W W1→Top W1→Own W1 el n v1 (cs++news)→(∀ j,InBlk v1 j→InBlk v j∨W.sz≤j)→K v1 W1):wVW (app P (t::u::ts) v (.slice a m cap) W) K:=by
 rcases Nat.eq_zero_or_pos m with rfl | hm
 ·have hnil:news=[]:=List.length_eq_zero_iff.1 (by rw [hnl,Nat.zero_mul])
  subst hnil
  have hble:Nat.ble ((P.info? el).map (·.bytes) |>.getD 2000) 1024=true:=by rw [hby]; exact Nat.ble_eq_true_of_le hb
  have hsr:srcCells (.slice a 0 cap) 0 n W=some []:=by
   show firstN a (0*n) W=some []
   rw [Nat.zero_mul]
   unfold firstN
   cases a <;> rfl
  have hc:app P (t::u::ts) v (.slice a 0 cap) W=some (v,W):=by
   unfold app
   simp only [hu,cond_true]
   cases hv with
   | nil =>
    unfold cappend
    simp only [ut,srcN,optB,hs,hz,hsr,List.all_nil,List.length_nil,Nat.zero_mul,Nat.beq_refl,hzn,hble,Bool.true_and,Bool.and_true]
    rw [show Nat.blt 0 n=true from Nat.ble_eq_true_of_le hn]
    rfl
   | @some b len cs hB hl =>
    have hlen:len≤cs.length:=by rw [hl]; exact Nat.le_mul_of_pos_right _ hn
    unfold cappend
    simp only [ut,srcN,optB,hs,hz,hsr,List.all_nil,List.length_nil,Nat.zero_mul,Nat.beq_refl,hzn,hble,Bool.true_and,Bool.and_true,Nat.add_zero]
    rw [show Nat.blt 0 n=true from Nat.ble_eq_true_of_le hn,show Nat.ble len 1000000=true from Nat.ble_eq_true_of_le (by omega),show Nat.ble len len=true from Nat.ble_eq_true_of_le (Nat.le_refl _)]
    rfl
  refine wVW_of hc (hk v W ⟨Nat.le_refl _,fun _ _ _=>rfl⟩ ht (by rw [List.append_nil]; exact hv) (fun j h=>.inl h))
 ·obtain ⟨p,rfl,hcl⟩:=hsrc hm
  refine w_app (m:=m) ut hu hs hz hzn hn hby hb ht hv rfl hm ?_ h1 hnl hlim fun W1 len hg hl hB=>?_
  ·show firstN (some p) (m*n) W=some news
   rw [←hnl]
   exact firstN_of hcl
  ·exact hk _ W1 ⟨by rw [hg.sz]; omega,hg.obj⟩ (hg.top ht) (.some hB hl) (fun j h=>.inr (by obtain ⟨b,l,c,e,rfl⟩:=h; cases e; exact Nat.le_refl _))
end
end Go.Ce
namespace Go.Ce
open Go Go.Proofs Go.Proofs.Tryz
def anyTo (n:Nat) (p:Nat→Bool):Bool:=(List.range n).any p
theorem anyTo_true {n j:Nat} {p:Nat→Bool} (hj:j<n) (h:p j=true):anyTo n p=true:=List.any_eq_true.2 ⟨j,List.mem_range.2 hj,h⟩
theorem anyTo_false {n:Nat} {p:Nat→Bool} (h:∀ j,j<n→p j=false):anyTo n p=false:=by
 unfold anyTo
 rw [List.any_eq_false]
 intro j hj
 rw [h j (List.mem_range.1 hj)]; simp
theorem anyTo_all {n:Nat} {p:Nat→Bool} (h:anyTo n p=false) {j:Nat} (hj:j<n):p j=false:=by
 cases hp:p j with
 | false=>rfl
 | true=>rw [anyTo_true hj hp] at h; cases h
def kindB (k:Int):Bool:=k == 1 || k == 2
def valueOk (kind n:Int) (size:Nat):Bool:=!((kind == 1 && (decide (n < -1000000000) || decide (n>1000000000))) || (kind == 2 && (decide (n<0) || decide (n>size))))
def shpI (c:List Shp) (s:ByteArray):Option Nat:=c.findIdx? fun x=>decide (x.name=s)
def manyOk (c:List Shp) (i:Nat) (x:Shp) (many:Nat):Bool:=if x.elem≠0 then decide (many≤200) else decide (many=(rowP c i).length)
def thingOk (c:List Shp) (x:Thg) (size:Nat):Bool:=match shpI c x.type with
 | none=>false
 | some i=>match c[i]? with
  | none=>false
  | some s=>manyOk c i s x.vals.length && !anyTo x.vals.length fun k=>match x.vals[k]? with
   | some n=>!valueOk (kindP c i k) n size
   | none=>false
def thingsI (c:List Shp) (h:List Thg):Int:=if 1000<h.length then 1000 else idxI h fun x=>!thingOk c x h.length
theorem RInt.kp {W W':CW} {b o:Nat} {x:Int} (h:RInt W b o x) (ht:Top W) (k:Kp W W'):RInt W' b o x:=⟨k.cell ht h.1,h.2⟩
theorem RThg.kp {W W':CW} {b o:Nat} {x:Thg} (h:RThg W b o x) (ht:Top W) (k:Kp W W'):RThg W' b o x :=
 ⟨k.cell ht h.type,by obtain ⟨v,h1,h2⟩:=h.vals; exact ⟨v,k.cell ht h1,h2.imp fun _ _ _ hr=>hr.kp ht k⟩⟩
theorem RSpc.kp {W W':CW} {b o:Nat} {x:Spc} (h:RSpc W b o x) (ht:Top W) (k:Kp W W'):RSpc W' b o x :=
 ⟨k.cell ht h.type,k.cell ht h.to,by obtain ⟨v,h1,h2,h3⟩:=h.map; exact ⟨v,k.cell ht h1,h2.imp fun _ _ _ hr=>hr.kp ht k,h3.kp ht k⟩⟩
def AThg (W:CW) (u:Value) (x:Thg):Prop:=∃ v,u=.agg #[.string x.type,v]∧IsSl 1 (RInt W) v x.vals
theorem AThg.kp {W W':CW} {u:Value} {x:Thg} (h:AThg W u x) (ht:Top W) (k:Kp W W'):AThg W' u x:=by
 obtain ⟨v,h1,h2⟩:=h
 exact ⟨v,h1,h2.imp fun _ _ _ hr=>hr.kp ht k⟩
theorem RThg.ld {W:CW} {b o:Nat} {x:Thg} (h:RThg W b o x):∃ u,ld prog 56 (.pointer (some ⟨b,o,none⟩)) W=some u∧AThg W u x:=by
 obtain ⟨v,h1,h2⟩:=h.vals
 refine ⟨_,ld_agg (vs:=[.string x.type,v]) a56 s56 rfl (by omega) ?_,v,rfl,h2⟩
 intro j w hj
 match j,hj with
 | 0,hj=>cases hj; exact h.type
 | 1,hj=>cases hj; exact h1
theorem findI_some {c:List Shp} {s:ByteArray} {i:Nat} (h:shpI c s=some i):findI c s=i:=by unfold findI; unfold shpI at h; rw [h]
theorem findI_none {c:List Shp} {s:ByteArray} (h:shpI c s=none):findI c s=-1:=by unfold findI; unfold shpI at h; rw [h]
theorem shpI_lt {c:List Shp} {s:ByteArray} {i:Nat} (h:shpI c s=some i):i<c.length:=(List.findIdx?_eq_some_iff_getElem.1 h).1
theorem thing_ok {v0 v1:Value} {c:List Shp} {x:Thg} {size:Nat} {W:CW} (ht:Top W) (hc:IsSl 5 (RShp W) v0 c) (hlen:c.length<200) (hf:∀ x,x ∈ c→x.fields.length≤100) (hx:AThg W v1 x) (hv:x.vals.length<1000000) (hsz:size<1000000) :
  WCall prog pkL 122 [v0,v1,.int .i64 size] W (Ret (.bool (thingOk c x size)) W):=by
 refine f122_w ?_
 rw [f122_c]
 obtain ⟨vv,rfl,hvals⟩:=hx
 refine w_bxw s56 ht fun W0 k0 t0 z0 hB=>?_
 have hB0:W0.cell W.sz 0=some (.string x.type):=hB.cell rfl
 have hB1:W0.cell W.sz 1=some vv:=hB.cell rfl
 have hc0:IsSl 5 (RShp W0) v0 c:=hc.imp fun _ _ _ hr=>hr.kp ht k0
 simp only [fad56_0,wV_some]
 rw [ld_word a9 (a:=⟨W.sz,0,none⟩) hB0]
 simp only [wV_some]
 refine w_gives (find_ok hc0 (by omega)) ?_
 generalize hKK:wLeave prog Tryz.f122 (Ret (.bool (thingOk c x size)) W)=K
 have hret:∀ (b:Bool) (e:Env) W',Kp W W'→Top W'→e 6=.bool b→b=thingOk c x size→K .ret e [] W':=by
  intro b e W' k t h6 hb
  rw [←hKK,f122_leave,h6,hb]
  exact ⟨rfl,k,t⟩
 have hend:∀ (b:Bool) (e:Env) W',Kp W0 W'→Top W'→e 47=.bool b→e 0=v0→e 2=.int .i64 size→e 4=.pointer (some ⟨W.sz,0,none⟩) →
   (b=true→thingOk c x size=false)→(b=false→∃ i,e 7=.int .i64 (i:Nat)∧shpI c x.type=some i∧∃ s,c[i]?=some s∧manyOk c i s x.vals.length=true)→(f122_k5 none K) .normal e [] W':=by
  intro b e W' k t h47 h0 h2 h4 hbt hbf
  simp only [f122_k5,qKn]
  rw [h47]
  refine wI_bool (fun h=>?_) (fun h=>?_)
  ·simp only [f122_k4,qKr]
   exact hret false _ _ (k0.trans k) t (by simp only [eKc,↓reduceIte]) (hbt h).symm
  ·obtain ⟨i,h7,hi,s,hs,hm⟩:=hbf h
   have hic:=shpI_lt hi
   have hse:s=c[i]:=by rw [List.getElem?_eq_getElem hic] at hs; cases hs; rfl
   have hth:thingOk c x size=!anyTo x.vals.length fun k=>match x.vals[k]? with
     | some n=>!valueOk (kindP c i k) n size
     | none=>false:=by
    unfold thingOk
    rw [hi]
    simp only [hs,hm,Bool.true_and]
   simp only [f122_k4,qKn]
   refine w_loop (fun k e ds W'=>ds=[]∧∃ j:Nat,Kp W0 W'∧Top W'∧e 0=v0∧e 2=.int .i64 size∧e 4=.pointer (some ⟨W.sz,0,none⟩)∧e 7=.int .i64 i∧e 8=.int .i64 j∧j≤x.vals.length∧k=x.vals.length-j∧∀ m n,m<j→x.vals[m]?=some n→valueOk (kindP c i m) n size=true) x.vals.length ⟨rfl,0,k,t,h0,h2,h4,h7,rfl,by omega,by omega,by omega⟩ ?_
   rintro k e ds W' ⟨rfl,j,k',t',h0,h2,h4,h7,h8,hj,rfl,hpre⟩
   rw [f122_l0,h0,h2,h4,h7,h8]
   have hc':IsSl 5 (RShp W') v0 c:=hc0.imp fun _ _ _ hr=>hr.kp t0 k'
   have hl1:W'.cell W.sz 1=some vv:=k'.cell t0 hB1
   have hv':IsSl 1 (RInt W') vv x.vals:=hvals.imp fun _ _ _ hr=>hr.kp ht (k0.trans k')
   obtain ⟨a,cap,rfl,hcell⟩:=hv'
   simp only [fad56_1,wV_some]
   rw [ld_word a40 (a:=⟨W.sz,0+1,none⟩) hl1]
   simp only [wV_some,clen_sl u40,cbin_lss]
   refine wI_bool (fun h=>?_) (fun h=>?_)
   ·have hlt:j<x.vals.length:=by simpa using h
    have hxj:=List.getElem?_eq_getElem hlt
    obtain ⟨p,rfl,hp,hb1,hb2⟩:=hcell j _ hxj
    rw [iad_sl u40 s3 hlt]
    simp only [wV_some]
    rw [ld_word a3 (a:=⟨p.block,p.off+j*1,none⟩) hp]
    simp only [wV_some]
    have hkj:c[i].elem=0→j<(rowP c i).length:=by
     intro he
     subst hse
     unfold manyOk at hm
     rw [if_neg (by simp [he])] at hm
     have:=of_decide_eq_true hm
     omega
    have hfin:∀ (b:Bool) (e:Env) W',Kp W0 W'→Top W'→e 0=v0→e 2=.int .i64 size→e 4=.pointer (some ⟨W.sz,0,none⟩)→e 7=.int .i64 i→e 8=.int .i64 j→e 88=.bool b→b=!valueOk (kindP c i j) x.vals[j] size →
      (f122_k11 none (stepK (fun k e ds W'=>ds=[]∧∃ j:Nat,Kp W0 W'∧Top W'∧e 0=v0∧e 2=.int .i64 size∧e 4=.pointer (some ⟨W.sz,0,none⟩)∧e 7=.int .i64 i∧e 8=.int .i64 j∧j≤x.vals.length∧k=x.vals.length-j∧∀ m n,m<j→x.vals[m]?=some n→valueOk (kindP c i m) n size=true) (x.vals.length-j) (blkK 0 (f122_k3 none K)))) .normal e [] W':=by
     intro b e W1 k1 t1 g0 g2 g4 g7 g8 g88 hb
     simp only [f122_k11,qKn]
     rw [g88]
     refine wI_bool (fun hbb=>?_) (fun hbb=>?_)
     ·simp only [f122_k10,qKr,tKr,bKr,f122_k3]
      refine hret false _ _ (k0.trans k1) t1 (by simp only [eKc,↓reduceIte]) ?_
      rw [hth]
      symm
      rw [Bool.not_eq_false']
      exact anyTo_true hlt (by rw [hxj]; simp only; rw [←hb,hbb])
     ·simp only [f122_k10,qKn,g8,cbin_add,wV_some,tKn]
      refine ⟨x.vals.length-(j+1),by omega,trivial,j+1,k1,t1,?_,?_,?_,?_,?_,hlt,rfl,fun m n hmn hx'=>?_⟩
      ·simp only [eKc,eKn,Nat.reduceEqDiff,↓reduceIte,g0]
      ·simp only [eKc,eKn,Nat.reduceEqDiff,↓reduceIte,g2]
      ·simp only [eKc,eKn,Nat.reduceEqDiff,↓reduceIte,g4]
      ·simp only [eKc,eKn,Nat.reduceEqDiff,↓reduceIte,g7]
      ·simp only [eKc,eKn,Nat.reduceEqDiff,↓reduceIte]
       rw [wrap64 (by omega) (by omega)]; rfl
      ·rcases Nat.lt_succ_iff_lt_or_eq.1 hmn with h2 | rfl
       ·exact hpre m n h2 hx'
       ·rw [hxj] at hx'; cases hx'
        rw [hbb] at hb
        simpa using hb
    have leaf:∀ (b:Bool) (e1:Env) W1,Kp W0 W1→Top W1→e1 0=v0∧e1 2=.int .i64 size∧e1 4=.pointer (some ⟨W.sz,0,none⟩)∧e1 7=.int .i64 i∧e1 8=.int .i64 j∧e1 88=.bool b→b=!valueOk (kindP c i j) x.vals[j] size→_:=fun b e1 W1 k1 t1 ⟨g0,g2,g4,g7,g8,g88⟩ hb=>hfin b e1 W1 k1 t1 g0 g2 g4 g7 g8 g88 hb
    have second:∀ W1,Kp W' W1→Top W1→WCall prog pkL 70 [v0,.int .i64 i,.int .i64 j] W1 (Ret (.int .u8 (kindP c i j)) W1):=fun W1 k1 t1 =>
     kind_ok t1 (hc'.imp fun _ _ _ hr=>hr.kp t' k1) hlen hf hic hkj
    refine w_ret (second W' (.refl _) t') fun W1 k1 t1=>?_
    simp only [cbin_eql,wV_some]
    refine wI_bool (fun h1=>?_) (fun h1=>?_)
    ·simp only [cbin_lss,cbin_gtr,wV_some]
     refine wI_bool (fun h3=>?_) (fun h3=>?_)
     ·refine leaf true _ W1 (k'.trans k1) t1 ?_ (by simp [valueOk,h1,h3])
      simp only [eKc,eKn,Nat.reduceEqDiff,↓reduceIte,h0,h2,h4,h7,h8,and_self]
     ·refine wI_bool (fun h5=>?_) (fun h5=>?_)
      ·refine leaf true _ W1 (k'.trans k1) t1 ?_ (by simp [valueOk,h1,h3,h5])
       simp only [eKc,eKn,Nat.reduceEqDiff,↓reduceIte,h0,h2,h4,h7,h8,and_self]
      ·refine w_ret (second W1 k1 t1) fun W2 k2 t2=>?_
       have k3:=(k'.trans k1).trans k2
       have hk1:kindP c i j=1:=by simpa using h1
       simp only [cbin_eql,wV_some,hk1,Int.reduceBEq,wI_false]
       refine leaf false _ W2 k3 t2 ?_ (by simp [valueOk,hk1,h3,h5])
       simp only [eKc,eKn,Nat.reduceEqDiff,↓reduceIte,h0,h2,h4,h7,h8,and_self]
    ·refine w_ret (second W1 k1 t1) fun W2 k2 t2=>?_
     have k3:=(k'.trans k1).trans k2
     simp only [cbin_eql,wV_some]
     refine wI_bool (fun h3=>?_) (fun h3=>?_)
     ·simp only [cbin_lss,cbin_gtr,wV_some]
      refine wI_bool (fun h5=>?_) (fun h5=>?_)
      ·refine leaf true _ W2 k3 t2 ?_ (by simp [valueOk,h1,h3,h5])
       simp only [eKc,eKn,Nat.reduceEqDiff,↓reduceIte,h0,h2,h4,h7,h8,and_self]
      ·refine leaf (decide (x.vals[j]>size)) _ W2 k3 t2 ?_ (by simp [valueOk,h1,h3,h5])
       simp only [eKc,eKn,Nat.reduceEqDiff,↓reduceIte,h0,h2,h4,h7,h8,and_self]
     ·refine leaf false _ W2 k3 t2 ?_ (by simp [valueOk,h1,h3])
      simp only [eKc,eKn,Nat.reduceEqDiff,↓reduceIte,h0,h2,h4,h7,h8,and_self]
   ·have hge:j=x.vals.length:=by have:¬j<x.vals.length:=(by simpa using h); omega
    subst hge
    simp only [tKx,bKx,if_true,f122_k3,qKn]
    refine hret true _ _ (k0.trans k') t' (by simp only [eKc,↓reduceIte]) ?_
    rw [hth,anyTo_false fun m hm=>?_]
    ·rfl
    ·have:=List.getElem?_eq_getElem hm
     rw [this]
     simp only
     rw [hpre m _ hm this]; rfl
 have leaf:∀ (b:Bool) (e:Env) W',Kp W0 W'→Top W'→e 47=.bool b∧e 0=v0∧e 2=.int .i64 size∧e 4=.pointer (some ⟨W.sz,0,none⟩) →
   (b=true→thingOk c x size=false)→(b=false→∃ i,e 7=.int .i64 (i:Nat)∧shpI c x.type=some i∧∃ s,c[i]?=some s∧manyOk c i s x.vals.length=true)→(f122_k5 none K) .normal e [] W':=fun b e W' k t ⟨g47,g0,g2,g4⟩=>hend b e W' k t g47 g0 g2 g4
 simp only [cbin_lss,wV_some]
 cases hi:shpI c x.type with
 | none =>
  rw [findI_none hi]
  refine wI_bool (fun h=>?_) (fun h=>by simp at h)
  refine ⟨trivial,trivial,leaf true _ W0 (.refl _) t0 ?_ (fun _=>by unfold thingOk; rw [hi]) (fun h=>by cases h)⟩
  simp only [eKc,eKn,eKa,Nat.reduceEqDiff,↓reduceIte,List.getElem?_cons_zero,List.getElem?_cons_succ,Option.getD_some,and_self]
 | some i =>
  rw [findI_some hi]
  have hic:=shpI_lt hi
  have hs:=List.getElem?_eq_getElem hic
  refine wI_bool (fun h=>by have:=of_decide_eq_true h; omega) (fun h=>?_)
  have hbad:manyOk c i c[i] x.vals.length=false→thingOk c x size=false:=fun h=>by
   unfold thingOk
   rw [hi]
   simp only [hs,h,Bool.false_and]
  obtain ⟨a,cap,rfl,hcell⟩:=hc0
  obtain ⟨p,rfl,hp⟩:=hcell i _ hs
  obtain ⟨a2,cap2,rfl,hvc⟩:=hvals
  rw [iad_sl u22 s48 hic]
  simp only [wV_some,fad48_3,fad56_1]
  have hl3:ld prog 5 (.pointer (some ⟨p.block,p.off+i*5+3,none⟩)) W0=some (.int .u8 c[i].elem):=ld_word a5 (a:=⟨p.block,p.off+i*5+3,none⟩) hp.elem
  have hl1:∀ W1,Kp W0 W1→ld prog 40 (.pointer (some ⟨W.sz,0+1,none⟩)) W1=some (.slice a2 x.vals.length cap2):=fun W1 k1=>ld_word a40 (a:=⟨W.sz,0+1,none⟩) (k1.cell t0 hB1)
  rw [hl3,hl1 W0 (.refl _)]
  simp only [wV_some,clen_sl u40,cbin_neq,cbin_gtr,cbin_eql]
  refine wI_bool (fun he=>?_) (fun he=>?_)
  ·have he':c[i].elem≠0:=by simpa using he
   refine wI_bool (fun hg=>?_) (fun hg=>?_)
   ·refine ⟨by simp only [hl3,and_self],trivial,leaf true _ W0 (.refl _) t0 ?_ (fun _=>hbad ?_) (fun h=>by cases h)⟩
    ·simp only [eKc,eKn,eKa,Nat.reduceEqDiff,↓reduceIte,List.getElem?_cons_zero,List.getElem?_cons_succ,Option.getD_some,and_self]
    ·unfold manyOk
     rw [if_pos he']
     have:=of_decide_eq_true hg
     exact decide_eq_false (by omega)
   ·have he0:(c[i].elem == 0)=false:=by simpa using he'
    rw [he0]
    simp only [wI_false]
    refine ⟨by simp only [hl3,and_self],trivial,leaf false _ W0 (.refl _) t0 ?_ (fun h=>by cases h) (fun _=>⟨i,?_,hi,_,hs,?_⟩)⟩
    ·simp only [eKc,eKn,eKa,Nat.reduceEqDiff,↓reduceIte,List.getElem?_cons_zero,List.getElem?_cons_succ,Option.getD_some,and_self]
    ·simp only [eKc,eKn,eKa,Nat.reduceEqDiff,↓reduceIte,List.getElem?_cons_zero,List.getElem?_cons_succ,Option.getD_some,and_self]
    ·unfold manyOk
     rw [if_pos he']
     have:=of_decide_eq_false hg
     exact decide_eq_true (by omega)
  ·have he':c[i].elem=0:=by simpa using he
   have he0:(c[i].elem == 0)=true:=by simp [he']
   rw [he0]
   simp only [wI_true]
   have hc0':IsSl 5 (RShp W0) (.slice (some p) c.length cap) c:=⟨_,_,rfl,hcell⟩
   refine (row_ok t0 hc0' hlen hf hic).mono fun en W1 ⟨k1,t1,vo,hen,ho,hn⟩=>?_
   subst hen
   have hkl:(kinds8 (rowP c i)).length=(rowP c i).length*1:=by simp [kinds8]
   simp only [onEnd,ownLen u29 ho (by omega) hkl,wV_some,cbin_neq]
   refine ⟨by simp only [hl3,hl1 _ k1,and_self],trivial,leaf (((x.vals.length:Int) != ((rowP c i).length:Nat))) _ W1 k1 t1 ?_ (fun h=>hbad ?_) (fun h=>⟨i,?_,hi,_,hs,?_⟩)⟩
   ·simp only [eKc,eKn,eKa,Nat.reduceEqDiff,↓reduceIte,List.getElem?_cons_zero,List.getElem?_cons_succ,Option.getD_some,and_self]
   ·unfold manyOk
    rw [if_neg (by simp [he'])]
    have:(x.vals.length:Int)≠(rowP c i).length:=by simpa using h
    exact decide_eq_false (by omega)
   ·simp only [eKc,eKn,eKa,Nat.reduceEqDiff,↓reduceIte,List.getElem?_cons_zero,List.getElem?_cons_succ,Option.getD_some,and_self]
   ·unfold manyOk
    rw [if_neg (by simp [he'])]
    have:(x.vals.length:Int)=(rowP c i).length:=by simpa using h
    exact decide_eq_true (by omega)
end Go.Ce
namespace Go.Ce
open Go Go.Proofs Go.Proofs.Tryz
theorem things_ok {v0 v1:Value} {c:List Shp} {h:List Thg} {W:CW} (ht:Top W) (hc:IsSl 5 (RShp W) v0 c) (hlen:c.length<200) (hf:∀ x,x ∈ c→x.fields.length≤100) (hh:IsSl 2 (RThg W) v1 h) (hhl:h.length<100000) (hv:∀ x,x ∈ h→x.vals.length<1000000) :
  WCall prog pkL 94 [v0,v1] W (Ret (.int .i64 (thingsI c h)) W):=by
 refine f94_w ?_
 rw [f94_c]
 obtain ⟨a,cap,rfl,hcell⟩:=hh
 simp only [clen_sl u24,wV_some,cbin_gtr]
 unfold thingsI
 refine wI_bool (fun hg=>?_) (fun hg=>?_)
 ·rw [f94_leave]
  rw [if_pos (by have:=of_decide_eq_true hg; omega)]
  exact ⟨by simp only [eKc,eKn,eKa,Nat.reduceEqDiff,↓reduceIte,gKz,gKs,dKs,and_self],.refl _,ht⟩
 ·rw [if_neg (by have:=of_decide_eq_false hg; omega)]
  refine w_loop (fun k e ds W'=>ds=[]∧∃ j:Nat,Kp W W'∧Top W'∧e 0=v0∧e 1=.slice a h.length cap∧e 5=.int .i64 j∧j≤h.length∧k=h.length-j∧∀ m x,m<j→h[m]?=some x→(!thingOk c x h.length)=false) h.length ⟨rfl,0,.refl _,ht,rfl,rfl,rfl,by omega,by omega,by omega⟩ ?_
  rintro k e ds W' ⟨rfl,j,k',t',h0,h1,h5,hj,rfl,hpre⟩
  rw [f94_l0,h0,h1,h5]
  simp only [clen_sl u24,wV_some,cbin_lss]
  refine wI_bool (fun hlt=>?_) (fun hlt=>?_)
  ·have hlt:j<h.length:=by simpa using hlt
   have hx:=List.getElem?_eq_getElem hlt
   obtain ⟨p,rfl,hr⟩:=hcell j _ hx
   obtain ⟨u,hu,ha⟩:=(hr.kp ht k').ld
   rw [iad_sl u24 s56 hlt]
   simp only [wV_some,hu]
   refine w_ret (thing_ok t' (hc.imp fun _ _ _ hr=>hr.kp ht k') hlen hf ha (hv _ (List.getElem_mem _)) (by omega)) fun W1 k1 t1=>?_
   simp only [ngt_bool,wV_some]
   refine wI_bool (fun hb=>?_) (fun hb=>?_)
   ·simp only [f94_k1,qKn,qKr,qKx,qKp,bKn,bKr,bKp,bKx,tKn,tKr,tKx,tKp,zKn,zKr,zKx,zKp,f94_k0,f94_leave]
    refine ⟨?_,k'.trans k1,t1⟩
    simp only [eKc,eKn,eKa,Nat.reduceEqDiff,↓reduceIte,gKz,gKs,dKs,and_self,idxI_some hlt hb hpre]
   ·simp only [f94_k1,qKn,qKr,qKx,qKp,bKn,bKr,bKp,bKx,tKn,tKr,tKx,tKp,zKn,zKr,zKx,zKp,h5]
    simp only [eKc,eKn,eKa,Nat.reduceEqDiff,↓reduceIte,gKz,gKs,dKs,and_self,h0,h1,h5,cbin_add,wV_some]
    refine ⟨h.length-(j+1),by omega,trivial,j+1,k'.trans k1,t1,trivial,trivial,?_,hlt,rfl,fun m x hm hx'=>?_⟩
    ·rw [wrap64 (by omega) (by omega)]; rfl
    ·rcases Nat.lt_succ_iff_lt_or_eq.1 hm with h2 | rfl
     ·exact hpre m x h2 hx'
     ·rw [hx] at hx'; cases hx'; exact hb
  ·have hge:j=h.length:=by have:¬j<h.length:=(by simpa using hlt); omega
   subst hge
   simp only [qKn,qKr,qKx,qKp,bKn,bKr,bKp,bKx,tKn,tKr,tKx,tKp,zKn,zKr,zKx,zKp,if_true,f94_k0,f94_leave]
   refine ⟨?_,k',t'⟩
   simp only [eKc,eKn,eKa,Nat.reduceEqDiff,↓reduceIte,gKz,gKs,dKs,and_self,idxI_none fun j x hj hx=>hpre j x (by omega) hx]
end Go.Ce
namespace Go.Ce
open Go Go.Proofs Go.Proofs.Tryz
def mapDup (mp:List Int) (k:Nat) (n:Int):Bool:=anyTo k fun m=>decide (mp[m]?=some n)
def mapBad (fr to:List Int) (mp:List Int) (k:Nat):Bool:=match mp[k]? with
 | none=>true
 | some n=>decide (n<0) || decide (n≥fr.length) || decide (fr[n.toNat]?≠to[k]?) || mapDup mp k n
def nameBad (l:List Spc) (s:Spc) (i k:Nat):Bool:=match l[k]? with
 | none=>false
 | some x=>decide (x.type=s.to) || (decide (k<i) && decide (x.to=s.to))
def elemAt (c:List Shp) (t:Nat):Int:=match c[t]? with
 | some x=>x.elem
 | none=>0
def prevBad (l:List Spc) (s:Spc):Nat→Bool
 | 0=>false
 | i+1=>match l[i]? with
  | some x=>!bLt (sb x.type) (sb s.type)
  | none=>false
def spcBad (c:List Shp) (l:List Spc) (i:Nat):Bool:=match l[i]? with
 | none=>true
 | some s=>match shpI c s.type,shpI c s.to with
  | some t,some a=>(decide (elemAt c t≠0) || decide (elemAt c a≠0) || prevBad l s i) || (anyTo l.length (nameBad l s i) || (decide (s.map.length≠(rowP c a).length) || anyTo (rowP c a).length (mapBad (rowP c t) (rowP c a) s.map)))
  | _,_=>true
def specOk (c:List Shp) (l:List Spc):Bool:=decide (l.length≤20) && !anyTo l.length (spcBad c l)
theorem fad58_w (W:CW) {b o:Nat} {x:Spc} (h:RSpc W b o x):ld prog 9 (.pointer (some ⟨b,o,none⟩)) W=some (.string x.type)∧ld prog 9 (.pointer (some ⟨b,o+1,none⟩)) W=some (.string x.to) :=
 ⟨ld_word a9 (a:=⟨b,o,none⟩) h.type,ld_word a9 (a:=⟨b,o+1,none⟩) h.to⟩
theorem rspc_map {W:CW} {b o:Nat} {x:Spc} (h:RSpc W b o x):∃ v,ld prog 40 (.pointer (some ⟨b,o+2,none⟩)) W=some v∧IsSl 1 (RInt W) v x.map:=by
 obtain ⟨v,h1,h2,_⟩:=h.map
 exact ⟨v,ld_word a40 (a:=⟨b,o+2,none⟩) h1,h2⟩
theorem f99_dup {ro:Option Nat} {e:Env} {ds:List Deferred} {W:CW} {K:Kont} {v1:Value} {l:List Spc} {i k:Nat} {s:Spc} {n:Int} (hl:IsSl 3 (RSpc W) v1 l) (hs:l[i]?=some s) (h1:e 1=v1) (h5:e 5=.int .i64 i) (h11:e 11=.int .i64 k) (h12:e 12=.int .i64 n) (hk:k≤s.map.length) (hkb:k<100000)
  (hyes:mapDup s.map k n=true→∀ e',e' 4=.bool false→K .ret e' ds W) (hno:mapDup s.map k n=false→∀ e',Agree [0,1,5,6,7,8,9,10,11] e e'→K (.exit 6) e' ds W) :
  WEnv prog pkL ro 99 175 (.loop (loopAt prog 99 3)) (Env.of e [(13,.int .i64 0)]) ds W K:=by
 refine w_for (fun m e' ds' W'=>ds'=ds∧W'=W∧Agree [0,1,5,6,7,8,9,10,11,12] e e'∧e' 13=.int .i64 m∧∀ j,j<m→decide (s.map[j]?=some n)=false) k ⟨rfl,rfl,.put rfl,rfl,by omega⟩ ?_
 rintro m e' ds' W' hm ⟨rfl,rfl,hA,h13,hpre⟩
 rw [f99_l3,h13,(hA 11 (by decide)).trans h11,(hA 1 (by decide)).trans h1,(hA 5 (by decide)).trans h5,(hA 12 (by decide)).trans h12]
 simp only [cbin_lss,wV_some]
 refine w_lt (fun hlt=>?_) (fun hge=>?_)
 ·obtain ⟨a,cap,rfl,hcell⟩:=hl
  obtain ⟨p,rfl,hr⟩:=hcell i _ hs
  obtain ⟨vm,hvm,a2,cap2,rfl,hmap⟩:=rspc_map hr
  have hlm:m<s.map.length:=by omega
  have hx:=List.getElem?_eq_getElem hlm
  obtain ⟨q,rfl,hq⟩:=hmap m _ hx
  rw [iad_sl u23 s58 (List.getElem?_eq_some_iff.1 hs).1]
  simp only [wV_some,fad58_2,hvm]
  rw [iad_sl u40 s3 hlm]
  simp only [wV_some]
  rw [ld_word a3 (a:=⟨q.block,q.off+m*1,none⟩) hq.1]
  simp only [wV_some,cbin_eql]
  refine wI_bool (fun hb=>?_) (fun hb=>?_)
  ·simp only [f99_k18,qKn,qKr,qKx,qKp,bKn,bKr,bKp,bKx,tKn,tKr,tKx,tKp,zKn,zKr,zKx,zKp]
   exact hyes (anyTo_true hlt (by rw [hx]; simpa using hb)) _ (by simp only [eKc,eKn,eKa,Nat.reduceEqDiff,↓reduceIte,gKz,gKs,dKs,and_self])
  ·simp only [f99_k18,qKn,qKr,qKx,qKp,bKn,bKr,bKp,bKx,tKn,tKr,tKx,tKp,zKn,zKr,zKx,zKp]
   simp only [eKc,eKn,eKa,Nat.reduceEqDiff,↓reduceIte,gKz,gKs,dKs,and_self,h13,cbin_add,wV_some,qKn,qKr,qKx,qKp,bKn,bKr,bKp,bKx,tKn,tKr,tKx,tKp,zKn,zKr,zKx,zKp]
   refine ⟨hlt,trivial,trivial,(hA.trans (.put rfl)).trans (.put rfl),by rw [inc64 (by omega)],pre_succ hpre ?_⟩
   rw [hx]; simpa using hb
 ·simp only [qKn,qKr,qKx,qKp,bKn,bKr,bKp,bKx,tKn,tKr,tKx,tKp,zKn,zKr,zKx,zKp]
  exact hno (anyTo_false fun j hj=>hpre j (by omega)) _ fun t ht=>(Agree.put rfl t (by exact ht)).trans (hA t (by revert t; decide))
theorem f99_names {ro:Option Nat} {e:Env} {ds:List Deferred} {W:CW} {K:Kont} {v1:Value} {l:List Spc} {i:Nat} {s:Spc} (hl:IsSl 3 (RSpc W) v1 l) (hs:l[i]?=some s) (h1:e 1=v1) (h5:e 5=.int .i64 i) (hlb:l.length<100000)
  (hyes:anyTo l.length (nameBad l s i)=true→∀ e',e' 4=.bool false→K .ret e' ds W) (hno:anyTo l.length (nameBad l s i)=false→∀ e',Agree [0,1,5,6,7] e e'→K (.exit 2) e' ds W) :
  WEnv prog pkL ro 99 175 (.loop (loopAt prog 99 1)) (Env.of e [(8,.int .i64 0)]) ds W K:=by
 refine w_for (fun m e' ds' W'=>ds'=ds∧W'=W∧Agree [0,1,5,6,7] e e'∧e' 8=.int .i64 m∧∀ j,j<m→nameBad l s i j=false) l.length ⟨rfl,rfl,.put rfl,rfl,by omega⟩ ?_
 rintro m e' ds' W' hm ⟨rfl,rfl,hA,h8,hpre⟩
 obtain ⟨a,cap,rfl,hcell⟩:=hl
 rw [f99_l1,h8,(hA 1 (by decide)).trans h1,(hA 5 (by decide)).trans h5]
 simp only [clen_sl u23,cbin_lss,wV_some]
 have hil:=(List.getElem?_eq_some_iff.1 hs).1
 refine w_lt (fun hlt=>?_) (fun hge=>?_)
 ·obtain ⟨p,rfl,hr⟩:=hcell i _ hs
  have hx:=List.getElem?_eq_getElem hlt
  obtain ⟨p',hp',hrm⟩:=hcell m _ hx
  cases hp'
  have hnb:nameBad l s i m=(decide (l[m].type=s.to) || (decide (m<i) && decide (l[m].to=s.to))):=by unfold nameBad; rw [hx]
  rw [iad_sl u23 s58 hil,iad_sl u23 s58 hlt]
  obtain ⟨r1,r2⟩:=fad58_w _ hr
  obtain ⟨r3,r4⟩:=fad58_w _ hrm
  simp only [wV_some,fad58_0,fad58_1,r1,r2,r3,r4,cbin_seql,bEq_dec]
  have leaf:∀ (b:Bool) (e1:Env),Agree [0,1,5,6,7,8] e' e1→e1 111=.bool b→b=nameBad l s i m→(f99_k14 ro (forK (fun m e' ds'' W''=>ds''=ds'∧W''=W'∧Agree [0,1,5,6,7] e e'∧e' 8=.int .i64 m∧∀ j,j<m→nameBad l s i j=false) m l.length K)) .normal e1 ds' W':=by
   intro b e1 hA1 h111 hb
   simp only [f99_k14,qKn,qKr,qKx,qKp,bKn,bKr,bKp,bKx,tKn,tKr,tKx,tKp,zKn,zKr,zKx,zKp,h111]
   refine wI_bool (fun hbb=>?_) (fun hbb=>?_)
   ·simp only [f99_k13,qKn,qKr,qKx,qKp,bKn,bKr,bKp,bKx,tKn,tKr,tKx,tKp,zKn,zKr,zKx,zKp]
    exact hyes (anyTo_true hlt (by rw [←hb,hbb])) _ (by simp only [eKc,eKn,eKa,Nat.reduceEqDiff,↓reduceIte,gKz,gKs,dKs,and_self])
   ·simp only [f99_k13,qKn,qKr,qKx,qKp,bKn,bKr,bKp,bKx,tKn,tKr,tKx,tKp,zKn,zKr,zKx,zKp,(hA1 8 (by decide)).trans h8,cbin_add,wV_some]
    refine ⟨hlt,trivial,trivial,(hA.trans fun t ht=>hA1 t (by revert t; decide)).trans (.put rfl),?_,pre_succ hpre (by rw [←hb,hbb])⟩
    simp only [eKc,eKn,eKa,Nat.reduceEqDiff,↓reduceIte,gKz,gKs,dKs,and_self]
    rw [inc64 (by omega)]
  refine wI_bool (fun hb=>?_) (fun hb=>?_)
  ·exact ⟨by simp only [and_self],trivial,leaf true _ (.put rfl) (by simp only [eKc,eKn,eKa,Nat.reduceEqDiff,↓reduceIte,gKz,gKs,dKs,and_self]) (by rw [hnb,hb]; rfl)⟩
  ·refine w_lt (fun hlt2=>?_) (fun hge2=>?_)
   ·exact ⟨by simp only [and_self],trivial,leaf (decide (l[m].to=s.to)) _ (.put rfl) (by simp only [eKc,eKn,eKa,Nat.reduceEqDiff,↓reduceIte,gKz,gKs,dKs,and_self]) (by rw [hnb,hb,decide_eq_true hlt2]; rfl)⟩
   ·exact ⟨by simp only [and_self],trivial,leaf false _ (.put rfl) (by simp only [eKc,eKn,eKa,Nat.reduceEqDiff,↓reduceIte,gKz,gKs,dKs,and_self]) (by rw [hnb,hb,decide_eq_false (by omega)]; rfl)⟩
 ·simp only [qKn,qKr,qKx,qKp,bKn,bKr,bKp,bKx,tKn,tKr,tKx,tKp,zKn,zKr,zKx,zKp]
  exact hno (anyTo_false fun j hj=>hpre j (by omega)) _ (hA.trans (.put rfl))
def RKd (W:CW) (b o:Nat) (x:Int):Prop:=W.cell b o=some (.int .u8 x)
theorem f99_map {ro:Option Nat} {e:Env} {ds:List Deferred} {W:CW} {K:Kont} {v1 vf vt:Value} {l:List Spc} {i:Nat} {s:Spc} {fr to:List Int} (hl:IsSl 3 (RSpc W) v1 l) (hs:l[i]?=some s) (h1:e 1=v1) (h5:e 5=.int .i64 i) (h9:e 9=vf) (h10:e 10=vt) (hf:IsSl 1 (RKd W) vf fr) (ht:IsSl 1 (RKd W) vt to) (hmt:s.map.length=to.length) (hlb:to.length<100000)
  (hyes:anyTo to.length (mapBad fr to s.map)=true→∀ e',e' 4=.bool false→K .ret e' ds W) (hno:anyTo to.length (mapBad fr to s.map)=false→∀ e',Agree [0,1,5] e e'→K (.exit 4) e' ds W) :
  WEnv prog pkL ro 99 175 (.loop (loopAt prog 99 2)) (Env.of e [(11,.int .i64 0)]) ds W K:=by
 refine w_for (fun m e' ds' W'=>ds'=ds∧W'=W∧Agree [0,1,5,9,10] e e'∧e' 11=.int .i64 m∧∀ j,j<m→mapBad fr to s.map j=false) to.length ⟨rfl,rfl,.put rfl,rfl,by omega⟩ ?_
 rintro m e' ds' W' hm ⟨rfl,rfl,hA,h11,hpre⟩
 have hl2:=hl
 obtain ⟨a,cap,rfl,hcell⟩:=hl2
 obtain ⟨af,capf,rfl,hfc⟩:=hf
 obtain ⟨at',capt,rfl,htc⟩:=ht
 have g1:=(hA 1 (by decide)).trans h1
 have g5:=(hA 5 (by decide)).trans h5
 rw [f99_l2,h11,g1,g5,(hA 9 (by decide)).trans h9,(hA 10 (by decide)).trans h10]
 simp only [clen_sl u29,cbin_lss,wV_some]
 have hil:=(List.getElem?_eq_some_iff.1 hs).1
 refine w_lt (fun hlt=>?_) (fun hge=>?_)
 ·obtain ⟨p,rfl,hr⟩:=hcell i _ hs
  obtain ⟨vm,hvm,a2,cap2,rfl,hmap⟩:=rspc_map hr
  have hlm:m<s.map.length:=by omega
  have hx:=List.getElem?_eq_getElem hlm
  have hxt:=List.getElem?_eq_getElem hlt
  obtain ⟨q,rfl,hq⟩:=hmap m _ hx
  obtain ⟨qt,rfl,hqt⟩:=htc m _ hxt
  rw [iad_sl u23 s58 hil]
  simp only [wV_some,fad58_2,hvm]
  rw [iad_sl u40 s3 hlm]
  simp only [wV_some]
  rw [ld_word a3 (a:=⟨q.block,q.off+m*1,none⟩) hq.1]
  simp only [wV_some,cbin_lss,cbin_geq]
  have hmb:mapBad fr to s.map m=(decide (s.map[m]<0) || decide (s.map[m]≥fr.length) || decide (fr[s.map[m].toNat]?≠to[m]?) || mapDup s.map m s.map[m]):=by unfold mapBad; rw [hx]
  have leaf:∀ (b:Bool) (e1:Env),Agree [0,1,5,9,10,11] e' e1→e1 159=.bool b→e1 12=.int .i64 s.map[m]→(b=true→mapBad fr to s.map m=true)→(b=false→mapBad fr to s.map m=mapDup s.map m s.map[m])→(f99_k17 ro (forK (fun m e' ds'' W''=>ds''=ds'∧W''=W'∧Agree [0,1,5,9,10] e e'∧e' 11=.int .i64 m∧∀ j,j<m→mapBad fr to s.map j=false) m to.length K)) .normal e1 ds' W':=by
   intro b e1 hA1 h159 h12 hbt hbf
   simp only [f99_k17,qKn,qKr,qKx,qKp,bKn,bKr,bKp,bKx,tKn,tKr,tKx,tKp,zKn,zKr,zKx,zKp,h159]
   refine wI_bool (fun hbb=>?_) (fun hbb=>?_)
   ·simp only [f99_k16,qKn,qKr,qKx,qKp,bKn,bKr,bKp,bKx,tKn,tKr,tKx,tKp,zKn,zKr,zKx,zKp]
    exact hyes (anyTo_true hlt (hbt hbb)) _ (by simp only [eKc,eKn,eKa,Nat.reduceEqDiff,↓reduceIte,gKz,gKs,dKs,and_self])
   ·simp only [f99_k16,qKn,qKr,qKx,qKp,bKn,bKr,bKp,bKx,tKn,tKr,tKx,tKp,zKn,zKr,zKx,zKp]
    have hdup:=hbf hbb
    refine f99_dup hl hs ((hA1 1 (by decide)).trans g1) ((hA1 5 (by decide)).trans g5) ((hA1 11 (by decide)).trans h11) h12 (by omega) (by omega) (fun hd e2 h4=>?_) (fun hd e2 hA2=>?_)
    ·simp only [qKn,qKr,qKx,qKp,bKn,bKr,bKp,bKx,tKn,tKr,tKx,tKp,zKn,zKr,zKx,zKp,f99_k15]
     exact hyes (anyTo_true hlt (by rw [hdup,hd])) _ h4
    ·simp only [qKn,qKr,qKx,qKp,bKn,bKr,bKp,bKx,tKn,tKr,tKx,tKp,zKn,zKr,zKx,zKp,if_true,f99_k15,(hA2 11 (by decide)).trans ((hA1 11 (by decide)).trans h11),cbin_add,wV_some]
     refine ⟨hlt,trivial,trivial,((hA.trans fun t ht=>hA1 t (by revert t; decide)).trans fun t ht=>hA2 t (by revert t; decide)).trans (.put rfl),?_,pre_succ hpre (by rw [hdup,hd])⟩
     simp only [eKc,eKn,eKa,Nat.reduceEqDiff,↓reduceIte,gKz,gKs,dKs,and_self]
     rw [inc64 (by omega)]
  refine wI_bool (fun hb=>?_) (fun hb=>?_)
  ·exact ⟨by trivial,trivial,leaf true _ (.put rfl) (by simp only [eKc,eKn,eKa,Nat.reduceEqDiff,↓reduceIte,gKz,gKs,dKs,and_self]) (by simp only [eKc,eKn,eKa,Nat.reduceEqDiff,↓reduceIte,gKz,gKs,dKs,and_self]) (fun _=>by rw [hmb,hb]; rfl) (fun h=>by cases h)⟩
  ·have hb':=of_decide_eq_false hb
   refine wI_bool (fun hb2=>?_) (fun hb2=>?_)
   ·exact ⟨by simp only [and_self],trivial,leaf true _ (.put rfl) (by simp only [eKc,eKn,eKa,Nat.reduceEqDiff,↓reduceIte,gKz,gKs,dKs,and_self]) (by simp only [eKc,eKn,eKa,Nat.reduceEqDiff,↓reduceIte,gKz,gKs,dKs,and_self]) (fun _=>by rw [hmb,hb,hb2]; rfl) (fun h=>by cases h)⟩
   ·have hb2':=of_decide_eq_false hb2
    have hn:s.map[m].toNat<fr.length:=by omega
    have hxf:=List.getElem?_eq_getElem hn
    obtain ⟨qf,rfl,hqf⟩:=hfc _ _ hxf
    have e1:(Value.int IntKind.i64 s.map[m])=.int .i64 ((s.map[m].toNat:Nat):Int):=by rw [Int.toNat_of_nonneg (by omega)]
    have hk1:iad prog 29 (.slice (some qf) fr.length capf) (.int .i64 s.map[m])=some (.pointer (some ⟨qf.block,qf.off+s.map[m].toNat*1,none⟩)):=by rw [e1]; exact iad_sl u29 s5 hn
    rw [hk1]
    simp only [wV_some]
    rw [ld_word a5 (a:=⟨qf.block,qf.off+s.map[m].toNat*1,none⟩) hqf,iad_sl u29 s5 hlt]
    simp only [wV_some]
    rw [ld_word a5 (a:=⟨qt.block,qt.off+m*1,none⟩) hqt]
    simp only [wV_some,cbin_neq]
    refine ⟨by simp only [and_self],trivial,leaf (fr[s.map[m].toNat] != to[m]) _ (.put rfl) (by simp only [eKc,eKn,eKa,Nat.reduceEqDiff,↓reduceIte,gKz,gKs,dKs,and_self]) (by simp only [eKc,eKn,eKa,Nat.reduceEqDiff,↓reduceIte,gKz,gKs,dKs,and_self]) (fun h=>?_) (fun h=>?_)⟩
    ·have h:fr[s.map[m].toNat]≠to[m]:=by simpa using h
     rw [hmb,hxf,hxt,decide_eq_true (show some fr[s.map[m].toNat]≠some to[m] by simpa using h)]
     simp
    ·have h:fr[s.map[m].toNat]=to[m]:=by simpa using h
     rw [hmb,hb,hb2,hxf,hxt,decide_eq_false (show ¬some fr[s.map[m].toNat]≠some to[m] by simp [h])]
     rfl
 ·simp only [qKn,qKr,qKx,qKp,bKn,bKr,bKp,bKx,tKn,tKr,tKx,tKp,zKn,zKr,zKx,zKp]
  exact hno (anyTo_false fun j hj=>hpre j (by omega)) _ (fun t ht=>(Agree.put rfl t (by exact ht)).trans (hA t (by revert t; decide)))
end Go.Ce
namespace Go.Ce
open Go Go.Proofs Go.Proofs.Tryz
theorem specials_ok {v0 v1:Value} {c:List Shp} {l:List Spc} {W:CW} (ht:Top W) (hc:IsSl 5 (RShp W) v0 c) (hlen:c.length<200) (hf:∀ x,x ∈ c→x.fields.length≤100) (hl:IsSl 3 (RSpc W) v1 l) (hll:l.length<100000) :
  WCall prog pkL 99 [v0,v1] W (Ret (.bool (specOk c l)) W):=by
 refine f99_w ?_
 rw [f99_c]
 have hl0:=hl
 obtain ⟨a,cap,rfl,_⟩:=hl0
 simp only [clen_sl u23,wV_some,cbin_gtr]
 generalize hKK:wLeave prog Tryz.f99 (Ret (.bool (specOk c l)) W)=K
 have hret:∀ (b:Bool) (e:Env) W',Kp W W'→Top W'→e 4=.bool b→b=specOk c l→K .ret e [] W':=by
  intro b e W' k t h6 hb
  rw [←hKK,f99_leave,h6,hb]
  exact ⟨rfl,k,t⟩
 refine wI_bool (fun hg=>?_) (fun hg=>?_)
 ·refine hret false _ _ (.refl _) ht (by simp only [eKc,eKn,eKa,Nat.reduceEqDiff,↓reduceIte,gKz,gKs,dKs,and_self]) ?_
  have:=of_decide_eq_true hg
  unfold specOk
  rw [decide_eq_false (by omega)]; rfl
 ·have hg:=of_decide_eq_false hg
  have hsp:specOk c l=!anyTo l.length (spcBad c l):=by
   unfold specOk
   rw [decide_eq_true (by omega)]; rfl
  refine w_for (fun i e ds W'=>ds=[]∧Kp W W'∧Top W'∧e 0=v0∧e 1=.slice a l.length cap∧e 5=.int .i64 i∧∀ j,j<i→spcBad c l j=false) l.length ⟨rfl,.refl _,ht,rfl,rfl,rfl,by omega⟩ ?_
  rintro i e ds W' hi ⟨rfl,k',t',h0,h1,h5,hpre⟩
  have hl':IsSl 3 (RSpc W') (.slice a l.length cap) l:=hl.imp fun _ _ _ hr=>hr.kp ht k'
  have hc':IsSl 5 (RShp W') v0 c:=hc.imp fun _ _ _ hr=>hr.kp ht k'
  rw [f99_l0,h0,h1,h5]
  simp only [clen_sl u23,wV_some,cbin_lss]
  refine w_lt (fun hlt=>?_) (fun hge=>?_)
  ·have hx:=List.getElem?_eq_getElem hlt
   have hl2:=hl'
   obtain ⟨a',cap',ha,hcell⟩:=hl2
   cases ha
   obtain ⟨p,rfl,hr⟩:=hcell i _ hx
   obtain ⟨r1,r2⟩:=fad58_w _ hr
   obtain ⟨vm,hvm,hmap⟩:=rspc_map hr
   rw [iad_sl u23 s58 hlt]
   simp only [wV_some,fad58_0,fad58_1,r1,r2]
   refine w_gives (find_ok hc' (by omega)) ?_
   simp only [wV_some,r2]
   refine w_gives (find_ok hc' (by omega)) ?_
   have htrue:spcBad c l i=true→∀ e1 W1,Kp W W1→Top W1→e1 4=.bool false→K .ret e1 [] W1:=fun hb e1 W1 k1 t1 h4 =>
    hret false e1 W1 k1 t1 h4 (by rw [hsp,anyTo_true hlt hb]; rfl)
   have leaf:∀ (b:Bool) (e1:Env),Agree [0,1,5] e e1→e1 76=.bool b→(b=true→spcBad c l i=true) →
     (b=false→∃ t a,e1 6=.int .i64 (t:Nat)∧e1 7=.int .i64 (a:Nat)∧t<c.length∧a<c.length∧spcBad c l i=(anyTo l.length (nameBad l l[i] i) || (decide (l[i].map.length≠(rowP c a).length) || anyTo (rowP c a).length (mapBad (rowP c t) (rowP c a) l[i].map)))) →
     (f99_k12 none (forK (fun i e ds W'=>ds=[]∧Kp W W'∧Top W'∧e 0=v0∧e 1=.slice (some p) l.length cap∧e 5=.int .i64 i∧∀ j,j<i→spcBad c l j=false) i l.length (blkK 0 (f99_k0 none K)))) .normal e1 [] W':=by
    intro b e1 hA h76 hbt hbf
    simp only [f99_k12,qKn,qKr,qKx,qKp,bKn,bKr,bKp,bKx,tKn,tKr,tKx,tKp,zKn,zKr,zKx,zKp,h76]
    refine wI_bool (fun hb=>?_) (fun hb=>?_)
    ·simp only [f99_k11,qKn,qKr,qKx,qKp,bKn,bKr,bKp,bKx,tKn,tKr,tKx,tKp,zKn,zKr,zKx,zKp,f99_k1,f99_k0]
     exact htrue (hbt hb) _ W' k' t' (by simp only [eKc,eKn,eKa,Nat.reduceEqDiff,↓reduceIte,gKz,gKs,dKs,and_self])
    ·obtain ⟨t,aa,h6,h7,htl,hal,hbad⟩:=hbf hb
     have g0:=(hA 0 (by decide)).trans h0
     have g1:=(hA 1 (by decide)).trans h1
     have g5:=(hA 5 (by decide)).trans h5
     simp only [f99_k11,qKn,qKr,qKx,qKp,bKn,bKr,bKp,bKx,tKn,tKr,tKx,tKp,zKn,zKr,zKx,zKp]
     refine f99_names hl' hx g1 g5 (by omega) (fun hn e2 h4=>?_) (fun hn e2 hA2=>?_)
     ·simp only [qKn,qKr,qKx,qKp,bKn,bKr,bKp,bKx,tKn,tKr,tKx,tKp,zKn,zKr,zKx,zKp,f99_k10,f99_k1,f99_k0]
      exact htrue (by rw [hbad,hn]; rfl) _ W' k' t' h4
     ·have g0:=(hA2 0 (by decide)).trans g0
      have g1:=(hA2 1 (by decide)).trans g1
      have g5:=(hA2 5 (by decide)).trans g5
      simp only [qKn,qKr,qKx,qKp,bKn,bKr,bKp,bKx,tKn,tKr,tKx,tKp,zKn,zKr,zKx,zKp,if_true,f99_k10,g0,g1,g5,(hA2 6 (by decide)).trans h6,(hA2 7 (by decide)).trans h7]
      refine (row_ok t' hc' hlen hf htl).mono fun en W6 ⟨k6,t6,vf,hen,hof,hnf⟩=>?_
      subst hen
      simp only [onEnd]
      refine (row_ok t6 (hc'.imp fun _ _ _ hr=>hr.kp t' k6) hlen hf hal).mono fun en W8 ⟨k8,t8,vt,hen,hot,hnt⟩=>?_
      subst hen
      simp only [onEnd]
      have k68:=k6.trans k8
      have hl8:IsSl 3 (RSpc W8) (.slice (some p) l.length cap) l:=hl'.imp fun _ _ _ hr=>hr.kp t' k68
      have hof8:IsSl 1 (RKd W8) vf (rowP c t):=ownMap (hof.kp t6 k8)
      have hot8:IsSl 1 (RKd W8) vt (rowP c aa):=ownMap hot
      have hr8:=hr.kp t' k68
      obtain ⟨vm8,hvm8,hmap8⟩:=rspc_map hr8
      obtain ⟨am,capm,rfl,_⟩:=hmap8
      rw [iad_sl u23 s58 hlt]
      simp only [wV_some,fad58_2,hvm8,clen_sl u40]
      have hkl:(kinds8 (rowP c aa)).length=(rowP c aa).length*1:=by simp [kinds8]
      simp only [ownLen u29 hot (by omega) hkl,wV_some,cbin_neq]
      refine wI_bool (fun hd=>?_) (fun hd=>?_)
      ·simp only [qKn,qKr,qKx,qKp,bKn,bKr,bKp,bKx,tKn,tKr,tKx,tKp,zKn,zKr,zKx,zKp,f99_k1,f99_k0]
       refine htrue ?_ _ W8 (k'.trans k68) t8 (by simp only [eKc,eKn,eKa,Nat.reduceEqDiff,↓reduceIte,gKz,gKs,dKs,and_self])
       have:(l[i].map.length:Int)≠(rowP c aa).length:=by simpa using hd
       rw [hbad,hn,decide_eq_true (by omega)]; rfl
      ·have hd:(l[i].map.length:Int)=(rowP c aa).length:=by simpa using hd
       have hd:l[i].map.length=(rowP c aa).length:=by omega
       have hrl:(rowP c aa).length≤20100:=by unfold rowP; rw [List.length_map]; exact fieldsP_len hlen hf aa
       refine f99_map hl8 hx g1 g5 rfl rfl hof8 hot8 hd (by omega) (fun hm e3 h4=>?_) (fun hm e3 hA3=>?_)
       ·simp only [qKn,qKr,qKx,qKp,bKn,bKr,bKp,bKx,tKn,tKr,tKx,tKp,zKn,zKr,zKx,zKp,f99_k1,f99_k0]
        exact htrue (by rw [hbad,hn,hd,hm]; simp) _ W8 (k'.trans k68) t8 h4
       ·have q0:e3 0=v0:=(hA3 0 (by decide)).trans g0
        have q1:e3 1=.slice (some p) l.length cap:=(hA3 1 (by decide)).trans g1
        have q5:e3 5=.int .i64 i:=(hA3 5 (by decide)).trans g5
        simp only [qKn,qKr,qKx,qKp,bKn,bKr,bKp,bKx,tKn,tKr,tKx,tKp,zKn,zKr,zKx,zKp,if_true,f99_k1,q5,cbin_add,wV_some]
        refine ⟨hlt,trivial,k'.trans k68,t8,?_,?_,?_,pre_succ hpre (by rw [hbad,hn,hm,hd]; simp)⟩
        ·simp only [eKc,eKn,eKa,Nat.reduceEqDiff,↓reduceIte,gKz,gKs,dKs,and_self,q0]
        ·simp only [eKc,eKn,eKa,Nat.reduceEqDiff,↓reduceIte,gKz,gKs,dKs,and_self,q1]
        ·simp only [eKc,eKn,eKa,Nat.reduceEqDiff,↓reduceIte,gKz,gKs,dKs,and_self]; rw [inc64 (by omega)]
   have hspc:spcBad c l i=match shpI c l[i].type,shpI c l[i].to with
     | some t,some a=>(decide (elemAt c t≠0) || decide (elemAt c a≠0) || prevBad l l[i] i) || (anyTo l.length (nameBad l l[i] i) || (decide (l[i].map.length≠(rowP c a).length) || anyTo (rowP c a).length (mapBad (rowP c t) (rowP c a) l[i].map)))
     | _,_=>true:=by first | (unfold spcBad; rw [hx]; rfl) | (unfold spcBad; rw [hx])
   cases hti:shpI c l[i].type with
   | none =>
    rw [findI_none hti]
    simp only [cbin_lss,wV_some]
    refine wI_bool (fun h=>?_) (fun h=>by simp at h)
    exact ⟨trivial,trivial,leaf true _ (.put rfl) (by simp only [eKc,eKn,eKa,Nat.reduceEqDiff,↓reduceIte,gKz,gKs,dKs,and_self]) (fun _=>by rw [hspc,hti]) (fun h=>by cases h)⟩
   | some t =>
    have htl:=shpI_lt hti
    rw [findI_some hti]
    simp only [cbin_lss,wV_some]
    refine wI_bool (fun h=>by have:=of_decide_eq_true h; omega) (fun h=>?_)
    cases hai:shpI c l[i].to with
    | none =>
     rw [findI_none hai]
     refine wI_bool (fun h=>?_) (fun h=>by simp at h)
     exact ⟨trivial,trivial,leaf true _ (.put rfl) (by simp only [eKc,eKn,eKa,Nat.reduceEqDiff,↓reduceIte,gKz,gKs,dKs,and_self]) (fun _=>by rw [hspc,hti,hai]) (fun h=>by cases h)⟩
    | some aa =>
     have hal:=shpI_lt hai
     rw [findI_some hai]
     rw [hti,hai] at hspc
     simp only at hspc
     refine wI_bool (fun h=>by have:=of_decide_eq_true h; omega) (fun h=>?_)
     obtain ⟨ac,capc,rfl,hcc⟩:=hc'
     have hxt:=List.getElem?_eq_getElem htl
     have hxa:=List.getElem?_eq_getElem hal
     obtain ⟨pc,rfl,hpt⟩:=hcc t _ hxt
     obtain ⟨pc',hpc',hpa⟩:=hcc aa _ hxa
     cases hpc'
     have et:elemAt c t=c[t].elem:=by unfold elemAt; rw [hxt]
     have ea:elemAt c aa=c[aa].elem:=by unfold elemAt; rw [hxa]
     rw [et,ea] at hspc
     rw [iad_sl u22 s48 htl,iad_sl u22 s48 hal]
     simp only [wV_some,fad48_3]
     rw [ld_word a5 (a:=⟨pc.block,pc.off+t*5+3,none⟩) hpt.elem,ld_word a5 (a:=⟨pc.block,pc.off+aa*5+3,none⟩) hpa.elem]
     simp only [wV_some,cbin_neq,cbin_gtr]
     refine wI_bool (fun he=>?_) (fun he=>?_)
     ·have he:c[t].elem≠0:=by simpa using he
      exact ⟨by simp only [and_self],trivial,leaf true _ (.put rfl) (by simp only [eKc,eKn,eKa,Nat.reduceEqDiff,↓reduceIte,gKz,gKs,dKs,and_self]) (fun _=>by rw [hspc,decide_eq_true he]; rfl) (fun h=>by cases h)⟩
     ·have he:c[t].elem=0:=by simpa using he
      refine wI_bool (fun he2=>?_) (fun he2=>?_)
      ·have he2:c[aa].elem≠0:=by simpa using he2
       exact ⟨by simp only [and_self],trivial,leaf true _ (.put rfl) (by simp only [eKc,eKn,eKa,Nat.reduceEqDiff,↓reduceIte,gKz,gKs,dKs,and_self]) (fun _=>by rw [hspc,decide_eq_true he2]; simp) (fun h=>by cases h)⟩
      ·have he2:c[aa].elem=0:=by simpa using he2
       have hrest:∀ b,prevBad l l[i] i=b→b=false→spcBad c l i=(anyTo l.length (nameBad l l[i] i) || (decide (l[i].map.length≠(rowP c aa).length) || anyTo (rowP c aa).length (mapBad (rowP c t) (rowP c aa) l[i].map))):=by
        intro b h1 h2
        rw [hspc,h1,h2,decide_eq_false (by simpa using he),decide_eq_false (by simpa using he2)]; rfl
       cases i with
       | zero =>
        refine wI_bool (fun h=>by simp at h) (fun _=>?_)
        exact ⟨by simp only [and_self],trivial,leaf false _ (.put rfl) (by simp only [eKc,eKn,eKa,Nat.reduceEqDiff,↓reduceIte,gKz,gKs,dKs,and_self]) (fun h=>by cases h) (fun _=>⟨t,aa,by simp only [eKc,eKn,eKa,Nat.reduceEqDiff,↓reduceIte,gKz,gKs,dKs,and_self],by simp only [eKc,eKn,eKa,Nat.reduceEqDiff,↓reduceIte,gKz,gKs,dKs,and_self],htl,hal,hrest _ rfl rfl⟩)⟩
       | succ i =>
        refine wI_bool (fun _=>?_) (fun h=>by have:=of_decide_eq_false h; omega)
        have hlt':i<l.length:=by omega
        have hxp:=List.getElem?_eq_getElem hlt'
        obtain ⟨p',hp',hrp⟩:=hcell i _ hxp
        cases hp'
        obtain ⟨r3,r4⟩:=fad58_w _ hrp
        have es:((i+1:Nat):Int)-1=(i:Nat):=by omega
        simp only [cbin_sub,wV_some,es]
        rw [wrap64 (by omega) (by omega),iad_sl u23 s58 hlt']
        simp only [wV_some,fad58_0,r1,r3,cbin_sgeq]
        have hpb:prevBad l l[i+1] (i+1)=!bLt (sb l[i].type) (sb l[i+1].type):=by unfold prevBad; simp only [hxp]
        exact ⟨by simp only [and_self],trivial,leaf (!bLt (sb l[i].type) (sb l[i+1].type)) _ (.put rfl) (by simp only [eKc,eKn,eKa,Nat.reduceEqDiff,↓reduceIte,gKz,gKs,dKs,and_self]) (fun h=>by rw [hspc,hpb,h]; simp) (fun h=>⟨t,aa,by simp only [eKc,eKn,eKa,Nat.reduceEqDiff,↓reduceIte,gKz,gKs,dKs,and_self],by simp only [eKc,eKn,eKa,Nat.reduceEqDiff,↓reduceIte,gKz,gKs,dKs,and_self],htl,hal,hrest _ hpb h⟩)⟩
  ·simp only [qKn,qKr,qKx,qKp,bKn,bKr,bKp,bKx,tKn,tKr,tKx,tKp,zKn,zKr,zKx,zKp,if_true,f99_k0]
   exact hret true _ W' k' t' (by simp only [eKc,eKn,eKa,Nat.reduceEqDiff,↓reduceIte,gKz,gKs,dKs,and_self]) (by rw [hsp,anyTo_false fun j hj=>hpre j (by omega)]; rfl)
end Go.Ce
namespace Go.Ce
open Go Go.Proofs Go.Proofs.Tryz
def prevName (c:List Shp) (x:Shp):Nat→Bool
 | 0=>false
 | i+1=>match c[i]? with
  | some y=>!bLt (sb y.name) (sb x.name)
  | none=>false
def shapeBad (c:List Shp) (i:Nat):Bool:=match c[i]? with
 | none=>true
 | some x=>(!isSym x.name || prevName c x i) || ((decide (x.elem≠0) && (!kindB x.elem || decide (x.super≠noName) || decide (0<x.fields.length))) || decide (20<x.fields.length))
def fieldDup (fs:List Fld) (k:Nat) (s:ByteArray):Bool:=anyTo k fun n=>decide ((fs[n]?).map (·.name)=some s)
def fieldBad (fs:List Fld) (k:Nat):Bool:=match fs[k]? with
 | none=>true
 | some f=>(!isSym f.name || !kindB f.kind) || fieldDup fs k f.name
def rowBad (c:List Shp) (i:Nat):Bool:=match lineP c c.length i with
 | none=>true
 | some _=>decide (60<(fieldsP c i).length) || anyTo (fieldsP c i).length (fieldBad (fieldsP c i))
def catOk (c:List Shp):Bool:=decide (c.length≤100) && (!anyTo c.length (shapeBad c) && !anyTo c.length (rowBad c))
def RFlc (W:CW) (b o:Nat) (x:Fld):Prop:=Cells W b o (encF x)
theorem flc_ld {W:CW} {b o:Nat} {x:Fld} (h:RFlc W b o x):ld prog 9 (.pointer (some ⟨b,o,none⟩)) W=some (.string x.name)∧ld prog 5 (.pointer (some ⟨b,o+1,none⟩)) W=some (.int .u8 x.kind) :=
 ⟨ld_word a9 (a:=⟨b,o,none⟩) (h 0 _ rfl),ld_word a5 (a:=⟨b,o+1,none⟩) (h 1 _ rfl)⟩
theorem f41_dup {ro:Option Nat} {e:Env} {ds:List Deferred} {W:CW} {K:Kont} {v8:Value} {fs:List Fld} {k:Nat} {f:Fld} (hl:IsSl 2 (RFlc W) v8 fs) (hs:fs[k]?=some f) (h8:e 8=v8) (h9:e 9=.int .i64 k) (hkb:fs.length<100000)
  (hyes:fieldDup fs k f.name=true→∀ e',e' 2=.int .i64 210→K .ret e' ds W) (hno:fieldDup fs k f.name=false→∀ e',Agree [0,5,8,9] e e'→K (.exit 6) e' ds W) :
  WEnv prog pkL ro 41 129 (.loop (loopAt prog 41 3)) (Env.of e [(10,.int .i64 0)]) ds W K:=by
 have hkl:=(List.getElem?_eq_some_iff.1 hs).1
 refine w_for (fun m e' ds' W'=>ds'=ds∧W'=W∧Agree [0,5,8,9] e e'∧e' 10=.int .i64 m∧∀ j,j<m→decide ((fs[j]?).map (·.name)=some f.name)=false) k ⟨rfl,rfl,.put rfl,rfl,by omega⟩ ?_
 rintro m e' ds' W' hm ⟨rfl,rfl,hA,h10,hpre⟩
 rw [f41_l3,h10,(hA 9 (by decide)).trans h9,(hA 8 (by decide)).trans h8]
 simp only [cbin_lss,wV_some]
 refine w_lt (fun hlt=>?_) (fun hge=>?_)
 ·obtain ⟨a,cap,rfl,hcell⟩:=hl
  obtain ⟨p,rfl,hr⟩:=hcell k _ hs
  have hlm:m<fs.length:=by omega
  have hx:=List.getElem?_eq_getElem hlm
  obtain ⟨p',hp',hq⟩:=hcell m _ hx
  cases hp'
  rw [iad_sl u45 s72 hlm,iad_sl u45 s72 hkl]
  simp only [wV_some,fad72_0,(flc_ld hr).1,(flc_ld hq).1,cbin_seql,bEq_dec]
  refine ⟨by simp only [and_self],trivial,wI_bool (fun hb=>?_) (fun hb=>?_)⟩
  ·simp only [f41_k24,qKn,qKr,qKx,qKp,bKn,bKr,bKp,bKx,tKn,tKr,tKx,tKp,zKn,zKr,zKx,zKp]
   refine hyes (anyTo_true hlt ?_) _ rfl
   rw [hx]; simpa using hb
  ·simp only [f41_k24,qKn,qKr,qKx,qKp,bKn,bKr,bKp,bKx,tKn,tKr,tKx,tKp,zKn,zKr,zKx,zKp]
   simp only [eKc,eKn,eKa,Nat.reduceEqDiff,↓reduceIte,gKz,gKs,dKs,and_self,h10,cbin_add,wV_some,qKn,qKr,qKx,qKp,bKn,bKr,bKp,bKx,tKn,tKr,tKx,tKp,zKn,zKr,zKx,zKp]
   refine ⟨hlt,trivial,trivial,(hA.trans (.put rfl)).trans (.put rfl),by rw [inc64 (by omega)],pre_succ hpre ?_⟩
   rw [hx]; simpa using hb
 ·simp only [qKn,qKr,qKx,qKp,bKn,bKr,bKp,bKx,tKn,tKr,tKx,tKp,zKn,zKr,zKx,zKp]
  exact hno (anyTo_false fun j hj=>hpre j (by omega)) _ (hA.trans (.put rfl))
theorem f41_flds {ro:Option Nat} {e:Env} {ds:List Deferred} {W:CW} {K:Kont} {v8:Value} {fs:List Fld} (hl:IsSl 2 (RFlc W) v8 fs) (h8:e 8=v8) (hkb:fs.length<100000) (hnm:∀ f,f ∈ fs→f.name.size<1000)
  (hyes:anyTo fs.length (fieldBad fs)=true→∀ e',e' 2=.int .i64 210→K .ret e' ds W) (hno:anyTo fs.length (fieldBad fs)=false→∀ e',Agree [0,5] e e'→K (.exit 4) e' ds W) :
  WEnv prog pkL ro 41 129 (.loop (loopAt prog 41 2)) (Env.of e [(9,.int .i64 0)]) ds W K:=by
 refine w_for (fun m e' ds' W'=>ds'=ds∧W'=W∧Agree [0,5,8] e e'∧e' 9=.int .i64 m∧∀ j,j<m→fieldBad fs j=false) fs.length ⟨rfl,rfl,.put rfl,rfl,by omega⟩ ?_
 rintro m e' ds' W' hm ⟨rfl,rfl,hA,h9,hpre⟩
 have hl2:=hl
 obtain ⟨a,cap,rfl,hcell⟩:=hl2
 rw [f41_l2,h9,(hA 8 (by decide)).trans h8]
 simp only [clen_sl u45,cbin_lss,wV_some]
 refine w_lt (fun hlt=>?_) (fun hge=>?_)
 ·have hx:=List.getElem?_eq_getElem hlt
  obtain ⟨p,rfl,hr⟩:=hcell m _ hx
  have hfb:fieldBad fs m=((!isSym fs[m].name || !kindB fs[m].kind) || fieldDup fs m fs[m].name):=by unfold fieldBad; rw [hx]
  rw [iad_sl u45 s72 hlt]
  simp only [wV_some,fad72_0,fad72_1,(flc_ld hr).1]
  have leaf:∀ (b:Bool) (e1:Env),Agree [0,5,8,9] e' e1→e1 112=.bool b→b=(!isSym fs[m].name || !kindB fs[m].kind)→(f41_k19 ro (forK (fun m e' ds'' W''=>ds''=ds'∧W''=W'∧Agree [0,5,8] e e'∧e' 9=.int .i64 m∧∀ j,j<m→fieldBad fs j=false) m fs.length K)) .normal e1 ds' W':=by
   intro b e1 hA1 h112 hb
   simp only [f41_k19,qKn,qKr,qKx,qKp,bKn,bKr,bKp,bKx,tKn,tKr,tKx,tKp,zKn,zKr,zKx,zKp,h112]
   refine wI_bool (fun hbb=>?_) (fun hbb=>?_)
   ·simp only [f41_k18,qKn,qKr,qKx,qKp,bKn,bKr,bKp,bKx,tKn,tKr,tKx,tKp,zKn,zKr,zKx,zKp,f41_k17]
    exact hyes (anyTo_true hlt (by rw [hfb,←hb,hbb]; rfl)) _ rfl
   ·simp only [f41_k18,qKn,qKr,qKx,qKp,bKn,bKr,bKp,bKx,tKn,tKr,tKx,tKp,zKn,zKr,zKx,zKp]
    refine f41_dup hl hx ((hA1 8 (by decide)).trans ((hA 8 (by decide)).trans h8)) ((hA1 9 (by decide)).trans h9) (by omega) (fun hd e2 h4=>?_) (fun hd e2 hA2=>?_)
    ·simp only [qKn,qKr,qKx,qKp,bKn,bKr,bKp,bKx,tKn,tKr,tKx,tKp,zKn,zKr,zKx,zKp,f41_k17]
     exact hyes (anyTo_true hlt (by rw [hfb,hd]; simp)) _ h4
    ·simp only [qKn,qKr,qKx,qKp,bKn,bKr,bKp,bKx,tKn,tKr,tKx,tKp,zKn,zKr,zKx,zKp,if_true,f41_k17,(hA2 9 (by decide)).trans ((hA1 9 (by decide)).trans h9),cbin_add,wV_some]
     refine ⟨hlt,trivial,trivial,((hA.trans fun t ht=>hA1 t (by revert t; decide)).trans fun t ht=>hA2 t (by revert t; decide)).trans (.put rfl),?_,pre_succ hpre (by rw [hfb,←hb,hbb,hd]; rfl)⟩
     simp only [eKc,eKn,eKa,Nat.reduceEqDiff,↓reduceIte,gKz,gKs,dKs,and_self]
     rw [inc64 (by omega)]
  refine w_gives (isSymbolR_ok (by have:=hnm _ (List.getElem_mem hlt); omega)) ?_
  simp only [ngt_bool,wV_some]
  refine wI_bool (fun hb=>?_) (fun hb=>?_)
  ·exact leaf true _ (.put rfl) rfl (by rw [hb]; rfl)
  ·simp only [(flc_ld hr).2,wV_some]
   refine w_gives (isKindR_ok _ _) ?_
   simp only [ngt_bool,wV_some]
   exact leaf (!kindB fs[m].kind) _ (.put rfl) rfl (by rw [hb]; rfl)
 ·simp only [qKn,qKr,qKx,qKp,bKn,bKr,bKp,bKx,tKn,tKr,tKx,tKp,zKn,zKr,zKx,zKp]
  exact hno (anyTo_false fun j hj=>hpre j (by omega)) _ (fun t ht=>(Agree.put rfl t (by exact ht)).trans (hA t (by revert t; decide)))
theorem z48:zer prog 48=some (.agg #[.string ⟨#[]⟩,.string ⟨#[]⟩,.slice none 0 0,.int .u8 0,.slice none 0 0]):=by kernel_rfl
theorem flds_name {c:List Shp} (hnm:∀ x,x ∈ c→∀ f,f ∈ x.fields→f.name.size<1000) (i:Nat):∀ f,f ∈ fieldsP c i→f.name.size<1000:=by
 intro f hf
 unfold fieldsP at hf
 split at hf
 ·obtain ⟨j,_,hj⟩:=List.mem_flatMap.1 hf
  unfold flds at hj
  split at hj
  ·rename_i x hx; exact hnm x (List.mem_of_getElem? hx) f hj
  ·cases hj
 ·cases hf
structure Cat (c:List Shp):Prop where
 len:c.length<200
 fields:∀ x,x ∈ c→x.fields.length≤100
 name:∀ x,x ∈ c→x.name.size<1000
 sup:∀ x,x ∈ c→x.super.size<1000
 fname:∀ x,x ∈ c→∀ f,f ∈ x.fields→f.name.size<1000
end Go.Ce
namespace Go.Ce
open Go Go.Proofs Go.Proofs.Tryz
theorem RShp.ld {W:CW} {b o:Nat} {x:Shp} (h:RShp W b o x):∃ vf ab lb cb,ld prog 48 (.pointer (some ⟨b,o,none⟩)) W=some (.agg [.string x.name,.string x.super,vf,.int .u8 x.elem,.slice ab lb cb].toArray)∧IsSl 2 (RFld W) vf x.fields:=by
 obtain ⟨vf,h1,h2⟩:=h.fields
 obtain ⟨ab,lb,cb,h3⟩:=h.binds
 refine ⟨vf,ab,lb,cb,ld_agg (vs:=[.string x.name,.string x.super,vf,.int .u8 x.elem,.slice ab lb cb]) a48 s48 rfl (by omega) ?_,h2⟩
 intro j w hj
 match j,hj with
 | 0,hj=>cases hj; exact h.name
 | 1,hj=>cases hj; exact h.super
 | 2,hj=>cases hj; exact h1
 | 3,hj=>cases hj; exact h.elem
 | 4,hj=>cases hj; exact h3
theorem encF_flat_len' (fs:List Fld):(fs.flatMap encF).length=fs.length*2:=flatMap_length encF_len fs
theorem check_ok {v0:Value} {c:List Shp} {W:CW} (ht:Top W) (hc:IsSl 5 (RShp W) v0 c) (hC:Cat c) :
  WCall prog pkL 41 [v0] W (Ret (.int .i64 (if catOk c then 0 else 210)) W):=by
 refine f41_w ?_
 rw [f41_c]
 have hc0:=hc
 obtain ⟨a,cap,rfl,_⟩:=hc0
 simp only [clen_sl u22,wV_some,cbin_gtr]
 generalize hKK:wLeave prog Tryz.f41 (Ret (.int .i64 (if catOk c then 0 else 210)) W)=K
 have hno:∀ (e:Env) W',Kp W W'→Top W'→e 2=.int .i64 210→catOk c=false→K .ret e [] W':=by
  intro e W' k t h6 hb
  rw [←hKK,f41_leave,h6,hb]
  exact ⟨rfl,k,t⟩
 have hyes:∀ (e:Env) W',Kp W W'→Top W'→e 2=.int .i64 0→catOk c=true→K .ret e [] W':=by
  intro e W' k t h6 hb
  rw [←hKK,f41_leave,h6,hb]
  exact ⟨rfl,k,t⟩
 have hlen:=hC.len
 refine wI_bool (fun hg=>?_) (fun hg=>?_)
 ·refine hno _ _ (.refl _) ht rfl ?_
  have:=of_decide_eq_true hg
  unfold catOk
  rw [decide_eq_false (by omega)]; rfl
 ·have hg:=of_decide_eq_false hg
  have hsp:catOk c=(!anyTo c.length (shapeBad c) && !anyTo c.length (rowBad c)):=by
   unfold catOk
   rw [decide_eq_true (by omega)]; rfl
  refine w_for (fun i e ds W'=>ds=[]∧Kp W W'∧Top W'∧e 0=.slice a c.length cap∧e 3=.int .i64 i∧∀ j,j<i→shapeBad c j=false) c.length ⟨rfl,.refl _,ht,rfl,rfl,by omega⟩ ?_
  rintro i e ds W' hi ⟨rfl,k',t',h0,h3,hpre⟩
  have hc':IsSl 5 (RShp W') (.slice a c.length cap) c:=hc.imp fun _ _ _ hr=>hr.kp ht k'
  rw [f41_l0,h0,h3]
  simp only [clen_sl u22,wV_some,cbin_lss]
  refine w_lt (fun hlt=>?_) (fun hge=>?_)
  ·obtain ⟨x,hx⟩:∃ x,c[i]?=some x:=⟨_,List.getElem?_eq_getElem hlt⟩
   obtain ⟨a',cap',ha,hcell⟩:=hc'
   cases ha
   obtain ⟨p,rfl,hr⟩:=hcell i _ hx
   obtain ⟨vf,ab,lb,cb,hld,hfs⟩:=hr.ld
   have hmem:=List.mem_of_getElem? hx
   have hsb:shapeBad c i=((!isSym x.name || prevName c x i) || ((decide (x.elem≠0) && (!kindB x.elem || decide (x.super≠noName) || decide (0<x.fields.length))) || decide (20<x.fields.length))):=by unfold shapeBad; rw [hx]
   rw [iad_sl u22 s48 hlt]
   simp only [wV_some,hld]
   obtain ⟨af,capf,rfl,_⟩:=hfs
   refine w_var z48 s48 rfl rfl rfl t' fun W2 k2 t2 z2 hB=>?_
   have q0:ld prog 9 (.pointer (some ⟨W'.sz,0,none⟩)) W2=some (.string x.name):=ld_word a9 (a:=⟨W'.sz,0,none⟩) (hB.cell rfl)
   have q1:ld prog 9 (.pointer (some ⟨W'.sz,0+1,none⟩)) W2=some (.string x.super):=ld_word a9 (a:=⟨W'.sz,1,none⟩) (hB.cell rfl)
   have q2:ld prog 45 (.pointer (some ⟨W'.sz,0+2,none⟩)) W2=some (.slice af x.fields.length capf):=ld_word a45 (a:=⟨W'.sz,2,none⟩) (hB.cell rfl)
   have q3:ld prog 5 (.pointer (some ⟨W'.sz,0+3,none⟩)) W2=some (.int .u8 x.elem):=ld_word a5 (a:=⟨W'.sz,3,none⟩) (hB.cell rfl)
   simp only [wV_some,fad48_0,q0]
   have leaf:∀ (b:Bool) (e1:Env),Agree [0,3] e e1→e1 70=.bool b→b=shapeBad c i →
     (f41_k5 none (forK (fun i e ds W'=>ds=[]∧Kp W W'∧Top W'∧e 0=.slice (some p) c.length cap∧e 3=.int .i64 i∧∀ j,j<i→shapeBad c j=false) i c.length (blkK 0 (f41_k1 none K)))) .normal e1 [] W2:=by
    intro b e1 hA h70 hb
    simp only [f41_k5,qKn,qKr,qKx,qKp,bKn,bKr,bKp,bKx,tKn,tKr,tKx,tKp,zKn,zKr,zKx,zKp,h70]
    refine wI_bool (fun hbb=>?_) (fun hbb=>?_)
    ·simp only [f41_k2,qKn,qKr,qKx,qKp,bKn,bKr,bKp,bKx,tKn,tKr,tKx,tKp,zKn,zKr,zKx,zKp,f41_k1]
     exact hno _ W2 (k'.trans k2) t2 rfl (by rw [hsp,anyTo_true hlt (by rw [←hb,hbb])]; rfl)
    ·simp only [f41_k2,qKn,qKr,qKx,qKp,bKn,bKr,bKp,bKx,tKn,tKr,tKx,tKp,zKn,zKr,zKx,zKp,(hA 3 (by decide)).trans h3,cbin_add,wV_some]
     refine ⟨hlt,trivial,k'.trans k2,t2,(hA 0 (by decide)).trans h0,?_,pre_succ hpre (by rw [←hb,hbb])⟩
     simp only [eKc,eKn,eKa,Nat.reduceEqDiff,↓reduceIte,gKz,gKs,dKs,and_self]
     rw [inc64 (by omega)]
   refine w_gives (isSymbolR_ok (by have:=hC.name _ hmem; omega)) ?_
   simp only [ngt_bool,wV_some]
   refine wI_bool (fun hb=>?_) (fun hb=>?_)
   ·exact ⟨by simp only [q0,and_self],trivial,leaf true _ (.put rfl) rfl (by rw [hsb,hb]; rfl)⟩
   ·simp only [cbin_gtr,wV_some,fad48_1,fad48_2,fad48_3,q1,q2,q3,clen_sl u45,cbin_neq,cbin_sneq,bEq_dec]
    have fin:prevName c x i=false→shapeBad c i=((decide (x.elem≠0) && (!kindB x.elem || decide (x.super≠noName) || decide (0<x.fields.length))) || decide (20<x.fields.length)):=fun hp=>by rw [hsb,hb,hp]; rfl
    refine wI_bool (fun h=>?g1) (fun h=>?g2)
    case' g1 =>
     obtain ⟨j,rfl⟩:∃ j,i=j+1:=⟨i-1,by have:=of_decide_eq_true h; omega⟩
     have hjl:j<c.length:=by omega
     have hxp:=List.getElem?_eq_getElem hjl
     obtain ⟨p',hp',hrp⟩:=hcell j _ hxp
     cases hp'
     have es:((j+1:Nat):Int)-1=(j:Nat):=by omega
     have hpb:prevName c x (j+1)=!bLt (sb c[j].name) (sb x.name):=by unfold prevName; simp only [hxp]
     have q4:ld prog 9 (.pointer (some ⟨p.block,p.off+j*5,none⟩)) W2=some (.string c[j].name):=ld_word a9 (a:=⟨p.block,p.off+j*5,none⟩) (k2.cell t' hrp.name)
     simp only [cbin_sub,wV_some,es]
     rw [wrap64 (by omega) (by omega),iad_sl u22 s48 hjl]
     simp only [wV_some,fad48_0,q0,q4,cbin_sgeq]
     refine wI_bool (fun hq=>?h1) (fun hq=>?h2)
     case h1=>exact ⟨by simp only [q0,and_self],trivial,leaf true _ (.put rfl) rfl (by rw [hsb,hpb,hq]; simp)⟩
     have hpf:=hpb.trans hq
    case' g2 =>
     have hpf:prevName c x i=false:=by
      cases i with
      | zero=>rfl
      | succ i=>have:=of_decide_eq_false h; omega
    all_goals
     have fin:=fin hpf
     refine wI_bool (fun he=>?_) (fun he=>?_)
     ·have he:decide (x.elem≠0)=true:=by simpa using he
      rw [he,Bool.true_and] at fin
      refine w_gives (isKindR_ok _ _) ?_
      simp only [ngt_bool,wV_some,q1,q2,cbin_sneq,bEq_dec]
      refine wI_bool (fun h1=>?_) (fun h1=>?_)
      ·exact ⟨by simp only [q0,q1,q2,q3,and_self],trivial,leaf true _ (.put rfl) rfl (by rw [fin]; unfold kindB; rw [h1]; rfl)⟩
      ·refine wI_bool (fun h2=>?_) (fun h2=>?_)
       ·have h2:decide (x.super≠noName)=true:=decide_eq_true (by simpa [noName] using h2)
        exact ⟨by simp only [q0,q1,q2,q3,and_self],trivial,leaf true _ (.put rfl) rfl (by rw [fin,h2]; simp)⟩
       ·have h2:decide (x.super≠noName)=false:=decide_eq_false (by simpa [noName] using h2)
        simp only [clen_sl u45,wV_some,cbin_gtr]
        refine wI_bool (fun h3=>?_) (fun h3=>?_)
        ·have h3:decide (0<x.fields.length)=true:=decide_eq_true (by have:=of_decide_eq_true h3; omega)
         exact ⟨by simp only [q0,q1,q2,q3,clen_sl u45,and_self],trivial,leaf true _ (.put rfl) rfl (by rw [fin,h3]; simp)⟩
        ·have h3:decide (0<x.fields.length)=false:=decide_eq_false (by have:=of_decide_eq_false h3; omega)
         refine ⟨by simp only [q0,q1,q2,q3,clen_sl u45,and_self],trivial,leaf _ _ (.put rfl) rfl ?_⟩
         rw [fin,h2,h3]
         unfold kindB
         rw [h1]
         simp only [Bool.or_self,Bool.false_or]
         exact decide_eq_decide.2 (by omega)
     ·have he:decide (x.elem≠0)=false:=by simpa using he
      rw [he,Bool.false_and,Bool.false_or] at fin
      refine ⟨by simp only [q0,q1,q2,q3,clen_sl u45,and_self],trivial,leaf _ _ (.put rfl) rfl ?_⟩
      rw [fin]
      exact decide_eq_decide.2 (by omega)
  ·have hS:anyTo c.length (shapeBad c)=false:=anyTo_false fun j hj=>hpre j (by omega)
   rw [hS] at hsp
   simp only [qKn,qKr,qKx,qKp,bKn,bKr,bKp,bKx,tKn,tKr,tKx,tKp,zKn,zKr,zKx,zKp,if_true,f41_k1]
   refine w_for (fun i e ds W'=>ds=[]∧Kp W W'∧Top W'∧e 0=.slice a c.length cap∧e 5=.int .i64 i∧∀ j,j<i→rowBad c j=false) c.length ⟨rfl,k',t',h0,rfl,by omega⟩ ?_
   rintro i2 e2 ds2 W2 hi2 ⟨rfl,k2,t2,g0,g5,hpre2⟩
   rw [f41_l1,g0,g5]
   simp only [clen_sl u22,wV_some,cbin_lss]
   refine w_lt (fun hlt=>?_) (fun hge2=>?_)
   ·have hc2:IsSl 5 (RShp W2) (.slice a c.length cap) c:=hc.imp fun _ _ _ hr=>hr.kp ht k2
    have hbad:rowBad c i2=true→∀ (e:Env) W',Kp W W'→Top W'→e 2=.int .i64 210→K .ret e [] W':=fun hb e W' k t h2 =>
     hno e W' k t h2 (by rw [hsp,anyTo_true hlt hb]; rfl)
    refine (line_ok t2 hc2 (by omega) hlt).mono fun en W3 ⟨k3,t3,hpost⟩=>?_
    cases hli:lineP c c.length i2 with
    | none =>
     rw [hli] at hpost
     subst hpost
     have e0:ext (.tuple #[.slice none 0 0,.bool false]) 0=some (.slice none 0 0):=rfl
     have e1:ext (.tuple #[.slice none 0 0,.bool false]) 1=some (.bool false):=rfl
     simp only [onEnd,e0,e1,wV_some,ngt_bool]
     rw [show (!false)=true from rfl]
     simp only [wI_true,f41_k12,qKn,qKr,qKx,qKp,bKn,bKr,bKp,bKx,tKn,tKr,tKx,tKp,zKn,zKr,zKx,zKp,f41_k0]
     exact hbad (by unfold rowBad; rw [hli]) _ W3 (k2.trans k3) t3 rfl
    | some li =>
     rw [hli] at hpost
     obtain ⟨vo,rfl,ho,hnw⟩:=hpost
     have e0:ext (.tuple #[vo,.bool true]) 0=some vo:=rfl
     have e1:ext (.tuple #[vo,.bool true]) 1=some (.bool true):=rfl
     have hrb:rowBad c i2=(decide (60<(fieldsP c i2).length) || anyTo (fieldsP c i2).length (fieldBad (fieldsP c i2))):=by unfold rowBad; rw [hli]
     simp only [onEnd,e0,e1,wV_some,ngt_bool]
     rw [show (!true)=false from rfl]
     simp only [wI_false]
     have k23:=k2.trans k3
     refine (fields_ok t3 (hc.imp fun _ _ _ hr=>hr.kp ht k23) hlen hC.fields hlt).mono fun en W4 ⟨k4,t4,v8,hen,ho8,hn8⟩=>?_
     subst hen
     have hfl:=fieldsP_len hlen hC.fields i2
     simp only [onEnd]
     rw [ownLen u45 ho8 (by omega) (encF_flat_len' _)]
     simp only [wV_some,cbin_gtr]
     have k24:=k23.trans k4
     refine wI_bool (fun hgt=>?_) (fun hgt=>?_)
     ·simp only [f41_k12,qKn,qKr,qKx,qKp,bKn,bKr,bKp,bKx,tKn,tKr,tKx,tKp,zKn,zKr,zKx,zKp,f41_k0]
      exact hbad (by rw [hrb,decide_eq_true (by have:=of_decide_eq_true hgt; omega)]; rfl) _ W4 k24 t4 rfl
     ·have hle:decide (60<(fieldsP c i2).length)=false:=decide_eq_false (by have:=of_decide_eq_false hgt; omega)
      refine f41_flds (ownSl encF_len (by omega) ho8) rfl (by omega) (flds_name hC.fname i2) (fun hb e3 h2=>?_) (fun hb e3 hA=>?_)
      ·simp only [f41_k12,qKn,qKr,qKx,qKp,bKn,bKr,bKp,bKx,tKn,tKr,tKx,tKp,zKn,zKr,zKx,zKp,f41_k0]
       exact hbad (by rw [hrb,hb]; simp) _ W4 k24 t4 h2
      ·have q0:e3 0=.slice a c.length cap:=(hA 0 (by decide)).trans g0
       have q5:e3 5=.int .i64 i2:=(hA 5 (by decide)).trans g5
       simp only [f41_k12,qKn,qKr,qKx,qKp,bKn,bKr,bKp,bKx,tKn,tKr,tKx,tKp,zKn,zKr,zKx,zKp,if_true,q5,cbin_add,wV_some]
       refine ⟨hlt,trivial,k24,t4,q0,?_,pre_succ hpre2 (by rw [hrb,hle,hb]; rfl)⟩
       simp only [eKc,eKn,eKa,Nat.reduceEqDiff,↓reduceIte,gKz,gKs,dKs,and_self]
       rw [inc64 (by omega)]
   ·simp only [qKn,qKr,qKx,qKp,bKn,bKr,bKp,bKx,tKn,tKr,tKx,tKp,zKn,zKr,zKx,zKp,if_true,f41_k0]
    exact hyes _ W2 k2 t2 rfl (by rw [hsp,anyTo_false fun j hj=>hpre2 j (by omega)]; rfl)
end Go.Ce
namespace Go.Ce
open Go Go.Proofs Go.Proofs.Tryz
def spErr (c:List Shp) (l:List Spc):Int:=if catOk c then (if specOk c l then 0 else 212) else 210
def askP (c:List Shp) (l:List Spc) (h:List Thg) (root:Int):Int:=if spErr c l≠0 then spErr c l else if thingsI c h≥0 then 211 else if root<0∨root>h.length then 1 else 0
theorem spErr_ok {v0 v1:Value} {c:List Shp} {l:List Spc} {W:CW} (ht:Top W) (hc:IsSl 5 (RShp W) v0 c) (hC:Cat c) (hl:IsSl 3 (RSpc W) v1 l) (hll:l.length<100000) :
  WCall prog pkL 43 [v0,v1] W (Ret (.int .i64 (spErr c l)) W):=by
 refine f43_w ?_
 rw [f43_c]
 refine w_ret (check_ok ht hc hC) fun W1 k1 t1=>?_
 simp only [cbin_eql,wV_some]
 unfold spErr
 cases hk:catOk c with
 | false =>
  simp only [Bool.false_eq_true,↓reduceIte,Int.reduceBEq,wI_false,f43_k3,f43_k2,qKn,qKr,qKx,qKp,bKn,bKr,bKp,bKx,tKn,tKr,tKx,tKp,zKn,zKr,zKx,zKp]
  rw [show ∀ l,(Env.of (Env.args [v0,v1]) ((15,.bool false)::l)) 15=.bool false from fun _=>rfl]
  simp only [wI_false,f43_leave]
  exact ⟨rfl,k1,t1⟩
 | true =>
  simp only [↓reduceIte,Int.reduceBEq,wI_true]
  refine w_ret (specials_ok t1 (hc.imp fun _ _ _ hr=>hr.kp ht k1) hC.len hC.fields (hl.imp fun _ _ _ hr=>hr.kp ht k1) hll) fun W2 k2 t2=>?_
  simp only [ngt_bool,wV_some,f43_k3,f43_k2,qKn,qKr,qKx,qKp,bKn,bKr,bKp,bKx,tKn,tKr,tKx,tKp,zKn,zKr,zKx,zKp]
  rw [show ∀ b l,(Env.of (Env.args [v0,v1]) ((15,b)::l)) 15=b from fun _ _=>rfl]
  cases hs:specOk c l <;> simp only [Bool.not_true,Bool.not_false,wI_true,wI_false,f43_leave] <;> exact ⟨rfl,k1.trans k2,t2⟩
theorem asked_ok {v0 v1 v2:Value} {c:List Shp} {l:List Spc} {h:List Thg} {root:Int} {W:CW} (ht:Top W) (hc:IsSl 5 (RShp W) v0 c) (hC:Cat c) (hl:IsSl 3 (RSpc W) v1 l) (hll:l.length<100000) (hh:IsSl 2 (RThg W) v2 h) (hhl:h.length<100000) (hv:∀ x,x ∈ h→x.vals.length<1000000) :
  WCall prog pkL 63 [v0,v1,v2,.int .i64 root] W (Ret (.int .i64 (askP c l h root)) W):=by
 refine f63_w ?_
 rw [f63_c]
 refine w_ret (spErr_ok ht hc hC hl hll) fun W1 k1 t1=>?_
 simp only [cbin_neq,wV_some]
 unfold askP
 by_cases he:spErr c l=0
 ·rw [if_neg (by simp [he])]
  simp only [he,bne_self_eq_false,wI_false]
  refine w_ret (things_ok t1 (hc.imp fun _ _ _ hr=>hr.kp ht k1) hC.len hC.fields (hh.imp fun _ _ _ hr=>hr.kp ht k1) hhl hv) fun W2 k2 t2=>?_
  simp only [cbin_geq,wV_some]
  refine wI_bool (fun hb=>?_) (fun hb=>?_)
  ·rw [if_pos (of_decide_eq_true hb),f63_leave]
   exact ⟨rfl,k1.trans k2,t2⟩
  ·rw [if_neg (of_decide_eq_false hb)]
   obtain ⟨a,cap,rfl,_⟩:=hh
   simp only [cbin_lss,cbin_gtr,clen_sl u24,wV_some,f63_k5,f63_k4,qKn,qKr,qKx,qKp,bKn,bKr,bKp,bKx,tKn,tKr,tKx,tKp,zKn,zKr,zKx,zKp]
   refine wI_bool (fun hr=>?_) (fun hr=>?_)
   ·rw [show ∀ b l,(Env.of (Env.args [v0,v1,.slice a h.length cap,.int .i64 root]) ((27,b)::l)) 27=b from fun _ _=>rfl]
    simp only [wI_true,f63_leave]
    rw [if_pos (.inl (of_decide_eq_true hr))]
    exact ⟨rfl,k1.trans k2,t2⟩
   ·rw [show ∀ b l,(Env.of (Env.args [v0,v1,.slice a h.length cap,.int .i64 root]) ((27,b)::l)) 27=b from fun _ _=>rfl]
    refine wI_bool (fun hr2=>?_) (fun hr2=>?_)
    ·rw [f63_leave,if_pos (.inr (of_decide_eq_true hr2))]
     exact ⟨rfl,k1.trans k2,t2⟩
    ·rw [f63_leave,if_neg (by have:=of_decide_eq_false hr; have:=of_decide_eq_false hr2; omega)]
     exact ⟨rfl,k1.trans k2,t2⟩
 ·rw [if_pos he]
  simp only [bne_iff_ne,ne_eq,he,not_false_eq_true,show (spErr c l != 0)=true from by simpa using he,wI_true,f63_leave]
  exact ⟨rfl,k1,t1⟩
end Go.Ce
namespace Go.Ce
open Go Go.Proofs Go.Proofs.Tryz
def f64_k1 (ro:Option Nat) (K:Kont):Kont:=seqK (fun e ds W=>K .ret (Env.of e [(9,(e 10)),(8,(e 11)),(88,(e 10)),(87,(e 11))]) ds W) K
def f64_k2 (ro:Option Nat) (K:Kont):Kont:=seqK (fun e ds W=>WEnv prog pkL ro 64 89 (.loop (loopAt prog 64 0)) (Env.of e [(12,(.int .i64 0))]) ds W (blkK 0 (f64_k1 ro K))) K
theorem f64_c (v0 v1 v2 v3:Value) (K:Kont) (W:CW):wCode prog pkL none 64 89 (bodyOf prog 64) (Env.args [v0,v1,v2,v3]) [] W K=(wV (clen prog 24 v2 W) fun v18=>wV (cbin prog .add 3 true v18 (.int .i64 1)) fun v19=>wVW (mks prog 40 v19 v19 W) fun v20 W0=>wV (cbin prog .gtr 3 true v3 (.int .i64 0)) fun v22=>wI v22 (wVW (bsl prog 40 1 [(0,v3)] W0) fun v25 W3=>wVW (app prog [40,40] (.slice none 0 0) v25 W3) fun v26 W4=>wV (iad prog 40 v20 v3) fun v29=>wV (sto prog 3 v29 (.int .i64 1) W4) fun W5=>(f64_k2 none K) .normal (Env.of (Env.args [v0,v1,v2,v3]) [(29,v29),(28,v3),(27,v20),(11,v26),(26,v26),(25,v25),(24,v3),(23,(.slice none 0 0)),(22,v22),(21,v3),(11,(.slice none 0 0)),(10,v20),(20,v20),(19,v19),(18,v18),(17,v2),(9,(.slice none 0 0)),(8,(.slice none 0 0))]) [] W5) ((f64_k2 none K) .normal (Env.of (Env.args [v0,v1,v2,v3]) [(22,v22),(21,v3),(11,(.slice none 0 0)),(10,v20),(20,v20),(19,v19),(18,v18),(17,v2),(9,(.slice none 0 0)),(8,(.slice none 0 0))]) [] W0)):=by kernel_rfl
def f64_k6 (ro:Option Nat) (K:Kont):Kont:=seqK (fun e ds W=>wV (cbin prog .add 3 true (e 12) (.int .i64 1)) fun v35=>K .normal (Env.of e [(12,v35),(35,v35),(34,(e 12))]) ds W) K
theorem f64_l0 (ro:Option Nat) (e:Env) (ds:List Deferred) (K:Kont) (W:CW):wCode prog pkL ro 64 89 (loopAt prog 64 0) e ds W K=(wV (clen prog 40 (e 11) W) fun v32=>wV (cbin prog .lss 3 false (e 12) v32) fun v33=>wI v33 (wV (iad prog 40 (e 11) (e 12)) fun v40=>wV (ld prog 3 v40 W) fun v41=>wV (cbin prog .sub 3 true v41 (.int .i64 1)) fun v42=>wV (iad prog 24 (e 2) v42) fun v43=>wV (ld prog 56 v43 W) fun v44=>WCall prog pkL 65 [(e 1),v44] W (onEnd (fun v45 W7=>wVW (alc prog 56 W7) fun v13 W9=>wV (sto prog 56 v13 v45 W9) fun W10=>wV (fad prog 56 v13 0) fun v47=>wV (ld prog 9 v47 W10) fun v48=>WCall prog pkL 69 [(e 0),v48] W10 (onEnd (fun v49 W11=>WEnv prog pkL ro 64 89 (.loop (loopAt prog 64 1)) (Env.of e [(15,(.int .i64 0)),(14,v49),(49,v49),(48,v48),(47,v47),(46,(e 0)),(13,v13),(45,v45),(44,v44),(43,v43),(42,v42),(41,v41),(40,v40),(39,(e 12)),(38,(e 11)),(37,(e 2)),(36,(e 1)),(33,v33),(32,v32),(31,(e 11)),(30,(e 12))]) ds W11 (blkK 2 (blkK 1 (f64_k6 ro K)))) (fun ch12 W12=>(f64_k6 ro K) (.panic ch12) (Env.of e [(48,v48),(47,v47),(46,(e 0)),(13,v13),(45,v45),(44,v44),(43,v43),(42,v42),(41,v41),(40,v40),(39,(e 12)),(38,(e 11)),(37,(e 2)),(36,(e 1)),(33,v33),(32,v32),(31,(e 11)),(30,(e 12))]) ds W12))) (fun ch8 W8=>(f64_k6 ro K) (.panic ch8) (Env.of e [(44,v44),(43,v43),(42,v42),(41,v41),(40,v40),(39,(e 12)),(38,(e 11)),(37,(e 2)),(36,(e 1)),(33,v33),(32,v32),(31,(e 11)),(30,(e 12))]) ds W8))) (K (.exit 0) (Env.of e [(33,v33),(32,v32),(31,(e 11)),(30,(e 12))]) ds W)):=by kernel_rfl
def f64_k13 (ro:Option Nat) (K:Kont):Kont:=seqK (fun e ds W=>wV (cbin prog .add 3 true (e 15) (.int .i64 1)) fun v56=>K .normal (Env.of e [(15,v56),(56,v56),(55,(e 15))]) ds W) K
def f64_k17 (ro:Option Nat) (K:Kont):Kont:=seqK (fun e ds W=>wI (e 77) (wVW (bsl prog 40 1 [(0,(e 16))] W) fun v80 W14=>wVW (app prog [40,40] (e 11) v80 W14) fun v81 W15=>wV (clen prog 40 v81 W15) fun v85=>wV (iad prog 40 (e 10) (e 16)) fun v86=>wV (sto prog 3 v86 v85 W15) fun W16=>(f64_k13 ro K) .normal (Env.of e [(86,v86),(85,v85),(84,v81),(83,(e 16)),(82,(e 10)),(11,v81),(81,v81),(80,v80),(79,(e 16)),(78,(e 11))]) ds W16) ((f64_k13 ro K) .normal e ds W)) (blkK 3 (f64_k13 ro K))
theorem f64_l1 (ro:Option Nat) (e:Env) (ds:List Deferred) (K:Kont) (W:CW):wCode prog pkL ro 64 89 (loopAt prog 64 1) e ds W K=(wV (fad prog 56 (e 13) 1) fun v51=>wV (ld prog 40 v51 W) fun v52=>wV (clen prog 40 v52 W) fun v53=>wV (cbin prog .lss 3 false (e 15) v53) fun v54=>wI v54 (wV (fad prog 56 (e 13) 1) fun v57=>wV (ld prog 40 v57 W) fun v58=>wV (iad prog 40 v58 (e 15)) fun v60=>wV (ld prog 3 v60 W) fun v61=>WCall prog pkL 70 [(e 0),(e 14),(e 15)] W (onEnd (fun v65 W18=>wV (cbin prog .eql 5 true v65 (.int .u8 2)) fun v66=>wI v66 (wV (cbin prog .gtr 3 true v61 (.int .i64 0)) fun v69=>wI v69 (wV (iad prog 40 (e 10) v61) fun v74=>wV (ld prog 3 v74 W18) fun v75=>wV (cbin prog .eql 3 true v75 (.int .i64 0)) fun v76=>(f64_k17 ro K) .normal (Env.of e [(77,v76),(76,v76),(71,(.bool true)),(75,v75),(71,(.bool true)),(74,v74),(71,(.bool true)),(73,v61),(71,(.bool true)),(72,(e 10)),(71,(.bool true)),(71,v69),(70,v69),(69,v69),(67,(.bool true)),(68,v61),(67,(.bool true)),(67,v66),(66,v66),(65,v65),(64,(e 15)),(63,(e 14)),(62,(e 0)),(16,v61),(61,v61),(60,v60),(59,(e 15)),(58,v58),(57,v57),(54,v54),(53,v53),(52,v52),(51,v51),(50,(e 15))]) ds W18) ((f64_k17 ro K) .normal (Env.of e [(77,(.bool false)),(76,undef),(71,(.bool false)),(75,undef),(71,(.bool false)),(74,undef),(71,(.bool false)),(73,undef),(71,(.bool false)),(72,undef),(71,(.bool false)),(71,v69),(70,v69),(69,v69),(67,(.bool true)),(68,v61),(67,(.bool true)),(67,v66),(66,v66),(65,v65),(64,(e 15)),(63,(e 14)),(62,(e 0)),(16,v61),(61,v61),(60,v60),(59,(e 15)),(58,v58),(57,v57),(54,v54),(53,v53),(52,v52),(51,v51),(50,(e 15))]) ds W18)) ((f64_k17 ro K) .normal (Env.of e [(77,(.bool false)),(76,undef),(71,(.bool false)),(75,undef),(71,(.bool false)),(74,undef),(71,(.bool false)),(73,undef),(71,(.bool false)),(72,undef),(71,(.bool false)),(71,(.bool false)),(70,(.bool false)),(69,undef),(67,(.bool false)),(68,undef),(67,(.bool false)),(67,v66),(66,v66),(65,v65),(64,(e 15)),(63,(e 14)),(62,(e 0)),(16,v61),(61,v61),(60,v60),(59,(e 15)),(58,v58),(57,v57),(54,v54),(53,v53),(52,v52),(51,v51),(50,(e 15))]) ds W18)) (fun ch19 W19=>(f64_k17 ro K) (.panic ch19) (Env.of e [(64,(e 15)),(63,(e 14)),(62,(e 0)),(16,v61),(61,v61),(60,v60),(59,(e 15)),(58,v58),(57,v57),(54,v54),(53,v53),(52,v52),(51,v51),(50,(e 15))]) ds W19))) (K (.exit 2) (Env.of e [(54,v54),(53,v53),(52,v52),(51,v51),(50,(e 15))]) ds W)):=by kernel_rfl
theorem f64_leave (Q:Ending→CW→Prop) (e:Env) (W:CW):wLeave prog Tryz.f64 Q .ret e [] W=Q (.returned (.tuple #[e 8,e 9])) W:=by kernel_rfl
theorem f64_w {Q:Ending→CW→Prop} {v0 v1 v2 v3:Value} {W:CW} (h:wCode prog pkL none 64 89 (bodyOf prog 64) (Env.args [v0,v1,v2,v3]) [] W (wLeave prog Tryz.f64 Q)):WCall prog pkL 64 [v0,v1,v2,v3] W Q:=wCall_of Tryz.func64 (by kernel_rfl) (by kernel_rfl) (by kernel_rfl) (by kernel_rfl) (by kernel_rfl) h
def f65_k3 (ro:Option Nat) (K:Kont):Kont:=seqK (fun e ds W=>wV (ld prog 56 (e 3) W) fun v56=>wV (sto prog 56 (e 4) v56 W) fun W2=>K .ret (Env.of e [(56,v56)]) ds W2) K
theorem f65_c (v0 v1:Value) (K:Kont) (W:CW):wCode prog pkL none 65 57 (bodyOf prog 65) (Env.args [v0,v1]) [] W K=(wVW (bxw prog 56 v1 W) fun v3 W0=>wVW (alc prog 56 W0) fun v4 W1=>WEnv prog pkL none 65 57 (.loop (loopAt prog 65 0)) (Env.of (Env.args [v0,v1]) [(5,(.int .i64 0)),(4,v4),(3,v3)]) [] W1 (blkK 0 (f65_k3 none K))):=by kernel_rfl
def f65_k4 (ro:Option Nat) (K:Kont):Kont:=seqK (fun e ds W=>wV (cbin prog .add 3 true (e 5) (.int .i64 1)) fun v13=>K .normal (Env.of e [(5,v13),(13,v13),(12,(e 5))]) ds W) K
def f65_k8 (ro:Option Nat) (K:Kont):Kont:=seqK (fun e ds W=>wV (ld prog 56 (e 6) W) fun v55=>wV (sto prog 56 (e 4) v55 W) fun W7=>(f65_k4 ro K) .ret (Env.of e [(55,v55)]) ds W7) (blkK 1 (f65_k4 ro K))
theorem f65_l0 (ro:Option Nat) (e:Env) (ds:List Deferred) (K:Kont) (W:CW):wCode prog pkL ro 65 57 (loopAt prog 65 0) e ds W K=(wV (clen prog 23 (e 0) W) fun v10=>wV (cbin prog .lss 3 false (e 5) v10) fun v11=>wI v11 (wV (iad prog 23 (e 0) (e 5)) fun v16=>wV (fad prog 58 v16 0) fun v17=>wV (ld prog 9 v17 W) fun v18=>wV (fad prog 56 (e 3) 0) fun v19=>wV (ld prog 9 v19 W) fun v20=>wV (cbin prog .eql 9 false v18 v20) fun v21=>(ld prog 9 v19 W=some v20∧(ld prog 9 v17 W=some v18∧True))∧True∧wI v21 (wV (iad prog 23 (e 0) (e 5)) fun v24=>wV (fad prog 58 v24 1) fun v25=>wV (ld prog 9 v25 W) fun v26=>wV (bld prog 56 [(0,v26)]) fun v27=>wVW (alc prog 56 W) fun v6 W5=>wV (sto prog 56 v6 v27 W5) fun W6=>WEnv prog pkL ro 65 57 (.loop (loopAt prog 65 1)) (Env.of e [(7,(.int .i64 0)),(6,v6),(27,v27),(26,v26),(25,v25),(24,v24),(23,(e 5)),(22,(e 0)),(21,v21),(20,v20),(19,v19),(18,v18),(17,v17),(16,v16),(15,(e 5)),(14,(e 0)),(11,v11),(10,v10),(9,(e 0)),(8,(e 5))]) ds W6 (blkK 2 (f65_k8 ro K))) ((f65_k4 ro K) .normal (Env.of e [(21,v21),(20,v20),(19,v19),(18,v18),(17,v17),(16,v16),(15,(e 5)),(14,(e 0)),(11,v11),(10,v10),(9,(e 0)),(8,(e 5))]) ds W)) (K (.exit 0) (Env.of e [(11,v11),(10,v10),(9,(e 0)),(8,(e 5))]) ds W)):=by kernel_rfl
def f65_k9 (ro:Option Nat) (K:Kont):Kont:=seqK (fun e ds W=>wV (cbin prog .add 3 true (e 7) (.int .i64 1)) fun v37=>K .normal (Env.of e [(7,v37),(37,v37),(36,(e 7))]) ds W) K
theorem f65_l1 (ro:Option Nat) (e:Env) (ds:List Deferred) (K:Kont) (W:CW):wCode prog pkL ro 65 57 (loopAt prog 65 1) e ds W K=(wV (iad prog 23 (e 0) (e 5)) fun v31=>wV (fad prog 58 v31 2) fun v32=>wV (ld prog 40 v32 W) fun v33=>wV (clen prog 40 v33 W) fun v34=>wV (cbin prog .lss 3 false (e 7) v34) fun v35=>wI v35 (wV (fad prog 56 (e 6) 1) fun v38=>wV (ld prog 40 v38 W) fun v39=>wV (fad prog 56 (e 3) 1) fun v40=>wV (ld prog 40 v40 W) fun v41=>wV (iad prog 23 (e 0) (e 5)) fun v44=>wV (fad prog 58 v44 2) fun v45=>wV (ld prog 40 v45 W) fun v46=>wV (iad prog 40 v46 (e 7)) fun v48=>wV (ld prog 3 v48 W) fun v49=>wV (iad prog 40 v41 v49) fun v50=>wV (ld prog 3 v50 W) fun v51=>wVW (bsl prog 40 1 [(0,v51)] W) fun v52 W10=>wVW (app prog [40,40] v39 v52 W10) fun v53 W11=>wV (fad prog 56 (e 6) 1) fun v54=>wV (sto prog 40 v54 v53 W11) fun W12=>(((True)∧((True)∧((True)∧ld prog 3 v50 W=some v51)))∧(((True)∧((True)∧((True)∧ld prog 3 v48 W=some v49)))∧(((True)∧((True)∧((True)∧ld prog 40 v45 W=some v46)))∧(((True)∧((True)∧((True)∧ld prog 40 v40 W=some v41)))∧(((True)∧((True)∧((ld prog 40 v38 W10=some v39)∧ld prog 40 v38 W=some v39)))∧True)))))∧True∧(f65_k9 ro K) .normal (Env.of e [(54,v54),(53,v53),(52,v52),(51,v51),(50,v50),(49,v49),(48,v48),(47,(e 7)),(46,v46),(45,v45),(44,v44),(43,(e 5)),(42,(e 0)),(41,v41),(40,v40),(39,v39),(38,v38),(35,v35),(34,v34),(33,v33),(32,v32),(31,v31),(30,(e 5)),(29,(e 0)),(28,(e 7))]) ds W12) (K (.exit 2) (Env.of e [(35,v35),(34,v34),(33,v33),(32,v32),(31,v31),(30,(e 5)),(29,(e 0)),(28,(e 7))]) ds W)):=by kernel_rfl
theorem f65_w {Q:Ending→CW→Prop} {v0 v1:Value} {W:CW} (h:wCode prog pkL none 65 57 (bodyOf prog 65) (Env.args [v0,v1]) [] W (wLeave prog Tryz.f65 Q)):WCall prog pkL 65 [v0,v1] W Q:=wCall_of Tryz.func65 (by kernel_rfl) (by kernel_rfl) (by kernel_rfl) (by kernel_rfl) (by kernel_rfl) h
def f18_k11 (ro:Option Nat) (K:Kont):Kont:=seqK (fun e ds W=>K .ret (Env.of e [(9,(.int .i64 0)),(8,(e 17)),(180,(e 17))]) ds W) K
def f18_k12 (ro:Option Nat) (K:Kont):Kont:=seqK (fun e ds W=>wV (clen prog 40 (e 11) W) fun v106=>WCall prog pkL 67 [v106] W (onEnd (fun v107 W8=>wVW (app prog [29,29] (e 17) v107 W8) fun v108 W10=>WEnv prog pkL ro 18 181 (.loop (loopAt prog 18 3)) (Env.of e [(19,(.int .i64 0)),(17,v108),(108,v108),(107,v107),(106,v106),(105,(e 11)),(104,(e 17))]) ds W10 (blkK 6 (f18_k11 ro K))) (fun ch9 W9=>K (.panic ch9) (Env.of e [(106,v106),(105,(e 11)),(104,(e 17))]) ds W9))) K
def f18_k13 (ro:Option Nat) (K:Kont):Kont:=seqK (fun e ds W=>wVW (bsl prog 29 1 [(0,(.int .u8 1))] W) fun v85 W4=>wV (clen prog 51 (e 13) W4) fun v88=>WCall prog pkL 67 [v88] W4 (onEnd (fun v89 W5=>wVW (app prog [29,29] v85 v89 W5) fun v90 W7=>WEnv prog pkL ro 18 181 (.loop (loopAt prog 18 2)) (Env.of e [(18,(.int .i64 0)),(17,v90),(90,v90),(89,v89),(88,v88),(87,(e 13)),(86,v85),(17,v85),(85,v85)]) ds W7 (blkK 4 (f18_k12 ro K))) (fun ch6 W6=>K (.panic ch6) (Env.of e [(88,v88),(87,(e 13)),(86,v85),(17,v85),(85,v85)]) ds W6))) K
theorem f18_c (v0 v1 v2 v3:Value) (K:Kont) (W:CW):wCode prog pkL none 18 181 (bodyOf prog 18) (Env.args [v0,v1,v2,v3]) [] W K=(WCall prog pkL 63 [v0,v1,v2,v3] W (onEnd (fun v27 W0=>wV (cbin prog .neq 30 true v27 (.int .i64 0)) fun v29=>wI v29 (K .ret (Env.of (Env.args [v0,v1,v2,v3]) [(9,v27),(8,(.slice none 0 0)),(30,v27),(29,v29),(28,v27),(10,v27),(27,v27),(26,v3),(25,v2),(24,v1),(23,v0),(9,(.int .i64 0)),(8,(.slice none 0 0))]) [] W0) (WCall prog pkL 64 [v0,v1,v2,v3] W0 (onEnd (fun v36 W2=>wV (ext v36 0) fun v37=>wV (ext v36 1) fun v38=>WEnv prog pkL none 18 181 (.loop (loopAt prog 18 0)) (Env.of (Env.args [v0,v1,v2,v3]) [(14,(.int .i64 0)),(13,(.slice none 0 0)),(12,v38),(11,v37),(38,v38),(37,v37),(31,v36),(36,v36),(35,v3),(34,v2),(33,v1),(32,v0),(29,v29),(28,v27),(10,v27),(27,v27),(26,v3),(25,v2),(24,v1),(23,v0),(9,(.int .i64 0)),(8,(.slice none 0 0))]) [] W2 (blkK 0 (f18_k13 none K))) (fun ch3 W3=>K (.panic ch3) (Env.of (Env.args [v0,v1,v2,v3]) [(35,v3),(34,v2),(33,v1),(32,v0),(29,v29),(28,v27),(10,v27),(27,v27),(26,v3),(25,v2),(24,v1),(23,v0),(9,(.int .i64 0)),(8,(.slice none 0 0))]) [] W3)))) (fun ch1 W1=>K (.panic ch1) (Env.of (Env.args [v0,v1,v2,v3]) [(26,v3),(25,v2),(24,v1),(23,v0),(9,(.int .i64 0)),(8,(.slice none 0 0))]) [] W1))):=by kernel_rfl
def f18_k14 (ro:Option Nat) (K:Kont):Kont:=seqK (fun e ds W=>wV (cbin prog .add 3 true (e 14) (.int .i64 1)) fun v44=>K .normal (Env.of e [(14,v44),(44,v44),(43,(e 14))]) ds W) K
def f18_k21 (ro:Option Nat) (K:Kont):Kont:=seqK (fun e ds W=>wV (iad prog 40 (e 11) (e 14)) fun v70=>wV (ld prog 3 v70 W) fun v71=>wV (cbin prog .sub 3 true v71 (.int .i64 1)) fun v72=>wV (iad prog 24 (e 2) v72) fun v73=>wV (ld prog 56 v73 W) fun v74=>WCall prog pkL 65 [(e 1),v74] W (onEnd (fun v75 W15=>wV (fld prog 56 v75 0) fun v76=>WCall prog pkL 66 [(e 13),v76] W15 (onEnd (fun v79 W17=>wV (cbin prog .lss 3 true v79 (.int .i64 0)) fun v80=>wI v80 (wVW (bsl prog 51 1 [(0,v76)] W17) fun v83 W19=>wVW (app prog [51,51] (e 13) v83 W19) fun v84 W20=>(f18_k14 ro K) .normal (Env.of e [(13,v84),(84,v84),(83,v83),(82,v76),(81,(e 13)),(80,v80),(79,v79),(78,v76),(77,(e 13)),(16,v76),(76,v76),(75,v75),(74,v74),(73,v73),(72,v72),(71,v71),(70,v70),(69,(e 14)),(68,(e 11)),(67,(e 2)),(66,(e 1))]) ds W20) ((f18_k14 ro K) .normal (Env.of e [(80,v80),(79,v79),(78,v76),(77,(e 13)),(16,v76),(76,v76),(75,v75),(74,v74),(73,v73),(72,v72),(71,v71),(70,v70),(69,(e 14)),(68,(e 11)),(67,(e 2)),(66,(e 1))]) ds W17)) (fun ch18 W18=>(f18_k14 ro K) (.panic ch18) (Env.of e [(78,v76),(77,(e 13)),(16,v76),(76,v76),(75,v75),(74,v74),(73,v73),(72,v72),(71,v71),(70,v70),(69,(e 14)),(68,(e 11)),(67,(e 2)),(66,(e 1))]) ds W18))) (fun ch16 W16=>(f18_k14 ro K) (.panic ch16) (Env.of e [(74,v74),(73,v73),(72,v72),(71,v71),(70,v70),(69,(e 14)),(68,(e 11)),(67,(e 2)),(66,(e 1))]) ds W16))) (blkK 1 (f18_k14 ro K))
theorem f18_l0 (ro:Option Nat) (e:Env) (ds:List Deferred) (K:Kont) (W:CW):wCode prog pkL ro 18 181 (loopAt prog 18 0) e ds W K=(wV (clen prog 40 (e 11) W) fun v41=>wV (cbin prog .lss 3 false (e 14) v41) fun v42=>wI v42 (WEnv prog pkL ro 18 181 (.loop (loopAt prog 18 1)) (Env.of e [(15,(.int .i64 0)),(42,v42),(41,v41),(40,(e 11)),(39,(e 14))]) ds W (blkK 2 (f18_k21 ro K))) (K (.exit 0) (Env.of e [(42,v42),(41,v41),(40,(e 11)),(39,(e 14))]) ds W)):=by kernel_rfl
def f18_k22 (ro:Option Nat) (K:Kont):Kont:=seqK (fun e ds W=>wV (cbin prog .add 3 true (e 15) (.int .i64 1)) fun v50=>K .normal (Env.of e [(15,v50),(50,v50),(49,(e 15))]) ds W) K
theorem f18_l1 (ro:Option Nat) (e:Env) (ds:List Deferred) (K:Kont) (W:CW):wCode prog pkL ro 18 181 (loopAt prog 18 1) e ds W K=(wV (clen prog 23 (e 1) W) fun v47=>wV (cbin prog .lss 3 false (e 15) v47) fun v48=>wI v48 (wV (iad prog 23 (e 1) (e 15)) fun v53=>wV (fad prog 58 v53 1) fun v54=>wV (ld prog 9 v54 W) fun v55=>wV (iad prog 40 (e 11) (e 14)) fun v59=>wV (ld prog 3 v59 W) fun v60=>wV (cbin prog .sub 3 true v60 (.int .i64 1)) fun v61=>wV (iad prog 24 (e 2) v61) fun v62=>wV (fad prog 56 v62 0) fun v63=>wV (ld prog 9 v63 W) fun v64=>wV (cbin prog .eql 9 false v55 v64) fun v65=>(ld prog 9 v63 W=some v64∧(ld prog 3 v59 W=some v60∧(ld prog 9 v54 W=some v55∧True)))∧True∧wI v65 ((f18_k22 ro K) .ret (Env.of e [(9,(.int .i64 214)),(8,(.slice none 0 0)),(65,v65),(64,v64),(63,v63),(62,v62),(61,v61),(60,v60),(59,v59),(58,(e 14)),(57,(e 11)),(56,(e 2)),(55,v55),(54,v54),(53,v53),(52,(e 15)),(51,(e 1)),(48,v48),(47,v47),(46,(e 1)),(45,(e 15))]) ds W) ((f18_k22 ro K) .normal (Env.of e [(65,v65),(64,v64),(63,v63),(62,v62),(61,v61),(60,v60),(59,v59),(58,(e 14)),(57,(e 11)),(56,(e 2)),(55,v55),(54,v54),(53,v53),(52,(e 15)),(51,(e 1)),(48,v48),(47,v47),(46,(e 1)),(45,(e 15))]) ds W)) (K (.exit 2) (Env.of e [(48,v48),(47,v47),(46,(e 1)),(45,(e 15))]) ds W)):=by kernel_rfl
def f18_k23 (ro:Option Nat) (K:Kont):Kont:=seqK (fun e ds W=>wV (cbin prog .add 3 true (e 18) (.int .i64 1)) fun v96=>K .normal (Env.of e [(18,v96),(96,v96),(95,(e 18))]) ds W) K
theorem f18_l2 (ro:Option Nat) (e:Env) (ds:List Deferred) (K:Kont) (W:CW):wCode prog pkL ro 18 181 (loopAt prog 18 2) e ds W K=(wV (clen prog 51 (e 13) W) fun v93=>wV (cbin prog .lss 3 false (e 18) v93) fun v94=>wI v94 (wV (iad prog 51 (e 13) (e 18)) fun v100=>wV (ld prog 9 v100 W) fun v101=>WCall prog pkL 68 [v101] W (onEnd (fun v102 W24=>wVW (app prog [29,29] (e 17) v102 W24) fun v103 W26=>(f18_k23 ro K) .normal (Env.of e [(17,v103),(103,v103),(102,v102),(101,v101),(100,v100),(99,(e 18)),(98,(e 13)),(97,(e 17)),(94,v94),(93,v93),(92,(e 13)),(91,(e 18))]) ds W26) (fun ch25 W25=>(f18_k23 ro K) (.panic ch25) (Env.of e [(101,v101),(100,v100),(99,(e 18)),(98,(e 13)),(97,(e 17)),(94,v94),(93,v93),(92,(e 13)),(91,(e 18))]) ds W25))) (K (.exit 4) (Env.of e [(94,v94),(93,v93),(92,(e 13)),(91,(e 18))]) ds W)):=by kernel_rfl
def f18_k27 (ro:Option Nat) (K:Kont):Kont:=seqK (fun e ds W=>wV (cbin prog .add 3 true (e 19) (.int .i64 1)) fun v114=>K .normal (Env.of e [(19,v114),(114,v114),(113,(e 19))]) ds W) K
def f18_k39 (ro:Option Nat) (K:Kont):Kont:=seqK (fun e ds W=>WEnv prog pkL ro 18 181 (.loop (loopAt prog 18 4)) (Env.of e [(22,(.int .i64 0))]) ds W (blkK 8 (blkK 7 (f18_k27 ro K)))) (blkK 7 (f18_k27 ro K))
theorem f18_l3 (ro:Option Nat) (e:Env) (ds:List Deferred) (K:Kont) (W:CW):wCode prog pkL ro 18 181 (loopAt prog 18 3) e ds W K=(wV (clen prog 40 (e 11) W) fun v111=>wV (cbin prog .lss 3 false (e 19) v111) fun v112=>wI v112 (wV (iad prog 40 (e 11) (e 19)) fun v119=>wV (ld prog 3 v119 W) fun v120=>wV (cbin prog .sub 3 true v120 (.int .i64 1)) fun v121=>wV (iad prog 24 (e 2) v121) fun v122=>wV (ld prog 56 v122 W) fun v123=>WCall prog pkL 65 [(e 1),v123] W (onEnd (fun v124 W28=>wVW (alc prog 56 W28) fun v20 W30=>wV (sto prog 56 v20 v124 W30) fun W31=>wV (fad prog 56 v20 0) fun v126=>wV (ld prog 9 v126 W31) fun v127=>WCall prog pkL 69 [(e 0),v127] W31 (onEnd (fun v128 W32=>wV (fad prog 56 v20 0) fun v131=>wV (ld prog 9 v131 W32) fun v132=>WCall prog pkL 66 [(e 13),v132] W32 (onEnd (fun v133 W34=>WCall prog pkL 67 [v133] W34 (onEnd (fun v134 W36=>wVW (app prog [29,29] (e 17) v134 W36) fun v135 W38=>wV (iad prog 22 (e 0) v128) fun v138=>wV (fad prog 48 v138 3) fun v139=>wV (ld prog 5 v139 W38) fun v140=>wV (cbin prog .neq 5 true v140 (.int .u8 0)) fun v141=>wI v141 (wV (fad prog 56 v20 1) fun v143=>wV (ld prog 40 v143 W38) fun v144=>wV (clen prog 40 v144 W38) fun v145=>WCall prog pkL 67 [v145] W38 (onEnd (fun v146 W40=>wVW (app prog [29,29] v135 v146 W40) fun v147 W42=>(f18_k39 ro K) .normal (Env.of e [(17,v147),(147,v147),(146,v146),(145,v145),(144,v144),(143,v143),(142,v135),(141,v141),(140,v140),(139,v139),(138,v138),(137,v128),(136,(e 0)),(17,v135),(135,v135),(134,v134),(133,v133),(132,v132),(131,v131),(130,(e 13)),(129,(e 17)),(21,v128),(128,v128),(127,v127),(126,v126),(125,(e 0)),(20,v20),(124,v124),(123,v123),(122,v122),(121,v121),(120,v120),(119,v119),(118,(e 19)),(117,(e 11)),(116,(e 2)),(115,(e 1)),(112,v112),(111,v111),(110,(e 11)),(109,(e 19))]) ds W42) (fun ch41 W41=>(f18_k39 ro K) (.panic ch41) (Env.of e [(145,v145),(144,v144),(143,v143),(142,v135),(141,v141),(140,v140),(139,v139),(138,v138),(137,v128),(136,(e 0)),(17,v135),(135,v135),(134,v134),(133,v133),(132,v132),(131,v131),(130,(e 13)),(129,(e 17)),(21,v128),(128,v128),(127,v127),(126,v126),(125,(e 0)),(20,v20),(124,v124),(123,v123),(122,v122),(121,v121),(120,v120),(119,v119),(118,(e 19)),(117,(e 11)),(116,(e 2)),(115,(e 1)),(112,v112),(111,v111),(110,(e 11)),(109,(e 19))]) ds W41))) ((f18_k39 ro K) .normal (Env.of e [(141,v141),(140,v140),(139,v139),(138,v138),(137,v128),(136,(e 0)),(17,v135),(135,v135),(134,v134),(133,v133),(132,v132),(131,v131),(130,(e 13)),(129,(e 17)),(21,v128),(128,v128),(127,v127),(126,v126),(125,(e 0)),(20,v20),(124,v124),(123,v123),(122,v122),(121,v121),(120,v120),(119,v119),(118,(e 19)),(117,(e 11)),(116,(e 2)),(115,(e 1)),(112,v112),(111,v111),(110,(e 11)),(109,(e 19))]) ds W38)) (fun ch37 W37=>(f18_k27 ro K) (.panic ch37) (Env.of e [(133,v133),(132,v132),(131,v131),(130,(e 13)),(129,(e 17)),(21,v128),(128,v128),(127,v127),(126,v126),(125,(e 0)),(20,v20),(124,v124),(123,v123),(122,v122),(121,v121),(120,v120),(119,v119),(118,(e 19)),(117,(e 11)),(116,(e 2)),(115,(e 1)),(112,v112),(111,v111),(110,(e 11)),(109,(e 19))]) ds W37))) (fun ch35 W35=>(f18_k27 ro K) (.panic ch35) (Env.of e [(132,v132),(131,v131),(130,(e 13)),(129,(e 17)),(21,v128),(128,v128),(127,v127),(126,v126),(125,(e 0)),(20,v20),(124,v124),(123,v123),(122,v122),(121,v121),(120,v120),(119,v119),(118,(e 19)),(117,(e 11)),(116,(e 2)),(115,(e 1)),(112,v112),(111,v111),(110,(e 11)),(109,(e 19))]) ds W35))) (fun ch33 W33=>(f18_k27 ro K) (.panic ch33) (Env.of e [(127,v127),(126,v126),(125,(e 0)),(20,v20),(124,v124),(123,v123),(122,v122),(121,v121),(120,v120),(119,v119),(118,(e 19)),(117,(e 11)),(116,(e 2)),(115,(e 1)),(112,v112),(111,v111),(110,(e 11)),(109,(e 19))]) ds W33))) (fun ch29 W29=>(f18_k27 ro K) (.panic ch29) (Env.of e [(123,v123),(122,v122),(121,v121),(120,v120),(119,v119),(118,(e 19)),(117,(e 11)),(116,(e 2)),(115,(e 1)),(112,v112),(111,v111),(110,(e 11)),(109,(e 19))]) ds W29))) (K (.exit 6) (Env.of e [(112,v112),(111,v111),(110,(e 11)),(109,(e 19))]) ds W)):=by kernel_rfl
def f18_k43 (ro:Option Nat) (K:Kont):Kont:=seqK (fun e ds W=>wV (cbin prog .add 3 true (e 22) (.int .i64 1)) fun v154=>K .normal (Env.of e [(22,v154),(154,v154),(153,(e 22))]) ds W) K
theorem f18_l4 (ro:Option Nat) (e:Env) (ds:List Deferred) (K:Kont) (W:CW):wCode prog pkL ro 18 181 (loopAt prog 18 4) e ds W K=(wV (fad prog 56 (e 20) 1) fun v149=>wV (ld prog 40 v149 W) fun v150=>wV (clen prog 40 v150 W) fun v151=>wV (cbin prog .lss 3 false (e 22) v151) fun v152=>wI v152 (WCall prog pkL 70 [(e 0),(e 21),(e 22)] W (onEnd (fun v158 W44=>wV (cbin prog .eql 5 true v158 (.int .u8 2)) fun v159=>wI v159 (wV (fad prog 56 (e 20) 1) fun v162=>wV (ld prog 40 v162 W44) fun v163=>wV (iad prog 40 v163 (e 22)) fun v165=>wV (ld prog 3 v165 W44) fun v166=>wV (iad prog 40 (e 12) v166) fun v167=>wV (ld prog 3 v167 W44) fun v168=>WCall prog pkL 67 [v168] W44 (onEnd (fun v169 W46=>wVW (app prog [29,29] (e 17) v169 W46) fun v170 W48=>(f18_k43 ro K) .normal (Env.of e [(17,v170),(170,v170),(169,v169),(168,v168),(167,v167),(166,v166),(165,v165),(164,(e 22)),(163,v163),(162,v162),(161,(e 12)),(160,(e 17)),(159,v159),(158,v158),(157,(e 22)),(156,(e 21)),(155,(e 0)),(152,v152),(151,v151),(150,v150),(149,v149),(148,(e 22))]) ds W48) (fun ch47 W47=>(f18_k43 ro K) (.panic ch47) (Env.of e [(168,v168),(167,v167),(166,v166),(165,v165),(164,(e 22)),(163,v163),(162,v162),(161,(e 12)),(160,(e 17)),(159,v159),(158,v158),(157,(e 22)),(156,(e 21)),(155,(e 0)),(152,v152),(151,v151),(150,v150),(149,v149),(148,(e 22))]) ds W47))) (wV (fad prog 56 (e 20) 1) fun v172=>wV (ld prog 40 v172 W44) fun v173=>wV (iad prog 40 v173 (e 22)) fun v175=>wV (ld prog 3 v175 W44) fun v176=>WCall prog pkL 71 [v176] W44 (onEnd (fun v177 W49=>WCall prog pkL 67 [v177] W49 (onEnd (fun v178 W51=>wVW (app prog [29,29] (e 17) v178 W51) fun v179 W53=>(f18_k43 ro K) .normal (Env.of e [(17,v179),(179,v179),(178,v178),(177,v177),(176,v176),(175,v175),(174,(e 22)),(173,v173),(172,v172),(171,(e 17)),(159,v159),(158,v158),(157,(e 22)),(156,(e 21)),(155,(e 0)),(152,v152),(151,v151),(150,v150),(149,v149),(148,(e 22))]) ds W53) (fun ch52 W52=>(f18_k43 ro K) (.panic ch52) (Env.of e [(177,v177),(176,v176),(175,v175),(174,(e 22)),(173,v173),(172,v172),(171,(e 17)),(159,v159),(158,v158),(157,(e 22)),(156,(e 21)),(155,(e 0)),(152,v152),(151,v151),(150,v150),(149,v149),(148,(e 22))]) ds W52))) (fun ch50 W50=>(f18_k43 ro K) (.panic ch50) (Env.of e [(176,v176),(175,v175),(174,(e 22)),(173,v173),(172,v172),(171,(e 17)),(159,v159),(158,v158),(157,(e 22)),(156,(e 21)),(155,(e 0)),(152,v152),(151,v151),(150,v150),(149,v149),(148,(e 22))]) ds W50)))) (fun ch45 W45=>(f18_k43 ro K) (.panic ch45) (Env.of e [(157,(e 22)),(156,(e 21)),(155,(e 0)),(152,v152),(151,v151),(150,v150),(149,v149),(148,(e 22))]) ds W45))) (K (.exit 8) (Env.of e [(152,v152),(151,v151),(150,v150),(149,v149),(148,(e 22))]) ds W)):=by kernel_rfl
theorem f18_leave (Q:Ending→CW→Prop) (e:Env) (W:CW):wLeave prog Tryz.f18 Q .ret e [] W=Q (.returned (.tuple #[e 8,e 9])) W:=by kernel_rfl
theorem f18_w {Q:Ending→CW→Prop} {v0 v1 v2 v3:Value} {W:CW} (h:wCode prog pkL none 18 181 (bodyOf prog 18) (Env.args [v0,v1,v2,v3]) [] W (wLeave prog Tryz.f18 Q)):WCall prog pkL 18 [v0,v1,v2,v3] W Q:=wCall_of Tryz.func18 (by kernel_rfl) (by kernel_rfl) (by kernel_rfl) (by kernel_rfl) (by kernel_rfl) h
end Go.Ce
namespace Go.Ce
open Go Go.Proofs Go.Proofs.Tryz
def spcOf (l:List Spc) (s:ByteArray):Option Spc:=l.find? fun x=>decide (x.type=s)
def valAt (x:Thg) (m:Int):Int:=(x.vals[m.toNat]?).getD 0
def writtenP (l:List Spc) (x:Thg):Thg:=match spcOf l x.type with
 | some s=>⟨s.to,s.map.map (valAt x)⟩
 | none=>x
def intv (l:List Int):List Value:=l.map fun k=>Value.int .i64 k
theorem s40:siz prog 40=some 1:=by kernel_rfl
theorem s51:siz prog 51=some 1:=by kernel_rfl
theorem s29:siz prog 29=some 1:=by kernel_rfl
theorem s45:siz prog 45=some 1:=by kernel_rfl
theorem z56:zer prog 56=some (.agg #[.string ⟨#[]⟩,.slice none 0 0]):=by kernel_rfl
theorem RInt.of {W:CW} {v:Value} {l:List Int} (h:IsSl 1 (fun b o x=>W.cell b o=some (Value.int .i64 x)) v l) (hb:∀ x,x ∈ l→-9223372036854775808≤x∧x≤9223372036854775807):IsSl 1 (RInt W) v l:=by
 obtain ⟨a,cap,h1,h2⟩:=h
 exact ⟨a,cap,h1,fun i x hx=>by obtain ⟨p,hp,hr⟩:=h2 i x hx; exact ⟨p,hp,hr,hb x (List.mem_of_getElem? hx)⟩⟩
theorem find_pre {l:List Spc} {s:ByteArray} {i:Nat} (hi:i<l.length) (h:decide (l[i].type=s)=true) (hpre:∀ j,j<i→decide ((l[j]?).map (·.type)=some s)=false):spcOf l s=some l[i]:=by
 unfold spcOf
 rw [List.find?_eq_some_iff_getElem]
 refine ⟨h,i,hi,rfl,fun j hj=>?_⟩
 have:=hpre j hj
 rw [List.getElem?_eq_getElem (by omega)] at this
 simpa using this
theorem find_none {l:List Spc} {s:ByteArray} (hpre:∀ j,j<l.length→decide ((l[j]?).map (·.type)=some s)=false):spcOf l s=none:=by
 unfold spcOf
 rw [List.find?_eq_none]
 intro x hx
 obtain ⟨j,hj,rfl⟩:=List.mem_iff_getElem.1 hx
 have:=hpre j hj
 rw [List.getElem?_eq_getElem hj] at this
 simpa using this
theorem bld56 (s:ByteArray):bld prog 56 [(0,.string s)]=some (.agg [.string s,.slice none 0 0].toArray):=by kernel_rfl
theorem f65_vals {e:Env} {A W:CW} {K:Kont} {v0 vx:Value} {b3 b6 i:Nat} {l:List Spc} {s:Spc} {x:Thg} (hA:Top A) (ht:Top W) (hk:Kp A W) (hl:IsSl 3 (RSpc A) v0 l) (hs:l[i]?=some s) (h0:e 0=v0) (h5:e 5=.int .i64 i) (h3:e 3=.pointer (some ⟨b3,0,none⟩)) (h6:e 6=.pointer (some ⟨b6,0,none⟩)) (hb3:A.cell b3 1=some vx) (hvx:IsSl 1 (RInt A) vx x.vals) (hb6:A.sz≤b6) (hB:Blk W b6 56 [.string s.to,.slice none 0 0])
  (hm:∀ m,m ∈ s.map→0≤m∧m.toNat<x.vals.length) (hlen:s.map.length<100000)
  (hex:∀ e' W' vo,Kp A W'→Top W'→Newer A.sz vo→Blk W' b6 56 [.string s.to,vo]→Own W' 3 1 vo (intv (s.map.map (valAt x)))→Agree [0,3,4,5,6] e e'→K (.exit 2) e' [] W') :
  WEnv prog pkL none 65 57 (.loop (loopAt prog 65 1)) (Env.of e [(7,.int .i64 0)]) [] W K:=by
 refine w_for (fun m e' ds' W'=>ds'=[]∧Kp A W'∧Top W'∧Agree [0,3,4,5,6] e e'∧e' 7=.int .i64 m∧∃ vo,Blk W' b6 56 [.string s.to,vo]∧Own W' 3 1 vo (intv ((s.map.take m).map (valAt x)))∧Newer A.sz vo) s.map.length ⟨rfl,hk,ht,.put rfl,rfl,_,hB,Own.nil,Newer.nil _ _ _⟩ ?_
 rintro m e' ds' W' hm' ⟨rfl,k',t',hAg,h7,vo,hB',ho,hnw⟩
 have hl':IsSl 3 (RSpc W') v0 l:=hl.imp fun _ _ _ hr=>hr.kp hA k'
 have hvx':IsSl 1 (RInt W') vx x.vals:=hvx.imp fun _ _ _ hr=>hr.kp hA k'
 obtain ⟨a,cap,rfl,hcell⟩:=hl'
 obtain ⟨ax,capx,rfl,hxc⟩:=hvx'
 have hil:=(List.getElem?_eq_some_iff.1 hs).1
 obtain ⟨p,rfl,hr⟩:=hcell i _ hs
 obtain ⟨vm,hvm,am,capm,rfl,hmc⟩:=rspc_map hr
 have g0:=(hAg 0 (by decide)).trans h0
 have g3:=(hAg 3 (by decide)).trans h3
 have g5:=(hAg 5 (by decide)).trans h5
 have g6:=(hAg 6 (by decide)).trans h6
 rw [f65_l1,h7,g0,g3,g5,g6,iad_sl u23 s58 hil]
 simp only [wV_some,fad58_2,hvm,clen_sl u40,cbin_lss]
 refine w_lt (fun hlt=>?_) (fun hge=>?_)
 ·have hx:=List.getElem?_eq_getElem hlt
  obtain ⟨q,rfl,hq⟩:=hmc m _ hx
  obtain ⟨hm0,hm1⟩:=hm _ (List.getElem_mem hlt)
  have hxx:=List.getElem?_eq_getElem hm1
  obtain ⟨qx,rfl,hqx⟩:=hxc _ _ hxx
  have q6:ld prog 40 (.pointer (some ⟨b6,0+1,none⟩)) W'=some vo:=ld_word a40 (a:=⟨b6,0+1,none⟩) (hB'.cell rfl)
  have q3:ld prog 40 (.pointer (some ⟨b3,0+1,none⟩)) W'=some (.slice (some qx) x.vals.length capx):=ld_word a40 (a:=⟨b3,0+1,none⟩) (k'.cell hA hb3)
  have ex:iad prog 40 (.slice (some qx) x.vals.length capx) (.int .i64 s.map[m])=some (.pointer (some ⟨qx.block,qx.off+s.map[m].toNat*1,none⟩)):=by
   have e1:(Value.int IntKind.i64 s.map[m])=.int .i64 ((s.map[m].toNat:Nat):Int):=by rw [Int.toNat_of_nonneg hm0]
   rw [e1]; exact iad_sl u40 s3 hm1
  have q1:ld prog 3 (.pointer (some ⟨q.block,q.off+m*1,none⟩)) W'=some (.int .i64 s.map[m]):=ld_word a3 (a:=⟨q.block,q.off+m*1,none⟩) hq.1
  have q2:ld prog 3 (.pointer (some ⟨qx.block,qx.off+s.map[m].toNat*1,none⟩)) W'=some (.int .i64 x.vals[s.map[m].toNat]):=ld_word a3 (a:=⟨qx.block,qx.off+s.map[m].toNat*1,none⟩) hqx.1
  rw [iad_sl u40 s3 hlt]
  simp only [fad56_1,wV_some,q6,q3,q1,ex,q2]
  have hln:(intv ((s.map.take m).map (valAt x))).length<900000:=by simp [intv]; omega
  refine w_push2 u40 s3 z3 rfl (by omega) by3 (by omega) (bsl40 _) rfl rfl t' ho hln fun u Wa v1 W1 ka ta hpu t1 o1 n1=>?_
  have hne:=ownNe ho hB' (by decide)
  have hB1:=hpu.blk t' hB' hne
  have hn1:Newer W'.sz v1:=n1 _ (Nat.le_refl _)
  refine w_sto_word (vs:=[.string s.to,vo]) s40 (a:=⟨b6,0+1,none⟩) (ownOne o1) hB1 (by simp) fun W2 hu hB2=>?_
  have hb6l:b6<W'.sz:=hB'.lt t'
  have hu:Upd b6 W1 W2:=hu
  have k1:Kp A W1:=hpu.kp k' hnw
  have k2:Kp A W2:=k1.upd hb6 hu
  have t2:Top W2:=t1.upd (by have:=hpu.sz; omega) hu
  have qa:ld prog 40 (.pointer (some ⟨b6,0+1,none⟩)) Wa=some vo:=ld_word a40 (a:=⟨b6,0+1,none⟩) (ka.cell t' (hB'.cell rfl))
  refine ⟨by simp only [qa,and_self],trivial,?_⟩
  simp only [f65_k9,qKn,qKr,qKx,qKp,bKn,bKr,bKp,bKx,tKn,tKr,tKx,tKp,zKn,zKr,zKx,zKp]
  simp only [eKc,eKn,eKa,Nat.reduceEqDiff,↓reduceIte,gKz,gKs,dKs,and_self,h7,cbin_add,wV_some,qKn,qKr,qKx,qKp,bKn,bKr,bKp,bKx,tKn,tKr,tKx,tKp,zKn,zKr,zKx,zKp]
  refine ⟨hlt,trivial,k2,t2,(hAg.trans (.put rfl)).trans (.put rfl),by rw [inc64 (by omega)],v1,hB2,?_,fun b l c e=>?_⟩
  ·have:intv ((s.map.take (m+1)).map (valAt x))=intv ((s.map.take m).map (valAt x))++[.int .i64 x.vals[s.map[m].toNat]]:=by
    rw [List.take_add_one,hx]
    simp only [Option.toList_some,List.map_append,List.map_cons,List.map_nil,intv,valAt,hxx,Option.getD_some]
   rw [this]
   exact ownUpd o1 hu fun b l c e=>by have:=hn1 b l c e; omega
  ·have:=hn1 b l c e; have:=k'.sz; omega
 ·simp only [qKn,qKr,qKx,qKp,bKn,bKr,bKp,bKx,tKn,tKr,tKx,tKp,zKn,zKr,zKx,zKp]
  have:s.map.take m=s.map:=List.take_of_length_le (by omega)
  rw [this] at ho
  exact hex _ W' vo k' t' hnw hB' ho (hAg.trans (.put rfl))
def WrPost (vx:Value) (y:Thg) (W:CW):Ending→CW→Prop:=fun e W'=>Kp W W'∧Top W'∧∃ vv,e=.returned (.agg #[.string y.type,vv])∧IsSl 1 (RInt W') vv y.vals∧(vv=vx∨Newer W.sz vv)
theorem f65_results:Tryz.f65.results.toList=[.cell 4 56]:=by kernel_rfl
theorem written_ok {v0 v1 vx:Value} {l:List Spc} {x:Thg} {W:CW} (ht:Top W) (hl:IsSl 3 (RSpc W) v0 l) (hll:l.length<100000) (hv1:v1=.agg #[.string x.type,vx]) (hvx:IsSl 1 (RInt W) vx x.vals)
  (hm:∀ s,spcOf l x.type=some s→∀ m,m ∈ s.map→0≤m∧m.toNat<x.vals.length) (hml:∀ s,s ∈ l→s.map.length<100000) :
  WCall prog pkL 65 [v0,v1] W (WrPost vx (writtenP l x) W):=by
 refine f65_w ?_
 rw [f65_c]
 subst hv1
 refine w_bxw s56 ht fun W0 k0 t0 z0 hB3=>?_
 have hB3:Blk W0 W.sz 56 [.string x.type,vx]:=hB3
 refine w_alc z56 s56 t0 fun A kA tA zA hB4=>?_
 have hB4:Blk A W0.sz 56 [.string ⟨#[]⟩,.slice none 0 0]:=hB4
 have hB3:Blk A W.sz 56 [.string x.type,vx]:=hB3.ext t0 kA
 have k:=k0.trans kA
 have hlA:IsSl 3 (RSpc A) v0 l:=hl.imp fun _ _ _ hr=>hr.kp ht k
 have hvA:IsSl 1 (RInt A) vx x.vals:=hvx.imp fun _ _ _ hr=>hr.kp ht k
 obtain ⟨a0,cap0,rfl,hcell⟩:=hlA
 generalize hKK:wLeave prog Tryz.f65 (WrPost vx (writtenP l x) W)=K
 have hfin:∀ W1 vv,Kp A W1→Top W1→Blk W1 W0.sz 56 [.string ⟨#[]⟩,.slice none 0 0]→oneCell vv=true→(vv=vx∨Newer W.sz vv)→(∀ W2,Upd W0.sz W1 W2→IsSl 1 (RInt W2) vv (writtenP l x).vals)→∀ {K':CW→Prop},(∀ W2,(∀ e',e' 4=.pointer (some ⟨W0.sz,0,none⟩)→K .ret e' [] W2)→K' W2) →
   wV (sto prog 56 (.pointer (some ⟨W0.sz,0,none⟩)) (.agg [.string (writtenP l x).type,vv].toArray) W1) K':=by
  intro W1 vv k1 t1 hB hone hor hvv K' hK'
  refine w_sto_agg s56 (a:=⟨W0.sz,0,none⟩) (by simp only [List.all_cons,List.all_nil,hone,Bool.and_true]; rfl) rfl hB (by simp) fun W2 hu hB2=>hK' W2 fun e' h4'=>?_
  have hu:Upd W0.sz W1 W2:=hu
  rw [←hKK]
  have hB2:Blk W2 W0.sz 56 [.string (writtenP l x).type,vv]:=hB2
  refine leave_cell f65_results (p:=⟨W0.sz,0,none⟩) h4' (ld_agg (vs:=[.string (writtenP l x).type,vv]) a56 s56 rfl (by omega) hB2.cells) ?_
  exact ⟨(k.trans k1).upd (by rw [z0]; omega) hu,t1.upd (by have:=k1.sz; omega) hu,vv,rfl,hvv W2 hu,hor⟩
 refine w_for (fun i e ds W'=>ds=[]∧W'=A∧e 0=.slice a0 l.length cap0∧e 3=.pointer (some ⟨W.sz,0,none⟩)∧e 4=.pointer (some ⟨W0.sz,0,none⟩)∧e 5=.int .i64 i∧∀ j,j<i→decide ((l[j]?).map (·.type)=some x.type)=false) l.length ⟨rfl,rfl,rfl,rfl,rfl,rfl,by omega⟩ ?_
 rintro i e ds W' hi ⟨rfl,rfl,h0,h3,h4,h5,hpre⟩
 rw [f65_l0,h0,h3,h5]
 simp only [clen_sl u23,wV_some,cbin_lss]
 refine w_lt (fun hlt=>?_) (fun hge=>?_)
 ·have hs:=List.getElem?_eq_getElem hlt
  obtain ⟨p,rfl,hr⟩:=hcell i _ hs
  obtain ⟨r1,r2⟩:=fad58_w _ hr
  have q3:ld prog 9 (.pointer (some ⟨W.sz,0,none⟩)) W'=some (.string x.type):=ld_word a9 (a:=⟨W.sz,0,none⟩) (hB3.cell rfl)
  rw [iad_sl u23 s58 hlt]
  simp only [wV_some,fad58_0,fad58_1,fad56_0,r1,r2,q3,cbin_seql,bEq_dec]
  refine ⟨by simp only [and_self],trivial,wI_bool (fun hq=>?_) (fun hq=>?_)⟩
  ·have hsp:=find_pre hlt hq hpre
   have hwr:writtenP l x=⟨l[i].to,l[i].map.map (valAt x)⟩:=by unfold writtenP; rw [hsp]
   rw [bld56]
   simp only [wV_some]
   refine w_var z56 s56 rfl rfl rfl tA fun W1 k1 t1 z1 hB6=>?_
   refine f65_vals tA t1 k1 ⟨_,_,rfl,hcell⟩ hs h0 h5 h3 rfl (hB3.cell rfl) hvA (Nat.le_refl _) hB6 (hm _ hsp) (hml _ (List.getElem_mem _)) fun e' W2 vo k2 t2 hnw hB2 ho hA=>?_
   have g4:e' 4=.pointer (some ⟨W0.sz,0,none⟩):=(hA 4 (by decide)).trans h4
   have g6:e' 6=.pointer (some ⟨W'.sz,0,none⟩):=(hA 6 (by decide)).trans rfl
   simp only [qKn,qKr,qKx,qKp,bKn,bKr,bKp,bKx,tKn,tKr,tKx,tKp,zKn,zKr,zKx,zKp,if_true,f65_k8,g6]
   rw [ld_agg (vs:=[.string l[i].to,vo]) a56 s56 rfl (by omega) hB2.cells]
   simp only [wV_some]
   have hb4:Blk W2 W0.sz 56 [.string ⟨#[]⟩,.slice none 0 0]:=hB4.ext tA k2
   have hbd:∀ y,y ∈ (writtenP l x).vals→-9223372036854775808≤y∧y≤9223372036854775807:=by
    rw [hwr]
    intro y hy
    obtain ⟨m,hm1,rfl⟩:=List.mem_map.1 hy
    have hlt2:=(hm _ hsp m hm1).2
    obtain ⟨ax,cx,_,hxc⟩:=hvx
    obtain ⟨_,_,hxr⟩:=hxc _ _ (List.getElem?_eq_getElem hlt2)
    unfold valAt
    rw [List.getElem?_eq_getElem hlt2]
    exact hxr.2
   rw [g4]
   have hty:l[i].to=(writtenP l x).type:=by rw [hwr]
   rw [hty]
   refine hfin W2 vo k2 t2 hb4 (ownOne ho) (.inr fun b l c e=>Nat.le_trans k.sz (hnw b l c e)) (fun W3 hu=>RInt.of ?_ hbd) fun W3 hr=>?_
   ·have hwv:(writtenP l x).vals=l[i].map.map (valAt x):=by rw [hwr]
    rw [hwv]
    exact ownMap (ownUpd ho hu (ownNe ho hb4 (by decide)))
   ·simp only [f65_k4,qKn,qKr,qKx,qKp,bKn,bKr,bKp,bKx,tKn,tKr,tKx,tKp,zKn,zKr,zKx,zKp,f65_k3]
    exact hr _ g4
  ·simp only [f65_k4,qKn,qKr,qKx,qKp,bKn,bKr,bKp,bKx,tKn,tKr,tKx,tKp,zKn,zKr,zKx,zKp]
   simp only [eKc,eKn,eKa,Nat.reduceEqDiff,↓reduceIte,gKz,gKs,dKs,and_self,h5,cbin_add,wV_some,qKn,qKr,qKx,qKp,bKn,bKr,bKp,bKx,tKn,tKr,tKx,tKp,zKn,zKr,zKx,zKp]
   refine ⟨hlt,trivial,trivial,h0,h3,h4,by rw [inc64 (by omega)],pre_succ hpre ?_⟩
   rw [hs]; simpa using hq
 ·have hsp:=find_none fun j hj=>hpre j (by omega)
  have hwr:writtenP l x=x:=by unfold writtenP; rw [hsp]
  simp only [qKn,qKr,qKx,qKp,bKn,bKr,bKp,bKx,tKn,tKr,tKx,tKp,zKn,zKr,zKx,zKp,if_true,f65_k3]
  simp only [eKc,eKn,eKa,Nat.reduceEqDiff,↓reduceIte,gKz,gKs,dKs,and_self,h3,h4]
  rw [ld_agg (vs:=[.string x.type,vx]) a56 s56 rfl (by omega) hB3.cells]
  simp only [wV_some]
  obtain ⟨ax,cx,rfl,_⟩:=hvA
  have hty:x.type=(writtenP l x).type:=by rw [hwr]
  rw [hty]
  refine hfin W' _ (.refl _) tA hB4 rfl (.inl rfl) (fun W3 hu=>?_) fun W3 hr=>?_
  ·rw [hwr]
   exact hvx.imp fun _ _ _ hr=>hr.kp ht (k.upd (by rw [z0]; omega) hu)
  ·exact hr _ h4
end Go.Ce
namespace Go.Ce
open Go Go.Proofs Go.Proofs.Tryz
theorem spcOf_some {l:List Spc} {s:ByteArray} {x:Spc} (h:spcOf l s=some x):∃ i:Nat,l[i]?=some x∧x.type=s:=by
 unfold spcOf at h
 obtain ⟨h1,i,hi,h2,_⟩:=List.find?_eq_some_iff_getElem.1 h
 exact ⟨i,by rw [List.getElem?_eq_getElem hi,h2],by simpa using h1⟩
structure SpcIs (c:List Shp) (s:Spc) (t a:Nat):Prop where
 ti:shpI c s.type=some t
 ai:shpI c s.to=some a
 et:elemAt c t=0
 ea:elemAt c a=0
 len:s.map.length=(rowP c a).length
 map:∀ k,k<(rowP c a).length→∃ n:Int,s.map[k]?=some n∧0≤n∧n<(rowP c t).length∧(rowP c t)[n.toNat]?=(rowP c a)[k]?∧mapDup s.map k n=false
theorem spc_is {c:List Shp} {l:List Spc} (h:specOk c l=true) {i:Nat} {s:Spc} (hs:l[i]?=some s):∃ t a,SpcIs c s t a:=by
 unfold specOk at h
 simp only [Bool.and_eq_true,Bool.not_eq_true'] at h
 have hb:=anyTo_all h.2 (List.getElem?_eq_some_iff.1 hs).1
 unfold spcBad at hb
 rw [hs] at hb
 simp only at hb
 cases hti:shpI c s.type with
 | none=>rw [hti] at hb; cases hb
 | some t =>
  rw [hti] at hb
  cases hai:shpI c s.to with
  | none=>rw [hai] at hb; cases hb
  | some a =>
   rw [hai] at hb
   simp only [Bool.or_eq_false_iff,decide_eq_false_iff_not,Decidable.not_not] at hb
   obtain ⟨⟨⟨h1,h2⟩,h3⟩,h4,h5,h6⟩:=hb
   refine ⟨t,a,hti,hai,h1,h2,h5,fun k hk=>?_⟩
   have hm:=anyTo_all h6 hk
   unfold mapBad at hm
   cases hx:s.map[k]? with
   | none=>rw [hx] at hm; cases hm
   | some n =>
    rw [hx] at hm
    simp only [Bool.or_eq_false_iff,decide_eq_false_iff_not,Decidable.not_not] at hm
    obtain ⟨⟨⟨m1,m2⟩,m3⟩,m4⟩:=hm
    exact ⟨n,rfl,by omega,by omega,m3,m4⟩
structure ThgIs (c:List Shp) (x:Thg) (size i:Nat) (s:Shp):Prop where
 ti:shpI c x.type=some i
 si:c[i]?=some s
 many:manyOk c i s x.vals.length=true
 val:∀ (k:Nat) n,x.vals[k]?=some n→valueOk (kindP c i k) n size=true
theorem thing_is {c:List Shp} {x:Thg} {size:Nat} (h:thingOk c x size=true):∃ i s,ThgIs c x size i s:=by
 unfold thingOk at h
 cases hti:shpI c x.type with
 | none=>rw [hti] at h; cases h
 | some i =>
  rw [hti] at h
  have hs:=List.getElem?_eq_getElem (shpI_lt hti)
  simp only [hs,Bool.and_eq_true,Bool.not_eq_true'] at h
  refine ⟨i,_,hti,hs,h.1,fun k n hk=>?_⟩
  have:=anyTo_all h.2 (List.getElem?_eq_some_iff.1 hk).1
  rw [hk] at this
  simpa using this
theorem thing_of {c:List Shp} {x:Thg} {size i:Nat} {s:Shp} (h:ThgIs c x size i s):thingOk c x size=true:=by
 unfold thingOk
 rw [h.ti]
 simp only [h.si,h.many,Bool.true_and]
 rw [anyTo_false fun j hj=>?_]
 ·rfl
 ·have:=List.getElem?_eq_getElem hj
  rw [this]
  simp only [h.val j _ this,Bool.not_true]
theorem things_all {c:List Shp} {h:List Thg} (ht:¬thingsI c h≥0):h.length≤1000∧∀ x,x ∈ h→thingOk c x h.length=true:=by
 unfold thingsI at ht
 by_cases hl:1000<h.length
 ·rw [if_pos hl] at ht; omega
 ·rw [if_neg hl] at ht
  refine ⟨by omega,fun x hx=>?_⟩
  unfold idxI at ht
  cases hf:h.findIdx? fun x=>!thingOk c x h.length with
  | some i=>rw [hf] at ht; simp only at ht; omega
  | none =>
   rw [List.findIdx?_eq_none_iff] at hf
   simpa using hf x hx
theorem many_row {c:List Shp} {i many:Nat} {s:Shp} (hs:c[i]?=some s) (he:elemAt c i=0) (hm:manyOk c i s many=true):many=(rowP c i).length:=by
 unfold manyOk at hm
 unfold elemAt at he
 rw [hs] at he
 rw [if_neg (by simpa using he)] at hm
 exact of_decide_eq_true hm
theorem kind_row {c:List Shp} {i:Nat} (he:elemAt c i=0) (hi:i<c.length) (k:Nat):kindP c i k=((rowP c i)[k]?).getD 0:=by
 unfold kindP
 unfold elemAt at he
 rw [List.getElem?_eq_getElem hi] at he ⊢
 simp only at he ⊢
 rw [if_neg (by simpa using he)]
theorem written_map {c:List Shp} {l:List Spc} {x:Thg} {size:Nat} (hs:specOk c l=true) (hx:thingOk c x size=true):∀ s,spcOf l x.type=some s→∀ m,m ∈ s.map→0≤m∧m.toNat<x.vals.length:=by
 intro s hsp m hm
 obtain ⟨i,hi,hty⟩:=spcOf_some hsp
 obtain ⟨t,a,S⟩:=spc_is hs hi
 obtain ⟨ti,si,T⟩:=thing_is hx
 have hti:ti=t:=by have h1:=T.ti; rw [←hty,S.ti] at h1; exact (Option.some.inj h1).symm
 subst hti
 have hml:=many_row T.si S.et T.many
 obtain ⟨k,hk,hkm⟩:=List.mem_iff_getElem.1 hm
 obtain ⟨n,h1,h2,h3,_⟩:=S.map k (by rw [←S.len]; exact hk)
 rw [List.getElem?_eq_getElem hk,hkm] at h1
 cases h1
 omega
theorem written_ok_of {c:List Shp} {l:List Spc} {x:Thg} {size:Nat} (hs:specOk c l=true) (hx:thingOk c x size=true):thingOk c (writtenP l x) size=true:=by
 unfold writtenP
 cases hsp:spcOf l x.type with
 | none=>exact hx
 | some s =>
  obtain ⟨i,hi,hty⟩:=spcOf_some hsp
  obtain ⟨t,a,S⟩:=spc_is hs hi
  obtain ⟨ti,si,T⟩:=thing_is hx
  have hti:ti=t:=by have h1:=T.ti; rw [←hty,S.ti] at h1; exact (Option.some.inj h1).symm
  subst hti
  have hml:=many_row T.si S.et T.many
  have hal:=shpI_lt S.ai
  have htl:=shpI_lt S.ti
  refine thing_of (i:=a) (s:=c[a]) ⟨S.ai,List.getElem?_eq_getElem hal,?_,fun k n hk=>?_⟩
  ·have hea:=S.ea
   unfold elemAt at hea
   rw [List.getElem?_eq_getElem hal] at hea
   unfold manyOk
   rw [if_neg (by simpa using hea)]
   exact decide_eq_true (by rw [List.length_map]; exact S.len)
  ·have hk':k<s.map.length:=by
    have:=(List.getElem?_eq_some_iff.1 hk).1
    simpa using this
   obtain ⟨m,h1,h2,h3,h4,_⟩:=S.map k (by rw [←S.len]; exact hk')
   simp only [List.getElem?_map,h1,Option.map_some,Option.some.injEq] at hk
   have hmx:m.toNat<x.vals.length:=by omega
   have hxv:=List.getElem?_eq_getElem hmx
   have:=T.val _ _ hxv
   rw [kind_row S.et htl,h4] at this
   rw [kind_row S.ea hal,←hk]
   unfold valAt
   rw [hxv]
   exact this
def refsTo (c:List Shp) (i:Nat) (vs:List Int):Nat→List Int
 | 0=>[]
 | k+1=>refsTo c i vs k++(if kindP c i k=2 then (vs[k]?).toList else [])
def refsOf (c:List Shp) (y:Thg):List Int:=match shpI c y.type with
 | some i=>refsTo c i y.vals y.vals.length
 | none=>[]
def visit (o:List Int) (v:Int):List Int:=if 0<v∧v ∉ o then o++[v] else o
def searchP (refs:Int→List Int):Nat→List Int→Nat→List Int
 | 0,o,_=>o
 | f+1,o,n=>match o[n]? with
  | none=>o
  | some v=>searchP refs f ((refs v).foldl visit o) (n+1)
def placeOf (o:List Int) (v:Int):Int:=match o.findIdx? (fun x=>decide (x=v)) with
 | some i=>(i:Int)+1
 | none=>0
def placeL (o:List Int) (n:Nat):List Value:=(List.range n).map fun v=>Value.int .i64 (placeOf o (v:Nat))
theorem placeOf_none {o:List Int} {v:Int} (h:v ∉ o):placeOf o v=0:=by
 unfold placeOf
 have:o.findIdx? (fun x=>decide (x=v))=none:=by
  rw [List.findIdx?_eq_none_iff]
  intro x hx
  exact decide_eq_false (fun e=>h (e ▸ hx))
 rw [this]
theorem placeOf_pos {o:List Int} {v:Int} (h:v ∈ o):0<placeOf o v:=by
 unfold placeOf
 cases hf:o.findIdx? (fun x=>decide (x=v)) with
 | none =>
  rw [List.findIdx?_eq_none_iff] at hf
  have:=hf v h
  simp at this
 | some i=>simp only; omega
theorem placeOf_zero {o:List Int} {v:Int}:placeOf o v=0↔v ∉ o:=⟨fun h hm=>by have:=placeOf_pos hm; omega,placeOf_none⟩
theorem placeOf_app {o:List Int} {u v:Int} (h:v ∉ o):placeOf (o++[v]) u=if u=v then (o.length:Int)+1 else placeOf o u:=by
 unfold placeOf
 rw [List.findIdx?_append]
 by_cases e:u=v
 ·subst e
  have:o.findIdx? (fun x=>decide (x=u))=none:=by
   rw [List.findIdx?_eq_none_iff]
   intro x hx
   exact decide_eq_false (fun e=>h (e ▸ hx))
  rw [this,if_pos rfl]
  simp
 ·rw [if_neg e]
  cases hf:o.findIdx? (fun x=>decide (x=u)) with
  | some i=>simp
  | none =>
   have:([v].findIdx? fun x=>decide (x=u))=none:=by
    simp [Ne.symm e,List.findIdx?_cons]
   rw [this]; simp
theorem placeL_get (o:List Int) {n v:Nat} (h:v<n):(placeL o n)[v]?=some (.int .i64 (placeOf o v)):=by
 unfold placeL
 rw [List.getElem?_map,List.getElem?_range h]; rfl
theorem placeL_length (o:List Int) (n:Nat):(placeL o n).length=n:=by simp [placeL]
theorem placeL_put {o:List Int} {n v:Nat} (h:v<n) (hv:(v:Int) ∉ o):putAt (placeL o n) v [.int .i64 ((o.length:Int)+1)]=placeL (o++[(v:Int)]) n:=by
 apply List.ext_getElem?
 intro j
 rw [putAt_get (by rw [placeL_length]; simp only [List.length_singleton]; omega)]
 by_cases hj:j<n
 ·rw [placeL_get _ hj,placeL_get _ hj,placeOf_app hv]
  by_cases e:j=v
  ·subst e
   rw [if_pos (by simp),if_pos rfl]
   simp
  ·rw [if_neg (by simp only [List.length_singleton]; omega),if_neg (by omega)]
 ·rw [if_neg (by simp only [List.length_singleton]; omega),List.getElem?_eq_none (by rw [placeL_length]; omega),List.getElem?_eq_none (by rw [placeL_length]; omega)]
structure Found (o:List Int) (n:Nat):Prop where
 nodup:o.Nodup
 low:∀ v,v ∈ o→0<v
 high:∀ v,v ∈ o→v≤n
theorem pigeon:∀ (n:Nat) (o:List Int),o.Nodup→(∀ v,v ∈ o→0<v∧v≤n)→o.length≤n
 | 0,o,_,h=>by
  cases o with
  | nil=>exact Nat.le_refl _
  | cons a o=>have:=h a (List.mem_cons_self ..); omega
 | n+1,o,hd,h=>by
  by_cases hm:((n+1:Nat):Int) ∈ o
  ·have h1:=pigeon n (o.erase ((n+1:Nat):Int)) (hd.erase _) fun v hv=>by
    obtain ⟨h2,h3⟩:=(List.Nodup.mem_erase_iff hd).1 hv
    have:=h v h3
    omega
   rw [List.length_erase_of_mem hm] at h1
   omega
  ·have:=pigeon n o hd fun v hv=>by
    have h1:=h v hv
    have:v≠((n+1:Nat):Int):=fun e=>hm (e ▸ hv)
    omega
   omega
theorem Found.len {o:List Int} {n:Nat} (h:Found o n):o.length≤n:=pigeon n o h.nodup fun v hv=>⟨h.low v hv,h.high v hv⟩
theorem Found.visit {o:List Int} {n:Nat} (h:Found o n) {v:Int} (hv:v≤n):Found (visit o v) n:=by
 unfold Go.Ce.visit
 split
 ·rename_i hc
  refine ⟨?_,?_,?_⟩
  ·rw [List.nodup_append]
   exact ⟨h.nodup,by simp,fun a ha b hb=>by rw [List.mem_singleton.1 hb]; exact fun e=>hc.2 (e ▸ ha)⟩
  ·intro u hu
   rcases List.mem_append.1 hu with hu | hu
   ·exact h.low u hu
   ·rw [List.mem_singleton.1 hu]; exact hc.1
  ·intro u hu
   rcases List.mem_append.1 hu with hu | hu
   ·exact h.high u hu
   ·rw [List.mem_singleton.1 hu]; exact hv
 ·exact h
theorem search_end {refs:Int→List Int} {o:List Int} {n:Nat} (h:o.length≤n):∀ f,searchP refs f o n=o
 | 0=>rfl
 | f+1=>by unfold searchP; rw [List.getElem?_eq_none h]
theorem search_step {refs:Int→List Int} {o:List Int} {n f:Nat} {v:Int} (h:o[n]?=some v):searchP refs (f+1) o n=searchP refs f ((refs v).foldl visit o) (n+1):=by
 rw [searchP,h]
end Go.Ce
namespace Go.Ce
open Go Go.Proofs Go.Proofs.Tryz
theorem intv_app (o:List Int) (v:Int):intv (o++[v])=intv o++[.int .i64 v]:=by simp [intv]
theorem intv_len (o:List Int):(intv o).length=o.length:=by simp [intv]
theorem refsTo_succ {c:List Shp} {i k:Nat} {vs:List Int} {n:Int} (h:vs[k]?=some n):refsTo c i vs (k+1)=refsTo c i vs k++(if kindP c i k=2 then [n] else []):=by
 rw [refsTo,h]; rfl
theorem f64_vals {e:Env} {A W:CW} {K:Kont} {v0 vv vo:Value} {b13 bp i n:Nat} {c:List Shp} {y:Thg} {s:Shp} {o:List Int} (hA:Top A) (ht:Top W) (hk:Kp A W) (hc:IsSl 5 (RShp A) v0 c) (hC:Cat c) (hy:ThgIs c y n i s) (hvl:y.vals.length<100000) (hn:n<100000)
  (h0:e 0=v0) (h10:e 10=.slice (some ⟨bp,0,none⟩) (n+1) (n+1)) (h11:e 11=vo) (h13:e 13=.pointer (some ⟨b13,0,none⟩)) (h14:e 14=.int .i64 i) (hB:Blk W b13 56 [.string y.type,vv]) (hvv:IsSl 1 (RInt W) vv y.vals) (ho:Own W 3 1 vo (intv o)) (hp:Blk W bp 3 (placeL o (n+1))) (hF:Found o n)
  (hbp:A.sz≤bp) (hvo:Newer A.sz vo) (hb13:b13≠bp) (hb13':¬InBlk vo b13) (hvp:y.vals≠[]→∀ j,InBlk vv j→j≠bp∧¬InBlk vo j) (hvop:¬InBlk vo bp)
  (hex:∀ e' W' vo' o',Chg (fun j=>j=bp∨InBlk vo j) W W'→Top W'→Agree [0,1,2,10,12] e e'→e' 11=vo'→Own W' 3 1 vo' (intv o')→Blk W' bp 3 (placeL o' (n+1))→Found o' n→(∀ j,InBlk vo' j→j≠bp∧(InBlk vo j∨W.sz≤j))→o'=(refsOf c y).foldl visit o→K (.exit 2) e' [] W') :
  WEnv prog pkL none 64 89 (.loop (loopAt prog 64 1)) (Env.of e [(15,.int .i64 0)]) [] W K:=by
 refine w_for (fun k e' ds' W'=>ds'=[]∧∃ o' vo',Chg (fun j=>j=bp∨InBlk vo j) W W'∧Top W'∧Agree [0,1,2,10,12,13,14] e e'∧e' 11=vo'∧e' 15=.int .i64 k∧Own W' 3 1 vo' (intv o')∧Blk W' bp 3 (placeL o' (n+1))∧(∀ j,InBlk vo' j→j≠bp∧(InBlk vo j∨W.sz≤j))∧Found o' n∧o'=(refsTo c i y.vals k).foldl visit o) y.vals.length
  ⟨rfl,o,vo,.refl _ _,ht,.put rfl,h11,rfl,ho,hp,fun j hj=>⟨fun e=>hvop (e ▸ hj),.inl hj⟩,hF,rfl⟩ ?_
 rintro k e' ds' W' hkl ⟨rfl,o',vo',hch,t',hAg,g11,g15,ho',hp',hvo',hF',hfo⟩
 have hS:∀ j,(j=bp∨InBlk vo j)→A.sz≤j:=fun j hj=>by
  rcases hj with rfl | hj
  ·exact hbp
  ·exact hvo.in hj
 have kA:Kp A W':=Chg.kp hk hch hS
 have hcW:IsSl 5 (RShp W') v0 c:=hc.imp fun _ _ _ hr=>hr.kp hA kA
 have hBW:=hch.blk ht (fun h=>h.elim hb13 hb13') hB
 have hvW:IsSl 1 (RInt W') vv y.vals:=isSl_chg hvv (fun hne j hj h=>h.elim (hvp hne j hj).1 (hvp hne j hj).2) fun b o x hb hr=>⟨hch.cell ht hb hr.1,hr.2⟩
 have g0:=(hAg 0 (by decide)).trans h0
 have g10:=(hAg 10 (by decide)).trans h10
 have g13:=(hAg 13 (by decide)).trans h13
 have g14:=(hAg 14 (by decide)).trans h14
 obtain ⟨av,cv,rfl,hvc⟩:=hvW
 have q13:ld prog 40 (.pointer (some ⟨b13,0+1,none⟩)) W'=some (.slice av y.vals.length cv):=ld_word a40 (a:=⟨b13,0+1,none⟩) (hBW.cell rfl)
 rw [f64_l1,g0,g13,g14,g15]
 simp only [fad56_1,wV_some,q13,clen_sl u40,cbin_lss]
 refine w_lt (fun hlt=>?_) (fun hge=>?_)
 ·have hx:=List.getElem?_eq_getElem hlt
  obtain ⟨q,rfl,hq⟩:=hvc k _ hx
  have hic:=shpI_lt hy.ti
  have hsi:s=c[i]:=by have:=hy.si; rw [List.getElem?_eq_getElem hic] at this; exact (Option.some.inj this).symm
  have hkk:c[i].elem=0→k<(rowP c i).length:=fun he=>by
   have:=many_row hy.si (by unfold elemAt; rw [hy.si,hsi]; exact he) hy.many
   omega
  have hval:=hy.val k _ hx
  rw [iad_sl u40 s3 hlt]
  simp only [wV_some]
  rw [ld_word a3 (a:=⟨q.block,q.off+k*1,none⟩) hq.1]
  simp only [wV_some,g10,g11]
  refine w_ret (kind_ok t' hcW hC.len hC.fields hic hkk) fun W1 k1 t1=>?_
  have c1:Chg (fun j=>j=bp∨InBlk vo j) W W1:=hch.then (Chg.of_kp (S:=fun _=>False) k1) fun _ _ h=>h.elim
  have ho1:=ho'.kp t' k1
  have hp1:=hp'.ext t' k1
  have leaf:∀ (b:Bool) (e1:Env),Agree [0,1,2,10,11,12,13,14,15] e' e1→e1 77=.bool b→e1 16=.int .i64 y.vals[k]→b=(kindP c i k == 2 && decide (0<y.vals[k]∧y.vals[k] ∉ o')) →
    (f64_k17 none (forK (fun k e' ds' W'=>ds'=[]∧∃ o' vo',Chg (fun j=>j=bp∨InBlk vo j) W W'∧Top W'∧Agree [0,1,2,10,12,13,14] e e'∧e' 11=vo'∧e' 15=.int .i64 k∧Own W' 3 1 vo' (intv o')∧Blk W' bp 3 (placeL o' (n+1))∧(∀ j,InBlk vo' j→j≠bp∧(InBlk vo j∨W.sz≤j))∧Found o' n∧o'=(refsTo c i y.vals k).foldl visit o) k y.vals.length K)) .normal e1 [] W1:=by
   intro b e1 hA1 h77 h16 hb
   have r10:=(hA1 10 (by decide)).trans g10
   have r11:=(hA1 11 (by decide)).trans g11
   have r15:=(hA1 15 (by decide)).trans g15
   simp only [f64_k17,qKn,qKr,qKx,qKp,bKn,bKr,bKp,bKx,tKn,tKr,tKx,tKp,zKn,zKr,zKx,zKp,h77,h16,r10,r11]
   have hA2:Agree [0,1,2,10,12,13,14] e e1:=hAg.trans fun t ht=>hA1 t (by revert t; decide)
   refine wI_bool (fun hbb=>?_) (fun hbb=>?_)
   ·rw [hbb] at hb
    have hb:=hb.symm
    simp only [Bool.and_eq_true,beq_iff_eq,decide_eq_true_eq] at hb
    obtain ⟨hk2,hpos,hnew⟩:=hb
    have hhi:y.vals[k]≤n:=by
     unfold valueOk at hval
     rw [hk2] at hval
     simp at hval
     omega
    obtain ⟨w,hw⟩:∃ w:Nat,y.vals[k]=(w:Int):=⟨y.vals[k].toNat,by omega⟩
    rw [hw] at hpos hnew hhi
    rw [hw]
    have hol:=hF'.len
    refine w_push u40 s3 z3 rfl (by omega) by3 (by omega) (bsl40 _) rfl rfl t1 ho1 (by rw [intv_len]; omega) fun u v1 W2 hpu t2 o2 n2=>?_
    rw [←intv_app] at o2
    have hlen2:(intv (o'++[(w:Int)])).length=(o'.length+1)*1:=by rw [intv_len]; simp
    rw [ownLen u40 o2 (by omega) hlen2,iad_sl u40 s3 (by omega:w<n+1)]
    simp only [wV_some]
    have hnb:∀ b l c,vo'=.slice (some b) l c→b.block≠bp:=fun b l c e=>(hvo' b.block ⟨b,l,c,e,rfl⟩).1
    have hp2:=hpu.blk t1 hp1 hnb
    have hn2:Newer W1.sz v1:=n2 _ (Nat.le_refl _)
    have hbpl:=hp1.lt t1
    refine w_sto_word (vs:=placeL o' (n+1)) s3 (a:=⟨bp,0+w*1,none⟩) rfl hp2 (by rw [placeL_length]; show 0+w*1<n+1; omega) fun W3 hu hp3=>?_
    have hu:Upd bp W2 W3:=hu
    have hp3:Blk W3 bp 3 (putAt (placeL o' (n+1)) (0+w*1) [.int .i64 ((o'.length+1:Nat):Int)]):=hp3
    rw [show 0+w*1=w by omega,show ((o'.length+1:Nat):Int)=(o'.length:Int)+1 by omega,placeL_put (by omega) hnew] at hp3
    have hpul:=hpu.sz
    have t3:Top W3:=t2.upd (by omega) hu
    simp only [f64_k13,qKn,qKr,qKx,qKp,bKn,bKr,bKp,bKx,tKn,tKr,tKx,tKp,zKn,zKr,zKx,zKp]
    simp only [eKc,eKn,eKa,Nat.reduceEqDiff,↓reduceIte,gKz,gKs,dKs,and_self,r15,cbin_add,wV_some,qKn,qKr,qKx,qKp,bKn,bKr,bKp,bKx,tKn,tKr,tKx,tKp,zKn,zKr,zKx,zKp]
    refine ⟨hlt,trivial,o'++[(w:Int)],v1,?_,t3,?_,rfl,by rw [inc64 (by omega)],?_,hp3,fun j hj=>?_,?_,?_⟩
    ·refine (c1.then hpu.chg fun j hj hi=>?_).then hu.chg fun j hj hi=>.inl hi
     rcases (hvo' j hi).2 with h | h
     ·exact .inr h
     ·omega
    ·exact (hA2.trans (.put rfl)).trans (.put rfl)
    ·exact ownUpd o2 hu fun b l c e=>by have:=hn2 b l c e; omega
    ·have h1:=hn2.in hj
     have:=c1.sz
     exact ⟨by omega,.inr (by omega)⟩
    ·have:=hF'.visit (v:=(w:Int)) hhi
     unfold visit at this
     rwa [if_pos ⟨hpos,hnew⟩] at this
    ·rw [refsTo_succ hx,List.foldl_append,←hfo,if_pos hk2,hw]
     show _=visit o' _
     unfold visit
     rw [if_pos ⟨hpos,hnew⟩]
   ·rw [hbb] at hb
    simp only [f64_k13,qKn,qKr,qKx,qKp,bKn,bKr,bKp,bKx,tKn,tKr,tKx,tKp,zKn,zKr,zKx,zKp]
    simp only [r15,cbin_add,wV_some]
    refine ⟨hlt,trivial,o',vo',c1,t1,hA2.trans (.put rfl),r11,?_,ho1,hp1,hvo',hF',?_⟩
    ·simp only [eKc,eKn,eKa,Nat.reduceEqDiff,↓reduceIte,gKz,gKs,dKs,and_self]
     rw [inc64 (by omega)]
    ·rw [refsTo_succ hx,List.foldl_append,←hfo]
     by_cases hk2:kindP c i k=2
     ·rw [if_pos hk2]
      show _=visit o' _
      have hb:=hb.symm
      simp only [hk2,beq_self_eq_true,Bool.true_and,decide_eq_false_iff_not] at hb
      unfold visit
      rw [if_neg hb]
     ·rw [if_neg hk2]; rfl
  simp only [cbin_eql,wV_some]
  refine wI_bool (fun hb=>?_) (fun hb=>?_)
  ·simp only [cbin_gtr,wV_some]
   refine wI_bool (fun hb2=>?_) (fun hb2=>?_)
   ·have hpos:=of_decide_eq_true hb2
    have hk2:kindP c i k=2:=by simpa using hb
    have hhi:y.vals[k]≤n:=by
     unfold valueOk at hval
     rw [hk2] at hval
     simp at hval
     omega
    obtain ⟨w,hw⟩:∃ w:Nat,y.vals[k]=(w:Int):=⟨y.vals[k].toNat,by omega⟩
    have hwn:w<n+1:=by omega
    have q:ld prog 3 (.pointer (some ⟨bp,0+w*1,none⟩)) W1=some (.int .i64 (placeOf o' (w:Nat))):=ld_word a3 (a:=⟨bp,0+w*1,none⟩) (by
     show W1.cell bp (0+w*1)=_
     rw [Nat.mul_one,Nat.zero_add]
     exact hp1.cell (placeL_get o' hwn))
    have ei:iad prog 40 (.slice (some ⟨bp,0,none⟩) (n+1) (n+1)) (.int .i64 y.vals[k])=some (.pointer (some ⟨bp,0+w*1,none⟩)):=by rw [hw]; exact iad_sl u40 s3 hwn
    rw [ei]
    simp only [wV_some,q,cbin_eql]
    refine leaf (placeOf o' (w:Nat) == 0) _ (.put rfl) rfl rfl ?_
    rw [hb,Bool.true_and,hw]
    by_cases hm:(w:Int) ∈ o'
    ·rw [decide_eq_false (fun h=>h.2 hm)]
     have:=placeOf_pos hm
     simp; omega
    ·rw [decide_eq_true ⟨by omega,hm⟩,placeOf_none hm]; rfl
   ·exact leaf false _ (.put rfl) rfl rfl (by rw [decide_eq_false (fun h=>of_decide_eq_false hb2 h.1),Bool.and_false])
  ·exact leaf false _ (.put rfl) rfl rfl (by rw [hb,Bool.false_and])
 ·simp only [qKn,qKr,qKx,qKp,bKn,bKr,bKp,bKx,tKn,tKr,tKx,tKp,zKn,zKr,zKx,zKp]
  have hkl:k=y.vals.length:=by omega
  refine hex _ W' vo' o' hch t' (fun t ht=>(Agree.put rfl t (by exact ht)).trans (hAg t (by revert t; decide))) g11 ho' hp' hF' hvo' ?_
  rw [hfo,hkl]
  unfold refsOf
  rw [hy.ti]
def refsP (c:List Shp) (l:List Spc) (h:List Thg) (v:Int):List Int:=match h[(v-1).toNat]? with
 | some x=>refsOf c (writtenP l x)
 | none=>[]
def start (root:Int):List Int:=if root>0 then [root] else []
def foundP (c:List Shp) (l:List Spc) (h:List Thg) (root:Int):List Int:=searchP (refsP c l h) h.length (start root) 0
theorem Found.start {root:Int} {n:Nat} (h:root≤n):Found (start root) n:=by
 unfold Go.Ce.start
 split
 ·exact ⟨List.pairwise_singleton _ _,fun v hv=>by rw [List.mem_singleton.1 hv]; assumption,fun v hv=>by rw [List.mem_singleton.1 hv]; exact h⟩
 ·exact ⟨List.nodup_nil,fun v hv=>(by cases hv),fun v hv=>(by cases hv)⟩
theorem many_le {c:List Shp} {i m:Nat} {s:Shp} (hC:Cat c) (h:manyOk c i s m=true):m≤20100:=by
 unfold manyOk at h
 split at h
 ·have:=of_decide_eq_true h; omega
 ·have:=of_decide_eq_true h
  have h2:=fieldsP_len hC.len hC.fields i
  unfold rowP at this
  rw [List.length_map] at this
  omega
theorem thg_ld {A W:CW} (hA:Top A) (k:Kp A W) {b o:Nat} {x:Thg} (h:RThg A b o x):∃ vx,ld prog 56 (.pointer (some ⟨b,o,none⟩)) W=some (.agg #[.string x.type,vx])∧IsSl 1 (RInt W) vx x.vals∧(x.vals≠[]→∀ j,InBlk vx j→j<A.sz):=by
 obtain ⟨v,h1,h2⟩:=h.vals
 refine ⟨v,ld_agg (vs:=[.string x.type,v]) a56 s56 rfl (by omega) ?_,h2.imp fun _ _ _ hr=>hr.kp hA k,fun hne j hj=>?_⟩
 ·intro j w hj
  match j,hj with
  | 0,hj=>cases hj; exact k.cell hA h.type
  | 1,hj=>cases hj; exact k.cell hA h1
 ·obtain ⟨b,l,c,rfl,rfl⟩:=hj
  obtain ⟨a',c',e,hc⟩:=h2
  cases e
  cases hv:x.vals with
  | nil=>exact (hne hv).elim
  | cons n ns =>
   obtain ⟨p,hp,hr⟩:=hc 0 n (by rw [hv]; rfl)
   cases hp
   exact cell_lt hA hr.1
def SearchPost (o:List Int) (n:Nat) (W:CW):Ending→CW→Prop:=fun e W'=>Kp W W'∧Top W'∧∃ vo bp,e=.returned (.tuple #[vo,.slice (some ⟨bp,0,none⟩) (n+1) (n+1)])∧Own W' 3 1 vo (intv o)∧Newer W.sz vo∧Blk W' bp 3 (placeL o (n+1))∧W.sz≤bp∧Found o n
theorem placeL_nil (n:Nat):placeL [] n=List.replicate n (.int .i64 0):=by
 unfold placeL
 rw [List.eq_replicate_iff]
 refine ⟨by simp,fun x hx=>?_⟩
 obtain ⟨v,_,rfl⟩:=List.mem_map.1 hx
 rfl
theorem searched_ok {v0 v1 v2:Value} {c:List Shp} {l:List Spc} {h:List Thg} {root:Int} {W:CW} (ht:Top W) (hc:IsSl 5 (RShp W) v0 c) (hC:Cat c) (hl:IsSl 3 (RSpc W) v1 l) (hll:l.length<100000) (hml:∀ s,s ∈ l→s.map.length<100000) (hh:IsSl 2 (RThg W) v2 h)
  (hs:specOk c l=true) (hn:h.length<100000) (hth:∀ x,x ∈ h→thingOk c x h.length=true) (hvl:∀ x,x ∈ h→x.vals.length<100000) (hr0:0≤root) (hr1:root≤h.length) :
  WCall prog pkL 64 [v0,v1,v2,.int .i64 root] W (SearchPost (foundP c l h root) h.length W):=by
 refine f64_w ?_
 rw [f64_c]
 have hh2:=hh
 obtain ⟨ah,ch,rfl,_⟩:=hh2
 simp only [clen_sl u24,wV_some,cbin_add]
 rw [inc64 (by omega)]
 refine w_mks u40 s3 z3 rfl by3 (by omega) (by omega) ht fun A k0 t0 z0 hB=>?_
 rw [show List.replicate (h.length+1) (Value.int .i64 0)=placeL [] (h.length+1) from (placeL_nil _).symm] at hB
 simp only [cbin_gtr,wV_some]
 have hrest:∀ (e:Env) (W1:CW) (vo:Value),Kp W W1→Top W1→e 0=v0→e 1=v1→e 2=.slice ah h.length ch→e 10=.slice (some ⟨W.sz,0,none⟩) (h.length+1) (h.length+1)→e 11=vo→Own W1 3 1 vo (intv (start root))→(∀ j,InBlk vo j→W.sz<j)→Blk W1 W.sz 3 (placeL (start root) (h.length+1)) →
   (f64_k2 none (wLeave prog Tryz.f64 (SearchPost (foundP c l h root) h.length W))) .normal e [] W1:=by
  intro e W1 vo k1 t1 h0 h1 h2 h10 h11 ho hvo hp
  simp only [f64_k2,qKn,qKr,qKx,qKp,bKn,bKr,bKp,bKx,tKn,tKr,tKx,tKp,zKn,zKr,zKx,zKp]
  refine w_for (fun i e' ds' W'=>ds'=[]∧∃ o vo,Kp W W'∧Top W'∧Agree [0,1,2,10] e e'∧e' 11=vo∧e' 12=.int .i64 i∧Own W' 3 1 vo (intv o)∧(∀ j,InBlk vo j→W.sz<j)∧Blk W' W.sz 3 (placeL o (h.length+1))∧Found o h.length∧searchP (refsP c l h) (h.length-i) o i=foundP c l h root) h.length
   ⟨rfl,_,vo,k1,t1,.put rfl,h11,rfl,ho,hvo,hp,.start hr1,rfl⟩ ?_
  rintro i e' ds' W' hi ⟨rfl,o,vo,k',t',hAg,g11,g12,ho,hvo,hp,hF,hR⟩
  have g0:=(hAg 0 (by decide)).trans h0
  have g1:=(hAg 1 (by decide)).trans h1
  have g2:=(hAg 2 (by decide)).trans h2
  have g10:=(hAg 10 (by decide)).trans h10
  have hol:=hF.len
  have hol1:(intv o).length=o.length*1:=by rw [intv_len]; omega
  rw [f64_l0,g0,g1,g2,g11,g12,ownLen u40 ho (by omega) hol1]
  simp only [wV_some,cbin_lss]
  refine w_lt (fun hlt=>?_) (fun hge=>?_)
  ·have hx:=List.getElem?_eq_getElem hlt
   obtain ⟨ao,co,rfl,hoc⟩:=ownMap (f:=fun k=>Value.int .i64 k) ho
   obtain ⟨po,rfl,hpo⟩:=hoc i _ hx
   have hlow:=hF.low _ (List.getElem_mem hlt)
   have hhigh:=hF.high _ (List.getElem_mem hlt)
   obtain ⟨w,hw⟩:∃ w:Nat,o[i]=((w+1:Nat):Int):=⟨(o[i]-1).toNat,by omega⟩
   have hwl:w<h.length:=by omega
   have hxw:=List.getElem?_eq_getElem hwl
   obtain ⟨ah',ch',hah,hhc⟩:=hh
   cases hah
   obtain ⟨ph,rfl,hrh⟩:=hhc w _ hxw
   obtain ⟨vx,hu,hvx,hvxl⟩:=thg_ld ht k' hrh
   rw [iad_sl u40 s3 hlt]
   simp only [wV_some]
   rw [ld_word a3 (a:=⟨po.block,po.off+i*1,none⟩) hpo,hw]
   simp only [wV_some,cbin_sub]
   rw [show ((w+1:Nat):Int)-1=(w:Nat) by omega,wrap64 (by omega) (by omega),iad_sl u24 s56 hwl]
   simp only [wV_some,hu]
   have hmem:=List.getElem_mem hwl
   have hty:=hth _ hmem
   refine (written_ok t' (hl.imp fun _ _ _ hr=>hr.kp ht k') hll rfl hvx (written_map hs hty) hml).mono fun en W7 ⟨k7,t7,vv,hen,hvv,hor⟩=>?_
   subst hen
   simp only [onEnd]
   have hyt:=written_ok_of hs hty
   obtain ⟨iy,sy,Y⟩:=thing_is hyt
   generalize hy:writtenP l h[w]=y at hvv hyt Y
   have hvv':=hvv
   obtain ⟨av,cv,rfl,_⟩:=hvv'
   refine w_var (ws:=[.string y.type,.slice av y.vals.length cv]) z56 s56 rfl rfl rfl t7 fun W10 k10 t10 z10 hB13=>?_
   simp only [fad56_0,wV_some]
   rw [ld_word a9 (a:=⟨W7.sz,0,none⟩) (hB13.cell rfl)]
   simp only [wV_some]
   have kk:=k7.trans k10
   refine w_gives (find_ok (hc.imp fun _ _ _ hr=>hr.kp ht (k'.trans kk)) (by have:=hC.len; omega)) ?_
   rw [findI_some Y.ti]
   have hol':∀ j,InBlk (.slice (some po) o.length co) j→j<W'.sz:=fun j hj=>ownLt t' ho hj
   have hpl:=hp.lt t'
   have h7:=k7.sz
   have hvvn:y.vals≠[]→∀ j,InBlk (.slice av y.vals.length cv) j→j<W.sz∨W'.sz≤j:=fun hne j hj=>by
    rcases hor with e | hnw
    ·left
     subst e
     refine hvxl (fun hnil=>hne ?_) j hj
     obtain ⟨a1,c1,e1,_⟩:=hvx
     injection e1 with _ e2 _
     exact List.length_eq_zero_iff.1 (by rw [e2,hnil]; rfl)
    ·exact .inr (hnw.in hj)
   have hyl:y.vals.length<100000:=by have:=many_le hC Y.many; omega
   refine f64_vals (A:=W) (vo:=.slice (some po) o.length co) ht t10 (k'.trans kk) hc hC Y hyl hn g0 g10 g11 rfl rfl hB13 (hvv.imp fun _ _ _ hr=>hr.kp t7 k10) (ho.kp t' kk) (hp.ext t' kk) hF (Nat.le_refl _) (fun b l c e=>Nat.le_of_lt (hvo _ ⟨b,l,c,e,rfl⟩)) (by omega) (fun hj=>by have:=hol' _ hj; omega) (fun hne j hj=>?_) (fun hj=>by have:=hvo _ hj; omega) fun e2 W2 vo2 o2 hch2 t2 hA2 g2_11 ho2 hp2 hF2 hvo2 hfo2=>?_
   ·rcases hvvn hne j hj with h | h
    ·exact ⟨by omega,fun hj2=>by have:=hvo _ hj2; omega⟩
    ·exact ⟨by omega,fun hj2=>by have:=hol' _ hj2; omega⟩
   ·have q12:e2 12=.int .i64 i:=(hA2 12 (by decide)).trans g12
    simp only [qKn,qKr,qKx,qKp,bKn,bKr,bKp,bKx,tKn,tKr,tKx,tKp,zKn,zKr,zKx,zKp,if_true,f64_k6,q12,cbin_add,wV_some]
    refine ⟨by omega,trivial,o2,vo2,?_,t2,?_,g2_11,?_,ho2,fun j hj=>?_,hp2,hF2,?_⟩
    ·exact Chg.kp (k'.trans kk) hch2 fun j hj=>by
      rcases hj with rfl | hj
      ·exact Nat.le_refl _
      ·exact Nat.le_of_lt (hvo _ hj)
    ·exact fun t ht=>by
      simp only [List.mem_cons,List.not_mem_nil,or_false] at ht
      rcases ht with rfl | rfl | rfl | rfl
      ·exact ((hA2 0 (by decide)).trans g0).trans h0.symm
      ·exact ((hA2 1 (by decide)).trans g1).trans h1.symm
      ·exact ((hA2 2 (by decide)).trans g2).trans h2.symm
      ·exact ((hA2 10 (by decide)).trans g10).trans h10.symm
    ·simp only [eKc,eKn,eKa,Nat.reduceEqDiff,↓reduceIte,gKz,gKs,dKs,and_self]
     rw [inc64 (by omega)]
    ·rcases (hvo2 j hj).2 with h | h
     ·exact hvo _ h
     ·have:=k'.sz; have:=k10.sz; omega
    ·rw [←hR,hfo2,show h.length-i=(h.length-(i+1))+1 by omega,search_step hx]
     congr 2
     unfold refsP
     rw [hw,show (((w+1:Nat):Int)-1).toNat=w by omega,hxw]
     simp only [hy]
  ·simp only [qKn,qKr,qKx,qKp,bKn,bKr,bKp,bKx,tKn,tKr,tKx,tKp,zKn,zKr,zKx,zKp,if_true,f64_k1,f64_leave]
   have hfo:o=foundP c l h root:=by rw [←hR,search_end hge]
   refine ⟨k',t',vo,W.sz,?_,hfo ▸ ho,fun b l c e=>Nat.le_of_lt (hvo _ ⟨b,l,c,e,rfl⟩),hfo ▸ hp,Nat.le_refl _,hfo ▸ hF⟩
   simp only [eKc,eKn,eKa,Nat.reduceEqDiff,↓reduceIte,gKz,gKs,dKs,and_self,g10,g11]
 refine wI_bool (fun hr=>?_) (fun hr=>?_)
 ·have hr:=of_decide_eq_true hr
  obtain ⟨w,hw⟩:∃ w:Nat,root=(w:Int):=⟨root.toNat,by omega⟩
  subst hw
  have hst:start (w:Int)=[(w:Int)]:=by unfold start; rw [if_pos hr]
  refine w_push u40 s3 z3 rfl (by omega) by3 (by omega) (bsl40 _) rfl rfl t0 Own.nil (by simp) fun u v1 W1 hpu t1 o1 n1=>?_
  rw [iad_sl u40 s3 (by omega:w<h.length+1)]
  simp only [wV_some]
  have hB1:=hpu.blk t0 hB (fun b l c e=>by cases e)
  refine w_sto_word (vs:=placeL [] (h.length+1)) s3 (a:=⟨W.sz,0+w*1,none⟩) rfl hB1 (by rw [placeL_length]; show 0+w*1<_; omega) fun W2 hu hB2=>?_
  have hu:Upd W.sz W1 W2:=hu
  have hB2:Blk W2 W.sz 3 (putAt (placeL [] (h.length+1)) (0+w*1) [.int .i64 ((([]:List Int).length:Int)+1)]):=hB2
  rw [show 0+w*1=w by omega,placeL_put (by omega) (by simp)] at hB2
  have hn1:Newer (W.sz+1) v1:=n1 _ (by rw [z0]; exact Nat.le_refl _)
  have hps:=hpu.sz
  refine hrest _ W2 v1 ((hpu.kp k0 (Newer.nil _ _ _)).upd (Nat.le_refl _) hu) (t1.upd (by omega) hu) rfl rfl rfl rfl rfl ?_ (fun j hj=>hn1.in hj) ?_
  ·rw [hst]
   exact ownUpd o1 hu fun b l c e=>by have:=hn1 b l c e; omega
  ·rw [hst]; exact hB2
 ·have hr:=of_decide_eq_false hr
  have hst:start root=[]:=by unfold start; rw [if_neg hr]
  refine hrest _ A (.slice none 0 0) k0 t0 rfl rfl rfl rfl rfl (by rw [hst]; exact Own.nil) (fun j hj=>by obtain ⟨b,l,c,e,_⟩:=hj; cases e) ?_
  rw [hst]; exact hB
end Go.Ce
namespace Go.Ce
open Go Go.Proofs Go.Proofs.Tryz
theorem numP_small:∀ (f n:Nat),n<128 ^ (f+1)→(numP n).length≤f+1
 | 0,n,h=>by unfold numP; rw [if_pos (by simpa using h)]; simp
 | f+1,n,h=>by
  unfold numP
  split
  ·simp
  ·have:=numP_small f (n / 128) (by rw [Nat.pow_succ] at h; exact Nat.div_lt_of_lt_mul (by rw [Nat.mul_comm]; exact h))
   simp only [List.length_cons]; omega
theorem numP_len8 {n:Nat} (h:n<100000000000000):(numP n).length≤8:=numP_small 7 n (by omega)
def wordP (n:Int):Int:=if n<0 then -2*n-1 else 2*n
def addType (t:List ByteArray) (s:ByteArray):List ByteArray:=if t.any (fun x=>decide (x=s)) then t else t++[s]
def typesP (l:List Spc) (xs:List Thg):List ByteArray:=xs.foldl (fun t x=>addType t (writtenP l x).type) []
def valP (o:List Int) (kind n:Int):List Int:=if kind=2 then numP (placeOf o n).toNat else numP (wordP n).toNat
def valsTo (c:List Shp) (o:List Int) (i:Nat) (vs:List Int):Nat→List Int
 | 0=>[]
 | k+1=>valsTo c o i vs k++(match vs[k]? with
  | some n=>valP o (kindP c i k) n
  | none=>[])
def thingP (c:List Shp) (t:List ByteArray) (o:List Int) (y:Thg):List Int:=match shpI c y.type with
 | some i=>numP (idxI t fun x=>decide (x=y.type)).toNat++(if elemAt c i≠0 then numP y.vals.length else [])++valsTo c o i y.vals y.vals.length
 | none=>[]
def thingsAt (h:List Thg) (o:List Int):List Thg:=o.flatMap fun v=>(h[(v-1).toNat]?).toList
def bytesP (c:List Shp) (l:List Spc) (h:List Thg) (o:List Int):List Int :=
 [1]++numP (typesP l (thingsAt h o)).length++(typesP l (thingsAt h o)).flatMap textP++numP o.length++(thingsAt h o).flatMap fun x=>thingP c (typesP l (thingsAt h o)) o (writtenP l x)
def asBad (l:List Spc) (h:List Thg) (o:List Int):Bool:=(thingsAt h o).any fun x=>l.any fun s=>decide (s.to=x.type)
def writeP (c:List Shp) (l:List Spc) (h:List Thg) (root:Int):List Int × Int :=
 if askP c l h root≠0 then ([],askP c l h root) else if asBad l h (foundP c l h root) then ([],214) else (bytesP c l h (foundP c l h root),0)
theorem cat_row {c:List Shp} (h:catOk c=true) {i:Nat} (hi:i<c.length):(rowP c i).length≤60∧∀ (k:Nat) n,(rowP c i)[k]?=some n→n=1∨n=2:=by
 unfold catOk at h
 simp only [Bool.and_eq_true,Bool.not_eq_true'] at h
 have hb:=anyTo_all h.2.2 hi
 unfold rowBad at hb
 cases hl:lineP c c.length i with
 | none=>rw [hl] at hb; cases hb
 | some l =>
  rw [hl] at hb
  simp only [Bool.or_eq_false_iff,decide_eq_false_iff_not] at hb
  refine ⟨by unfold rowP; rw [List.length_map]; omega,fun k n hk=>?_⟩
  unfold rowP at hk
  rw [List.getElem?_map] at hk
  cases hf:(fieldsP c i)[k]? with
  | none=>rw [hf] at hk; cases hk
  | some f =>
   rw [hf] at hk
   cases hk
   have:=anyTo_all hb.2 (List.getElem?_eq_some_iff.1 hf).1
   unfold fieldBad at this
   rw [hf] at this
   simp only [Bool.or_eq_false_iff,Bool.not_eq_false'] at this
   have hk:=this.1.2
   unfold kindB at hk
   simpa using hk
theorem cat_elem {c:List Shp} (h:catOk c=true) {i:Nat} (hi:i<c.length):elemAt c i=0∨elemAt c i=1∨elemAt c i=2:=by
 unfold catOk at h
 simp only [Bool.and_eq_true,Bool.not_eq_true'] at h
 have hb:=anyTo_all h.2.1 hi
 unfold shapeBad at hb
 unfold elemAt
 rw [List.getElem?_eq_getElem hi] at hb ⊢
 simp only [Bool.or_eq_false_iff] at hb ⊢
 have h1:=hb.2.1
 by_cases he:c[i].elem=0
 ·exact .inl he
 ·rw [decide_eq_true he,Bool.true_and] at h1
  simp only [Bool.or_eq_false_iff,Bool.not_eq_false'] at h1
  have:=h1.1.1
  unfold kindB at this
  right
  simpa using this
theorem kind_is {c:List Shp} (h:catOk c=true) {i k:Nat} (hi:i<c.length) (hk:elemAt c i=0→k<(rowP c i).length):kindP c i k=1∨kindP c i k=2:=by
 by_cases he:elemAt c i=0
 ·rw [kind_row he hi,List.getElem?_eq_getElem (hk he)]
  exact (cat_row h hi).2 k _ (List.getElem?_eq_getElem (hk he))
 ·have:=cat_elem h hi
  unfold kindP
  unfold elemAt at he this
  rw [List.getElem?_eq_getElem hi] at he this ⊢
  simp only at he this ⊢
  rw [if_pos he]
  omega
theorem many_200 {c:List Shp} (h:catOk c=true) {i m:Nat} {s:Shp} (hs:c[i]?=some s) (hm:manyOk c i s m=true):m≤200:=by
 unfold manyOk at hm
 split at hm
 ·exact of_decide_eq_true hm
 ·have:=of_decide_eq_true hm
  have:=(cat_row h (List.getElem?_eq_some_iff.1 hs).1).1
  omega
theorem kinds8_app (a b:List Int):kinds8 (a++b)=kinds8 a++kinds8 b:=by simp [kinds8]
theorem kinds8_len (a:List Int):(kinds8 a).length=a.length:=by simp [kinds8]
theorem kinds8_one (a:List Int):(kinds8 a).all oneCell=true:=by
 rw [List.all_eq_true]
 intro x hx
 obtain ⟨y,_,rfl⟩:=List.mem_map.1 hx
 rfl
theorem w_cat {W:CW} (ht:Top W) {out v:Value} {bs ns:List Int} (ho:Own W 5 1 out (kinds8 bs)) (hv:Own W 5 1 v (kinds8 ns)) (hlim:bs.length+ns.length≤1000000) {K:Value→CW→Prop}
  (hk:∀ v1 W1,Chg (InBlk out) W W1→Top W1→Own W1 5 1 v1 (kinds8 (bs++ns))→(∀ j,InBlk v1 j→InBlk out j∨W.sz≤j)→K v1 W1):wVW (app prog [29,29] out v W) K:=by
 have hm:∃ a cap,v=.slice a ns.length cap∧(0<ns.length→∃ p,a=some p∧Cells W p.block p.off (kinds8 ns)):=by
  generalize hl:kinds8 ns=l at hv
  have hll:=kinds8_len ns
  rw [hl] at hll
  cases hv with
  | nil=>exact ⟨none,0,by simp at hll; rw [←hll],fun h=>by simp at hll; omega⟩
  | @some b len _ hB hbl=>exact ⟨_,len,by congr 1; omega,fun _=>⟨_,rfl,hB.cells⟩⟩
 obtain ⟨a,cap,rfl,hsrc⟩:=hm
 refine w_apps2 (news:=kinds8 ns) u29 noInt29 s5 z5 rfl (by omega) by5 (by omega) ht ho hsrc (kinds8_one _) (by rw [kinds8_len]; omega) (by rw [kinds8_len]; omega) fun v1 W1 hpu t1 o1 n1=>?_
 rw [←kinds8_app] at o1
 exact hk v1 W1 hpu.chg t1 o1 n1
theorem w_num {n:Nat} (hn:n<100000000000000) {W:CW} (ht:Top W) {out:Value} {bs:List Int} (ho:Own W 5 1 out (kinds8 bs)) (hlim:bs.length+8≤1000000) {K:Value→CW→Value→CW→Prop} {KP:List PanicEntry→CW→Prop}
  (hk:∀ v W1 v1 W2,Chg (InBlk out) W W2→Top W2→Own W2 5 1 v1 (kinds8 (bs++numP n))→(∀ j,InBlk v1 j→InBlk out j∨W.sz≤j)→Kp W W1→K v W1 v1 W2) :
  WCall prog pkL 67 [.int .i64 n] W (onEnd (fun v W1=>wVW (app prog [29,29] out v W1) fun v1 W2=>K v W1 v1 W2) KP):=by
 refine (number_ok n hn ht).mono fun en W1 ⟨k1,t1,vo,he,hv,hnw⟩=>?_
 subst he
 simp only [onEnd]
 have:=numP_len8 hn
 refine w_cat t1 (ho.kp ht k1) hv (by omega) fun v1 W2 hc t2 o2 n2=>?_
 exact hk _ _ _ _ ((Chg.of_kp k1).then hc fun _ _ h=>h) t2 o2 (fun j hj=>(n2 j hj).imp id fun h=>Nat.le_trans k1.sz h) k1
end Go.Ce
namespace Go.Ce
open Go Go.Proofs Go.Proofs.Tryz
def strs (l:List ByteArray):List Value:=l.map fun s=>Value.string s
theorem fld56_0 (s:ByteArray) (v:Value):fld prog 56 (.agg #[.string s,v]) 0=some (.string s):=by kernel_rfl
theorem bsl51 (s:ByteArray) (W:CW):bsl prog 51 1 [(0,.string s)] W=some (.slice (some ⟨W.sz,0,none⟩) 1 1,W.new (.cells (Tr.nil.putFrom 0 [.string s]) [Value.string s].length #[] 9)):=by kernel_rfl
theorem z9:zer prog 9=some (.string ⟨#[]⟩):=by kernel_rfl
theorem by9:(prog.info? 9).map (·.bytes)=some 16:=by kernel_rfl
structure Hp (c:List Shp) (h:List Thg) (o:List Int):Prop where
 found:Found o h.length
 small:h.length<100000
 ok:∀ x,x ∈ h→thingOk c x h.length=true
theorem Hp.at {c:List Shp} {h:List Thg} {o:List Int} (H:Hp c h o) {i:Nat} (hi:i<o.length):∃ w,o[i]=((w+1:Nat):Int)∧∃ hw:w<h.length,(h[(o[i]-1).toNat]?).toList=[h[w]]:=by
 have h1:=H.found.low _ (List.getElem_mem hi)
 have h2:=H.found.high _ (List.getElem_mem hi)
 refine ⟨(o[i]-1).toNat,by omega,by omega,?_⟩
 rw [List.getElem?_eq_getElem (by omega)]
 rfl
theorem thingsAt_succ {c:List Shp} {h:List Thg} {o:List Int} (H:Hp c h o) {i w:Nat} (hi:i<o.length) (hw:o[i]=((w+1:Nat):Int)) (hwl:w<h.length):thingsAt h (o.take (i+1))=thingsAt h (o.take i)++[h[w]]:=by
 unfold thingsAt
 rw [List.take_add_one,List.getElem?_eq_getElem hi]
 rw [List.flatMap_append]
 congr 1
 simp only [Option.toList_some,List.flatMap_cons,List.flatMap_nil,List.append_nil,hw]
 rw [show (((w+1:Nat):Int)-1).toNat=w by omega,List.getElem?_eq_getElem hwl]
 rfl
theorem rd_ord {W:CW} {v2 vo:Value} {h:List Thg} {o:List Int} {i w:Nat} (ho:IsSl 1 (fun b o x=>W.cell b o=some (Value.int .i64 x)) vo o) (hh:IsSl 2 (RThg W) v2 h) (hi:i<o.length) (hw:o[i]=((w+1:Nat):Int)) (hwl:w<h.length) (hs:h.length<100000) :
  ∃ p q:Addr,iad prog 40 vo (.int .i64 i)=some (.pointer (some p))∧ld prog 3 (.pointer (some p)) W=some (.int .i64 ((w+1:Nat):Int))∧cbin prog .sub 3 true (.int .i64 ((w+1:Nat):Int)) (.int .i64 1)=some (.int .i64 (w:Nat))∧iad prog 24 v2 (.int .i64 (w:Nat))=some (.pointer (some ⟨q.block,q.off,none⟩))∧RThg W q.block q.off h[w]:=by
 have hx:=List.getElem?_eq_getElem hi
 obtain ⟨a,c,rfl,hc⟩:=ho
 obtain ⟨p,rfl,hp⟩:=hc i _ hx
 obtain ⟨a2,c2,rfl,hc2⟩:=hh
 obtain ⟨q,rfl,hq⟩:=hc2 w _ (List.getElem?_eq_getElem hwl)
 refine ⟨⟨p.block,p.off+i*1,none⟩,⟨q.block,q.off+w*2,none⟩,iad_sl u40 s3 hi,?_,?_,iad_sl u24 s56 hwl,hq⟩
 ·rw [ld_word a3 (a:=⟨p.block,p.off+i*1,none⟩) hp,hw]
 ·rw [cbin_sub,wrap64 (by omega) (by omega)]
  congr 2; omega
theorem f18_as {e:Env} {W:CW} {K:Kont} {v1 v2 vo:Value} {l:List Spc} {h:List Thg} {o:List Int} {i w:Nat} (hl:IsSl 3 (RSpc W) v1 l) (hll:l.length<100000) (hh:IsSl 2 (RThg W) v2 h) (hs:h.length<100000) (ho:IsSl 1 (fun b o x=>W.cell b o=some (Value.int .i64 x)) vo o) (h1:e 1=v1) (h2:e 2=v2) (h11:e 11=vo) (h14:e 14=.int .i64 i) (hi:i<o.length) (hw:o[i]=((w+1:Nat):Int)) (hwl:w<h.length)
  (hyes:(l.any fun s=>decide (s.to=h[w].type))=true→∀ e',e' 8=.slice none 0 0→e' 9=.int .i64 214→K .ret e' [] W) (hno:(l.any fun s=>decide (s.to=h[w].type))=false→∀ e',Agree [0,1,2,11,12,13,14] e e'→K (.exit 2) e' [] W) :
  WEnv prog pkL none 18 181 (.loop (loopAt prog 18 1)) (Env.of e [(15,.int .i64 0)]) [] W K:=by
 obtain ⟨p,q,r1,r2,r3,r4,r5⟩:=rd_ord ho hh hi hw hwl hs
 have q0:ld prog 9 (.pointer (some ⟨q.block,q.off,none⟩)) W=some (.string h[w].type):=ld_word a9 (a:=⟨q.block,q.off,none⟩) r5.type
 refine w_for (fun m e' ds' W'=>ds'=[]∧W'=W∧Agree [0,1,2,11,12,13,14] e e'∧e' 15=.int .i64 m∧∀ j,j<m→(match l[j]? with | some s=>decide (s.to=h[w].type) | none=>false)=false) l.length ⟨rfl,rfl,.put rfl,rfl,by omega⟩ ?_
 rintro m e' ds' W' hm ⟨rfl,rfl,hA,h15,hpre⟩
 obtain ⟨a,cap,rfl,hcell⟩:=hl
 rw [f18_l1,h15,(hA 1 (by decide)).trans h1,(hA 2 (by decide)).trans h2,(hA 11 (by decide)).trans h11,(hA 14 (by decide)).trans h14]
 simp only [clen_sl u23,cbin_lss,wV_some]
 refine w_lt (fun hlt=>?_) (fun hge=>?_)
 ·have hx:=List.getElem?_eq_getElem hlt
  obtain ⟨ps,rfl,hr⟩:=hcell m _ hx
  rw [iad_sl u23 s58 hlt]
  simp only [wV_some,fad58_1,(fad58_w _ hr).2,r1,r2,r3,r4,fad56_0,q0,cbin_seql,bEq_dec]
  refine ⟨by simp only [and_self],trivial,wI_bool (fun hb=>?_) (fun hb=>?_)⟩
  ·simp only [f18_k22,qKn,qKr,qKx,qKp,bKn,bKr,bKp,bKx,tKn,tKr,tKx,tKp,zKn,zKr,zKx,zKp]
   exact hyes (List.any_eq_true.2 ⟨_,List.getElem_mem hlt,hb⟩) _ rfl rfl
  ·simp only [f18_k22,qKn,qKr,qKx,qKp,bKn,bKr,bKp,bKx,tKn,tKr,tKx,tKp,zKn,zKr,zKx,zKp]
   simp only [eKc,eKn,eKa,Nat.reduceEqDiff,↓reduceIte,gKz,gKs,dKs,and_self,h15,cbin_add,wV_some,qKn,qKr,qKx,qKp,bKn,bKr,bKp,bKx,tKn,tKr,tKx,tKp,zKn,zKr,zKx,zKp]
   refine ⟨hlt,trivial,trivial,(hA.trans (.put rfl)).trans (.put rfl),by rw [inc64 (by omega)],pre_succ hpre ?_⟩
   rw [hx]; exact hb
 ·simp only [qKn,qKr,qKx,qKp,bKn,bKr,bKp,bKx,tKn,tKr,tKx,tKp,zKn,zKr,zKx,zKp]
  refine hno ?_ _ (hA.trans (.put rfl))
  rw [List.any_eq_false]
  intro s hs
  obtain ⟨j,hj,rfl⟩:=List.mem_iff_getElem.1 hs
  have:=hpre j (by omega)
  rw [List.getElem?_eq_getElem hj] at this
  simpa using this
theorem strs_app (t:List ByteArray) (s:ByteArray):strs (t++[s])=strs t++[.string s]:=by simp [strs]
theorem strs_len (t:List ByteArray):(strs t).length=t.length:=by simp [strs]
theorem idxI_neg {t:List ByteArray} {s:ByteArray}:idxI t (fun x=>decide (x=s))<0↔t.any (fun x=>decide (x=s))=false:=by
 unfold idxI
 cases h:t.findIdx? fun x=>decide (x=s) with
 | none =>
  rw [List.findIdx?_eq_none_iff] at h
  simp only [List.any_eq_false]
  exact ⟨fun _ x hx=>by rw [h x hx]; simp,fun _=>by omega⟩
 | some i =>
  obtain ⟨h1,h2,_⟩:=List.findIdx?_eq_some_iff_getElem.1 h
  constructor
  ·intro h3; simp only at h3; omega
  ·intro h3
   rw [List.any_eq_true.2 ⟨_,List.getElem_mem h1,h2⟩] at h3
   cases h3
def typesTo (l:List Spc) (h:List Thg) (o:List Int) (i:Nat):List ByteArray:=typesP l (thingsAt h (o.take i))
theorem types_succ {c:List Shp} {l:List Spc} {h:List Thg} {o:List Int} (H:Hp c h o) {i w:Nat} (hi:i<o.length) (hw:o[i]=((w+1:Nat):Int)) (hwl:w<h.length):typesTo l h o (i+1)=addType (typesTo l h o i) (writtenP l h[w]).type:=by
 unfold typesTo typesP
 rw [thingsAt_succ H hi hw hwl,List.foldl_append]
 rfl
theorem addType_len (t:List ByteArray) (s:ByteArray):(addType t s).length≤t.length+1:=by
 unfold addType; split <;> simp
theorem types_len (l:List Spc):∀ (xs:List Thg) (t:List ByteArray),(xs.foldl (fun t x=>addType t (writtenP l x).type) t).length≤t.length+xs.length
 | [],t=>by simp
 | x::xs,t=>by
  have:=types_len l xs (addType t (writtenP l x).type)
  have:=addType_len t (writtenP l x).type
  simp only [List.foldl_cons,List.length_cons]
  omega
theorem thingsAt_len (h:List Thg):∀ o:List Int,(thingsAt h o).length≤o.length
 | []=>by simp [thingsAt]
 | v::o=>by
  have:=thingsAt_len h o
  have h2:((h[(v-1).toNat]?).toList).length≤1:=by cases h[(v-1).toNat]? <;> simp
  unfold thingsAt at this ⊢
  rw [List.flatMap_cons,List.length_append,List.length_cons]
  omega
theorem typesTo_len (l:List Spc) (h:List Thg) (o:List Int) (i:Nat):(typesTo l h o i).length≤o.length:=by
 have h1:=types_len l (thingsAt h (o.take i)) []
 have h2:=thingsAt_len h (o.take i)
 have:(o.take i).length≤o.length:=by rw [List.length_take]; omega
 unfold typesTo typesP
 simp only [List.length_nil] at h1
 omega
structure WrIn (A:CW) (v0 v1 v2 vo:Value) (c:List Shp) (l:List Spc) (h:List Thg) (o:List Int):Prop where
 top:Top A
 cat:IsSl 5 (RShp A) v0 c
 C:Cat c
 cok:catOk c=true
 spc:IsSl 3 (RSpc A) v1 l
 sok:specOk c l=true
 sl:l.length<100000
 sm:∀ s,s ∈ l→s.map.length<100000
 hp:IsSl 2 (RThg A) v2 h
 H:Hp c h o
 ord:IsSl 1 (fun b o x=>A.cell b o=some (Value.int .i64 x)) vo o
theorem f18_types {A W:CW} {K:Kont} {e:Env} {v0 v1 v2 vo:Value} {c:List Shp} {l:List Spc} {h:List Thg} {o:List Int} (I:WrIn A v0 v1 v2 vo c l h o) (kA:Kp A W) (ht:Top W) (h0:e 0=v0) (h1:e 1=v1) (h2:e 2=v2) (h11:e 11=vo)
  (hyes:asBad l h o=true→∀ e' W',Kp A W'→Top W'→e' 8=.slice none 0 0→e' 9=.int .i64 214→K .ret e' [] W')
  (hno:asBad l h o=false→∀ e' W' vt,Kp A W'→Top W'→Agree [0,1,2,11,12] e e'→e' 13=vt→Own W' 9 1 vt (strs (typesP l (thingsAt h o)))→K (.exit 0) e' [] W') {e1:Env} (he:Agree [0,1,2,11,12] e e1) (h13:e1 13=.slice none 0 0) (h14:e1 14=.int .i64 0) :
  WEnv prog pkL none 18 181 (.loop (loopAt prog 18 0)) e1 [] W K:=by
 have hol:=I.H.found.len
 have hhs:=I.H.small
 refine w_for (fun i e' ds' W'=>ds'=[]∧∃ vt,Kp A W'∧Top W'∧Agree [0,1,2,11,12] e e'∧e' 13=vt∧e' 14=.int .i64 i∧Own W' 9 1 vt (strs (typesTo l h o i))∧Newer A.sz vt∧((thingsAt h (o.take i)).any fun x=>l.any fun s=>decide (s.to=x.type))=false) o.length
  ⟨rfl,_,kA,ht,he,h13,h14,Own.nil,Newer.nil _ _ _,rfl⟩ ?_
 rintro i e' ds' W' hi ⟨rfl,vt,k',t',hAg,g13,g14,ht13,hnw,hpre⟩
 have g0:=(hAg 0 (by decide)).trans h0
 have g1:=(hAg 1 (by decide)).trans h1
 have g2:=(hAg 2 (by decide)).trans h2
 have g11:=(hAg 11 (by decide)).trans h11
 have ord':IsSl 1 (fun b o x=>W'.cell b o=some (Value.int .i64 x)) vo o:=I.ord.imp fun _ _ _ hr=>k'.cell I.top hr
 obtain ⟨ao,co,rfl,_⟩:=id I.ord
 rw [f18_l0,g11,g14]
 simp only [clen_sl u40,wV_some,cbin_lss]
 refine w_lt (fun hlt=>?_) (fun hge=>?_)
 ·obtain ⟨w,hw,hwl,_⟩:=I.H.at hlt
  have hts:=thingsAt_succ I.H hlt hw hwl
  have hsp':IsSl 3 (RSpc W') v1 l:=I.spc.imp fun _ _ _ hr=>hr.kp I.top k'
  have hhp':IsSl 2 (RThg W') v2 h:=I.hp.imp fun _ _ _ hr=>hr.kp I.top k'
  refine f18_as (v1:=v1) (v2:=v2) hsp' I.sl hhp' hhs ord' g1 g2 g11 g14 hlt hw hwl (fun hb e2 q8 q9=>?_) (fun hb e2 hA2=>?_)
  ·simp only [qKn,qKr,qKx,qKp,bKn,bKr,bKp,bKx,tKn,tKr,tKx,tKp,zKn,zKr,zKx,zKp,f18_k21,f18_k14]
   refine hyes ?_ _ W' k' t' q8 q9
   unfold asBad
   rw [List.any_eq_true]
   refine ⟨h[w],?_,hb⟩
   have:h[w] ∈ thingsAt h (o.take (i+1)):=by rw [hts]; simp
   unfold thingsAt at this ⊢
   obtain ⟨v,hv,hx⟩:=List.mem_flatMap.1 this
   exact List.mem_flatMap.2 ⟨v,List.mem_of_mem_take hv,hx⟩
  ·have r1:=(hA2 1 (by decide)).trans g1
   have r2:=(hA2 2 (by decide)).trans g2
   have r11:=(hA2 11 (by decide)).trans g11
   have r13:=(hA2 13 (by decide)).trans g13
   have r14:=(hA2 14 (by decide)).trans g14
   obtain ⟨p,q,q1,q2,q3,q4,_⟩:=rd_ord ord' hhp' hlt hw hwl hhs
   obtain ⟨a2,c2,rfl,hc2⟩:=id I.hp
   obtain ⟨qh,rfl,hrh⟩:=hc2 w _ (List.getElem?_eq_getElem hwl)
   have hq:q.block=qh.block∧q.off=qh.off+w*2:=by
    rw [iad_sl u24 s56 hwl] at q4
    injection q4 with q4; injection q4 with q4; injection q4 with q4
    injection q4 with q5 q6
    exact ⟨q5.symm,q6.symm⟩
   obtain ⟨vx,hu,hvx,hvxl⟩:=thg_ld I.top k' hrh
   rw [←hq.1,←hq.2] at hu
   simp only [qKn,qKr,qKx,qKp,bKn,bKr,bKp,bKx,tKn,tKr,tKx,tKp,zKn,zKr,zKx,zKp,if_true,f18_k21,r1,r2,r11,r13,r14,q1,q2,q3,q4,hu,wV_some]
   have hmem:=List.getElem_mem hwl
   have hty:=I.H.ok _ hmem
   refine (written_ok t' hsp' I.sl rfl hvx (written_map I.sok hty) I.sm).mono fun en W7 ⟨k7,t7,vv,hen,hvv,hor⟩=>?_
   subst hen
   simp only [onEnd,fld56_0,wV_some]
   have hto:=typesTo_len l h o i
   have ht7:=ht13.kp t' k7
   refine w_gives (index_ok (ownMap (f:=fun s=>Value.string s) ht7) (by omega)) ?_
   simp only [cbin_lss,wV_some]
   have ka:=k'.trans k7
   have hsucc:=types_succ (l:=l) I.H hlt hw hwl
   have hpre':((thingsAt h (o.take (i+1))).any fun x=>l.any fun s=>decide (s.to=x.type))=false:=by
    rw [hts,List.any_append,hpre]
    simp only [List.any_cons,hb,List.any_nil,Bool.or_self]
   have r0:e2 0=v0:=(hA2 0 (by decide)).trans g0
   have r12:e2 12=e 12:=(hA2 12 (by decide)).trans (hAg 12 (by decide))
   have hAg2:Agree [0,1,2,11,12] e e2:=fun t ht=>by
    simp only [List.mem_cons,List.not_mem_nil,or_false] at ht
    rcases ht with rfl | rfl | rfl | rfl | rfl
    ·exact r0.trans h0.symm
    ·exact r1.trans h1.symm
    ·exact r2.trans h2.symm
    ·exact r11.trans h11.symm
    ·exact r12
   refine wI_bool (fun hn=>?_) (fun hn=>?_)
   ·have hnone:=idxI_neg.1 (of_decide_eq_true hn)
    refine w_push u51 s9 z9 rfl (by omega) by9 (by omega) (bsl51 _) rfl rfl t7 ht7 (by rw [strs_len]; omega) fun u v1' W2 hpu t2 o2 n2=>?_
    simp only [f18_k14,qKn,qKr,qKx,qKp,bKn,bKr,bKp,bKx,tKn,tKr,tKx,tKp,zKn,zKr,zKx,zKp]
    simp only [eKc,eKn,eKa,Nat.reduceEqDiff,↓reduceIte,gKz,gKs,dKs,and_self,r14,cbin_add,wV_some,qKn,qKr,qKx,qKp,bKn,bKr,bKp,bKx,tKn,tKr,tKx,tKp,zKn,zKr,zKx,zKp]
    refine ⟨hlt,trivial,v1',hpu.kp ka hnw,t2,(hAg2.trans (.put rfl)).trans (.put rfl),rfl,by rw [inc64 (by omega)],?_,n2 _ ka.sz,hpre'⟩
    rw [hsucc]
    unfold addType
    rw [if_neg (by rw [hnone]; simp),strs_app]
    exact o2
   ·have hsome:(typesTo l h o i).any (fun x=>decide (x=(writtenP l h[w]).type))=true:=by
     cases hx:(typesTo l h o i).any (fun x=>decide (x=(writtenP l h[w]).type)) with
     | true=>rfl
     | false=>exact (of_decide_eq_false hn (idxI_neg.2 hx)).elim
    simp only [f18_k14,qKn,qKr,qKx,qKp,bKn,bKr,bKp,bKx,tKn,tKr,tKx,tKp,zKn,zKr,zKx,zKp]
    simp only [eKc,eKn,eKa,Nat.reduceEqDiff,↓reduceIte,gKz,gKs,dKs,and_self,r13,r14,cbin_add,wV_some,qKn,qKr,qKx,qKp,bKn,bKr,bKp,bKx,tKn,tKr,tKx,tKp,zKn,zKr,zKx,zKp]
    refine ⟨hlt,trivial,vt,ka,t7,(hAg2.trans (.put rfl)).trans (.put rfl),rfl,by rw [inc64 (by omega)],?_,hnw,hpre'⟩
    rw [hsucc]
    unfold addType
    rw [if_pos hsome]
    exact ht7
 ·simp only [qKn,qKr,qKx,qKp,bKn,bKr,bKp,bKx,tKn,tKr,tKx,tKp,zKn,zKr,zKx,zKp]
  have htk:o.take i=o:=List.take_of_length_le (by omega)
  rw [htk] at hpre
  unfold typesTo at ht13
  rw [htk] at ht13
  exact hno hpre _ W' vt k' t' (hAg.trans (.put rfl)) g13 ht13
end Go.Ce
namespace Go.Ce
open Go Go.Proofs Go.Proofs.Tryz
theorem textP_len {s:ByteArray} (h:s.size<1000):(textP s).length≤1008:=by
 unfold textP
 rw [List.length_append]
 have h1:=numP_len8 (n:=s.size) (by omega)
 have h2:(bytesI s).length=s.size:=by unfold bytesI; rw [List.length_map,sb_length]
 omega
theorem texts_len:∀ (ts:List ByteArray),(∀ s,s ∈ ts→s.size<1000)→(ts.flatMap textP).length≤ts.length*1008
 | [],_=>by simp
 | s::ts,h=>by
  have h1:=texts_len ts fun s hs=>h s (List.mem_cons_of_mem _ hs)
  have h2:=textP_len (h s (List.mem_cons_self ..))
  rw [List.flatMap_cons,List.length_append,List.length_cons,Nat.succ_mul]
  omega
theorem f18_texts {B W:CW} {K:Kont} {e e1:Env} {vt out:Value} {ts:List ByteArray} {bs:List Int} (tB:Top B) (kB:Kp B W) (ht:Top W) (hts:Own B 9 1 vt (strs ts)) (hsz:∀ s,s ∈ ts→s.size<1000) (htl:ts.length≤100) (hbl:bs.length≤1000) (ho:Own W 5 1 out (kinds8 bs)) (hnw:Newer B.sz out)
  (h13:e 13=vt) (he:Agree [0,1,2,11,12,13] e e1) (h17:e1 17=out) (h18:e1 18=.int .i64 0)
  (hex:∀ e' W' out',Kp B W'→Top W'→Agree [0,1,2,11,12,13] e e'→e' 17=out'→Own W' 5 1 out' (kinds8 (bs++ts.flatMap textP))→Newer B.sz out'→K (.exit 4) e' [] W') :
  WEnv prog pkL none 18 181 (.loop (loopAt prog 18 2)) e1 [] W K:=by
 refine w_for (fun i e' ds' W'=>ds'=[]∧∃ out',Kp B W'∧Top W'∧Agree [0,1,2,11,12,13] e e'∧e' 17=out'∧e' 18=.int .i64 i∧Own W' 5 1 out' (kinds8 (bs++(ts.take i).flatMap textP))∧Newer B.sz out') ts.length
  ⟨rfl,out,kB,ht,he,h17,h18,by simpa using ho,hnw⟩ ?_
 rintro i e' ds' W' hi ⟨rfl,out',k',t',hAg,g17,g18,ho',hnw'⟩
 have hts':IsSl 1 (fun b o x=>W'.cell b o=some (Value.string x)) vt ts:=ownMap (f:=fun s=>Value.string s) (hts.kp tB k')
 obtain ⟨at',ct,rfl,htc⟩:=hts'
 rw [f18_l2,(hAg 13 (by decide)).trans h13,g17,g18]
 simp only [clen_sl u51,wV_some,cbin_lss]
 refine w_lt (fun hlt=>?_) (fun hge=>?_)
 ·have hx:=List.getElem?_eq_getElem hlt
  obtain ⟨p,rfl,hp⟩:=htc i _ hx
  rw [iad_sl u51 s9 hlt]
  simp only [wV_some]
  rw [ld_word a9 (a:=⟨p.block,p.off+i*1,none⟩) hp]
  simp only [wV_some]
  have hs:=hsz _ (List.getElem_mem hlt)
  refine (text_ok t' hs).mono fun en W1 ⟨k1,t1,vo,hen,hv,hnv⟩=>?_
  subst hen
  simp only [onEnd]
  have hl1:=texts_len (ts.take i) fun s hs=>hsz s (List.mem_of_mem_take hs)
  have hl2:=textP_len hs
  have hl3:(ts.take i).length≤100:=by rw [List.length_take]; omega
  refine w_cat t1 (ho'.kp t' k1) hv (by rw [List.length_append]; omega) fun v1 W2 hc t2 o2 n2=>?_
  simp only [f18_k23,qKn,qKr,qKx,qKp,bKn,bKr,bKp,bKx,tKn,tKr,tKx,tKp,zKn,zKr,zKx,zKp]
  simp only [eKc,eKn,eKa,Nat.reduceEqDiff,↓reduceIte,gKz,gKs,dKs,and_self,g18,cbin_add,wV_some,qKn,qKr,qKx,qKp,bKn,bKr,bKp,bKx,tKn,tKr,tKx,tKp,zKn,zKr,zKx,zKp]
  refine ⟨hlt,trivial,v1,Chg.kp (k'.trans k1) hc (fun j hj=>hnw'.in hj),t2,(hAg.trans (.put rfl)).trans (.put rfl),rfl,by rw [inc64 (by omega)],?_,fun b l c e=>?_⟩
  ·rw [List.take_add_one,hx,List.flatMap_append,←List.append_assoc]
   simpa using o2
  ·rcases n2 _ ⟨b,l,c,e,rfl⟩ with h | h
   ·exact hnw'.in h
   ·have:=(k'.trans k1).sz; omega
 ·simp only [qKn,qKr,qKx,qKp,bKn,bKr,bKp,bKx,tKn,tKr,tKx,tKp,zKn,zKr,zKx,zKp]
  have htk:ts.take i=ts:=List.take_of_length_le (by omega)
  rw [htk] at ho'
  exact hex _ W' out' k' t' (hAg.trans (.put rfl)) g17 ho' hnw'
theorem valP_len {o:List Int} {k n:Int} (ho:o.length<100000) (hn:k≠2→-1000000000≤n∧n≤1000000000):(valP o k n).length≤8:=by
 unfold valP
 split
 ·refine numP_len8 ?_
  unfold placeOf
  split
  ·rename_i i hi
   have:=(List.findIdx?_eq_some_iff_getElem.1 hi).1
   omega
  ·decide
 ·rename_i hk
  have:=hn hk
  refine numP_len8 ?_
  unfold wordP
  split <;> omega
theorem valsTo_len {c:List Shp} {o:List Int} {i:Nat} {vs:List Int} (ho:o.length<100000) (hn:∀ (k:Nat) n,vs[k]?=some n→kindP c i k≠2→-1000000000≤n∧n≤1000000000):∀ k,(valsTo c o i vs k).length≤k*8
 | 0=>by simp [valsTo]
 | k+1=>by
  have h1:=valsTo_len (c:=c) (i:=i) ho hn k
  unfold valsTo
  rw [List.length_append]
  cases hx:vs[k]? with
  | none=>simp only [List.length_nil]; omega
  | some n =>
   have:=valP_len (k:=kindP c i k) ho (hn k n hx)
   simp only
   omega
theorem placeOf_le (o:List Int) (v:Int):0≤placeOf o v∧placeOf o v≤o.length:=by
 unfold placeOf
 split
 ·rename_i i hi
  have:=(List.findIdx?_eq_some_iff_getElem.1 hi).1
  omega
 ·omega
theorem thg_vals {c:List Shp} {y:Thg} {n i:Nat} {s:Shp} (h:catOk c=true) (Y:ThgIs c y n i s) {k:Nat} {v:Int} (hx:y.vals[k]?=some v):(kindP c i k=2∧0≤v∧v≤n)∨(kindP c i k=1∧-1000000000≤v∧v≤1000000000):=by
 have hv:=Y.val k v hx
 have hk:kindP c i k=1∨kindP c i k=2:=kind_is h (shpI_lt Y.ti) fun he=>by
  have:=many_row Y.si he Y.many
  have:=(List.getElem?_eq_some_iff.1 hx).1
  omega
 unfold valueOk at hv
 rcases hk with hk | hk
 ·right
  rw [hk] at hv
  simp at hv
  exact ⟨hk,by omega,by omega⟩
 ·left
  rw [hk] at hv
  simp at hv
  exact ⟨hk,by omega,by omega⟩
theorem f18_vals {A W:CW} {K:Kont} {e e1:Env} {v0 v1 v2 vo vv out:Value} {c:List Shp} {l:List Spc} {h:List Thg} {o:List Int} {bp b20 i:Nat} {y:Thg} {s:Shp} {bs:List Int} (I:WrIn A v0 v1 v2 vo c l h o) (kA:Kp A W) (ht:Top W) (hp:Blk A bp 3 (placeL o (h.length+1))) (Y:ThgIs c y h.length i s) (hB:Blk W b20 56 [.string y.type,vv]) (hvv:IsSl 1 (RInt W) vv y.vals) (hvp:y.vals≠[]→∀ j,InBlk vv j→¬InBlk out j)
  (ho:Own W 5 1 out (kinds8 bs)) (hnw:Newer A.sz out) (hbl:bs.length≤900000)
  (he:Agree [0,1,2,11,12,13,19,20,21] e e1) (h0:e 0=v0) (h12:e 12=.slice (some ⟨bp,0,none⟩) (h.length+1) (h.length+1)) (h20:e 20=.pointer (some ⟨b20,0,none⟩)) (h21:e 21=.int .i64 i) (h17:e1 17=out) (h22:e1 22=.int .i64 0)
  (hex:∀ e' W' out',Chg (InBlk out) W W'→Top W'→Agree [0,1,2,11,12,13,19] e e'→e' 17=out'→Own W' 5 1 out' (kinds8 (bs++valsTo c o i y.vals y.vals.length))→Newer A.sz out'→K (.exit 8) e' [] W') :
  WEnv prog pkL none 18 181 (.loop (loopAt prog 18 4)) e1 [] W K:=by
 have hhs:=I.H.small
 have hol:=I.H.found.len
 have hbA:=hp.lt I.top
 refine w_for (fun k e' ds' W'=>ds'=[]∧∃ out',Chg (InBlk out) W W'∧Top W'∧Agree [0,1,2,11,12,13,19,20,21] e e'∧e' 17=out'∧e' 22=.int .i64 k∧Own W' 5 1 out' (kinds8 (bs++valsTo c o i y.vals k))∧(∀ j,InBlk out' j→InBlk out j∨W.sz≤j)) y.vals.length
  ⟨rfl,out,.refl _ _,ht,he,h17,h22,by simpa [valsTo] using ho,fun j hj=>.inl hj⟩ ?_
 rintro k e' ds' W' hk ⟨rfl,out',hch,t',hAg,g17,g22,ho',hno'⟩
 have kA':Kp A W':=Chg.kp kA hch fun j hj=>hnw.in hj
 have hcW:IsSl 5 (RShp W') v0 c:=I.cat.imp fun _ _ _ hr=>hr.kp I.top kA'
 have hpW:=hp.ext I.top kA'
 have hb20:¬InBlk out b20:=fun ⟨b,l,c,e,hb⟩=>(ownNe ho hB (by decide)) b l c e hb
 have hBW:=hch.blk ht hb20 hB
 have hvW:IsSl 1 (RInt W') vv y.vals:=isSl_chg hvv (fun hne j hj hj2=>hvp hne j hj hj2) fun b o x hb hr=>⟨hch.cell ht hb hr.1,hr.2⟩
 have g0:=(hAg 0 (by decide)).trans h0
 have g12:=(hAg 12 (by decide)).trans h12
 have g20:=(hAg 20 (by decide)).trans h20
 have g21:=(hAg 21 (by decide)).trans h21
 obtain ⟨av,cv,rfl,hvc⟩:=hvW
 have q20:∀ W1,Kp W' W1→ld prog 40 (.pointer (some ⟨b20,0+1,none⟩)) W1=some (.slice av y.vals.length cv):=fun W1 k1=>ld_word a40 (a:=⟨b20,0+1,none⟩) (k1.cell t' (hBW.cell rfl))
 have hic:=shpI_lt Y.ti
 have hsi:s=c[i]:=by have:=Y.si; rw [List.getElem?_eq_getElem hic] at this; exact (Option.some.inj this).symm
 have hm2:=many_200 I.cok Y.si Y.many
 rw [f18_l4,g0,g20,g21,g22]
 simp only [fad56_1,wV_some,q20 W' (.refl _),clen_sl u40,cbin_lss]
 refine w_lt (fun hlt=>?_) (fun hge=>?_)
 ·have hx:=List.getElem?_eq_getElem hlt
  obtain ⟨q,rfl,hq⟩:=hvc k _ hx
  have hkk:c[i].elem=0→k<(rowP c i).length:=fun he=>by
   have:=many_row Y.si (by unfold elemAt; rw [Y.si,hsi]; exact he) Y.many
   omega
  have hval:=thg_vals I.cok Y hx
  have hvl:=valsTo_len (c:=c) (o:=o) (i:=i) (vs:=y.vals) (by omega) (fun k n hx hk=>by
   rcases thg_vals I.cok Y hx with h | h
   ·exact (hk h.1).elim
   ·exact h.2) k
  refine w_ret (kind_ok t' hcW I.C.len I.C.fields hic hkk) fun W1 k1 t1=>?_
  have ho1:=ho'.kp t' k1
  simp only [cbin_eql,wV_some,g12,g17]
  have q1:∀ W2,Kp W' W2→ld prog 3 (.pointer (some ⟨q.block,q.off+k*1,none⟩)) W2=some (.int .i64 y.vals[k]):=fun W2 k2=>ld_word a3 (a:=⟨q.block,q.off+k*1,none⟩) (k2.cell t' hq.1)
  have fin:∀ (W2:CW) (v1:Value) (e2:Env),Chg (InBlk out') W1 W2→Top W2→Own W2 5 1 v1 (kinds8 ((bs++valsTo c o i y.vals k)++valP o (kindP c i k) y.vals[k]))→(∀ j,InBlk v1 j→InBlk out' j∨W1.sz≤j)→Agree [0,1,2,11,12,13,19,20,21,22] e' e2→e2 17=v1 →
    (f18_k43 none (forK (fun k e' ds' W'=>ds'=[]∧∃ out',Chg (InBlk out) W W'∧Top W'∧Agree [0,1,2,11,12,13,19,20,21] e e'∧e' 17=out'∧e' 22=.int .i64 k∧Own W' 5 1 out' (kinds8 (bs++valsTo c o i y.vals k))∧(∀ j,InBlk out' j→InBlk out j∨W.sz≤j)) k y.vals.length K)) .normal e2 [] W2:=by
   intro W2 v1 e2 hc t2 o2 n2 hA2 h17
   simp only [f18_k43,qKn,qKr,qKx,qKp,bKn,bKr,bKp,bKx,tKn,tKr,tKx,tKp,zKn,zKr,zKx,zKp,(hA2 22 (by decide)).trans g22,cbin_add,wV_some]
   have hsz1:=hch.sz
   have hsz2:=k1.sz
   refine ⟨hlt,trivial,v1,(hch.then (Chg.of_kp (S:=fun _=>False) k1) fun _ _ h=>h.elim).then hc fun j hj hj2=>?_,t2,(hAg.trans fun t ht=>hA2 t (by revert t; decide)).trans (.put rfl),h17,?_,?_,fun j hj=>?_⟩
   ·rcases hno' j hj2 with h | h
    ·exact h
    ·omega
   ·simp only [eKc,eKn,eKa,Nat.reduceEqDiff,↓reduceIte,gKz,gKs,dKs,and_self]
    rw [inc64 (by omega)]
   ·have:valsTo c o i y.vals (k+1)=valsTo c o i y.vals k++valP o (kindP c i k) y.vals[k]:=by rw [valsTo,hx]
    rw [this,←List.append_assoc]
    exact o2
   ·rcases n2 j hj with h | h
    ·exact hno' j h
    ·exact .inr (by omega)
  have hbs:(bs++valsTo c o i y.vals k).length+8≤1000000:=by rw [List.length_append]; omega
  refine wI_bool (fun hb=>?_) (fun hb=>?_)
  ·have hk2:kindP c i k=2:=by simpa using hb
   obtain ⟨w,hw⟩:∃ w:Nat,y.vals[k]=(w:Int):=⟨y.vals[k].toNat,by rcases hval with h | h <;> omega⟩
   have hwn:w<h.length+1:=by rcases hval with h | h <;> omega
   have hpl:=placeOf_le o (w:Int)
   obtain ⟨z,hz⟩:∃ z:Nat,placeOf o (w:Int)=(z:Int):=⟨(placeOf o (w:Int)).toNat,by omega⟩
   have hp1:=hpW.ext t' k1
   have qp:ld prog 3 (.pointer (some ⟨bp,0+w*1,none⟩)) W1=some (.int .i64 (z:Nat)):=by
    rw [←hz]
    exact ld_word a3 (a:=⟨bp,0+w*1,none⟩) (by
     show W1.cell bp (0+w*1)=_
     rw [Nat.mul_one,Nat.zero_add]
     exact hp1.cell (placeL_get o hwn))
   simp only [q20 W1 k1,wV_some]
   rw [iad_sl u40 s3 hlt]
   simp only [q1 W1 k1,wV_some]
   rw [hw,iad_sl u40 s3 hwn]
   simp only [wV_some,qp]
   refine w_num (by omega) t1 ho1 hbs fun v W3 v1 W4 hc t4 o4 n4 k3=>?_
   refine fin W4 v1 _ hc t4 ?_ n4 (.put rfl) rfl
   have:valP o (kindP c i k) y.vals[k]=numP z:=by
    unfold valP
    rw [if_pos hk2,hw,hz]; rfl
   rw [this]; exact o4
  ·have hk2:¬kindP c i k=2:=by simpa using hb
   have hbd:-1000000000≤y.vals[k]∧y.vals[k]≤1000000000:=by
    rcases hval with h | h
    ·exact (hk2 h.1).elim
    ·exact h.2
   simp only [q20 W1 k1,wV_some]
   rw [iad_sl u40 s3 hlt]
   simp only [q1 W1 k1,wV_some]
   refine w_gives (word_ok (by omega) (by omega) _) ?_
   obtain ⟨z,hz⟩:∃ z:Nat,wordP y.vals[k]=(z:Int):=⟨(wordP y.vals[k]).toNat,by unfold wordP; split <;> omega⟩
   have hzb:z<100000000000000:=by unfold wordP at hz; split at hz <;> omega
   have hz':=hz
   unfold wordP at hz'
   rw [hz']
   refine w_num hzb t1 ho1 hbs fun v W3 v1 W4 hc t4 o4 n4 k3=>?_
   refine fin W4 v1 _ hc t4 ?_ n4 (.put rfl) rfl
   have:valP o (kindP c i k) y.vals[k]=numP z:=by
    unfold valP
    rw [if_neg hk2,hz]; rfl
   rw [this]; exact o4
 ·simp only [qKn,qKr,qKx,qKp,bKn,bKr,bKp,bKx,tKn,tKr,tKx,tKp,zKn,zKr,zKx,zKp]
  have hkl:k=y.vals.length:=by omega
  rw [hkl] at ho'
  refine hex _ W' out' hch t' (fun t ht=>(Agree.put rfl t (by exact ht)).trans (hAg t (by revert t; decide))) g17 ho' fun b l c e=>?_
  rcases hno' _ ⟨b,l,c,e,rfl⟩ with h | h
  ·exact hnw.in h
  ·have:=kA.sz; omega
end Go.Ce
namespace Go.Ce
open Go Go.Proofs Go.Proofs.Tryz
theorem WrIn.kp {A B:CW} {v0 v1 v2 vo:Value} {c:List Shp} {l:List Spc} {h:List Thg} {o:List Int} (I:WrIn A v0 v1 v2 vo c l h o) (k:Kp A B) (ht:Top B):WrIn B v0 v1 v2 vo c l h o :=
 ⟨ht,I.cat.imp fun _ _ _ hr=>hr.kp I.top k,I.C,I.cok,I.spc.imp fun _ _ _ hr=>hr.kp I.top k,I.sok,I.sl,I.sm,I.hp.imp fun _ _ _ hr=>hr.kp I.top k,I.H,I.ord.imp fun _ _ _ hr=>k.cell I.top hr⟩
theorem types_keep (l:List Spc) {s:ByteArray}:∀ (xs:List Thg) (t:List ByteArray),t.any (fun x=>decide (x=s))=true→(xs.foldl (fun t x=>addType t (writtenP l x).type) t).any (fun x=>decide (x=s))=true
 | [],t,h=>h
 | x::xs,t,h=>by
  rw [List.foldl_cons]
  refine types_keep l xs _ ?_
  unfold addType
  split
  ·exact h
  ·rw [List.any_append,h]; rfl
theorem types_has (l:List Spc):∀ (xs:List Thg) (t:List ByteArray) (x:Thg),x ∈ xs→(xs.foldl (fun t x=>addType t (writtenP l x).type) t).any (fun u=>decide (u=(writtenP l x).type))=true
 | [],t,x,h=>by cases h
 | y::xs,t,x,h=>by
  rw [List.foldl_cons]
  rcases List.mem_cons.1 h with rfl | h
  ·refine types_keep l xs _ ?_
   unfold addType
   split
   ·assumption
   ·rw [List.any_append]; simp
  ·exact types_has l xs _ x h
theorem types_from (l:List Spc) {s:ByteArray}:∀ (xs:List Thg) (t:List ByteArray),s ∈ xs.foldl (fun t x=>addType t (writtenP l x).type) t→s ∈ t∨∃ x,x ∈ xs∧s=(writtenP l x).type
 | [],t,h=>.inl h
 | y::xs,t,h=>by
  rw [List.foldl_cons] at h
  rcases types_from l xs _ h with h | ⟨x,hx,e⟩
  ·unfold addType at h
   split at h
   ·exact .inl h
   ·rcases List.mem_append.1 h with h | h
    ·exact .inl h
    ·exact .inr ⟨y,List.mem_cons_self ..,List.mem_singleton.1 h⟩
  ·exact .inr ⟨x,List.mem_cons_of_mem _ hx,e⟩
theorem mem_thingsAt {h:List Thg} {o:List Int} {x:Thg} (hx:x ∈ thingsAt h o):x ∈ h:=by
 unfold thingsAt at hx
 obtain ⟨v,_,hv⟩:=List.mem_flatMap.1 hx
 cases hg:h[(v-1).toNat]? with
 | none=>rw [hg] at hv; cases hv
 | some y=>rw [hg] at hv; rw [List.mem_singleton.1 hv]; exact List.mem_of_getElem? hg
theorem shp_name {c:List Shp} (hC:Cat c) {s:ByteArray} {i:Nat} (h:shpI c s=some i):s.size<1000:=by
 obtain ⟨h1,h2,_⟩:=List.findIdx?_eq_some_iff_getElem.1 h
 have:=hC.name _ (List.getElem_mem h1)
 rw [←of_decide_eq_true h2]; exact this
theorem thingP_len {c:List Shp} {t:List ByteArray} {o:List Int} {y:Thg} {n i:Nat} {s:Shp} (hc:catOk c=true) (Y:ThgIs c y n i s) (ho:o.length<100000) (htl:t.length<100000):(thingP c t o y).length≤1616:=by
 unfold thingP
 rw [Y.ti]
 have h1:(numP (idxI t fun x=>decide (x=y.type)).toNat).length≤8:=numP_len8 (by
  unfold idxI
  split
  ·rename_i i hi
   have:=(List.findIdx?_eq_some_iff_getElem.1 hi).1
   omega
  ·decide)
 have hm:=many_200 hc Y.si Y.many
 have h2:(if elemAt c i≠0 then numP y.vals.length else []).length≤8:=by
  split
  ·exact numP_len8 (by omega)
  ·simp
 have h3:=valsTo_len (c:=c) (o:=o) (i:=i) (vs:=y.vals) ho (fun k n hx hk=>by
   rcases thg_vals hc Y hx with h | h
   ·exact (hk h.1).elim
   ·exact h.2) y.vals.length
 simp only [List.length_append]
 omega
theorem things_len {c:List Shp} {l:List Spc} {t:List ByteArray} {o:List Int} {n:Nat} (hc:catOk c=true) (ho:o.length<100000) (htl:t.length<100000):∀ xs:List Thg,(∀ x,x ∈ xs→thingOk c (writtenP l x) n=true)→(xs.flatMap fun x=>thingP c t o (writtenP l x)).length≤xs.length*1616
 | [],_=>by simp
 | x::xs,h=>by
  have h1:=things_len (c:=c) (l:=l) (n:=n) hc ho htl xs fun x hx=>h x (List.mem_cons_of_mem _ hx)
  obtain ⟨i,s,Y⟩:=thing_is (h x (List.mem_cons_self ..))
  have h2:=thingP_len (t:=t) hc Y ho htl
  rw [List.flatMap_cons,List.length_append,List.length_cons,Nat.succ_mul]
  omega
theorem f18_things {B W:CW} {K:Kont} {e e1:Env} {v0 v1 v2 vo vt out:Value} {c:List Shp} {l:List Spc} {h:List Thg} {o:List Int} {ts:List ByteArray} {bp:Nat} {bs:List Int} (I:WrIn B v0 v1 v2 vo c l h o) (kB:Kp B W) (ht:Top W) (hp:Blk B bp 3 (placeL o (h.length+1))) (hts:Own B 9 1 vt (strs ts)) (htsE:ts=typesP l (thingsAt h o)) (hsm:h.length≤40)
  (ho:Own W 5 1 out (kinds8 bs)) (hnw:Newer B.sz out) (hbl:bs.length≤500000)
  (h0:e 0=v0) (h1:e 1=v1) (h2:e 2=v2) (h11:e 11=vo) (h12:e 12=.slice (some ⟨bp,0,none⟩) (h.length+1) (h.length+1)) (h13:e 13=vt) (he:Agree [0,1,2,11,12,13] e e1) (h17:e1 17=out) (h19:e1 19=.int .i64 0)
  (hex:∀ e' W' out',Kp B W'→Top W'→e' 17=out'→Own W' 5 1 out' (kinds8 (bs++(thingsAt h o).flatMap fun x=>thingP c ts o (writtenP l x)))→K (.exit 6) e' [] W') :
  WEnv prog pkL none 18 181 (.loop (loopAt prog 18 3)) e1 [] W K:=by
 have hhs:=I.H.small
 have hol:=I.H.found.len
 have htl:ts.length≤40:=by
  have h1:=types_len l (thingsAt h o) []
  have h2:=thingsAt_len h o
  rw [htsE]
  unfold typesP
  simp only [List.length_nil] at h1
  omega
 refine w_for (fun i e' ds' W'=>ds'=[]∧∃ out',Kp B W'∧Top W'∧Agree [0,1,2,11,12,13] e e'∧e' 17=out'∧e' 19=.int .i64 i∧Own W' 5 1 out' (kinds8 (bs++(thingsAt h (o.take i)).flatMap fun x=>thingP c ts o (writtenP l x)))∧Newer B.sz out') o.length
  ⟨rfl,out,kB,ht,he,h17,h19,by simpa [thingsAt] using ho,hnw⟩ ?_
 rintro i e' ds' W' hi ⟨rfl,out',k',t',hAg,g17,g19,ho',hnw'⟩
 have g0:=(hAg 0 (by decide)).trans h0
 have g1:=(hAg 1 (by decide)).trans h1
 have g2:=(hAg 2 (by decide)).trans h2
 have g11:=(hAg 11 (by decide)).trans h11
 have g12:=(hAg 12 (by decide)).trans h12
 have g13:=(hAg 13 (by decide)).trans h13
 have I':=I.kp k' t'
 have ord':=I'.ord
 obtain ⟨ao,co,rfl,_⟩:=id I.ord
 rw [f18_l3,g0,g1,g2,g11,g13,g17,g19]
 simp only [clen_sl u40,wV_some,cbin_lss]
 refine w_lt (fun hlt=>?_) (fun hge=>?_)
 ·obtain ⟨w,hw,hwl,_⟩:=I.H.at hlt
  have htk:=thingsAt_succ I.H hlt hw hwl
  obtain ⟨p,q,q1,q2,q3,q4,_⟩:=rd_ord ord' I'.hp hlt hw hwl hhs
  obtain ⟨a2,c2,rfl,hc2⟩:=id I.hp
  obtain ⟨qh,rfl,hrh⟩:=hc2 w _ (List.getElem?_eq_getElem hwl)
  have hq:q.block=qh.block∧q.off=qh.off+w*2:=by
   rw [iad_sl u24 s56 hwl] at q4
   injection q4 with q4; injection q4 with q4; injection q4 with q4
   injection q4 with q5 q6
   exact ⟨q5.symm,q6.symm⟩
  obtain ⟨vx,hu,hvx,hvxl⟩:=thg_ld I.top k' hrh
  rw [←hq.1,←hq.2] at hu
  simp only [q1,q2,q3,q4,hu,wV_some]
  have hmem:=List.getElem_mem hwl
  have hty:=I.H.ok _ hmem
  refine (written_ok t' I'.spc I.sl rfl hvx (written_map I.sok hty) I.sm).mono fun en W7 ⟨k7,t7,vv,hen,hvv,hor⟩=>?_
  subst hen
  simp only [onEnd]
  have hyt:=written_ok_of I.sok hty
  obtain ⟨iy,sy,Y⟩:=thing_is hyt
  have hin:h[w] ∈ thingsAt h o:=by
   have:h[w] ∈ thingsAt h (o.take (i+1)):=by rw [htk]; simp
   unfold thingsAt at this ⊢
   obtain ⟨v,hv,hx⟩:=List.mem_flatMap.1 this
   exact List.mem_flatMap.2 ⟨v,List.mem_of_mem_take hv,hx⟩
  have hhas:ts.any (fun u=>decide (u=(writtenP l h[w]).type))=true:=by rw [htsE]; exact types_has l _ [] _ hin
  generalize hy:writtenP l h[w]=y at hvv hyt Y hhas
  have hvv':=hvv
  obtain ⟨av,cv,rfl,_⟩:=hvv'
  refine w_var (ws:=[.string y.type,.slice av y.vals.length cv]) z56 s56 rfl rfl rfl t7 fun W10 k10 t10 z10 hB=>?_
  have qt:∀ W1,Kp W10 W1→ld prog 9 (.pointer (some ⟨W7.sz,0,none⟩)) W1=some (.string y.type):=fun W1 k1=>ld_word a9 (a:=⟨W7.sz,0,none⟩) (k1.cell t10 (hB.cell rfl))
  simp only [fad56_0,wV_some,qt W10 (.refl _)]
  have k710:=k7.trans k10
  have kk:=k'.trans k710
  have I10:=I.kp kk t10
  refine w_gives (find_ok I10.cat (by have:=I.C.len; omega)) ?_
  simp only [qt W10 (.refl _),wV_some]
  refine w_gives (index_ok (ownMap (f:=fun s=>Value.string s) (hts.kp I.top kk)) (by omega)) ?_
  obtain ⟨z,hz,hzl⟩:∃ z:Nat,idxI ts (fun x=>decide (x=y.type))=(z:Int)∧z<100000:=by
   unfold idxI
   cases hf:ts.findIdx? (fun x=>decide (x=y.type)) with
   | none =>
    rw [List.findIdx?_eq_none_iff] at hf
    obtain ⟨u,hu1,hu2⟩:=List.any_eq_true.1 hhas
    rw [hf u hu1] at hu2; cases hu2
   | some z =>
    have:=(List.findIdx?_eq_some_iff_getElem.1 hf).1
    exact ⟨z,rfl,by omega⟩
  rw [hz,findI_some Y.ti]
  have hlen:((thingsAt h (o.take i)).flatMap fun x=>thingP c ts o (writtenP l x)).length≤40*1616:=by
   have h1:=things_len (c:=c) (l:=l) (t:=ts) (o:=o) (n:=h.length) I.cok (by omega) (by omega) (thingsAt h (o.take i)) fun x hx=>written_ok_of I.sok (I.H.ok _ (mem_thingsAt hx))
   have h2:=thingsAt_len h (o.take i)
   have h3:(o.take i).length≤40:=by rw [List.length_take]; omega
   have:(thingsAt h (o.take i)).length*1616≤40*1616:=Nat.mul_le_mul_right _ (by omega)
   omega
  have ho10:=ho'.kp t' k710
  refine w_num (by omega) t10 ho10 (by rw [List.length_append]; omega) fun v W36 v135 W38 hc38 t38 o38 n38 k36=>?_
  have kA38:Kp B W38:=Chg.kp kk hc38 fun j hj=>hnw'.in hj
  have I38:=I.kp kA38 t38
  have hnoB:∀ j,InBlk out' j→j<W'.sz:=fun j hj=>ownLt t' ho' hj
  have hb20:¬InBlk out' W7.sz:=fun hj=>by have:=hnoB _ hj; have:=k7.sz; omega
  have hB38:=hc38.blk t10 hb20 hB
  have hvv10:IsSl 1 (RInt W10) (.slice av y.vals.length cv) y.vals:=hvv.imp fun _ _ _ hr=>hr.kp t7 k10
  have hvb:y.vals≠[]→∀ j,InBlk (.slice av y.vals.length cv) j→(j<B.sz∨W'.sz≤j)∧j<W7.sz:=fun hne j hj=>by
   refine ⟨?_,?_⟩
   ·rcases hor with e | hnwv
    ·left
     subst e
     refine hvxl (fun hnil=>hne ?_) j hj
     obtain ⟨a1,c1,e1,_⟩:=hvx
     injection e1 with _ e2 _
     exact List.length_eq_zero_iff.1 (by rw [e2,hnil]; rfl)
    ·exact .inr (hnwv.in hj)
   ·obtain ⟨b,l',c',e,rfl⟩:=hj
    obtain ⟨a1,c1,e1,hc1⟩:=hvv
    rw [e] at e1
    cases e1
    cases hv:y.vals with
    | nil=>exact (hne hv).elim
    | cons n ns =>
     obtain ⟨p,hp,hr⟩:=hc1 0 n (by rw [hv]; rfl)
     cases hp
     exact cell_lt t7 hr.1
  have hvv38:IsSl 1 (RInt W38) (.slice av y.vals.length cv) y.vals:=isSl_chg hvv10 (fun hne j hj hj2=>by
   have:=hnoB _ hj2
   have:=hnw'.in hj2
   rcases (hvb hne j hj).1 with h | h <;> omega) fun b o x hb hr=>⟨hc38.cell t10 hb hr.1,hr.2⟩
  have hn135:∀ j,InBlk v135 j→(B.sz≤j∧j<W'.sz)∨W7.sz<j:=fun j hj=>by
   rcases n38 j hj with h | h
   ·exact .inl ⟨hnw'.in h,hnoB _ h⟩
   ·exact .inr (by omega)
  have hsz7:=k7.sz
  have hszB:=k'.sz
  have hic:=shpI_lt Y.ti
  have hel:sy.elem=elemAt c iy:=by unfold elemAt; rw [Y.si]
  obtain ⟨ac,cc,rfl,hcc⟩:=id I38.cat
  obtain ⟨pc,rfl,hpc⟩:=hcc iy _ Y.si
  rw [iad_sl u22 s48 hic]
  simp only [wV_some,fad48_3]
  rw [ld_word a5 (a:=⟨pc.block,pc.off+iy*5+3,none⟩) hpc.elem,hel]
  simp only [wV_some,cbin_neq]
  have q40:∀ W1,Blk W1 W7.sz 56 [.string y.type,.slice av y.vals.length cv]→ld prog 40 (.pointer (some ⟨W7.sz,0+1,none⟩)) W1=some (.slice av y.vals.length cv):=fun W1 h1=>ld_word a40 (a:=⟨W7.sz,0+1,none⟩) (h1.cell rfl)
  have hbs2:∀ hd:List Int,hd.length≤16→((bs++((thingsAt h (o.take i)).flatMap fun x=>thingP c ts o (writtenP l x)))++hd).length≤900000:=fun hd h1=>by
   rw [List.length_append,List.length_append]; omega
  have tail:∀ (W1:CW) (v:Value) (hd:List Int) (e2:Env),Kp B W1→Top W1→Blk W1 W7.sz 56 [.string y.type,.slice av y.vals.length cv]→IsSl 1 (RInt W1) (.slice av y.vals.length cv) y.vals→Own W1 5 1 v (kinds8 ((bs++((thingsAt h (o.take i)).flatMap fun x=>thingP c ts o (writtenP l x)))++hd))→hd.length≤16→Newer B.sz v→(∀ j,InBlk v j→(B.sz≤j∧j<W'.sz)∨W7.sz<j) →
    thingP c ts o y=hd++valsTo c o iy y.vals y.vals.length→Agree [0,1,2,11,12,13,19] e' e2→e2 17=v→e2 20=.pointer (some ⟨W7.sz,0,none⟩)→e2 21=.int .i64 iy →
    (f18_k39 none (forK (fun i e' ds' W'=>ds'=[]∧∃ out',Kp B W'∧Top W'∧Agree [0,1,2,11,12,13] e e'∧e' 17=out'∧e' 19=.int .i64 i∧Own W' 5 1 out' (kinds8 (bs++(thingsAt h (o.take i)).flatMap fun x=>thingP c ts o (writtenP l x)))∧Newer B.sz out') i o.length K)) .normal e2 [] W1:=by
   intro W1 v hd e2 k1 t1 hB1 hv1 o1 hhd n1 d1 hth hA2 r17 r20 r21
   simp only [f18_k39,qKn,qKr,qKx,qKp,bKn,bKr,bKp,bKx,tKn,tKr,tKx,tKp,zKn,zKr,zKx,zKp]
   refine f18_vals (A:=B) (W:=W1) (e:=e2) (h:=h) I k1 t1 hp Y hB1 hv1 (fun hne j hj hj2=>?_) o1 n1 (hbs2 hd hhd) (.put rfl) ((hA2 0 (by decide)).trans g0) ((hA2 12 (by decide)).trans g12) r20 r21 r17 rfl fun e3 W3 v3 hc3 t3 hA3 r3 o3 n3=>?_
   ·have:=hvb hne j hj
    rcases d1 j hj2 with h | h <;> omega
   ·have r19:e3 19=.int .i64 i:=((hA3 19 (by decide)).trans (hA2 19 (by decide))).trans g19
    simp only [qKn,qKr,qKx,qKp,bKn,bKr,bKp,bKx,tKn,tKr,tKx,tKp,zKn,zKr,zKx,zKp,if_true,f18_k27,r19,cbin_add,wV_some]
    refine ⟨hlt,trivial,v3,Chg.kp k1 hc3 fun j hj=>n1.in hj,t3,((hAg.trans fun t ht=>hA2 t (by revert t; decide)).trans fun t ht=>hA3 t (by revert t; decide)).trans (.put rfl),r3,?_,?_,n3⟩
    ·simp only [eKc,eKn,eKa,Nat.reduceEqDiff,↓reduceIte,gKz,gKs,dKs,and_self]
     rw [inc64 (by omega)]
    ·rw [htk,List.flatMap_append]
     simp only [List.flatMap_cons,List.flatMap_nil,List.append_nil,hy,hth]
     simpa [List.append_assoc] using o3
  have hth0:thingP c ts o y=numP z++(if elemAt c iy≠0 then numP y.vals.length else [])++valsTo c o iy y.vals y.vals.length:=by
   unfold thingP
   rw [Y.ti]
   simp only [hz,Int.toNat_natCast]
  have hz8:=numP_len8 (n:=z) (by omega)
  refine wI_bool (fun hb=>?_) (fun hb=>?_)
  ·have hb:elemAt c iy≠0:=by simpa using hb
   have hm2:=many_200 I.cok Y.si Y.many
   have hm8:=numP_len8 (n:=y.vals.length) (by omega)
   simp only [fad56_1,wV_some,q40 W38 hB38,clen_sl u40]
   refine w_num (by omega) t38 o38 (by rw [List.length_append,List.length_append]; omega) fun v2 W40 v147 W42 hc42 t42 o42 n42 k40=>?_
   have hb2:¬InBlk v135 W7.sz:=fun hj=>by rcases hn135 _ hj with h | h <;> omega
   refine tail W42 v147 (numP z++numP y.vals.length) _ (Chg.kp kA38 hc42 fun j hj=>?_) t42 (hc42.blk t38 hb2 hB38) (isSl_chg hvv38 (fun hne j hj hj2=>?_) fun b o x hb hr=>⟨hc42.cell t38 hb hr.1,hr.2⟩) (by rw [←List.append_assoc]; exact o42) (by rw [List.length_append]; omega) (fun b l' c' e=>?_) (fun j hj=>?_) (by rw [hth0,if_pos hb]) (.put rfl) rfl rfl rfl
   ·rcases hn135 _ hj with h | h <;> omega
   ·have:=hvb hne j hj
    rcases hn135 _ hj2 with h | h <;> omega
   ·rcases n42 _ ⟨b,l',c',e,rfl⟩ with h | h
    ·rcases hn135 _ h with h | h <;> omega
    ·have:=kA38.sz; omega
   ·rcases n42 _ hj with h | h
    ·exact hn135 _ h
    ·have:=hc38.sz; exact .inr (by omega)
  ·have hb:¬elemAt c iy≠0:=by simpa using hb
   refine tail W38 v135 (numP z) _ kA38 t38 hB38 hvv38 o38 (by omega) (fun b l' c' e=>?_) hn135 (by rw [hth0,if_neg hb,List.append_nil]) (.put rfl) rfl rfl rfl
   rcases hn135 _ ⟨b,l',c',e,rfl⟩ with h | h <;> omega
 ·simp only [qKn,qKr,qKx,qKp,bKn,bKr,bKp,bKx,tKn,tKr,tKx,tKp,zKn,zKr,zKx,zKp]
  have htk:o.take i=o:=List.take_of_length_le (by omega)
  rw [htk] at ho'
  exact hex _ W' out' k' t' g17 ho'
end Go.Ce
namespace Go.Ce
open Go Go.Proofs Go.Proofs.Tryz
def WritePost (r:List Int × Int) (W:CW):Ending→CW→Prop:=fun e W'=>Kp W W'∧Top W'∧∃ v,e=.returned (.tuple #[v,.int .i64 r.2])∧Own W' 5 1 v (kinds8 r.1)
theorem ext2_0 (a b:Value):ext (.tuple #[a,b]) 0=some a:=rfl
theorem ext2_1 (a b:Value):ext (.tuple #[a,b]) 1=some b:=rfl
theorem askP_zero {c:List Shp} {l:List Spc} {h:List Thg} {root:Int} (hz:askP c l h root=0):catOk c=true∧specOk c l=true∧(¬thingsI c h≥0)∧0≤root∧root≤h.length:=by
 unfold askP at hz
 by_cases h1:spErr c l≠0
 ·rw [if_pos h1] at hz; exact (h1 hz).elim
 ·rw [if_neg h1] at hz
  by_cases h2:thingsI c h≥0
  ·rw [if_pos h2] at hz; cases hz
  ·rw [if_neg h2] at hz
   by_cases h3:root<0∨root>h.length
   ·rw [if_pos h3] at hz; cases hz
   ·have h1:spErr c l=0:=by omega
    unfold spErr at h1
    cases hc:catOk c with
    | false=>rw [hc] at h1; simp at h1
    | true =>
     cases hs:specOk c l with
     | false=>rw [hc,hs] at h1; simp at h1
     | true=>exact ⟨rfl,rfl,h2,by omega,by omega⟩
theorem write18_ok {v0 v1 v2:Value} {c:List Shp} {l:List Spc} {h:List Thg} {root:Int} {W:CW} (ht:Top W) (hc:IsSl 5 (RShp W) v0 c) (hC:Cat c) (hl:IsSl 3 (RSpc W) v1 l) (hll:l.length<100000) (hml:∀ s,s ∈ l→s.map.length<100000) (hh:IsSl 2 (RThg W) v2 h) (hhl:h.length<100000) (hh40:h.length≤40∨1000<h.length) (hv:∀ x,x ∈ h→x.vals.length<100000) :
  WCall prog pkL 18 [v0,v1,v2,.int .i64 root] W (WritePost (writeP c l h root) W):=by
 refine f18_w ?_
 rw [f18_c]
 have hll':=hv
 refine w_ret (asked_ok ht hc hC hl hll hh hhl fun x hx=>by have:=hv x hx; omega) fun W0 k0 t0=>?_
 simp only [cbin_neq,wV_some]
 unfold writeP
 by_cases hz:askP c l h root=0
 ·obtain ⟨hcok,hsok,hthi,hr0,hr1⟩:=askP_zero hz
  obtain ⟨h1000,hthok⟩:=things_all hthi
  have hsm:h.length≤40:=by omega
  rw [if_neg (by simp [hz])]
  simp only [hz,bne_self_eq_false,wI_false]
  have hc0:IsSl 5 (RShp W0) v0 c:=hc.imp fun _ _ _ hr=>hr.kp ht k0
  have hl0:IsSl 3 (RSpc W0) v1 l:=hl.imp fun _ _ _ hr=>hr.kp ht k0
  have hh0:IsSl 2 (RThg W0) v2 h:=hh.imp fun _ _ _ hr=>hr.kp ht k0
  refine (searched_ok t0 hc0 hC hl0 hll hml hh0 hsok hhl hthok hv hr0 hr1).mono fun en A ⟨kA,tA,vo,bp,hen,hvo,hnvo,hbp,hbpn,hF⟩=>?_
  subst hen
  simp only [onEnd,ext2_0,ext2_1,wV_some]
  generalize ho:foundP c l h root=o at hvo hbp hF ⊢
  have I:WrIn A v0 v1 v2 vo c l h o:=⟨tA,hc0.imp fun _ _ _ hr=>hr.kp t0 kA,hC,hcok,hl0.imp fun _ _ _ hr=>hr.kp t0 kA,hsok,hll,hml,hh0.imp fun _ _ _ hr=>hr.kp t0 kA,⟨hF,hhl,hthok⟩,ownMap (f:=fun k=>Value.int .i64 k) hvo⟩
  have kk:=k0.trans kA
  have hol:=hF.len
  refine f18_types (e:=Env.of (Env.args [v0,v1,v2,.int .i64 root]) [(12,.slice (some ⟨bp,0,none⟩) (h.length+1) (h.length+1)),(11,vo)]) I (.refl _) tA rfl rfl rfl rfl (fun hb e' W' k' t' q8 q9=>?_) (fun hb e' W' vt k' t' hA q13 hvt=>?_) (fun t ht=>by
   simp only [List.mem_cons,List.not_mem_nil,or_false] at ht
   rcases ht with rfl | rfl | rfl | rfl | rfl <;> rfl) rfl rfl
  ·simp only [qKn,qKr,qKx,qKp,bKn,bKr,bKp,bKx,tKn,tKr,tKx,tKp,zKn,zKr,zKx,zKp,f18_k13]
   rw [f18_leave,q8,q9,if_pos hb]
   exact ⟨kk.trans k',t',_,rfl,Own.nil⟩
  ·have hb':¬asBad l h o=true:=by rw [hb]; simp
   rw [if_neg hb']
   have r0:e' 0=v0:=(hA 0 (by decide)).trans rfl
   have r1:e' 1=v1:=(hA 1 (by decide)).trans rfl
   have r2:e' 2=v2:=(hA 2 (by decide)).trans rfl
   have r11:e' 11=vo:=(hA 11 (by decide)).trans rfl
   have r12:e' 12=.slice (some ⟨bp,0,none⟩) (h.length+1) (h.length+1):=(hA 12 (by decide)).trans rfl
   simp only [qKn,qKr,qKx,qKp,bKn,bKr,bKp,bKx,tKn,tKr,tKx,tKp,zKn,zKr,zKx,zKp,if_true,f18_k13,q13]
   have htl:(typesP l (thingsAt h o)).length≤40:=by
    have h1:=types_len l (thingsAt h o) []
    have h2:=thingsAt_len h o
    unfold typesP
    simp only [List.length_nil] at h1
    omega
   generalize hts:typesP l (thingsAt h o)=ts at hvt htl
   have hsz:∀ s,s ∈ ts→s.size<1000:=fun s hs=>by
    rw [←hts] at hs
    rcases types_from l (thingsAt h o) [] hs with h | ⟨x,hx,rfl⟩
    ·cases h
    ·obtain ⟨i,s,Y⟩:=thing_is (written_ok_of hsok (hthok _ (mem_thingsAt hx)))
     exact shp_name hC Y.ti
   refine wVW_of (bsl29 _ W') ?_
   have k4:Kp W' (W'.new (.cells (Tr.nil.putFrom 0 [.int .u8 1]) [Value.int .u8 1].length #[] 5)):=.new _
   have t4:=t'.new (.cells (Tr.nil.putFrom 0 [.int .u8 1]) [Value.int .u8 1].length #[] 5)
   have o4:Own _ 5 1 _ (kinds8 [1]):=own_one W' 5 (.int .u8 1)
   generalize W'.new (.cells (Tr.nil.putFrom 0 [.int .u8 1]) [Value.int .u8 1].length #[] 5)=W4 at k4 t4 o4
   have hstl:(strs ts).length=ts.length*1:=by rw [strs_len]; omega
   rw [ownLen u51 hvt (by omega) hstl]
   simp only [wV_some]
   have hn8:=numP_len8 (n:=ts.length) (by omega)
   refine w_num (by omega) t4 o4 (by simp) fun v W5 v90 W7 hc7 t7 o7 n7 k5=>?_
   have kW7:Kp W' W7:=Chg.kp k4 hc7 fun j hj=>by
    obtain ⟨b,l,c,e,rfl⟩:=hj
    cases e; exact Nat.le_refl _
   have nW7:Newer W'.sz v90:=fun b l c e=>by
    rcases n7 _ ⟨b,l,c,e,rfl⟩ with h | h
    ·obtain ⟨b',l',c',e',hb'⟩:=h
     cases e'; rw [←hb']; exact Nat.le_refl _
    ·have:=k4.sz; omega
   have h108:([1]++numP ts.length:List Int).length≤9:=by rw [List.length_append]; simp; omega
   refine f18_texts (e:=Env.of e' [(13,vt)]) t' kW7 t7 hvt hsz (by omega) (by omega) o7 nW7 rfl (fun t ht=>by
    simp only [List.mem_cons,List.not_mem_nil,or_false] at ht
    rcases ht with rfl | rfl | rfl | rfl | rfl | rfl <;> first | rfl | exact q13) rfl rfl fun e2 W8 out2 k8 t8 hA2 q17 o8 n8=>?_
   have s0:e2 0=v0:=(hA2 0 (by decide)).trans r0
   have s1:e2 1=v1:=(hA2 1 (by decide)).trans r1
   have s2:e2 2=v2:=(hA2 2 (by decide)).trans r2
   have s11:e2 11=vo:=(hA2 11 (by decide)).trans r11
   have s12:e2 12=.slice (some ⟨bp,0,none⟩) (h.length+1) (h.length+1):=(hA2 12 (by decide)).trans r12
   have s13:e2 13=vt:=(hA2 13 (by decide)).trans rfl
   have hvol:(intv o).length=o.length*1:=by rw [intv_len]; omega
   have hvo8:=hvo.kp tA (k'.trans k8)
   simp only [qKn,qKr,qKx,qKp,bKn,bKr,bKp,bKx,tKn,tKr,tKx,tKp,zKn,zKr,zKx,zKp,if_true,f18_k12,s11,q17]
   rw [ownLen u40 hvo8 (by omega) hvol]
   simp only [wV_some]
   have htx:=texts_len ts hsz
   have hon8:=numP_len8 (n:=o.length) (by omega)
   have htx2:ts.length*1008≤40*1008:=Nat.mul_le_mul_right _ htl
   refine w_num (by omega) t8 o8 (by rw [List.length_append]; omega) fun v W9 v108 W10 hc10 t10 o10 n10 k9=>?_
   have kW10:Kp W' W10:=Chg.kp k8 hc10 fun j hj=>n8.in hj
   have nW10:Newer W'.sz v108:=fun b l c e=>by
    rcases n10 _ ⟨b,l,c,e,rfl⟩ with h | h
    ·exact n8.in h
    ·have:=k8.sz; omega
   refine f18_things (e:=e2) (bs:=([1]++numP ts.length++ts.flatMap textP)++numP o.length) (I.kp k' t') kW10 t10 (hbp.ext tA k') hvt hts.symm hsm o10 nW10 (by rw [List.length_append,List.length_append]; omega) s0 s1 s2 s11 s12 s13 (fun t ht=>by
    simp only [List.mem_cons,List.not_mem_nil,or_false] at ht
    rcases ht with rfl | rfl | rfl | rfl | rfl | rfl <;> rfl) rfl rfl fun e3 W11 out3 k11 t11 q17 o11=>?_
   simp only [qKn,qKr,qKx,qKp,bKn,bKr,bKp,bKx,tKn,tKr,tKx,tKp,zKn,zKr,zKx,zKp,if_true,f18_k11,f18_leave]
   refine ⟨kk.trans (k'.trans k11),t11,out3,?_,?_⟩
   ·simp only [eKc,eKn,eKa,Nat.reduceEqDiff,↓reduceIte,gKz,gKs,dKs,and_self,q17]
   ·unfold bytesP
    rw [hts]
    exact o11
 ·rw [if_pos hz]
  simp only [show (askP c l h root != 0)=true from by simpa using hz,wI_true,f18_leave]
  exact ⟨k0,t0,_,rfl,Own.nil⟩
end Go.Ce
