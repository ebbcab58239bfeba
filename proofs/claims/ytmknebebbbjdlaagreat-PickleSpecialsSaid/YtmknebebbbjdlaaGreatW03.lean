/- A part of the proof: Hh, Pl, Pm, Pn, Po, Pp, Pq, Pr, ShB, Ps, Pt, Pu, Pv, Pw, Px, Py, Pz, ShC, Qa, Qb, Qc, Qd, Qe, Qf, Qg. -/
import Derived.Test.YtmknebebbbjdlaaGreatW02
import Derived.Test.YtmknebebbbjdlaaGreatProg
set_option linter.unusedSectionVars false
set_option linter.unusedVariables false
set_option linter.unusedSimpArgs false
set_option maxRecDepth 200000
namespace Go.Ce
section
variable {α:Type} {W:CW} {el n:Nat} {v:Value}
theorem zIx {enc:α→List Value} (hn:∀ x,(enc x).length=n) (l:List α):(l.flatMap enc).length=l.length*n:=by
 induction l with
 | nil=>simp
 | cons x l ih=>rw [List.flatMap_cons,List.length_append,ih,hn,List.length_cons,Nat.succ_mul,Nat.add_comm]
theorem zW0 {enc:α→List Value} (hn:∀ x,(enc x).length=n) (h0:0<n) {l:List α} (h:Own W el n v (l.flatMap enc)):IsSl n (fun b o x=>Cells W b o (enc x)) v l:=by
 generalize hc:l.flatMap enc=cs at h; have hl:=zIx hn l; rw [hc] at hl
 cases h with
 | nil =>
  have:l.length=0:=by
   rcases Nat.eq_zero_or_pos l.length with h | h
   ·exact h
   ·have:=Nat.mul_pos h h0; rw [←hl] at this; simp at this
  exact ⟨none,0,by rw [this],fun i x hx=>by have:=(List.getElem?_eq_some_iff.1 hx).1; omega⟩
 | @some b len _ hB hbl =>
  have:len=l.length:=Nat.eq_of_mul_eq_mul_right h0 (by rw [←hbl,hl]); refine ⟨some ⟨b,0,none⟩,len,by rw [this],fun i x hx=>⟨_,rfl,?_⟩⟩; have h1:=hB.cells; rw [←hc] at h1; exact zJU hn l 0 h1 i x hx
theorem zSo (f:α→Value) (l:List α):l.map f=l.flatMap fun x=>[f x]:=by
 induction l with
 | nil=>rfl
 | cons x l ih=>rw [List.map_cons,List.flatMap_cons,ih]; rfl
theorem zEe {f:α→Value} {l:List α} (h:Own W el 1 v (l.map f)):IsSl 1 (fun b o x=>W.cell b o=some (f x)) v l:=by
 rw [zSo] at h; obtain ⟨a,cap,h1,h2⟩:=zW0 (n:=1) (fun _=>rfl) (by omega) h; refine ⟨a,cap,h1,fun i x hx=>?_⟩; obtain ⟨p,hp,hr⟩:=h2 i x hx; exact ⟨p,hp,by have:=hr 0 (f x) rfl; rwa [Nat.add_zero] at this⟩
end
theorem zEK {P:Program} {t el':TypeId} (u:P.underlying t=some (.slice el')) {W W':CW} {el n:Nat} {v:Value} {cs:List Value} (h:Own W el n v cs) (hn:0<n) {m:Nat} (hm:cs.length=m*n):zAm P t v W'=some (.int .i64 m):=by
 cases h with
 | nil =>
  have:m=0:=by
   rcases Nat.eq_zero_or_pos m with h | h
   ·exact h
   ·have:=Nat.mul_pos h hn; rw [←hm] at this; simp at this
  rw [zAT u,this]
 | @some b len _ hB hl =>
  have:len=m:=Nat.eq_of_mul_eq_mul_right hn (by rw [←hl,hm]); rw [zAT u,this]
def Agree (ts:List Nat) (e e':Env):Prop:=∀ t,t ∈ ts→e' t=e t
theorem Agree.refl (ts:List Nat) (e:Env):Agree ts e e:=fun _ _=>rfl
theorem Agree.trans {ts:List Nat} {a b c:Env} (h:Agree ts a b) (k:Agree ts b c):Agree ts a c:=fun t ht=>(k t ht).trans (h t ht)
theorem Agree.put {ts:List Nat} {e:Env} {l:List (Nat × Value)} (h:(ts.all fun t=>l.all fun p=>!Nat.beq t p.1)=true):Agree ts e (Env.of e l):=by
 intro t ht; have h1:=List.all_eq_true.1 h t ht; clear h ht
 induction l with
 | nil=>rfl
 | cons p l ih =>
  simp only [List.all_cons,Bool.and_eq_true,Bool.not_eq_true'] at h1; simp only [Env.of,h1.1,cond_false]; exact ih h1.2
def zJQ (J:Nat→Env→List Deferred→CW→Prop) (i n:Nat) (K:zAI):zAI:=fun x e ds W=>match x with
 | .normal=>i<n∧J (i+1) e ds W
 | x=>K x e ds W
section
variable (J:Nat→Env→List Deferred→CW→Prop) (i n:Nat) (K:zAI) (e:Env) (ds:List Deferred) (W:CW)
theorem zKn:zJQ J i n K .normal e ds W=(i<n∧J (i+1) e ds W):=rfl
theorem zKr:zJQ J i n K .ret e ds W=K .ret e ds W:=rfl
theorem zKx (j:Nat):zJQ J i n K (.exit j) e ds W=K (.exit j) e ds W:=rfl
theorem zKp (ch:List PanicEntry):zJQ J i n K (.panic ch) e ds W=K (.panic ch) e ds W:=rfl
end
theorem zCX {P:Program} {L:List FuncId} {ro:Option Nat} {fn:FuncId} {nt:Nat} {b:Code} {K:zAI} (J:Nat→Env→List Deferred→CW→Prop) (n:Nat) {e:Env} {ds:List Deferred} {W:CW} (h0:J 0 e ds W)
  (hstep:∀ i e ds W,i≤n→J i e ds W→zAJ P L ro fn nt b e ds W (zJQ J i n K)):zCg P L ro fn nt (.loop b) e ds W K:=by
 suffices key:∀ k i e ds W,n-i=k→i≤n→J i e ds W→zCg P L ro fn nt (.loop b) e ds W K from key n 0 e ds W rfl (Nat.zero_le _) h0
 intro k
 induction k using Nat.strongRecOn with
 | ind k ih =>
  intro i e ds W hk hin hi a ha hn; obtain ⟨m,⟨x1,a1,W1⟩,h1,e1,h2,h3,h4⟩:=zCE (hstep i e ds W hin hi) a ha hn
  cases x1 with
  | normal =>
   obtain ⟨h5,h6⟩:=h4; obtain ⟨m',o,h7,h8⟩:=ih (n-(i+1)) (by omega) (i+1) e1 a1.defers W1 rfl h5 h6 a1 h2 h3; refine ⟨max m m'+1,o,?_,h8⟩; show zHC ((evC P L (max m m')).code ro fn b a W) ((evC P L (max m m')).code ro fn (.loop b))=some [o]; rw [zCz (Nat.le_max_left m m') h1]; exact zB0 (zCz (Nat.le_max_right m m') h7)
  | _ =>
   refine ⟨m+1,_,?_,e1,h2,h3,h4⟩; show zHC ((evC P L m).code ro fn b a W) ((evC P L m).code ro fn (.loop b))=_; rw [h1]; exact zB0 rfl
theorem zE8 {bad:Nat→Bool} {i:Nat} (h:∀ m,m<i→bad m=false) (hi:bad i=false):∀ m,m<i+1→bad m=false:=fun m hm=>by
 rcases Nat.lt_succ_iff_lt_or_eq.1 hm with h2 | rfl
 ·exact h m h2
 ·exact hi
theorem zCT {i:Nat} (h:i<1000000000000):IntKind.i64.wrap ((i:Int)+1)=((i+1:Nat):Int):=by rw [zBU (by omega) (by omega)]; rfl
theorem zGZ {i n:Nat} {X Y:Prop} (h1:i<n→X) (h2:n≤i→Y):wI (.bool (decide ((i:Int)<(n:Int)))) X Y :=
 zAH (fun h=>h1 (by have:=of_decide_eq_true h; omega)) (fun h=>h2 (by have:=of_decide_eq_false h; omega))
theorem zH3 {vs ws:List Value} (h:ws.length=vs.length):zDz vs 0 ws=ws:=by
 unfold zDz; rw [List.take_zero,List.nil_append,List.drop_eq_nil_of_le (by omega),List.append_nil]
section
variable {P:Program}
theorem zBx {t:TypeId} {m:Nat} {z:Value} (hz:zer P t=some z) (hs:siz P t=some m) (hzl:z.cells.size=m) {ws:List Value} (h1:ws.all zAg=true) (hm:ws.length=m) {W:CW} {K:Value→CW→Prop} (ht:Top W)
  (hk:∀ W2,Kp W W2→Top W2→W2.sz=W.sz+1→Blk W2 W.sz t ws→K (.pointer (some ⟨W.sz,0,none⟩)) W2):wVW (alc P t W) fun v W1=>wV (sto P t v (.agg ws.toArray) W1) fun W2=>K v W2:=by
 refine zFa hz hs ht fun W1 k1 t1 z1 hB=>?_; refine zB6 hs (a:=⟨W.sz,0,none⟩) h1 hm hB (by simp [hzl]) fun W2 hu hB2=>?_; rw [zH3 (by simp [hzl,hm])] at hB2; exact hk W2 (k1.upd (Nat.le_refl _) hu) (t1.upd (by rw [z1]; exact Nat.lt_succ_self _) hu) (by rw [hu.sz,z1]) hB2
end
section
variable {P:Program}
theorem zGb {t el:TypeId} {ts:List TypeId} {n bytes:Nat} {z x:Value} {xs:List Value} (ut:P.underlying t=some (.slice el)) (hs:siz P el=some n) (hz:zer P el=some z) (hzn:z.cells.size=n) (hn:0<n) (hby:(P.info? el).map (·.bytes)=some bytes) (hb:bytes≤1024)
  (hbsl:∀ W,bsl P t 1 [(0,x)] W=some (.slice (some ⟨W.sz,0,none⟩) 1 1,W.new (.cells (Tr.nil.putFrom 0 xs) xs.length #[] el))) (hxs:xs.length=n) (hx1:xs.all zAg=true)
  {W:CW} (ht:Top W) {v:Value} {cs:List Value} (hv:Own W el n v cs) (hlim:cs.length<900000) {K:Value→CW→Value→CW→Prop}
  (hk:∀ u Wa v1 W1,Kp W Wa→Top Wa→Pushed v W W1→Top W1→Own W1 el n v1 (cs++xs)→(∀ A,A≤W.sz→Newer A v1)→K u Wa v1 W1):wVW (bsl P t 1 [(0,x)] W) fun u W1=>wVW (app P (t::t::ts) v u W1) fun v1 W2=>K u W1 v1 W2:=by
 refine zDV (hbsl W) ?_; have hkp:Kp W (W.new (.cells (Tr.nil.putFrom 0 xs) xs.length #[] el)):=.new _
 have hB:Blk (W.new (.cells (Tr.nil.putFrom 0 xs) xs.length #[] el)) W.sz el xs:=⟨_,_,_,by rw [zAp,if_pos rfl],rfl,fun k w hw=>by
  rw [zBL _ _ _ (List.getElem?_eq_some_iff.1 hw).1,List.getD_eq_getElem?_getD,hw]; rfl⟩
 have hv':Own (W.new (.cells (Tr.nil.putFrom 0 xs) xs.length #[] el)) el n v cs:=by
  cases hv with
  | nil=>exact .nil
  | some h hl=>exact .some (h.ext ht hkp) hl
 have hvb:∀ b l c,v=.slice (some b) l c→b.block<W.sz:=by
  intro b l c e
  cases hv with
  | nil=>cases e
  | some h hl=>cases e; exact h.lt ht
 have hu:zEg P t=true:=by unfold zEg; rw [ut]
 refine zR6 (x:=.slice (some ⟨W.sz,0,none⟩) 1 1) (m:=1) (news:=xs) ut hu hs hz hzn hn hby hb (ht.new _) hv' rfl (by omega) ?_ hx1 (by omega) (by omega) fun W1 len hg hl hB1=>?_
 ·show zC1 (some ⟨W.sz,0,none⟩) (1*n) _=some xs; rw [Nat.one_mul,←hxs]; exact zGD hB.cells
 ·refine hk _ _ _ W1 hkp (ht.new _) ⟨by rw [hg.sz,zDG]; omega,fun i hi hne=>?_⟩ (hg.top (ht.new _)) (.some hB1 hl) (fun A hA b l c e=>by cases e; rw [zDG]; show A≤W.sz+1; omega); rw [hg.obj i (by rw [zDG]; omega) hne,zAp,if_neg (by omega)]
end
theorem zF1 {W W':CW} {el n i:Nat} {v:Value} {cs:List Value} (h:Own W el n v cs) (hu:Upd i W W') (hi:∀ b l c,v=.slice (some b) l c→b.block≠i):Own W' el n v cs:=by
 cases h with
 | nil=>exact Own.nil
 | some hB hl=>exact Own.some (hB.congr (hu.obj _ (hi _ _ _ rfl))) hl
theorem zH6 {W:CW} {el n:Nat} {v:Value} {cs:List Value} (h:Own W el n v cs):zAg v=true:=by cases h <;> rfl
theorem zO4 {W:CW} {el el' n i:Nat} {v:Value} {cs ws:List Value} (h:Own W el n v cs) (hB:Blk W i el' ws) (he:el≠el'):∀ b l c,v=.slice (some b) l c→b.block≠i:=by
 intro b l c hv hb
 cases h with
 | nil=>cases hv
 | some h1 hl =>
  cases hv
  simp only at hb; subst hb; obtain ⟨c1,n1,z1,h2,_⟩:=h1; obtain ⟨c2,n2,z2,h3,_⟩:=hB; rw [h2] at h3
  cases h3
  exact he rfl
theorem Pushed.blk {v:Value} {W W':CW} (h:Pushed v W W') (ht:Top W) {i:Nat} {el:TypeId} {ws:List Value} (hB:Blk W i el ws) (hi:∀ b l c,v=.slice (some b) l c→b.block≠i):Blk W' i el ws :=
 hB.congr (h.obj i (hB.lt ht) fun b l c e=>(hi b l c e).symm)
theorem zFB {P:Program} {fn:Func} {Q:Ending→CW→Prop} {e:Env} {W:CW} {s:Tmp} {ty:TypeId} {p:Addr} {v:Value} (hr:fn.results.toList=[.cell s ty]) (he:e s=.pointer (some p)) (hv:ld P ty (.pointer (some p)) W=some v) (hq:Q (.returned v) W):zAE P fn Q .ret e [] W:=by
 have hv:zHY P ty p W=some v:=hv; simp only [zAE,zBB,hr,zFu,zU1,he,hv]; exact hq
structure Chg (S:Nat→Prop) (W W':CW):Prop where
 sz:W.sz≤W'.sz
 obj:∀ i,i<W.sz→¬S i→W'.obj i=W.obj i
theorem Chg.refl (S:Nat→Prop) (W:CW):Chg S W W:=⟨Nat.le_refl _,fun _ _ _=>rfl⟩
theorem Chg.of_kp {S:Nat→Prop} {W W':CW} (h:Kp W W'):Chg S W W':=⟨h.sz,fun i hi _=>h.obj i hi⟩
theorem Chg.then {S T:Nat→Prop} {A B C:CW} (h:Chg S A B) (k:Chg T B C) (hT:∀ i,i<A.sz→T i→S i):Chg S A C :=
 ⟨Nat.le_trans h.sz k.sz,fun i hi hs=>(k.obj i (Nat.lt_of_lt_of_le hi h.sz) fun ht=>hs (hT i hi ht)).trans (h.obj i hi hs)⟩
theorem Chg.kp {S:Nat→Prop} {A B C:CW} (h:Kp A B) (k:Chg S B C) (hS:∀ i,S i→A.sz≤i):Kp A C :=
 ⟨Nat.le_trans h.sz k.sz,fun i hi=>(k.obj i (Nat.lt_of_lt_of_le hi h.sz) fun hs=>by have:=hS i hs; omega).trans (h.obj i hi)⟩
theorem Chg.cell {S:Nat→Prop} {W W':CW} (h:Chg S W W') (ht:Top W) {b k:Nat} (hb:¬S b) {v:Value} (hc:W.cell b k=some v):W'.cell b k=some v:=by
 rw [zG4 (h.obj b (zNZ ht hc) hb)]; exact hc
theorem Chg.blk {S:Nat→Prop} {W W':CW} (h:Chg S W W') (ht:Top W) {b:Nat} (hb:¬S b) {el:TypeId} {ws:List Value} (hB:Blk W b el ws):Blk W' b el ws :=
 hB.congr (h.obj b (hB.lt ht) hb)
def zA7 (v:Value) (i:Nat):Prop:=∃ b l c,v=.slice (some b) l c∧b.block=i
theorem Pushed.chg {v:Value} {W W':CW} (h:Pushed v W W'):Chg (zA7 v) W W':=⟨h.sz,fun i hi hs=>h.obj i hi fun b l c e hb=>hs ⟨b,l,c,e,hb.symm⟩⟩
theorem Upd.chg {i:Nat} {W W':CW} (h:Upd i W W'):Chg (·=i) W W':=⟨by rw [h.sz]; exact Nat.le_refl _,fun j _ hj=>h.obj j hj⟩
theorem Chg.own {S:Nat→Prop} {W W':CW} (h:Chg S W W') (ht:Top W) {el n:Nat} {v:Value} {cs:List Value} (ho:Own W el n v cs) (hv:∀ i,zA7 v i→¬S i):Own W' el n v cs:=by
 cases ho with
 | nil=>exact Own.nil
 | some hB hl=>exact Own.some (h.blk ht (hv _ ⟨_,_,_,rfl,rfl⟩) hB) hl
theorem Newer.in {A:Nat} {v:Value} (h:Newer A v) {i:Nat} (hi:zA7 v i):A≤i:=by
 obtain ⟨b,l,c,e,rfl⟩:=hi; exact h b l c e
theorem zH7 {W:CW} (ht:Top W) {el n:Nat} {v:Value} {cs:List Value} (h:Own W el n v cs) {i:Nat} (hi:zA7 v i):i<W.sz:=by
 obtain ⟨b,l,c,e,rfl⟩:=hi
 cases h with
 | nil=>cases e
 | some hB hl=>cases e; exact hB.lt ht
section
variable {P:Program}
theorem zT2 {t el:TypeId} {z:Value} {bytes:Nat} (ut:P.underlying t=some (.slice el)) (hs:siz P el=some 1) (hz:zer P el=some z) (hzc:z.cells=#[z]) (hby:(P.info? el).map (·.bytes)=some bytes) (hb:bytes≤1024) {n:Nat} (hn:n≤2000000) {k1 k2:IntKind} {W:CW} (ht:Top W) {K:Value→CW→Prop}
  (hk:∀ W1,Kp W W1→Top W1→W1.sz=W.sz+1→Blk W1 W.sz el (List.replicate n z)→K (.slice (some ⟨W.sz,0,none⟩) n n) W1):wVW (mks P t (.int k1 n) (.int k2 n) W) K:=by
 have hc:mks P t (.int k1 n) (.int k2 n) W=some (.slice (some ⟨W.sz,0,none⟩) n n,W.new (.cells .nil (n*1) z.cells el)):=by
  unfold mks; simp only [ut,hs,hz,zCc,hby,Option.getD_some,hzc]; rw [show Nat.ble bytes 1024=true from Nat.ble_eq_true_of_le hb]; simp only [cond_eq_ite]; rw [if_pos (by simp; omega)]; simp
 refine zDV hc (hk _ (.new _) (ht.new _) rfl ⟨.nil,_,_,by rw [zAp,if_pos rfl],by simp,fun k v hv=>?_⟩); have h1:v=z:=List.eq_of_mem_replicate (List.mem_of_getElem? hv); subst h1; unfold zBh; simp only [Tr.get_nil,hzc]; simp [Nat.mod_one]
end
section
variable {P:Program}
theorem zT3 {t u el:TypeId} {ts:List TypeId} {n bytes:Nat} {z:Value} (ut:P.underlying t=some (.slice el)) (hu:zEg P u=true) (hs:siz P el=some n) (hz:zer P el=some z) (hzn:z.cells.size=n) (hn:0<n) (hby:(P.info? el).map (·.bytes)=some bytes) (hb:bytes≤1024)
  {W:CW} (ht:Top W) {v:Value} {cs news:List Value} {a:Option Addr} {m cap:Nat} (hv:Own W el n v cs) (hsrc:0<m→∃ p,a=some p∧Cells W p.block p.off news) (h1:news.all zAg=true) (hnl:news.length=m*n) (hlim:cs.length+m≤1000000) {K:Value→CW→Prop}
  (hk:∀ v1 W1,Pushed v W W1→Top W1→Own W1 el n v1 (cs++news)→(∀ j,zA7 v1 j→zA7 v j∨W.sz≤j)→K v1 W1):wVW (app P (t::u::ts) v (.slice a m cap) W) K:=by
 rcases Nat.eq_zero_or_pos m with rfl | hm
 ·have hnil:news=[]:=List.length_eq_zero_iff.1 (by rw [hnl,Nat.zero_mul]); subst hnil; have hble:Nat.ble ((P.info? el).map (·.bytes) |>.getD 2000) 1024=true:=by rw [hby]; exact Nat.ble_eq_true_of_le hb
  have hsr:zDX (.slice a 0 cap) 0 n W=some []:=by
   show zC1 a (0*n) W=some []; rw [Nat.zero_mul]; unfold zC1
   cases a <;> rfl
  have hc:app P (t::u::ts) v (.slice a 0 cap) W=some (v,W):=by
   unfold app; simp only [hu,cond_true]
   cases hv with
   | nil =>
    unfold zDQ; simp only [ut,zT9,zCc,hs,hz,hsr,List.all_nil,List.length_nil,Nat.zero_mul,Nat.beq_refl,hzn,hble,Bool.true_and,Bool.and_true]; rw [show Nat.blt 0 n=true from Nat.ble_eq_true_of_le hn]; rfl
   | @some b len cs hB hl =>
    have hlen:len≤cs.length:=by rw [hl]; exact Nat.le_mul_of_pos_right _ hn
    unfold zDQ; simp only [ut,zT9,zCc,hs,hz,hsr,List.all_nil,List.length_nil,Nat.zero_mul,Nat.beq_refl,hzn,hble,Bool.true_and,Bool.and_true,Nat.add_zero]; rw [show Nat.blt 0 n=true from Nat.ble_eq_true_of_le hn,show Nat.ble len 1000000=true from Nat.ble_eq_true_of_le (by omega),show Nat.ble len len=true from Nat.ble_eq_true_of_le (Nat.le_refl _)]; rfl
  refine zDV hc (hk v W ⟨Nat.le_refl _,fun _ _ _=>rfl⟩ ht (by rw [List.append_nil]; exact hv) (fun j h=>.inl h))
 ·obtain ⟨p,rfl,hcl⟩:=hsrc hm
  refine zR6 (m:=m) ut hu hs hz hzn hn hby hb ht hv rfl hm ?_ h1 hnl hlim fun W1 len hg hl hB=>?_
  ·show zC1 (some p) (m*n) W=some news; rw [←hnl]; exact zGD hcl
  ·exact hk _ W1 ⟨by rw [hg.sz]; omega,hg.obj⟩ (hg.top ht) (.some hB hl) (fun j h=>.inr (by obtain ⟨b,l,c,e,rfl⟩:=h; cases e; exact Nat.le_refl _))
end
end Go.Ce
namespace Go.Ce
open Go Go.Proofs Go.Proofs.Tryz
def zCW (n:Nat) (p:Nat→Bool):Bool:=(List.range n).any p
theorem zBk {n j:Nat} {p:Nat→Bool} (hj:j<n) (h:p j=true):zCW n p=true:=List.any_eq_true.2 ⟨j,List.mem_range.2 hj,h⟩
theorem zCJ {n:Nat} {p:Nat→Bool} (h:∀ j,j<n→p j=false):zCW n p=false:=by
 unfold zCW; rw [List.any_eq_false]; intro j hj; rw [h j (List.mem_range.1 hj)]; simp
theorem zBi {n:Nat} {p:Nat→Bool} (h:zCW n p=false) {j:Nat} (hj:j<n):p j=false:=by
 cases hp:p j with
 | false=>rfl
 | true=>rw [zBk hj hp] at h; cases h
def zFM (k:Int):Bool:=k == 1 || k == 2
def zGd (kind n:Int) (size:Nat):Bool:=!((kind == 1 && (decide (n < -1000000000) || decide (n>1000000000))) || (kind == 2 && (decide (n<0) || decide (n>size))))
def zBQ (c:List Shp) (s:ByteArray):Option Nat:=c.findIdx? fun x=>decide (x.name=s)
def zC0 (c:List Shp) (i:Nat) (x:Shp) (many:Nat):Bool:=if x.elem≠0 then decide (many≤200) else decide (many=(zAj c i).length)
def zAs (c:List Shp) (x:Thg) (size:Nat):Bool:=match zBQ c x.type with
 | none=>false
 | some i=>match c[i]? with
  | none=>false
  | some s=>zC0 c i s x.vals.length && !zCW x.vals.length fun k=>match x.vals[k]? with
   | some n=>!zGd (zA3 c i k) n size
   | none=>false
def zEV (c:List Shp) (h:List Thg):Int:=if 1000<h.length then 1000 else zIp h fun x=>!zAs c x h.length
theorem RInt.kp {W W':CW} {b o:Nat} {x:Int} (h:RInt W b o x) (ht:Top W) (k:Kp W W'):RInt W' b o x:=⟨k.cell ht h.1,h.2⟩
theorem RThg.kp {W W':CW} {b o:Nat} {x:Thg} (h:RThg W b o x) (ht:Top W) (k:Kp W W'):RThg W' b o x :=
 ⟨k.cell ht h.type,by obtain ⟨v,h1,h2⟩:=h.vals; exact ⟨v,k.cell ht h1,h2.imp fun _ _ _ hr=>hr.kp ht k⟩⟩
theorem RSpc.kp {W W':CW} {b o:Nat} {x:Spc} (h:RSpc W b o x) (ht:Top W) (k:Kp W W'):RSpc W' b o x :=
 ⟨k.cell ht h.type,k.cell ht h.to,by obtain ⟨v,h1,h2,h3⟩:=h.map; exact ⟨v,k.cell ht h1,h2.imp fun _ _ _ hr=>hr.kp ht k,h3.kp ht k⟩⟩
def zYz (W:CW) (u:Value) (x:Thg):Prop:=∃ v,u=.agg #[.string x.type,v]∧IsSl 1 (RInt W) v x.vals
theorem RThg.ld {W:CW} {b o:Nat} {x:Thg} (h:RThg W b o x):∃ u,ld prog 56 (.pointer (some ⟨b,o,none⟩)) W=some u∧zYz W u x:=by
 obtain ⟨v,h1,h2⟩:=h.vals; refine ⟨_,zA8 (vs:=[.string x.type,v]) a56 s56 rfl (by omega) ?_,v,rfl,h2⟩; intro j w hj
 match j,hj with
 | 0,hj=>cases hj; exact h.type
 | 1,hj=>cases hj; exact h1
theorem zCF {c:List Shp} {s:ByteArray} {i:Nat} (h:zBQ c s=some i):i<c.length:=(List.findIdx?_eq_some_iff_getElem.1 h).1
end Go.Ce
namespace Go.Ce
open Go Go.Proofs Go.Proofs.Tryz
end Go.Ce
namespace Go.Ce
open Go Go.Proofs Go.Proofs.Tryz
def zJH (mp:List Int) (k:Nat) (n:Int):Bool:=zCW k fun m=>decide (mp[m]?=some n)
def zF3 (fr to:List Int) (mp:List Int) (k:Nat):Bool:=match mp[k]? with
 | none=>true
 | some n=>decide (n<0) || decide (n≥fr.length) || decide (fr[n.toNat]?≠to[k]?) || zJH mp k n
def zEh (l:List Spc) (s:Spc) (i k:Nat):Bool:=match l[k]? with
 | none=>false
 | some x=>decide (x.type=s.to) || (decide (k<i) && decide (x.to=s.to))
def zAN (c:List Shp) (t:Nat):Int:=match c[t]? with
 | some x=>x.elem
 | none=>0
def zDe (l:List Spc) (s:Spc):Nat→Bool
 | 0=>false
 | i+1=>match l[i]? with
  | some x=>!bLt (sb x.type) (sb s.type)
  | none=>false
def zI8 (c:List Shp) (l:List Spc) (i:Nat):Bool:=match l[i]? with
 | none=>true
 | some s=>match zBQ c s.type,zBQ c s.to with
  | some t,some a=>(decide (zAN c t≠0) || decide (zAN c a≠0) || zDe l s i) || (zCW l.length (zEh l s i) || (decide (s.map.length≠(zAj c a).length) || zCW (zAj c a).length (zF3 (zAj c t) (zAj c a) s.map)))
  | _,_=>true
def zAq (c:List Shp) (l:List Spc):Bool:=decide (l.length≤20) && !zCW l.length (zI8 c l)
def RKd (W:CW) (b o:Nat) (x:Int):Prop:=W.cell b o=some (.int .u8 x)
end Go.Ce
namespace Go.Ce
open Go Go.Proofs Go.Proofs.Tryz
end Go.Ce
namespace Go.Ce
open Go Go.Proofs Go.Proofs.Tryz
def zD0 (c:List Shp) (x:Shp):Nat→Bool
 | 0=>false
 | i+1=>match c[i]? with
  | some y=>!bLt (sb y.name) (sb x.name)
  | none=>false
def zAk (c:List Shp) (i:Nat):Bool:=match c[i]? with
 | none=>true
 | some x=>(!zDh x.name || zD0 c x i) || ((decide (x.elem≠0) && (!zFM x.elem || decide (x.super≠zCR) || decide (0<x.fields.length))) || decide (20<x.fields.length))
def zKN (fs:List Fld) (k:Nat) (s:ByteArray):Bool:=zCW k fun n=>decide ((fs[n]?).map (·.name)=some s)
def zD4 (fs:List Fld) (k:Nat):Bool:=match fs[k]? with
 | none=>true
 | some f=>(!zDh f.name || !zFM f.kind) || zKN fs k f.name
def zHD (c:List Shp) (i:Nat):Bool:=match zBP c c.length i with
 | none=>true
 | some _=>decide (60<(zCf c i).length) || zCW (zCf c i).length (zD4 (zCf c i))
def zA9 (c:List Shp):Bool:=decide (c.length≤100) && (!zCW c.length (zAk c) && !zCW c.length (zHD c))
theorem z48:zer prog 48=some (.agg #[.string ⟨#[]⟩,.string ⟨#[]⟩,.slice none 0 0,.int .u8 0,.slice none 0 0]):=by kernel_rfl
structure Cat (c:List Shp):Prop where
 len:c.length<200
 fields:∀ x,x ∈ c→x.fields.length≤100
 name:∀ x,x ∈ c→x.name.size<1000
 sup:∀ x,x ∈ c→x.super.size<1000
 fname:∀ x,x ∈ c→∀ f,f ∈ x.fields→f.name.size<1000
end Go.Ce
namespace Go.Ce
open Go Go.Proofs Go.Proofs.Tryz
theorem RShp.ld {W:CW} {b o:Nat} {x:Shp} (h:RShp W b o x):∃ vf ab lb cb,ld prog 48 (.pointer (some ⟨b,o,none⟩)) W=some (.agg [.string x.name,.string x.super,vf,.int .u8 x.elem,.slice ab lb cb].toArray)∧IsSl 2 (RFld W) vf x.fields:=by
 obtain ⟨vf,h1,h2⟩:=h.fields; obtain ⟨ab,lb,cb,h3⟩:=h.binds; refine ⟨vf,ab,lb,cb,zA8 (vs:=[.string x.name,.string x.super,vf,.int .u8 x.elem,.slice ab lb cb]) a48 s48 rfl (by omega) ?_,h2⟩; intro j w hj
 match j,hj with
 | 0,hj=>cases hj; exact h.name
 | 1,hj=>cases hj; exact h.super
 | 2,hj=>cases hj; exact h1
 | 3,hj=>cases hj; exact h.elem
 | 4,hj=>cases hj; exact h3
end Go.Ce
namespace Go.Ce
open Go Go.Proofs Go.Proofs.Tryz
def zLG (c:List Shp) (l:List Spc):Int:=if zA9 c then (if zAq c l then 0 else 212) else 210
def zKt (c:List Shp) (l:List Spc) (h:List Thg) (root:Int):Int:=if zLG c l≠0 then zLG c l else if zEV c h≥0 then 211 else if root<0∨root>h.length then 1 else 0
end Go.Ce
namespace Go.Ce
open Go Go.Proofs Go.Proofs.Tryz
end Go.Ce
namespace Go.Ce
open Go Go.Proofs Go.Proofs.Tryz
def zFL (l:List Spc) (s:ByteArray):Option Spc:=l.find? fun x=>decide (x.type=s)
def zEO (x:Thg) (m:Int):Int:=(x.vals[m.toNat]?).getD 0
def zAD (l:List Spc) (x:Thg):Thg:=match zFL l x.type with
 | some s=>⟨s.to,s.map.map (zEO x)⟩
 | none=>x
def zCt (l:List Int):List Value:=l.map fun k=>Value.int .i64 k
theorem s40:siz prog 40=some 1:=by kernel_rfl
theorem s51:siz prog 51=some 1:=by kernel_rfl
theorem s29:siz prog 29=some 1:=by kernel_rfl
theorem z56:zer prog 56=some (.agg #[.string ⟨#[]⟩,.slice none 0 0]):=by kernel_rfl
theorem RInt.of {W:CW} {v:Value} {l:List Int} (h:IsSl 1 (fun b o x=>W.cell b o=some (Value.int .i64 x)) v l) (hb:∀ x,x ∈ l→-9223372036854775808≤x∧x≤9223372036854775807):IsSl 1 (RInt W) v l:=by
 obtain ⟨a,cap,h1,h2⟩:=h; exact ⟨a,cap,h1,fun i x hx=>by obtain ⟨p,hp,hr⟩:=h2 i x hx; exact ⟨p,hp,hr,hb x (List.mem_of_getElem? hx)⟩⟩
theorem zS2 {l:List Spc} {s:ByteArray} {i:Nat} (hi:i<l.length) (h:decide (l[i].type=s)=true) (hpre:∀ j,j<i→decide ((l[j]?).map (·.type)=some s)=false):zFL l s=some l[i]:=by
 unfold zFL; rw [List.find?_eq_some_iff_getElem]; refine ⟨h,i,hi,rfl,fun j hj=>?_⟩; have:=hpre j hj; rw [List.getElem?_eq_getElem (by omega)] at this
 simpa using this
theorem zYF (s:ByteArray):bld prog 56 [(0,.string s)]=some (.agg [.string s,.slice none 0 0].toArray):=by kernel_rfl
def zTt (vx:Value) (y:Thg) (W:CW):Ending→CW→Prop:=fun e W'=>Kp W W'∧Top W'∧∃ vv,e=.returned (.agg #[.string y.type,vv])∧IsSl 1 (RInt W') vv y.vals∧(vv=vx∨Newer W.sz vv)
end Go.Ce
namespace Go.Ce
open Go Go.Proofs Go.Proofs.Tryz
theorem zDm {l:List Spc} {s:ByteArray} {x:Spc} (h:zFL l s=some x):∃ i:Nat,l[i]?=some x∧x.type=s:=by
 unfold zFL at h; obtain ⟨h1,i,hi,h2,_⟩:=List.find?_eq_some_iff_getElem.1 h; exact ⟨i,by rw [List.getElem?_eq_getElem hi,h2],by simpa using h1⟩
structure SpcIs (c:List Shp) (s:Spc) (t a:Nat):Prop where
 ti:zBQ c s.type=some t
 ai:zBQ c s.to=some a
 et:zAN c t=0
 ea:zAN c a=0
 len:s.map.length=(zAj c a).length
 map:∀ k,k<(zAj c a).length→∃ n:Int,s.map[k]?=some n∧0≤n∧n<(zAj c t).length∧(zAj c t)[n.toNat]?=(zAj c a)[k]?∧zJH s.map k n=false
theorem zLE {c:List Shp} {l:List Spc} (h:zAq c l=true) {i:Nat} {s:Spc} (hs:l[i]?=some s):∃ t a,SpcIs c s t a:=by
 unfold zAq at h; simp only [Bool.and_eq_true,Bool.not_eq_true'] at h; have hb:=zBi h.2 (List.getElem?_eq_some_iff.1 hs).1; unfold zI8 at hb; rw [hs] at hb; simp only at hb
 cases hti:zBQ c s.type with
 | none=>rw [hti] at hb; cases hb
 | some t =>
  rw [hti] at hb
  cases hai:zBQ c s.to with
  | none=>rw [hai] at hb; cases hb
  | some a =>
   rw [hai] at hb; simp only [Bool.or_eq_false_iff,decide_eq_false_iff_not,Decidable.not_not] at hb; obtain ⟨⟨⟨h1,h2⟩,h3⟩,h4,h5,h6⟩:=hb; refine ⟨t,a,hti,hai,h1,h2,h5,fun k hk=>?_⟩; have hm:=zBi h6 hk; unfold zF3 at hm
   cases hx:s.map[k]? with
   | none=>rw [hx] at hm; cases hm
   | some n =>
    rw [hx] at hm; simp only [Bool.or_eq_false_iff,decide_eq_false_iff_not,Decidable.not_not] at hm; obtain ⟨⟨⟨m1,m2⟩,m3⟩,m4⟩:=hm; exact ⟨n,rfl,by omega,by omega,m3,m4⟩
structure ThgIs (c:List Shp) (x:Thg) (size i:Nat) (s:Shp):Prop where
 ti:zBQ c x.type=some i
 si:c[i]?=some s
 many:zC0 c i s x.vals.length=true
 val:∀ (k:Nat) n,x.vals[k]?=some n→zGd (zA3 c i k) n size=true
theorem zCA {c:List Shp} {x:Thg} {size:Nat} (h:zAs c x size=true):∃ i s,ThgIs c x size i s:=by
 unfold zAs at h
 cases hti:zBQ c x.type with
 | none=>rw [hti] at h; cases h
 | some i =>
  rw [hti] at h; have hs:=List.getElem?_eq_getElem (zCF hti); simp only [hs,Bool.and_eq_true,Bool.not_eq_true'] at h; refine ⟨i,_,hti,hs,h.1,fun k n hk=>?_⟩; have:=zBi h.2 (List.getElem?_eq_some_iff.1 hk).1; rw [hk] at this
  simpa using this
theorem zSK {c:List Shp} {x:Thg} {size i:Nat} {s:Shp} (h:ThgIs c x size i s):zAs c x size=true:=by
 unfold zAs; rw [h.ti]; simp only [h.si,h.many,Bool.true_and]
 rw [zCJ fun j hj=>?_]
 ·rfl
 ·have:=List.getElem?_eq_getElem hj; rw [this]; simp only [h.val j _ this,Bool.not_true]
theorem zDl {c:List Shp} {h:List Thg} (ht:¬zEV c h≥0):h.length≤1000∧∀ x,x ∈ h→zAs c x h.length=true:=by
 unfold zEV at ht
 by_cases hl:1000<h.length
 ·rw [if_pos hl] at ht; omega
 ·rw [if_neg hl] at ht; refine ⟨by omega,fun x hx=>?_⟩; unfold zIp at ht
  cases hf:h.findIdx? fun x=>!zAs c x h.length with
  | some i=>rw [hf] at ht; simp only at ht; omega
  | none =>
   rw [List.findIdx?_eq_none_iff] at hf
   simpa using hf x hx
theorem zD2 {c:List Shp} {i many:Nat} {s:Shp} (hs:c[i]?=some s) (he:zAN c i=0) (hm:zC0 c i s many=true):many=(zAj c i).length:=by
 unfold zC0 at hm; unfold zAN at he; rw [hs] at he; rw [if_neg (by simpa using he)] at hm; exact of_decide_eq_true hm
theorem zD3 {c:List Shp} {i:Nat} (he:zAN c i=0) (hi:i<c.length) (k:Nat):zA3 c i k=((zAj c i)[k]?).getD 0:=by
 unfold zA3; unfold zAN at he; rw [List.getElem?_eq_getElem hi] at he ⊢; simp only at he ⊢; rw [if_neg (by simpa using he)]
theorem zFZ {c:List Shp} {l:List Spc} {x:Thg} {size:Nat} (hs:zAq c l=true) (hx:zAs c x size=true):∀ s,zFL l x.type=some s→∀ m,m ∈ s.map→0≤m∧m.toNat<x.vals.length:=by
 intro s hsp m hm; obtain ⟨i,hi,hty⟩:=zDm hsp; obtain ⟨t,a,S⟩:=zLE hs hi; obtain ⟨ti,si,T⟩:=zCA hx; have hti:ti=t:=by have h1:=T.ti; rw [←hty,S.ti] at h1; exact (Option.some.inj h1).symm
 subst hti; have hml:=zD2 T.si S.et T.many; obtain ⟨k,hk,hkm⟩:=List.mem_iff_getElem.1 hm; obtain ⟨n,h1,h2,h3,_⟩:=S.map k (by rw [←S.len]; exact hk); rw [List.getElem?_eq_getElem hk,hkm] at h1
 cases h1
 omega
theorem zA2 {c:List Shp} {l:List Spc} {x:Thg} {size:Nat} (hs:zAq c l=true) (hx:zAs c x size=true):zAs c (zAD l x) size=true:=by
 unfold zAD
 cases hsp:zFL l x.type with
 | none=>exact hx
 | some s =>
  obtain ⟨i,hi,hty⟩:=zDm hsp; obtain ⟨t,a,S⟩:=zLE hs hi; obtain ⟨ti,si,T⟩:=zCA hx; have hti:ti=t:=by have h1:=T.ti; rw [←hty,S.ti] at h1; exact (Option.some.inj h1).symm
  subst hti; have hml:=zD2 T.si S.et T.many; have hal:=zCF S.ai; have htl:=zCF S.ti
  refine zSK (i:=a) (s:=c[a]) ⟨S.ai,List.getElem?_eq_getElem hal,?_,fun k n hk=>?_⟩
  ·have hea:=S.ea; unfold zAN at hea; rw [List.getElem?_eq_getElem hal] at hea; unfold zC0; rw [if_neg (by simpa using hea)]; exact decide_eq_true (by rw [List.length_map]; exact S.len)
  ·have hk':k<s.map.length:=by
    have:=(List.getElem?_eq_some_iff.1 hk).1
    simpa using this
   obtain ⟨m,h1,h2,h3,h4,_⟩:=S.map k (by rw [←S.len]; exact hk'); simp only [List.getElem?_map,h1,Option.map_some,Option.some.injEq] at hk; have hmx:m.toNat<x.vals.length:=by omega
   have hxv:=List.getElem?_eq_getElem hmx; have:=T.val _ _ hxv; rw [zD3 S.et htl,h4] at this; rw [zD3 S.ea hal,←hk]; unfold zEO; rw [hxv]; exact this
def zCo (c:List Shp) (i:Nat) (vs:List Int):Nat→List Int
 | 0=>[]
 | k+1=>zCo c i vs k++(if zA3 c i k=2 then (vs[k]?).toList else [])
def zEc (c:List Shp) (y:Thg):List Int:=match zBQ c y.type with
 | some i=>zCo c i y.vals y.vals.length
 | none=>[]
def visit (o:List Int) (v:Int):List Int:=if 0<v∧v ∉ o then o++[v] else o
def zBH (refs:Int→List Int):Nat→List Int→Nat→List Int
 | 0,o,_=>o
 | f+1,o,n=>match o[n]? with
  | none=>o
  | some v=>zBH refs f ((refs v).foldl visit o) (n+1)
def zAo (o:List Int) (v:Int):Int:=match o.findIdx? (fun x=>decide (x=v)) with
 | some i=>(i:Int)+1
 | none=>0
theorem zCq {o:List Int} {v:Int} (h:v ∉ o):zAo o v=0:=by
 unfold zAo
 have:o.findIdx? (fun x=>decide (x=v))=none:=by
  rw [List.findIdx?_eq_none_iff]; intro x hx; exact decide_eq_false (fun e=>h (e ▸ hx))
 rw [this]
theorem zH4 {o:List Int} {v:Int} (h:v ∈ o):0<zAo o v:=by
 unfold zAo
 cases hf:o.findIdx? (fun x=>decide (x=v)) with
 | none =>
  rw [List.findIdx?_eq_none_iff] at hf; have:=hf v h; simp at this
 | some i=>simp only; omega
theorem placeOf_zero {o:List Int} {v:Int}:zAo o v=0↔v ∉ o:=⟨fun h hm=>by have:=zH4 hm; omega,zCq⟩
theorem zH5 {o:List Int} {u v:Int} (h:v ∉ o):zAo (o++[v]) u=if u=v then (o.length:Int)+1 else zAo o u:=by
 unfold zAo; rw [List.findIdx?_append]
 by_cases e:u=v
 ·subst e
  have:o.findIdx? (fun x=>decide (x=u))=none:=by
   rw [List.findIdx?_eq_none_iff]; intro x hx; exact decide_eq_false (fun e=>h (e ▸ hx))
  rw [this,if_pos rfl]; simp
 ·rw [if_neg e]
  cases hf:o.findIdx? (fun x=>decide (x=u)) with
  | some i=>simp
  | none =>
   have:([v].findIdx? fun x=>decide (x=u))=none:=by
    simp [Ne.symm e,List.findIdx?_cons]
   rw [this]; simp
structure Found (o:List Int) (n:Nat):Prop where
 nodup:o.Nodup
 low:∀ v,v ∈ o→0<v
 high:∀ v,v ∈ o→v≤n
theorem zNx:∀ (n:Nat) (o:List Int),o.Nodup→(∀ v,v ∈ o→0<v∧v≤n)→o.length≤n
 | 0,o,_,h=>by
  cases o with
  | nil=>exact Nat.le_refl _
  | cons a o=>have:=h a (List.mem_cons_self ..); omega
 | n+1,o,hd,h=>by
  by_cases hm:((n+1:Nat):Int) ∈ o
  ·have h1:=zNx n (o.erase ((n+1:Nat):Int)) (hd.erase _) fun v hv=>by
    obtain ⟨h2,h3⟩:=(List.Nodup.mem_erase_iff hd).1 hv; have:=h v h3; omega
   rw [List.length_erase_of_mem hm] at h1; omega
  ·have:=zNx n o hd fun v hv=>by
    have h1:=h v hv; have:v≠((n+1:Nat):Int):=fun e=>hm (e ▸ hv); omega
   omega
theorem Found.len {o:List Int} {n:Nat} (h:Found o n):o.length≤n:=zNx n o h.nodup fun v hv=>⟨h.low v hv,h.high v hv⟩
theorem Found.visit {o:List Int} {n:Nat} (h:Found o n) {v:Int} (hv:v≤n):Found (visit o v) n:=by
 unfold Go.Ce.visit
 split
 ·rename_i hc
  refine ⟨?_,?_,?_⟩
  ·rw [List.nodup_append]; exact ⟨h.nodup,by simp,fun a ha b hb=>by rw [List.mem_singleton.1 hb]; exact fun e=>hc.2 (e ▸ ha)⟩
  ·intro u hu
   rcases List.mem_append.1 hu with hu | hu
   ·exact h.low u hu
   ·rw [List.mem_singleton.1 hu]; exact hc.1
  ·intro u hu
   rcases List.mem_append.1 hu with hu | hu
   ·exact h.high u hu
   ·rw [List.mem_singleton.1 hu]; exact hv
 ·exact h
theorem zOz {refs:Int→List Int} {o:List Int} {n:Nat} (h:o.length≤n):∀ f,zBH refs f o n=o
 | 0=>rfl
 | f+1=>by unfold zBH; rw [List.getElem?_eq_none h]
theorem zMi {refs:Int→List Int} {o:List Int} {n f:Nat} {v:Int} (h:o[n]?=some v):zBH refs (f+1) o n=zBH refs f ((refs v).foldl visit o) (n+1):=by
 rw [zBH,h]
end Go.Ce
namespace Go.Ce
open Go Go.Proofs Go.Proofs.Tryz
theorem zN5 (o:List Int) (v:Int):zCt (o++[v])=zCt o++[.int .i64 v]:=by simp [zCt]
theorem zFC (o:List Int):(zCt o).length=o.length:=by simp [zCt]
theorem zMo {c:List Shp} {i k:Nat} {vs:List Int} {n:Int} (h:vs[k]?=some n):zCo c i vs (k+1)=zCo c i vs k++(if zA3 c i k=2 then [n] else []):=by
 rw [zCo,h]; rfl
def zDp (c:List Shp) (l:List Spc) (h:List Thg) (v:Int):List Int:=match h[(v-1).toNat]? with
 | some x=>zEc c (zAD l x)
 | none=>[]
def start (root:Int):List Int:=if root>0 then [root] else []
def zAd (c:List Shp) (l:List Spc) (h:List Thg) (root:Int):List Int:=zBH (zDp c l h) h.length (start root) 0
theorem Found.start {root:Int} {n:Nat} (h:root≤n):Found (start root) n:=by
 unfold Go.Ce.start
 split
 ·exact ⟨List.pairwise_singleton _ _,fun v hv=>by rw [List.mem_singleton.1 hv]; assumption,fun v hv=>by rw [List.mem_singleton.1 hv]; exact h⟩
 ·exact ⟨List.nodup_nil,fun v hv=>(by cases hv),fun v hv=>(by cases hv)⟩
theorem zQg {c:List Shp} {i m:Nat} {s:Shp} (hC:Cat c) (h:zC0 c i s m=true):m≤20100:=by
 unfold zC0 at h
 split at h
 ·have:=of_decide_eq_true h; omega
 ·have:=of_decide_eq_true h; have h2:=zFj hC.len hC.fields i; unfold zAj at this; rw [List.length_map] at this; omega
theorem zP3 {A W:CW} (hA:Top A) (k:Kp A W) {b o:Nat} {x:Thg} (h:RThg A b o x):∃ vx,ld prog 56 (.pointer (some ⟨b,o,none⟩)) W=some (.agg #[.string x.type,vx])∧IsSl 1 (RInt W) vx x.vals∧(x.vals≠[]→∀ j,zA7 vx j→j<A.sz):=by
 obtain ⟨v,h1,h2⟩:=h.vals
 refine ⟨v,zA8 (vs:=[.string x.type,v]) a56 s56 rfl (by omega) ?_,h2.imp fun _ _ _ hr=>hr.kp hA k,fun hne j hj=>?_⟩
 ·intro j w hj
  match j,hj with
  | 0,hj=>cases hj; exact k.cell hA h.type
  | 1,hj=>cases hj; exact k.cell hA h1
 ·obtain ⟨b,l,c,rfl,rfl⟩:=hj; obtain ⟨a',c',e,hc⟩:=h2
  cases e
  cases hv:x.vals with
  | nil=>exact (hne hv).elim
  | cons n ns =>
   obtain ⟨p,hp,hr⟩:=hc 0 n (by rw [hv]; rfl)
   cases hp
   exact zNZ hA hr.1
end Go.Ce
namespace Go.Ce
open Go Go.Proofs Go.Proofs.Tryz
theorem zJG:∀ (f n:Nat),n<128 ^ (f+1)→(zCB n).length≤f+1
 | 0,n,h=>by unfold zCB; rw [if_pos (by simpa using h)]; simp
 | f+1,n,h=>by
  unfold zCB
  split
  ·simp
  ·have:=zJG f (n / 128) (by rw [Nat.pow_succ] at h; exact Nat.div_lt_of_lt_mul (by rw [Nat.mul_comm]; exact h)); simp only [List.length_cons]; omega
theorem zBg {n:Nat} (h:n<100000000000000):(zCB n).length≤8:=zJG 7 n (by omega)
def zGa (n:Int):Int:=if n<0 then -2*n-1 else 2*n
def zA1 (t:List ByteArray) (s:ByteArray):List ByteArray:=if t.any (fun x=>decide (x=s)) then t else t++[s]
def zBr (l:List Spc) (xs:List Thg):List ByteArray:=xs.foldl (fun t x=>zA1 t (zAD l x).type) []
def zRw (o:List Int) (kind n:Int):List Int:=if kind=2 then zCB (zAo o n).toNat else zCB (zGa n).toNat
def zDE (c:List Shp) (o:List Int) (i:Nat) (vs:List Int):Nat→List Int
 | 0=>[]
 | k+1=>zDE c o i vs k++(match vs[k]? with
  | some n=>zRw o (zA3 c i k) n
  | none=>[])
def zDW (c:List Shp) (t:List ByteArray) (o:List Int) (y:Thg):List Int:=match zBQ c y.type with
 | some i=>zCB (zIp t fun x=>decide (x=y.type)).toNat++(if zAN c i≠0 then zCB y.vals.length else [])++zDE c o i y.vals y.vals.length
 | none=>[]
def zAF (h:List Thg) (o:List Int):List Thg:=o.flatMap fun v=>(h[(v-1).toNat]?).toList
def zC2 (c:List Shp) (l:List Spc) (h:List Thg) (o:List Int):List Int :=
 [1]++zCB (zBr l (zAF h o)).length++(zBr l (zAF h o)).flatMap zDy++zCB o.length++(zAF h o).flatMap fun x=>zDW c (zBr l (zAF h o)) o (zAD l x)
def zKu (l:List Spc) (h:List Thg) (o:List Int):Bool:=(zAF h o).any fun x=>l.any fun s=>decide (s.to=x.type)
def zCK (c:List Shp) (l:List Spc) (h:List Thg) (root:Int):List Int × Int :=
 if zKt c l h root≠0 then ([],zKt c l h root) else if zKu l h (zAd c l h root) then ([],214) else (zC2 c l h (zAd c l h root),0)
theorem zIj {c:List Shp} (h:zA9 c=true) {i:Nat} (hi:i<c.length):(zAj c i).length≤60∧∀ (k:Nat) n,(zAj c i)[k]?=some n→n=1∨n=2:=by
 unfold zA9 at h; simp only [Bool.and_eq_true,Bool.not_eq_true'] at h; have hb:=zBi h.2.2 hi; unfold zHD at hb
 cases hl:zBP c c.length i with
 | none=>rw [hl] at hb; cases hb
 | some l =>
  rw [hl] at hb; simp only [Bool.or_eq_false_iff,decide_eq_false_iff_not] at hb; refine ⟨by unfold zAj; rw [List.length_map]; omega,fun k n hk=>?_⟩; unfold zAj at hk; rw [List.getElem?_map] at hk
  cases hf:(zCf c i)[k]? with
  | none=>rw [hf] at hk; cases hk
  | some f =>
   rw [hf] at hk
   cases hk
   have:=zBi hb.2 (List.getElem?_eq_some_iff.1 hf).1; unfold zD4 at this; rw [hf] at this; simp only [Bool.or_eq_false_iff,Bool.not_eq_false'] at this; have hk:=this.1.2; unfold zFM at hk
   simpa using hk
theorem zTN {c:List Shp} (h:zA9 c=true) {i:Nat} (hi:i<c.length):zAN c i=0∨zAN c i=1∨zAN c i=2:=by
 unfold zA9 at h; simp only [Bool.and_eq_true,Bool.not_eq_true'] at h; have hb:=zBi h.2.1 hi; unfold zAk at hb; unfold zAN; rw [List.getElem?_eq_getElem hi] at hb ⊢; simp only [Bool.or_eq_false_iff] at hb ⊢; have h1:=hb.2.1
 by_cases he:c[i].elem=0
 ·exact .inl he
 ·rw [decide_eq_true he,Bool.true_and] at h1; simp only [Bool.or_eq_false_iff,Bool.not_eq_false'] at h1; have:=h1.1.1; unfold zFM at this; right
  simpa using this
theorem zUT {c:List Shp} (h:zA9 c=true) {i k:Nat} (hi:i<c.length) (hk:zAN c i=0→k<(zAj c i).length):zA3 c i k=1∨zA3 c i k=2:=by
 by_cases he:zAN c i=0
 ·rw [zD3 he hi,List.getElem?_eq_getElem (hk he)]; exact (zIj h hi).2 k _ (List.getElem?_eq_getElem (hk he))
 ·have:=zTN h hi; unfold zA3; unfold zAN at he this; rw [List.getElem?_eq_getElem hi] at he this ⊢; simp only at he this ⊢; rw [if_pos he]; omega
theorem zN1 {c:List Shp} (h:zA9 c=true) {i m:Nat} {s:Shp} (hs:c[i]?=some s) (hm:zC0 c i s m=true):m≤200:=by
 unfold zC0 at hm
 split at hm
 ·exact of_decide_eq_true hm
 ·have:=of_decide_eq_true hm; have:=(zIj h (List.getElem?_eq_some_iff.1 hs).1).1; omega
theorem zJO (a b:List Int):zAc (a++b)=zAc a++zAc b:=by simp [zAc]
theorem zBz (a:List Int):(zAc a).length=a.length:=by simp [zAc]
theorem zJN (a:List Int):(zAc a).all zAg=true:=by
 rw [List.all_eq_true]; intro x hx; obtain ⟨y,_,rfl⟩:=List.mem_map.1 hx; rfl
end Go.Ce
namespace Go.Ce
open Go Go.Proofs Go.Proofs.Tryz
def zK2 (l:List ByteArray):List Value:=l.map fun s=>Value.string s
theorem zUY (s:ByteArray) (v:Value):fld prog 56 (.agg #[.string s,v]) 0=some (.string s):=by kernel_rfl
theorem zWX (s:ByteArray) (W:CW):bsl prog 51 1 [(0,.string s)] W=some (.slice (some ⟨W.sz,0,none⟩) 1 1,W.new (.cells (Tr.nil.putFrom 0 [.string s]) [Value.string s].length #[] 9)):=by kernel_rfl
theorem z9:zer prog 9=some (.string ⟨#[]⟩):=by kernel_rfl
theorem by9:(prog.info? 9).map (·.bytes)=some 16:=by kernel_rfl
structure Hp (c:List Shp) (h:List Thg) (o:List Int):Prop where
 found:Found o h.length
 small:h.length<100000
 ok:∀ x,x ∈ h→zAs c x h.length=true
theorem Hp.at {c:List Shp} {h:List Thg} {o:List Int} (H:Hp c h o) {i:Nat} (hi:i<o.length):∃ w,o[i]=((w+1:Nat):Int)∧∃ hw:w<h.length,(h[(o[i]-1).toNat]?).toList=[h[w]]:=by
 have h1:=H.found.low _ (List.getElem_mem hi); have h2:=H.found.high _ (List.getElem_mem hi); refine ⟨(o[i]-1).toNat,by omega,by omega,?_⟩; rw [List.getElem?_eq_getElem (by omega)]; rfl
theorem zDw {c:List Shp} {h:List Thg} {o:List Int} (H:Hp c h o) {i w:Nat} (hi:i<o.length) (hw:o[i]=((w+1:Nat):Int)) (hwl:w<h.length):zAF h (o.take (i+1))=zAF h (o.take i)++[h[w]]:=by
 unfold zAF; rw [List.take_add_one,List.getElem?_eq_getElem hi]; rw [List.flatMap_append]; congr 1; simp only [Option.toList_some,List.flatMap_cons,List.flatMap_nil,List.append_nil,hw]; rw [show (((w+1:Nat):Int)-1).toNat=w by omega,List.getElem?_eq_getElem hwl]; rfl
theorem zNm (t:List ByteArray) (s:ByteArray):zK2 (t++[s])=zK2 t++[.string s]:=by simp [zK2]
theorem zFv (t:List ByteArray):(zK2 t).length=t.length:=by simp [zK2]
theorem idxI_neg {t:List ByteArray} {s:ByteArray}:zIp t (fun x=>decide (x=s))<0↔t.any (fun x=>decide (x=s))=false:=by
 unfold zIp
 cases h:t.findIdx? fun x=>decide (x=s) with
 | none =>
  rw [List.findIdx?_eq_none_iff] at h; simp only [List.any_eq_false]; exact ⟨fun _ x hx=>by rw [h x hx]; simp,fun _=>by omega⟩
 | some i =>
  obtain ⟨h1,h2,_⟩:=List.findIdx?_eq_some_iff_getElem.1 h
  constructor
  ·intro h3; simp only at h3; omega
  ·intro h3; rw [List.any_eq_true.2 ⟨_,List.getElem_mem h1,h2⟩] at h3
   cases h3
def zET (l:List Spc) (h:List Thg) (o:List Int) (i:Nat):List ByteArray:=zBr l (zAF h (o.take i))
theorem zOo {c:List Shp} {l:List Spc} {h:List Thg} {o:List Int} (H:Hp c h o) {i w:Nat} (hi:i<o.length) (hw:o[i]=((w+1:Nat):Int)) (hwl:w<h.length):zET l h o (i+1)=zA1 (zET l h o i) (zAD l h[w]).type:=by
 unfold zET zBr; rw [zDw H hi hw hwl,List.foldl_append]; rfl
theorem zNg (t:List ByteArray) (s:ByteArray):(zA1 t s).length≤t.length+1:=by
 unfold zA1; split <;> simp
theorem zES (l:List Spc):∀ (xs:List Thg) (t:List ByteArray),(xs.foldl (fun t x=>zA1 t (zAD l x).type) t).length≤t.length+xs.length
 | [],t=>by simp
 | x::xs,t=>by
  have:=zES l xs (zA1 t (zAD l x).type); have:=zNg t (zAD l x).type; simp only [List.foldl_cons,List.length_cons]; omega
theorem zCn (h:List Thg):∀ o:List Int,(zAF h o).length≤o.length
 | []=>by simp [zAF]
 | v::o=>by
  have:=zCn h o; have h2:((h[(v-1).toNat]?).toList).length≤1:=by cases h[(v-1).toNat]? <;> simp
  unfold zAF at this ⊢; rw [List.flatMap_cons,List.length_append,List.length_cons]; omega
theorem zMa (l:List Spc) (h:List Thg) (o:List Int) (i:Nat):(zET l h o i).length≤o.length:=by
 have h1:=zES l (zAF h (o.take i)) []; have h2:=zCn h (o.take i); have:(o.take i).length≤o.length:=by rw [List.length_take]; omega
 unfold zET zBr; simp only [List.length_nil] at h1; omega
end Go.Ce
namespace Go.Ce
open Go Go.Proofs Go.Proofs.Tryz
theorem zP5 {s:ByteArray} (h:s.size<1000):(zDy s).length≤1008:=by
 unfold zDy; rw [List.length_append]; have h1:=zBg (n:=s.size) (by omega); have h2:(zEN s).length=s.size:=by unfold zEN; rw [List.length_map,zFx]
 omega
theorem zHy:∀ (ts:List ByteArray),(∀ s,s ∈ ts→s.size<1000)→(ts.flatMap zDy).length≤ts.length*1008
 | [],_=>by simp
 | s::ts,h=>by
  have h1:=zHy ts fun s hs=>h s (List.mem_cons_of_mem _ hs); have h2:=zP5 (h s (List.mem_cons_self ..)); rw [List.flatMap_cons,List.length_append,List.length_cons,Nat.succ_mul]; omega
theorem zSG {o:List Int} {k n:Int} (ho:o.length<100000) (hn:k≠2→-1000000000≤n∧n≤1000000000):(zRw o k n).length≤8:=by
 unfold zRw
 split
 ·refine zBg ?_; unfold zAo
  split
  ·rename_i i hi; have:=(List.findIdx?_eq_some_iff_getElem.1 hi).1; omega
  ·decide
 ·rename_i hk; have:=hn hk; refine zBg ?_; unfold zGa; split <;> omega
theorem zGe {c:List Shp} {o:List Int} {i:Nat} {vs:List Int} (ho:o.length<100000) (hn:∀ (k:Nat) n,vs[k]?=some n→zA3 c i k≠2→-1000000000≤n∧n≤1000000000):∀ k,(zDE c o i vs k).length≤k*8
 | 0=>by simp [zDE]
 | k+1=>by
  have h1:=zGe (c:=c) (i:=i) ho hn k; unfold zDE; rw [List.length_append]
  cases hx:vs[k]? with
  | none=>simp only [List.length_nil]; omega
  | some n =>
   have:=zSG (k:=zA3 c i k) ho (hn k n hx); simp only; omega
theorem zGo (o:List Int) (v:Int):0≤zAo o v∧zAo o v≤o.length:=by
 unfold zAo
 split
 ·rename_i i hi; have:=(List.findIdx?_eq_some_iff_getElem.1 hi).1; omega
 ·omega
theorem zDx {c:List Shp} {y:Thg} {n i:Nat} {s:Shp} (h:zA9 c=true) (Y:ThgIs c y n i s) {k:Nat} {v:Int} (hx:y.vals[k]?=some v):(zA3 c i k=2∧0≤v∧v≤n)∨(zA3 c i k=1∧-1000000000≤v∧v≤1000000000):=by
 have hv:=Y.val k v hx
 have hk:zA3 c i k=1∨zA3 c i k=2:=zUT h (zCF Y.ti) fun he=>by
  have:=zD2 Y.si he Y.many; have:=(List.getElem?_eq_some_iff.1 hx).1; omega
 unfold zGd at hv
 rcases hk with hk | hk
 ·right; rw [hk] at hv; simp at hv; exact ⟨hk,by omega,by omega⟩
 ·left; rw [hk] at hv; simp at hv; exact ⟨hk,by omega,by omega⟩
end Go.Ce
namespace Go.Ce
open Go Go.Proofs Go.Proofs.Tryz
theorem zI5 (l:List Spc) {s:ByteArray}:∀ (xs:List Thg) (t:List ByteArray),t.any (fun x=>decide (x=s))=true→(xs.foldl (fun t x=>zA1 t (zAD l x).type) t).any (fun x=>decide (x=s))=true
 | [],t,h=>h
 | x::xs,t,h=>by
  rw [List.foldl_cons]; refine zI5 l xs _ ?_; unfold zA1
  split
  ·exact h
  ·rw [List.any_append,h]; rfl
theorem zLA (l:List Spc):∀ (xs:List Thg) (t:List ByteArray) (x:Thg),x ∈ xs→(xs.foldl (fun t x=>zA1 t (zAD l x).type) t).any (fun u=>decide (u=(zAD l x).type))=true
 | [],t,x,h=>by cases h
 | y::xs,t,x,h=>by
  rw [List.foldl_cons]
  rcases List.mem_cons.1 h with rfl | h
  ·refine zI5 l xs _ ?_; unfold zA1
   split
   ·assumption
   ·rw [List.any_append]; simp
  ·exact zLA l xs _ x h
theorem zGf (l:List Spc) {s:ByteArray}:∀ (xs:List Thg) (t:List ByteArray),s ∈ xs.foldl (fun t x=>zA1 t (zAD l x).type) t→s ∈ t∨∃ x,x ∈ xs∧s=(zAD l x).type
 | [],t,h=>.inl h
 | y::xs,t,h=>by
  rw [List.foldl_cons] at h
  rcases zGf l xs _ h with h | ⟨x,hx,e⟩
  ·unfold zA1 at h
   split at h
   ·exact .inl h
   ·rcases List.mem_append.1 h with h | h
    ·exact .inl h
    ·exact .inr ⟨y,List.mem_cons_self ..,List.mem_singleton.1 h⟩
  ·exact .inr ⟨x,List.mem_cons_of_mem _ hx,e⟩
theorem zLV {h:List Thg} {o:List Int} {x:Thg} (hx:x ∈ zAF h o):x ∈ h:=by
 unfold zAF at hx; obtain ⟨v,_,hv⟩:=List.mem_flatMap.1 hx
 cases hg:h[(v-1).toNat]? with
 | none=>rw [hg] at hv; cases hv
 | some y=>rw [hg] at hv; rw [List.mem_singleton.1 hv]; exact List.mem_of_getElem? hg
theorem zSO {c:List Shp} (hC:Cat c) {s:ByteArray} {i:Nat} (h:zBQ c s=some i):s.size<1000:=by
 obtain ⟨h1,h2,_⟩:=List.findIdx?_eq_some_iff_getElem.1 h; have:=hC.name _ (List.getElem_mem h1); rw [←of_decide_eq_true h2]; exact this
theorem zOr {c:List Shp} {t:List ByteArray} {o:List Int} {y:Thg} {n i:Nat} {s:Shp} (hc:zA9 c=true) (Y:ThgIs c y n i s) (ho:o.length<100000) (htl:t.length<100000):(zDW c t o y).length≤1616:=by
 unfold zDW; rw [Y.ti]
 have h1:(zCB (zIp t fun x=>decide (x=y.type)).toNat).length≤8:=zBg (by
  unfold zIp
  split
  ·rename_i i hi; have:=(List.findIdx?_eq_some_iff_getElem.1 hi).1; omega
  ·decide)
 have hm:=zN1 hc Y.si Y.many
 have h2:(if zAN c i≠0 then zCB y.vals.length else []).length≤8:=by
  split
  ·exact zBg (by omega)
  ·simp
 have h3:=zGe (c:=c) (o:=o) (i:=i) (vs:=y.vals) ho (fun k n hx hk=>by
   rcases zDx hc Y hx with h | h
   ·exact (hk h.1).elim
   ·exact h.2) y.vals.length
 simp only [List.length_append]; omega
theorem zGh {c:List Shp} {l:List Spc} {t:List ByteArray} {o:List Int} {n:Nat} (hc:zA9 c=true) (ho:o.length<100000) (htl:t.length<100000):∀ xs:List Thg,(∀ x,x ∈ xs→zAs c (zAD l x) n=true)→(xs.flatMap fun x=>zDW c t o (zAD l x)).length≤xs.length*1616
 | [],_=>by simp
 | x::xs,h=>by
  have h1:=zGh (c:=c) (l:=l) (n:=n) hc ho htl xs fun x hx=>h x (List.mem_cons_of_mem _ hx); obtain ⟨i,s,Y⟩:=zCA (h x (List.mem_cons_self ..)); have h2:=zOr (t:=t) hc Y ho htl; rw [List.flatMap_cons,List.length_append,List.length_cons,Nat.succ_mul]; omega
end Go.Ce
namespace Go.Ce
open Go Go.Proofs Go.Proofs.Tryz
def zMQ (r:List Int × Int) (W:CW):Ending→CW→Prop:=fun e W'=>Kp W W'∧Top W'∧∃ v,e=.returned (.tuple #[v,.int .i64 r.2])∧Own W' 5 1 v (zAc r.1)
theorem zBF (a b:Value):ext (.tuple #[a,b]) 0=some a:=rfl
theorem zBE (a b:Value):ext (.tuple #[a,b]) 1=some b:=rfl
theorem zDS {c:List Shp} {l:List Spc} {h:List Thg} {root:Int} (hz:zKt c l h root=0):zA9 c=true∧zAq c l=true∧(¬zEV c h≥0)∧0≤root∧root≤h.length:=by
 unfold zKt at hz
 by_cases h1:zLG c l≠0
 ·rw [if_pos h1] at hz; exact (h1 hz).elim
 ·rw [if_neg h1] at hz
  by_cases h2:zEV c h≥0
  ·rw [if_pos h2] at hz; cases hz
  ·rw [if_neg h2] at hz
   by_cases h3:root<0∨root>h.length
   ·rw [if_pos h3] at hz; cases hz
   ·have h1:zLG c l=0:=by omega
    unfold zLG at h1
    cases hc:zA9 c with
    | false=>rw [hc] at h1; simp at h1
    | true =>
     cases hs:zAq c l with
     | false=>rw [hc,hs] at h1; simp at h1
     | true=>exact ⟨rfl,rfl,h2,by omega,by omega⟩
end Go.Ce
namespace Go.Ce
open Go Go.Proofs Go.Proofs.Tryz
def zRI (ro:Option Nat) (K:zAI):zAI:=zA5 (fun e ds W=>wV (ld prog 78 (e 4) W) fun v103=>wV (sto prog 78 (e 2) v103 W) fun W6=>K .ret (Env.of e [(3,(.bool true)),(103,v103)]) ds W6) K
def zLp (ro:Option Nat) (K:zAI):zAI:=zA5 (fun e ds W=>wV (zAm prog 22 (e 0) W) fun v82=>zCg prog pkL ro 47 104 (.loop (zAS prog 47 1)) (Env.of e [(83,(.int .i64 0)),(82,v82),(81,(e 0))]) ds W (zBm 2 (zRI ro K))) K
theorem zXu (v0:Value) (K:zAI) (W:CW):zAJ prog pkL none 47 104 (zAG prog 47) (Env.args [v0]) [] W K=(wVW (alc prog 78 W) fun v2 W0=>wVW (mkm W0) fun v12 W1=>wVW (mkm W1) fun v13 W2=>wV (bld prog 78 [(0,v12),(1,v13)]) fun v14=>wVW (alc prog 78 W2) fun v4 W3=>wV (sto prog 78 v4 v14 W3) fun W4=>wV (zAm prog 22 v0 W4) fun v16=>wV (zAL prog .gtr 3 true v16 (.int .i64 100)) fun v17=>wI v17 (wV (ld prog 78 v4 W4) fun v18=>wV (sto prog 78 v2 v18 W4) fun W5=>K .ret (Env.of (Env.args [v0]) [(3,(.bool false)),(18,v18),(17,v17),(16,v16),(15,v0),(4,v4),(14,v14),(13,v13),(12,v12),(3,(.bool false)),(2,v2)]) [] W5) (wV (zAm prog 22 v0 W4) fun v20=>zCg prog pkL none 47 104 (.loop (zAS prog 47 0)) (Env.of (Env.args [v0]) [(21,(.int .i64 0)),(20,v20),(19,v0),(17,v17),(16,v16),(15,v0),(4,v4),(14,v14),(13,v13),(12,v12),(3,(.bool false)),(2,v2)]) [] W4 (zBm 0 (zLp none K)))):=by kernel_rfl
def zLo (ro:Option Nat) (K:zAI):zAI:=zA5 (fun e ds W=>wV (zAL prog .add 3 true (e 21) (.int .i64 1)) fun v80=>K .normal (Env.of e [(21,v80),(80,v80)]) ds W) K
def zIT (ro:Option Nat) (K:zAI):zAI:=zA5 (fun e ds W=>wV (fad prog 78 (e 4) 0) fun v75=>wV (ld prog 75 v75 W) fun v76=>wV (fad prog 48 (e 6) 0) fun v77=>wV (ld prog 9 v77 W) fun v78=>wV (ld prog 48 (e 6) W) fun v79=>wV (mup prog 75 v76 v78 v79 W) fun W12=>(zLo ro K) .normal (Env.of e [(79,v79),(78,v78),(77,v77),(76,v76),(75,v75)]) ds W12) (zBm 1 (zLo ro K))
def zEv (ro:Option Nat) (K:zAI):zAI:=zA5 (fun e ds W=>wI (e 73) (wV (ld prog 78 (e 4) W) fun v74=>wV (sto prog 78 (e 2) v74 W) fun W14=>(zIT ro K) .ret (Env.of e [(3,(.bool false)),(74,v74)]) ds W14) ((zIT ro K) .normal e ds W)) (zIT ro K)
def zFm (ro:Option Nat) (K:zAI):zAI:=zA5 (fun e ds W=>wV (fad prog 48 (e 6) 0) fun v45=>wV (ld prog 9 v45 W) fun v46=>WCall prog pkL 101 [v46] W (zAK (fun v47 W16=>wV (ngt v47) fun v48=>wI v48 ((((True)∧ld prog 9 v45 W=some v46)∧True)∧True∧(zEv ro K) .normal (Env.of e [(73,(.bool true)),(72,undef),(68,(.bool true)),(71,undef),(68,(.bool true)),(70,undef),(68,(.bool true)),(69,undef),(68,(.bool true)),(68,(.bool true)),(67,(.bool true)),(66,undef),(64,(.bool true)),(65,undef),(64,(.bool true)),(64,(.bool true)),(63,(.bool true)),(62,undef),(49,(.bool true)),(61,undef),(60,undef),(59,undef),(58,undef),(57,undef),(56,undef),(55,undef),(54,undef),(53,undef),(52,undef),(49,(.bool true)),(51,undef),(49,(.bool true)),(50,undef),(49,(.bool true)),(49,v48),(48,v48),(47,v47),(46,v46),(45,v45)]) ds W16) (wV (zAL prog .gtr 3 true (e 5) (.int .i64 0)) fun v51=>wI v51 (wV (zAL prog .sub 3 true (e 5) (.int .i64 1)) fun v55=>wV (iad prog 22 (e 0) v55) fun v56=>wV (fad prog 48 v56 0) fun v57=>wV (ld prog 9 v57 W16) fun v58=>wV (fad prog 48 (e 6) 0) fun v59=>wV (ld prog 9 v59 W16) fun v60=>wV (zAL prog .geq 9 false v58 v60) fun v61=>wI v61 ((((ld prog 9 v59 W16=some v60)∧True)∧(((ld prog 9 v57 W16=some v58)∧True)∧(((True)∧ld prog 9 v45 W=some v46)∧True)))∧True∧(zEv ro K) .normal (Env.of e [(73,(.bool true)),(72,undef),(68,(.bool true)),(71,undef),(68,(.bool true)),(70,undef),(68,(.bool true)),(69,undef),(68,(.bool true)),(68,(.bool true)),(67,(.bool true)),(66,undef),(64,(.bool true)),(65,undef),(64,(.bool true)),(64,v61),(63,v61),(62,v61),(49,(.bool false)),(61,v61),(52,(.bool true)),(60,v60),(52,(.bool true)),(59,v59),(52,(.bool true)),(58,v58),(52,(.bool true)),(57,v57),(52,(.bool true)),(56,v56),(52,(.bool true)),(55,v55),(52,(.bool true)),(54,(e 5)),(52,(.bool true)),(53,(e 0)),(52,(.bool true)),(52,v51),(49,(.bool false)),(51,v51),(49,(.bool false)),(50,(e 5)),(49,(.bool false)),(49,v48),(48,v48),(47,v47),(46,v46),(45,v45)]) ds W16) (wV (ngt (e 7)) fun v66=>wI v66 ((((ld prog 9 v59 W16=some v60)∧True)∧(((ld prog 9 v57 W16=some v58)∧True)∧(((True)∧ld prog 9 v45 W=some v46)∧True)))∧True∧(zEv ro K) .normal (Env.of e [(73,(.bool true)),(72,undef),(68,(.bool true)),(71,undef),(68,(.bool true)),(70,undef),(68,(.bool true)),(69,undef),(68,(.bool true)),(68,v66),(67,v66),(66,v66),(64,(.bool false)),(65,(e 7)),(64,(.bool false)),(64,v61),(63,v61),(62,v61),(49,(.bool false)),(61,v61),(52,(.bool true)),(60,v60),(52,(.bool true)),(59,v59),(52,(.bool true)),(58,v58),(52,(.bool true)),(57,v57),(52,(.bool true)),(56,v56),(52,(.bool true)),(55,v55),(52,(.bool true)),(54,(e 5)),(52,(.bool true)),(53,(e 0)),(52,(.bool true)),(52,v51),(49,(.bool false)),(51,v51),(49,(.bool false)),(50,(e 5)),(49,(.bool false)),(49,v48),(48,v48),(47,v47),(46,v46),(45,v45)]) ds W16) (wV (fad prog 48 (e 6) 2) fun v69=>wV (ld prog 45 v69 W16) fun v70=>wV (zAm prog 45 v70 W16) fun v71=>wV (zAL prog .gtr 3 true v71 (.int .i64 20)) fun v72=>(((zAm prog 45 v70 W16=some v71)∧True)∧(((ld prog 45 v69 W16=some v70)∧True)∧(((ld prog 9 v59 W16=some v60)∧True)∧(((ld prog 9 v57 W16=some v58)∧True)∧(((True)∧ld prog 9 v45 W=some v46)∧True)))))∧True∧(zEv ro K) .normal (Env.of e [(73,v72),(72,v72),(68,(.bool false)),(71,v71),(68,(.bool false)),(70,v70),(68,(.bool false)),(69,v69),(68,(.bool false)),(68,v66),(67,v66),(66,v66),(64,(.bool false)),(65,(e 7)),(64,(.bool false)),(64,v61),(63,v61),(62,v61),(49,(.bool false)),(61,v61),(52,(.bool true)),(60,v60),(52,(.bool true)),(59,v59),(52,(.bool true)),(58,v58),(52,(.bool true)),(57,v57),(52,(.bool true)),(56,v56),(52,(.bool true)),(55,v55),(52,(.bool true)),(54,(e 5)),(52,(.bool true)),(53,(e 0)),(52,(.bool true)),(52,v51),(49,(.bool false)),(51,v51),(49,(.bool false)),(50,(e 5)),(49,(.bool false)),(49,v48),(48,v48),(47,v47),(46,v46),(45,v45)]) ds W16))) (wV (ngt (e 7)) fun v66=>wI v66 ((((True)∧ld prog 9 v45 W=some v46)∧True)∧True∧(zEv ro K) .normal (Env.of e [(73,(.bool true)),(72,undef),(68,(.bool true)),(71,undef),(68,(.bool true)),(70,undef),(68,(.bool true)),(69,undef),(68,(.bool true)),(68,v66),(67,v66),(66,v66),(64,(.bool false)),(65,(e 7)),(64,(.bool false)),(64,(.bool false)),(63,(.bool false)),(62,(.bool false)),(49,(.bool false)),(61,undef),(52,(.bool false)),(60,undef),(52,(.bool false)),(59,undef),(52,(.bool false)),(58,undef),(52,(.bool false)),(57,undef),(52,(.bool false)),(56,undef),(52,(.bool false)),(55,undef),(52,(.bool false)),(54,undef),(52,(.bool false)),(53,undef),(52,(.bool false)),(52,v51),(49,(.bool false)),(51,v51),(49,(.bool false)),(50,(e 5)),(49,(.bool false)),(49,v48),(48,v48),(47,v47),(46,v46),(45,v45)]) ds W16) (wV (fad prog 48 (e 6) 2) fun v69=>wV (ld prog 45 v69 W16) fun v70=>wV (zAm prog 45 v70 W16) fun v71=>wV (zAL prog .gtr 3 true v71 (.int .i64 20)) fun v72=>(((zAm prog 45 v70 W16=some v71)∧True)∧(((ld prog 45 v69 W16=some v70)∧True)∧(((True)∧ld prog 9 v45 W=some v46)∧True)))∧True∧(zEv ro K) .normal (Env.of e [(73,v72),(72,v72),(68,(.bool false)),(71,v71),(68,(.bool false)),(70,v70),(68,(.bool false)),(69,v69),(68,(.bool false)),(68,v66),(67,v66),(66,v66),(64,(.bool false)),(65,(e 7)),(64,(.bool false)),(64,(.bool false)),(63,(.bool false)),(62,(.bool false)),(49,(.bool false)),(61,undef),(52,(.bool false)),(60,undef),(52,(.bool false)),(59,undef),(52,(.bool false)),(58,undef),(52,(.bool false)),(57,undef),(52,(.bool false)),(56,undef),(52,(.bool false)),(55,undef),(52,(.bool false)),(54,undef),(52,(.bool false)),(53,undef),(52,(.bool false)),(52,v51),(49,(.bool false)),(51,v51),(49,(.bool false)),(50,(e 5)),(49,(.bool false)),(49,v48),(48,v48),(47,v47),(46,v46),(45,v45)]) ds W16)))) (fun ch17 W17=>False))) (zBm 1 (zLo ro K))
theorem zVf (ro:Option Nat) (e:Env) (ds:List Deferred) (K:zAI) (W:CW):zAJ prog pkL ro 47 104 (zAS prog 47 0) e ds W K=(wV (zAL prog .lss 3 false (e 21) (e 20)) fun v22=>wI v22 (wV (iad prog 22 (e 19) (e 21)) fun v24=>wV (ld prog 48 v24 W) fun v25=>wVW (alc prog 48 W) fun v6 W10=>wV (sto prog 48 v6 v25 W10) fun W11=>wV (fad prog 48 v6 3) fun v26=>wV (ld prog 5 v26 W11) fun v27=>wV (zAL prog .eql 5 true v27 (.int .u8 0)) fun v28=>wI v28 ((zFm ro K) .normal (Env.of e [(7,(.bool true)),(44,(.bool true)),(43,undef),(29,(.bool true)),(42,undef),(41,undef),(40,undef),(39,undef),(38,undef),(29,(.bool true)),(37,undef),(29,(.bool true)),(36,undef),(35,undef),(34,undef),(33,undef),(29,(.bool true)),(32,undef),(29,(.bool true)),(31,undef),(29,(.bool true)),(30,undef),(29,(.bool true)),(29,v28),(28,v28),(27,v27),(26,v26),(5,(e 21)),(6,v6),(25,v25),(24,v24),(23,(e 21)),(22,v22)]) ds W11) (wV (fad prog 48 v6 3) fun v30=>wV (ld prog 5 v30 W11) fun v31=>WCall prog pkL 100 [v31] W11 (zAK (fun v32 W19=>wI v32 (wV (fad prog 48 v6 1) fun v34=>wV (ld prog 9 v34 W19) fun v35=>wV (zAL prog .eql 9 true v35 (.string ⟨#[]⟩)) fun v36=>wI v36 (wV (fad prog 48 v6 2) fun v39=>wV (ld prog 45 v39 W19) fun v40=>wV (zAm prog 45 v40 W19) fun v41=>wV (zAL prog .eql 3 true v41 (.int .i64 0)) fun v42=>(zFm ro K) .normal (Env.of e [(7,v42),(44,v42),(43,v42),(29,(.bool false)),(42,v42),(38,(.bool true)),(41,v41),(38,(.bool true)),(40,v40),(38,(.bool true)),(39,v39),(38,(.bool true)),(38,v36),(29,(.bool false)),(37,v36),(29,(.bool false)),(36,v36),(33,(.bool true)),(35,v35),(33,(.bool true)),(34,v34),(33,(.bool true)),(33,v32),(29,(.bool false)),(32,v32),(29,(.bool false)),(31,v31),(29,(.bool false)),(30,v30),(29,(.bool false)),(29,v28),(28,v28),(27,v27),(26,v26),(5,(e 21)),(6,v6),(25,v25),(24,v24),(23,(e 21)),(22,v22)]) ds W19) ((zFm ro K) .normal (Env.of e [(7,(.bool false)),(44,(.bool false)),(43,(.bool false)),(29,(.bool false)),(42,undef),(38,(.bool false)),(41,undef),(38,(.bool false)),(40,undef),(38,(.bool false)),(39,undef),(38,(.bool false)),(38,v36),(29,(.bool false)),(37,v36),(29,(.bool false)),(36,v36),(33,(.bool true)),(35,v35),(33,(.bool true)),(34,v34),(33,(.bool true)),(33,v32),(29,(.bool false)),(32,v32),(29,(.bool false)),(31,v31),(29,(.bool false)),(30,v30),(29,(.bool false)),(29,v28),(28,v28),(27,v27),(26,v26),(5,(e 21)),(6,v6),(25,v25),(24,v24),(23,(e 21)),(22,v22)]) ds W19)) ((zFm ro K) .normal (Env.of e [(7,(.bool false)),(44,(.bool false)),(43,(.bool false)),(29,(.bool false)),(42,undef),(38,(.bool false)),(41,undef),(38,(.bool false)),(40,undef),(38,(.bool false)),(39,undef),(38,(.bool false)),(38,(.bool false)),(29,(.bool false)),(37,(.bool false)),(29,(.bool false)),(36,undef),(33,(.bool false)),(35,undef),(33,(.bool false)),(34,undef),(33,(.bool false)),(33,v32),(29,(.bool false)),(32,v32),(29,(.bool false)),(31,v31),(29,(.bool false)),(30,v30),(29,(.bool false)),(29,v28),(28,v28),(27,v27),(26,v26),(5,(e 21)),(6,v6),(25,v25),(24,v24),(23,(e 21)),(22,v22)]) ds W19)) (fun ch20 W20=>(zFm ro K) (.panic ch20) (Env.of e [(29,(.bool false)),(31,v31),(29,(.bool false)),(30,v30),(29,(.bool false)),(29,v28),(28,v28),(27,v27),(26,v26),(5,(e 21)),(6,v6),(25,v25),(24,v24),(23,(e 21)),(22,v22)]) ds W20)))) (K (.exit 0) (Env.of e [(22,v22)]) ds W)):=by kernel_rfl
def zIS (ro:Option Nat) (K:zAI):zAI:=zA5 (fun e ds W=>wV (zAL prog .add 3 true (e 83) (.int .i64 1)) fun v102=>K .normal (Env.of e [(83,v102),(102,v102)]) ds W) K
theorem zVe (ro:Option Nat) (e:Env) (ds:List Deferred) (K:zAI) (W:CW):zAJ prog pkL ro 47 104 (zAS prog 47 1) e ds W K=(wV (zAL prog .lss 3 false (e 83) (e 82)) fun v84=>wI v84 (wV (iad prog 22 (e 81) (e 83)) fun v85=>wV (ld prog 48 v85 W) fun v86=>wVW (alc prog 48 W) fun v9 W22=>wV (sto prog 48 v9 v86 W22) fun W23=>wV (ld prog 78 (e 4) W23) fun v88=>wV (fad prog 48 v9 0) fun v89=>wV (ld prog 9 v89 W23) fun v90=>WCall prog pkL 102 [v88,v90] W23 (zAK (fun v91 W24=>wV (ext v91 0) fun v92=>wV (ext v91 1) fun v93=>wV (ngt v93) fun v95=>wI v95 (wV (ld prog 78 (e 4) W24) fun v96=>wV (sto prog 78 (e 2) v96 W24) fun W26=>(zIS ro K) .ret (Env.of e [(3,(.bool false)),(96,v96),(95,v95),(94,v93),(11,v93),(10,v92),(93,v93),(92,v92),(87,v91),(91,v91),(90,v90),(89,v89),(88,v88),(9,v9),(86,v86),(85,v85),(84,v84)]) ds W26) (wV (fad prog 78 (e 4) 1) fun v97=>wV (ld prog 76 v97 W24) fun v98=>wV (fad prog 48 v9 0) fun v99=>wV (ld prog 9 v99 W24) fun v100=>wV (mup prog 76 v98 v100 v92 W24) fun W27=>(zIS ro K) .normal (Env.of e [(101,v92),(100,v100),(99,v99),(98,v98),(97,v97),(95,v95),(94,v93),(11,v93),(10,v92),(93,v93),(92,v92),(87,v91),(91,v91),(90,v90),(89,v89),(88,v88),(9,v9),(86,v86),(85,v85),(84,v84)]) ds W27)) (fun ch25 W25=>(zIS ro K) (.panic ch25) (Env.of e [(90,v90),(89,v89),(88,v88),(9,v9),(86,v86),(85,v85),(84,v84)]) ds W25))) (K (.exit 2) (Env.of e [(84,v84)]) ds W)):=by kernel_rfl
theorem zXt {Q:Ending→CW→Prop} {v0:Value} {W:CW} (h:zAJ prog pkL none 47 104 (zAG prog 47) (Env.args [v0]) [] W (zAE prog Tryz.f47 Q)):WCall prog pkL 47 [v0] W Q:=zAM Tryz.func47 (by kernel_rfl) (by kernel_rfl) (by kernel_rfl) (by kernel_rfl) (by kernel_rfl) h
def zRH (ro:Option Nat) (K:zAI):zAI:=zA5 (fun e ds W=>wV (ld prog 83 (e 6) W) fun v178=>wV (sto prog 83 (e 4) v178 W) fun W7=>K .ret (Env.of e [(5,(.bool true)),(178,v178)]) ds W7) K
def zJW (ro:Option Nat) (K:zAI):zAI:=zA5 (fun e ds W=>wV (zAm prog 23 (e 1) W) fun v162=>zCg prog pkL ro 48 179 (.loop (zAS prog 48 2)) (Env.of e [(163,(.int .i64 0)),(162,v162),(161,(e 1))]) ds W (zBm 4 (zRH ro K))) K
theorem zXs (v0 v1:Value) (K:zAI) (W:CW):zAJ prog pkL none 48 179 (zAG prog 48) (Env.args [v0,v1]) [] W K=(wVW (bxw prog 78 v0 W) fun v2 W0=>wVW (alc prog 83 W0) fun v4 W1=>wVW (mkm W1) fun v22 W2=>wVW (mkm W2) fun v23 W3=>wV (bld prog 83 [(0,v22),(1,v23)]) fun v24=>wVW (alc prog 83 W3) fun v6 W4=>wV (sto prog 83 v6 v24 W4) fun W5=>wV (zAm prog 23 v1 W5) fun v26=>wV (zAL prog .gtr 3 true v26 (.int .i64 20)) fun v27=>wI v27 (wV (ld prog 83 v6 W5) fun v28=>wV (sto prog 83 v4 v28 W5) fun W6=>K .ret (Env.of (Env.args [v0,v1]) [(5,(.bool false)),(28,v28),(27,v27),(26,v26),(25,v1),(6,v6),(24,v24),(23,v23),(22,v22),(5,(.bool false)),(4,v4),(2,v2)]) [] W6) (wV (zAm prog 23 v1 W5) fun v30=>zCg prog pkL none 48 179 (.loop (zAS prog 48 0)) (Env.of (Env.args [v0,v1]) [(31,(.int .i64 0)),(30,v30),(29,v1),(27,v27),(26,v26),(25,v1),(6,v6),(24,v24),(23,v23),(22,v22),(5,(.bool false)),(4,v4),(2,v2)]) [] W5 (zBm 0 (zJW none K)))):=by kernel_rfl
def zEu (ro:Option Nat) (K:zAI):zAI:=zA5 (fun e ds W=>wV (zAL prog .add 3 true (e 31) (.int .i64 1)) fun v160=>K .normal (Env.of e [(31,v160),(160,v160)]) ds W) K
def zNL (ro:Option Nat) (K:zAI):zAI:=zA5 (fun e ds W=>wV (fad prog 83 (e 6) 0) fun v150=>wV (ld prog 81 v150 W) fun v151=>wV (fad prog 58 (e 8) 0) fun v152=>wV (ld prog 9 v152 W) fun v153=>wV (fad prog 83 (e 6) 1) fun v154=>wV (ld prog 81 v154 W) fun v155=>wV (fad prog 58 (e 8) 1) fun v156=>wV (ld prog 9 v156 W) fun v157=>wV (ld prog 58 (e 8) W) fun v158=>wV (ld prog 58 (e 8) W) fun v159=>wV (mup prog 81 v151 v153 v158 W) fun W20=>wV (mup prog 81 v155 v157 v159 W20) fun W21=>(((True)∧((ld prog 58 (e 8) W20=some v159)∧ld prog 58 (e 8) W=some v159))∧(((True)∧((True)∧ld prog 58 (e 8) W=some v158))∧(((True)∧((ld prog 9 v156 W20=some v157)∧ld prog 9 v156 W=some v157))∧(((True)∧((ld prog 81 v154 W20=some v155)∧ld prog 81 v154 W=some v155))∧(((True)∧((True)∧ld prog 9 v152 W=some v153))∧(((True)∧((True)∧ld prog 81 v150 W=some v151))∧True))))))∧True∧(zEu ro K) .normal (Env.of e [(159,v159),(158,v158),(157,v157),(156,v156),(155,v155),(154,v154),(153,v153),(152,v152),(151,v151),(150,v150)]) ds W21) (zBm 1 (zEu ro K))
def zIR (ro:Option Nat) (K:zAI):zAI:=zA5 (fun e ds W=>wV (fad prog 83 (e 6) 1) fun v97=>wV (ld prog 81 v97 W) fun v98=>wV (fad prog 58 (e 8) 1) fun v99=>wV (ld prog 9 v99 W) fun v100=>wV (lkp prog 81 v98 v100 true W) fun v101=>wV (ext v101 0) fun v102=>wV (ext v101 1) fun v103=>wVW (alc prog 58 W) fun v13 W17=>wV (sto prog 58 v13 v102 W17) fun W18=>wI v103 (wV (ld prog 83 (e 6) W18) fun v105=>wV (sto prog 83 (e 4) v105 W18) fun W19=>(zEu ro K) .ret (Env.of e [(5,(.bool false)),(105,v105),(104,v103),(14,v103),(13,v13),(103,v103),(102,v102),(96,v101),(101,v101),(100,v100),(99,v99),(98,v98),(97,v97)]) ds W19) (wV (fad prog 58 (e 8) 2) fun v106=>wV (ld prog 40 v106 W18) fun v107=>wV (zAm prog 40 v107 W18) fun v108=>zCg prog pkL ro 48 179 (.loop (zAS prog 48 1)) (Env.of e [(109,(.int .i64 0)),(108,v108),(107,v107),(106,v106),(104,v103),(14,v103),(13,v13),(103,v103),(102,v102),(96,v101),(101,v101),(100,v100),(99,v99),(98,v98),(97,v97)]) ds W18 (zBm 2 (zNL ro K)))) (zBm 1 (zEu ro K))
def zEA (ro:Option Nat) (K:zAI):zAI:=zA5 (fun e ds W=>wI (e 94) (wV (ld prog 83 (e 6) W) fun v95=>wV (sto prog 83 (e 4) v95 W) fun W24=>(zIR ro K) .ret (Env.of e [(5,(.bool false)),(95,v95)]) ds W24) ((zIR ro K) .normal e ds W)) (zIR ro K)
theorem zVd (ro:Option Nat) (e:Env) (ds:List Deferred) (K:zAI) (W:CW):zAJ prog pkL ro 48 179 (zAS prog 48 0) e ds W K=(wV (zAL prog .lss 3 false (e 31) (e 30)) fun v32=>wI v32 (wV (iad prog 23 (e 29) (e 31)) fun v34=>wV (ld prog 58 v34 W) fun v35=>wVW (alc prog 58 W) fun v8 W11=>wV (sto prog 58 v8 v35 W11) fun W12=>wV (fad prog 78 (e 2) 0) fun v37=>wV (ld prog 75 v37 W12) fun v38=>wV (fad prog 58 v8 0) fun v39=>wV (ld prog 9 v39 W12) fun v40=>wV (lkp prog 75 v38 v40 true W12) fun v41=>wV (ext v41 0) fun v42=>wV (ext v41 1) fun v43=>wVW (alc prog 48 W12) fun v9 W13=>wV (sto prog 48 v9 v42 W13) fun W14=>wV (fad prog 78 (e 2) 0) fun v45=>wV (ld prog 75 v45 W14) fun v46=>wV (fad prog 58 v8 1) fun v47=>wV (ld prog 9 v47 W14) fun v48=>wV (lkp prog 75 v46 v48 true W14) fun v49=>wV (ext v49 0) fun v50=>wV (ext v49 1) fun v51=>wVW (alc prog 48 W14) fun v11 W15=>wV (sto prog 48 v11 v50 W15) fun W16=>wV (ngt v43) fun v53=>wI v53 (True∧True∧(zEA ro K) .normal (Env.of e [(94,(.bool true)),(93,undef),(83,(.bool true)),(92,undef),(83,(.bool true)),(91,undef),(83,(.bool true)),(90,undef),(83,(.bool true)),(89,undef),(83,(.bool true)),(88,undef),(83,(.bool true)),(87,undef),(83,(.bool true)),(86,undef),(83,(.bool true)),(85,undef),(83,(.bool true)),(84,undef),(83,(.bool true)),(83,(.bool true)),(82,(.bool true)),(81,undef),(68,(.bool true)),(80,undef),(79,undef),(78,undef),(77,undef),(76,undef),(75,undef),(74,undef),(73,undef),(72,undef),(71,undef),(68,(.bool true)),(70,undef),(68,(.bool true)),(69,undef),(68,(.bool true)),(68,(.bool true)),(67,(.bool true)),(66,undef),(63,(.bool true)),(65,undef),(63,(.bool true)),(64,undef),(63,(.bool true)),(63,(.bool true)),(62,(.bool true)),(61,undef),(58,(.bool true)),(60,undef),(58,(.bool true)),(59,undef),(58,(.bool true)),(58,(.bool true)),(57,(.bool true)),(56,undef),(54,(.bool true)),(55,undef),(54,(.bool true)),(54,v53),(53,v53),(52,v43),(12,v51),(11,v11),(51,v51),(50,v50),(44,v49),(49,v49),(48,v48),(47,v47),(46,v46),(45,v45),(10,v43),(9,v9),(43,v43),(42,v42),(36,v41),(41,v41),(40,v40),(39,v39),(38,v38),(37,v37),(7,(e 31)),(8,v8),(35,v35),(34,v34),(33,(e 31)),(32,v32)]) ds W16) (wV (ngt v51) fun v56=>wI v56 (True∧True∧(zEA ro K) .normal (Env.of e [(94,(.bool true)),(93,undef),(83,(.bool true)),(92,undef),(83,(.bool true)),(91,undef),(83,(.bool true)),(90,undef),(83,(.bool true)),(89,undef),(83,(.bool true)),(88,undef),(83,(.bool true)),(87,undef),(83,(.bool true)),(86,undef),(83,(.bool true)),(85,undef),(83,(.bool true)),(84,undef),(83,(.bool true)),(83,(.bool true)),(82,(.bool true)),(81,undef),(68,(.bool true)),(80,undef),(79,undef),(78,undef),(77,undef),(76,undef),(75,undef),(74,undef),(73,undef),(72,undef),(71,undef),(68,(.bool true)),(70,undef),(68,(.bool true)),(69,undef),(68,(.bool true)),(68,(.bool true)),(67,(.bool true)),(66,undef),(63,(.bool true)),(65,undef),(63,(.bool true)),(64,undef),(63,(.bool true)),(63,(.bool true)),(62,(.bool true)),(61,undef),(58,(.bool true)),(60,undef),(58,(.bool true)),(59,undef),(58,(.bool true)),(58,v56),(57,v56),(56,v56),(54,(.bool false)),(55,v51),(54,(.bool false)),(54,v53),(53,v53),(52,v43),(12,v51),(11,v11),(51,v51),(50,v50),(44,v49),(49,v49),(48,v48),(47,v47),(46,v46),(45,v45),(10,v43),(9,v9),(43,v43),(42,v42),(36,v41),(41,v41),(40,v40),(39,v39),(38,v38),(37,v37),(7,(e 31)),(8,v8),(35,v35),(34,v34),(33,(e 31)),(32,v32)]) ds W16) (wV (fad prog 48 v9 3) fun v59=>wV (ld prog 5 v59 W16) fun v60=>wV (zAL prog .neq 5 true v60 (.int .u8 0)) fun v61=>wI v61 ((ld prog 5 v59 W16=some v60∧True)∧True∧(zEA ro K) .normal (Env.of e [(94,(.bool true)),(93,undef),(83,(.bool true)),(92,undef),(83,(.bool true)),(91,undef),(83,(.bool true)),(90,undef),(83,(.bool true)),(89,undef),(83,(.bool true)),(88,undef),(83,(.bool true)),(87,undef),(83,(.bool true)),(86,undef),(83,(.bool true)),(85,undef),(83,(.bool true)),(84,undef),(83,(.bool true)),(83,(.bool true)),(82,(.bool true)),(81,undef),(68,(.bool true)),(80,undef),(79,undef),(78,undef),(77,undef),(76,undef),(75,undef),(74,undef),(73,undef),(72,undef),(71,undef),(68,(.bool true)),(70,undef),(68,(.bool true)),(69,undef),(68,(.bool true)),(68,(.bool true)),(67,(.bool true)),(66,undef),(63,(.bool true)),(65,undef),(63,(.bool true)),(64,undef),(63,(.bool true)),(63,v61),(62,v61),(61,v61),(58,(.bool false)),(60,v60),(58,(.bool false)),(59,v59),(58,(.bool false)),(58,v56),(57,v56),(56,v56),(54,(.bool false)),(55,v51),(54,(.bool false)),(54,v53),(53,v53),(52,v43),(12,v51),(11,v11),(51,v51),(50,v50),(44,v49),(49,v49),(48,v48),(47,v47),(46,v46),(45,v45),(10,v43),(9,v9),(43,v43),(42,v42),(36,v41),(41,v41),(40,v40),(39,v39),(38,v38),(37,v37),(7,(e 31)),(8,v8),(35,v35),(34,v34),(33,(e 31)),(32,v32)]) ds W16) (wV (fad prog 48 v11 3) fun v64=>wV (ld prog 5 v64 W16) fun v65=>wV (zAL prog .neq 5 true v65 (.int .u8 0)) fun v66=>wI v66 ((ld prog 5 v64 W16=some v65∧(ld prog 5 v59 W16=some v60∧True))∧True∧(zEA ro K) .normal (Env.of e [(94,(.bool true)),(93,undef),(83,(.bool true)),(92,undef),(83,(.bool true)),(91,undef),(83,(.bool true)),(90,undef),(83,(.bool true)),(89,undef),(83,(.bool true)),(88,undef),(83,(.bool true)),(87,undef),(83,(.bool true)),(86,undef),(83,(.bool true)),(85,undef),(83,(.bool true)),(84,undef),(83,(.bool true)),(83,(.bool true)),(82,(.bool true)),(81,undef),(68,(.bool true)),(80,undef),(79,undef),(78,undef),(77,undef),(76,undef),(75,undef),(74,undef),(73,undef),(72,undef),(71,undef),(68,(.bool true)),(70,undef),(68,(.bool true)),(69,undef),(68,(.bool true)),(68,v66),(67,v66),(66,v66),(63,(.bool false)),(65,v65),(63,(.bool false)),(64,v64),(63,(.bool false)),(63,v61),(62,v61),(61,v61),(58,(.bool false)),(60,v60),(58,(.bool false)),(59,v59),(58,(.bool false)),(58,v56),(57,v56),(56,v56),(54,(.bool false)),(55,v51),(54,(.bool false)),(54,v53),(53,v53),(52,v43),(12,v51),(11,v11),(51,v51),(50,v50),(44,v49),(49,v49),(48,v48),(47,v47),(46,v46),(45,v45),(10,v43),(9,v9),(43,v43),(42,v42),(36,v41),(41,v41),(40,v40),(39,v39),(38,v38),(37,v37),(7,(e 31)),(8,v8),(35,v35),(34,v34),(33,(e 31)),(32,v32)]) ds W16) (wV (zAL prog .gtr 3 true (e 31) (.int .i64 0)) fun v70=>wI v70 (wV (zAL prog .sub 3 true (e 31) (.int .i64 1)) fun v74=>wV (iad prog 23 (e 1) v74) fun v75=>wV (fad prog 58 v75 0) fun v76=>wV (ld prog 9 v76 W16) fun v77=>wV (fad prog 58 v8 0) fun v78=>wV (ld prog 9 v78 W16) fun v79=>wV (zAL prog .geq 9 false v77 v79) fun v80=>wI v80 ((ld prog 9 v78 W16=some v79∧(ld prog 9 v76 W16=some v77∧(ld prog 5 v64 W16=some v65∧(ld prog 5 v59 W16=some v60∧True))))∧True∧(zEA ro K) .normal (Env.of e [(94,(.bool true)),(93,undef),(83,(.bool true)),(92,undef),(83,(.bool true)),(91,undef),(83,(.bool true)),(90,undef),(83,(.bool true)),(89,undef),(83,(.bool true)),(88,undef),(83,(.bool true)),(87,undef),(83,(.bool true)),(86,undef),(83,(.bool true)),(85,undef),(83,(.bool true)),(84,undef),(83,(.bool true)),(83,v80),(82,v80),(81,v80),(68,(.bool false)),(80,v80),(71,(.bool true)),(79,v79),(71,(.bool true)),(78,v78),(71,(.bool true)),(77,v77),(71,(.bool true)),(76,v76),(71,(.bool true)),(75,v75),(71,(.bool true)),(74,v74),(71,(.bool true)),(73,(e 31)),(71,(.bool true)),(72,(e 1)),(71,(.bool true)),(71,v70),(68,(.bool false)),(70,v70),(68,(.bool false)),(69,(e 31)),(68,(.bool false)),(68,v66),(67,v66),(66,v66),(63,(.bool false)),(65,v65),(63,(.bool false)),(64,v64),(63,(.bool false)),(63,v61),(62,v61),(61,v61),(58,(.bool false)),(60,v60),(58,(.bool false)),(59,v59),(58,(.bool false)),(58,v56),(57,v56),(56,v56),(54,(.bool false)),(55,v51),(54,(.bool false)),(54,v53),(53,v53),(52,v43),(12,v51),(11,v11),(51,v51),(50,v50),(44,v49),(49,v49),(48,v48),(47,v47),(46,v46),(45,v45),(10,v43),(9,v9),(43,v43),(42,v42),(36,v41),(41,v41),(40,v40),(39,v39),(38,v38),(37,v37),(7,(e 31)),(8,v8),(35,v35),(34,v34),(33,(e 31)),(32,v32)]) ds W16) (wV (fad prog 58 v8 2) fun v84=>wV (ld prog 40 v84 W16) fun v85=>wV (zAm prog 40 v85 W16) fun v86=>wV (fad prog 78 (e 2) 1) fun v87=>wV (ld prog 76 v87 W16) fun v88=>wV (fad prog 58 v8 1) fun v89=>wV (ld prog 9 v89 W16) fun v90=>wV (lkp prog 76 v88 v90 false W16) fun v91=>wV (zAm prog 29 v91 W16) fun v92=>wV (zAL prog .neq 3 false v86 v92) fun v93=>(zAm prog 29 v91 W16=some v92∧(lkp prog 76 v88 v90 false W16=some v91∧(ld prog 9 v89 W16=some v90∧(ld prog 76 v87 W16=some v88∧(zAm prog 40 v85 W16=some v86∧(ld prog 40 v84 W16=some v85∧(ld prog 9 v78 W16=some v79∧(ld prog 9 v76 W16=some v77∧(ld prog 5 v64 W16=some v65∧(ld prog 5 v59 W16=some v60∧True))))))))))∧True∧(zEA ro K) .normal (Env.of e [(94,v93),(93,v93),(83,(.bool false)),(92,v92),(83,(.bool false)),(91,v91),(83,(.bool false)),(90,v90),(83,(.bool false)),(89,v89),(83,(.bool false)),(88,v88),(83,(.bool false)),(87,v87),(83,(.bool false)),(86,v86),(83,(.bool false)),(85,v85),(83,(.bool false)),(84,v84),(83,(.bool false)),(83,v80),(82,v80),(81,v80),(68,(.bool false)),(80,v80),(71,(.bool true)),(79,v79),(71,(.bool true)),(78,v78),(71,(.bool true)),(77,v77),(71,(.bool true)),(76,v76),(71,(.bool true)),(75,v75),(71,(.bool true)),(74,v74),(71,(.bool true)),(73,(e 31)),(71,(.bool true)),(72,(e 1)),(71,(.bool true)),(71,v70),(68,(.bool false)),(70,v70),(68,(.bool false)),(69,(e 31)),(68,(.bool false)),(68,v66),(67,v66),(66,v66),(63,(.bool false)),(65,v65),(63,(.bool false)),(64,v64),(63,(.bool false)),(63,v61),(62,v61),(61,v61),(58,(.bool false)),(60,v60),(58,(.bool false)),(59,v59),(58,(.bool false)),(58,v56),(57,v56),(56,v56),(54,(.bool false)),(55,v51),(54,(.bool false)),(54,v53),(53,v53),(52,v43),(12,v51),(11,v11),(51,v51),(50,v50),(44,v49),(49,v49),(48,v48),(47,v47),(46,v46),(45,v45),(10,v43),(9,v9),(43,v43),(42,v42),(36,v41),(41,v41),(40,v40),(39,v39),(38,v38),(37,v37),(7,(e 31)),(8,v8),(35,v35),(34,v34),(33,(e 31)),(32,v32)]) ds W16)) (wV (fad prog 58 v8 2) fun v84=>wV (ld prog 40 v84 W16) fun v85=>wV (zAm prog 40 v85 W16) fun v86=>wV (fad prog 78 (e 2) 1) fun v87=>wV (ld prog 76 v87 W16) fun v88=>wV (fad prog 58 v8 1) fun v89=>wV (ld prog 9 v89 W16) fun v90=>wV (lkp prog 76 v88 v90 false W16) fun v91=>wV (zAm prog 29 v91 W16) fun v92=>wV (zAL prog .neq 3 false v86 v92) fun v93=>(zAm prog 29 v91 W16=some v92∧(lkp prog 76 v88 v90 false W16=some v91∧(ld prog 9 v89 W16=some v90∧(ld prog 76 v87 W16=some v88∧(zAm prog 40 v85 W16=some v86∧(ld prog 40 v84 W16=some v85∧(ld prog 5 v64 W16=some v65∧(ld prog 5 v59 W16=some v60∧True))))))))∧True∧(zEA ro K) .normal (Env.of e [(94,v93),(93,v93),(83,(.bool false)),(92,v92),(83,(.bool false)),(91,v91),(83,(.bool false)),(90,v90),(83,(.bool false)),(89,v89),(83,(.bool false)),(88,v88),(83,(.bool false)),(87,v87),(83,(.bool false)),(86,v86),(83,(.bool false)),(85,v85),(83,(.bool false)),(84,v84),(83,(.bool false)),(83,(.bool false)),(82,(.bool false)),(81,(.bool false)),(68,(.bool false)),(80,undef),(71,(.bool false)),(79,undef),(71,(.bool false)),(78,undef),(71,(.bool false)),(77,undef),(71,(.bool false)),(76,undef),(71,(.bool false)),(75,undef),(71,(.bool false)),(74,undef),(71,(.bool false)),(73,undef),(71,(.bool false)),(72,undef),(71,(.bool false)),(71,v70),(68,(.bool false)),(70,v70),(68,(.bool false)),(69,(e 31)),(68,(.bool false)),(68,v66),(67,v66),(66,v66),(63,(.bool false)),(65,v65),(63,(.bool false)),(64,v64),(63,(.bool false)),(63,v61),(62,v61),(61,v61),(58,(.bool false)),(60,v60),(58,(.bool false)),(59,v59),(58,(.bool false)),(58,v56),(57,v56),(56,v56),(54,(.bool false)),(55,v51),(54,(.bool false)),(54,v53),(53,v53),(52,v43),(12,v51),(11,v11),(51,v51),(50,v50),(44,v49),(49,v49),(48,v48),(47,v47),(46,v46),(45,v45),(10,v43),(9,v9),(43,v43),(42,v42),(36,v41),(41,v41),(40,v40),(39,v39),(38,v38),(37,v37),(7,(e 31)),(8,v8),(35,v35),(34,v34),(33,(e 31)),(32,v32)]) ds W16)))))) (K (.exit 0) (Env.of e [(32,v32)]) ds W)):=by kernel_rfl
def zIQ (ro:Option Nat) (K:zAI):zAI:=zA5 (fun e ds W=>wV (zAL prog .add 3 true (e 109) (.int .i64 1)) fun v149=>K .normal (Env.of e [(109,v149),(149,v149)]) ds W) K
def zIP (ro:Option Nat) (K:zAI):zAI:=zA5 (fun e ds W=>wI (e 147) (wV (ld prog 83 (e 6) W) fun v148=>wV (sto prog 83 (e 4) v148 W) fun W27=>(zIQ ro K) .ret (Env.of e [(5,(.bool false)),(148,v148)]) ds W27) ((zIQ ro K) .normal e ds W)) (zBm 3 (zIQ ro K))
theorem zVc (ro:Option Nat) (e:Env) (ds:List Deferred) (K:zAI) (W:CW):zAJ prog pkL ro 48 179 (zAS prog 48 1) e ds W K=(wV (zAL prog .lss 3 false (e 109) (e 108)) fun v110=>wI v110 (wV (iad prog 40 (e 107) (e 109)) fun v112=>wV (ld prog 3 v112 W) fun v113=>wV (fad prog 78 (e 2) 1) fun v114=>wV (ld prog 76 v114 W) fun v115=>wV (fad prog 58 (e 8) 0) fun v116=>wV (ld prog 9 v116 W) fun v117=>wV (lkp prog 76 v115 v117 false W) fun v118=>wV (zAm prog 29 v118 W) fun v121=>wV (zAL prog .sub 3 true v121 (.int .i64 1)) fun v122=>WCall prog pkL 103 [v113,(.int .i64 0),v122] W (zAK (fun v123 W29=>wV (ngt v123) fun v124=>wI v124 ((((True)∧zAm prog 29 v118 W=some v121)∧True)∧True∧(zIP ro K) .normal (Env.of e [(147,(.bool true)),(146,undef),(133,(.bool true)),(145,undef),(133,(.bool true)),(144,undef),(133,(.bool true)),(143,undef),(133,(.bool true)),(142,undef),(133,(.bool true)),(141,undef),(133,(.bool true)),(140,undef),(133,(.bool true)),(139,undef),(133,(.bool true)),(138,undef),(133,(.bool true)),(137,undef),(133,(.bool true)),(136,undef),(133,(.bool true)),(135,undef),(133,(.bool true)),(134,undef),(133,(.bool true)),(133,(.bool true)),(132,(.bool true)),(131,undef),(125,(.bool true)),(130,undef),(125,(.bool true)),(129,undef),(125,(.bool true)),(128,undef),(125,(.bool true)),(127,undef),(125,(.bool true)),(126,undef),(125,(.bool true)),(125,v124),(124,v124),(123,v123),(122,v122),(121,v121),(120,v118),(119,v113),(17,v118),(118,v118),(117,v117),(116,v116),(115,v115),(114,v114),(16,v113),(15,(e 109)),(113,v113),(112,v112),(111,(e 109)),(110,v110)]) ds W29) (wV (fad prog 58 (e 8) 2) fun v126=>wV (ld prog 40 v126 W29) fun v127=>wV (slc prog 40 v127 none (some (e 109)) none W29) fun v129=>WCall prog pkL 104 [v129,v113] W29 (zAK (fun v131 W31=>wI v131 ((((True)∧((slc prog 40 v127 none (some (e 109)) none W29=some v129)∧True))∧(((True)∧((ld prog 40 v126 W29=some v127)∧True))∧(((True)∧((True)∧zAm prog 29 v118 W=some v121))∧True)))∧True∧(zIP ro K) .normal (Env.of e [(147,(.bool true)),(146,undef),(133,(.bool true)),(145,undef),(133,(.bool true)),(144,undef),(133,(.bool true)),(143,undef),(133,(.bool true)),(142,undef),(133,(.bool true)),(141,undef),(133,(.bool true)),(140,undef),(133,(.bool true)),(139,undef),(133,(.bool true)),(138,undef),(133,(.bool true)),(137,undef),(133,(.bool true)),(136,undef),(133,(.bool true)),(135,undef),(133,(.bool true)),(134,undef),(133,(.bool true)),(133,v131),(132,v131),(131,v131),(125,(.bool false)),(130,v113),(125,(.bool false)),(129,v129),(125,(.bool false)),(128,(e 109)),(125,(.bool false)),(127,v127),(125,(.bool false)),(126,v126),(125,(.bool false)),(125,v124),(124,v124),(123,v123),(122,v122),(121,v121),(120,v118),(119,v113),(17,v118),(118,v118),(117,v117),(116,v116),(115,v115),(114,v114),(16,v113),(15,(e 109)),(113,v113),(112,v112),(111,(e 109)),(110,v110)]) ds W31) (wV (iad prog 29 v118 v113) fun v136=>wV (ld prog 5 v136 W31) fun v137=>wV (fad prog 78 (e 2) 1) fun v138=>wV (ld prog 76 v138 W31) fun v139=>wV (fad prog 58 (e 8) 1) fun v140=>wV (ld prog 9 v140 W31) fun v141=>wV (lkp prog 76 v139 v141 false W31) fun v142=>wV (iad prog 29 v142 (e 109)) fun v144=>wV (ld prog 5 v144 W31) fun v145=>wV (zAL prog .neq 5 false v137 v145) fun v146=>(((ld prog 5 v144 W31=some v145)∧True)∧(((lkp prog 76 v139 v141 false W31=some v142)∧True)∧(((ld prog 9 v140 W31=some v141)∧True)∧(((ld prog 76 v138 W31=some v139)∧True)∧(((ld prog 5 v136 W31=some v137)∧True)∧(((True)∧((slc prog 40 v127 none (some (e 109)) none W29=some v129)∧True))∧(((True)∧((ld prog 40 v126 W29=some v127)∧True))∧(((True)∧((True)∧zAm prog 29 v118 W=some v121))∧True))))))))∧True∧(zIP ro K) .normal (Env.of e [(147,v146),(146,v146),(133,(.bool false)),(145,v145),(133,(.bool false)),(144,v144),(133,(.bool false)),(143,(e 109)),(133,(.bool false)),(142,v142),(133,(.bool false)),(141,v141),(133,(.bool false)),(140,v140),(133,(.bool false)),(139,v139),(133,(.bool false)),(138,v138),(133,(.bool false)),(137,v137),(133,(.bool false)),(136,v136),(133,(.bool false)),(135,v113),(133,(.bool false)),(134,v118),(133,(.bool false)),(133,v131),(132,v131),(131,v131),(125,(.bool false)),(130,v113),(125,(.bool false)),(129,v129),(125,(.bool false)),(128,(e 109)),(125,(.bool false)),(127,v127),(125,(.bool false)),(126,v126),(125,(.bool false)),(125,v124),(124,v124),(123,v123),(122,v122),(121,v121),(120,v118),(119,v113),(17,v118),(118,v118),(117,v117),(116,v116),(115,v115),(114,v114),(16,v113),(15,(e 109)),(113,v113),(112,v112),(111,(e 109)),(110,v110)]) ds W31)) (fun ch32 W32=>False)))) (fun ch30 W30=>False))) (K (.exit 2) (Env.of e [(110,v110)]) ds W)):=by kernel_rfl
def zKX (ro:Option Nat) (K:zAI):zAI:=zA5 (fun e ds W=>wV (zAL prog .add 3 true (e 163) (.int .i64 1)) fun v177=>K .normal (Env.of e [(163,v177),(177,v177)]) ds W) K
theorem zVb (ro:Option Nat) (e:Env) (ds:List Deferred) (K:zAI) (W:CW):zAJ prog pkL ro 48 179 (zAS prog 48 2) e ds W K=(wV (zAL prog .lss 3 false (e 163) (e 162)) fun v164=>wI v164 (wV (iad prog 23 (e 161) (e 163)) fun v165=>wV (ld prog 58 v165 W) fun v166=>wVW (alc prog 58 W) fun v19 W34=>wV (sto prog 58 v19 v166 W34) fun W35=>wV (fad prog 83 (e 6) 0) fun v168=>wV (ld prog 81 v168 W35) fun v169=>wV (fad prog 58 v19 1) fun v170=>wV (ld prog 9 v170 W35) fun v171=>wV (lkp prog 81 v169 v171 true W35) fun v172=>wV (ext v172 0) fun v173=>wV (ext v172 1) fun v174=>wVW (alc prog 58 W35) fun v20 W36=>wV (sto prog 58 v20 v173 W36) fun W37=>wI v174 (wV (ld prog 83 (e 6) W37) fun v176=>wV (sto prog 83 (e 4) v176 W37) fun W38=>(zKX ro K) .ret (Env.of e [(5,(.bool false)),(176,v176),(175,v174),(21,v174),(20,v20),(174,v174),(173,v173),(167,v172),(172,v172),(171,v171),(170,v170),(169,v169),(168,v168),(19,v19),(166,v166),(165,v165),(164,v164)]) ds W38) ((zKX ro K) .normal (Env.of e [(175,v174),(21,v174),(20,v20),(174,v174),(173,v173),(167,v172),(172,v172),(171,v171),(170,v170),(169,v169),(168,v168),(19,v19),(166,v166),(165,v165),(164,v164)]) ds W37)) (K (.exit 4) (Env.of e [(164,v164)]) ds W)):=by kernel_rfl
theorem zXr {Q:Ending→CW→Prop} {v0 v1:Value} {W:CW} (h:zAJ prog pkL none 48 179 (zAG prog 48) (Env.args [v0,v1]) [] W (zAE prog Tryz.f48 Q)):WCall prog pkL 48 [v0,v1] W Q:=zAM Tryz.func48 (by kernel_rfl) (by kernel_rfl) (by kernel_rfl) (by kernel_rfl) (by kernel_rfl) h
def zFU (ro:Option Nat) (K:zAI):zAI:=zA5 (fun e ds W=>wV (ld prog 78 (e 8) W) fun v32=>wV (sto prog 78 (e 6) v32 W) fun W5=>K .ret (Env.of e [(7,(.int .i64 0)),(32,v32)]) ds W5) K
theorem zXq (v0 v1 v2:Value) (K:zAI) (W:CW):zAJ prog pkL none 49 33 (zAG prog 49) (Env.args [v0,v1,v2]) [] W K=(wVW (alc prog 78 W) fun v6 W0=>WCall prog pkL 47 [v0] W0 (zAK (fun v12 W1=>wV (ext v12 0) fun v13=>wV (ext v12 1) fun v14=>wVW (alc prog 78 W1) fun v8 W3=>wV (sto prog 78 v8 v13 W3) fun W4=>wV (ngt v14) fun v17=>wI v17 (wV (ld prog 78 v8 W4) fun v18=>wV (sto prog 78 v6 v18 W4) fun W7=>(zFU none K) .ret (Env.of (Env.args [v0,v1,v2]) [(7,(.int .i64 210)),(18,v18),(15,v17),(17,v17),(16,v14),(9,v14),(8,v8),(14,v14),(13,v13),(10,v12),(12,v12),(11,v0),(7,(.int .i64 0)),(6,v6)]) [] W7) (wV (ld prog 78 v8 W4) fun v20=>WCall prog pkL 84 [v20,v1] W4 (zAK (fun v22 W8=>wV (zAL prog .geq 3 true v22 (.int .i64 0)) fun v23=>wI v23 (wV (ld prog 78 v8 W8) fun v24=>wV (sto prog 78 v6 v24 W8) fun W10=>(zFU none K) .ret (Env.of (Env.args [v0,v1,v2]) [(7,(.int .i64 211)),(24,v24),(19,v23),(23,v23),(22,v22),(21,v1),(20,v20),(15,v17),(17,v17),(16,v14),(9,v14),(8,v8),(14,v14),(13,v13),(10,v12),(12,v12),(11,v0),(7,(.int .i64 0)),(6,v6)]) [] W10) (wV (zAm prog 24 v1 W8) fun v28=>WCall prog pkL 103 [v2,(.int .i64 0),v28] W8 (zAK (fun v29 W11=>wV (ngt v29) fun v30=>wI v30 (wV (ld prog 78 v8 W11) fun v31=>wV (sto prog 78 v6 v31 W11) fun W13=>(zFU none K) .ret (Env.of (Env.args [v0,v1,v2]) [(7,(.int .i64 1)),(31,v31),(25,v30),(30,v30),(29,v29),(28,v28),(27,v1),(26,v2),(19,v23),(23,v23),(22,v22),(21,v1),(20,v20),(15,v17),(17,v17),(16,v14),(9,v14),(8,v8),(14,v14),(13,v13),(10,v12),(12,v12),(11,v0),(7,(.int .i64 0)),(6,v6)]) [] W13) ((zFU none K) .normal (Env.of (Env.args [v0,v1,v2]) [(25,v30),(30,v30),(29,v29),(28,v28),(27,v1),(26,v2),(19,v23),(23,v23),(22,v22),(21,v1),(20,v20),(15,v17),(17,v17),(16,v14),(9,v14),(8,v8),(14,v14),(13,v13),(10,v12),(12,v12),(11,v0),(7,(.int .i64 0)),(6,v6)]) [] W11)) (fun ch12 W12=>(zFU none K) (.panic ch12) (Env.of (Env.args [v0,v1,v2]) [(28,v28),(27,v1),(26,v2),(19,v23),(23,v23),(22,v22),(21,v1),(20,v20),(15,v17),(17,v17),(16,v14),(9,v14),(8,v8),(14,v14),(13,v13),(10,v12),(12,v12),(11,v0),(7,(.int .i64 0)),(6,v6)]) [] W12)))) (fun ch9 W9=>(zFU none K) (.panic ch9) (Env.of (Env.args [v0,v1,v2]) [(21,v1),(20,v20),(15,v17),(17,v17),(16,v14),(9,v14),(8,v8),(14,v14),(13,v13),(10,v12),(12,v12),(11,v0),(7,(.int .i64 0)),(6,v6)]) [] W9)))) (fun ch2 W2=>K (.panic ch2) (Env.of (Env.args [v0,v1,v2]) [(11,v0),(7,(.int .i64 0)),(6,v6)]) [] W2))):=by kernel_rfl
theorem zXp {Q:Ending→CW→Prop} {v0 v1 v2:Value} {W:CW} (h:zAJ prog pkL none 49 33 (zAG prog 49) (Env.args [v0,v1,v2]) [] W (zAE prog Tryz.f49 Q)):WCall prog pkL 49 [v0,v1,v2] W Q:=zAM Tryz.func49 (by kernel_rfl) (by kernel_rfl) (by kernel_rfl) (by kernel_rfl) (by kernel_rfl) h
def zTj (ro:Option Nat) (K:zAI):zAI:=zA5 (fun e ds W=>K .ret (Env.of e [(4,(e 5)),(42,(e 5))]) ds W) K
theorem zXo (v0 v1:Value) (K:zAI) (W:CW):zAJ prog pkL none 50 43 (zAG prog 50) (Env.args [v0,v1]) [] W K=(wVW (mkm W) fun v9 W0=>wV (bld prog 100 [(1,v9)]) fun v10=>wVW (bxw prog 100 v10 W0) fun v11 W1=>WCall prog pkL 105 [v11,v0] W1 (zAK (fun v14 W2=>zCg prog pkL none 50 43 (.loop (zAS prog 50 0)) (Env.of (Env.args [v0,v1]) [(6,(.int .i64 0)),(14,v14),(13,v0),(12,v11),(5,v11),(11,v11),(10,v10),(9,v9),(4,(.pointer none))]) [] W2 (zBm 0 (zTj none K))) (fun ch3 W3=>K (.panic ch3) (Env.of (Env.args [v0,v1]) [(13,v0),(12,v11),(5,v11),(11,v11),(10,v10),(9,v9),(4,(.pointer none))]) [] W3))):=by kernel_rfl
def zRG (ro:Option Nat) (K:zAI):zAI:=zA5 (fun e ds W=>wV (zAL prog .add 3 true (e 6) (.int .i64 1)) fun v23=>K .normal (Env.of e [(6,v23),(23,v23),(22,(e 6))]) ds W) K
theorem zVa (ro:Option Nat) (e:Env) (ds:List Deferred) (K:zAI) (W:CW):zAJ prog pkL ro 50 43 (zAS prog 50 0) e ds W K=(wV (nck (e 5)) fun v17=>wV (fad prog 100 v17 0) fun v18=>wV (ld prog 40 v18 W) fun v19=>wV (zAm prog 40 v19 W) fun v20=>wV (zAL prog .lss 3 false (e 6) v20) fun v21=>wI v21 (wV (nck (e 5)) fun v26=>wV (fad prog 100 v26 0) fun v27=>wV (ld prog 40 v27 W) fun v28=>wV (iad prog 40 v28 (e 6)) fun v30=>wV (ld prog 3 v30 W) fun v31=>zBq prog pkL (e 1) [v31] W (fun v32 W6=>wV (zAm prog 40 v32 W6) fun v33=>zCg prog pkL ro 50 43 (.loop (zAS prog 50 1)) (Env.of e [(34,(.int .i64 0)),(33,v33),(32,v32),(31,v31),(30,v30),(29,(e 6)),(28,v28),(27,v27),(26,v26),(25,(e 5)),(24,(e 1)),(21,v21),(20,v20),(19,v19),(18,v18),(17,v17),(16,(e 5)),(15,(e 6))]) ds W6 (zBm 2 (zBm 1 (zRG ro K)))) (fun ch7 W7=>(zRG ro K) (.panic ch7) (Env.of e [(31,v31),(30,v30),(29,(e 6)),(28,v28),(27,v27),(26,v26),(25,(e 5)),(24,(e 1)),(21,v21),(20,v20),(19,v19),(18,v18),(17,v17),(16,(e 5)),(15,(e 6))]) ds W7)) (K (.exit 0) (Env.of e [(21,v21),(20,v20),(19,v19),(18,v18),(17,v17),(16,(e 5)),(15,(e 6))]) ds W)):=by kernel_rfl
def zRF (ro:Option Nat) (K:zAI):zAI:=zA5 (fun e ds W=>wV (zAL prog .add 3 true (e 34) (.int .i64 1)) fun v41=>K .normal (Env.of e [(34,v41),(41,v41)]) ds W) K
theorem zVZ (ro:Option Nat) (e:Env) (ds:List Deferred) (K:zAI) (W:CW):zAJ prog pkL ro 50 43 (zAS prog 50 1) e ds W K=(wV (zAL prog .lss 3 false (e 34) (e 33)) fun v35=>wI v35 (wV (iad prog 40 (e 32) (e 34)) fun v36=>wV (ld prog 3 v36 W) fun v37=>WCall prog pkL 105 [(e 5),v37] W (zAK (fun v40 W9=>(zRF ro K) .normal (Env.of e [(40,v40),(39,v37),(38,(e 5)),(8,v37),(37,v37),(36,v36),(35,v35)]) ds W9) (fun ch10 W10=>(zRF ro K) (.panic ch10) (Env.of e [(39,v37),(38,(e 5)),(8,v37),(37,v37),(36,v36),(35,v35)]) ds W10))) (K (.exit 2) (Env.of e [(35,v35)]) ds W)):=by kernel_rfl
theorem zRE (Q:Ending→CW→Prop) (e:Env) (W:CW):zAE prog Tryz.f50 Q .ret e [] W=Q (.returned (e 4)) W:=by kernel_rfl
theorem zXn {Q:Ending→CW→Prop} {v0 v1:Value} {W:CW} (h:zAJ prog pkL none 50 43 (zAG prog 50) (Env.args [v0,v1]) [] W (zAE prog Tryz.f50 Q)):WCall prog pkL 50 [v0,v1] W Q:=zAM Tryz.func50 (by kernel_rfl) (by kernel_rfl) (by kernel_rfl) (by kernel_rfl) (by kernel_rfl) h
def zRC (ro:Option Nat) (K:zAI):zAI:=zA5 (fun e ds W=>wV (ld prog 40 (e 5) W) fun v23=>K .ret (Env.of e [(4,v23),(23,v23)]) ds W) K
theorem zXk (v0 v1:Value) (K:zAI) (W:CW):zAJ prog pkL none 52 24 (zAG prog 52) (Env.args [v0,v1]) [] W K=(wVW (bxw prog 78 v0 W) fun v2 W0=>wVW (bxw prog 56 v1 W0) fun v3 W1=>wVW (alc prog 40 W1) fun v5 W2=>wV (ld prog 78 v2 W2) fun v8=>wV (ld prog 56 v3 W2) fun v9=>WCall prog pkL 62 [v8,v9] W2 (zAK (fun v10 W4=>zCg prog pkL none 52 24 (.rangeFunc (.tmp 10) #[11,12] (rfA prog 52 0) (rfB prog 52 0)) (Env.of (Env.args [v0,v1]) [(10,v10),(9,v9),(8,v8),(5,v5),(4,(.slice none 0 0)),(3,v3),(2,v2)]) [] W4 (zBm 0 (zRC none K))) (fun ch5 W5=>(zRC none K) (.panic ch5) (Env.of (Env.args [v0,v1]) [(9,v9),(8,v8),(5,v5),(4,(.slice none 0 0)),(3,v3),(2,v2)]) [] W5))):=by kernel_rfl
theorem zVY (ro:Option Nat) (e:Env) (ds:List Deferred) (K:zAI) (W:CW):zAJ prog pkL ro 52 24 (rfA prog 52 0) e ds W K=(K .normal (Env.of e [(7,(e 12)),(6,(e 11))]) ds W):=by kernel_rfl
theorem zVX (ro:Option Nat) (e:Env) (ds:List Deferred) (K:zAI) (W:CW):zAJ prog pkL ro 52 24 (rfB prog 52 0) e ds W K=(wV (zAL prog .eql 5 true (e 7) (.int .u8 2)) fun v14=>wI v14 (wV (ld prog 40 (e 5) W) fun v15=>wV (fad prog 56 (e 3) 1) fun v16=>wV (ld prog 40 v16 W) fun v17=>wV (iad prog 40 v17 (e 6)) fun v19=>wV (ld prog 3 v19 W) fun v20=>wVW (bsl prog 40 1 [(0,v20)] W) fun v21 W6=>wVW (app prog [40,40] v15 v21 W6) fun v22 W7=>wV (sto prog 40 (e 5) v22 W7) fun W8=>(((True)∧((True)∧((True)∧ld prog 3 v19 W=some v20)))∧(((True)∧((True)∧((True)∧ld prog 40 v16 W=some v17)))∧(((True)∧((True)∧((ld prog 40 (e 5) W6=some v15)∧ld prog 40 (e 5) W=some v15)))∧True)))∧True∧K .normal (Env.of e [(22,v22),(21,v21),(20,v20),(19,v19),(18,(e 6)),(17,v17),(16,v16),(15,v15),(14,v14),(13,(e 7))]) ds W8) (K .normal (Env.of e [(14,v14),(13,(e 7))]) ds W)):=by kernel_rfl
theorem zRB (Q:Ending→CW→Prop) (e:Env) (W:CW):zAE prog Tryz.f52 Q .ret e [] W=Q (.returned (e 4)) W:=by kernel_rfl
theorem zXj {Q:Ending→CW→Prop} {v0 v1:Value} {W:CW} (h:zAJ prog pkL none 52 24 (zAG prog 52) (Env.args [v0,v1]) [] W (zAE prog Tryz.f52 Q)):WCall prog pkL 52 [v0,v1] W Q:=zAM Tryz.func52 (by kernel_rfl) (by kernel_rfl) (by kernel_rfl) (by kernel_rfl) (by kernel_rfl) h
theorem zXQ (v0 v1:Value) (K:zAI) (W:CW):zAJ prog pkL none 62 6 (zAG prog 62) (Env.args [v0,v1]) [] W K=(wVW (bxw prog 78 v0 W) fun v2 W0=>wVW (bxw prog 56 v1 W0) fun v3 W1=>wV (some (.func (.func 108) #[] #[v2,v3])) fun v5=>K .ret (Env.of (Env.args [v0,v1]) [(4,v5),(5,v5),(4,(.nilFunc)),(3,v3),(2,v2)]) [] W1):=by kernel_rfl
theorem zQ5 (Q:Ending→CW→Prop) (e:Env) (W:CW):zAE prog Tryz.f62 Q .ret e [] W=Q (.returned (e 4)) W:=by kernel_rfl
theorem zXP {Q:Ending→CW→Prop} {v0 v1:Value} {W:CW} (h:zAJ prog pkL none 62 6 (zAG prog 62) (Env.args [v0,v1]) [] W (zAE prog Tryz.f62 Q)):WCall prog pkL 62 [v0,v1] W Q:=zAM Tryz.func62 (by kernel_rfl) (by kernel_rfl) (by kernel_rfl) (by kernel_rfl) (by kernel_rfl) h
theorem zXB (v0 v1:Value) (K:zAI) (W:CW):zAJ prog pkL none 84 11 (zAG prog 84) (Env.args [v0,v1]) [] W K=(wVW (bxw prog 78 v0 W) fun v2 W0=>wVW (bxw prog 24 v1 W0) fun v3 W1=>wV (ld prog 24 v3 W1) fun v5=>wV (zAm prog 24 v5 W1) fun v6=>wV (zAL prog .gtr 3 true v6 (.int .i64 1000)) fun v7=>wI v7 (K .ret (Env.of (Env.args [v0,v1]) [(4,(.int .i64 1000)),(7,v7),(6,v6),(5,v5),(4,(.int .i64 0)),(3,v3),(2,v2)]) [] W1) (wV (ld prog 24 v3 W1) fun v8=>wV (some (.func (.func 118) #[] #[v2,v3])) fun v9=>WCall prog pkL 117 [v8,v9] W1 (zAK (fun v10 W2=>K .ret (Env.of (Env.args [v0,v1]) [(4,v10),(10,v10),(9,v9),(8,v8),(7,v7),(6,v6),(5,v5),(4,(.int .i64 0)),(3,v3),(2,v2)]) [] W2) (fun ch3 W3=>K (.panic ch3) (Env.of (Env.args [v0,v1]) [(9,v9),(8,v8),(7,v7),(6,v6),(5,v5),(4,(.int .i64 0)),(3,v3),(2,v2)]) [] W3)))):=by kernel_rfl
theorem zLl (Q:Ending→CW→Prop) (e:Env) (W:CW):zAE prog Tryz.f84 Q .ret e [] W=Q (.returned (e 4)) W:=by kernel_rfl
theorem zXA {Q:Ending→CW→Prop} {v0 v1:Value} {W:CW} (h:zAJ prog pkL none 84 11 (zAG prog 84) (Env.args [v0,v1]) [] W (zAE prog Tryz.f84 Q)):WCall prog pkL 84 [v0,v1] W Q:=zAM Tryz.func84 (by kernel_rfl) (by kernel_rfl) (by kernel_rfl) (by kernel_rfl) (by kernel_rfl) h
def zIX (ro:Option Nat) (K:zAI):zAI:=zA5 (fun e ds W=>wV (nck (e 0)) fun v17=>wV (fad prog 100 v17 0) fun v18=>wV (ld prog 40 v18 W) fun v19=>wVW (bsl prog 40 1 [(0,(e 1))] W) fun v21 W0=>wVW (app prog [40,40] v19 v21 W0) fun v22 W1=>wV (nck (e 0)) fun v23=>wV (fad prog 100 v23 0) fun v24=>wV (sto prog 40 v24 v22 W1) fun W2=>wV (nck (e 0)) fun v26=>wV (fad prog 100 v26 1) fun v27=>wV (ld prog 98 v27 W2) fun v28=>wV (nck (e 0)) fun v31=>wV (fad prog 100 v31 0) fun v32=>wV (ld prog 40 v32 W2) fun v33=>wV (zAm prog 40 v33 W2) fun v34=>wV (mup prog 98 v28 (e 1) v34 W2) fun W3=>(((True)∧zAm prog 40 v33 W2=some v34)∧(((True)∧ld prog 40 v32 W2=some v33)∧(((True)∧ld prog 98 v27 W2=some v28)∧True)))∧True∧K .normal (Env.of e [(34,v34),(33,v33),(32,v32),(31,v31),(30,(e 0)),(29,(e 1)),(28,v28),(27,v27),(26,v26),(25,(e 0)),(24,v24),(23,v23),(22,v22),(21,v21),(20,(e 1)),(19,v19),(18,v18),(17,v17),(16,(e 0)),(15,(e 0))]) ds W3) K
def zKb (ro:Option Nat) (K:zAI):zAI:=zA5 (fun e ds W=>wI (e 14) ((zIX ro K) .ret e ds W) ((zIX ro K) .normal e ds W)) (zIX ro K)
theorem zWB (v0 v1:Value) (K:zAI) (W:CW):zAJ prog pkL none 105 35 (zAG prog 105) (Env.args [v0,v1]) [] W K=(wV (zAL prog .eql 3 true v1 (.int .i64 0)) fun v5=>wI v5 ((zKb none K) .normal (Env.of (Env.args [v0,v1]) [(14,(.bool true)),(13,undef),(6,(.bool true)),(12,undef),(6,(.bool true)),(11,undef),(6,(.bool true)),(10,undef),(6,(.bool true)),(9,undef),(6,(.bool true)),(8,undef),(6,(.bool true)),(7,undef),(6,(.bool true)),(6,v5),(5,v5),(4,v1)]) [] W) (wV (nck v0) fun v8=>wV (fad prog 100 v8 1) fun v9=>wV (ld prog 98 v9 W) fun v10=>wV (lkp prog 98 v10 v1 false W) fun v12=>wV (zAL prog .gtr 3 true v12 (.int .i64 0)) fun v13=>(zKb none K) .normal (Env.of (Env.args [v0,v1]) [(14,v13),(13,v13),(6,(.bool false)),(12,v12),(6,(.bool false)),(11,v1),(6,(.bool false)),(10,v10),(6,(.bool false)),(9,v9),(6,(.bool false)),(8,v8),(6,(.bool false)),(7,v0),(6,(.bool false)),(6,v5),(5,v5),(4,v1)]) [] W)):=by kernel_rfl
theorem zPS (Q:Ending→CW→Prop) (e:Env) (W:CW):zAE prog Tryz.f105 Q .ret e [] W=Q (.returned (.tuple #[])) W:=by kernel_rfl
theorem zWA {Q:Ending→CW→Prop} {v0 v1:Value} {W:CW} (h:zAJ prog pkL none 105 35 (zAG prog 105) (Env.args [v0,v1]) [] W (zAE prog Tryz.f105 Q)):WCall prog pkL 105 [v0,v1] W Q:=zAM Tryz.func105 (by kernel_rfl) (by kernel_rfl) (by kernel_rfl) (by kernel_rfl) (by kernel_rfl) h
theorem zTm (v0 v1 v2:Value) (K:zAI) (W:CW):zAJ prog pkL none 108 36 (zAG prog 108) (Env.args [v0,v1,v2]) [] W K=(wV (fad prog 78 v1 0) fun v7=>wV (ld prog 75 v7 W) fun v8=>wV (fad prog 56 v2 0) fun v9=>wV (ld prog 9 v9 W) fun v10=>wV (lkp prog 75 v8 v10 false W) fun v11=>wV (fld prog 48 v11 3) fun v12=>wV (fad prog 56 v2 1) fun v13=>wV (ld prog 40 v13 W) fun v14=>wV (zAm prog 40 v14 W) fun v15=>zCg prog pkL none 108 36 (.loop (zAS prog 108 0)) (Env.of (Env.args [v0,v1,v2]) [(16,(.int .i64 0)),(15,v15),(14,v14),(13,v13),(4,v12),(12,v12),(11,v11),(10,v10),(9,v9),(8,v8),(7,v7)]) [] W (zBm 0 K)):=by kernel_rfl
def zEx (ro:Option Nat) (K:zAI):zAI:=zA5 (fun e ds W=>wV (zAL prog .add 3 true (e 16) (.int .i64 1)) fun v35=>K .normal (Env.of e [(16,v35),(35,v35)]) ds W) K
def zGx (ro:Option Nat) (K:zAI):zAI:=zA5 (fun e ds W=>zBq prog pkL (e 0) [(e 5),(e 6)] W (fun v33 W1=>wV (ngt v33) fun v34=>wI v34 ((zEx ro K) .ret (Env.of e [(34,v34),(33,v33),(32,(e 6)),(31,(e 5)),(30,(e 0))]) ds W1) ((zEx ro K) .normal (Env.of e [(34,v34),(33,v33),(32,(e 6)),(31,(e 5)),(30,(e 0))]) ds W1)) (fun ch2 W2=>(zEx ro K) (.panic ch2) (Env.of e [(32,(e 6)),(31,(e 5)),(30,(e 0))]) ds W2)) (zBm 1 (zEx ro K))
theorem zRT (ro:Option Nat) (e:Env) (ds:List Deferred) (K:zAI) (W:CW):zAJ prog pkL ro 108 36 (zAS prog 108 0) e ds W K=(wV (zAL prog .lss 3 false (e 16) (e 15)) fun v17=>wI v17 (wV (zAL prog .eql 5 true (e 4) (.int .u8 0)) fun v21=>wI v21 (wV (fad prog 78 (e 1) 1) fun v22=>wV (ld prog 76 v22 W) fun v23=>wV (fad prog 56 (e 2) 0) fun v24=>wV (ld prog 9 v24 W) fun v25=>wV (lkp prog 76 v23 v25 false W) fun v26=>wV (iad prog 29 v26 (e 16)) fun v28=>wV (ld prog 5 v28 W) fun v29=>(zGx ro K) .normal (Env.of e [(6,v29),(29,v29),(28,v28),(27,(e 16)),(26,v26),(25,v25),(24,v24),(23,v23),(22,v22),(21,v21),(20,(e 4)),(6,(e 4)),(19,(e 4)),(5,(e 16)),(18,(e 16)),(17,v17)]) ds W) ((zGx ro K) .normal (Env.of e [(21,v21),(20,(e 4)),(6,(e 4)),(19,(e 4)),(5,(e 16)),(18,(e 16)),(17,v17)]) ds W)) (K (.exit 0) (Env.of e [(17,v17)]) ds W)):=by kernel_rfl
theorem zTl {Q:Ending→CW→Prop} {v0 v1 v2:Value} {W:CW} (h:zAJ prog pkL none 108 36 (zAG prog 108) (Env.args [v0,v1,v2]) [] W (zAE prog Tryz.f108 Q)):WCall prog pkL 108 [v0,v1,v2] W Q:=zAM Tryz.func108 (by kernel_rfl) (by kernel_rfl) (by kernel_rfl) (by kernel_rfl) (by kernel_rfl) h
def zNR (ro:Option Nat) (K:zAI):zAI:=zA5 (fun e ds W=>K .ret (Env.of e [(4,(.int .i64 (-1)))]) ds W) K
theorem zV3 (v0 v1:Value) (K:zAI) (W:CW):zAJ prog pkL none 117 19 (zAG prog 117) (Env.args [v0,v1]) [] W K=(wV (zAm prog 24 v0 W) fun v7=>zCg prog pkL none 117 19 (.loop (zAS prog 117 0)) (Env.of (Env.args [v0,v1]) [(8,(.int .i64 0)),(7,v7),(6,v0),(4,(.int .i64 0))]) [] W (zBm 0 (zNR none K))):=by kernel_rfl
def zIW (ro:Option Nat) (K:zAI):zAI:=zA5 (fun e ds W=>wV (zAL prog .add 3 true (e 8) (.int .i64 1)) fun v18=>K .normal (Env.of e [(8,v18),(18,v18)]) ds W) K
theorem zUg (ro:Option Nat) (e:Env) (ds:List Deferred) (K:zAI) (W:CW):zAJ prog pkL ro 117 19 (zAS prog 117 0) e ds W K=(wV (zAL prog .lss 3 false (e 8) (e 7)) fun v9=>wI v9 (wV (iad prog 24 (e 0) (e 8)) fun v14=>wV (ld prog 56 v14 W) fun v15=>zBq prog pkL (e 1) [v15] W (fun v16 W2=>wI v16 ((zIW ro K) .ret (Env.of e [(4,(e 8)),(17,(e 8)),(16,v16),(15,v15),(14,v14),(13,(e 8)),(12,(e 0)),(11,(e 1)),(5,(e 8)),(10,(e 8)),(9,v9)]) ds W2) ((zIW ro K) .normal (Env.of e [(16,v16),(15,v15),(14,v14),(13,(e 8)),(12,(e 0)),(11,(e 1)),(5,(e 8)),(10,(e 8)),(9,v9)]) ds W2)) (fun ch3 W3=>(zIW ro K) (.panic ch3) (Env.of e [(15,v15),(14,v14),(13,(e 8)),(12,(e 0)),(11,(e 1)),(5,(e 8)),(10,(e 8)),(9,v9)]) ds W3)) (K (.exit 0) (Env.of e [(9,v9)]) ds W)):=by kernel_rfl
theorem zJj (Q:Ending→CW→Prop) (e:Env) (W:CW):zAE prog Tryz.f117 Q .ret e [] W=Q (.returned (e 4)) W:=by kernel_rfl
theorem zV2 {Q:Ending→CW→Prop} {v0 v1:Value} {W:CW} (h:zAJ prog pkL none 117 19 (zAG prog 117) (Env.args [v0,v1]) [] W (zAE prog Tryz.f117 Q)):WCall prog pkL 117 [v0,v1] W Q:=zAM Tryz.func117 (by kernel_rfl) (by kernel_rfl) (by kernel_rfl) (by kernel_rfl) (by kernel_rfl) h
theorem zV1 (v0 v1 v2:Value) (K:zAI) (W:CW):zAJ prog pkL none 118 11 (zAG prog 118) (Env.args [v0,v1,v2]) [] W K=(wVW (bxw prog 56 v0 W) fun v3 W0=>wV (ld prog 78 v1 W0) fun v5=>wV (ld prog 56 v3 W0) fun v6=>wV (ld prog 24 v2 W0) fun v7=>wV (zAm prog 24 v7 W0) fun v8=>WCall prog pkL 119 [v5,v6,v8] W0 (zAK (fun v9 W1=>wV (ngt v9) fun v10=>K .ret (Env.of (Env.args [v0,v1,v2]) [(4,v10),(10,v10),(9,v9),(8,v8),(7,v7),(6,v6),(5,v5),(4,(.bool false)),(3,v3)]) [] W1) (fun ch2 W2=>K (.panic ch2) (Env.of (Env.args [v0,v1,v2]) [(8,v8),(7,v7),(6,v6),(5,v5),(4,(.bool false)),(3,v3)]) [] W2))):=by kernel_rfl
theorem zPQ (Q:Ending→CW→Prop) (e:Env) (W:CW):zAE prog Tryz.f118 Q .ret e [] W=Q (.returned (e 4)) W:=by kernel_rfl
theorem zV0 {Q:Ending→CW→Prop} {v0 v1 v2:Value} {W:CW} (h:zAJ prog pkL none 118 11 (zAG prog 118) (Env.args [v0,v1,v2]) [] W (zAE prog Tryz.f118 Q)):WCall prog pkL 118 [v0,v1,v2] W Q:=zAM Tryz.func118 (by kernel_rfl) (by kernel_rfl) (by kernel_rfl) (by kernel_rfl) (by kernel_rfl) h
def zIV (ro:Option Nat) (K:zAI):zAI:=zA5 (fun e ds W=>wV (sto prog 4 (e 6) (.bool true) W) fun W6=>K .ret e ds W6) K
def zGL (ro:Option Nat) (K:zAI):zAI:=zA5 (fun e ds W=>wV (ld prog 78 (e 3) W) fun v45=>wV (ld prog 56 (e 4) W) fun v46=>WCall prog pkL 62 [v45,v46] W (zAK (fun v47 W8=>zCg prog pkL ro 119 72 (.rangeFunc (.tmp 47) #[48,49] (rfA prog 119 0) (rfB prog 119 0)) (Env.of e [(47,v47),(46,v46),(45,v45)]) ds W8 (zBm 0 (zIV ro K))) (fun ch9 W9=>(zIV ro K) (.panic ch9) (Env.of e [(46,v46),(45,v45)]) ds W9))) K
def zFH (ro:Option Nat) (K:zAI):zAI:=zA5 (fun e ds W=>wI (e 44) (wV (sto prog 4 (e 6) (.bool false) W) fun W11=>(zGL ro K) .ret e ds W11) ((zGL ro K) .normal e ds W)) (zGL ro K)
theorem zVz (v0 v1 v2:Value) (K:zAI) (W:CW):zAJ prog pkL none 119 72 (zAG prog 119) (Env.args [v0,v1,v2]) [] W K=(wVW (bxw prog 78 v0 W) fun v3 W0=>wVW (bxw prog 56 v1 W0) fun v4 W1=>wVW (bxw prog 3 v2 W1) fun v5 W2=>wVW (alc prog 4 W2) fun v6 W3=>wV (fad prog 78 v3 0) fun v13=>wV (ld prog 75 v13 W3) fun v14=>wV (fad prog 56 v4 0) fun v15=>wV (ld prog 9 v15 W3) fun v16=>wV (lkp prog 75 v14 v16 true W3) fun v17=>wV (ext v17 0) fun v18=>wV (ext v17 1) fun v19=>wVW (alc prog 48 W3) fun v7 W4=>wV (sto prog 48 v7 v18 W4) fun W5=>wV (ngt v19) fun v21=>wI v21 ((zFH none K) .normal (Env.of (Env.args [v0,v1,v2]) [(44,(.bool true)),(43,undef),(39,(.bool true)),(42,undef),(39,(.bool true)),(41,undef),(39,(.bool true)),(40,undef),(39,(.bool true)),(39,(.bool true)),(38,(.bool true)),(37,undef),(22,(.bool true)),(36,undef),(35,undef),(34,undef),(33,undef),(32,undef),(31,undef),(30,undef),(29,undef),(28,undef),(27,undef),(26,undef),(22,(.bool true)),(25,undef),(22,(.bool true)),(24,undef),(22,(.bool true)),(23,undef),(22,(.bool true)),(22,v21),(21,v21),(20,v19),(8,v19),(7,v7),(19,v19),(18,v18),(12,v17),(17,v17),(16,v16),(15,v15),(14,v14),(13,v13),(6,v6),(5,v5),(4,v4),(3,v3)]) [] W5) (wV (fad prog 48 v7 3) fun v23=>wV (ld prog 5 v23 W5) fun v24=>wV (zAL prog .eql 5 true v24 (.int .u8 0)) fun v25=>wI v25 (wV (fad prog 56 v4 1) fun v27=>wV (ld prog 40 v27 W5) fun v28=>wV (zAm prog 40 v28 W5) fun v29=>wV (fad prog 78 v3 1) fun v30=>wV (ld prog 76 v30 W5) fun v31=>wV (fad prog 56 v4 0) fun v32=>wV (ld prog 9 v32 W5) fun v33=>wV (lkp prog 76 v31 v33 false W5) fun v34=>wV (zAm prog 29 v34 W5) fun v35=>wV (zAL prog .neq 3 false v29 v35) fun v36=>wI v36 ((zFH none K) .normal (Env.of (Env.args [v0,v1,v2]) [(44,(.bool true)),(43,undef),(39,(.bool true)),(42,undef),(39,(.bool true)),(41,undef),(39,(.bool true)),(40,undef),(39,(.bool true)),(39,v36),(38,v36),(37,v36),(22,(.bool false)),(36,v36),(26,(.bool true)),(35,v35),(26,(.bool true)),(34,v34),(26,(.bool true)),(33,v33),(26,(.bool true)),(32,v32),(26,(.bool true)),(31,v31),(26,(.bool true)),(30,v30),(26,(.bool true)),(29,v29),(26,(.bool true)),(28,v28),(26,(.bool true)),(27,v27),(26,(.bool true)),(26,v25),(22,(.bool false)),(25,v25),(22,(.bool false)),(24,v24),(22,(.bool false)),(23,v23),(22,(.bool false)),(22,v21),(21,v21),(20,v19),(8,v19),(7,v7),(19,v19),(18,v18),(12,v17),(17,v17),(16,v16),(15,v15),(14,v14),(13,v13),(6,v6),(5,v5),(4,v4),(3,v3)]) [] W5) (wV (fad prog 56 v4 1) fun v40=>wV (ld prog 40 v40 W5) fun v41=>wV (zAm prog 40 v41 W5) fun v42=>wV (zAL prog .gtr 3 true v42 (.int .i64 200)) fun v43=>(zFH none K) .normal (Env.of (Env.args [v0,v1,v2]) [(44,v43),(43,v43),(39,(.bool false)),(42,v42),(39,(.bool false)),(41,v41),(39,(.bool false)),(40,v40),(39,(.bool false)),(39,v36),(38,v36),(37,v36),(22,(.bool false)),(36,v36),(26,(.bool true)),(35,v35),(26,(.bool true)),(34,v34),(26,(.bool true)),(33,v33),(26,(.bool true)),(32,v32),(26,(.bool true)),(31,v31),(26,(.bool true)),(30,v30),(26,(.bool true)),(29,v29),(26,(.bool true)),(28,v28),(26,(.bool true)),(27,v27),(26,(.bool true)),(26,v25),(22,(.bool false)),(25,v25),(22,(.bool false)),(24,v24),(22,(.bool false)),(23,v23),(22,(.bool false)),(22,v21),(21,v21),(20,v19),(8,v19),(7,v7),(19,v19),(18,v18),(12,v17),(17,v17),(16,v16),(15,v15),(14,v14),(13,v13),(6,v6),(5,v5),(4,v4),(3,v3)]) [] W5)) (wV (fad prog 56 v4 1) fun v40=>wV (ld prog 40 v40 W5) fun v41=>wV (zAm prog 40 v41 W5) fun v42=>wV (zAL prog .gtr 3 true v42 (.int .i64 200)) fun v43=>(zFH none K) .normal (Env.of (Env.args [v0,v1,v2]) [(44,v43),(43,v43),(39,(.bool false)),(42,v42),(39,(.bool false)),(41,v41),(39,(.bool false)),(40,v40),(39,(.bool false)),(39,(.bool false)),(38,(.bool false)),(37,(.bool false)),(22,(.bool false)),(36,undef),(26,(.bool false)),(35,undef),(26,(.bool false)),(34,undef),(26,(.bool false)),(33,undef),(26,(.bool false)),(32,undef),(26,(.bool false)),(31,undef),(26,(.bool false)),(30,undef),(26,(.bool false)),(29,undef),(26,(.bool false)),(28,undef),(26,(.bool false)),(27,undef),(26,(.bool false)),(26,v25),(22,(.bool false)),(25,v25),(22,(.bool false)),(24,v24),(22,(.bool false)),(23,v23),(22,(.bool false)),(22,v21),(21,v21),(20,v19),(8,v19),(7,v7),(19,v19),(18,v18),(12,v17),(17,v17),(16,v16),(15,v15),(14,v14),(13,v13),(6,v6),(5,v5),(4,v4),(3,v3)]) [] W5))):=by kernel_rfl
theorem zUf (ro:Option Nat) (e:Env) (ds:List Deferred) (K:zAI) (W:CW):zAJ prog pkL ro 119 72 (rfA prog 119 0) e ds W K=(K .normal (Env.of e [(10,(e 49)),(9,(e 48))]) ds W):=by kernel_rfl
def zCi (ro:Option Nat) (K:zAI):zAI:=zA5 (fun e ds W=>wI (e 71) (wV (sto prog 4 (e 6) (.bool false) W) fun W13=>K .ret e ds W13) (K .normal e ds W)) (zBm 1 K)
theorem zUe (ro:Option Nat) (e:Env) (ds:List Deferred) (K:zAI) (W:CW):zAJ prog pkL ro 119 72 (rfB prog 119 0) e ds W K=(wV (fad prog 56 (e 4) 1) fun v50=>wV (ld prog 40 v50 W) fun v51=>wV (iad prog 40 v51 (e 9)) fun v53=>wV (ld prog 3 v53 W) fun v54=>wV (zAL prog .eql 5 true (e 10) (.int .u8 1)) fun v56=>wI v56 (WCall prog pkL 103 [v54,(.int .i64 (-1000000000)),(.int .i64 1000000000)] W (zAK (fun v59 W15=>wV (ngt v59) fun v60=>wI v60 ((zCi ro K) .normal (Env.of e [(71,(.bool true)),(70,undef),(62,(.bool true)),(69,undef),(68,undef),(67,undef),(66,undef),(65,undef),(62,(.bool true)),(64,undef),(62,(.bool true)),(63,undef),(62,(.bool true)),(62,v60),(61,v60),(60,v60),(57,(.bool true)),(59,v59),(57,(.bool true)),(58,v54),(57,(.bool true)),(57,v56),(56,v56),(55,(e 10)),(11,v54),(54,v54),(53,v53),(52,(e 9)),(51,v51),(50,v50)]) ds W15) (wV (zAL prog .eql 5 true (e 10) (.int .u8 2)) fun v64=>wI v64 (wV (ld prog 3 (e 5) W15) fun v67=>WCall prog pkL 103 [v54,(.int .i64 0),v67] W15 (zAK (fun v68 W17=>wV (ngt v68) fun v69=>(zCi ro K) .normal (Env.of e [(71,v69),(70,v69),(62,(.bool false)),(69,v69),(65,(.bool true)),(68,v68),(65,(.bool true)),(67,v67),(65,(.bool true)),(66,v54),(65,(.bool true)),(65,v64),(62,(.bool false)),(64,v64),(62,(.bool false)),(63,(e 10)),(62,(.bool false)),(62,v60),(61,v60),(60,v60),(57,(.bool true)),(59,v59),(57,(.bool true)),(58,v54),(57,(.bool true)),(57,v56),(56,v56),(55,(e 10)),(11,v54),(54,v54),(53,v53),(52,(e 9)),(51,v51),(50,v50)]) ds W17) (fun ch18 W18=>(zCi ro K) (.panic ch18) (Env.of e [(65,(.bool true)),(67,v67),(65,(.bool true)),(66,v54),(65,(.bool true)),(65,v64),(62,(.bool false)),(64,v64),(62,(.bool false)),(63,(e 10)),(62,(.bool false)),(62,v60),(61,v60),(60,v60),(57,(.bool true)),(59,v59),(57,(.bool true)),(58,v54),(57,(.bool true)),(57,v56),(56,v56),(55,(e 10)),(11,v54),(54,v54),(53,v53),(52,(e 9)),(51,v51),(50,v50)]) ds W18))) ((zCi ro K) .normal (Env.of e [(71,(.bool false)),(70,(.bool false)),(62,(.bool false)),(69,undef),(65,(.bool false)),(68,undef),(65,(.bool false)),(67,undef),(65,(.bool false)),(66,undef),(65,(.bool false)),(65,v64),(62,(.bool false)),(64,v64),(62,(.bool false)),(63,(e 10)),(62,(.bool false)),(62,v60),(61,v60),(60,v60),(57,(.bool true)),(59,v59),(57,(.bool true)),(58,v54),(57,(.bool true)),(57,v56),(56,v56),(55,(e 10)),(11,v54),(54,v54),(53,v53),(52,(e 9)),(51,v51),(50,v50)]) ds W15))) (fun ch16 W16=>(zCi ro K) (.panic ch16) (Env.of e [(57,(.bool true)),(58,v54),(57,(.bool true)),(57,v56),(56,v56),(55,(e 10)),(11,v54),(54,v54),(53,v53),(52,(e 9)),(51,v51),(50,v50)]) ds W16))) (wV (zAL prog .eql 5 true (e 10) (.int .u8 2)) fun v64=>wI v64 (wV (ld prog 3 (e 5) W) fun v67=>WCall prog pkL 103 [v54,(.int .i64 0),v67] W (zAK (fun v68 W19=>wV (ngt v68) fun v69=>(zCi ro K) .normal (Env.of e [(71,v69),(70,v69),(62,(.bool false)),(69,v69),(65,(.bool true)),(68,v68),(65,(.bool true)),(67,v67),(65,(.bool true)),(66,v54),(65,(.bool true)),(65,v64),(62,(.bool false)),(64,v64),(62,(.bool false)),(63,(e 10)),(62,(.bool false)),(62,(.bool false)),(61,(.bool false)),(60,undef),(57,(.bool false)),(59,undef),(57,(.bool false)),(58,undef),(57,(.bool false)),(57,v56),(56,v56),(55,(e 10)),(11,v54),(54,v54),(53,v53),(52,(e 9)),(51,v51),(50,v50)]) ds W19) (fun ch20 W20=>(zCi ro K) (.panic ch20) (Env.of e [(65,(.bool true)),(67,v67),(65,(.bool true)),(66,v54),(65,(.bool true)),(65,v64),(62,(.bool false)),(64,v64),(62,(.bool false)),(63,(e 10)),(62,(.bool false)),(62,(.bool false)),(61,(.bool false)),(60,undef),(57,(.bool false)),(59,undef),(57,(.bool false)),(58,undef),(57,(.bool false)),(57,v56),(56,v56),(55,(e 10)),(11,v54),(54,v54),(53,v53),(52,(e 9)),(51,v51),(50,v50)]) ds W20))) ((zCi ro K) .normal (Env.of e [(71,(.bool false)),(70,(.bool false)),(62,(.bool false)),(69,undef),(65,(.bool false)),(68,undef),(65,(.bool false)),(67,undef),(65,(.bool false)),(66,undef),(65,(.bool false)),(65,v64),(62,(.bool false)),(64,v64),(62,(.bool false)),(63,(e 10)),(62,(.bool false)),(62,(.bool false)),(61,(.bool false)),(60,undef),(57,(.bool false)),(59,undef),(57,(.bool false)),(58,undef),(57,(.bool false)),(57,v56),(56,v56),(55,(e 10)),(11,v54),(54,v54),(53,v53),(52,(e 9)),(51,v51),(50,v50)]) ds W))):=by kernel_rfl
theorem zVy {Q:Ending→CW→Prop} {v0 v1 v2:Value} {W:CW} (h:zAJ prog pkL none 119 72 (zAG prog 119) (Env.args [v0,v1,v2]) [] W (zAE prog Tryz.f119 Q)):WCall prog pkL 119 [v0,v1,v2] W Q:=zAM Tryz.func119 (by kernel_rfl) (by kernel_rfl) (by kernel_rfl) (by kernel_rfl) (by kernel_rfl) h
theorem zWD (v0 v1:Value) (K:zAI) (W:CW):zAJ prog pkL none 104 9 (zAG prog 104) (Env.args [v0,v1]) [] W K=(WCall prog pkL 126 [v0,v1] W (zAK (fun v7 W0=>wV (zAL prog .geq 3 true v7 (.int .i64 0)) fun v8=>K .ret (Env.of (Env.args [v0,v1]) [(4,v8),(8,v8),(7,v7),(6,v1),(5,v0),(4,(.bool false))]) [] W0) (fun ch1 W1=>K (.panic ch1) (Env.of (Env.args [v0,v1]) [(6,v1),(5,v0),(4,(.bool false))]) [] W1))):=by kernel_rfl
theorem zPT (Q:Ending→CW→Prop) (e:Env) (W:CW):zAE prog Tryz.f104 Q .ret e [] W=Q (.returned (e 4)) W:=by kernel_rfl
theorem zWC {Q:Ending→CW→Prop} {v0 v1:Value} {W:CW} (h:zAJ prog pkL none 104 9 (zAG prog 104) (Env.args [v0,v1]) [] W (zAE prog Tryz.f104 Q)):WCall prog pkL 104 [v0,v1] W Q:=zAM Tryz.func104 (by kernel_rfl) (by kernel_rfl) (by kernel_rfl) (by kernel_rfl) (by kernel_rfl) h
def zNP (ro:Option Nat) (K:zAI):zAI:=zA5 (fun e ds W=>K .ret (Env.of e [(4,(.int .i64 (-1)))]) ds W) K
theorem zVp (v0 v1:Value) (K:zAI) (W:CW):zAJ prog pkL none 126 19 (zAG prog 126) (Env.args [v0,v1]) [] W K=(wV (zAm prog 40 v0 W) fun v7=>zCg prog pkL none 126 19 (.loop (zAS prog 126 0)) (Env.of (Env.args [v0,v1]) [(8,(.int .i64 0)),(7,v7),(6,v0),(4,(.int .i64 0))]) [] W (zBm 0 (zNP none K))):=by kernel_rfl
def zKY (ro:Option Nat) (K:zAI):zAI:=zA5 (fun e ds W=>wV (zAL prog .add 3 true (e 8) (.int .i64 1)) fun v18=>K .normal (Env.of e [(8,v18),(18,v18)]) ds W) K
theorem zUc (ro:Option Nat) (e:Env) (ds:List Deferred) (K:zAI) (W:CW):zAJ prog pkL ro 126 19 (zAS prog 126 0) e ds W K=(wV (zAL prog .lss 3 false (e 8) (e 7)) fun v9=>wI v9 (wV (iad prog 40 (e 0) (e 8)) fun v14=>wV (ld prog 3 v14 W) fun v15=>wV (zAL prog .eql 3 false (e 1) v15) fun v16=>wI v16 ((zKY ro K) .ret (Env.of e [(4,(e 8)),(17,(e 8)),(16,v16),(15,v15),(14,v14),(13,(e 8)),(12,(e 0)),(11,(e 1)),(5,(e 8)),(10,(e 8)),(9,v9)]) ds W) ((zKY ro K) .normal (Env.of e [(16,v16),(15,v15),(14,v14),(13,(e 8)),(12,(e 0)),(11,(e 1)),(5,(e 8)),(10,(e 8)),(9,v9)]) ds W)) (K (.exit 0) (Env.of e [(9,v9)]) ds W)):=by kernel_rfl
theorem zJh (Q:Ending→CW→Prop) (e:Env) (W:CW):zAE prog Tryz.f126 Q .ret e [] W=Q (.returned (e 4)) W:=by kernel_rfl
theorem zVo {Q:Ending→CW→Prop} {v0 v1:Value} {W:CW} (h:zAJ prog pkL none 126 19 (zAG prog 126) (Env.args [v0,v1]) [] W (zAE prog Tryz.f126 Q)):WCall prog pkL 126 [v0,v1] W Q:=zAM Tryz.func126 (by kernel_rfl) (by kernel_rfl) (by kernel_rfl) (by kernel_rfl) (by kernel_rfl) h
end Go.Ce
namespace Go.Ce
open Go Go.Proofs Go.Proofs.Tryz
theorem zIk:∀ a:List UInt8,bLt a a=false
 | []=>rfl
 | a::x=>by
  simp only [bLt,Nat.beq_refl,Bool.true_and,zIk x,Bool.or_false]
  cases h:Nat.blt a.toNat a.toNat with
  | false=>rfl
  | true=>have:=Nat.le_of_ble_eq_true h; omega
theorem zGU:∀ a b c:List UInt8,bLt a b=true→bLt b c=true→bLt a c=true
 | _,_,[],_,h=>by simp [bLt] at h
 | _,[],_::_,h,_=>by simp [bLt] at h
 | [],_::_,_::_,_,_=>rfl
 | a::x,b::y,c::z,h1,h2=>by
  simp only [bLt,Bool.or_eq_true,Bool.and_eq_true] at h1 h2 ⊢; have blt:∀ m n:Nat,Nat.blt m n=true↔m<n:=fun m n=>⟨fun h=>Nat.le_of_ble_eq_true h,fun h=>Nat.ble_eq_true_of_le h⟩
  rw [blt,Nat.beq_eq] at h1 h2 ⊢
  rcases h1 with h1 | ⟨h1,h1'⟩
  ·rcases h2 with h2 | ⟨h2,h2'⟩
   ·exact .inl (Nat.lt_trans h1 h2)
   ·exact .inl (by omega)
  ·rcases h2 with h2 | ⟨h2,h2'⟩
   ·exact .inl (by omega)
   ·exact .inr ⟨by omega,zGU x y z h1' h2'⟩
theorem zTs {c:List Shp}:∀ {i:Nat},(∀ j,j<i→zAk c j=false)→∀ j k x y,j<k→k<i→c[j]?=some x→c[k]?=some y→bLt (sb x.name) (sb y.name)=true:=by
 intro i h j k
 induction k with
 | zero=>intro x y hj; omega
 | succ k ih =>
  intro x y hj hk hx hy; have hb:=h (k+1) hk; unfold zAk at hb; rw [hy] at hb; simp only [Bool.or_eq_false_iff] at hb; have hp:=hb.1.2; unfold zD0 at hp; have hkl:k<c.length:=by have:=(List.getElem?_eq_some_iff.1 hy).1; omega
  have hz:=List.getElem?_eq_getElem hkl; simp only [hz,Bool.not_eq_false'] at hp
  rcases Nat.lt_succ_iff_lt_or_eq.1 hj with h1 | rfl
  ·exact zGU _ _ _ (ih x _ h1 (by omega) hx hz) hp
  ·rw [hx] at hz; cases hz; exact hp
theorem zRr {c:List Shp} {i:Nat} (h:∀ j,j<i→zAk c j=false) {j k:Nat} {x y:Shp} (hjk:j≠k) (hj:j<i) (hk:k<i) (hx:c[j]?=some x) (hy:c[k]?=some y):x.name≠y.name:=by
 intro e
 rcases Nat.lt_or_gt_of_ne hjk with h1 | h1
 ·have:=zTs h j k x y h1 hk hx hy; rw [e,zIk] at this; cases this
 ·have:=zTs h k j y x h1 hj hy hx; rw [e,zIk] at this; cases this
theorem zUC {c:List Shp} (h:∀ j,j<c.length→zAk c j=false) {i:Nat} {x:Shp} (hx:c[i]?=some x):zBQ c x.name=some i:=by
 unfold zBQ; have hi:=(List.getElem?_eq_some_iff.1 hx).1; have he:=(List.getElem?_eq_some_iff.1 hx).2; rw [List.findIdx?_eq_some_iff_getElem]; refine ⟨hi,by rw [he]; simp,fun j hj=>?_⟩; have hjl:j<c.length:=by omega
 have:=zRr h (by omega:j≠i) hjl hi (List.getElem?_eq_getElem hjl) hx
 simpa using this
theorem zBY {c:List Shp} {f i:Nat} {l:List Nat} {x:Shp} (hx:c[i]?=some x) (h:zBP c f i=some l):(x.super=zCR∧l=[i])∨(x.super≠zCR∧∃ f' j m,f=f'+1∧zRz c i=some j∧zBP c f' j=some m∧l=i::m):=by
 by_cases hs:x.super=zCR
 ·rw [zF7 hx hs] at h; exact .inl ⟨hs,(Option.some.inj h).symm⟩
 ·right; refine ⟨hs,?_⟩
  cases f with
  | zero=>rw [zPD hx hs] at h; cases h
  | succ f =>
   rw [zGr hx hs] at h
   cases hj:zRz c i with
   | none=>rw [hj] at h; cases h
   | some j =>
    rw [hj] at h; simp only at h
    cases h1:zBP c f j with
    | none=>rw [h1] at h; cases h
    | some m =>
     rw [h1] at h; exact ⟨f,j,m,rfl,rfl,h1,(Option.some.inj h).symm⟩
theorem zCS {c:List Shp} {f i:Nat} {l:List Nat} (h:zBP c f i=some l):∃ x,c[i]?=some x:=by
 unfold zBP at h
 cases hx:c[i]? with
 | none=>rw [hx] at h; cases h
 | some x=>exact ⟨x,rfl⟩
theorem zLZ {c:List Shp}:∀ {f i:Nat} {l:List Nat},zBP c f i=some l→∀ {f':Nat} {l':List Nat},zBP c f' i=some l'→l=l':=by
 intro f
 induction f with
 | zero =>
  intro i l h f' l' h'; obtain ⟨x,hx⟩:=zCS h
  rcases zBY hx h with ⟨hs,rfl⟩ | ⟨hs,f1,j,m,h1,_⟩
  ·rcases zBY hx h' with ⟨_,rfl⟩ | ⟨hs',_⟩
   ·rfl
   ·exact (hs' hs).elim
  ·omega
 | succ f ih =>
  intro i l h f' l' h'; obtain ⟨x,hx⟩:=zCS h
  rcases zBY hx h with ⟨hs,rfl⟩ | ⟨hs,f1,j,m,h1,h2,h3,rfl⟩
  ·rcases zBY hx h' with ⟨_,rfl⟩ | ⟨hs',_⟩
   ·rfl
   ·exact (hs' hs).elim
  ·rcases zBY hx h' with ⟨hs',_⟩ | ⟨_,f1',j',m',h1',h2',h3',rfl⟩
   ·exact (hs hs').elim
   ·have:f1=f:=by omega
    subst this; rw [h2] at h2'
    cases h2'
    rw [ih h3 h3']
theorem zQi {c:List Shp}:∀ {f i:Nat} {l:List Nat},zBP c f i=some l→∀ k,l.length≤k+1→zBP c k i=some l:=by
 intro f
 induction f with
 | zero =>
  intro i l h k hk; obtain ⟨x,hx⟩:=zCS h
  rcases zBY hx h with ⟨hs,rfl⟩ | ⟨hs,f1,j,m,h1,_⟩
  ·exact zF7 hx hs
  ·omega
 | succ f ih =>
  intro i l h k hk; obtain ⟨x,hx⟩:=zCS h
  rcases zBY hx h with ⟨hs,rfl⟩ | ⟨hs,f1,j,m,h1,h2,h3,rfl⟩
  ·exact zF7 hx hs
  ·have:f1=f:=by omega
   subst this; simp only [List.length_cons] at hk
   have hm:0<m.length:=by
    obtain ⟨y,hy⟩:=zCS h3; rcases zBY hy h3 with ⟨_,rfl⟩ | ⟨_,_,_,_,_,_,_,rfl⟩ <;> simp
   cases k with
   | zero=>omega
   | succ k =>
    rw [zGr hx hs,h2]; simp only; rw [ih h3 k (by omega)]; rfl
theorem zMy {c:List Shp}:∀ {f i:Nat} {l:List Nat},zBP c f i=some l→∀ j,j ∈ l→∃ f' m,zBP c f' j=some m∧m.length≤l.length:=by
 intro f
 induction f with
 | zero =>
  intro i l h j hj; obtain ⟨x,hx⟩:=zCS h
  rcases zBY hx h with ⟨hs,rfl⟩ | ⟨hs,f1,j,m,h1,_⟩
  ·rw [List.mem_singleton.1 hj]; exact ⟨_,_,h,Nat.le_refl _⟩
  ·omega
 | succ f ih =>
  intro i l h j hj; obtain ⟨x,hx⟩:=zCS h
  rcases zBY hx h with ⟨hs,rfl⟩ | ⟨hs,f1,k,m,h1,h2,h3,rfl⟩
  ·rw [List.mem_singleton.1 hj]; exact ⟨_,_,h,Nat.le_refl _⟩
  ·have:f1=f:=by omega
   subst this
   rcases List.mem_cons.1 hj with rfl | hj
   ·exact ⟨_,_,h,Nat.le_refl _⟩
   ·obtain ⟨f',m',h4,h5⟩:=ih h3 j hj; exact ⟨f',m',h4,by simp only [List.length_cons]; omega⟩
theorem zPC {c:List Shp}:∀ {f i:Nat} {l:List Nat},zBP c f i=some l→l.Nodup:=by
 intro f
 induction f with
 | zero =>
  intro i l h; obtain ⟨x,hx⟩:=zCS h
  rcases zBY hx h with ⟨hs,rfl⟩ | ⟨hs,f1,j,m,h1,_⟩
  ·exact List.pairwise_singleton _ _
  ·omega
 | succ f ih =>
  intro i l h; obtain ⟨x,hx⟩:=zCS h
  rcases zBY hx h with ⟨hs,rfl⟩ | ⟨hs,f1,k,m,h1,h2,h3,rfl⟩
  ·exact List.pairwise_singleton _ _
  ·have:f1=f:=by omega
   subst this; refine List.nodup_cons.2 ⟨fun hm=>?_,ih h3⟩; obtain ⟨f',m',h4,h5⟩:=zMy h3 i hm; have:=zLZ h h4; rw [←this] at h5; simp only [List.length_cons] at h5; omega
theorem zQR {n:Nat} {o:List Nat} (h:o.Nodup) (hl:∀ v,v ∈ o→v<n):o.length≤n:=by
 have:=zNx n (o.map fun v:Nat=>((v:Int)+1)) (by
  rw [List.Nodup,List.pairwise_map]
  exact h.imp fun hne e=>hne (by omega)) fun v hv=>by
   obtain ⟨u,hu,rfl⟩:=List.mem_map.1 hv; have:=hl u hu; omega
 rwa [List.length_map] at this
theorem zLa {c:List Shp} {f i:Nat} {l:List Nat} (h:zBP c f i=some l):zBP c c.length i=some l :=
 zQi h _ (by have:=zQR (zPC h) (zEk c _ _ _ h).2; omega)
def zBK:List ByteArray→List Fld→Bool
 | _,[]=>true
 | F,f::fs=>(zDh f.name && (zFM f.kind && !F.any fun s=>decide (s=f.name))) && zBK (F++[f.name]) fs
theorem zCe:∀ (F:List ByteArray) (fs gs:List Fld),zBK F (fs++gs)=(zBK F fs && zBK (F++fs.map (·.name)) gs)
 | F,[],gs=>by simp [zBK]
 | F,f::fs,gs=>by
  rw [List.cons_append,zBK,zBK,zCe]; simp [Bool.and_assoc]
theorem zIH {fs:List Fld}:∀ k,k≤fs.length→(zBK [] (fs.take k)=true↔∀ j,j<k→zD4 fs j=false)
 | 0,_=>by simp [zBK]
 | k+1,hk=>by
  have hx:=List.getElem?_eq_getElem (show k<fs.length by omega); have ih:=zIH k (by omega:k≤fs.length); rw [List.take_add_one,hx,Option.toList_some,zCe,Bool.and_eq_true,ih]
  have hb:zD4 fs k=false↔zBK ([]++(fs.take k).map (·.name)) [fs[k]]=true:=by
   unfold zD4 zBK zBK; rw [hx]; simp only [Bool.and_true,Bool.and_eq_true,Bool.or_eq_false_iff,Bool.not_eq_false',Bool.not_eq_true',List.nil_append]
   have:zKN fs k fs[k].name=((fs.take k).map (·.name)).any fun s=>decide (s=fs[k].name):=by
    unfold zKN zCW; rw [Bool.eq_iff_iff,List.any_eq_true,List.any_eq_true]
    constructor
    ·rintro ⟨n,hn,h⟩; have hnk:=List.mem_range.1 hn; rw [List.getElem?_eq_getElem (by omega)] at h; refine ⟨fs[n].name,List.mem_map.2 ⟨fs[n],?_,rfl⟩,by simpa using h⟩; exact List.mem_take_iff_getElem.2 ⟨n,by omega,rfl⟩
    ·rintro ⟨s,hs,h⟩; obtain ⟨f,hf,rfl⟩:=List.mem_map.1 hs; obtain ⟨n,hn,rfl⟩:=List.mem_take_iff_getElem.1 hf; refine ⟨n,List.mem_range.2 (by omega),?_⟩; rw [List.getElem?_eq_getElem (by omega)]
     simpa using h
   rw [this,and_assoc]
  constructor
  ·rintro ⟨h1,h2⟩ j hj
   rcases Nat.lt_succ_iff_lt_or_eq.1 hj with h | rfl
   ·exact h1 j h
   ·exact hb.2 h2
  ·intro h; exact ⟨fun j hj=>h j (by omega),hb.1 (h k (by omega))⟩
theorem zPI (fs:List Fld):zBK [] fs=!zCW fs.length (zD4 fs):=by
 have h:=zIH (fs:=fs) fs.length (Nat.le_refl _); rw [List.take_length] at h; rw [Bool.eq_iff_iff,h,Bool.not_eq_true']; exact ⟨fun h=>zCJ h,fun h j hj=>zBi h hj⟩
def SetAt (W:CW) (r:Nat) (S:List ByteArray):Prop:=∃ m:List (ByteArray × Value),MapAt Value.string W r m∧∀ s,zKD m s=if S.any (fun x=>decide (x=s)) then some (.bool true) else none
theorem SetAt.congr {W W':CW} {r:Nat} {S:List ByteArray} (h:SetAt W r S) (ho:W'.obj r=W.obj r):SetAt W' r S:=by
 obtain ⟨m,h1,h2⟩:=h; exact ⟨m,h1.congr ho,h2⟩
theorem SetAt.lt {W:CW} (ht:Top W) {r:Nat} {S:List ByteArray} (h:SetAt W r S):r<W.sz:=by
 obtain ⟨m,h1,h2⟩:=h; exact h1.lt ht
theorem zYQ:prog.underlying 181=some (.map 9 4):=by kernel_rfl
theorem z4:zer prog 4=some (.bool false):=by kernel_rfl
theorem SetAt.look {W:CW} {r:Nat} {S:List ByteArray} (h:SetAt W r S) (s:ByteArray):lkp prog 181 (.map (some r)) (.string s) false W=some (.bool (S.any fun x=>decide (x=s))):=by
 obtain ⟨m,h1,h2⟩:=h; rw [zF6 zYQ u9 rfl z4 zCx h1 s false,h2]
 cases S.any fun x=>decide (x=s) <;> rfl
theorem SetAt.put {W:CW} {r:Nat} {S:List ByteArray} (h:SetAt W r S) {s:ByteArray} {K:CW→Prop} (hK:∀ W1,Upd r W W1→SetAt W1 r (S++[s])→K W1):wV (mup prog 181 (.map (some r)) (.string s) (.bool true) W) K:=by
 obtain ⟨m,h1,h2⟩:=h; refine zPs zYQ u9 rfl zCx h1 fun W1 hu hm=>hK W1 hu ⟨_,hm,fun u=>?_⟩; rw [zDr,h2,List.any_append]
 by_cases e:u=s
 ·rw [if_pos e,e]; simp
 ·rw [if_neg e]; have:([s].any fun x=>decide (x=u))=false:=by simp; exact fun h=>e h.symm
  rw [this,Bool.or_false]
def AShp (W:CW) (u:Value) (x:Shp):Prop:=∃ vf ab lb cb,u=.agg #[.string x.name,.string x.super,vf,.int .u8 x.elem,.slice ab lb cb]∧IsSl 2 (RFld W) vf x.fields
end Go.Ce
namespace Go.Ce
open Go Go.Proofs Go.Proofs.Tryz
theorem zCC {S:Nat→Prop} {W W':CW} (h:Chg S W W') (ht:Top W) (hm:∀ j,S j→∀ k,W.cell j k=none) {b k:Nat} {v:Value} (hc:W.cell b k=some v):W'.cell b k=some v :=
 h.cell ht (fun hs=>by rw [hm b hs k] at hc; cases hc) hc
theorem SetAt.cell {W:CW} {r:Nat} {S:List ByteArray} (h:SetAt W r S) (k:Nat):W.cell r k=none:=by
 obtain ⟨m,⟨es,clk,h1,_⟩,_⟩:=h; unfold CW.cell; rw [h1]
def ShM (W:CW) (r:Nat) (c:List Shp):Prop:=∃ m:List (ByteArray × Value),MapAt Value.string W r m∧∀ s,match zBQ c s with
 | some i=>∃ u x,zKD m s=some u∧c[i]?=some x∧AShp W u x
 | none=>zKD m s=none
theorem u75:prog.underlying 75=some (.map 9 48):=by kernel_rfl
def zWk:Value:=.agg #[.string ⟨#[]⟩,.string ⟨#[]⟩,.slice none 0 0,.int .u8 0,.slice none 0 0]
theorem ShM.some {W:CW} {r:Nat} {c:List Shp} (h:ShM W r c) {s:ByteArray} {i:Nat} (hi:zBQ c s=Option.some i):∃ u x,c[i]?=Option.some x∧AShp W u x∧lkp prog 75 (.map (Option.some r)) (.string s) true W=Option.some (.tuple #[u,.bool true])∧lkp prog 75 (.map (Option.some r)) (.string s) false W=Option.some u:=by
 obtain ⟨m,h1,h2⟩:=h; have:=h2 s; rw [hi] at this; obtain ⟨u,x,h3,h4,h5⟩:=this
 refine ⟨u,x,h4,h5,?_,?_⟩
 ·rw [zF6 u75 u9 rfl z48 zCx h1 s true,h3]; rfl
 ·rw [zF6 u75 u9 rfl z48 zCx h1 s false,h3]; rfl
theorem ShM.none {W:CW} {r:Nat} {c:List Shp} (h:ShM W r c) {s:ByteArray} (hi:zBQ c s=Option.none):lkp prog 75 (.map (Option.some r)) (.string s) true W=Option.some (.tuple #[zWk,.bool false])∧lkp prog 75 (.map (Option.some r)) (.string s) false W=Option.some zWk:=by
 obtain ⟨m,h1,h2⟩:=h; have:=h2 s; rw [hi] at this
 constructor
 ·rw [zF6 u75 u9 rfl z48 zCx h1 s true,this]; rfl
 ·rw [zF6 u75 u9 rfl z48 zCx h1 s false,this]; rfl
theorem AShp.chg {S:Nat→Prop} {W W':CW} (h:Chg S W W') (ht:Top W) (hm:∀ j,S j→∀ k,W.cell j k=none) {u:Value} {x:Shp} (hu:AShp W u x):AShp W' u x:=by
 obtain ⟨vf,ab,lb,cb,h1,h2⟩:=hu; exact ⟨vf,ab,lb,cb,h1,h2.imp fun _ _ _ hr=>⟨zCC h ht hm hr.name,zCC h ht hm hr.kind,hr.lo,hr.hi⟩⟩
theorem ShM.chg {S:Nat→Prop} {W W':CW} (h:Chg S W W') (ht:Top W) (hm:∀ j,S j→∀ k,W.cell j k=Option.none) {r:Nat} {c:List Shp} (hr:ShM W r c) (hS:¬S r):ShM W' r c:=by
 obtain ⟨m,h1,h2⟩:=hr; refine ⟨m,h1.congr (h.obj r (h1.lt ht) hS),fun s=>?_⟩; have:=h2 s
 cases hi:zBQ c s with
 | none=>rw [hi] at this; exact this
 | some i =>
  rw [hi] at this; obtain ⟨u,x,h3,h4,h5⟩:=this; exact ⟨u,x,h3,h4,h5.chg h ht hm⟩
theorem ShM.kp {W W':CW} {r:Nat} {c:List Shp} (hr:ShM W r c) (ht:Top W) (k:Kp W W'):ShM W' r c:=hr.chg (Chg.of_kp (S:=fun _=>False) k) ht (fun _ h=>h.elim) (fun h=>h)
theorem SetAt.kp {W W':CW} {r:Nat} {S:List ByteArray} (h:SetAt W r S) (ht:Top W) (k:Kp W W'):SetAt W' r S:=h.congr (k.obj r (h.lt ht))
structure RowEnv (W:CW) (bk bs ba bf rs rf r1:Nat) (c:List Shp):Prop where
 k:W.cell bk 0=some (.map (some r1))
 s:W.cell bs 0=some (.map (some rs))
 f:W.cell bf 0=some (.map (some rf))
 a:W.cell ba 0=some (.func (.func 125) #[] #[.pointer (some ⟨bk,0,none⟩),.pointer (some ⟨bs,0,none⟩),.pointer (some ⟨ba,0,none⟩),.pointer (some ⟨bf,0,none⟩)])
 sh:ShM W r1 c
 ns:r1≠rs
 nf:r1≠rf
 sf:rs≠rf
def SF2 (rs rf:Nat) (j:Nat):Prop:=j=rs∨j=rf
theorem SF2.none {W:CW} {rs rf:Nat} {S F:List ByteArray} (hs:SetAt W rs S) (hf:SetAt W rf F):∀ j,SF2 rs rf j→∀ k,W.cell j k=none:=by
 rintro j (rfl | rfl) k
 ·exact hs.cell k
 ·exact hf.cell k
theorem RowEnv.chg {W W':CW} {bk bs ba bf rs rf r1:Nat} {c:List Shp} (R:RowEnv W bk bs ba bf rs rf r1 c) (ht:Top W) {S F:List ByteArray} (hs:SetAt W rs S) (hf:SetAt W rf F) (h:Chg (SF2 rs rf) W W'):RowEnv W' bk bs ba bf rs rf r1 c :=
 have hm:=SF2.none hs hf
 ⟨zCC h ht hm R.k,zCC h ht hm R.s,zCC h ht hm R.f,zCC h ht hm R.a,R.sh.chg h ht hm (fun h=>h.elim R.ns R.nf),R.ns,R.nf,R.sf⟩
theorem RFld.ld {W:CW} {b o:Nat} {x:Fld} (h:RFld W b o x):ld prog 72 (.pointer (some ⟨b,o,none⟩)) W=some (.agg [.string x.name,.int .u8 x.kind].toArray) :=
 zA8 (vs:=[.string x.name,.int .u8 x.kind]) a72 s72 rfl (by omega) h.cells
theorem zYJ:agg? prog 181=some false:=by kernel_rfl
theorem a75:agg? prog 75=some false:=by kernel_rfl
theorem a76:agg? prog 76=some false:=by kernel_rfl
theorem zYY:agg? prog 161=some false:=by kernel_rfl
theorem zDL (a:Addr):fad prog 78 (.pointer (some a)) 0=some (.pointer (some ⟨a.block,a.off,none⟩)):=by kernel_rfl
theorem zD6 (a:Addr):fad prog 78 (.pointer (some a)) 1=some (.pointer (some ⟨a.block,a.off+1,none⟩)):=by kernel_rfl
theorem zM6 {F:List ByteArray} {gs:List Fld} {j:Nat} {g:Fld} (hg:gs[j]?=some g):zBK F (gs.take (j+1))=(zBK F (gs.take j) && (zDh g.name && (zFM g.kind && !(F++(gs.take j).map (·.name)).any fun s=>decide (s=g.name)))):=by
 rw [List.take_add_one,hg,Option.toList_some,zCe]; congr 1; simp [zBK]
theorem zPH {F:List ByteArray} {gs:List Fld} (j:Nat) (h:zBK F (gs.take j)=false):zBK F gs=false:=by
 rw [←List.take_append_drop j gs,zCe,h,Bool.false_and]
theorem zRS {W0 W:CW} {K:zAI} {e e1:Env} {vf out:Value} {bk bs ba bf rs rf r1:Nat} {c:List Shp} {S F:List ByteArray} {gs:List Fld} {ks:List Int} (t0:Top W0) (R:RowEnv W0 bk bs ba bf rs rf r1 c) {S0 F0:List ByteArray} (hs0:SetAt W0 rs S0) (hf0:SetAt W0 rf F0) (hch:Chg (SF2 rs rf) W0 W) (ht:Top W) (hs:SetAt W rs S) (hf:SetAt W rf F)
  (hv:IsSl 2 (RFld W0) vf gs) (hgl:gs.length≤100) (hnm:∀ g,g ∈ gs→g.name.size<1000) (ho:Own W 5 1 out (zAc ks)) (hnw:Newer W0.sz out) (hkl:ks.length<100000)
  (h4:e 4=.pointer (some ⟨bf,0,none⟩)) (h49:e 49=vf) (h50:e 50=.int .i64 gs.length) (he:Agree [4,49,50] e e1) (h10:e1 10=out) (h51:e1 51=.int .i64 0)
  (hbad:zBK F gs=false→∀ e' W',Chg (SF2 rs rf) W0 W'→Top W'→e' 6=.slice none 0 0→e' 7=.bool false→K .ret e' [] W')
  (hgood:zBK F gs=true→∀ e' W' out',Chg (SF2 rs rf) W0 W'→Top W'→e' 10=out'→Own W' 5 1 out' (zAc (ks++gs.map (·.kind)))→Newer W0.sz out'→SetAt W' rs S→SetAt W' rf (F++gs.map (·.name))→K (.exit 0) e' [] W') :
  zCg prog pkL none 125 84 (.loop (zAS prog 125 0)) e1 [] W K:=by
 have hmm:=SF2.none hs0 hf0; have hrs0:=hs0.lt t0; have hrf0:=hf0.lt t0
 refine zCX (fun j e' ds' W'=>ds'=[]∧∃ out',Chg (SF2 rs rf) W0 W'∧Top W'∧Agree [4,49,50] e e'∧e' 10=out'∧e' 51=.int .i64 j∧Own W' 5 1 out' (zAc (ks++(gs.take j).map (·.kind)))∧Newer W0.sz out'∧SetAt W' rs S∧SetAt W' rf (F++(gs.take j).map (·.name))∧zBK F (gs.take j)=true) gs.length
  ⟨rfl,out,hch,ht,he,h10,h51,by simpa using ho,hnw,hs,by simpa using hf,by simp [zBK]⟩ ?_
 rintro j e' ds' W' hj ⟨rfl,out',hch',t',hAg,g10,g51,ho',hnw',hs',hf',hok⟩; have g4:=(hAg 4 (by decide)).trans h4; have g49:=(hAg 49 (by decide)).trans h49; have g50:=(hAg 50 (by decide)).trans h50; rw [zUd,g4,g49,g50,g51]; simp only [zAZ,zAA]
 refine zGZ (fun hlt=>?_) (fun hge=>?_)
 ·have hx:=List.getElem?_eq_getElem hlt; obtain ⟨a,cap,rfl,hc⟩:=hv; obtain ⟨p,rfl,hp⟩:=hc j _ hx; have hpW:RFld W' p.block (p.off+j*2) gs[j]:=⟨zCC hch' t0 hmm hp.name,zCC hch' t0 hmm hp.kind,hp.lo,hp.hi⟩
  rw [zAb u45 s72 hlt]; simp only [zAA]; rw [hpW.ld]; simp only [zAA]; refine zBx z72 s72 rfl rfl rfl t' fun W1 k1 t1 z1 hB=>?_; have q0:∀ W2,Kp W1 W2→ld prog 9 (.pointer (some ⟨W'.sz,0,none⟩)) W2=some (.string gs[j].name):=fun W2 k2=>zAB a9 (a:=⟨W'.sz,0,none⟩) (k2.cell t1 (hB.cell rfl)); have q1:∀ W2,Kp W1 W2→ld prog 5 (.pointer (some ⟨W'.sz,0+1,none⟩)) W2=some (.int .u8 gs[j].kind):=fun W2 k2=>zAB a5 (a:=⟨W'.sz,0+1,none⟩) (k2.cell t1 (hB.cell rfl)); simp only [zNA,zQy,zAA,q0 W1 (.refl _)]; have hsn:=zM6 (F:=F) hx; rw [hok,Bool.true_and] at hsn; have hsz':=hch'.sz; refine zMW (zFh t1 (by have:=hnm _ (List.getElem_mem hlt); omega)) fun W2 k2 t2=>?_; have k12:=k1.trans k2; have hch2:Chg (SF2 rs rf) W0 W2:=hch'.then (Chg.of_kp (S:=fun _=>False) k12) fun _ _ h=>h.elim
  have leaf:∀ (b:Bool) (e2:Env),Agree [4,10,49,50,51] e' e2→e2 12=.pointer (some ⟨W'.sz,0,none⟩)→e2 70=.bool b→(b=!zBK F (gs.take (j+1))) →
    (zEB none (zJQ (fun j e' ds' W'=>ds'=[]∧∃ out',Chg (SF2 rs rf) W0 W'∧Top W'∧Agree [4,49,50] e e'∧e' 10=out'∧e' 51=.int .i64 j∧Own W' 5 1 out' (zAc (ks++(gs.take j).map (·.kind)))∧Newer W0.sz out'∧SetAt W' rs S∧SetAt W' rf (F++(gs.take j).map (·.name))∧zBK F (gs.take j)=true) j gs.length K)) .normal e2 [] W2:=by
   intro b e2 hA2 r12 r70 hb; simp only [zEB,qKn,qKr,qKx,qKp,bKn,bKr,bKp,bKx,tKn,tKr,tKx,tKp,zKn,zKr,zKx,zKp,r70]
   refine zAH (fun hbb=>?_) (fun hbb=>?_)
   ·simp only [zGK,zKZ,qKn,qKr,qKx,qKp,bKn,bKr,bKp,bKx,tKn,tKr,tKx,tKp,zKn,zKr,zKx,zKp]; rw [hbb] at hb; exact hbad (zPH (j+1) (by simpa using hb.symm)) _ W2 hch2 t2 rfl rfl
   ·rw [hbb] at hb; have hok2:zBK F (gs.take (j+1))=true:=by simpa using hb.symm
    have r4:=(hA2 4 (by decide)).trans g4; have r10:=(hA2 10 (by decide)).trans g10; have r51:=(hA2 51 (by decide)).trans g51; simp only [zGK,qKn,qKr,qKx,qKp,bKn,bKr,bKp,bKx,tKn,tKr,tKx,tKp,zKn,zKr,zKx,zKp,r4,r10,r12]; have qf:ld prog 181 (.pointer (some ⟨bf,0,none⟩)) W2=some (.map (some rf)):=zAB zYJ (a:=⟨bf,0,none⟩) (zCC hch2 t0 hmm R.f); simp only [qf,zAA,zNA,zQy,q0 W2 k2]; refine (hf'.kp t' k12).put fun W3 hu hf3=>?_; have hrf2:rf<W2.sz:=by have:=hch2.sz; omega
    have t3:Top W3:=t2.upd hrf2 hu; have hbne:W'.sz≠rf:=by omega
    have qk:ld prog 5 (.pointer (some ⟨W'.sz,0+1,none⟩)) W3=some (.int .u8 gs[j].kind):=zAB a5 (a:=⟨W'.sz,0+1,none⟩) (by
     show W3.cell W'.sz (0+1)=_; rw [hu.cell hbne]
     exact k2.cell t1 (hB.cell rfl))
    simp only [qk,zAA]; have ho3:Own W3 5 1 out' (zAc (ks++(gs.take j).map (·.kind))):=zF1 (ho'.kp t' k12) hu fun b l c e=>by have:=hnw' b l c e; omega
    refine zTZ u29 s5 z5 rfl (by omega) by5 (by omega) (zWZ _) rfl rfl t3 ho3 (by rw [zBz,List.length_append,List.length_map,List.length_take]; omega) fun u v1 W4 hpu t4 o4 n4=>?_; have hno:∀ i,zA7 out' i→W0.sz≤i:=fun i hi=>hnw'.in hi; have hch4:Chg (SF2 rs rf) W0 W4:=((hch2.then hu.chg fun i hi h=>.inr h)).then hpu.chg fun i hi h=>by have:=hno i h; omega
    have hps:=hpu.sz; simp only [zKZ,qKn,qKr,qKx,qKp,bKn,bKr,bKp,bKx,tKn,tKr,tKx,tKp,zKn,zKr,zKx,zKp]; simp only [eKc,eKn,eKa,Nat.reduceEqDiff,↓reduceIte,gKz,gKs,dKs,and_self,r51,zAW,zAA,qKn,qKr,qKx,qKp,bKn,bKr,bKp,bKx,tKn,tKr,tKx,tKp,zKn,zKr,zKx,zKp]
    have hs4:SetAt W4 rs S:=by
     have h2:=hs'.kp t' k12; have h3:SetAt W3 rs S:=h2.congr (hu.obj rs R.sf); exact h3.congr (hpu.obj rs (by rw [hu.sz]; have:=hch2.sz; omega) fun b l c e hb=>by have:=hno rs ⟨b,l,c,e,hb.symm⟩; omega)
    have hf4:SetAt W4 rf ((F++(gs.take j).map (·.name))++[gs[j].name]) :=
     hf3.congr (hpu.obj rf (by rw [hu.sz]; omega) fun b l c e hb=>by have:=hno rf ⟨b,l,c,e,hb.symm⟩; omega)
    refine ⟨hlt,trivial,v1,hch4,t4,(hAg.trans fun t ht=>hA2 t (by revert t; decide)).trans ((Agree.put rfl).trans (.put rfl)),rfl,by rw [zCT (by omega)],?_,n4 _ (by rw [hu.sz]; exact hch2.sz),hs4,?_,hok2⟩
    ·rw [List.take_add_one,hx]; have:zAc (ks++((gs.take j)++(some gs[j]).toList).map (·.kind))=zAc (ks++(gs.take j).map (·.kind))++[.int .u8 gs[j].kind]:=by simp only [zAc,List.map_append,Option.toList_some,List.map_cons,List.map_nil,List.append_assoc]
     rw [this]; exact o4
    ·rw [List.take_add_one,hx,List.map_append,←List.append_assoc]; exact hf4
  simp only [zAR,zAA]
  refine zAH (fun hb=>?_) (fun hb=>?_)
  ·have hb:zDh gs[j].name=false:=by simpa using hb
   exact leaf true _ (.put rfl) rfl rfl (by rw [hsn,hb]; rfl)
  ·have hb:zDh gs[j].name=true:=by simpa using hb
   simp only [q1 W2 k2,zAA]; refine zB2 (zLc _ _) ?_; simp only [zAR,zAA]
   refine zAH (fun hb2=>?_) (fun hb2=>?_)
   ·have hb2:zFM gs[j].kind=false:=by unfold zFM; simpa only [Bool.not_eq_true'] using hb2
    exact leaf true _ (.put rfl) rfl rfl (by rw [hsn,hb,hb2]; rfl)
   ·have hb2:zFM gs[j].kind=true:=by unfold zFM; simpa only [Bool.not_eq_false'] using hb2
    have qf:ld prog 181 (.pointer (some ⟨bf,0,none⟩)) W2=some (.map (some rf)):=zAB zYJ (a:=⟨bf,0,none⟩) (zCC hch2 t0 hmm R.f); simp only [qf,q0 W2 k2,zAA,(hf'.kp t' k12).look]; exact leaf _ _ (.put rfl) rfl rfl (by rw [hsn,hb,hb2]; simp)
 ·simp only [qKn,qKr,qKx,qKp,bKn,bKr,bKp,bKx,tKn,tKr,tKx,tKp,zKn,zKr,zKx,zKp]; have htk:gs.take j=gs:=List.take_of_length_le (by omega); rw [htk] at ho' hf' hok; exact hgood hok _ W' out' hch' t' g10 ho' hnw' hs' hf'
end Go.Ce
namespace Go.Ce
open Go Go.Proofs Go.Proofs.Tryz
def zHF (c:List Shp) (i:Nat):ByteArray:=match c[i]? with
 | some x=>x.name
 | none=>zCR
def zJC (c:List Shp) (F:List ByteArray) (s:ByteArray):Option (List Fld):=match zBQ c s with
 | some i=>match zBP c c.length i with
  | some l=>if zBK F (l.reverse.flatMap (zJT c)) && decide ((l.reverse.flatMap (zJT c)).length≤60) then some (l.reverse.flatMap (zJT c)) else none
  | none=>none
 | none=>none
def zK1 (c:List Shp) (rs rf:Nat) (F:List ByteArray) (s:ByteArray) (W:CW):Ending→CW→Prop:=fun e W'=>Chg (SF2 rs rf) W W'∧Top W'∧match zJC c F s with
 | some fs=>∃ vo S',e=.returned (.tuple #[vo,.bool true])∧Own W' 5 1 vo (zAc (fs.map (·.kind)))∧Newer W.sz vo∧SetAt W' rs S'∧SetAt W' rf (F++fs.map (·.name))
 | none=>∃ vo,e=.returned (.tuple #[vo,.bool false])
theorem zGu (a b c d e:Value):fld prog 48 (.agg #[a,b,c,d,e]) 3=some d:=by kernel_rfl
theorem zKq {args:List Value} {cap:Array Value} {W:CW} {K:Value→CW→Prop} {KP:List PanicEntry→CW→Prop} (h:WCall prog pkL 125 (args++cap.toList) W (zAK K KP)):zBq prog pkL (.func (.func 125) #[] cap) args W K KP :=
 zDd Tryz.func125 (by kernel_rfl) (by simpa using h)
theorem zSl {c:List Shp} (hs:∀ j,j<c.length→zAk c j=false) {S:List Nat} (hS:∀ j,j ∈ S→j<c.length) {i:Nat} {x:Shp} (hx:c[i]?=some x):((S.map (zHF c)).any fun u=>decide (u=x.name))=decide (i ∈ S):=by
 rw [Bool.eq_iff_iff,List.any_eq_true,decide_eq_true_eq]
 constructor
 ·rintro ⟨u,hu,he⟩; obtain ⟨j,hj,rfl⟩:=List.mem_map.1 hu; have hjl:=hS j hj; have hxj:=List.getElem?_eq_getElem hjl; have he:=of_decide_eq_true he; unfold zHF at he; rw [hxj] at he
  by_cases e:j=i
  ·exact e ▸ hj
  ·exact (zRr hs e hjl (List.getElem?_eq_some_iff.1 hx).1 hxj hx he).elim
 ·intro hi; exact ⟨x.name,List.mem_map.2 ⟨i,hi,by unfold zHF; rw [hx]⟩,by simp⟩
theorem zWh {c:List Shp} (hC:Cat c) (hsh:∀ j,j<c.length→zAk c j=false) {bk bs ba bf rs rf r1:Nat} {F:List ByteArray}:∀ (n:Nat) (S:List Nat) (s:ByteArray) (W:CW),Top W→RowEnv W bk bs ba bf rs rf r1 c→SetAt W rs (S.map (zHF c))→SetAt W rf F→S.Nodup→(∀ j,j ∈ S→j<c.length)→c.length≤n+S.length →
  (∀ i0,i0 ∈ S→∀ f l,zBP c f i0=some l→∃ i f' m,zBQ c s=some i∧zBP c f' i=some m∧m.length<l.length)→s.size<1000000 →
  WCall prog pkL 125 [.string s,.pointer (some ⟨bk,0,none⟩),.pointer (some ⟨bs,0,none⟩),.pointer (some ⟨ba,0,none⟩),.pointer (some ⟨bf,0,none⟩)] W (zK1 c rs rf F s W):=by
 intro n
 induction n using Nat.strongRecOn with
 | ind n ih =>
  intro S s W ht R hs hf hnd hSl hlen hinv hsz; refine zVq ?_; rw [zVr]; have qk:∀ W1,Kp W W1→ld prog 75 (.pointer (some ⟨bk,0,none⟩)) W1=some (.map (some r1)):=fun W1 k1=>zAB a75 (a:=⟨bk,0,none⟩) (k1.cell ht R.k); have qs:∀ W1,Kp W W1→ld prog 181 (.pointer (some ⟨bs,0,none⟩)) W1=some (.map (some rs)):=fun W1 k1=>zAB zYJ (a:=⟨bs,0,none⟩) (k1.cell ht R.s); simp only [zDL,zAA,qk W (.refl _)]; generalize hKK:zAE prog Tryz.f125 (zK1 c rs rf F s W)=K
  have hno:∀ (e:Env) W' v,Chg (SF2 rs rf) W W'→Top W'→e 6=v→e 7=.bool false→zJC c F s=none→K .ret e [] W':=by
   intro e W' v k t h6 h7 hr; rw [←hKK,zJi,h6,h7]; unfold zK1; rw [hr]; exact ⟨k,t,v,rfl⟩
  cases hi:zBQ c s with
  | none =>
   obtain ⟨l1,_⟩:=R.sh.none hi; simp only [l1,zBF,zBE,zAA]; have hrow:zJC c F s=none:=by unfold zJC; rw [hi]
   refine zBx (ws:=[.string ⟨#[]⟩,.string ⟨#[]⟩,.slice none 0 0,.int .u8 0,.slice none 0 0]) z48 s48 rfl rfl rfl ht fun W1 k1 t1 z1 hB=>?_; simp only [zAR,zAA]; rw [show (!false)=true from rfl]; simp only [zAn,zKa,zGw,zCy,zEw,qKn,qKr,qKx,qKp,bKn,bKr,bKp,bKx,tKn,tKr,tKx,tKp,zKn,zKr,zKx,zKp]; rw [show ∀ b l,(Env.of (Env.args [Value.string s,.pointer (some ⟨bk,0,none⟩),.pointer (some ⟨bs,0,none⟩),.pointer (some ⟨ba,0,none⟩),.pointer (some ⟨bf,0,none⟩)]) ((26,b)::l)) 26=b from fun _ _=>rfl]; simp only [zAn]; exact hno _ W1 _ (Chg.of_kp k1) t1 rfl rfl hrow
  | some i =>
   obtain ⟨u,x,hx,hu,l1,_⟩:=R.sh.some hi; simp only [l1,zBF,zBE,zAA]; obtain ⟨vf,ab,lb,cb,rfl,hvf⟩:=hu; obtain ⟨af,cf,rfl,_⟩:=id hvf; have hil:=(List.getElem?_eq_some_iff.1 hx).1
   have hname:x.name=s:=by
    obtain ⟨h1,h2,_⟩:=List.findIdx?_eq_some_iff_getElem.1 hi; rw [List.getElem?_eq_getElem h1] at hx; cases hx; exact of_decide_eq_true h2
   refine zBx (ws:=[.string x.name,.string x.super,.slice af x.fields.length cf,.int .u8 x.elem,.slice ab lb cb]) z48 s48 rfl rfl rfl ht fun W1 k1 t1 z1 hB=>?_; simp only [zAR,zAA]; rw [show (!true)=false from rfl]; have hs1:=hs.kp ht k1; have hf1:=hf.kp ht k1; simp only [zAP,qs W1 k1,zAA,hs1.look]; rw [←hname,zSl hsh hSl hx]; have e26:∀ b l,(Env.of (Env.args [Value.string s,.pointer (some ⟨bk,0,none⟩),.pointer (some ⟨bs,0,none⟩),.pointer (some ⟨ba,0,none⟩),.pointer (some ⟨bf,0,none⟩)]) ((26,b)::l)) 26=b:=fun _ _=>rfl; simp only [zKa,qKn,qKr,qKx,qKp,bKn,bKr,bKp,bKx,tKn,tKr,tKx,tKp,zKn,zKr,zKx,zKp]; rw [hname,e26]; have hmm:=SF2.none hs hf; have hmm1:=SF2.none hs1 hf1; have hrsl:=hs1.lt t1; have hrfl:=hf1.lt t1; have hrs0:=hs.lt ht; have hrf0:=hf.lt ht; have q1:∀ W2,Chg (SF2 rs rf) W1 W2→ld prog 9 (.pointer (some ⟨W.sz,0+1,none⟩)) W2=some (.string x.super):=fun W2 k2=>zAB a9 (a:=⟨W.sz,0+1,none⟩) (zCC k2 t1 hmm1 (hB.cell rfl)); have q2:∀ W2,Chg (SF2 rs rf) W1 W2→ld prog 45 (.pointer (some ⟨W.sz,0+2,none⟩)) W2=some (.slice af x.fields.length cf):=fun W2 k2=>zAB a45 (a:=⟨W.sz,0+2,none⟩) (zCC k2 t1 hmm1 (hB.cell rfl))
   refine zAH (fun hm=>?_) (fun hm=>?_)
   ·have hm:=of_decide_eq_true hm; simp only [zGw,zCy,zEw,qKn,qKr,qKx,qKp,bKn,bKr,bKp,bKx,tKn,tKr,tKx,tKp,zKn,zKr,zKx,zKp]; refine hno _ W1 _ (Chg.of_kp k1) t1 rfl rfl ?_; unfold zJC; rw [hi]; simp only
    cases hl:zBP c c.length i with
    | none=>rfl
    | some l =>
     obtain ⟨i',f',m,h1,h2,h3⟩:=hinv i hm _ _ hl; rw [hi] at h1; cases h1; rw [zLZ hl h2] at h3; omega
   ·have hm:=of_decide_eq_false hm; simp only [zGw,qKn,qKr,qKx,qKp,bKn,bKr,bKp,bKx,tKn,tKr,tKx,tKp,zKn,zKr,zKx,zKp]; simp only [eKc,eKn,eKa,Nat.reduceEqDiff,↓reduceIte,gKz,gKs,dKs,and_self]; simp only [qs W1 k1,zAA]; refine hs1.put fun W2 hu2 hs2=>?_; have c2:Chg (SF2 rs rf) W1 W2:=⟨by rw [hu2.sz]; exact Nat.le_refl _,fun j hj hn=>hu2.obj j (fun e=>hn (.inl e))⟩
    have t2:=t1.upd hrsl hu2; have hf2:SetAt W2 rf F:=hf1.congr (hu2.obj rf (Ne.symm R.sf)); have R1:=R.chg ht hs hf (Chg.of_kp k1); have R2:=R1.chg t1 hs1 hf1 c2; have c02:Chg (SF2 rs rf) W W2:=(Chg.of_kp k1).then c2 fun _ _ h=>h
    have hs2:SetAt W2 rs ((S++[i]).map (zHF c)):=by
     rw [List.map_append]; have:zHF c i=s:=by unfold zHF; rw [hx]; exact hname
     simp only [List.map_cons,List.map_nil,this]; exact hs2
    simp only [zNC,zAA,q1 W2 c2,zIi,zG7]; have hlim:x.fields.length≤100:=hC.fields x (List.mem_of_getElem? hx); have hfn:∀ g,g ∈ x.fields→g.name.size<1000:=hC.fname x (List.mem_of_getElem? hx)
    have tail:∀ (W3:CW) (out:Value) (S3:List ByteArray) (hd:List Fld) (e2:Env),Chg (SF2 rs rf) W W3→Chg (SF2 rs rf) W1 W3→Top W3→SetAt W3 rs S3→SetAt W3 rf (F++hd.map (·.name))→Own W3 5 1 out (zAc (hd.map (·.kind)))→Newer W.sz out→hd.length≤60→e2 4=.pointer (some ⟨bf,0,none⟩)→e2 8=.pointer (some ⟨W.sz,0,none⟩)→e2 10=out →
      (zJC c F s=if zBK F (hd++x.fields) && decide ((hd++x.fields).length≤60) then some (hd++x.fields) else none)→zBK F hd=true →
      (zCy none K) .normal e2 [] W3:=by
     intro W3 out S3 hd e2 c3 c13 t3 hs3 hf3 ho3 hn3 hhl h4 h8 h10 hrow hokd; simp only [zCy,qKn,qKr,qKx,qKp,bKn,bKr,bKp,bKx,tKn,tKr,tKx,tKp,zKn,zKr,zKx,zKp,h8,zIJ,zAA,q2 W3 c13,zAT u45]; have hc31:=c3.sz
     refine zRS (e:=Env.of e2 [(50,.int .i64 x.fields.length),(49,.slice af x.fields.length cf)]) ht R hs hf c3 t3 hs3 hf3 hvf hlim hfn ho3 hn3 (by rw [List.length_map]; omega) h4 rfl rfl (fun t ht=>by
      simp only [List.mem_cons,List.not_mem_nil,or_false] at ht
      rcases ht with rfl | rfl | rfl <;> rfl) h10 rfl (fun hb e' W' c' t' h6 h7=>?_) (fun hb e' W' out' c' t' h10' ho' hn' hs' hf'=>?_)
     ·simp only [qKn,qKr,qKx,qKp,bKn,bKr,bKp,bKx,tKn,tKr,tKx,tKp,zKn,zKr,zKx,zKp,zEw]; refine hno e' W' _ c' t' h6 h7 ?_; rw [hrow,zCe,hb]; simp
     ·have hkl:(zAc (hd.map (·.kind)++x.fields.map (·.kind))).length=(hd++x.fields).length*1:=by simp [zAc]
      simp only [qKn,qKr,qKx,qKp,bKn,bKr,bKp,bKx,tKn,tKr,tKx,tKp,zKn,zKr,zKx,zKp,if_true,zEw,h10']; rw [zEK u29 ho' (by omega) hkl]; simp only [zAA,zEI]; have hoka:zBK F (hd++x.fields)=true:=by rw [zCe,hokd,hb]; rfl
      rw [hoka,Bool.true_and] at hrow; rw [←hKK,zJi]; unfold zK1
      by_cases hle:(hd++x.fields).length≤60
      ·rw [hrow,if_pos (decide_eq_true hle)]; refine ⟨c',t',out',S3,?_,by rw [List.map_append]; exact ho',hn',hs',by rw [List.map_append,←List.append_assoc]; exact hf'⟩; simp only [eKc,eKn,eKa,Nat.reduceEqDiff,↓reduceIte,gKz,gKs,dKs,and_self]; rw [decide_eq_true (by omega)]
      ·rw [hrow,if_neg (by simp; simp at hle; omega)]; refine ⟨c',t',out',?_⟩; simp only [eKc,eKn,eKa,Nat.reduceEqDiff,↓reduceIte,gKz,gKs,dKs,and_self]; rw [decide_eq_false (by omega)]
    refine zAH (fun hsup=>?_) (fun hsup=>?_)
    ·have hsup:x.super≠zCR:=by simpa [zCR] using hsup
     obtain hR2sh:=R2.sh; have qk2:ld prog 75 (.pointer (some ⟨bk,0,none⟩)) W2=some (.map (some r1)):=zAB a75 (a:=⟨bk,0,none⟩) R2.k; have qa2:ld prog 161 (.pointer (some ⟨ba,0,none⟩)) W2=some (.func (.func 125) #[] #[.pointer (some ⟨bk,0,none⟩),.pointer (some ⟨bs,0,none⟩),.pointer (some ⟨ba,0,none⟩),.pointer (some ⟨bf,0,none⟩)]):=zAB zYY (a:=⟨ba,0,none⟩) R2.a; simp only [zDL,zAA,qk2,q1 W2 c2,qa2]
     have hup:zRz c i=match zBQ c x.super with
       | some j=>if zAN c j=0 then some j else none
       | none=>none:=by
      unfold zRz; rw [hx]; simp only; unfold zBQ
      cases hj:c.findIdx? fun y=>decide (y.name=x.super) with
      | none=>rfl
      | some j =>
       have hjl:=(List.findIdx?_eq_some_iff_getElem.1 hj).1; simp only [zAN,List.getElem?_eq_getElem hjl]
     have hssz:x.super.size<1000000:=by have:=hC.sup x (List.mem_of_getElem? hx); omega
     have hkey:∀ f m,zBP c f i=some m→∃ j f' m',zRz c i=some j∧zBP c f' j=some m'∧m=i::m':=by
      intro f m h
      rcases zBY hx h with ⟨h1,_⟩ | ⟨_,f1,j,m',_,h2,h3,h4⟩
      ·exact (hsup h1).elim
      ·exact ⟨j,f1,m',h2,h3,h4⟩
     have hij:∀ j,zRz c i=some j→zBQ c x.super=some j:=by
      intro j h; rw [hup] at h
      cases hj:zBQ c x.super with
      | none=>rw [hj] at h; cases h
      | some j' =>
       rw [hj] at h; simp only at h
       split at h
       ·exact h
       ·cases h
     have hnd':(S++[i]).Nodup:=by
      rw [List.nodup_append]; exact ⟨hnd,List.pairwise_singleton _ _,fun a ha b hb=>by rw [List.mem_singleton.1 hb]; exact fun e=>hm (e ▸ ha)⟩
     have hSl':∀ j,j ∈ S++[i]→j<c.length:=fun j hj=>by
      rcases List.mem_append.1 hj with h | h
      ·exact hSl j h
      ·rw [List.mem_singleton.1 h]; exact hil
     have hpg:=zQR hnd' hSl'; rw [List.length_append,List.length_singleton] at hpg
     have hrec:=ih (n-1) (by omega) (S++[i]) x.super W2 t2 R2 hs2 hf2 hnd' hSl' (by rw [List.length_append,List.length_singleton]; omega) (fun i0 h0 f l hl=>by
      have h1:∃ f' m,zBP c f' i=some m∧m.length≤l.length:=by
       rcases List.mem_append.1 h0 with h | h
       ·obtain ⟨i',f',m,h2,h3,h4⟩:=hinv i0 h f l hl; rw [hi] at h2; cases h2; exact ⟨f',m,h3,Nat.le_of_lt h4⟩
       ·rw [List.mem_singleton.1 h] at hl; exact ⟨f,l,hl,Nat.le_refl _⟩
      obtain ⟨f',m,h2,h3⟩:=h1; obtain ⟨j,f2,m',h4,h5,rfl⟩:=hkey f' m h2
      exact ⟨j,f2,m',hij j h4,h5,by simp only [List.length_cons] at h3; omega⟩) hssz
     have hrowI:zRz c i=none→zJC c F s=none:=by
      intro h; unfold zJC; rw [hi]; simp only
      cases hl:zBP c c.length i with
      | none=>rfl
      | some l =>
       obtain ⟨j,_,_,h2,_⟩:=hkey _ _ hl; rw [h] at h2; cases h2
     cases hj:zBQ c x.super with
     | none =>
      obtain ⟨_,l2⟩:=hR2sh.none hj; rw [hj] at hup; simp only at hup; rw [l2]; simp only [zAA]; unfold zWk; rw [zGu]; simp only [zAA,zBW]; rw [show ((0:Int) != 0)=false from rfl]; simp only [zAP]; refine zKq (hrec.mono fun en W5 ⟨c5,t5,hp⟩=>?_); have:zJC c F x.super=none:=by unfold zJC; rw [hj]
      rw [this] at hp; obtain ⟨vo,rfl⟩:=hp; simp only [zAK,zBF,zBE,zAA,zAR]; rw [show (!false)=true from rfl]; simp only [zAn,zCy,zEw,qKn,qKr,qKx,qKp,bKn,bKr,bKp,bKx,tKn,tKr,tKx,tKp,zKn,zKr,zKx,zKp]; exact hno _ W5 _ (c02.then c5 fun _ _ h=>h) t5 rfl rfl (hrowI hup)
     | some j =>
      obtain ⟨u,y,hy,hu,_,l2⟩:=hR2sh.some hj; obtain ⟨vf2,ab2,lb2,cb2,rfl,_⟩:=hu; rw [hj] at hup; simp only at hup; have hel:zAN c j=y.elem:=by unfold zAN; rw [hy]
      rw [l2]; simp only [zAA]; rw [zGu]; simp only [zAA,zBW]
      refine zAH (fun he=>?_) (fun he=>?_)
      ·have he:y.elem≠0:=by simpa using he
       simp only [zCy,zEw,qKn,qKr,qKx,qKp,bKn,bKr,bKp,bKx,tKn,tKr,tKx,tKp,zKn,zKr,zKx,zKp]; exact hno _ W2 _ c02 t2 rfl rfl (hrowI (by rw [hup,if_neg (by rw [hel]; exact he)]))
      ·have he:y.elem=0:=by simpa using he
       have hup:zRz c i=some j:=by rw [hup,if_pos (by rw [hel]; exact he)]
       have hfi:zJT c i=x.fields:=by unfold zJT; rw [hx]
       have hrs:zJC c F s=match zBP c c.length j with
         | some m=>if zBK F (m.reverse.flatMap (zJT c)++x.fields) && decide ((m.reverse.flatMap (zJT c)++x.fields).length≤60) then some (m.reverse.flatMap (zJT c)++x.fields) else none
         | none=>none:=by
        unfold zJC; rw [hi]; simp only
        cases hl:zBP c c.length i with
        | none =>
         cases hm:zBP c c.length j with
         | none=>rfl
         | some m =>
          have:zBP c (c.length+1) i=some (i::m):=by rw [zGr hx hsup,hup]; simp only [hm]; rfl
          rw [zLa this] at hl; cases hl
        | some l =>
         obtain ⟨j',f',m,h2,h3,rfl⟩:=hkey _ _ hl; rw [hup] at h2; cases h2; rw [zLa h3]; simp only [List.reverse_cons,List.flatMap_append,List.flatMap_cons,List.flatMap_nil,List.append_nil,hfi]
       have hrj:zJC c F x.super=match zBP c c.length j with
         | some m=>if zBK F (m.reverse.flatMap (zJT c)) && decide ((m.reverse.flatMap (zJT c)).length≤60) then some (m.reverse.flatMap (zJT c)) else none
         | none=>none:=by
        unfold zJC; rw [hj]
       refine zKq (hrec.mono fun en W5 ⟨c5,t5,hp⟩=>?_); have c05:Chg (SF2 rs rf) W W5:=c02.then c5 fun _ _ h=>h
       cases hrI:zJC c F x.super with
       | none =>
        rw [hrI] at hp; obtain ⟨vo,rfl⟩:=hp; simp only [zAK,zBF,zBE,zAA,zAR]; rw [show (!false)=true from rfl]; simp only [zAn,zCy,zEw,qKn,qKr,qKx,qKp,bKn,bKr,bKp,bKx,tKn,tKr,tKx,tKp,zKn,zKr,zKx,zKp]; refine hno _ W5 _ c05 t5 rfl rfl ?_; rw [hrs]; rw [hrI] at hrj
        cases hm:zBP c c.length j with
        | none=>rfl
        | some m =>
         rw [hm] at hrj; simp only at hrj ⊢
         split at hrj
         ·cases hrj
         ·rename_i hn; rw [if_neg]; intro hh; apply hn; simp only [Bool.and_eq_true,decide_eq_true_eq,zCe,List.length_append] at hh ⊢; exact ⟨hh.1.1,by omega⟩
       | some fs =>
        rw [hrI] at hp; obtain ⟨vo,S',rfl,ho5,hn5,hs5,hf5⟩:=hp; simp only [zAK,zBF,zBE,zAA,zAR]; rw [show (!true)=false from rfl]; simp only [zAP]; rw [hrI] at hrj
        cases hm:zBP c c.length j with
        | none=>rw [hm] at hrj; cases hrj
        | some m =>
         rw [hm] at hrj hrs; simp only at hrj hrs
         split at hrj
         ·rename_i hh
          cases hrj
          simp only [Bool.and_eq_true,decide_eq_true_eq] at hh; have hsz2:=c2.sz; have hsz1:=k1.sz; exact tail W5 vo S' _ _ c05 (c2.then c5 fun _ _ h=>h) t5 hs5 hf5 ho5 (fun b l c e=>by have:=hn5 b l c e; omega) hh.2 rfl rfl rfl hrs hh.1
         ·cases hrj
    ·have hsup:x.super=zCR:=by simpa [zCR] using hsup
     refine tail W2 (.slice none 0 0) _ [] _ c02 c2 t2 hs2 (by simpa using hf2) Own.nil (Newer.nil _ _ _) (by simp) rfl rfl rfl ?_ rfl; unfold zJC; rw [hi]; simp only; rw [zF7 hx hsup]; simp only [List.reverse_cons,List.reverse_nil,List.nil_append,List.flatMap_cons,List.flatMap_nil,List.append_nil]; have:zJT c i=x.fields:=by unfold zJT; rw [hx]
     rw [this]
theorem zYO:zer prog 181=some (.map none):=by kernel_rfl
theorem zYS:siz prog 181=some 1:=by kernel_rfl
theorem zYe:zer prog 161=some .nilFunc:=by kernel_rfl
theorem zYj:siz prog 161=some 1:=by kernel_rfl
theorem s78:siz prog 78=some 2:=by kernel_rfl
theorem a78:agg? prog 78=some true:=by kernel_rfl
theorem z78:zer prog 78=some (.agg #[.map none,.map none]):=by kernel_rfl
theorem zTY {t:TypeId} {z v:Value} (hz:zer prog t=some z) (hs:siz prog t=some 1) (hzl:z.cells.size=1) (h1:zAg v=true) {W:CW} {K:Value→CW→Prop} (ht:Top W)
  (hk:∀ W2,Kp W W2→Top W2→W2.sz=W.sz+1→Blk W2 W.sz t [v]→K (.pointer (some ⟨W.sz,0,none⟩)) W2):wVW (alc prog t W) fun p W1=>wV (sto prog t p v W1) fun W2=>K p W2:=by
 refine zFa hz hs ht fun W1 k1 t1 z1 hB=>?_; refine zAX hs (a:=⟨W.sz,0,none⟩) h1 hB (by simp [hzl]) fun W2 hu hB2=>?_; rw [zH3 (by simp [hzl])] at hB2; exact hk W2 (k1.upd (Nat.le_refl _) hu) (t1.upd (by rw [z1]; exact Nat.lt_succ_self _) hu) (by rw [hu.sz,z1]) hB2
theorem zT0 {t:TypeId} {z:Value} {v:Value→Value} (hz:zer prog t=some z) (hs:siz prog t=some 1) (hzl:z.cells.size=1) {W:CW} (h1:zAg (v (.pointer (some ⟨W.sz,0,none⟩)))=true) {K:Value→CW→Prop} (ht:Top W)
  (hk:∀ W2,Kp W W2→Top W2→W2.sz=W.sz+1→Blk W2 W.sz t [v (.pointer (some ⟨W.sz,0,none⟩))]→K (.pointer (some ⟨W.sz,0,none⟩)) W2):wVW (alc prog t W) fun p W1=>wV (sto prog t p (v p) W1) fun W2=>K p W2:=by
 refine zFa hz hs ht fun W1 k1 t1 z1 hB=>?_; refine zAX hs (a:=⟨W.sz,0,none⟩) h1 hB (by simp [hzl]) fun W2 hu hB2=>?_; rw [zH3 (by simp [hzl])] at hB2; exact hk W2 (k1.upd (Nat.le_refl _) hu) (t1.upd (by rw [z1]; exact Nat.lt_succ_self _) hu) (by rw [hu.sz,z1]) hB2
def zTW (c:List Shp) (s:ByteArray) (W:CW):Ending→CW→Prop:=fun e W'=>Kp W W'∧Top W'∧match zJC c [] s with
 | some fs=>∃ vo,e=.returned (.tuple #[vo,.bool true])∧Own W' 5 1 vo (zAc (fs.map (·.kind)))∧Newer W.sz vo
 | none=>∃ vo,e=.returned (.tuple #[vo,.bool false])
theorem zUJ {c:List Shp} (hC:Cat c) (hsh:∀ j,j<c.length→zAk c j=false) {r1:Nat} {v2:Value} {s:ByteArray} {W:CW} (ht:Top W) (hr:ShM W r1 c) (hv2:zAg v2=true) (hsz:s.size<1000000) :
  WCall prog pkL 102 [.agg #[.map (some r1),v2],.string s] W (zTW c s W):=by
 refine zWG ?_; rw [zWH]; refine zDC s78 ht fun W0 k0 t0 z0 hB0=>?_; have hB0:Blk W0 W.sz 78 [.map (some r1),v2]:=hB0; refine zMX (enc:=Value.string) t0 fun W1 k1 t1 z1 hm1=>?_; refine zTY zYO zYS rfl rfl t1 fun W3 k3 t3 z3 hB3=>?_; refine zMX (enc:=Value.string) t3 fun W4 k4 t4 z4 hm4=>?_; refine zTY zYO zYS rfl rfl t4 fun W6 k6 t6 z6 hB6=>?_; simp only [zAA]; refine zT0 (v:=fun p=>.func (.func 125) #[] #[.pointer (some ⟨W.sz,0,none⟩),.pointer (some ⟨W1.sz,0,none⟩),p,.pointer (some ⟨W4.sz,0,none⟩)]) zYe zYj rfl rfl t6 fun W8 k8 t8 z8 hB8=>?_; rw [zAB zYY (a:=⟨W6.sz,0,none⟩) (hB8.cell rfl)]; simp only [zAA]; have k08:Kp W0 W8:=(((k1.trans k3).trans k4).trans k6).trans k8; have kk:=k0.trans k08; have hs0:SetAt W8 W0.sz ([].map (zHF c)):=⟨[],(hm1.kp t1 (((k3.trans k4).trans k6).trans k8)),fun s=>rfl⟩
 have hf0:SetAt W8 W3.sz []:=⟨[],hm4.kp t4 (k6.trans k8),fun s=>rfl⟩
 have hr1:=(hr.chg (Chg.of_kp (S:=fun _=>False) kk) ht (fun _ h=>h.elim) (fun h=>h))
 have hr1l:r1<W.sz:=by
  obtain ⟨m,h1,_⟩:=hr; exact h1.lt ht
 have R:RowEnv W8 W.sz W1.sz W6.sz W4.sz W0.sz W3.sz r1 c:=⟨k08.cell t0 (hB0.cell rfl),(((k4.trans k6).trans k8)).cell t3 (hB3.cell rfl),k8.cell t6 (hB6.cell rfl),hB8.cell rfl,hr1,by omega,by omega,by omega⟩
 refine zKq ((zWh hC hsh c.length [] s W8 t8 R hs0 hf0 List.nodup_nil (fun j h=>by cases h) (by simp) (fun _ h=>by cases h) hsz).mono fun en W9 ⟨c9,t9,hp⟩=>?_); have kW:Kp W W9:=Chg.kp kk c9 fun j hj=>by rcases hj with rfl | rfl <;> omega
 cases hrr:zJC c [] s with
 | none =>
  rw [hrr] at hp; obtain ⟨vo,rfl⟩:=hp; simp only [zAK,zBF,zBE,zAA]; rw [zJk]; refine ⟨kW,t9,?_⟩; rw [hrr]; exact ⟨vo,rfl⟩
 | some fs =>
  rw [hrr] at hp; obtain ⟨vo,S',rfl,ho,hn,_,_⟩:=hp; simp only [zAK,zBF,zBE,zAA]; rw [zJk]; refine ⟨kW,t9,?_⟩; rw [hrr]; exact ⟨vo,rfl,ho,fun b l c e=>Nat.le_trans kk.sz (hn b l c e)⟩
theorem zSQ {c:List Shp} {s:ByteArray} {i:Nat} (hi:zBQ c s=some i):zJC c [] s=if zHD c i then none else some (zCf c i):=by
 unfold zJC zHD; rw [hi]; simp only
 cases hl:zBP c c.length i with
 | none=>rfl
 | some l =>
  have hf:zCf c i=l.reverse.flatMap (zJT c):=by unfold zCf; rw [hl]
  simp only; rw [←hf,zPI]
  by_cases h60:(zCf c i).length≤60
  ·rw [decide_eq_true h60,decide_eq_false (by omega)]
   cases zCW (zCf c i).length (zD4 (zCf c i)) <;> rfl
  ·rw [decide_eq_false h60,decide_eq_true (by omega)]; simp
end Go.Ce
namespace Go.Ce
open Go Go.Proofs Go.Proofs.Tryz
theorem zNM:Tryz.f47.results.toList=[.cell 2 78,.tmp 3]:=by kernel_rfl
theorem zDg {P:Program} {fn:Func} {Q:Ending→CW→Prop} {e:Env} {W:CW} {s t:Tmp} {ty:TypeId} {p:Addr} {v:Value} (hr:fn.results.toList=[.cell s ty,.tmp t]) (he:e s=.pointer (some p)) (hv:ld P ty (.pointer (some p)) W=some v) (hq:Q (.returned (.tuple #[v,e t])) W):zAE P fn Q .ret e [] W:=by
 have hv:zHY P ty p W=some v:=hv; simp only [zAE,zBB,hr,zFu,zU1,he,hv]; exact hq
theorem zLH {c:List Shp} {i:Nat} (hs:∀ j,j<i+1→zAk c j=false) {x:Shp} (hx:c[i]?=some x) (s:ByteArray):zBQ (c.take (i+1)) s=if s=x.name then some i else zBQ (c.take i) s:=by
 unfold zBQ; have hil:=(List.getElem?_eq_some_iff.1 hx).1; rw [List.take_add_one,hx,Option.toList_some,List.findIdx?_append]
 by_cases e:s=x.name
 ·rw [if_pos e]
  have:(c.take i).findIdx? (fun y=>decide (y.name=s))=none:=by
   rw [List.findIdx?_eq_none_iff]; intro y hy; obtain ⟨j,hj,rfl⟩:=List.mem_take_iff_getElem.1 hy; have:=zRr hs (by omega:j≠i) (by omega) (by omega) (List.getElem?_eq_getElem (by omega)) hx; rw [e]
   simpa using this
  rw [this]; simp [List.findIdx?_cons,e,List.length_take]; omega
 ·rw [if_neg e]; have:([x].findIdx? fun y=>decide (y.name=s))=none:=by simp [List.findIdx?_cons]; exact fun h=>e h.symm
  rw [this]
  cases (c.take i).findIdx? (fun y=>decide (y.name=s)) <;> rfl
theorem zE2 {W W':CW} {r b k:Nat} {v:Value} {m:List (ByteArray × Value)} (hu:Upd r W W') (hm:MapAt Value.string W r m) (hc:W.cell b k=some v):W'.cell b k=some v:=by
 obtain ⟨es,clk,h1,_⟩:=hm
 have:b≠r:=by
  rintro rfl; unfold CW.cell at hc; rw [h1] at hc; cases hc
 rw [hu.cell this]; exact hc
theorem ShM.put {W:CW} {r:Nat} {c:List Shp} {i:Nat} {x:Shp} {u:Value} (h:ShM W r (c.take i)) (hs:∀ j,j<i+1→zAk c j=false) (hx:c[i]?=Option.some x) (hu:AShp W u x) {K:CW→Prop} (hK:∀ W1,Upd r W W1→(∀ b k v,W.cell b k=Option.some v→W1.cell b k=Option.some v)→ShM W1 r (c.take (i+1))→K W1):wV (mup prog 75 (.map (Option.some r)) (.string x.name) u W) K:=by
 obtain ⟨m,h1,h2⟩:=h; refine zPs u75 u9 rfl zCx h1 fun W1 hup hm=>?_; have hcell:∀ b k v,W.cell b k=Option.some v→W1.cell b k=Option.some v:=fun b k v hc=>zE2 hup h1 hc; have hA:∀ {u x},AShp W u x→AShp W1 u x:=fun {u x} ⟨vf,ab,lb,cb,h3,h4⟩=>⟨vf,ab,lb,cb,h3,h4.imp fun _ _ _ hr=>⟨hcell _ _ _ hr.name,hcell _ _ _ hr.kind,hr.lo,hr.hi⟩⟩
 refine hK W1 hup hcell ⟨_,hm,fun s=>?_⟩; have hil:=(List.getElem?_eq_some_iff.1 hx).1; rw [zLH hs hx,zDr]
 by_cases e:s=x.name
 ·rw [if_pos e,if_pos e]; exact ⟨u,x,rfl,by rw [List.getElem?_take,if_pos (by omega)]; exact hx,hA hu⟩
 ·rw [if_neg e,if_neg e]; have:=h2 s
  cases hi:zBQ (c.take i) s with
  | none=>rw [hi] at this; exact this
  | some j =>
   rw [hi] at this; obtain ⟨u',x',h3,h4,h5⟩:=this; refine ⟨u',x',h3,?_,hA h5⟩; rw [List.getElem?_take] at h4 ⊢
   split at h4
   ·rw [if_pos (by omega)]; exact h4
   ·cases h4
theorem zYE (a b:Nat):bld prog 78 [(0,.map (some a)),(1,.map (some b))]=some (.agg [.map (some a),.map (some b)].toArray):=by kernel_rfl
theorem zMz {W:CW} {b a1 a2:Nat} (h:Blk W b 78 [.map (some a1),.map (some a2)]):ld prog 78 (.pointer (some ⟨b,0,none⟩)) W=some (.agg [.map (some a1),.map (some a2)].toArray):=zA8 (vs:=[.map (some a1),.map (some a2)]) a78 s78 rfl (by omega) h.cells
def RwM (W:CW) (r:Nat) (c:List Shp) (n:Nat):Prop:=∃ m:List (ByteArray × Value),MapAt Value.string W r m∧∀ s,match zBQ (c.take n) s with
 | some i=>∃ v,zKD m s=some v∧IsSl 1 (RKd W) v (zAj c i)
 | none=>zKD m s=none
theorem u76:prog.underlying 76=some (.map 9 29):=by kernel_rfl
theorem z29:zer prog 29=some (.slice none 0 0):=by kernel_rfl
theorem RwM.put {W:CW} {r:Nat} {c:List Shp} {i:Nat} {x:Shp} {u:Value} (h:RwM W r c i) (hs:∀ j,j<c.length→zAk c j=false) (hx:c[i]?=some x) (hu:IsSl 1 (RKd W) u (zAj c i)) {K:CW→Prop} (hK:∀ W1,Upd r W W1→(∀ b k v,W.cell b k=some v→W1.cell b k=some v)→RwM W1 r c (i+1)→K W1):wV (mup prog 76 (.map (some r)) (.string x.name) u W) K:=by
 obtain ⟨m,h1,h2⟩:=h; refine zPs u76 u9 rfl zCx h1 fun W1 hup hm=>?_; have hcell:∀ b k v,W.cell b k=some v→W1.cell b k=some v:=fun b k v hc=>zE2 hup h1 hc; have hil:=(List.getElem?_eq_some_iff.1 hx).1; refine hK W1 hup hcell ⟨_,hm,fun s=>?_⟩; rw [zLH (fun j hj=>hs j (by omega)) hx,zDr]
 by_cases e:s=x.name
 ·rw [if_pos e,if_pos e]; exact ⟨u,rfl,hu.imp fun _ _ _ hr=>hcell _ _ _ hr⟩
 ·rw [if_neg e,if_neg e]; have:=h2 s
  cases hi:zBQ (c.take i) s with
  | none=>rw [hi] at this; exact this
  | some j =>
   rw [hi] at this; obtain ⟨v,h3,h4⟩:=this; exact ⟨v,h3,h4.imp fun _ _ _ hr=>hcell _ _ _ hr⟩
structure CatAt (W:CW) (r1 r2:Nat) (c:List Shp):Prop where
 sh:ShM W r1 c
 rw:RwM W r2 c c.length
def zI2 (r1 r2:Nat):Value:=.agg #[.map (some r1),.map (some r2)]
def zMT (c:List Shp) (W:CW):Ending→CW→Prop:=fun e W'=>Kp W W'∧Top W'∧∃ r1 r2,e=.returned (.tuple #[zI2 r1 r2,.bool (zA9 c)])∧W.sz≤r1∧W.sz≤r2∧(zA9 c=true→CatAt W' r1 r2 c)
structure KnIn (W0 W:CW) (b2 b4 r1 r2:Nat):Prop where
 kp:Kp W0 W
 top:Top W
 b2:Blk W b2 78 [.map none,.map none]
 b4:Blk W b4 78 [.map (some r1),.map (some r2)]
theorem KnIn.kp' {W0 W W':CW} {b2 b4 r1 r2:Nat} (I:KnIn W0 W b2 b4 r1 r2) (k:Kp W W') (t:Top W'):KnIn W0 W' b2 b4 r1 r2:=⟨I.kp.trans k,t,I.b2.ext I.top k,I.b4.ext I.top k⟩
theorem zAr {W:CW} {b r:Nat} {el:TypeId} {vs:List Value} {m:List (ByteArray × Value)} (h:Blk W b el vs) (hm:MapAt Value.string W r m):b≠r:=by
 rintro rfl; obtain ⟨es,clk,h1,_⟩:=hm; obtain ⟨c,n,z,h2,_⟩:=h; rw [h1] at h2; cases h2
theorem Blk.cell_inv {W:CW} {b k:Nat} {el:TypeId} {vs:List Value} {v:Value} (h:Blk W b el vs) (hc:W.cell b k=some v):vs[k]?=some v:=by
 obtain ⟨c,n,z,h1,h2,h3⟩:=h; unfold CW.cell at hc; rw [h1] at hc; simp only at hc
 split at hc
 ·rename_i hk; have hk:k<vs.length:=by omega
  have:=h3 k _ (List.getElem?_eq_getElem hk); rw [List.getElem?_eq_getElem hk,←hc,this]
 ·cases hc
theorem zHd {v0:Value} {c:List Shp} {W:CW} (ht:Top W) (hc:IsSl 5 (RShp W) v0 c) (hC:Cat c):WCall prog pkL 47 [v0] W (zMT c W):=by
 refine zXt ?_; rw [zXu]; refine zFa z78 s78 ht fun W0 k0 t0 z0 hB2=>?_; have hB2:Blk W0 W.sz 78 [.map none,.map none]:=hB2; refine zMX (enc:=Value.string) t0 fun W1 k1 t1 z1 hm1=>?_; refine zMX (enc:=Value.string) t1 fun W2 k2 t2 z2 hm2=>?_; rw [zYE]; simp only [zAA]; refine zBx z78 s78 rfl rfl rfl t2 fun W4 k4 t4 z4 hB4=>?_; obtain ⟨a,cap,rfl,_⟩:=id hc; simp only [zAT u22,zAA,zBO]; have hlen:=hC.len; have kk:Kp W W4:=((k0.trans k1).trans k2).trans k4; have I4:KnIn W W4 W.sz W2.sz W0.sz W1.sz:=⟨kk,t4,hB2.ext t0 ((k1.trans k2).trans k4),hB4⟩
 have hm1':=hm1.kp t1 (k2.trans k4); have hm2':=hm2.kp t2 k4; have r1W:W.sz≤W0.sz:=k0.sz; have r2W:W.sz≤W1.sz:=Nat.le_trans r1W k1.sz; generalize hr1:W0.sz=r1 at I4 hm1' hm1 r1W; generalize hr2:W1.sz=r2 at I4 hm2' hm2 r2W; have r12:r1≠r2:=by omega
 generalize W2.sz=b4 at I4; generalize hb2:W.sz=b2 at I4; generalize hKK:zAE prog Tryz.f47 (zMT c W)=K
 have hfin:∀ W1 (ok:Bool),KnIn W W1 b2 b4 r1 r2→ok=zA9 c→(zA9 c=true→CatAt W1 r1 r2 c)→∀ {K':CW→Prop},(∀ W2,(∀ e,e 2=.pointer (some ⟨b2,0,none⟩)→e 3=.bool ok→K .ret e [] W2)→K' W2) →
   wV (sto prog 78 (.pointer (some ⟨b2,0,none⟩)) (.agg [.map (some r1),.map (some r2)].toArray) W1) K':=by
  intro W1 ok I hok hcat K' hK'; refine zB6 s78 (a:=⟨b2,0,none⟩) rfl rfl I.b2 (by simp) fun W2 hu hB=>hK' W2 fun e h2 h3=>?_; have hu:Upd b2 W1 W2:=hu; rw [←hKK]; have hB:Blk W2 b2 78 [.map (some r1),.map (some r2)]:=hB; refine zDg zNM h2 (zMz hB) ?_; have hb2l:=I.b2.lt I.top; refine ⟨I.kp.upd (by omega) hu,I.top.upd hb2l hu,r1,r2,by rw [h3,hok]; rfl,by omega,by omega,fun hc=>?_⟩; obtain ⟨⟨m,g1,g2⟩,⟨m',g3,g4⟩⟩:=hcat hc; have hn1:=zAr I.b2 g1; have hn2:=zAr I.b2 g3
  have hcell:∀ b k v,v≠.map none→W1.cell b k=some v→W2.cell b k=some v:=fun b k v hv h=>by
   rw [hu.cell]
   ·exact h
   ·rintro rfl; have h2:=I.b2.cell_inv h
    match k,h2 with
    | 0,h2=>cases h2; exact hv rfl
    | 1,h2=>cases h2; exact hv rfl
  refine ⟨⟨m,g1.congr (hu.obj r1 (Ne.symm hn1)),fun s=>?_⟩,⟨m',g3.congr (hu.obj r2 (Ne.symm hn2)),fun s=>?_⟩⟩
  ·have:=g2 s
   cases hi:zBQ c s with
   | none=>rw [hi] at this; exact this
   | some i =>
    rw [hi] at this; obtain ⟨u,x,h5,h6,vf,ab,lb,cb,h7,h8⟩:=this; exact ⟨u,x,h5,h6,vf,ab,lb,cb,h7,h8.imp fun _ _ _ hr=>⟨hcell _ _ _ (by intro h; cases h) hr.name,hcell _ _ _ (by intro h; cases h) hr.kind,hr.lo,hr.hi⟩⟩
  ·have:=g4 s
   cases hi:zBQ (c.take c.length) s with
   | none=>rw [hi] at this; exact this
   | some i =>
    rw [hi] at this; obtain ⟨v,h5,h6⟩:=this; exact ⟨v,h5,h6.imp fun _ _ _ hr=>hcell _ _ _ (by intro h; cases h) hr⟩
 refine zAH (fun hg=>?_) (fun hg=>?_)
 ·rw [zMz I4.b4]; simp only [zAA]
  have hbad:zA9 c=false:=by
   have:=of_decide_eq_true hg; unfold zA9; rw [decide_eq_false (by omega)]; rfl
  exact hfin W4 false I4 hbad.symm (fun h=>by rw [hbad] at h; cases h) fun W5 hr=>hr _ rfl rfl
 ·have hg:=of_decide_eq_false hg
  have hsp:zA9 c=(!zCW c.length (zAk c) && !zCW c.length (zHD c)):=by
   unfold zA9; rw [decide_eq_true (by omega)]; rfl
  have hA0:(∀ j,j<0→zAk c j=false):=fun j h=>by omega
  refine zCX (fun i e ds W'=>ds=[]∧KnIn W W' b2 b4 r1 r2∧e 0=.slice a c.length cap∧e 19=.slice a c.length cap∧e 20=.int .i64 c.length∧e 21=.int .i64 i∧e 2=.pointer (some ⟨b2,0,none⟩)∧e 4=.pointer (some ⟨b4,0,none⟩)∧ShM W' r1 (c.take i)∧MapAt Value.string W' r2 []∧∀ j,j<i→zAk c j=false) c.length
   ⟨rfl,I4,rfl,rfl,rfl,rfl,rfl,rfl,⟨[],hm1',fun s=>rfl⟩,hm2',hA0⟩ ?_
  rintro i e ds W' hi ⟨rfl,I',h0,h19,h20,h21,h2,h4,hsm,hrm,hpre⟩; rw [zVf,h19,h20,h21]; simp only [zAZ,zAA]
  refine zGZ (fun hlt=>?_) (fun hge=>?_)
  ·obtain ⟨x,hx⟩:∃ x,c[i]?=some x:=⟨_,List.getElem?_eq_getElem hlt⟩
   have hmem:=List.mem_of_getElem? hx; have hcW:IsSl 5 (RShp W') (.slice a c.length cap) c:=hc.imp fun _ _ _ hr=>hr.kp ht I'.kp; obtain ⟨a',cap',ha,hcell⟩:=hcW
   cases ha
   obtain ⟨p,rfl,hr⟩:=hcell i _ hx; obtain ⟨vf,ab,lb,cb,hld,hfs⟩:=hr.ld; obtain ⟨af,capf,rfl,_⟩:=id hfs; rw [zAb u22 s48 hlt]; simp only [zAA,hld]; refine zBx z48 s48 rfl rfl rfl I'.top fun W6 k6 t6 z6 hB6=>?_; have I6:=I'.kp' k6 t6; have q0:∀ W7,Kp W6 W7→ld prog 9 (.pointer (some ⟨W'.sz,0,none⟩)) W7=some (.string x.name):=fun W7 k7=>zAB a9 (a:=⟨W'.sz,0,none⟩) (k7.cell t6 (hB6.cell rfl)); have q1:∀ W7,Kp W6 W7→ld prog 9 (.pointer (some ⟨W'.sz,0+1,none⟩)) W7=some (.string x.super):=fun W7 k7=>zAB a9 (a:=⟨W'.sz,1,none⟩) (k7.cell t6 (hB6.cell rfl)); have q2:∀ W7,Kp W6 W7→ld prog 45 (.pointer (some ⟨W'.sz,0+2,none⟩)) W7=some (.slice af x.fields.length capf):=fun W7 k7=>zAB a45 (a:=⟨W'.sz,2,none⟩) (k7.cell t6 (hB6.cell rfl)); have q3:∀ W7,Kp W6 W7→ld prog 5 (.pointer (some ⟨W'.sz,0+3,none⟩)) W7=some (.int .u8 x.elem):=fun W7 k7=>zAB a5 (a:=⟨W'.sz,3,none⟩) (k7.cell t6 (hB6.cell rfl)); have hsb:zAk c i=((!zDh x.name || zD0 c x i) || ((decide (x.elem≠0) && (!zFM x.elem || decide (x.super≠zCR) || decide (0<x.fields.length))) || decide (20<x.fields.length))):=by unfold zAk; rw [hx]
   have leaf:∀ (W7:CW) (b:Bool) (e1:Env),Kp W6 W7→Top W7→Agree [0,2,4,19,20,21] e e1→e1 6=.pointer (some ⟨W'.sz,0,none⟩)→e1 73=.bool b→b=zAk c i →
     (zEv none (zJQ (fun i e ds W'=>ds=[]∧KnIn W W' b2 b4 r1 r2∧e 0=.slice (some p) c.length cap∧e 19=.slice (some p) c.length cap∧e 20=.int .i64 c.length∧e 21=.int .i64 i∧e 2=.pointer (some ⟨b2,0,none⟩)∧e 4=.pointer (some ⟨b4,0,none⟩)∧ShM W' r1 (c.take i)∧MapAt Value.string W' r2 []∧∀ j,j<i→zAk c j=false) i c.length (zBm 0 (zLp none K)))) .normal e1 [] W7:=by
    intro W7 b e1 k7 t7 hA g6 g73 hb; have I7:=I6.kp' k7 t7; have g2:=(hA 2 (by decide)).trans h2; have g4:=(hA 4 (by decide)).trans h4; simp only [zEv,qKn,qKr,qKx,qKp,bKn,bKr,bKp,bKx,tKn,tKr,tKx,tKp,zKn,zKr,zKx,zKp,g73]
    refine zAH (fun hbb=>?_) (fun hbb=>?_)
    ·rw [g2,g4,zMz I7.b4]; simp only [zAA]; have hbad:zA9 c=false:=by rw [hsp,zBk hlt (by rw [←hb,hbb])]; rfl
     refine hfin W7 false I7 hbad.symm (fun h=>by rw [hbad] at h; cases h) fun W8 hr=>?_; simp only [zIT,zLo,qKn,qKr,qKx,qKp,bKn,bKr,bKp,bKx,tKn,tKr,tKx,tKp,zKn,zKr,zKx,zKp,zLp]; exact hr _ g2 rfl
    ·have hgood:zAk c i=false:=by rw [←hb,hbb]
     simp only [zIT,qKn,qKr,qKx,qKp,bKn,bKr,bKp,bKx,tKn,tKr,tKx,tKp,zKn,zKr,zKx,zKp,g4,g6,zDL,zGv,zAA]; rw [zAB a75 (a:=⟨b4,0,none⟩) (I7.b4.cell rfl),q0 W7 k7,zA8 (vs:=[.string x.name,.string x.super,.slice af x.fields.length capf,.int .u8 x.elem,.slice ab lb cb]) a48 s48 rfl (by omega) (hB6.ext t6 k7).cells]; simp only [zAA]; have k67:=k6.trans k7; have hsm7:=hsm.kp I'.top k67; refine hsm7.put (zE8 hpre hgood) hx ⟨_,_,_,_,rfl,hfs.imp fun _ _ _ hr=>hr.kp I'.top k67⟩ fun W8 hu hcell hsm8=>?_; obtain ⟨m7,g7,_⟩:=hsm7; have hr1l:=g7.lt I7.top; have t8:=I7.top.upd hr1l hu; have hn2:=zAr I7.b2 g7; have hn4:=zAr I7.b4 g7; have I8:KnIn W W8 b2 b4 r1 r2:=⟨I7.kp.upd r1W hu,t8,I7.b2.congr (hu.obj _ hn2),I7.b4.congr (hu.obj _ hn4)⟩
     simp only [zLo,qKn,qKr,qKx,qKp,bKn,bKr,bKp,bKx,tKn,tKr,tKx,tKp,zKn,zKr,zKx,zKp]; simp only [eKc,eKn,eKa,Nat.reduceEqDiff,↓reduceIte,gKz,gKs,dKs,and_self,(hA 21 (by decide)).trans h21,zAW,zAA,qKn,qKr,qKx,qKp,bKn,bKr,bKp,bKx,tKn,tKr,tKx,tKp,zKn,zKr,zKx,zKp]; refine ⟨hlt,trivial,I8,(hA 0 (by decide)).trans h0,(hA 19 (by decide)).trans h19,(hA 20 (by decide)).trans h20,by rw [zCT (by omega)],g2,g4,hsm8,((hrm.kp I'.top k67).congr (hu.obj _ (Ne.symm r12))),zE8 hpre hgood⟩
   have hnp:∀ b:Bool,b=(decide (x.elem=0) || (zFM x.elem && (decide (x.super=zCR) && decide (x.fields.length=0))))→zAk c i=((!zDh x.name || zD0 c x i) || (!b || decide (20<x.fields.length))):=by
    intro b hb; rw [hsb,hb]; congr 2
    by_cases e1:x.elem=0 <;> by_cases e2:x.super=zCR <;> by_cases e3:x.fields.length=0 <;> cases zFM x.elem <;> simp [e1,e2,e3] <;> omega
   have head:∀ (b:Bool) (e1:Env),Agree [0,2,4,19,20,21] e e1→e1 6=.pointer (some ⟨W'.sz,0,none⟩)→e1 5=.int .i64 i→e1 7=.bool b→b=(decide (x.elem=0) || (zFM x.elem && (decide (x.super=zCR) && decide (x.fields.length=0)))) →
     (zFm none (zJQ (fun i e ds W'=>ds=[]∧KnIn W W' b2 b4 r1 r2∧e 0=.slice (some p) c.length cap∧e 19=.slice (some p) c.length cap∧e 20=.int .i64 c.length∧e 21=.int .i64 i∧e 2=.pointer (some ⟨b2,0,none⟩)∧e 4=.pointer (some ⟨b4,0,none⟩)∧ShM W' r1 (c.take i)∧MapAt Value.string W' r2 []∧∀ j,j<i→zAk c j=false) i c.length (zBm 0 (zLp none K)))) .normal e1 [] W6:=by
    intro b e1 hA g6 g5 g7 hb; have hsb:=hnp b hb; have g0:=(hA 0 (by decide)).trans h0; simp only [zFm,qKn,qKr,qKx,qKp,bKn,bKr,bKp,bKx,tKn,tKr,tKx,tKp,zKn,zKr,zKx,zKp,g0,g5,g6,g7,zGv,zIJ,zAA,q0 W6 (.refl _)]; refine zMW (zFh t6 (by have:=hC.name x hmem; omega)) fun W7 k7 t7=>?_; simp only [zAR,zAA,zBO]
    refine zAH (fun hs=>?_) (fun hs=>?_)
    ·exact ⟨by simp only [q0 W6 (.refl _),and_self],trivial,leaf W7 true _ k7 t7 (hA.trans (.put rfl)) g6 rfl (by rw [hsb,hs]; rfl)⟩
    ·have tl:∀ e2:Env,True:=fun _=>trivial; refine zAH (fun h=>?g1) (fun h=>?g2)
     case' g1 =>
      obtain ⟨j,rfl⟩:∃ j,i=j+1:=⟨i-1,by have:=of_decide_eq_true h; omega⟩
      have hjl:j<c.length:=by omega
      have hxp:=List.getElem?_eq_getElem hjl; obtain ⟨p',hp',hrp⟩:=hcell j _ hxp
      cases hp'
      have es:((j+1:Nat):Int)-1=(j:Nat):=by omega
      have hpb:zD0 c x (j+1)=!bLt (sb c[j].name) (sb x.name):=by unfold zD0; simp only [hxp]
      have q4:ld prog 9 (.pointer (some ⟨p.block,p.off+j*5,none⟩)) W7=some (.string c[j].name):=zAB a9 (a:=⟨p.block,p.off+j*5,none⟩) (k7.cell t6 (k6.cell I'.top hrp.name)); simp only [zCD,zAA,es]; rw [zBU (by omega) (by omega),zAb u22 s48 hjl]; simp only [zAA,zGv,q0 W7 k7,q4,zMG]; refine zAH (fun hq=>?h1) (fun hq=>?h2)
      case h1=>exact ⟨by simp only [q0 W6 (.refl _),and_self],trivial,leaf W7 true _ k7 t7 (hA.trans (.put rfl)) g6 rfl (by rw [hsb,hpb,hq]; simp)⟩
      have hpf:=hpb.trans hq
     case' g2 =>
      have hpf:zD0 c x i=false:=by
       cases i with
       | zero=>rfl
       | succ i=>have:=of_decide_eq_false h; omega
     all_goals
      rw [hs,hpf,Bool.or_self,Bool.false_or] at hsb
      refine zAH (fun h1=>?_) (fun h1=>?_)
      ·exact ⟨by simp only [q0 W6 (.refl _),and_self],trivial,leaf W7 true _ k7 t7 (hA.trans (.put rfl)) g6 rfl (by rw [hsb,h1]; rfl)⟩
      ·simp only [q2 W7 k7,zAT u45,zAA,zBO]; refine ⟨by simp only [q0 W6 (.refl _),and_self],trivial,leaf W7 _ _ k7 t7 (hA.trans (.put rfl)) g6 rfl ?_⟩; rw [hsb,h1,Bool.false_or]; exact decide_eq_decide.2 (by omega)
   simp only [zNB,zAA,q3 W6 (.refl _),zAz]
   refine zAH (fun he=>?_) (fun he=>?_)
   ·have he:x.elem=0:=by simpa using he
    exact head true _ (.put rfl) rfl rfl rfl (by rw [decide_eq_true he]; rfl)
   ·have he:¬x.elem=0:=by simpa using he
    refine zB2 (zLc _ _) ?_
    refine zAH (fun hk=>?_) (fun hk=>?_)
    ·have hk:zFM x.elem=true:=hk; simp only [zNC,zAA,q1 W6 (.refl _),zMH,zG7]
     refine zAH (fun hsu=>?_) (fun hsu=>?_)
     ·have hsu:decide (x.super=zCR)=true:=hsu; simp only [zIJ,zAA,q2 W6 (.refl _),zAT u45,zAz]; refine head ((x.fields.length:Int) == 0) _ (.put rfl) rfl rfl rfl ?_; rw [decide_eq_false he,hk,hsu,Bool.false_or,Bool.true_and,Bool.true_and]
      cases x.fields <;> simp
      omega
     ·have hsu:decide (x.super=zCR)=false:=hsu; exact head false _ (.put rfl) rfl rfl rfl (by rw [decide_eq_false he,hsu]; simp)
    ·have hk:zFM x.elem=false:=hk; exact head false _ (.put rfl) rfl rfl rfl (by rw [decide_eq_false he,hk]; rfl)
  ·have htk:c.take i=c:=List.take_of_length_le (by omega); rw [htk] at hsm; have hS:∀ j,j<c.length→zAk c j=false:=fun j hj=>hpre j (by omega); have hSa:zCW c.length (zAk c)=false:=zCJ hS; rw [hSa] at hsp; simp only [qKn,qKr,qKx,qKp,bKn,bKr,bKp,bKx,tKn,tKr,tKx,tKp,zKn,zKr,zKx,zKp,if_true,zLp,h0]; simp only [eKc,eKn,eKa,Nat.reduceEqDiff,↓reduceIte,gKz,gKs,dKs,and_self,h0]; simp only [zAT u22,zAA]
   refine zCX (fun i e ds W'=>ds=[]∧KnIn W W' b2 b4 r1 r2∧e 81=.slice a c.length cap∧e 82=.int .i64 c.length∧e 83=.int .i64 i∧e 2=.pointer (some ⟨b2,0,none⟩)∧e 4=.pointer (some ⟨b4,0,none⟩)∧ShM W' r1 c∧RwM W' r2 c i∧∀ j,j<i→zHD c j=false) c.length
    ⟨rfl,I',rfl,rfl,rfl,h2,h4,hsm,⟨[],hrm,fun s=>by simp [zBQ,zKD]⟩,by omega⟩ ?_
   rintro i2 e2 ds2 W2 hi2 ⟨rfl,I2,g81,g82,g83,g2,g4,hsm2,hrw2,hpre2⟩; rw [zVe,g81,g82,g83]; simp only [zAZ,zAA]
   refine zGZ (fun hlt=>?_) (fun hge2=>?_)
   ·obtain ⟨x,hx⟩:∃ x,c[i2]?=some x:=⟨_,List.getElem?_eq_getElem hlt⟩
    have hmem:=List.mem_of_getElem? hx; have hcW:IsSl 5 (RShp W2) (.slice a c.length cap) c:=hc.imp fun _ _ _ hr=>hr.kp ht I2.kp; obtain ⟨a',cap',ha,hcell⟩:=hcW
    cases ha
    obtain ⟨p,rfl,hr⟩:=hcell i2 _ hx; obtain ⟨vf,ab,lb,cb,hld,hfs⟩:=hr.ld; obtain ⟨af,capf,rfl,_⟩:=id hfs; rw [zAb u22 s48 hlt]; simp only [zAA,hld]; refine zBx z48 s48 rfl rfl rfl I2.top fun W6 k6 t6 z6 hB6=>?_; have I6:=I2.kp' k6 t6; have q0:∀ W7,Kp W6 W7→ld prog 9 (.pointer (some ⟨W2.sz,0,none⟩)) W7=some (.string x.name):=fun W7 k7=>zAB a9 (a:=⟨W2.sz,0,none⟩) (k7.cell t6 (hB6.cell rfl)); rw [g4,zMz I6.b4]; simp only [zGv,zAA,q0 W6 (.refl _)]; refine (zUJ hC hS t6 (hsm2.kp I2.top k6) rfl (by have:=hC.name x hmem; omega)).mono fun en W7 ⟨k7,t7,hp⟩=>?_; have hin:=zUC hS hx; rw [zSQ hin] at hp; have I7:=I6.kp' k7 t7
    cases hrb:zHD c i2 with
    | true =>
     rw [hrb] at hp; obtain ⟨vo,rfl⟩:=hp; simp only [zAK,zBF,zBE,zAA,zAR]; rw [show (!false)=true from rfl]; simp only [zAn]; rw [zMz I7.b4,g2]; simp only [zAA]; have hbad:zA9 c=false:=by rw [hsp,zBk hlt hrb]; rfl
     refine hfin W7 false I7 hbad.symm (fun h=>by rw [hbad] at h; cases h) fun W8 hr=>?_; simp only [zIS,qKn,qKr,qKx,qKp,bKn,bKr,bKp,bKx,tKn,tKr,tKx,tKp,zKn,zKr,zKx,zKp,zRI]; exact hr _ g2 rfl
    | false =>
     rw [hrb] at hp; obtain ⟨vo,rfl,ho,hn⟩:=hp; simp only [zAK,zBF,zBE,zAA,zAR]; rw [show (!true)=false from rfl]; simp only [zAP,zD6,zGv,zAA,q0 W7 k7]; rw [zAB a76 (a:=⟨b4,0+1,none⟩) (I7.b4.cell rfl)]; simp only [zAA]; have hvo:IsSl 1 (RKd W7) vo (zAj c i2):=zEe (f:=fun k=>Value.int .u8 k) (by unfold zAj; exact ho)
     have hrw7:RwM W7 r2 c i2:=by
      obtain ⟨m,m1,m2⟩:=hrw2; refine ⟨m,m1.kp I2.top (k6.trans k7),fun s=>?_⟩; have:=m2 s
      cases hi:zBQ (c.take i2) s with
      | none=>rw [hi] at this; exact this
      | some i =>
       rw [hi] at this; obtain ⟨v,h5,h6⟩:=this; exact ⟨v,h5,h6.imp fun _ _ _ hr=>(k6.trans k7).cell I2.top hr⟩
     refine hrw7.put hS hx hvo fun W8 hu hcell2 hrw8=>?_; obtain ⟨m7,g7,_⟩:=hrw7; have hr2l:=g7.lt I7.top; have hn2:=zAr I7.b2 g7; have hn4:=zAr I7.b4 g7; have I8:KnIn W W8 b2 b4 r1 r2:=⟨I7.kp.upd r2W hu,I7.top.upd hr2l hu,I7.b2.congr (hu.obj _ hn2),I7.b4.congr (hu.obj _ hn4)⟩
     have hsm8:ShM W8 r1 c:=by
      obtain ⟨m,m1,m2⟩:=hsm2.kp I2.top (k6.trans k7); refine ⟨m,m1.congr (hu.obj _ r12),fun s=>?_⟩; have:=m2 s
      cases hi:zBQ c s with
      | none=>rw [hi] at this; exact this
      | some i =>
       rw [hi] at this; obtain ⟨u,x,h5,h6,vf,ab,lb,cb,h7,h8⟩:=this; exact ⟨u,x,h5,h6,vf,ab,lb,cb,h7,h8.imp fun _ _ _ hr=>⟨hcell2 _ _ _ hr.name,hcell2 _ _ _ hr.kind,hr.lo,hr.hi⟩⟩
     simp only [zIS,qKn,qKr,qKx,qKp,bKn,bKr,bKp,bKx,tKn,tKr,tKx,tKp,zKn,zKr,zKx,zKp]; simp only [eKc,eKn,eKa,Nat.reduceEqDiff,↓reduceIte,gKz,gKs,dKs,and_self,g83,zAW,zAA,qKn,qKr,qKx,qKp,bKn,bKr,bKp,bKx,tKn,tKr,tKx,tKp,zKn,zKr,zKx,zKp]; exact ⟨hlt,trivial,I8,g81,g82,by rw [zCT (by omega)],g2,g4,hsm8,hrw8,zE8 hpre2 hrb⟩
   ·have hR:zCW c.length (zHD c)=false:=zCJ fun j hj=>hpre2 j (by omega); have hgood:zA9 c=true:=by rw [hsp,hR]; rfl
    have hi3:i2=c.length:=by omega
    rw [hi3] at hrw2; simp only [qKn,qKr,qKx,qKp,bKn,bKr,bKp,bKx,tKn,tKr,tKx,tKp,zKn,zKr,zKx,zKp,if_true,zRI]; simp only [eKc,eKn,eKa,Nat.reduceEqDiff,↓reduceIte,gKz,gKs,dKs,and_self,g2,g4]; rw [zMz I2.b4]; simp only [zAA]; exact hfin W2 true I2 hgood.symm (fun _=>⟨hsm2,hrw2⟩) fun W8 hr=>hr _ g2 rfl
end Go.Ce
namespace Go.Ce
open Go Go.Proofs Go.Proofs.Tryz
theorem zM4 {v0:Value} {l:List Int} {n:Int} {W:CW} (hc:IsSl 1 (RInt W) v0 l) (hlen:l.length<1000000):WCall prog pkL 126 [v0,.int .i64 n] W (zI3 (.int .i64 (zIp l fun x=>decide (x=n))) W):=by
 refine zVo ?_; rw [zVp]; obtain ⟨a,cap,rfl,hcell⟩:=hc; simp only [zAT u40,zAA]; refine zCX (fun i e ds W'=>W'=W∧ds=[]∧e 0=.slice a l.length cap∧e 1=.int .i64 n∧e 7=.int .i64 l.length∧e 8=.int .i64 i∧∀ j x,j<i→l[j]?=some x→decide (x=n)=false) l.length ⟨rfl,rfl,rfl,rfl,rfl,rfl,by omega⟩ ?_; rintro i e ds W' hi ⟨rfl,rfl,h0,h1,h7,h8,hpre⟩; rw [zUc,h0,h1,h7,h8]; simp only [zAZ,zAA]
 refine zGZ (fun hlt=>?_) (fun hge=>?_)
 ·have hx:=List.getElem?_eq_getElem hlt; obtain ⟨p,rfl,hp⟩:=hcell i _ hx; rw [zAb u40 s3 hlt]; simp only [zAA]; rw [zAB a3 (a:=⟨p.block,p.off+i*1,none⟩) hp.1]; simp only [zAA,zAz]
  refine zAH (fun hq=>?_) (fun hq=>?_)
  ·have hq:n=l[i]:=by simpa using hq
   simp only [zKY,qKn,qKr,qKx,qKp,bKn,bKr,bKp,bKx,tKn,tKr,tKx,tKp,zKn,zKr,zKx,zKp,zNP,zJh]; refine ⟨?_,rfl⟩; simp only [eKc,eKn,eKa,Nat.reduceEqDiff,↓reduceIte,gKz,gKs,dKs,and_self,h8]; rw [zEn hlt (by simp [hq]) hpre]
  ·have hq:¬n=l[i]:=by simpa using hq
   simp only [zKY,qKn,qKr,qKx,qKp,bKn,bKr,bKp,bKx,tKn,tKr,tKx,tKp,zKn,zKr,zKx,zKp]; simp only [eKc,eKn,eKa,Nat.reduceEqDiff,↓reduceIte,gKz,gKs,dKs,and_self,h0,h1,h7,h8,zAW,zAA,qKn,qKr,qKx,qKp,bKn,bKr,bKp,bKx,tKn,tKr,tKx,tKp,zKn,zKr,zKx,zKp]; refine ⟨hlt,trivial,trivial,trivial,trivial,trivial,by rw [zCT (by omega)],fun j x hj hx'=>?_⟩
   rcases Nat.lt_succ_iff_lt_or_eq.1 hj with h2 | rfl
   ·exact hpre j x h2 hx'
   ·rw [hx] at hx'; cases hx'; exact decide_eq_false fun e=>hq e.symm
 ·simp only [qKn,qKr,qKx,qKp,bKn,bKr,bKp,bKx,tKn,tKr,tKx,tKp,zKn,zKr,zKx,zKp,if_true,zNP,zJh]; refine ⟨?_,rfl⟩; simp only [eKc,eKn,eKa,Nat.reduceEqDiff,↓reduceIte,gKz,gKs,dKs,and_self]; rw [zEo fun j x hj hx=>hpre j x (by omega) hx]
theorem zI0 {v0:Value} {l:List Int} {n:Int} {W:CW} (hc:IsSl 1 (RInt W) v0 l) (hlen:l.length<1000000):WCall prog pkL 104 [v0,.int .i64 n] W (zI3 (.bool (l.any fun x=>decide (x=n))) W):=by
 refine zWC ?_; rw [zWD]; refine zB2 (zM4 hc hlen) ?_; simp only [zEJ,zAA,zPT]; refine ⟨?_,rfl⟩; simp only [eKc,eKn,eKa,Nat.reduceEqDiff,↓reduceIte,gKz,gKs,dKs,and_self]; congr 2; unfold zIp
 cases h:l.findIdx? fun x=>decide (x=n) with
 | none =>
  rw [List.findIdx?_eq_none_iff] at h
  have:(l.any fun x=>decide (x=n))=false:=by
   rw [List.any_eq_false]; intro x hx; rw [h x hx]; simp
  rw [this]; rfl
 | some i =>
  obtain ⟨h1,h2,_⟩:=List.findIdx?_eq_some_iff_getElem.1 h; rw [List.any_eq_true.2 ⟨_,List.getElem_mem h1,h2⟩]; simp
def ASpc (W:CW) (u:Value) (x:Spc):Prop:=∃ am cm,u=.agg #[.string x.type,.string x.to,.slice am x.map.length cm]∧IsSl 1 (RInt W) (.slice am x.map.length cm) x.map
def SpM (key:Spc→ByteArray) (W:CW) (r:Nat) (l:List Spc):Prop:=∃ m:List (ByteArray × Value),MapAt Value.string W r m∧∀ s,match l.find? (fun x=>decide (key x=s)) with
 | some x=>∃ u,zKD m s=some u∧ASpc W u x
 | none=>zKD m s=none
theorem ASpc.cell {W W1:CW} {u:Value} {x:Spc} (h:ASpc W u x) (hc:∀ b k k2 n,W.cell b k=some (.int k2 n)→W1.cell b k=some (.int k2 n)):ASpc W1 u x:=by
 obtain ⟨am,cm,h1,h2⟩:=h; exact ⟨am,cm,h1,h2.imp fun _ _ _ hr=>⟨hc _ _ _ _ hr.1,hr.2⟩⟩
theorem SpM.cell {key:Spc→ByteArray} {W W1:CW} {r:Nat} {l:List Spc} (h:SpM key W r l) (ho:W1.obj r=W.obj r) (hc:∀ b k k2 n,W.cell b k=some (.int k2 n)→W1.cell b k=some (.int k2 n)):SpM key W1 r l:=by
 obtain ⟨m,h1,h2⟩:=h; refine ⟨m,h1.congr ho,fun s=>?_⟩; have:=h2 s
 cases hf:l.find? (fun x=>decide (key x=s)) with
 | none=>rw [hf] at this; exact this
 | some x =>
  rw [hf] at this; obtain ⟨u,h3,h4⟩:=this; exact ⟨u,h3,h4.cell hc⟩
theorem SpM.kp {key:Spc→ByteArray} {W W1:CW} {r:Nat} {l:List Spc} (h:SpM key W r l) (ht:Top W) (k:Kp W W1):SpM key W1 r l:=by
 have h':=h; obtain ⟨m,h1,_⟩:=h'; exact h.cell (k.obj r (h1.lt ht)) fun _ _ _ _ hc=>k.cell ht hc
theorem u81:prog.underlying 81=some (.map 9 58):=by kernel_rfl
def zWj:Value:=.agg #[.string ⟨#[]⟩,.string ⟨#[]⟩,.slice none 0 0]
theorem z58:zer prog 58=some zWj:=by kernel_rfl
theorem SpM.put {key:Spc→ByteArray} {W:CW} {r:Nat} {l:List Spc} {i:Nat} {x:Spc} {u:Value} (h:SpM key W r (l.take i)) (hx:l[i]?=some x) (hnew:∀ j y,j<i→l[j]?=some y→key y≠key x) (hu:ASpc W u x) {K:CW→Prop}
  (hK:∀ W1,Upd r W W1→(∀ b k v,W.cell b k=some v→W1.cell b k=some v)→SpM key W1 r (l.take (i+1))→K W1):wV (mup prog 81 (.map (some r)) (.string (key x)) u W) K:=by
 obtain ⟨m,h1,h2⟩:=h; refine zPs u81 u9 rfl zCx h1 fun W1 hup hm=>?_; have hcell:∀ b k v,W.cell b k=some v→W1.cell b k=some v:=fun b k v hc=>zE2 hup h1 hc; refine hK W1 hup hcell ⟨_,hm,fun s=>?_⟩; have hil:=(List.getElem?_eq_some_iff.1 hx).1; rw [List.take_add_one,hx,Option.toList_some,List.find?_append,zDr]
 by_cases e:s=key x
 ·rw [if_pos e]
  have:(l.take i).find? (fun y=>decide (key y=s))=none:=by
   rw [List.find?_eq_none]; intro y hy; obtain ⟨j,hj,rfl⟩:=List.mem_take_iff_getElem.1 hy; have:=hnew j _ (by omega) (List.getElem?_eq_getElem (by omega)); rw [e]
   simpa using this
  rw [this]; simp only [Option.none_or,List.find?_cons,e,decide_true]; exact ⟨u,rfl,hu.cell fun _ _ _ _ hc=>hcell _ _ _ hc⟩
 ·rw [if_neg e]
  have:([x].find? fun y=>decide (key y=s))=none:=by
   rw [List.find?_eq_none]; intro y hy; rw [List.mem_singleton.1 hy]
   simpa using Ne.symm e
  rw [this,Option.or_none]; have:=h2 s
  cases hf:(l.take i).find? (fun y=>decide (key y=s)) with
  | none=>rw [hf] at this; exact this
  | some y =>
   rw [hf] at this; obtain ⟨u',h3,h4⟩:=this; exact ⟨u',h3,h4.cell fun _ _ _ _ hc=>hcell _ _ _ hc⟩
theorem SpM.some {key:Spc→ByteArray} {W:CW} {r:Nat} {l:List Spc} (h:SpM key W r l) {s:ByteArray} {x:Spc} (hf:l.find? (fun x=>decide (key x=s))=Option.some x):∃ u,ASpc W u x∧lkp prog 81 (.map (Option.some r)) (.string s) true W=Option.some (.tuple #[u,.bool true]):=by
 obtain ⟨m,h1,h2⟩:=h; have:=h2 s; rw [hf] at this; obtain ⟨u,h3,h4⟩:=this; refine ⟨u,h4,?_⟩; rw [zF6 u81 u9 rfl z58 zCx h1 s true,h3]; rfl
theorem SpM.none {key:Spc→ByteArray} {W:CW} {r:Nat} {l:List Spc} (h:SpM key W r l) {s:ByteArray} (hf:l.find? (fun x=>decide (key x=s))=Option.none):lkp prog 81 (.map (Option.some r)) (.string s) true W=Option.some (.tuple #[zWj,.bool false]):=by
 obtain ⟨m,h1,h2⟩:=h; have:=h2 s; rw [hf] at this; rw [zF6 u81 u9 rfl z58 zCx h1 s true,this]; rfl
theorem RwM.some {W:CW} {r:Nat} {c:List Shp} (h:RwM W r c c.length) {s:ByteArray} {i:Nat} (hi:zBQ c s=Option.some i):∃ a cap,lkp prog 76 (.map (Option.some r)) (.string s) false W=Option.some (.slice a (zAj c i).length cap)∧IsSl 1 (RKd W) (.slice a (zAj c i).length cap) (zAj c i):=by
 obtain ⟨m,h1,h2⟩:=h; have:=h2 s; rw [List.take_length,hi] at this; obtain ⟨v,h3,h4⟩:=this; obtain ⟨a,cap,rfl,h5⟩:=id h4; refine ⟨a,cap,?_,h4⟩; rw [zF6 u76 u9 rfl z29 zCx h1 s false,h3]; rfl
def zCZ (c:List Shp) (l:List Spc) (i:Nat) (s:Spc):Bool:=match zBQ c s.type,zBQ c s.to with
 | some t,some a=>(decide (zAN c t≠0) || decide (zAN c a≠0) || zDe l s i) || decide (s.map.length≠(zAj c a).length)
 | _,_=>true
def zGg (l:List Spc) (i:Nat) (s:Spc):Bool:=zCW i fun k=>decide ((l[k]?).map (·.to)=some s.to)
def zMv (c:List Shp) (s:Spc):Bool:=match zBQ c s.type,zBQ c s.to with
 | some t,some a=>zCW (zAj c a).length (zF3 (zAj c t) (zAj c a) s.map)
 | _,_=>true
def zJM (l:List Spc) (s:Spc):Bool:=(l.find? fun x=>decide (x.type=s.to)).isSome
def zFT (c:List Shp) (l:List Spc) (i:Nat):Bool:=match l[i]? with
 | none=>true
 | some s=>zCZ c l i s || (zGg l i s || zMv c s)
theorem zHz {c:List Shp} {l:List Spc} {i:Nat} {s:Spc} (hs:l[i]?=some s):zI8 c l i=(zFT c l i || zJM l s):=by
 unfold zI8 zFT zCZ zMv; rw [hs]; simp only
 cases ht:zBQ c s.type with
 | none=>simp
 | some t =>
  cases ha:zBQ c s.to with
  | none=>simp
  | some a =>
   simp only
   have hn:zCW l.length (zEh l s i)=(zGg l i s || zJM l s):=by
    have hil:=(List.getElem?_eq_some_iff.1 hs).1; rw [Bool.eq_iff_iff,Bool.or_eq_true]; unfold zJM; rw [List.find?_isSome]
    constructor
    ·intro h; obtain ⟨k,hk,hb⟩:=List.any_eq_true.1 h; have hk:=List.mem_range.1 hk; unfold zEh at hb; have hxk:=List.getElem?_eq_getElem hk; rw [hxk] at hb; simp only [Bool.or_eq_true,Bool.and_eq_true,decide_eq_true_eq] at hb
     rcases hb with hb | ⟨hb,hb2⟩
     ·exact .inr ⟨_,List.getElem_mem hk,by simpa using hb⟩
     ·exact .inl (zBk hb (by rw [hxk]; simpa using hb2))
    ·rintro (h | ⟨x,hx,hb⟩)
     ·obtain ⟨k,hk,hb⟩:=List.any_eq_true.1 h; have hk:=List.mem_range.1 hk; have hxk:=List.getElem?_eq_getElem (show k<l.length by omega); rw [hxk] at hb; refine zBk (show k<l.length by omega) ?_; unfold zEh; rw [hxk]; simp only [Option.map_some,Option.some.injEq,decide_eq_true_eq] at hb; simp [hb,hk]
     ·obtain ⟨k,hk,rfl⟩:=List.mem_iff_getElem.1 hx; refine zBk hk ?_; unfold zEh; rw [List.getElem?_eq_getElem hk]; simp only [hb,Bool.true_or]
   rw [hn]
   cases decide (zAN c t≠0) <;> cases decide (zAN c a≠0) <;> cases zDe l s i <;> cases zGg l i s <;> cases zJM l s <;> cases decide (s.map.length≠(zAj c a).length) <;> simp
theorem zT6 {c:List Shp} {l:List Spc}:∀ {i:Nat},(∀ j,j<i→∀ s,l[j]?=some s→zCZ c l j s=false)→∀ j k x y,j<k→k<i→l[j]?=some x→l[k]?=some y→bLt (sb x.type) (sb y.type)=true:=by
 intro i h j k
 induction k with
 | zero=>intro x y hj; omega
 | succ k ih =>
  intro x y hj hk hx hy; have hb:=h (k+1) hk y hy; unfold zCZ at hb
  split at hb
  ·simp only [Bool.or_eq_false_iff] at hb; have hp:=hb.1.2; unfold zDe at hp; have hkl:k<l.length:=by have:=(List.getElem?_eq_some_iff.1 hy).1; omega
   have hz:=List.getElem?_eq_getElem hkl; simp only [hz,Bool.not_eq_false'] at hp
   rcases Nat.lt_succ_iff_lt_or_eq.1 hj with h1 | rfl
   ·exact zGU _ _ _ (ih x _ h1 (by omega) hx hz) hp
   ·rw [hx] at hz; cases hz; exact hp
  ·cases hb
end Go.Ce
namespace Go.Ce
open Go Go.Proofs Go.Proofs.Tryz
theorem CatAt.kp {W W':CW} {r1 r2:Nat} {c:List Shp} (h:CatAt W r1 r2 c) (ht:Top W) (k:Kp W W'):CatAt W' r1 r2 c:=by
 refine ⟨h.sh.kp ht k,?_⟩; obtain ⟨m,m1,m2⟩:=h.rw; refine ⟨m,m1.kp ht k,fun s=>?_⟩; have:=m2 s
 cases hi:zBQ (c.take c.length) s with
 | none=>rw [hi] at this; exact this
 | some i =>
  rw [hi] at this; obtain ⟨v,h5,h6⟩:=this; exact ⟨v,h5,h6.imp fun _ _ _ hr=>k.cell ht hr⟩
theorem CatAt.upd {W W':CW} {r1 r2 r:Nat} {c:List Shp} (h:CatAt W r1 r2 c) (hu:Upd r W W') (h1:r1≠r) (h2:r2≠r) (hcell:∀ b k v,W.cell b k=some v→W'.cell b k=some v):CatAt W' r1 r2 c:=by
 constructor
 ·obtain ⟨m,m1,m2⟩:=h.sh; refine ⟨m,m1.congr (hu.obj _ h1),fun s=>?_⟩; have:=m2 s
  cases hi:zBQ c s with
  | none=>rw [hi] at this; exact this
  | some i =>
   rw [hi] at this; obtain ⟨u,x,h5,h6,vf,ab,lb,cb,h7,h8⟩:=this; exact ⟨u,x,h5,h6,vf,ab,lb,cb,h7,h8.imp fun _ _ _ hr=>⟨hcell _ _ _ hr.name,hcell _ _ _ hr.kind,hr.lo,hr.hi⟩⟩
 ·obtain ⟨m,m1,m2⟩:=h.rw; refine ⟨m,m1.congr (hu.obj _ h2),fun s=>?_⟩; have:=m2 s
  cases hi:zBQ (c.take c.length) s with
  | none=>rw [hi] at this; exact this
  | some i =>
   rw [hi] at this; obtain ⟨v,h5,h6⟩:=this; exact ⟨v,h5,h6.imp fun _ _ _ hr=>hcell _ _ _ hr⟩
theorem zMx {mp:List Int} {k:Nat} (hk:k≤mp.length) (n:Int):zJH mp k n=(mp.take k).any fun x=>decide (x=n):=by
 unfold zJH zCW; rw [Bool.eq_iff_iff,List.any_eq_true,List.any_eq_true]
 constructor
 ·rintro ⟨j,hj,h⟩; have hjk:=List.mem_range.1 hj; rw [List.getElem?_eq_getElem (by omega)] at h; exact ⟨mp[j],List.mem_take_iff_getElem.2 ⟨j,by omega,rfl⟩,by simpa using h⟩
 ·rintro ⟨x,hx,h⟩; obtain ⟨j,hj,rfl⟩:=List.mem_take_iff_getElem.1 hx; refine ⟨j,List.mem_range.2 (by omega),?_⟩; rw [List.getElem?_eq_getElem (by omega)]
  simpa using h
theorem zSN {W:CW} {v:Value} {l:List Int} {k:Nat} (h:IsSl 1 (RInt W) v l) (ho:ElOk W 3 v) (hk:k≤l.length):∃ v',slc prog 40 v none (some (.int .i64 k)) none W=some v'∧IsSl 1 (RInt W) v' (l.take k):=by
 obtain ⟨a,cap,rfl,hc⟩:=h; obtain ⟨he,hle⟩:=ho _ _ _ rfl; have hkl:(l.take k).length=k:=by rw [List.length_take]; omega
 refine ⟨.slice (cond (Nat.beq cap 0) a (a.map fun a=>⟨a.block,a.off+0*1,none⟩)) k cap,?_,⟨_,cap,by rw [hkl],fun i x hx=>?_⟩⟩
 ·unfold slc; rw [u40]; simp only [zJn,u40,zCc,zEQ,s3]; rw [show (decide ((0:Int)≤(k:Int)) && decide ((k:Int)≤(cap:Int)))=true by simp; omega]; simp only [cond_true,he,Option.isSome_none,Bool.false_and,Bool.false_or,Bool.not_true,Bool.or_false,Int.toNat_natCast]; rw [show Nat.ble k cap=true from Nat.ble_eq_true_of_le (by omega)]; simp
 ·have hik:i<k:=by have:=(List.getElem?_eq_some_iff.1 hx).1; omega
  rw [List.getElem?_take,if_pos hik] at hx; obtain ⟨p,rfl,hr⟩:=hc i x hx
  have hcap:Nat.beq cap 0=false:=by
   cases hb:Nat.beq cap 0 with
   | false=>rfl
   | true=>have:=Nat.eq_of_beq_eq_true hb; omega
  rw [hcap]; exact ⟨⟨p.block,p.off+0*1,none⟩,rfl,by rw [Nat.zero_mul,Nat.add_zero]; exact hr⟩
theorem zUa {W:CW} {K:zAI} {e e1:Env} {c:List Shp} {s:Spc} {r1 r2 b2 b8 t a:Nat} {vm:Value} (hcat:CatAt W r1 r2 c) (hb2:W.cell b2 1=some (.map (some r2))) (hB8:Blk W b8 58 [.string s.type,.string s.to,vm]) (hvm:IsSl 1 (RInt W) vm s.map) (hok:ElOk W 3 vm) (ht:zBQ c s.type=some t) (ha:zBQ c s.to=some a) (hlen:s.map.length=(zAj c a).length) (hl1:s.map.length<100000) (hl2:(zAj c t).length<100000)
  (h2:e 2=.pointer (some ⟨b2,0,none⟩)) (h8:e 8=.pointer (some ⟨b8,0,none⟩)) (h107:e 107=vm) (h108:e 108=.int .i64 s.map.length) (he:Agree [1,2,4,6,8,29,30,31,107,108] e e1) (h109:e1 109=.int .i64 0)
  (hyes:zMv c s=true→∀ e',Agree [4,6] e e'→wV (ld prog 83 (e' 6) W) fun v148=>wV (sto prog 83 (e' 4) v148 W) fun W27=>∀ e2:Env,e2 4=e' 4→e2 5=.bool false→K .ret e2 [] W27)
  (hno:zMv c s=false→∀ e',Agree [1,2,4,6,8,29,30,31] e e'→K (.exit 2) e' [] W) :
  zCg prog pkL none 48 179 (.loop (zAS prog 48 1)) e1 [] W K:=by
 have hms:zMv c s=zCW (zAj c a).length (zF3 (zAj c t) (zAj c a) s.map):=by unfold zMv; rw [ht,ha]
 refine zCX (fun m e' ds' W'=>ds'=[]∧W'=W∧Agree [1,2,4,6,8,29,30,31,107,108] e e'∧e' 109=.int .i64 m∧∀ j,j<m→zF3 (zAj c t) (zAj c a) s.map j=false) s.map.length ⟨rfl,rfl,he,h109,by omega⟩ ?_; rintro m e' ds' W' hm ⟨rfl,rfl,hA,g109,hpre⟩; have g2:=(hA 2 (by decide)).trans h2; have g8:=(hA 8 (by decide)).trans h8; rw [zVc,g2,g8,g109,(hA 107 (by decide)).trans h107,(hA 108 (by decide)).trans h108]; simp only [zAZ,zAA]
 refine zGZ (fun hlt=>?_) (fun hge=>?_)
 ·have hx:=List.getElem?_eq_getElem hlt; have hlt2:m<(zAj c a).length:=by omega
  have hxa:=List.getElem?_eq_getElem hlt2; obtain ⟨av,cv,rfl,hmc⟩:=id hvm; obtain ⟨q,rfl,hq⟩:=hmc m _ hx; obtain ⟨art,crt,lt,hrt⟩:=hcat.rw.some ht; obtain ⟨ara,cra,la,hra⟩:=hcat.rw.some ha; rw [zAb u40 s3 hlt]; simp only [zAA,zD6,zEs,zEr,zFk]; have qm:ld prog 76 (.pointer (some ⟨b2,0+1,none⟩)) W'=some (.map (some r2)):=zAB a76 (a:=⟨b2,0+1,none⟩) hb2; have qt:ld prog 9 (.pointer (some ⟨b8,0,none⟩)) W'=some (.string s.type):=zAB a9 (a:=⟨b8,0,none⟩) (hB8.cell rfl); have qa:ld prog 9 (.pointer (some ⟨b8,0+1,none⟩)) W'=some (.string s.to):=zAB a9 (a:=⟨b8,0+1,none⟩) (hB8.cell rfl); have qv:ld prog 40 (.pointer (some ⟨b8,0+2,none⟩)) W'=some (.slice (some q) s.map.length cv):=zAB a40 (a:=⟨b8,0+2,none⟩) (hB8.cell rfl); rw [zAB a3 (a:=⟨q.block,q.off+m*1,none⟩) hq.1]; simp only [zAA,qm,qt,lt,zAT u29,zCD]; rw [zBU (by omega) (by omega)]; have hmb:zF3 (zAj c t) (zAj c a) s.map m=(decide (s.map[m]<0) || decide (s.map[m]≥(zAj c t).length) || decide ((zAj c t)[s.map[m].toNat]?≠(zAj c a)[m]?) || zJH s.map m s.map[m]):=by unfold zF3; rw [hx]
  have leaf:∀ (b:Bool) (e2:Env),Agree [1,2,4,6,8,29,30,31,107,108,109] e' e2→e2 147=.bool b→b=zF3 (zAj c t) (zAj c a) s.map m→(zIP none (zJQ (fun m e' ds'' W''=>ds''=[]∧W''=W'∧Agree [1,2,4,6,8,29,30,31,107,108] e e'∧e' 109=.int .i64 m∧∀ j,j<m→zF3 (zAj c t) (zAj c a) s.map j=false) m s.map.length K)) .normal e2 [] W':=by
   intro b e2 hA2 g147 hb; simp only [zIP,qKn,qKr,qKx,qKp,bKn,bKr,bKp,bKx,tKn,tKr,tKx,tKp,zKn,zKr,zKx,zKp,g147]
   refine zAH (fun hbb=>?_) (fun hbb=>?_)
   ·have hA3:Agree [1,2,4,6,8,29,30,31,107,108] e e2:=hA.trans fun t ht=>hA2 t (by revert t; decide); have:=hyes (by rw [hms]; exact zBk hlt2 (by rw [←hb,hbb])) e2 (fun t ht=>hA3 t (by revert t; decide))
    revert this
    cases ld prog 83 (e2 6) W' with
    | none=>exact fun h=>h
    | some v =>
     simp only [zAA]
     cases sto prog 83 (e2 4) v W' with
     | none=>exact fun h=>h
     | some W27 =>
      simp only [zAA]; intro h; simp only [zIQ,qKn,qKr,qKx,qKp,bKn,bKr,bKp,bKx,tKn,tKr,tKx,tKp,zKn,zKr,zKx,zKp]; exact h _ rfl rfl
   ·simp only [zIQ,qKn,qKr,qKx,qKp,bKn,bKr,bKp,bKx,tKn,tKr,tKx,tKp,zKn,zKr,zKx,zKp,(hA2 109 (by decide)).trans g109,zAW,zAA]; refine ⟨hlt,trivial,trivial,(hA.trans fun t ht=>hA2 t (by revert t; decide)).trans (.put rfl),?_,zE8 hpre (by rw [←hb,hbb])⟩; simp only [eKc,eKn,eKa,Nat.reduceEqDiff,↓reduceIte,gKz,gKs,dKs,and_self]; rw [zCT (by omega)]
  refine zB2 (zQr _ _ _ _) ?_; simp only [zAR,zAA]
  refine zAH (fun hb=>?_) (fun hb=>?_)
  ·refine ⟨by simp only [and_self],trivial,leaf true _ (.put rfl) rfl ?_⟩; rw [hmb]
   by_cases h1:s.map[m]<0
   ·rw [decide_eq_true h1]; rfl
   ·have:¬(s.map[m]≤((zAj c t).length:Int)-1):=by
     intro h2; rw [decide_eq_true (by omega:(0:Int)≤s.map[m]),decide_eq_true h2] at hb
     cases hb
    rw [decide_eq_true (by omega:s.map[m]≥((zAj c t).length:Int))]; simp
  ·have hb:(decide ((0:Int)≤s.map[m]) && decide (s.map[m]≤((zAj c t).length:Int)-1))=true:=by simpa only [Bool.not_eq_false'] using hb
   simp only [Bool.and_eq_true,decide_eq_true_eq] at hb; obtain ⟨hb1,hb2'⟩:=hb; obtain ⟨v',hsl,hv'⟩:=zSN (k:=m) hvm hok (by omega); simp only [qv,hsl,zAA]; refine zB2 (zI0 hv' (by rw [List.length_take]; omega)) ?_; have hdup:=zMx (mp:=s.map) (k:=m) (by omega) s.map[m]
   refine zAH (fun hd=>?_) (fun hd=>?_)
   ·refine ⟨by simp only [qv,hsl,and_self],trivial,leaf true _ (.put rfl) rfl ?_⟩; rw [hmb,hdup,hd]; simp
   ·have hnl:s.map[m].toNat<(zAj c t).length:=by omega
    have hxt:=List.getElem?_eq_getElem hnl; obtain ⟨_,_,e3,hrtc⟩:=hrt
    cases e3
    obtain ⟨_,_,e4,hrac⟩:=hra
    cases e4
    obtain ⟨pt,rfl,hpt⟩:=hrtc _ _ hxt; obtain ⟨pa,rfl,hpa⟩:=hrac _ _ hxa
    have ei:iad prog 29 (.slice (some pt) (zAj c t).length crt) (.int .i64 s.map[m])=some (.pointer (some ⟨pt.block,pt.off+s.map[m].toNat*1,none⟩)):=by
     have e1:(Value.int IntKind.i64 s.map[m])=.int .i64 ((s.map[m].toNat:Nat):Int):=by rw [Int.toNat_of_nonneg hb1]
     rw [e1]; exact zAb u29 s5 hnl
    simp only [ei,zAA]; rw [zAB a5 (a:=⟨pt.block,pt.off+s.map[m].toNat*1,none⟩) hpt]; simp only [zAA,qm,qa,la]; rw [zAb u29 s5 hlt2]; simp only [zAA]; rw [zAB a5 (a:=⟨pa.block,pa.off+m*1,none⟩) hpa]; simp only [zAA,zBW]; refine ⟨by simp only [qv,hsl,qm,qa,la,and_self],trivial,leaf _ _ (.put rfl) rfl ?_⟩; rw [hmb,hdup,hd,hxt,hxa,decide_eq_false (by omega:¬s.map[m]<0),decide_eq_false (by omega:¬s.map[m]≥((zAj c t).length:Int))]; simp only [Bool.or_self,Bool.false_or,Bool.or_false]
    by_cases e:(zAj c t)[s.map[m].toNat]=(zAj c a)[m]
    ·rw [decide_eq_false (by simp [e])]; simp [e]
    ·rw [decide_eq_true (by simpa using e)]; simpa using e
 ·simp only [qKn,qKr,qKx,qKp,bKn,bKr,bKp,bKx,tKn,tKr,tKx,tKp,zKn,zKr,zKx,zKp]; refine hno ?_ _ (fun t ht=>(Agree.put rfl t (by exact ht)).trans (hA t (by revert t; decide))); rw [hms]; exact zCJ fun j hj=>hpre j (by omega)
end Go.Ce
namespace Go.Ce
open Go Go.Proofs Go.Proofs.Tryz
theorem zNK:Tryz.f48.results.toList=[.cell 4 83,.tmp 5]:=by kernel_rfl
theorem s83:siz prog 83=some 2:=by kernel_rfl
theorem a83:agg? prog 83=some true:=by kernel_rfl
theorem a81:agg? prog 81=some false:=by kernel_rfl
theorem z83:zer prog 83=some (.agg #[.map none,.map none]):=by kernel_rfl
theorem zYD (a b:Nat):bld prog 83 [(0,.map (some a)),(1,.map (some b))]=some (.agg [.map (some a),.map (some b)].toArray):=by kernel_rfl
theorem zKQ (a:Addr):fad prog 83 (.pointer (some a)) 0=some (.pointer (some ⟨a.block,a.off,none⟩)):=by kernel_rfl
theorem zKP (a:Addr):fad prog 83 (.pointer (some a)) 1=some (.pointer (some ⟨a.block,a.off+1,none⟩)):=by kernel_rfl
theorem zSs {W:CW} {b a1 a2:Nat} (h:Blk W b 83 [.map (some a1),.map (some a2)]):ld prog 83 (.pointer (some ⟨b,0,none⟩)) W=some (.agg [.map (some a1),.map (some a2)].toArray):=zA8 (vs:=[.map (some a1),.map (some a2)]) a83 s83 rfl (by omega) h.cells
theorem RSpc.ld {W:CW} {b o:Nat} {x:Spc} (h:RSpc W b o x):∃ am cm,ld prog 58 (.pointer (some ⟨b,o,none⟩)) W=some (.agg [.string x.type,.string x.to,.slice am x.map.length cm].toArray)∧IsSl 1 (RInt W) (.slice am x.map.length cm) x.map∧ElOk W 3 (.slice am x.map.length cm):=by
 obtain ⟨v,h1,h2,h3⟩:=h.map; obtain ⟨am,cm,rfl,h4⟩:=id h2; refine ⟨am,cm,zA8 (vs:=[.string x.type,.string x.to,.slice am x.map.length cm]) a58 s58 rfl (by omega) ?_,h2,h3⟩; intro j w hj
 match j,hj with
 | 0,hj=>cases hj; exact h.type
 | 1,hj=>cases hj; exact h.to
 | 2,hj=>cases hj; exact h1
theorem zLI {W:CW} {r1:Nat} {c:List Shp} (h:ShM W r1 c) (s:ByteArray):∃ ws:List Value,lkp prog 75 (.map (some r1)) (.string s) true W=some (.tuple #[.agg ws.toArray,.bool (zBQ c s).isSome])∧ws.length=5∧ws.all zAg=true∧∀ i,zBQ c s=some i→ws[3]?=some (.int .u8 (zAN c i)):=by
 cases hi:zBQ c s with
 | none =>
  obtain ⟨l1,_⟩:=h.none hi; exact ⟨[.string ⟨#[]⟩,.string ⟨#[]⟩,.slice none 0 0,.int .u8 0,.slice none 0 0],l1,rfl,rfl,fun i h=>by cases h⟩
 | some i =>
  obtain ⟨u,x,hx,hu,l1,_⟩:=h.some hi; obtain ⟨vf,ab,lb,cb,rfl,hf⟩:=hu; obtain ⟨af,cf,rfl,_⟩:=hf; refine ⟨[.string x.name,.string x.super,.slice af x.fields.length cf,.int .u8 x.elem,.slice ab lb cb],l1,rfl,rfl,fun j h=>?_⟩
  cases h
  unfold zAN; rw [hx]; rfl
theorem zNp {key:Spc→ByteArray} {W:CW} {r:Nat} {l:List Spc} (h:SpM key W r l) (s:ByteArray):∃ ws:List Value,lkp prog 81 (.map (some r)) (.string s) true W=some (.tuple #[.agg ws.toArray,.bool (l.find? fun x=>decide (key x=s)).isSome])∧ws.length=3∧ws.all zAg=true:=by
 cases hf:l.find? fun x=>decide (key x=s) with
 | none=>exact ⟨[.string ⟨#[]⟩,.string ⟨#[]⟩,.slice none 0 0],h.none hf,rfl,rfl⟩
 | some x =>
  obtain ⟨u,hu,l1⟩:=h.some hf; obtain ⟨am,cm,rfl,_⟩:=hu; exact ⟨[.string x.type,.string x.to,.slice am x.map.length cm],l1,rfl,rfl⟩
structure RuIn (W0 W:CW) (b2 b4 b6 r1 r2 w r:Nat) (c:List Shp):Prop where
 kp:Kp W0 W
 top:Top W
 b2:Blk W b2 78 [.map (some r1),.map (some r2)]
 b4:Blk W b4 83 [.map none,.map none]
 b6:Blk W b6 83 [.map (some w),.map (some r)]
 cat:CatAt W r1 r2 c
theorem RuIn.kp' {W0 W W':CW} {b2 b4 b6 r1 r2 w r:Nat} {c:List Shp} (I:RuIn W0 W b2 b4 b6 r1 r2 w r c) (k:Kp W W') (t:Top W'):RuIn W0 W' b2 b4 b6 r1 r2 w r c:=⟨I.kp.trans k,t,I.b2.ext I.top k,I.b4.ext I.top k,I.b6.ext I.top k,I.cat.kp I.top k⟩
def zMS (c:List Shp) (l:List Spc) (W:CW):Ending→CW→Prop:=fun e W'=>Kp W W'∧Top W'∧∃ w r,e=.returned (.tuple #[.agg #[.map (some w),.map (some r)],.bool (zAq c l)])∧(zAq c l=true→SpM Spc.type W' w l∧SpM Spc.to W' r l)
theorem zNs {v1:Value} {c:List Shp} {l:List Spc} {r1 r2:Nat} {W:CW} (ht:Top W) (hcat:CatAt W r1 r2 c) (hC:Cat c) (hl:IsSl 3 (RSpc W) v1 l) (hll:l.length<100000) (hml:∀ s,s ∈ l→s.map.length<100000):WCall prog pkL 48 [zI2 r1 r2,v1] W (zMS c l W):=by
 refine zXr ?_; rw [zXs]; obtain ⟨a,cap,rfl,_⟩:=id hl; unfold zI2; refine zDC s78 ht fun W0 k0 t0 z0 hB2=>?_; have hB2:Blk W0 W.sz 78 [.map (some r1),.map (some r2)]:=hB2; refine zFa z83 s83 t0 fun W1 k1 t1 z1 hB4=>?_; have hB4:Blk W1 W0.sz 83 [.map none,.map none]:=hB4; refine zMX (enc:=Value.string) t1 fun W2 k2 t2 z2 hm1=>?_; refine zMX (enc:=Value.string) t2 fun W3 k3 t3 z3 hm2=>?_; rw [zYD]; simp only [zAA]; refine zBx z83 s83 rfl rfl rfl t3 fun W5 k5 t5 z5 hB6=>?_; simp only [zAT u23,zAA,zBO]; have k15:=(k2.trans k3).trans k5; have kk:Kp W W5:=(k0.trans k1).trans k15; have I5:RuIn W W5 W.sz W0.sz W3.sz r1 r2 W1.sz W2.sz c:=⟨kk,t5,hB2.ext t0 (k1.trans k15),hB4.ext t1 k15,hB6,hcat.kp ht kk⟩
 have hm1':=hm1.kp t2 (k3.trans k5); have hm2':=hm2.kp t3 k5; have wW:W.sz≤W1.sz:=(k0.trans k1).sz; have rW:W.sz≤W2.sz:=Nat.le_trans wW k2.sz; have r1l:r1<W.sz:=by obtain ⟨m,h1,_⟩:=hcat.sh; exact h1.lt ht
 have r2l:r2<W.sz:=by obtain ⟨m,h1,_⟩:=hcat.rw; exact h1.lt ht
 have hwr:W1.sz≠W2.sz:=by omega
 generalize W1.sz=w at I5 hm1' wW hwr; generalize W2.sz=r at I5 hm2' rW hwr; generalize W3.sz=b6 at I5; have hb4W:W.sz≤W0.sz:=k0.sz; generalize W0.sz=b4 at I5 hb4W; generalize hKK:zAE prog Tryz.f48 (zMS c l W)=K
 have hfin:∀ W1 (ok:Bool),RuIn W W1 W.sz b4 b6 r1 r2 w r c→ok=zAq c l→(zAq c l=true→SpM Spc.type W1 w l∧SpM Spc.to W1 r l)→∀ {K':CW→Prop},(∀ W2,(∀ e,e 4=.pointer (some ⟨b4,0,none⟩)→e 5=.bool ok→K .ret e [] W2)→K' W2) →
   wV (sto prog 83 (.pointer (some ⟨b4,0,none⟩)) (.agg [.map (some w),.map (some r)].toArray) W1) K':=by
  intro W1 ok I hok hcat K' hK'; refine zB6 s83 (a:=⟨b4,0,none⟩) rfl rfl I.b4 (by simp) fun W2 hu hB=>hK' W2 fun e h4 h5=>?_; have hu:Upd b4 W1 W2:=hu; rw [←hKK]; have hB:Blk W2 b4 83 [.map (some w),.map (some r)]:=hB; refine zDg zNK h4 (zSs hB) ?_; have hb4l:=I.b4.lt I.top; refine ⟨I.kp.upd hb4W hu,I.top.upd hb4l hu,w,r,by rw [h5,hok],fun hc=>?_⟩; obtain ⟨s1,s2⟩:=hcat hc
  have hcell:∀ b k k2 n,W1.cell b k=some (.int k2 n)→W2.cell b k=some (.int k2 n):=fun b k k2 n h=>by
   rw [hu.cell]
   ·exact h
   ·rintro rfl; have h2:=I.b4.cell_inv h
    match k,h2 with
    | 0,h2=>cases h2
    | 1,h2=>cases h2
  obtain ⟨m,g1,_⟩:=id s1; obtain ⟨m',g2,_⟩:=id s2; exact ⟨s1.cell (hu.obj _ (Ne.symm (zAr I.b4 g1))) hcell,s2.cell (hu.obj _ (Ne.symm (zAr I.b4 g2))) hcell⟩
 refine zAH (fun hg=>?_) (fun hg=>?_)
 ·rw [zSs I5.b6]; simp only [zAA]
  have hbad:zAq c l=false:=by
   have:=of_decide_eq_true hg; unfold zAq; rw [decide_eq_false (by omega)]; rfl
  exact hfin W5 false I5 hbad.symm (fun h=>by rw [hbad] at h; cases h) fun W6 hr=>hr _ rfl rfl
 ·have hg:=of_decide_eq_false hg
  have hsp:zAq c l=!zCW l.length (zI8 c l):=by
   unfold zAq; rw [decide_eq_true (by omega)]; rfl
  have hbad_of:∀ i s,l[i]?=some s→zFT c l i=true→zAq c l=false:=fun i s hs hb=>by
   rw [hsp,zBk (List.getElem?_eq_some_iff.1 hs).1 (by rw [zHz hs,hb]; rfl)]; rfl
  refine zCX (fun i e ds W'=>ds=[]∧RuIn W W' W.sz b4 b6 r1 r2 w r c∧e 1=.slice a l.length cap∧e 29=.slice a l.length cap∧e 30=.int .i64 l.length∧e 31=.int .i64 i∧e 2=.pointer (some ⟨W.sz,0,none⟩)∧e 4=.pointer (some ⟨b4,0,none⟩)∧e 6=.pointer (some ⟨b6,0,none⟩)∧SpM Spc.type W' w (l.take i)∧SpM Spc.to W' r (l.take i)∧∀ j,j<i→zFT c l j=false) l.length
   ⟨rfl,I5,rfl,rfl,rfl,rfl,rfl,rfl,rfl,⟨[],hm1',fun s=>rfl⟩,⟨[],hm2',fun s=>rfl⟩,by omega⟩ ?_
  rintro i e ds W' hi ⟨rfl,I',h1,h29,h30,h31,h2,h4,h6,hw,hr,hpre⟩; rw [zVd,h1,h29,h30,h31,h2]; simp only [zAZ,zAA]
  refine zGZ (fun hlt=>?_) (fun hge=>?_)
  ·obtain ⟨s,hs⟩:∃ s,l[i]?=some s:=⟨_,List.getElem?_eq_getElem hlt⟩
   have hmem:=List.mem_of_getElem? hs; have hlW:IsSl 3 (RSpc W') (.slice a l.length cap) l:=hl.imp fun _ _ _ hr=>hr.kp ht I'.kp; obtain ⟨a',cap',ha,hcell⟩:=id hlW
   cases ha
   obtain ⟨p,rfl,hrs⟩:=hcell i _ hs; obtain ⟨am,cm,hld,hmap,hok⟩:=hrs.ld; rw [zAb u23 s58 hlt]; simp only [zAA,hld]; refine zBx z58 s58 rfl rfl rfl I'.top fun W12 k12 t12 z12 hB8=>?_; have I12:=I'.kp' k12 t12; have qt:∀ W7,Kp W12 W7→ld prog 9 (.pointer (some ⟨W'.sz,0,none⟩)) W7=some (.string s.type):=fun W7 k7=>zAB a9 (a:=⟨W'.sz,0,none⟩) (k7.cell t12 (hB8.cell rfl)); have qa:∀ W7,Kp W12 W7→ld prog 9 (.pointer (some ⟨W'.sz,0+1,none⟩)) W7=some (.string s.to):=fun W7 k7=>zAB a9 (a:=⟨W'.sz,1,none⟩) (k7.cell t12 (hB8.cell rfl)); have qv:∀ W7,Kp W12 W7→ld prog 40 (.pointer (some ⟨W'.sz,0+2,none⟩)) W7=some (.slice am s.map.length cm):=fun W7 k7=>zAB a40 (a:=⟨W'.sz,2,none⟩) (k7.cell t12 (hB8.cell rfl)); have qm1:∀ W7,RuIn W W7 W.sz b4 b6 r1 r2 w r c→ld prog 75 (.pointer (some ⟨W.sz,0,none⟩)) W7=some (.map (some r1)):=fun W7 I=>zAB a75 (a:=⟨W.sz,0,none⟩) (I.b2.cell rfl); have qm2:∀ W7,RuIn W W7 W.sz b4 b6 r1 r2 w r c→ld prog 76 (.pointer (some ⟨W.sz,0+1,none⟩)) W7=some (.map (some r2)):=fun W7 I=>zAB a76 (a:=⟨W.sz,1,none⟩) (I.b2.cell rfl); obtain ⟨ws1,L1,hws1,hone1,hel1⟩:=zLI I12.cat.sh s.type; simp only [zDL,zEs,zEr,zAA,qm1 W12 I12,qt W12 (.refl _),L1,zBF,zBE]; refine zBx z48 s48 rfl hone1 hws1 t12 fun W14 k14 t14 z14 hB9=>?_; have I14:=I12.kp' k14 t14; obtain ⟨ws2,L2,hws2,hone2,hel2⟩:=zLI I14.cat.sh s.to; simp only [zAA,qm1 W14 I14,qa W14 k14,L2,zBF,zBE]; refine zBx z48 s48 rfl hone2 hws2 t14 fun W16 k16 t16 z16 hB11=>?_; have I16:=I14.kp' k16 t16; have k1216:=k14.trans k16; have k16':=k12.trans k1216
   have leaf:∀ (b:Bool) (e1:Env),Agree [1,2,4,6,29,30,31] e e1→e1 8=.pointer (some ⟨W'.sz,0,none⟩)→e1 94=.bool b→(b=true→zCZ c l i s=true)→(b=false→zCZ c l i s=false) →
     (zEA none (zJQ (fun i e ds W'=>ds=[]∧RuIn W W' W.sz b4 b6 r1 r2 w r c∧e 1=.slice (some p) l.length cap∧e 29=.slice (some p) l.length cap∧e 30=.int .i64 l.length∧e 31=.int .i64 i∧e 2=.pointer (some ⟨W.sz,0,none⟩)∧e 4=.pointer (some ⟨b4,0,none⟩)∧e 6=.pointer (some ⟨b6,0,none⟩)∧SpM Spc.type W' w (l.take i)∧SpM Spc.to W' r (l.take i)∧∀ j,j<i→zFT c l j=false) i l.length (zBm 0 (zJW none K)))) .normal e1 [] W16:=by
    intro b e1 hA g8 g94 hbt hbf; have g1:=(hA 1 (by decide)).trans h1; have g2:=(hA 2 (by decide)).trans h2; have g4:=(hA 4 (by decide)).trans h4; have g6:=(hA 6 (by decide)).trans h6; have g29:=(hA 29 (by decide)).trans h29; have g30:=(hA 30 (by decide)).trans h30; have g31:=(hA 31 (by decide)).trans h31; have hps:zFT c l i=(zCZ c l i s || (zGg l i s || zMv c s)):=by unfold zFT; rw [hs]
    have hout:∀ W7,RuIn W W7 W.sz b4 b6 r1 r2 w r c→zFT c l i=true→∀ {K':CW→Prop},(∀ W2,(∀ e,e 4=.pointer (some ⟨b4,0,none⟩)→e 5=.bool false→K .ret e [] W2)→K' W2) →
      wV (sto prog 83 (.pointer (some ⟨b4,0,none⟩)) (.agg [.map (some w),.map (some r)].toArray) W7) K':=fun W7 I hb =>
     have hbad:=hbad_of i s hs hb
     hfin W7 false I hbad.symm (fun h=>by rw [hbad] at h; cases h)
    simp only [zEA,qKn,qKr,qKx,qKp,bKn,bKr,bKp,bKx,tKn,tKr,tKx,tKp,zKn,zKr,zKx,zKp,g94]
    refine zAH (fun hbb=>?_) (fun hbb=>?_)
    ·rw [g4,g6,zSs I16.b6]; simp only [zAA]; refine hout W16 I16 (by rw [hps,hbt hbb]; rfl) fun W8 hr8=>?_; simp only [zIR,zEu,qKn,qKr,qKx,qKp,bKn,bKr,bKp,bKx,tKn,tKr,tKx,tKp,zKn,zKr,zKx,zKp,zJW]; exact hr8 _ g4 rfl
    ·have hhead:=hbf hbb; have hr16:=hr.kp I'.top k16'; have hw16:=hw.kp I'.top k16'; obtain ⟨ws3,L3,hws3,hone3⟩:=zNp hr16 s.to; simp only [zIR,qKn,qKr,qKx,qKp,bKn,bKr,bKp,bKx,tKn,tKr,tKx,tKp,zKn,zKr,zKx,zKp,g6,g8,zKP,zEr,zAA]; rw [zAB a81 (a:=⟨b6,0+1,none⟩) (I16.b6.cell rfl)]; simp only [zAA,qa W16 k1216,L3,zBF,zBE]; refine zBx z58 s58 rfl hone3 hws3 t16 fun W18 k18 t18 z18 hB13=>?_; have I18:=I16.kp' k18 t18; have k1218:=k1216.trans k18; have k18':=k12.trans k1218
     have htw:zGg l i s=((l.take i).find? fun x=>decide (x.to=s.to)).isSome:=by
      unfold zGg zCW; rw [Bool.eq_iff_iff,List.any_eq_true,List.find?_isSome]
      constructor
      ·rintro ⟨k,hk,hb⟩; have hk:=List.mem_range.1 hk; rw [List.getElem?_eq_getElem (show k<l.length by omega)] at hb; exact ⟨l[k],List.mem_take_iff_getElem.2 ⟨k,by omega,rfl⟩,by simpa using hb⟩
      ·rintro ⟨x,hx,hb⟩; obtain ⟨k,hk,rfl⟩:=List.mem_take_iff_getElem.1 hx; refine ⟨k,List.mem_range.2 (by omega),?_⟩; rw [List.getElem?_eq_getElem (show k<l.length by omega)]
       simpa using hb
     refine zAH (fun htwice=>?_) (fun htwice=>?_)
     ·rw [g4,zSs I18.b6]; simp only [zAA]; refine hout W18 I18 (by rw [hps,htw,htwice]; simp) fun W8 hr8=>?_; simp only [zEu,qKn,qKr,qKx,qKp,bKn,bKr,bKp,bKx,tKn,tKr,tKx,tKp,zKn,zKr,zKx,zKp,zJW]; exact hr8 _ g4 rfl
     ·simp only [zFk,zAA,qv W18 k1218,zAT u40]; unfold zCZ at hhead
      cases hti:zBQ c s.type with
      | none=>rw [hti] at hhead; cases hhead
      | some t =>
       cases hai:zBQ c s.to with
       | none=>rw [hti,hai] at hhead; cases hhead
       | some aa =>
        rw [hti,hai] at hhead; simp only [Bool.or_eq_false_iff,decide_eq_false_iff_not,Decidable.not_not] at hhead
        have hrl:(zAj c t).length<100000:=by
         have h1:=zFj hC.len hC.fields t; unfold zAj; rw [List.length_map]; omega
        have hhead2:∀ j,j<i+1→∀ y,l[j]?=some y→zCZ c l j y=false:=fun j hj y hy=>by
         rcases Nat.lt_succ_iff_lt_or_eq.1 hj with h | rfl
         ·have:=hpre j h; unfold zFT at this; rw [hy] at this; simp only [Bool.or_eq_false_iff] at this; exact this.1
         ·rw [hs] at hy; cases hy; unfold zCZ; rw [hti,hai]; simp only [Bool.or_eq_false_iff,decide_eq_false_iff_not,Decidable.not_not]; exact hhead
        refine zUa (e:=Env.of e1 [(8,.pointer (some ⟨W'.sz,0,none⟩)),(107,.slice am s.map.length cm),(108,.int .i64 s.map.length)]) I18.cat (I18.b2.cell rfl) ((hB8.ext t12 k1218)) (hmap.imp fun _ _ _ hr=>hr.kp I'.top k18') (hok.kp I'.top k18') hti hai hhead.2 (hml s hmem) hrl g2 rfl rfl rfl (fun t ht=>by
         simp only [List.mem_cons,List.not_mem_nil,or_false] at ht
         rcases ht with rfl | rfl | rfl | rfl | rfl | rfl | rfl | rfl | rfl | rfl <;> first | rfl | exact g8) rfl (fun hm e2 hA2=>?_) (fun hm e2 hA2=>?_)
        ·have q4:e2 4=.pointer (some ⟨b4,0,none⟩):=(hA2 4 (by decide)).trans g4; have q6:e2 6=.pointer (some ⟨b6,0,none⟩):=(hA2 6 (by decide)).trans g6; rw [q4,q6,zSs I18.b6]; simp only [zAA]; refine hout W18 I18 (by rw [hps,hm]; simp) fun W8 hr8=>?_; intro e3 r4 r5; simp only [zNL,zEu,qKn,qKr,qKx,qKp,bKn,bKr,bKp,bKx,tKn,tKr,tKx,tKp,zKn,zKr,zKx,zKp,zJW]; exact hr8 _ r4 r5
        ·have q1:e2 1=.slice (some p) l.length cap:=(hA2 1 (by decide)).trans g1; have q2:e2 2=.pointer (some ⟨W.sz,0,none⟩):=(hA2 2 (by decide)).trans g2; have q4:e2 4=.pointer (some ⟨b4,0,none⟩):=(hA2 4 (by decide)).trans g4; have q6:e2 6=.pointer (some ⟨b6,0,none⟩):=(hA2 6 (by decide)).trans g6; have q8:e2 8=.pointer (some ⟨W'.sz,0,none⟩):=(hA2 8 (by decide)).trans rfl; have q29:e2 29=.slice (some p) l.length cap:=(hA2 29 (by decide)).trans g29; have q30:e2 30=.int .i64 l.length:=(hA2 30 (by decide)).trans g30; have q31:e2 31=.int .i64 i:=(hA2 31 (by decide)).trans g31; have hB818:=hB8.ext t12 k1218; have l58:∀ W7,Blk W7 W'.sz 58 [.string s.type,.string s.to,.slice am s.map.length cm]→ld prog 58 (.pointer (some ⟨W'.sz,0,none⟩)) W7=some (.agg [.string s.type,.string s.to,.slice am s.map.length cm].toArray):=fun W7 hB=>zA8 (vs:=[.string s.type,.string s.to,.slice am s.map.length cm]) a58 s58 rfl (by omega) hB.cells; have lr:∀ W7,Blk W7 b6 83 [.map (some w),.map (some r)]→ld prog 81 (.pointer (some ⟨b6,0+1,none⟩)) W7=some (.map (some r)):=fun W7 hB=>zAB a81 (a:=⟨b6,0+1,none⟩) (hB.cell rfl); have lto:∀ W7,Blk W7 W'.sz 58 [.string s.type,.string s.to,.slice am s.map.length cm]→ld prog 9 (.pointer (some ⟨W'.sz,0+1,none⟩)) W7=some (.string s.to):=fun W7 hB=>zAB a9 (a:=⟨W'.sz,0+1,none⟩) (hB.cell rfl); simp only [qKn,qKr,qKx,qKp,bKn,bKr,bKp,bKx,tKn,tKr,tKx,tKp,zKn,zKr,zKx,zKp,if_true,zNL,q6,q8,zKQ,zKP,zEs,zEr,zAA,lr W18 I18.b6,qt W18 k1218,qa W18 k1218,l58 W18 hB818]; rw [zAB a81 (a:=⟨b6,0,none⟩) (I18.b6.cell rfl)]; simp only [zAA]; have hw18:=hw.kp I'.top k18'; have hr18:=hr.kp I'.top k18'; have hAS:ASpc W18 (.agg [.string s.type,.string s.to,.slice am s.map.length cm].toArray) s:=⟨am,cm,rfl,hmap.imp fun _ _ _ hr=>hr.kp I'.top k18'⟩
         refine hw18.put (key:=Spc.type) hs (fun j y hj hy e=>?_) hAS fun W20 hu20 hc20 hw20=>?_
         ·have:=zT6 hhead2 j i y s hj (by omega) hy hs; rw [e,zIk] at this; cases this
         ·obtain ⟨m18,gw,_⟩:=id hw18; obtain ⟨m18',gr,_⟩:=id hr18; have hwl:=gw.lt t18; have t20:=t18.upd hwl hu20; have I20:RuIn W W20 W.sz b4 b6 r1 r2 w r c:=⟨I18.kp.upd wW hu20,t20,I18.b2.congr (hu20.obj _ (zAr I18.b2 gw)),I18.b4.congr (hu20.obj _ (zAr I18.b4 gw)),I18.b6.congr (hu20.obj _ (zAr I18.b6 gw)),I18.cat.upd hu20 (by omega) (by omega) hc20⟩
          have hr20:=hr18.cell (hu20.obj _ (Ne.symm hwr)) fun _ _ _ _ hc=>hc20 _ _ _ hc; have hB820:Blk W20 W'.sz 58 [.string s.type,.string s.to,.slice am s.map.length cm]:=hB818.congr (hu20.obj _ (zAr hB818 gw))
          refine hr20.put (key:=Spc.to) hs (fun j y hj hy e=>?_) (hAS.cell fun _ _ _ _ hc=>hc20 _ _ _ hc) fun W21 hu21 hc21 hr21=>?_
          ·have:((l.take i).find? fun x=>decide (x.to=s.to)).isSome=true:=by
            rw [List.find?_isSome]; have hjl:=(List.getElem?_eq_some_iff.1 hy).1; exact ⟨y,List.mem_take_iff_getElem.2 ⟨j,by omega,(List.getElem?_eq_some_iff.1 hy).2⟩,by simpa using e⟩
           rw [htwice] at this; cases this
          ·obtain ⟨m20,gr20,_⟩:=id hr20; have hrl20:=gr20.lt t20; have I21:RuIn W W21 W.sz b4 b6 r1 r2 w r c:=⟨I20.kp.upd rW hu21,t20.upd hrl20 hu21,I20.b2.congr (hu21.obj _ (zAr I20.b2 gr20)),I20.b4.congr (hu21.obj _ (zAr I20.b4 gr20)),I20.b6.congr (hu21.obj _ (zAr I20.b6 gr20)),I20.cat.upd hu21 (by omega) (by omega) hc21⟩
           have hw21:=hw20.cell (hu21.obj _ hwr) fun _ _ _ _ hc=>hc21 _ _ _ hc; refine ⟨by simp only [l58 W20 hB820,lto W20 hB820,lr W20 I20.b6,and_self],trivial,?_⟩; simp only [zEu,qKn,qKr,qKx,qKp,bKn,bKr,bKp,bKx,tKn,tKr,tKx,tKp,zKn,zKr,zKx,zKp]; simp only [eKc,eKn,eKa,Nat.reduceEqDiff,↓reduceIte,gKz,gKs,dKs,and_self,q31,zAW,zAA,qKn,qKr,qKx,qKp,bKn,bKr,bKp,bKx,tKn,tKr,tKx,tKp,zKn,zKr,zKx,zKp]; refine ⟨hlt,trivial,I21,q1,q29,q30,by rw [zCT (by omega)],q2,q4,q6,hw21,hr21,zE8 hpre ?_⟩; rw [hps,htw,htwice,hm]; unfold zCZ; rw [hti,hai]; simp only [Bool.or_self,Bool.or_false]; rw [Bool.or_eq_false_iff]; simp only [Bool.or_eq_false_iff,decide_eq_false_iff_not,Decidable.not_not]; exact hhead
   simp only [zAR,zAA]
   cases hti:zBQ c s.type with
   | none =>
    have hh:zCZ c l i s=true:=by unfold zCZ; rw [hti]
    simp only [Option.isSome_none,Bool.not_false,zAn]; exact ⟨trivial,trivial,leaf true _ (.put rfl) rfl rfl (fun _=>hh) (fun h=>by cases h)⟩
   | some t =>
    simp only [Option.isSome_some,Bool.not_true,zAP]
    cases hai:zBQ c s.to with
    | none =>
     have hh:zCZ c l i s=true:=by unfold zCZ; rw [hti,hai]
     simp only [Option.isSome_none,Bool.not_false,zAn]; exact ⟨trivial,trivial,leaf true _ (.put rfl) rfl rfl (fun _=>hh) (fun h=>by cases h)⟩
    | some aa =>
     have hh:zCZ c l i s=((decide (zAN c t≠0) || decide (zAN c aa≠0) || zDe l s i) || decide (s.map.length≠(zAj c aa).length)):=by unfold zCZ; rw [hti,hai]
     simp only [Option.isSome_some,Bool.not_true,zAP]; have e9:ld prog 5 (.pointer (some ⟨W12.sz,0+3,none⟩)) W16=some (.int .u8 (zAN c t)):=zAB a5 (a:=⟨W12.sz,0+3,none⟩) (k16.cell t14 (hB9.cell (hel1 t hti))); have e11:ld prog 5 (.pointer (some ⟨W14.sz,0+3,none⟩)) W16=some (.int .u8 (zAN c aa)):=zAB a5 (a:=⟨W14.sz,0+3,none⟩) (hB11.cell (hel2 aa hai)); obtain ⟨ara,cra,la,hra⟩:=I16.cat.rw.some hai; simp only [zNB,zAA,e9,e11,zBW,zBO,zEs,zEr,zFk,zD6,qv W16 k1216,qm2 W16 I16,qa W16 k1216,qt W16 k1216,la,zAT u40,zAT u29]
     refine zAH (fun he=>?_) (fun he=>?_)
     ·have he:zAN c t≠0:=by simpa using he
      exact ⟨by simp only [e9,and_self],trivial,leaf true _ (.put rfl) rfl rfl (fun _=>by rw [hh,decide_eq_true he]; rfl) (fun h=>by cases h)⟩
     ·have he:¬zAN c t≠0:=by simpa using he
      refine zAH (fun he2=>?_) (fun he2=>?_)
      ·have he2:zAN c aa≠0:=by simpa using he2
       exact ⟨by simp only [e9,e11,and_self],trivial,leaf true _ (.put rfl) rfl rfl (fun _=>by rw [hh,decide_eq_true he2]; simp) (fun h=>by cases h)⟩
      ·have he2:¬zAN c aa≠0:=by simpa using he2
       rw [decide_eq_false he,decide_eq_false he2,Bool.or_self,Bool.false_or] at hh
       have hlast:zDe l s i=false→((s.map.length:Int) != ((zAj c aa).length:Nat))=zCZ c l i s:=fun hp=>by
        rw [hh,hp,Bool.false_or]
        by_cases e:s.map.length=(zAj c aa).length
        ·rw [decide_eq_false (by simpa using e),e]; simp
        ·rw [decide_eq_true e]; simp; omega
       cases i with
       | zero =>
        refine zAH (fun h=>by simp at h) (fun _=>?_); have hp:=hlast rfl; exact ⟨by simp only [e9,e11,qv W16 k1216,qm2 W16 I16,qa W16 k1216,la,zAT u40,zAT u29,and_self],trivial,leaf _ _ (.put rfl) rfl rfl (fun h=>by rw [←hp]; exact h) (fun h=>by rw [←hp]; exact h)⟩
       | succ i =>
        refine zAH (fun _=>?_) (fun h=>by have:=of_decide_eq_false h; omega); have hlt':i<l.length:=by omega
        have hxp:=List.getElem?_eq_getElem hlt'; obtain ⟨p',hp',hrp⟩:=hcell i _ hxp
        cases hp'
        have r3:ld prog 9 (.pointer (some ⟨p.block,p.off+i*3,none⟩)) W16=some (.string l[i].type):=zAB a9 (a:=⟨p.block,p.off+i*3,none⟩) (k16'.cell I'.top hrp.type); have es:((i+1:Nat):Int)-1=(i:Nat):=by omega
        simp only [zCD,zAA,es]; rw [zBU (by omega) (by omega),zAb u23 s58 hlt']; simp only [zAA,zEs,r3,zMG]; have hpb:zDe l s (i+1)=!bLt (sb l[i].type) (sb s.type):=by unfold zDe; simp only [hxp]
        refine zAH (fun hq=>?_) (fun hq=>?_)
        ·exact ⟨by simp only [e9,e11,qt W16 k1216,r3,and_self],trivial,leaf true _ (.put rfl) rfl rfl (fun _=>by rw [hh,hpb,hq]; rfl) (fun h=>by cases h)⟩
        ·have hp:=hlast (hpb.trans hq); exact ⟨by simp only [e9,e11,qt W16 k1216,r3,qv W16 k1216,qm2 W16 I16,qa W16 k1216,la,zAT u40,zAT u29,and_self],trivial,leaf _ _ (.put rfl) rfl rfl (fun h=>by rw [←hp]; exact h) (fun h=>by rw [←hp]; exact h)⟩
  ·have htk:l.take i=l:=List.take_of_length_le (by omega); rw [htk] at hw hr; have hall:∀ j,j<l.length→zFT c l j=false:=fun j hj=>hpre j (by omega); simp only [qKn,qKr,qKx,qKp,bKn,bKr,bKp,bKx,tKn,tKr,tKx,tKp,zKn,zKr,zKx,zKp,if_true,zJW]; simp only [eKc,eKn,eKa,Nat.reduceEqDiff,↓reduceIte,gKz,gKs,dKs,and_self,h1]; simp only [zAT u23,zAA]
   refine zCX (fun i e ds W'=>ds=[]∧RuIn W W' W.sz b4 b6 r1 r2 w r c∧e 161=.slice a l.length cap∧e 162=.int .i64 l.length∧e 163=.int .i64 i∧e 4=.pointer (some ⟨b4,0,none⟩)∧e 6=.pointer (some ⟨b6,0,none⟩)∧SpM Spc.type W' w l∧SpM Spc.to W' r l∧∀ j s,j<i→l[j]?=some s→zJM l s=false) l.length
    ⟨rfl,I',rfl,rfl,rfl,h4,h6,hw,hr,by omega⟩ ?_
   rintro i2 e2 ds2 W2 hi2 ⟨rfl,I2,g161,g162,g163,g4,g6,hw2,hr2,hpre2⟩; rw [zVb,g161,g162,g163,g6]; simp only [zAZ,zAA]
   refine zGZ (fun hlt=>?_) (fun hge2=>?_)
   ·obtain ⟨s,hs⟩:∃ s,l[i2]?=some s:=⟨_,List.getElem?_eq_getElem hlt⟩
    have hlW:IsSl 3 (RSpc W2) (.slice a l.length cap) l:=hl.imp fun _ _ _ hr=>hr.kp ht I2.kp; obtain ⟨a',cap',ha,hcell⟩:=id hlW
    cases ha
    obtain ⟨p,rfl,hrs⟩:=hcell i2 _ hs; obtain ⟨am,cm,hld,hmap,hok⟩:=hrs.ld; rw [zAb u23 s58 hlt]; simp only [zAA,hld]; refine zBx z58 s58 rfl rfl rfl I2.top fun W12 k12 t12 z12 hB8=>?_; have I12:=I2.kp' k12 t12; obtain ⟨ws,L,hws,hone⟩:=zNp (hw2.kp I2.top k12) s.to; simp only [zKQ,zEr,zAA]; rw [zAB a81 (a:=⟨b6,0,none⟩) (I12.b6.cell rfl),zAB a9 (a:=⟨W2.sz,0+1,none⟩) (hB8.cell rfl)]; simp only [zAA,L,zBF,zBE]; refine zBx z58 s58 rfl hone hws t12 fun W14 k14 t14 z14 hB20=>?_; have I14:=I12.kp' k14 t14; have hlate:zJM l s=(l.find? fun x=>decide (x.type=s.to)).isSome:=rfl
    refine zAH (fun hb=>?_) (fun hb=>?_)
    ·rw [g4,zSs I14.b6]; simp only [zAA]
     have hbad:zAq c l=false:=by
      rw [hsp,zBk hlt (by rw [zHz hs,hlate,hb]; simp)]; rfl
     refine hfin W14 false I14 hbad.symm (fun h=>by rw [hbad] at h; cases h) fun W8 hr8=>?_; simp only [zKX,qKn,qKr,qKx,qKp,bKn,bKr,bKp,bKx,tKn,tKr,tKx,tKp,zKn,zKr,zKx,zKp,zRH]; exact hr8 _ g4 rfl
    ·simp only [zKX,qKn,qKr,qKx,qKp,bKn,bKr,bKp,bKx,tKn,tKr,tKx,tKp,zKn,zKr,zKx,zKp]; simp only [eKc,eKn,eKa,Nat.reduceEqDiff,↓reduceIte,gKz,gKs,dKs,and_self,g163,zAW,zAA,qKn,qKr,qKx,qKp,bKn,bKr,bKp,bKx,tKn,tKr,tKx,tKp,zKn,zKr,zKx,zKp]; refine ⟨hlt,trivial,I14,g161,g162,by rw [zCT (by omega)],g4,g6,hw2.kp I2.top (k12.trans k14),hr2.kp I2.top (k12.trans k14),fun j s' hj hs'=>?_⟩
     rcases Nat.lt_succ_iff_lt_or_eq.1 hj with h | rfl
     ·exact hpre2 j s' h hs'
     ·rw [hs] at hs'; cases hs'; rw [hlate]; exact hb
   ·have hgood:zAq c l=true:=by
     rw [hsp,zCJ fun j hj=>?_]
     ·rfl
     ·have hxj:=List.getElem?_eq_getElem hj; rw [zHz hxj,hall j hj,hpre2 j _ (by omega) hxj]; rfl
    simp only [qKn,qKr,qKx,qKp,bKn,bKr,bKp,bKx,tKn,tKr,tKx,tKp,zKn,zKr,zKx,zKp,if_true,zRH]; simp only [eKc,eKn,eKa,Nat.reduceEqDiff,↓reduceIte,gKz,gKs,dKs,and_self,g4,g6]; rw [zSs I2.b6]; simp only [zAA]; exact hfin W2 true I2 hgood.symm (fun _=>⟨hw2,hr2⟩) fun W8 hr8=>hr8 _ g4 rfl
end Go.Ce
