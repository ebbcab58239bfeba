/- A part of the proof: Pg, Ph, Pi, Pj, Pk, ShA, Hh, Pl, Pm, Pn, Po, Pp, Pq, Pr, ShB, Ps, Pt, Pu, Pv, Pw, Px, Py, Pz, ShC, Qa, Qb, Qc, Qd, Qe, Qf, Qg, Qh, Qi. -/
import Derived.Test.YtmknebebbbjdlaaGreatW02
import Derived.Test.YtmknebebbbjdlaaGreatProg
set_option linter.unusedSectionVars false
set_option linter.unusedVariables false
set_option linter.unusedSimpArgs false
set_option linter.defProp false
set_option maxRecDepth 200000
namespace Go.Ce
open Go Go.Proofs Go.Proofs.Tryz
theorem C'.kp{W W':CW}{el:TypeId}{n:Nat}{v:Value}{cs:List Value}(h:C' W el n v cs)(ht:Ag W)(k:Kp W W'):C' W' el n v cs:=by
 cases h with
 |nil=>exact C'.nil
 |some hB hl=>exact C'.some (hB.ext ht k) hl
theorem Mi(c:List AV):∀(f i:Nat) (l:List Nat),Bg c f i=some l→l.length≤f+1∧∀j,j∈l→j<c.length
 | f,i,l,h=>by
  unfold Bg at h
  cases hx:c[i]? with
  |none=>rw[hx]at h;cases h
  | some x=>
   rw[hx]at h;have hi:i<c.length:=(aaa.1 hx).1;simp only at h
   split at h
   ·cases h
    exact⟨by simp,λj hj=>by rw[dx.1 hj];exact hi⟩
   ·cases f with
    |zero=>cases h
    | succ f=>
     simp only at h
     split at h
     ·rename_i j hj
      cases hl:Bg c f j with
      |none=>rw[hl]at h;cases h
      | some m=>
       rw[hl]at h
       cases h
       obtain⟨h1,h2⟩:=Mi c f j m hl
       exact⟨by simp only[aap];omega,λj hj=>by
        rcases aaE.1 hj with rfl|hj
        ·exact hi
        ·exact h2 j hj⟩
     ·cases h
termination_by f=>f
def KG(c:List AV)(j:Nat):List Vq:=match c[j]? with
 |some x=>x.fields
 |none=>[]
def EP(c:List AV)(i:Nat):List Vq:=match Bg c c.length i with
 |some l=>l.reverse.flatMap (KG c)
 |none=>[]
def qq(f:Vq):List Value:=[.string f.name,.int .u8 f.kind]
theorem gk(f:Vq):(qq f).length=2:=rfl
theorem z72:Hr prog 72=some (.agg #[.string ⟨#[]⟩,.int .u8 0]):=by kernel_rfl
theorem RZ.cells{W:CW}{b o:Nat}{x:Vq}(h:RZ W b o x):Cells W b o (qq x):=by
 intro j v hj
 match j,hj with
 |0,hj=>cases hj;exact h.name
 |1,hj=>cases hj;exact h.kind
theorem vY{c:List AV}{m:Nat}(hf:∀x,x∈c→x.fields.length≤m)(j:Nat):(KG c j).length≤m:=by
 unfold KG
 cases hx:c[j]? with
 |none=>simp
 |some x=>exact hf x (aai hx)
theorem gl{c:List AV}{m:Nat}(hf:∀x,x∈c→x.fields.length≤m):∀l:List Nat,((l.flatMap (KG c)).flatMap qq).length≤l.length*(2*m)
 |[]=>by simp
 | j::l=>by
  rw[aas,aa4,aah,aap,acG];have h1:=gl hf l
  have h2:((KG c j).flatMap qq).length≤2*m:=by
   have h3:=vY hf j
   have:∀fs:List Vq,(fs.flatMap qq).length=2*fs.length:=by
    intro fs
    induction fs with
    |nil=>rfl
    |cons f fs ih=>rw[aas,aah,ih,aap,gk];omega
   rw[this];omega
  omega
def Al(c:List AV)(i:Nat):List Int:=(EP c i).map (·.kind)
def BU(l:List Int):List Value:=l.map λk=>Value.int .u8 k
theorem z5:Hr prog 5=some (.int .u8 0):=by kernel_rfl
theorem by5:(prog.info? 5).map (·.bytes)=some 1:=by kernel_rfl
theorem ABX(n:Int)(W:CW):W_ prog 29 1 [(0,.int .u8 n)] W=some (.slice (some ⟨W.sz,0,none⟩) 1 1,W.new (.cells (Tr.nil.AS 0 [.int .u8 n]) [Value.int .u8 n].length #[] 5)):=by kernel_rfl
theorem ZV(fs:List Vq):(fs.flatMap qq).length=2*fs.length:=by
 induction fs with
 |nil=>rfl
 |cons f fs ih=>rw[aas,aah,ih,aap,gk];omega
theorem N3{c:List AV}(hlen:c.length<200)(hf:∀x,x∈c→x.fields.length≤100)(i:Nat):(EP c i).length≤20100:=by
 unfold EP
 cases hl:Bg c c.length i with
 |none=>simp
 |some l=>
  have h1:=(Mi c _ _ _ hl).1;have h2:=gl hf l.reverse;rw[ZV]at h2;have:l.reverse.length*(2*100)≤200*200:=adb (by simp;omega) (by omega);show(l.reverse.flatMap (KG c)).length≤20100;omega
def A0(c:List AV)(i k:Nat):Int:=match c[i]? with
 |some x=>if x.elem≠0 then x.elem else((Al c i)[k]?).getD 0
 |none=>0
def ACo(W:CW)(b o:Nat)(x:ByteArray):Prop:=W.cell b o=some (.string x)
def CD(n:Nat):List Int:=if n<128 then[(n:Int)]else((n%128+128:Nat):Int)::CD (n/128)
termination_by n
decreasing_by omega
theorem ABY(n:Int):cl prog 3 5 (.int .i64 n)=some (.int .u8 (IntKind.u8.wrap n)):=by kernel_rfl
theorem vZ{x:Int}(h1:0≤x)(h2:x<256):IntKind.u8.wrap x=x:=by
 unfold IntKind.wrap;simp[IntKind.bits,IntKind.signed];omega
def JD(s:ByteArray):List Int:=(sb s).map λb=>(b.toNat:Int)
def Hi(s:ByteArray):List Int:=CD s.size++JD s
end Go.Ce
namespace Go.Ce
section
variable {α:Type}{W:CW}{el n:Nat}{v:Value}
theorem XZ{enc:α→List Value}(hn:∀x,(enc x).length=n)(l:List α):(l.flatMap enc).length=l.length*n:=by
 induction l with
 |nil=>simp
 |cons x l ih=>rw[aas,aah,ih,hn,aap,acG,ac6]
theorem AF_{enc:α→List Value}(hn:∀x,(enc x).length=n)(h0:0<n){l:List α}(h:C' W el n v (l.flatMap enc)):At n (λb o x=>Cells W b o (enc x)) v l:=by
 generalize hc:l.flatMap enc=cs at h;have hl:=XZ hn l;rw[hc]at hl
 cases h with
 | nil=>
  have:l.length=0:=by
   rcases abM l.length with h|h
   ·exact h
   ·have:=Nat.mul_pos h h0;rw[←hl]at this;simp at this
  exact⟨none,0,by rw[this],λi x hx=>by have:=(aaa.1 hx).1;omega⟩
 | @some b len _ hB dS=>
  have:len=l.length:=acw h0 (by rw[←dS,hl]);refine⟨some ⟨b,0,none⟩,len,by rw[this],λi x hx=>⟨_,rfl,?_⟩⟩;have h1:=hB.cells;rw[←hc]at h1;exact QC hn l 0 h1 i x hx
theorem vd(f:α→Value)(l:List α):l.map f=l.flatMap λx=>[f x]:=by
 induction l with
 |nil=>rfl
 |cons x l ih=>rw[abr,aas,ih];rfl
theorem JE{f:α→Value}{l:List α}(h:C' W el 1 v (l.map f)):At 1 (λb o x=>W.cell b o=some (f x)) v l:=by
 rw[vd]at h;obtain⟨a,cap,h1,h2⟩:=AF_ (n:=1) (λ_=>rfl) (by omega) h;refine⟨a,cap,h1,λi x hx=>?_⟩;obtain⟨p,hp,hr⟩:=h2 i x hx;exact⟨p,hp,by have:=hr 0 (f x) rfl;rwa[aa6]at this⟩
end
theorem JG{P:Program}{t el':TypeId}(u:P.underlying t=some (.slice el')){W W':CW}{el n:Nat}{v:Value}{cs:List Value}(h:C' W el n v cs)(hn:0<n){m:Nat}(hm:cs.length=m*n):Kw P t v W'=some (.int .i64 m):=by
 cases h with
 | nil=>
  have:m=0:=by
   rcases abM m with h|h
   ·exact h
   ·have:=Nat.mul_pos h hn;rw[←hm]at this;simp at this
  rw[Aj u,this]
 | @some b len _ hB hl=>
  have:len=m:=acw hn (by rw[←hl,hm]);rw[Aj u,this]
def DR(ts:List Nat)(e e':Env):Prop:=∀t,t∈ts→e' t=e t
theorem DR.refl(ts:List Nat)(e:Env):DR ts e e:=λ_ _=>rfl
theorem DR.trans{ts:List Nat}{a b c:Env}(h:DR ts a b)(k:DR ts b c):DR ts a c:=λt ht=>(k t ht).trans (h t ht)
theorem DR.put{ts:List Nat}{e:Env}{l:List (Nat×Value)}(h:(ts.all λt=>l.all λp=>!Nat.beq t p.1)=true):DR ts e (Env.of e l):=by
 intro t ht;have h1:=aax.1 h t ht;clear h ht
 induction l with
 |nil=>rfl
 |cons p l ih=>
  simp only[abp,dy,aaC]at h1;simp only[Env.of,h1.1,cond_false];exact ih h1.2
def N4(J:Nat→Env→List Deferred→CW→Prop)(i n:Nat)(K:AB):AB:=λx e ds W=>match x with
 | .normal=>i<n∧J (i+1) e ds W
 |x=>K x e ds W
section
variable (J:Nat→Env→List Deferred→CW→Prop)(i n:Nat)(K:AB)(e:Env)(ds:List Deferred)(W:CW)
theorem IW:N4 J i n K .normal e ds W=(i<n∧J (i+1) e ds W):=rfl
theorem ey:N4 J i n K .ret e ds W=K .ret e ds W:=rfl
theorem QV(j:Nat):N4 J i n K (.exit j) e ds W=K (.exit j) e ds W:=rfl
theorem zKp(ch:List PanicEntry):N4 J i n K (.panic ch) e ds W=K (.panic ch) e ds W:=rfl
end
theorem EZ{P:Program}{L:List FuncId}{ro:Option Nat}{fn:FuncId}{nt:Nat}{b:Code}{K:AB}(J:Nat→Env→List Deferred→CW→Prop)(n:Nat){e:Env}{ds:List Deferred}{W:CW}(h0:J 0 e ds W)
  (M1:∀i e ds W,i≤n→J i e ds W→D8 P L ro fn nt b e ds W (N4 J i n K)):Gi P L ro fn nt (.loop b) e ds W K:=by
 suffices key:∀k i e ds W,n-i=k→i≤n→J i e ds W→Gi P L ro fn nt (.loop b) e ds W K from key n 0 e ds W rfl (aa7 _) h0
 intro k
 induction k using Nat.strongRecOn with
 | ind k ih=>
  intro i e ds W hk M0 hi a ha hn;obtain⟨m,⟨x1,a1,W1⟩,h1,e1,h2,h3,h4⟩:=F_ (M1 i e ds W M0 hi) a ha hn
  cases x1 with
  |normal=>
   obtain⟨h5,h6⟩:=h4;obtain⟨m',o,h7,h8⟩:=ih (n-(i+1)) (by omega) (i+1) e1 a1.defers W1 rfl h5 h6 a1 h2 h3;refine⟨max m m'+1,o,?_,h8⟩;show Q0 ((DY P L (max m m')).code ro fn b a W) ((DY P L (max m m')).code ro fn (.loop b))=some [o];rw[JV (aa9 m m') h1];exact FI (JV (aaZ m m') h7)
  |_=>
   refine⟨m+1,_,?_,e1,h2,h3,h4⟩;show Q0 ((DY P L m).code ro fn b a W) ((DY P L m).code ro fn (.loop b))=_;rw[h1];exact FI rfl
theorem Lr{bad:Nat→Bool}{i:Nat}(h:∀m,m<i→bad m=false)(hi:bad i=false):∀m,m<i+1→bad m=false:=λm hm=>by
 rcases aaD.1 hm with h2|rfl
 ·exact h m h2
 ·exact hi
theorem Dy{i:Nat}(h:i<1000000000000):IntKind.i64.wrap ((i:Int)+1)=((i+1:Nat):Int):=by rw[wrap64 (by omega) (by omega)];rfl
theorem Hx{i n:Nat}{X Y:Prop}(h1:i<n→X)(h2:n≤i→Y):wI (.bool (decide ((i:Int)<(n:Int)))) X Y :=
 AH (λh=>h1 (by have:=of_decide_eq_true h;omega)) (λh=>h2 (by have:=of_decide_eq_false h;omega))
theorem Tq{vs ws:List Value}(h:ws.length=vs.length):putAt vs 0 ws=ws:=by
 unfold putAt;rw[acO,abf,List.drop_eq_nil_of_le (by omega),aaR]
section
variable {P:Program}
theorem DM{t:TypeId}{m:Nat}{z:Value}(hz:Hr P t=some z)(hs:De P t=some m)(uT:z.cells.size=m){ws:List Value}(h1:ws.all BG=true)(hm:ws.length=m){W:CW}{K:Value→CW→Prop}(ht:Ag W)
  (hk:∀W2,Kp W W2→Ag W2→W2.sz=W.sz+1→Aq W2 W.sz t ws→K (.pointer (some ⟨W.sz,0,none⟩)) W2):Iw (n_ P t W) λv W1=>wV (NK P t v (.agg ws.toArray) W1) λW2=>K v W2:=by
 refine H' hz hs ht λW1 k1 t1 z1 hB=>?_;refine Fg hs (a:=⟨W.sz,0,none⟩) h1 hm hB (by simp[uT]) λW2 hu Ey=>?_;rw[Tq (by simp[uT,hm])]at Ey;exact hk W2 (k1.A6 (aaf _) hu) (t1.A6 (by rw[z1];exact acT _) hu) (by rw[hu.sz,z1]) Ey
end
section
variable {P:Program}
theorem Mj{t el:TypeId}{ts:List TypeId}{n bytes:Nat}{z x:Value}{xs:List Value}(ut:P.underlying t=some (.slice el))(hs:De P el=some n)(hz:Hr P el=some z)(yu:z.cells.size=n)(hn:0<n)(yv:(P.info? el).map (·.bytes)=some bytes)(hb:bytes≤1024)
  (ACm:∀W,W_ P t 1 [(0,x)] W=some (.slice (some ⟨W.sz,0,none⟩) 1 1,W.new (.cells (Tr.nil.AS 0 xs) xs.length #[] el))) (qO:xs.length=n) (RJ:xs.all BG=true)
  {W:CW} (ht:Ag W) {v:Value} {cs:List Value} (hv:C' W el n v cs) (To:cs.length<900000) {K:Value→CW→Value→CW→Prop}
  (hk:∀u Wa v1 W1,Kp W Wa→Ag Wa→LF v W W1→Ag W1→C' W1 el n v1 (cs++xs)→(∀A,A≤W.sz→BZ A v1)→K u Wa v1 W1):Iw (W_ P t 1 [(0,x)] W) λu W1=>Iw (app P (t::t::ts) v u W1) λv1 W2=>K u W1 v1 W2:=by
 refine GL (ACm W) ?_;have hkp:Kp W (W.new (.cells (Tr.nil.AS 0 xs) xs.length #[] el)):=.new _
 have hB:Aq (W.new (.cells (Tr.nil.AS 0 xs) xs.length #[] el)) W.sz el xs:=⟨_,_,_,by rw[A7,aad rfl],rfl,λk w hw=>by
  rw[B6 _ _ _ (aaa.1 hw).1,aaj,hw];rfl⟩
 have Iu:C' (W.new (.cells (Tr.nil.AS 0 xs) xs.length #[] el)) el n v cs:=by
  cases hv with
  |nil=>exact .nil
  |some h hl=>exact .some (h.ext ht hkp) hl
 have ew:∀b l c,v=.slice (some b) l c→b.block<W.sz:=by
  intro b l c e
  cases hv with
  |nil=>cases e
  |some h hl=>cases e;exact h.lt ht
 have hu:JH P t=true:=by unfold JH;rw[ut]
 refine oU (x:=.slice (some ⟨W.sz,0,none⟩) 1 1) (m:=1) (news:=xs) ut hu hs hz yu hn yv hb (ht.new _) Iu rfl (by omega) ?_ RJ (by omega) (by omega) λW1 len hg hl P_=>?_
 ·show FD (some ⟨W.sz,0,none⟩) (1*n) _=some xs;rw[acD,←qO];exact Ob hB.cells
 ·refine hk _ _ _ W1 hkp (ht.new _) ⟨by rw[hg.sz,HB];omega,λi hi Dg=>?_⟩ (hg.top (ht.new _)) (.some P_ hl) (λA hA b l c e=>by cases e;rw[HB];show A≤W.sz+1;omega);rw[hg.obj i (by rw[HB];omega) Dg,A7,aac (by omega)]
end
theorem Mk{W W':CW}{el n i:Nat}{v:Value}{cs:List Value}(h:C' W el n v cs)(hu:Dn i W W')(hi:∀b l c,v=.slice (some b) l c→b.block≠i):C' W' el n v cs:=by
 cases h with
 |nil=>exact C'.nil
 |some hB hl=>exact C'.some (hB.congr (hu.obj _ (hi _ _ _ rfl))) hl
theorem Ml{W:CW}{el n:Nat}{v:Value}{cs:List Value}(h:C' W el n v cs):BG v=true:=by cases h<;>rfl
theorem aM{W:CW}{el el' n i:Nat}{v:Value}{cs ws:List Value}(h:C' W el n v cs)(hB:Aq W i el' ws)(he:el≠el'):∀b l c,v=.slice (some b) l c→b.block≠i:=by
 intro b l c hv hb
 cases h with
 |nil=>cases hv
 |some h1 hl=>
  cases hv
  simp only at hb;subst hb;obtain⟨c1,n1,z1,h2,_⟩:=h1;obtain⟨c2,n2,z2,h3,_⟩:=hB;rw[h2]at h3
  cases h3
  exact he rfl
theorem LF.IA{v:Value}{W W':CW}(h:LF v W W')(ht:Ag W){i:Nat}{el:TypeId}{ws:List Value}(hB:Aq W i el ws)(hi:∀b l c,v=.slice (some b) l c→b.block≠i):Aq W' i el ws :=
 hB.congr (h.obj i (hB.lt ht) λb l c e=>(hi b l c e).symm)
theorem Mm{P:Program}{fn:Func}{Q:Ending→CW→Prop}{e:Env}{W:CW}{s:Tmp}{ty:TypeId}{p:Addr}{v:Value}(hr:fn.results.toList=[.cell s ty])(he:e s=.pointer (some p))(hv:ld P ty (.pointer (some p)) W=some v)(hq:Q (.returned v) W):AQ P fn Q .ret e [] W:=by
 have hv:LS P ty p W=some v:=hv;simp only[AQ,CI,hr,Jt,qX,he,hv];exact hq
structure Bm(S:Nat→Prop)(W W':CW):Prop where
 sz:W.sz≤W'.sz
 obj:∀i,i<W.sz→¬S i→W'.obj i=W.obj i
theorem Bm.refl(S:Nat→Prop)(W:CW):Bm S W W:=⟨aaf _,λ_ _ _=>rfl⟩
theorem Bm.Io{S:Nat→Prop}{W W':CW}(h:Kp W W'):Bm S W W':=⟨h.sz,λi hi _=>h.obj i hi⟩
theorem Bm.then{S T:Nat→Prop}{A B C:CW}(h:Bm S A B)(k:Bm T B C)(hT:∀i,i<A.sz→T i→S i):Bm S A C :=
 ⟨abh h.sz k.sz,λi hi hs=>(k.obj i (abC hi h.sz) λht=>hs (hT i hi ht)).trans (h.obj i hi hs)⟩
theorem Bm.kp{S:Nat→Prop}{A B C:CW}(h:Kp A B)(k:Bm S B C)(hS:∀i,S i→A.sz≤i):Kp A C :=
 ⟨abh h.sz k.sz,λi hi=>(k.obj i (abC hi h.sz) λhs=>by have:=hS i hs;omega).trans (h.obj i hi)⟩
theorem Bm.cell{S:Nat→Prop}{W W':CW}(h:Bm S W W')(ht:Ag W){b k:Nat}(hb:¬S b){v:Value}(hc:W.cell b k=some v):W'.cell b k=some v:=by
 rw[P9 (h.obj b (dK ht hc) hb)];exact hc
theorem Bm.IA{S:Nat→Prop}{W W':CW}(h:Bm S W W')(ht:Ag W){b:Nat}(hb:¬S b){el:TypeId}{ws:List Value}(hB:Aq W b el ws):Aq W' b el ws :=
 hB.congr (h.obj b (hB.lt ht) hb)
def Bh(v:Value)(i:Nat):Prop:=∃b l c,v=.slice (some b) l c∧b.block=i
theorem LF.D4{v:Value}{W W':CW}(h:LF v W W'):Bm (Bh v) W W':=⟨h.sz,λi hi hs=>h.obj i hi λb l c e hb=>hs ⟨b,l,c,e,hb.symm⟩⟩
theorem Dn.D4{i:Nat}{W W':CW}(h:Dn i W W'):Bm (·=i) W W':=⟨by rw[h.sz];exact aaf _,λj _ hj=>h.obj j hj⟩
theorem Bm.own{S:Nat→Prop}{W W':CW}(h:Bm S W W')(ht:Ag W){el n:Nat}{v:Value}{cs:List Value}(ho:C' W el n v cs)(hv:∀i,Bh v i→¬S i):C' W' el n v cs:=by
 cases ho with
 |nil=>exact C'.nil
 |some hB hl=>exact C'.some (h.IA ht (hv _ ⟨_,_,_,rfl,rfl⟩) hB) hl
theorem BZ.in{A:Nat}{v:Value}(h:BZ A v){i:Nat}(hi:Bh v i):A≤i:=by
 obtain⟨b,l,c,e,rfl⟩:=hi;exact h b l c e
theorem N5{W:CW}(ht:Ag W){el n:Nat}{v:Value}{cs:List Value}(h:C' W el n v cs){i:Nat}(hi:Bh v i):i<W.sz:=by
 obtain⟨b,l,c,e,rfl⟩:=hi
 cases h with
 |nil=>cases e
 |some hB hl=>cases e;exact hB.lt ht
section
variable {P:Program}
theorem ABZ{t el:TypeId}{z:Value}{bytes:Nat}(ut:P.underlying t=some (.slice el))(hs:De P el=some 1)(hz:Hr P el=some z)(hzc:z.cells=#[z])(yv:(P.info? el).map (·.bytes)=some bytes)(hb:bytes≤1024){n:Nat}(hn:n≤2000000){k1 k2:IntKind}{W:CW}(ht:Ag W){K:Value→CW→Prop}
  (hk:∀W1,Kp W W1→Ag W1→W1.sz=W.sz+1→Aq W1 W.sz el (List.replicate n z)→K (.slice (some ⟨W.sz,0,none⟩) n n) W1):Iw (mks P t (.int k1 n) (.int k2 n) W) K:=by
 have hc:mks P t (.int k1 n) (.int k2 n) W=some (.slice (some ⟨W.sz,0,none⟩) n n,W.new (.cells .nil (n*1) z.cells el)):=by
  unfold mks;simp only[ut,hs,hz,CS,yv,abc,hzc];rw[show Nat.ble bytes 1024=true from aan hb];simp only[cond_eq_ite];rw[aad (by simp;omega)];simp
 refine GL hc (hk _ (.new _) (ht.new _) rfl ⟨.nil,_,_,by rw[A7,aad rfl],by simp,λk v hv=>?_⟩);have h1:v=z:=acH (aai hv);subst h1;unfold cellAt;simp only[Tr.get_nil,hzc];simp[Nat.mod_one]
end
section
variable {P:Program}
end
end Go.Ce
namespace Go.Ce
open Go Go.Proofs Go.Proofs.Tryz
def ER(n:Nat)(p:Nat→Bool):Bool:=(List.range n).any p
theorem EU{n j:Nat}{p:Nat→Bool}(hj:j<n)(h:p j=true):ER n p=true:=aaH.2 ⟨j,aaV.2 hj,h⟩
theorem GM{n:Nat}{p:Nat→Bool}(h:∀j,j<n→p j=false):ER n p=false:=by
 unfold ER;rw[abU];intro j hj;rw[h j (aaV.1 hj)];simp
theorem DS{n:Nat}{p:Nat→Bool}(h:ER n p=false){j:Nat}(hj:j<n):p j=false:=by
 cases hp:p j with
 |false=>rfl
 |true=>rw[EU hj hp]at h;cases h
def JO(k:Int):Bool:=k==1||k==2
def Hj(kind n:Int)(size:Nat):Bool:=!((kind==1&&(decide (n< -1000000000)||decide (n>1000000000)))||(kind==2&&(decide (n<0)||decide (n>size))))
def Ah(c:List AV)(s:ByteArray):Option Nat:=c.findIdx? λx=>decide (x.name=s)
def FL(c:List AV)(i:Nat)(x:AV)(many:Nat):Bool:=if x.elem≠0 then decide (many≤200)else decide (many=(Al c i).length)
def A8(c:List AV)(x:BC)(size:Nat):Bool:=match Ah c x.type with
 |none=>false
 | some i=>match c[i]? with
  |none=>false
  |some s=>FL c i s x.AL.length&& !ER x.AL.length λk=>match x.AL[k]? with
   |some n=>!Hj (A0 c i k) n size
   |none=>false
def G8(c:List AV)(h:List BC):Int:=if 1000<h.length then 1000 else Jz h λx=>!A8 c x h.length
theorem Eh.kp{W W':CW}{b o:Nat}{x:Int}(h:Eh W b o x)(ht:Ag W)(k:Kp W W'):Eh W' b o x:=⟨k.cell ht h.1,h.2⟩
theorem JC.kp{W W':CW}{b o:Nat}{x:BC}(h:JC W b o x)(ht:Ag W)(k:Kp W W'):JC W' b o x :=
 ⟨k.cell ht h.type,by obtain⟨v,h1,h2⟩:=h.AL;exact⟨v,k.cell ht h1,h2.imp λ_ _ _ hr=>hr.kp ht k⟩⟩
theorem XV.kp{W W':CW}{b o:Nat}{x:Bq}(h:XV W b o x)(ht:Ag W)(k:Kp W W'):XV W' b o x :=
 ⟨k.cell ht h.type,k.cell ht h.to,by obtain⟨v,h1,h2,h3⟩:=h.map;exact⟨v,k.cell ht h1,h2.imp λ_ _ _ hr=>hr.kp ht k,h3.kp ht k⟩⟩
def AIx(W:CW)(u:Value)(x:BC):Prop:=∃v,u=.agg #[.string x.type,v]∧At 1 (Eh W) v x.AL
theorem JC.ld{W:CW}{b o:Nat}{x:BC}(h:JC W b o x):∃u,ld prog 56 (.pointer (some ⟨b,o,none⟩)) W=some u∧AIx W u x:=by
 obtain⟨v,h1,h2⟩:=h.AL;refine⟨_,Bn (vs:=[.string x.type,v]) gY LD rfl (by omega) ?_,v,rfl,h2⟩;intro j w hj
 match j,hj with
 |0,hj=>cases hj;exact h.type
 |1,hj=>cases hj;exact h1
theorem DI{c:List AV}{s:ByteArray}{i:Nat}(h:Ah c s=some i):i<c.length:=(aaq.1 h).1
def Ts(mp:List Int)(k:Nat)(n:Int):Bool:=ER k λm=>decide (mp[m]?=some n)
def Mn(fr to:List Int)(mp:List Int)(k:Nat):Bool:=match mp[k]? with
 |none=>true
 |some n=>decide (n<0)||decide (n≥fr.length)||decide (fr[n.toNat]?≠to[k]?)||Ts mp k n
def Mo(l:List Bq)(s:Bq)(i k:Nat):Bool:=match l[k]? with
 |none=>false
 |some x=>decide (x.type=s.to)||(decide (k<i)&&decide (x.to=s.to))
def elemAt(c:List AV)(t:Nat):Int:=match c[t]? with
 |some x=>x.elem
 |none=>0
def IX(l:List Bq)(s:Bq):Nat→Bool
 |0=>false
 |i+1=>match l[i]? with
  |some x=>!Hu (sb x.type) (sb s.type)
  |none=>false
def Tt(c:List AV)(l:List Bq)(i:Nat):Bool:=match l[i]? with
 |none=>true
 |some s=>match Ah c s.type,Ah c s.to with
  |some t,some a=>(decide (elemAt c t≠0)||decide (elemAt c a≠0)||IX l s i)||(ER l.length (Mo l s i)||(decide (s.map.length≠(Al c a).length)||ER (Al c a).length (Mn (Al c t) (Al c a) s.map)))
  |_,_=>true
def BL(c:List AV)(l:List Bq):Bool:=decide (l.length≤20)&& !ER l.length (Tt c l)
def RKd(W:CW)(b o:Nat)(x:Int):Prop:=W.cell b o=some (.int .u8 x)
def J4(c:List AV)(x:AV):Nat→Bool
 |0=>false
 |i+1=>match c[i]? with
  |some y=>!Hu (sb y.name) (sb x.name)
  |none=>false
def BP(c:List AV)(i:Nat):Bool:=match c[i]? with
 |none=>true
 |some x=>(!Dj x.name||J4 c x i)||((decide (x.elem≠0)&&(!JO x.elem||decide (x.BR≠Dw)||decide (0<x.fields.length)))||decide (20<x.fields.length))
def Xo(fs:List Vq)(k:Nat)(s:ByteArray):Bool:=ER k λn=>decide ((fs[n]?).map (·.name)=some s)
def J5(fs:List Vq)(k:Nat):Bool:=match fs[k]? with
 |none=>true
 |some f=>(!Dj f.name|| !JO f.kind)||Xo fs k f.name
def LG(c:List AV)(i:Nat):Bool:=match Bg c c.length i with
 |none=>true
 |some _=>decide (60<(EP c i).length)||ER (EP c i).length (J5 (EP c i))
def Az(c:List AV):Bool:=decide (c.length≤100)&&(!ER c.length (BP c)&& !ER c.length (LG c))
theorem tN:Hr prog 48=some (.agg #[.string ⟨#[]⟩,.string ⟨#[]⟩,.slice none 0 0,.int .u8 0,.slice none 0 0]):=by kernel_rfl
structure Ru(c:List AV):Prop where
 len:c.length<200
 fields:∀x,x∈c→x.fields.length≤100
 name:∀x,x∈c→x.name.size<1000
 sup:∀x,x∈c→x.BR.size<1000
 AGA:∀x,x∈c→∀f,f∈x.fields→f.name.size<1000
theorem JZ.ld{W:CW}{b o:Nat}{x:AV}(h:JZ W b o x):∃vf ab lb cb,ld prog 48 (.pointer (some ⟨b,o,none⟩)) W=some (.agg [.string x.name,.string x.BR,vf,.int .u8 x.elem,.slice ab lb cb].toArray)∧At 2 (RZ W) vf x.fields:=by
 obtain⟨vf,h1,h2⟩:=h.fields;obtain⟨ab,lb,cb,h3⟩:=h.binds;refine⟨vf,ab,lb,cb,Bn (vs:=[.string x.name,.string x.BR,vf,.int .u8 x.elem,.slice ab lb cb]) a48 jx rfl (by omega) ?_,h2⟩;intro j w hj
 match j,hj with
 |0,hj=>cases hj;exact h.name
 |1,hj=>cases hj;exact h.BR
 |2,hj=>cases hj;exact h1
 |3,hj=>cases hj;exact h.elem
 |4,hj=>cases hj;exact h3
def PK(c:List AV)(l:List Bq):Int:=if Az c then(if BL c l then 0 else 212)else 210
def Ja(c:List AV)(l:List Bq)(h:List BC)(root:Int):Int:=if PK c l≠0 then PK c l else if G8 c h≥0 then 211 else if root<0∨root>h.length then 1 else 0
def Ip(l:List Bq)(s:ByteArray):Option Bq:=l.find? λx=>decide (x.type=s)
def Ls(x:BC)(m:Int):Int:=(x.AL[m.toNat]?).getD 0
def AM(l:List Bq)(x:BC):BC:=match Ip l x.type with
 |some s=>⟨s.to,s.map.map (Ls x)⟩
 |none=>x
def DO(l:List Int):List Value:=l.map λk=>Value.int .i64 k
theorem s40:De prog 40=some 1:=by kernel_rfl
theorem s51:De prog 51=some 1:=by kernel_rfl
theorem s29:De prog 29=some 1:=by kernel_rfl
theorem z56:Hr prog 56=some (.agg #[.string ⟨#[]⟩,.slice none 0 0]):=by kernel_rfl
theorem Eh.of{W:CW}{v:Value}{l:List Int}(h:At 1 (λb o x=>W.cell b o=some (Value.int .i64 x)) v l)(hb:∀x,x∈l→-9223372036854775808≤x∧x≤9223372036854775807):At 1 (Eh W) v l:=by
 obtain⟨a,cap,h1,h2⟩:=h;exact⟨a,cap,h1,λi x hx=>by obtain⟨p,hp,hr⟩:=h2 i x hx;exact⟨p,hp,hr,hb x (aai hx)⟩⟩
theorem vg{l:List Bq}{s:ByteArray}{i:Nat}(hi:i<l.length)(h:decide (l[i].type=s)=true)(Bw:∀j,j<i→decide ((l[j]?).map (·.type)=some s)=false):Ip l s=some l[i]:=by
 unfold Ip;rw[List.find?_eq_some_iff_getElem];refine⟨h,i,hi,rfl,λj hj=>?_⟩;have:=Bw j hj;rw[ck (by omega)]at this
 simpa using this
theorem AGB(s:ByteArray):ZT prog 56 [(0,.string s)]=some (.agg [.string s,.slice none 0 0].toArray):=by kernel_rfl
def vi(vx:Value)(y:BC)(W:CW):Ending→CW→Prop:=λe W'=>Kp W W'∧Ag W'∧∃vv,e=.returned (.agg #[.string y.type,vv])∧At 1 (Eh W') vv y.AL∧(vv=vx∨BZ W.sz vv)
theorem Mp{l:List Bq}{s:ByteArray}{x:Bq}(h:Ip l s=some x):∃i:Nat,l[i]?=some x∧x.type=s:=by
 unfold Ip at h;obtain⟨h1,i,hi,h2,_⟩:=List.find?_eq_some_iff_getElem.1 h;exact⟨i,by rw[ck hi,h2],by simpa using h1⟩
structure ABa(c:List AV)(s:Bq)(t a:Nat):Prop where
 ti:Ah c s.type=some t
 ai:Ah c s.to=some a
 et:elemAt c t=0
 ea:elemAt c a=0
 len:s.map.length=(Al c a).length
 map:∀k,k<(Al c a).length→∃n:Int,s.map[k]?=some n∧0≤n∧n<(Al c t).length∧(Al c t)[n.toNat]?=(Al c a)[k]?∧Ts s.map k n=false
theorem dT{c:List AV}{l:List Bq}(h:BL c l=true){i:Nat}{s:Bq}(hs:l[i]?=some s):∃t a,ABa c s t a:=by
 unfold BL at h;simp only[dy,aaC]at h;have hb:=DS h.2 (aaa.1 hs).1;unfold Tt at hb;rw[hs]at hb;simp only at hb
 cases Uw:Ah c s.type with
 |none=>rw[Uw]at hb;cases hb
 | some t=>
  rw[Uw]at hb
  cases jz:Ah c s.to with
  |none=>rw[jz]at hb;cases hb
  | some a=>
   rw[jz]at hb;simp only[aaz,decide_eq_false_iff_not,acu]at hb;obtain⟨⟨⟨h1,h2⟩,h3⟩,h4,h5,h6⟩:=hb;refine⟨t,a,Uw,jz,h1,h2,h5,λk hk=>?_⟩;have hm:=DS h6 hk;unfold Mn at hm
   cases hx:s.map[k]? with
   |none=>rw[hx]at hm;cases hm
   |some n=>
    rw[hx]at hm;simp only[aaz,decide_eq_false_iff_not,acu]at hm;obtain⟨⟨⟨m1,m2⟩,m3⟩,m4⟩:=hm;exact⟨n,rfl,by omega,by omega,m3,m4⟩
structure gn(c:List AV)(x:BC)(size i:Nat)(s:AV):Prop where
 ti:Ah c x.type=some i
 si:c[i]?=some s
 many:FL c i s x.AL.length=true
 val:∀(k:Nat) n,x.AL[k]?=some n→Hj (A0 c i k) n size=true
theorem FV{c:List AV}{x:BC}{size:Nat}(h:A8 c x size=true):∃i s,gn c x size i s:=by
 unfold A8 at h
 cases Uw:Ah c x.type with
 |none=>rw[Uw]at h;cases h
 |some i=>
  rw[Uw]at h;have hs:=ck (DI Uw);simp only[hs,dy,aaC]at h;refine⟨i,_,Uw,hs,h.1,λk n hk=>?_⟩;have:=DS h.2 (aaa.1 hk).1;rw[hk]at this
  simpa using this
theorem Xp{c:List AV}{x:BC}{size i:Nat}{s:AV}(h:gn c x size i s):A8 c x size=true:=by
 unfold A8;rw[h.ti];simp only[h.si,h.many,abb]
 rw[GM λj hj=>?_]
 ·rfl
 ·have:=ck hj;rw[this];simp only[h.val j _ this,aav]
theorem IL{c:List AV}{h:List BC}(ht:¬G8 c h≥0):h.length≤1000∧∀x,x∈h→A8 c x h.length=true:=by
 unfold G8 at ht
 by_cases hl:1000<h.length
 ·rw[aad hl]at ht;omega
 ·rw[aac hl]at ht;refine⟨by omega,λx hx=>?_⟩;unfold Jz at ht
  cases hf:h.findIdx? λx=>!A8 c x h.length with
  |some i=>rw[hf]at ht;simp only at ht;omega
  |none=>
   rw[aaL]at hf
   simpa using hf x hx
theorem Lt{c:List AV}{i many:Nat}{s:AV}(hs:c[i]?=some s)(he:elemAt c i=0)(hm:FL c i s many=true):many=(Al c i).length:=by
 unfold FL at hm;unfold elemAt at he;rw[hs]at he;rw[aac (by simpa using he)]at hm;exact of_decide_eq_true hm
theorem J6{c:List AV}{i:Nat}(he:elemAt c i=0)(hi:i<c.length)(k:Nat):A0 c i k=((Al c i)[k]?).getD 0:=by
 unfold A0;unfold elemAt at he;rw[ck hi]at he ⊢;simp only at he ⊢;rw[aac (by simpa using he)]
theorem N6{c:List AV}{l:List Bq}{x:BC}{size:Nat}(hs:BL c l=true)(hx:A8 c x size=true):∀s,Ip l x.type=some s→∀m,m∈s.map→0≤m∧m.toNat<x.AL.length:=by
 intro s I9 m hm;obtain⟨i,hi,Tu⟩:=Mp I9;obtain⟨t,a,S⟩:=dT hs hi;obtain⟨ti,si,T⟩:=FV hx;have Uw:ti=t:=by have h1:=T.ti;rw[←Tu,S.ti]at h1;exact(aa1 h1).symm
 subst Uw;have Jb:=Lt T.si S.et T.many;obtain⟨k,hk,hkm⟩:=abQ.1 hm;obtain⟨n,h1,h2,h3,_⟩:=S.map k (by rw[←S.len];exact hk);rw[ck hk,hkm]at h1
 cases h1
 omega
theorem CR{c:List AV}{l:List Bq}{x:BC}{size:Nat}(hs:BL c l=true)(hx:A8 c x size=true):A8 c (AM l x) size=true:=by
 unfold AM
 cases I9:Ip l x.type with
 |none=>exact hx
 | some s=>
  obtain⟨i,hi,Tu⟩:=Mp I9;obtain⟨t,a,S⟩:=dT hs hi;obtain⟨ti,si,T⟩:=FV hx;have Uw:ti=t:=by have h1:=T.ti;rw[←Tu,S.ti]at h1;exact(aa1 h1).symm
  subst Uw;have Jb:=Lt T.si S.et T.many;have zr:=DI S.ai;have Xq:=DI S.ti
  refine Xp (i:=a) (s:=c[a]) ⟨S.ai,ck zr,?_,λk n hk=>?_⟩
  ·have hea:=S.ea;unfold elemAt at hea;rw[ck zr]at hea;unfold FL;rw[aac (by simpa using hea)];exact decide_eq_true (by rw[aau];exact S.len)
  ·have s_:k<s.map.length:=by
    have:=(aaa.1 hk).1
    simpa using this
   obtain⟨m,h1,h2,h3,h4,_⟩:=S.map k (by rw[←S.len];exact s_);simp only[aaK,h1,abd,aag]at hk;have kG:m.toNat<x.AL.length:=by omega
   have hxv:=ck kG;have:=T.val _ _ hxv;rw[J6 S.et Xq,h4]at this;rw[J6 S.ea zr,←hk];unfold Ls;rw[hxv];exact this
def Eu(c:List AV)(i:Nat)(vs:List Int):Nat→List Int
 |0=>[]
 |k+1=>Eu c i vs k++(if A0 c i k=2 then(vs[k]?).toList else[])
def refsOf(c:List AV)(y:BC):List Int:=match Ah c y.type with
 |some i=>Eu c i y.AL y.AL.length
 |none=>[]
def visit(o:List Int)(v:Int):List Int:=if 0<v∧v∉o then o++[v]else o
def CN(refs:Int→List Int):Nat→List Int→Nat→List Int
 |0,o,_=>o
 |f+1,o,n=>match o[n]? with
  |none=>o
  |some v=>CN refs f ((refs v).foldl visit o) (n+1)
def placeOf(o:List Int)(v:Int):Int:=match o.findIdx? (λx=>decide (x=v))with
 |some i=>(i:Int)+1
 |none=>0
theorem Jc{o:List Int}{v:Int}(h:v∉o):placeOf o v=0:=by
 unfold placeOf
 have:o.findIdx? (λx=>decide (x=v))=none:=by
  rw[aaL];intro x hx;exact decide_eq_false (λe=>h (e▸hx))
 rw[this]
theorem gp{o:List Int}{v:Int}(h:v∈o):0<placeOf o v:=by
 unfold placeOf
 cases hf:o.findIdx? (λx=>decide (x=v))with
 |none=>
  rw[aaL]at hf;have:=hf v h;simp at this
 |some i=>simp only;omega
theorem Ux{o:List Int}{u v:Int}(h:v∉o):placeOf (o++[v]) u=if u=v then(o.length:Int)+1 else placeOf o u:=by
 unfold placeOf;rw[acX]
 by_cases e:u=v
 ·subst e
  have:o.findIdx? (λx=>decide (x=u))=none:=by
   rw[aaL];intro x hx;exact decide_eq_false (λe=>h (e▸hx))
  rw[this,aad rfl];simp
 ·rw[aac e]
  cases hf:o.findIdx? (λx=>decide (x=u))with
  |some i=>simp
  | none=>
   have:([v].findIdx? λx=>decide (x=u))=none:=by
    simp[abW e,ac9]
   rw[this];simp
structure Found(o:List Int)(n:Nat):Prop where
 nodup:o.Nodup
 low:∀v,v∈o→0<v
 high:∀v,v∈o→v≤n
theorem dU:∀(n:Nat) (o:List Int),o.Nodup→(∀v,v∈o→0<v∧v≤n)→o.length≤n
 |0,o,_,h=>by
  cases o with
  |nil=>exact aaf _
  |cons a o=>have:=h a (ab0 ..);omega
 | n+1,o,hd,h=>by
  by_cases hm:((n+1:Nat):Int)∈o
  ·have h1:=dU n (o.erase ((n+1:Nat):Int)) (hd.erase _) λv hv=>by
    obtain⟨h2,h3⟩:=(List.Nodup.mem_erase_iff hd).1 hv;have:=h v h3;omega
   rw[List.length_erase_of_mem hm]at h1;omega
  ·have:=dU n o hd λv hv=>by
    have h1:=h v hv;have:v≠((n+1:Nat):Int):=λe=>hm (e▸hv);omega
   omega
theorem Found.len{o:List Int}{n:Nat}(h:Found o n):o.length≤n:=dU n o h.nodup λv hv=>⟨h.low v hv,h.high v hv⟩
theorem Found.visit{o:List Int}{n:Nat}(h:Found o n){v:Int}(hv:v≤n):Found (visit o v) n:=by
 unfold Go.Ce.visit
 split
 ·rename_i hc
  refine⟨?_,?_,?_⟩
  ·rw[acv];exact⟨h.nodup,by simp,λa ha b hb=>by rw[dx.1 hb];exactλe=>hc.2 (e▸ha)⟩
  ·intro u hu
   rcases aaB.1 hu with hu|hu
   ·exact h.low u hu
   ·rw[dx.1 hu];exact hc.1
  ·intro u hu
   rcases aaB.1 hu with hu|hu
   ·exact h.high u hu
   ·rw[dx.1 hu];exact hv
 ·exact h
theorem lW{refs:Int→List Int}{o:List Int}{n:Nat}(h:o.length≤n):∀f,CN refs f o n=o
 |0=>rfl
 |f+1=>by unfold CN;rw[ab1 h]
theorem gq{refs:Int→List Int}{o:List Int}{n f:Nat}{v:Int}(h:o[n]?=some v):CN refs (f+1) o n=CN refs f ((refs v).foldl visit o) (n+1):=by
 rw[CN,h]
theorem gu(o:List Int)(v:Int):DO (o++[v])=DO o++[.int .i64 v]:=by simp[DO]
theorem Lu(o:List Int):(DO o).length=o.length:=by simp[DO]
theorem gv{c:List AV}{i k:Nat}{vs:List Int}{n:Int}(h:vs[k]?=some n):Eu c i vs (k+1)=Eu c i vs k++(if A0 c i k=2 then[n]else[]):=by
 rw[Eu,h];rfl
def Gf(c:List AV)(l:List Bq)(h:List BC)(v:Int):List Int:=match h[(v-1).toNat]? with
 |some x=>refsOf c (AM l x)
 |none=>[]
def start(root:Int):List Int:=if root>0 then[root]else[]
def Au(c:List AV)(l:List Bq)(h:List BC)(root:Int):List Int:=CN (Gf c l h) h.length (start root) 0
theorem Found.start{root:Int}{n:Nat}(h:root≤n):Found (start root) n:=by
 unfold Go.Ce.start
 split
 ·exact⟨abt _ _,λv hv=>by rw[dx.1 hv];assumption,λv hv=>by rw[dx.1 hv];exact h⟩
 ·exact⟨ack,λv hv=>(by cases hv),λv hv=>(by cases hv)⟩
theorem dV{c:List AV}{i m:Nat}{s:AV}(hC:Ru c)(h:FL c i s m=true):m≤20100:=by
 unfold FL at h
 split at h
 ·have:=of_decide_eq_true h;omega
 ·have:=of_decide_eq_true h;have h2:=N3 hC.len hC.fields i;unfold Al at this;rw[aau]at this;omega
theorem lX{A W:CW}(hA:Ag A)(k:Kp A W){b o:Nat}{x:BC}(h:JC A b o x):∃vx,ld prog 56 (.pointer (some ⟨b,o,none⟩)) W=some (.agg #[.string x.type,vx])∧At 1 (Eh W) vx x.AL∧(x.AL≠[]→∀j,Bh vx j→j<A.sz):=by
 obtain⟨v,h1,h2⟩:=h.AL
 refine⟨v,Bn (vs:=[.string x.type,v]) gY LD rfl (by omega) ?_,h2.imp λ_ _ _ hr=>hr.kp hA k,λDg j hj=>?_⟩
 ·intro j w hj
  match j,hj with
  |0,hj=>cases hj;exact k.cell hA h.type
  |1,hj=>cases hj;exact k.cell hA h1
 ·obtain⟨b,l,c,rfl,rfl⟩:=hj;obtain⟨a',c',e,hc⟩:=h2
  cases e
  cases hv:x.AL with
  |nil=>exact(Dg hv).elim
  |cons n ns=>
   obtain⟨p,hp,hr⟩:=hc 0 n (by rw[hv];rfl)
   cases hp
   exact dK hA hr.1
theorem Xr:∀(f n:Nat),n<128^(f+1)→(CD n).length≤f+1
 |0,n,h=>by unfold CD;rw[aad (by simpa using h)];simp
 |f+1,n,h=>by
  unfold CD
  split
  ·simp
  ·have:=Xr f (n/128) (by rw[Nat.pow_succ]at h;exact Nat.div_lt_of_lt_mul (by rw[acF];exact h));simp only[aap];omega
theorem EG{n:Nat}(h:n<100000000000000):(CD n).length≤8:=Xr 7 n (by omega)
def Lv(n:Int):Int:=if n<0 then -2*n-1 else 2*n
def BS(t:List ByteArray)(s:ByteArray):List ByteArray:=if t.any (λx=>decide (x=s))then t else t++[s]
def C3(l:List Bq)(xs:List BC):List ByteArray:=xs.foldl (λt x=>BS t (AM l x).type) []
def Tv(o:List Int)(kind n:Int):List Int:=if kind=2 then CD (placeOf o n).toNat else CD (Lv n).toNat
def Fj(c:List AV)(o:List Int)(i:Nat)(vs:List Int):Nat→List Int
 |0=>[]
 |k+1=>Fj c o i vs k++(match vs[k]? with
  |some n=>Tv o (A0 c i k) n
  |none=>[])
def EF(c:List AV)(t:List ByteArray)(o:List Int)(y:BC):List Int:=match Ah c y.type with
 |some i=>CD (Jz t λx=>decide (x=y.type)).toNat++(if elemAt c i≠0 then CD y.AL.length else[])++Fj c o i y.AL y.AL.length
 |none=>[]
def AJ(h:List BC)(o:List Int):List BC:=o.flatMap λv=>(h[(v-1).toNat]?).toList
def EV(c:List AV)(l:List Bq)(h:List BC)(o:List Int):List Int :=
 [1]++CD (C3 l (AJ h o)).length++(C3 l (AJ h o)).flatMap Hi++CD o.length++(AJ h o).flatMap λx=>EF c (C3 l (AJ h o)) o (AM l x)
def PL(l:List Bq)(h:List BC)(o:List Int):Bool:=(AJ h o).any λx=>l.any λs=>decide (s.to=x.type)
def Dz(c:List AV)(l:List Bq)(h:List BC)(root:Int):List Int×Int :=
 if Ja c l h root≠0 then([],Ja c l h root)else if PL l h (Au c l h root)then([],214)else(EV c l h (Au c l h root),0)
theorem dW{c:List AV}(h:Az c=true){i:Nat}(hi:i<c.length):(Al c i).length≤60∧∀(k:Nat) n,(Al c i)[k]?=some n→n=1∨n=2:=by
 unfold Az at h;simp only[dy,aaC]at h;have hb:=DS h.2.2 hi;unfold LG at hb
 cases hl:Bg c c.length i with
 |none=>rw[hl]at hb;cases hb
 | some l=>
  rw[hl]at hb;simp only[aaz,decide_eq_false_iff_not]at hb;refine⟨by unfold Al;rw[aau];omega,λk n hk=>?_⟩;unfold Al at hk;rw[aaK]at hk
  cases hf:(EP c i)[k]? with
  |none=>rw[hf]at hk;cases hk
  |some f=>
   rw[hf]at hk
   cases hk
   have:=DS hb.2 (aaa.1 hf).1;unfold J5 at this;rw[hf]at this;simp only[aaz,aa_]at this;have hk:=this.1.2;unfold JO at hk
   simpa using hk
theorem vj{c:List AV}(h:Az c=true){i:Nat}(hi:i<c.length):elemAt c i=0∨elemAt c i=1∨elemAt c i=2:=by
 unfold Az at h;simp only[dy,aaC]at h;have hb:=DS h.2.1 hi;unfold BP at hb;unfold elemAt;rw[ck hi]at hb ⊢;simp only[aaz]at hb ⊢;have h1:=hb.2.1
 by_cases he:c[i].elem=0
 ·exact .inl he
 ·rw[decide_eq_true he,abb]at h1;simp only[aaz,aa_]at h1;have:=h1.1.1;unfold JO at this;right
  simpa using this
theorem AAA{c:List AV}(h:Az c=true){i k:Nat}(hi:i<c.length)(hk:elemAt c i=0→k<(Al c i).length):A0 c i k=1∨A0 c i k=2:=by
 by_cases he:elemAt c i=0
 ·rw[J6 he hi,ck (hk he)];exact(dW h hi).2 k _ (ck (hk he))
 ·have:=vj h hi;unfold A0;unfold elemAt at he this;rw[ck hi]at he this ⊢;simp only at he this ⊢;rw[aad he];omega
theorem gx{c:List AV}(h:Az c=true){i m:Nat}{s:AV}(hs:c[i]?=some s)(hm:FL c i s m=true):m≤200:=by
 unfold FL at hm
 split at hm
 ·exact of_decide_eq_true hm
 ·have:=of_decide_eq_true hm;have:=(dW h (aaa.1 hs).1).1;omega
theorem Xs(a b:List Int):BU (a++b)=BU a++BU b:=by simp[BU]
theorem IM(a:List Int):(BU a).length=a.length:=by simp[BU]
theorem lY(a:List Int):(BU a).all BG=true:=by
 rw[aax];intro x hx;obtain⟨y,_,rfl⟩:=aaU.1 hx;rfl
def strs(l:List ByteArray):List Value:=l.map λs=>Value.string s
theorem AAB(s:ByteArray)(v:Value):fld prog 56 (.agg #[.string s,v]) 0=some (.string s):=by kernel_rfl
theorem vk(s:ByteArray)(W:CW):W_ prog 51 1 [(0,.string s)] W=some (.slice (some ⟨W.sz,0,none⟩) 1 1,W.new (.cells (Tr.nil.AS 0 [.string s]) [Value.string s].length #[] 9)):=by kernel_rfl
theorem z9:Hr prog 9=some (.string ⟨#[]⟩):=by kernel_rfl
theorem by9:(prog.info? 9).map (·.bytes)=some 16:=by kernel_rfl
structure Hp(c:List AV)(h:List BC)(o:List Int):Prop where
 found:Found o h.length
 small:h.length<100000
 ok:∀x,x∈h→A8 c x h.length=true
theorem Hp.at{c:List AV}{h:List BC}{o:List Int}(H:Hp c h o){i:Nat}(hi:i<o.length):∃w,o[i]=((w+1:Nat):Int)∧∃hw:w<h.length,(h[(o[i]-1).toNat]?).toList=[h[w]]:=by
 have h1:=H.found.low _ (aaG hi);have h2:=H.found.high _ (aaG hi);refine⟨(o[i]-1).toNat,by omega,by omega,?_⟩;rw[ck (by omega)];rfl
theorem LH{c:List AV}{h:List BC}{o:List Int}(H:Hp c h o){i w:Nat}(hi:i<o.length)(hw:o[i]=((w+1:Nat):Int))(aN:w<h.length):AJ h (o.take (i+1))=AJ h (o.take i)++[h[w]]:=by
 unfold AJ;rw[aaX,ck hi];rw[aa4];congr 1;simp only[abw,aas,acB,aaR,hw];rw[show(((w+1:Nat):Int)-1).toNat=w by omega,ck aN];rfl
theorem Xt(t:List ByteArray)(s:ByteArray):strs (t++[s])=strs t++[.string s]:=by simp[strs]
theorem Iq(t:List ByteArray):(strs t).length=t.length:=by simp[strs]
theorem gy{t:List ByteArray}{s:ByteArray}:Jz t (λx=>decide (x=s))<0↔t.any (λx=>decide (x=s))=false:=by
 unfold Jz
 cases h:t.findIdx? λx=>decide (x=s)with
 |none=>
  rw[aaL]at h;simp only[abU];exact⟨λ_ x hx=>by rw[h x hx];simp,λ_=>by omega⟩
 | some i=>
  obtain⟨h1,h2,_⟩:=aaq.1 h
  constructor
  ·intro h3;simp only at h3;omega
  ·intro h3;rw[aaH.2 ⟨_,aaG h1,h2⟩]at h3
   cases h3
def Kq(l:List Bq)(h:List BC)(o:List Int)(i:Nat):List ByteArray:=C3 l (AJ h (o.take i))
theorem lZ{c:List AV}{l:List Bq}{h:List BC}{o:List Int}(H:Hp c h o){i w:Nat}(hi:i<o.length)(hw:o[i]=((w+1:Nat):Int))(aN:w<h.length):Kq l h o (i+1)=BS (Kq l h o i) (AM l h[w]).type:=by
 unfold Kq C3;rw[LH H hi hw aN,acL];rfl
theorem gz(t:List ByteArray)(s:ByteArray):(BS t s).length≤t.length+1:=by
 unfold BS;split<;>simp
theorem Lw(l:List Bq):∀(xs:List BC) (t:List ByteArray),(xs.foldl (λt x=>BS t (AM l x).type) t).length≤t.length+xs.length
 |[],t=>by simp
 |x::xs,t=>by
  have:=Lw l xs (BS t (AM l x).type);have:=gz t (AM l x).type;simp only[abe,aap];omega
theorem Hk(h:List BC):∀o:List Int,(AJ h o).length≤o.length
 |[]=>by simp[AJ]
 |v::o=>by
  have:=Hk h o;have h2:((h[(v-1).toNat]?).toList).length≤1:=by cases h[(v-1).toNat]? <;>simp
  unfold AJ at this ⊢;rw[aas,aah,aap];omega
theorem g_(l:List Bq)(h:List BC)(o:List Int)(i:Nat):(Kq l h o i).length≤o.length:=by
 have h1:=Lw l (AJ h (o.take i)) [];have h2:=Hk h (o.take i);have:(o.take i).length≤o.length:=by rw[aaI];omega
 unfold Kq C3;simp only[aaP]at h1;omega
theorem qu{s:ByteArray}(h:s.size<1000):(Hi s).length≤1008:=by
 unfold Hi;rw[aah];have h1:=EG (n:=s.size) (by omega);have h2:(JD s).length=s.size:=by unfold JD;rw[aau,Lq]
 omega
theorem Tw:∀(ts:List ByteArray),(∀s,s∈ts→s.size<1000)→(ts.flatMap Hi).length≤ts.length*1008
 |[],_=>by simp
 |s::ts,h=>by
  have h1:=Tw ts λs hs=>h s (abP _ hs);have h2:=qu (h s (ab0 ..));rw[aas,aah,aap,acG];omega
theorem vp{o:List Int}{k n:Int}(ho:o.length<100000)(hn:k≠2→-1000000000≤n∧n≤1000000000):(Tv o k n).length≤8:=by
 unfold Tv
 split
 ·refine EG ?_;unfold placeOf
  split
  ·rename_i i hi;have:=(aaq.1 hi).1;omega
  ·decide
 ·rename_i hk;have:=hn hk;refine EG ?_;unfold Lv;split<;>omega
theorem QD{c:List AV}{o:List Int}{i:Nat}{vs:List Int}(ho:o.length<100000)(hn:∀(k:Nat) n,vs[k]?=some n→A0 c i k≠2→-1000000000≤n∧n≤1000000000):∀k,(Fj c o i vs k).length≤k*8
 |0=>by simp[Fj]
 | k+1=>by
  have h1:=QD (c:=c) (i:=i) ho hn k;unfold Fj;rw[aah]
  cases hx:vs[k]? with
  |none=>simp only[aaP];omega
  |some n=>
   have:=vp (k:=A0 c i k) ho (hn k n hx);simp only;omega
theorem QF(o:List Int)(v:Int):0≤placeOf o v∧placeOf o v≤o.length:=by
 unfold placeOf
 split
 ·rename_i i hi;have:=(aaq.1 hi).1;omega
 ·omega
theorem Lx{c:List AV}{y:BC}{n i:Nat}{s:AV}(h:Az c=true)(Y:gn c y n i s){k:Nat}{v:Int}(hx:y.AL[k]?=some v):(A0 c i k=2∧0≤v∧v≤n)∨(A0 c i k=1∧-1000000000≤v∧v≤1000000000):=by
 have hv:=Y.val k v hx
 have hk:A0 c i k=1∨A0 c i k=2:=AAA h (DI Y.ti) λhe=>by
  have:=Lt Y.si he Y.many;have:=(aaa.1 hx).1;omega
 unfold Hj at hv
 rcases hk with hk|hk
 ·right;rw[hk]at hv;simp at hv;exact⟨hk,by omega,by omega⟩
 ·left;rw[hk]at hv;simp at hv;exact⟨hk,by omega,by omega⟩
theorem Xu(l:List Bq){s:ByteArray}:∀(xs:List BC) (t:List ByteArray),t.any (λx=>decide (x=s))=true→(xs.foldl (λt x=>BS t (AM l x).type) t).any (λx=>decide (x=s))=true
 |[],t,h=>h
 |x::xs,t,h=>by
  rw[abe];refine Xu l xs _ ?_;unfold BS
  split
  ·exact h
  ·rw[ac3,h];rfl
theorem aO(l:List Bq):∀(xs:List BC) (t:List ByteArray) (x:BC),x∈xs→(xs.foldl (λt x=>BS t (AM l x).type) t).any (λu=>decide (u=(AM l x).type))=true
 |[],t,x,h=>by cases h
 | y::xs,t,x,h=>by
  rw[abe]
  rcases aaE.1 h with rfl|h
  ·refine Xu l xs _ ?_;unfold BS
   split
   ·assumption
   ·rw[ac3];simp
  ·exact aO l xs _ x h
theorem QG(l:List Bq){s:ByteArray}:∀(xs:List BC) (t:List ByteArray),s∈xs.foldl (λt x=>BS t (AM l x).type) t→s∈t∨∃x,x∈xs∧s=(AM l x).type
 |[],t,h=>.inl h
 | y::xs,t,h=>by
  rw[abe]at h
  rcases QG l xs _ h with h|⟨x,hx,e⟩
  ·unfold BS at h
   split at h
   ·exact .inl h
   ·rcases aaB.1 h with h|h
    ·exact .inl h
    ·exact .inr ⟨y,ab0 ..,dx.1 h⟩
  ·exact .inr ⟨x,abP _ hx,e⟩
theorem dX{h:List BC}{o:List Int}{x:BC}(hx:x∈AJ h o):x∈h:=by
 unfold AJ at hx;obtain⟨v,_,hv⟩:=abo.1 hx
 cases hg:h[(v-1).toNat]? with
 |none=>rw[hg]at hv;cases hv
 |some y=>rw[hg]at hv;rw[dx.1 hv];exact aai hg
theorem vq{c:List AV}(hC:Ru c){s:ByteArray}{i:Nat}(h:Ah c s=some i):s.size<1000:=by
 obtain⟨h1,h2,_⟩:=aaq.1 h;have:=hC.name _ (aaG h1);rw[←of_decide_eq_true h2];exact this
theorem lg{c:List AV}{t:List ByteArray}{o:List Int}{y:BC}{n i:Nat}{s:AV}(hc:Az c=true)(Y:gn c y n i s)(ho:o.length<100000)(Xq:t.length<100000):(EF c t o y).length≤1616:=by
 unfold EF;rw[Y.ti]
 have h1:(CD (Jz t λx=>decide (x=y.type)).toNat).length≤8:=EG (by
  unfold Jz
  split
  ·rename_i i hi;have:=(aaq.1 hi).1;omega
  ·decide)
 have hm:=gx hc Y.si Y.many
 have h2:(if elemAt c i≠0 then CD y.AL.length else[]).length≤8:=by
  split
  ·exact EG (by omega)
  ·simp
 have h3:=QD (c:=c) (o:=o) (i:=i) (vs:=y.AL) ho (λk n hx hk=>by
   rcases Lx hc Y hx with h|h
   ·exact(hk h.1).elim
   ·exact h.2) y.AL.length
 simp only[aah];omega
theorem QH{c:List AV}{l:List Bq}{t:List ByteArray}{o:List Int}{n:Nat}(hc:Az c=true)(ho:o.length<100000)(Xq:t.length<100000):∀xs:List BC,(∀x,x∈xs→A8 c (AM l x) n=true)→(xs.flatMap λx=>EF c t o (AM l x)).length≤xs.length*1616
 |[],_=>by simp
 |x::xs,h=>by
  have h1:=QH (c:=c) (l:=l) (n:=n) hc ho Xq xs λx hx=>h x (abP _ hx);obtain⟨i,s,Y⟩:=FV (h x (ab0 ..));have h2:=lg (t:=t) hc Y ho Xq;rw[aas,aah,aap,acG];omega
def aP(r:List Int×Int)(W:CW):Ending→CW→Prop:=λe W'=>Kp W W'∧Ag W'∧∃v,e=.returned (.tuple #[v,.int .i64 r.2])∧C' W' 5 1 v (BU r.1)
theorem BV(a b:Value):ext (.tuple #[a,b]) 0=some a:=rfl
theorem BW(a b:Value):ext (.tuple #[a,b]) 1=some b:=rfl
theorem IP{c:List AV}{l:List Bq}{h:List BC}{root:Int}(hz:Ja c l h root=0):Az c=true∧BL c l=true∧(¬G8 c h≥0)∧0≤root∧root≤h.length:=by
 unfold Ja at hz
 by_cases h1:PK c l≠0
 ·rw[aad h1]at hz;exact(h1 hz).elim
 ·rw [aac h1]at hz
  by_cases h2:G8 c h≥0
  ·rw[aad h2]at hz;cases hz
  ·rw[aac h2]at hz
   by_cases h3:root<0∨root>h.length
   ·rw[aad h3]at hz;cases hz
   ·have h1:PK c l=0:=by omega
    unfold PK at h1
    cases hc:Az c with
    |false=>rw[hc]at h1;simp at h1
    |true=>
     cases hs:BL c l with
     |false=>rw[hc,hs]at h1;simp at h1
     |true=>exact⟨rfl,rfl,h2,by omega,by omega⟩
def lh(ro:Option Nat)(K:AB):AB:=Ab (λe ds W=>wV (ld prog 78 (e 4) W) λLB=>wV (NK prog 78 (e 2) LB W) λW6=>K .ret (Env.of e [(3,(.bool true)),(103,LB)]) ds W6) K
def dY(ro:Option Nat)(K:AB):AB:=Ab (λa b c=>M7 22 a c λd=>Ko ro 47 104 1 a (HY 83 Be 82 d 81 (Ai a)) b c 2 (lh ro K)) K
def hM:=by
 have h:=@dY.eq_1;dsimp at h;exact h
def AGC(v0:Value)(K:AB)(W:CW):=by
 have h:HM 47 104 [v0] W K=Bp 78 W λa b=>Iw (mkm b) λb c=>Iw (mkm c) λc d=>wV (ZT prog 78 [(0,b),(1,c)]) λf=>Bp 78 d λd g=>Bj 78 d f g λg=>Dl 22 v0 g λh=>GZ h 100 λi=>let b:=eC 17 i (A_ 16 h 15 v0 4 d 14 f (BK 13 c 12 b 3 CL 2 a));wI i (CQ 78 d g λc=>Bj 78 a c g λa=>E9 K [v0] (F2 3 CL 18 c b) a) (Dl 22 v0 g λa=>EB 47 104 [v0] (DB 21 Be 20 a 19 v0 b) g (dY none K)):=by kernel_rfl
 dsimp at h;exact h
def dZ(ro:Option Nat)(K:AB):AB:=Ab (λa b c=>B_ a 21 λd=>Gt K a 21 d 80 b c) K
def hX:=by
 have h:=@dZ.eq_1;dsimp at h;exact h
def Vs(ro:Option Nat)(K:AB):AB:=Gu (λa b c=>KF 78 a 4 0 λd=>CQ 75 d c λf=>KF 48 a 6 0 λg=>As g c λh=>DG 48 a 6 c λi=>wV (jt prog 75 f h i c) λc=>GU (dZ ro K) a 79 i (BK 78 h 77 g 76 f 75 d) b c) (dZ ro K)
def aQ:=by
 have h:=@Vs.eq_1;dsimp at h;exact h
def Kr(ro:Option Nat)(K:AB):AB:=Ab (λe ds W=>wI (e 73) (wV (ld prog 78 (e 4) W) λv74=>wV (NK prog 78 (e 2) v74 W) λW14=>(Vs ro K) .ret (Env.of e [(3,(.bool false)),(74,v74)]) ds W14) ((Vs ro K) .normal e ds W)) (Vs ro K)
def Mq(ro:Option Nat)(K:AB):AB:=Gu (λa b c=>KF 48 a 6 0 λd=>As d c λf=>GJ 101 f c (λg h=>D3 g λi=>let g:=eC 49 i (BK 48 i 47 g 46 f 45 d);wI i (HA (Ik (MU 9 d c f)) (Kr ro K) a (M5 73 72 68 71 (M5 68 70 68 69 (Ft 68 Du 68 (M5 67 66 64 65 (Ft 64 Du 64 (M5 63 62 49 61 (JL 60 undef 59 58 undef 57 (JL 56 undef 55 54 undef 53 (JM 52 undef 49 51 49 50 g))))))))) b h) (NL .gtr 3 a 5 0 λi=>let g:=H8 52 i 49 51 i 49 50 (GI a) g;wI i (D_ a 5 λi=>ABW 22 a i λj=>BA 48 j λk=>As k h λl=>KF 48 a 6 0 λm=>As m h λn=>KX .geq 9 l n λo=>let g:=Ep 64 o 63 (zz3 62 o 49 false 61 o 52 true (Bl 60 n 52 59 m (Bl 58 l 52 57 k (Bl 56 j 52 55 i (Fv 54 (GI a) 52 53 a g)))));wI o (HA ((Jv 9 m h n)∧qd (Jv 9 k h l) 9 d c f) (Kr ro K) a (H4 73 (JM 72 undef 68 71 68 70 (MT 69 undef 68 true 68 Du 67 (HV 66 64 65 g)))) b h) (D3 (Da a) λi=>let g:=Ep 68 i 67 (CP 66 i 64 65 (Da a) g);wI i (HA ((Jv 9 m h n)∧qd (Jv 9 k h l) 9 d c f) (Kr ro K) a (H4 73 (DL 72 68 71 70 69 g)) b h) (KF 48 a 6 2 λi=>CQ 45 i h λj=>Dl 45 j h λo=>GZ o 20 λp=>HW ((Ik (Es 45 j h o))∧GS (Jv 45 i h j) (Jv 9 m h n) (qd (Jv 9 k h l) 9 d c f)) (Kr ro K) a 73 p (CP 72 p 68 71 o (CP 70 j 68 69 i g)) b h))) (D3 (Da a) λi=>let g:=Ep 68 i 67 (DD 66 i 64 (Lg 65 (Da a) 64 64 CL 63 (Lg 62 CL 49 61 undef 52 (By 60 52 59 58 57 (By 56 52 55 54 53 g)))));wI i (HA (Ik (MU 9 d c f)) (Kr ro K) a (H4 73 (DL 72 68 71 70 69 g)) b h) (KF 48 a 6 2 λi=>CQ 45 i h λj=>Dl 45 j h λk=>GZ k 20 λl=>HW ((Ik (Es 45 j h k))∧qd (Jv 45 i h j) 9 d c f) (Kr ro K) a 73 l (CP 72 l 68 71 k (CP 70 j 68 69 i g)) b h)))) λ_ _=>False) (dZ ro K)
def qw:=by
 have h:=@Mq.eq_1;dsimp at h;exact h
def ACp(ro:Option Nat)(e:Env)(ds:List Deferred)(K:AB)(W:CW):=by
 have h:Dd ro 47 104 e ds W K=FU e 21 20 λa=>Gs a (KZ 22 e 19 e 21 λb=>CQ 48 b W λc=>Bp 48 W λd f=>Bj 48 d c f λf=>Nv 48 d 3 λg=>CQ 5 g f λh=>HK .eql 5 h .u8 0 λi=>let a:=Ep 29 i 28 (Gp 27 h 26 g 5 e 21 6 d (E_ 25 c 24 b 23 e 21 22 a));Ut i (Mq ro K) e (DB 7 Du 44 Du 43 undef (Z_ 29 42 41 undef 40 (JL 39 undef 38 29 Du 37 (Z_ 29 36 35 undef 34 (DL 33 29 32 31 30 a))))) ds f (Nv 48 d 3 λb=>CQ 5 b f λc=>let a:=GF 29 (CP 31 c 29 30 b a);GJ 100 c f (λb c=>let a:=DB 33 b 29 CL 32 b a;Dm b (C0 48 d λb=>As b c λf=>ZU .eql 9 true f (.string ⟨#[]⟩) λg=>let a:=DD 38 g 29 (zz3 37 g 29 false 36 g 33 true (Bl 35 f 33 34 b a));Dm g (Nv 48 d 2 λb=>CQ 45 b c λd=>Dl 45 d c λf=>ED .eql f 0 λg=>Lc (Mq ro K) e 7 g 44 (DD 43 g 29 (Bl 42 g 38 41 f (Bl 40 d 38 39 b a))) ds c) (Mq ro K) e (Lg 7 CL 44 43 CL 29 (By 42 38 41 40 39 a)) ds c) (Mq ro K) e (DD 7 CL 44 (Il 43 CL 29 42 undef 38 41 38 40 (Lg 39 undef 38 38 CL 29 (Il 37 CL 29 36 undef 33 35 33 34 a)))) ds c) λb c=>CJ (Mq ro K) b e a ds c)) K 0 e 22 a ds W:=by kernel_rfl
 dsimp at h;exact h
def Vt(ro:Option Nat)(K:AB):AB:=Ab (λa b c=>B_ a 83 λd=>Gt K a 83 d 102 b c) K
def aR:=by
 have h:=@Vt.eq_1;dsimp at h;exact h
def ACq(ro:Option Nat)(e:Env)(ds:List Deferred)(K:AB)(W:CW):=by
 have h:H3 ro 47 104 1 e ds W K=FU e 83 82 λa=>Gs a (KZ 22 e 81 e 83 λb=>CQ 48 b W λc=>Bp 48 W λd f=>Bj 48 d c f λf=>DG 78 e 4 f λg=>BA 48 d λh=>As h f λi=>let a:=DB 90 i 89 h 88 g (BK 9 d 86 c 85 b 84 a);ET 102 g i f (λb c=>Db b λf=>Dc b λg=>D3 g λh=>let a:=A_ 95 h 94 g 11 g 10 f (Dh 93 g 92 f 87 b 91 a);wI h (DG 78 e 4 c λb=>Bj 78 (DE e) b c λc=>Gj (Vt ro K) e (F2 3 CL 96 b a) ds c) (D9 78 e 4 λb=>CQ 76 b c λg=>BA 48 d λd=>As d c λh=>wV (jt prog 76 g h f c) λc=>GU (Vt ro K) e 101 f (A_ 100 h 99 d 98 g 97 b a) ds c)) λb c=>CJ (Vt ro K) b e a ds c) K 2 e 84 a ds W:=by kernel_rfl
 dsimp at h;exact h
def AGD{Q v0 W}:=F1 47 104 [v0] Tryz.f47 Q W Tryz.func47 (by kernel_rfl)
def lj(ro:Option Nat)(K:AB):AB:=Ab (λe ds W=>wV (ld prog 83 (e 6) W) λAGE=>wV (NK prog 83 (e 4) AGE W) λW7=>K .ret (Env.of e [(5,(.bool true)),(178,AGE)]) ds W7) K
def lk(ro:Option Nat)(K:AB):AB:=Ab (λa b c=>Dl 23 (BN a) c λd=>Ko ro 48 179 2 a (Nw 163 Be 162 d 161 a 1) b c 4 (lj ro K)) K
def Rv:=by
 have h:=@lk.eq_1;dsimp at h;exact h
def AGF(v0 v1:Value)(K:AB)(W:CW):=by
 have h:Er 48 179 v0 v1 W K=GH 78 v0 W λa b=>Bp 83 b λb c=>Iw (mkm c) λc d=>Iw (mkm d) λd f=>wV (ZT prog 83 [(0,c),(1,d)]) λg=>Bp 83 f λf h=>Bj 83 f g h λh=>Dl 23 v1 h λi=>GZ i 20 λj=>let a:=F2 27 j 26 i (A_ 25 v1 6 f 24 g 23 d (DD 22 c 5 (Fu 4 b 2 a)));wI j (CQ 83 f h λc=>Bj 83 b c h λb=>Lj K v0 v1 (F2 5 CL 28 c a) b) (Dl 23 v1 h λb=>EB 48 179 [v0,v1] (DB 31 Be 30 b 29 v1 a) h (lk none K)):=by kernel_rfl
 dsimp at h;exact h
def Rw(ro:Option Nat)(K:AB):AB:=Ab (λa b c=>B_ a 31 λd=>Gt K a 31 d 160 b c) K
def Oc:=by
 have h:=@Rw.eq_1;dsimp at h;exact h
def oV(ro:Option Nat)(K:AB):AB:=Gu (λa b c=>KF 83 a 6 0 λd=>CQ 81 d c λf=>KF 58 a 8 0 λg=>As g c λh=>D9 83 a 6 λi=>CQ 81 i c λj=>D9 58 a 8 λk=>As k c λl=>DG 58 a 8 c λm=>DG 58 a 8 c λn=>wV (jt prog 81 f h m c) λo=>wV (jt prog 81 j l n o) λp=>HA (GS (Jx True 58 (CY a) o n 58 (CY a) c n) (NM 58 (CY a) c m) (GS (Jx True 9 k o l 9 k c l) (Jx True 81 i o j 81 i c j) (H7 9 g c h 81 d c f))) (Rw ro K) a (F2 159 n 158 m (A_ 157 l 156 k 155 j 154 i (BK 153 h 152 g 151 f 150 d))) b p) (Rw ro K)
def aS:=by
 have h:=@oV.eq_1;dsimp at h;exact h
def Vu(ro:Option Nat)(K:AB):AB:=Gu (λa b c=>D9 83 a 6 λd=>CQ 81 d c λf=>D9 58 a 8 λg=>As g c λh=>EW 81 f h true c λi=>Db i λj=>Dc i λk=>Bp 58 c λc l=>let d:=FR 104 k 14 13 c (Dh 103 k 102 j 96 i 101 (BK 100 h 99 g 98 f 97 d));Bj 58 c j l λc=>wI k (DG 83 a 6 c λf=>Bj 83 (a 4) f c λc=>Gj (Rw ro K) a (F2 5 CL 105 f d) b c) (KF 58 a 8 2 λf=>C9 f c λg=>Fw g c λh=>Ko ro 48 179 1 a (A_ 109 Be 108 h 107 g 106 f d) b c 2 (oV ro K))) (Rw ro K)
def aT:=by
 have h:=@Vu.eq_1;dsimp at h;exact h
def Jd(ro:Option Nat)(K:AB):AB:=Ab (λa b c=>XK a 94 (DG 83 a 6 c λd=>Bj 83 (a 4) d c λc=>Gj (Vu ro K) a (Fu 5 CL 95 d) b c) (Vu ro K) a b c) (Vu ro K)
def qy:=by
 have h:=@Jd.eq_1;dsimp at h;exact h
def ACr(ro:Option Nat)(e:Env)(ds:List Deferred)(K:AB)(W:CW):=by
 have h:Dd ro 48 179 e ds W K=FU e 31 30 λa=>Gs a (KZ 23 e 29 e 31 λb=>CQ 58 b W λc=>Bp 58 W λd f=>Bj 58 d c f λf=>KF 78 e 2 0 λg=>CQ 75 g f λh=>BA 58 d λi=>As i f λj=>EW 75 h j true f λk=>Db k λl=>Dc k λm=>Bp 48 f λf n=>Bj 48 f l n λn=>KF 78 e 2 0 λo=>CQ 75 o n λp=>C0 58 d λq=>As q n λr=>EW 75 p r true n λs=>Db s λt=>Dc s λu=>Bp 48 n λn v=>Bj 48 n t v λv=>D3 m λw=>let a:=eC 54 w (A_ 53 w 52 m 12 u 11 n (Dh 51 u 50 t 44 s 49 (A_ 48 r 47 q 46 p 45 o (A_ 10 m 9 f 43 m 42 l (EY 36 k 41 40 j 39 i (Gp 38 h 37 g 7 e 31 8 d (E_ 35 c 34 b 33 e 31 32 a)))))));wI w (HA True (Jd ro K) e (gP 94 93 92 (JN 91 90 (JN 89 88 (JN 87 86 (JN 85 84 (Ft 83 Du 83 (M5 82 81 68 80 (JL 79 undef 78 77 undef 76 (JL 75 undef 74 73 undef 72 (HV 71 68 70 (MT 69 undef 68 true 68 Du 67 (HV 66 63 65 (MT 64 undef 63 true 63 Du 62 (HV 61 58 60 (MT 59 undef 58 true 58 Du 57 (HV 56 54 55 a)))))))))))))))) ds v) (D3 u λb=>let a:=Ep 58 b 57 (CP 56 b 54 55 u a);wI b (HA True (Jd ro K) e (gP 94 93 92 (JN 91 90 (JN 89 88 (JN 87 86 (JN 85 84 (Ft 83 Du 83 (M5 82 81 68 80 (JL 79 undef 78 77 undef 76 (JL 75 undef 74 73 undef 72 (JM 71 undef 68 70 68 69 (MT 68 Du 67 true 66 undef 63 (HV 65 63 64 (MT 63 Du 62 true 61 undef 58 (HV 60 58 59 a)))))))))))))) ds v) (Nv 48 f 3 λb=>CQ 5 b v λc=>HK .neq 5 c .u8 0 λf=>let a:=Ep 63 f 62 (H8 61 f 58 60 c 58 59 b a);wI f (HA (Jv 5 b v c) (Jd ro K) e (gP 94 93 92 (JN 91 90 (JN 89 88 (JN 87 86 (JN 85 84 (Ft 83 Du 83 (M5 82 81 68 80 (JL 79 undef 78 77 undef 76 (JL 75 undef 74 73 undef 72 (JM 71 undef 68 70 68 69 (MT 68 Du 67 true 66 undef 63 (HV 65 63 64 a)))))))))))) ds v) (Nv 48 n 3 λf=>CQ 5 f v λg=>HK .neq 5 g .u8 0 λh=>let a:=Ep 68 h 67 (H8 66 h 63 65 g 63 64 f a);wI h (HA (KY (Gn 5 f v g) 5 b v c) (Jd ro K) e (gP 94 93 92 (JN 91 90 (JN 89 88 (JN 87 86 (JN 85 84 (Ft 83 Du 83 (M5 82 81 68 80 (JL 79 undef 78 77 undef 76 (JL 75 undef 74 73 undef 72 (JM 71 undef 68 70 68 69 a)))))))))) ds v) (NL .gtr 3 e 31 0 λh=>let a:=H8 71 h 68 70 h 68 69 (e 31) a;wI h (D_ e 31 λh=>Gq 23 (BN e) h λi=>BA 58 i λj=>As j v λk=>BA 58 d λl=>As l v λm=>KX .geq 9 k m λn=>let a:=Ep 83 n 82 (zz3 81 n 68 false 80 n 71 true (Bl 79 m 71 78 l (Bl 77 k 71 76 j (Bl 75 i 71 74 h (Bl 73 (e 31) 71 72 (BN e) a)))));wI n (HA (Ld (Gn 9 l v m) 9 j v k (KY (Gn 5 f v g) 5 b v c)) (Jd ro K) e (H4 94 (HV 93 83 92 (DL 91 83 90 89 88 (DL 87 83 86 85 84 a)))) ds v) (Nv 58 d 2 λh=>C9 h v λi=>Fw i v λn=>D9 78 e 2 λo=>CQ 76 o v λp=>C0 58 d λd=>As d v λq=>EW 76 p q false v λr=>Dl 29 r v λs=>DQ .neq n s λt=>HW (GS (Es 29 r v s) (Sq prog 76 p q false v=some r) (Ld (Gn 9 d v q) 76 o v p (Ld (Es 40 i v n) 40 h v i (Ld (Gn 9 l v m) 9 j v k (KY (Gn 5 f v g) 5 b v c))))) (Jd ro K) e 94 t (CP 93 t 83 92 s (CP 91 r 83 90 q (CP 89 d 83 88 p (CP 87 o 83 86 n (CP 85 i 83 84 h a))))) ds v)) (Nv 58 d 2 λh=>C9 h v λi=>Fw i v λj=>D9 78 e 2 λk=>CQ 76 k v λl=>C0 58 d λd=>As d v λm=>EW 76 l m false v λn=>Dl 29 n v λo=>DQ .neq j o λp=>HW (GS (Es 29 n v o) (Sq prog 76 l m false v=some n) (Ld (Gn 9 d v m) 76 k v l (Ld (Es 40 i v j) 40 h v i (KY (Gn 5 f v g) 5 b v c)))) (Jd ro K) e 94 p (H8 93 p 83 92 o 83 91 n (CP 90 m 83 89 d (CP 88 l 83 87 k (CP 86 j 83 85 i (Lg 84 h 83 83 CL 82 (Lg 81 CL 68 80 undef 71 (By 79 71 78 77 76 (By 75 71 74 73 72 a)))))))) ds v)))))) K 0 e 32 a ds W:=by kernel_rfl
 dsimp at h;exact h
def Vv(ro:Option Nat)(K:AB):AB:=Ab (λa b c=>B_ a 109 λd=>Gt K a 109 d 149 b c) K
def aU:=by
 have h:=@Vv.eq_1;dsimp at h;exact h
def Rx(ro:Option Nat)(K:AB):AB:=vF (λa b c=>XK a 147 (DG 83 a 6 c λd=>Bj 83 (a 4) d c λc=>Gj (Vv ro K) a (Fu 5 CL 148 d) b c) (Vv ro K) a b c) 3 (Vv ro K)
def qz:=by
 have h:=@Rx.eq_1;dsimp at h;exact h
def ACs(ro:Option Nat)(e:Env)(ds:List Deferred)(K:AB)(W:CW):=by
 have h:H3 ro 48 179 1 e ds W K=FU e 109 108 λa=>Gs a (KZ 40 e 107 e 109 λb=>FT b W λc=>D9 78 e 2 λd=>CQ 76 d W λf=>KF 58 e 8 0 λg=>As g W λh=>EW 76 f h false W λi=>Dl 29 i W λj=>Lh j 1 λk=>GD 103 c Be k W (λl m=>D3 l λn=>let a:=FR 125 n 124 123 l (A_ 122 k 121 j 120 i 119 c (EY 17 i 118 117 h 116 g (A_ 115 f 114 d 16 c 15 (e 109) (E_ 113 c 112 b 111 e 109 110 a))));wI n (HA (Ik (GG (Es 29 i W j))) (Rx ro K) e (H4 147 (DL 146 133 145 144 143 (DL 142 133 141 140 139 (DL 138 133 137 136 135 (MT 134 undef 133 true 133 Du 132 (HV 131 125 130 (DL 129 125 128 127 126 a))))))) ds m) (KF 58 e 8 2 λb=>C9 b m λd=>wV (Sp prog 40 d none (some (e 109)) none m) λf=>ET 104 f c m (λg h=>let a:=Ep 133 g 132 (CP 131 g 125 130 c (CP 129 f 125 128 (e 109) (CP 127 d 125 126 b a)));wI g (HA ((Ow True (Sp prog 40 d none (some (e 109)) none m=some f))∧Ow (KY True 40 b m d) (GC True (Es 29 i W j))) (Rx ro K) e (H4 147 (Ft 146 undef 133 (DL 145 133 144 143 142 (DL 141 133 140 139 138 (DL 137 133 136 135 134 a))))) ds h) (Gq 29 i c λg=>CQ 5 g h λk=>D9 78 e 2 λl=>CQ 76 l h λn=>D9 58 e 8 λo=>As o h λp=>EW 76 n p false h λq=>Gr 29 q e 109 λr=>CQ 5 r h λs=>KX .neq 5 k s λt=>HW (GS (Jv 5 r h s) (Ik (Sq prog 76 n p false h=some q)) (GS (Jv 9 o h p) (Jv 76 l h n) (GS (Jv 5 g h k) (Ow True (Sp prog 40 d none (some (e 109)) none m=some f)) (Ow (KY True 40 b m d) (GC True (Es 29 i W j)))))) (Rx ro K) e 147 t (H8 146 t 133 145 s 133 144 r (CP 143 (e 109) 133 142 q (CP 141 p 133 140 o (CP 139 n 133 138 l (CP 137 k 133 136 g (CP 135 c 133 134 i a)))))) ds h)) λ_ _=>False)) λ_ _=>False) K 2 e 110 a ds W:=by kernel_rfl
 dsimp at h;exact h
def db(ro:Option Nat)(K:AB):AB:=Ab (λa b c=>B_ a 163 λd=>Gt K a 163 d 177 b c) K
def aV:=by
 have h:=@db.eq_1;dsimp at h;exact h
def ACt(ro:Option Nat)(e:Env)(ds:List Deferred)(K:AB)(W:CW):=by
 have h:H3 ro 48 179 2 e ds W K=FU e 163 162 λa=>Gs a (KZ 23 e 161 e 163 λb=>CQ 58 b W λc=>Bp 58 W λd f=>Bj 58 d c f λf=>KF 83 e 6 0 λg=>CQ 81 g f λh=>C0 58 d λi=>As i f λj=>EW 81 h j true f λk=>Db k λl=>Dc k λm=>Bp 58 f λf n=>let a:=FR 175 m 21 20 f (Dh 174 m 173 l 167 k 172 (A_ 171 j 170 i 169 h 168 g (BK 19 d 166 c 165 b 164 a)));Bj 58 f l n λb=>Dm m (DG 83 e 6 b λc=>Bj 83 (e 4) c b λb=>Gj (db ro K) e (F2 5 CL 176 c a) ds b) (db ro K) e a ds b) K 4 e 164 a ds W:=by kernel_rfl
 dsimp at h;exact h
def AGG{Q v0 v1 W}:=F1 48 179 [v0,v1] Tryz.f48 Q W Tryz.func48 (by kernel_rfl)
def LI(ro:Option Nat)(K:AB):AB:=Ab (λe ds W=>wV (ld prog 78 (e 8) W) λv32=>wV (NK prog 78 (e 6) v32 W) λW5=>K .ret (Env.of e [(7,(.int .i64 0)),(32,v32)]) ds W5) K
def AGH(v0 v1 v2:Value)(K:AB)(W:CW):=by
 have h:H5 49 33 v0 v1 v2 W K=Bp 78 W λa b=>let c:=HY 11 v0 7 Be 6 a;GJ 47 v0 b (λb d=>Db b λf=>Dc b λg=>Bp 78 d λd h=>Bj 78 d f h λh=>D3 g λi=>let b:=eC 15 i (A_ 17 i 16 g 9 g 8 d (Dh 14 g 13 f 10 b 12 c));wI i (CQ 78 d h λc=>Bj 78 a c h λa=>E9 (LI none K) [v0,v1,v2] (F2 7 (TN 210) 18 c b) a) (CQ 78 d h λc=>ET 84 c v1 h (λf g=>ED .geq f 0 λh=>let b:=eC 19 h (A_ 23 h 22 f 21 v1 20 c b);wI h (CQ 78 d g λc=>Bj 78 a c g λa=>E9 (LI none K) [v0,v1,v2] (F2 7 (TN 211) 24 c b) a) (Dl 24 v1 g λc=>let b:=DB 28 c 27 v1 26 v2 b;GD 103 v2 Be c g (λc f=>D3 c λg=>let b:=FR 25 g 30 29 c b;Dm g (CQ 78 d f λc=>Bj 78 a c f λa=>E9 (LI none K) [v0,v1,v2] (F2 7 (TN 1) 31 c b) a) (LI none K) (M6 v0 v1 v2) b [] f) λa c=>H6 (LI none K) a v0 v1 v2 b c)) λa d=>H6 (LI none K) a v0 v1 v2 (F2 21 v1 20 c b) d)) λa b=>H6 K a v0 v1 v2 c b:=by kernel_rfl
 dsimp at h;exact h
def AGI{Q v0 v1 v2 W}:=F1 49 33 [v0,v1,v2] Tryz.f49 Q W Tryz.func49 (by kernel_rfl)
def vu(ro:Option Nat)(K:AB):AB:=Ab (λe ds W=>K .ret (Env.of e [(4,(e 5)),(42,(e 5))]) ds W) K
def AGJ(v0 v1:Value)(K:AB)(W:CW):=by
 have h:Er 50 43 v0 v1 W K=Iw (mkm W) λa b=>wV (ZT prog 100 [(1,a)]) λc=>GH 100 c b λb d=>let a:=DB 13 v0 12 b 5 b (BK 11 b 10 c 9 a 4 (.pointer none));ET 105 b v0 d (λb c=>EB 50 43 [v0,v1] (F2 6 Be 14 b a) c (vu none K)) λb c=>HX K b v0 v1 a c:=by kernel_rfl
 dsimp at h;exact h
def lq(ro:Option Nat)(K:AB):AB:=Ab (λa b c=>B_ a 6 λd=>GK K a 6 d 23 22 b c) K
def vz:=by
 have h:=@lq.eq_1;dsimp at h;exact h
def ACu(ro:Option Nat)(e:Env)(ds:List Deferred)(K:AB)(W:CW):=by
 have h:Dd ro 50 43 e ds W K=DV (GI e) λa=>BA 100 a λb=>C9 b W λc=>Fw c W λd=>H9 .lss 3 e 6 d λf=>let a:=DB 21 f 20 d 19 c (E_ 18 b 17 a 16 e 5 15 (Et e));P6 f (DV (GI e) λb=>BA 100 b λc=>C9 c W λd=>Gr 40 d e 6 λf=>FT f W λg=>let a:=Gp 31 g 30 f 29 e 6 28 d (Gp 27 c 26 b 25 e 5 24 (BN e) a);Dt prog Bf (BN e) [g] W (λb c=>Fw b c λd=>Ko ro 50 43 1 e (DB 34 Be 33 d 32 b a) ds c 2 (CX 1 (lq ro K))) λb c=>CJ (lq ro K) b e a ds c) K 0 e a ds W:=by kernel_rfl
 dsimp at h;exact h
def lu(ro:Option Nat)(K:AB):AB:=Ab (λa b c=>B_ a 34 λd=>Gt K a 34 d 41 b c) K
def v8:=by
 have h:=@lu.eq_1;dsimp at h;exact h
def ACv(ro:Option Nat)(e:Env)(ds:List Deferred)(K:AB)(W:CW):=by
 have h:H3 ro 50 43 1 e ds W K=FU e 34 33 λa=>Gs a (KZ 40 e 32 e 34 λb=>FT b W λc=>let a:=F2 39 c 38 (GI e) (BK 8 c 37 c 36 b 35 a);ET 105 (GI e) c W (λb c=>GU (lu ro K) e 40 b a ds c) λb c=>CJ (lu ro K) b e a ds c) K 2 e 35 a ds W:=by kernel_rfl
 dsimp at h;exact h
theorem q5(Q:Ending→CW→Prop)(e:Env)(W:CW):AQ prog Tryz.f50 Q .ret e [] W=Q (.returned (e 4)) W:=by kernel_rfl
def AGK{Q v0 v1 W}:=F1 50 43 [v0,v1] Tryz.f50 Q W Tryz.func50 (by kernel_rfl)
def ly(ro:Option Nat)(K:AB):AB:=Ab (λe ds W=>wV (ld prog 40 (e 5) W) λv23=>K .ret (Env.of e [(4,v23),(23,v23)]) ds W) K
def AGL(v0 v1:Value)(K:AB)(W:CW):=by
 have h:Er 52 24 v0 v1 W K=GH 78 v0 W λa b=>GH 56 v1 b λb c=>Bp 40 c λc d=>CQ 78 a d λf=>CQ 56 b d λg=>let a:=F2 9 g 8 f (BK 5 c 4 (.slice none 0 0) 3 b 2 a);ET 62 f g d (λb c=>Gi prog Bf none 52 24 (.rangeFunc (.tmp 10) #[11,12] (rfA prog 52 0) (zn prog 52 0)) (ABU [v0,v1] (eC 10 b a)) [] c (CX 0 (ly none K))) λb c=>HX (ly none K) b v0 v1 a c:=by kernel_rfl
 dsimp at h;exact h
theorem ACw(ro:Option Nat)(e:Env)(ds:List Deferred)(K:AB)(W:CW):D8 prog Bf ro 52 24 (rfA prog 52 0) e ds W K=(K .normal (Env.of e [(7,(e 12)),(6,(e 11))]) ds W):=by kernel_rfl
def ACx(ro:Option Nat)(e:Env)(ds:List Deferred)(K:AB)(W:CW):=by
 have h:qZ ro 52 24 (zn prog 52 0) e ds W K=c_ .eql 5 true e 7 (.int .u8 2) λa=>Dm a (DG 40 e 5 W λb=>D9 56 e 3 λc=>C9 c W λd=>Gr 40 d e 6 λf=>FT f W λg=>M8 prog 40 1 [(0,g)] W λh i=>Li prog [40,40] b h i λj k=>Bj 40 (GI e) j k λk=>HA ((GG (NM 3 f W g))∧Ow (GG (NM 40 c W d)) (GG (Jx True 40 (GI e) i b 40 (GI e) W b))) K e (F2 22 j 21 h (Gp 20 g 19 f 18 e 6 17 d (BK 16 c 15 b 14 a 13 (Da e)))) ds k) K e (Fu 14 a 13 (Da e)) ds W:=by kernel_rfl
 dsimp at h;exact h
theorem q'(Q:Ending→CW→Prop)(e:Env)(W:CW):AQ prog Tryz.f52 Q .ret e [] W=Q (.returned (e 4)) W:=by kernel_rfl
def AGM{Q v0 v1 W}:=F1 52 24 [v0,v1] Tryz.f52 Q W Tryz.func52 (by kernel_rfl)
def AGN(v0 v1:Value)(K:AB)(W:CW):=by
 have h:Er 62 6 v0 v1 W K=GH 78 v0 W λa b=>GH 56 v1 b λb c=>RR 108 #[] #[a,b] λd=>Lj K v0 v1 (eC 4 d (BK 5 d 4 .nilFunc 3 b 2 a)) c:=by kernel_rfl
 dsimp at h;exact h
theorem q_(Q:Ending→CW→Prop)(e:Env)(W:CW):AQ prog Tryz.f62 Q .ret e [] W=Q (.returned (e 4)) W:=by kernel_rfl
def AGO{Q v0 v1 W}:=F1 62 6 [v0,v1] Tryz.f62 Q W Tryz.func62 (by kernel_rfl)
def AGP(v0 v1:Value)(K:AB)(W:CW):=by
 have h:Er 84 11 v0 v1 W K=GH 78 v0 W λa b=>GH 24 v1 b λb c=>CQ 24 b c λd=>Dl 24 d c λf=>GZ f 1000 λg=>let d:=F2 7 g 6 f (BK 5 d 4 Be 3 b 2 a);wI g (Lj K v0 v1 (eC 4 (TN 1000) d) c) (CQ 24 b c λf=>RR 118 #[] #[a,b] λa=>ET 117 f a c (λb c=>Lj K v0 v1 (EY 4 b 10 9 a 8 f d) c) λb c=>HX K b v0 v1 (F2 9 a 8 f d) c):=by kernel_rfl
 dsimp at h;exact h
theorem aW(Q:Ending→CW→Prop)(e:Env)(W:CW):AQ prog Tryz.f84 Q .ret e [] W=Q (.returned (e 4)) W:=by kernel_rfl
def AGQ{Q v0 v1 W}:=F1 84 11 [v0,v1] Tryz.f84 Q W Tryz.func84 (by kernel_rfl)
def Vw(ro:Option Nat)(K:AB):AB:=Ab (λa b c=>DV (Ai a) λd=>BA 100 d λf=>C9 f c λg=>M8 prog 40 1 [(0,BN a)] c λc h=>Li prog [40,40] g c h λh i=>DV (Ai a) λj=>BA 100 j λk=>Bj 40 k h i λi=>DV (Ai a) λl=>C0 100 l λm=>CQ 98 m i λn=>DV (Ai a) λo=>BA 100 o λp=>C9 p i λq=>Fw q i λr=>wV (jt prog 98 n (BN a) r i) λs=>HA ((GG (Es 40 q i r))∧XL 40 p i q 98 m n) K a (A_ 34 r 33 q 32 p 31 o (A_ 30 (Ai a) 29 (BN a) 28 n 27 m (A_ 26 l 25 (Ai a) 24 k 23 j (Gp 22 h 21 c 20 a 1 19 g (BK 18 f 17 d 16 (Ai a) 15 (Ai a)))))) b s) K
def aX:=by
 have h:=@Vw.eq_1;dsimp at h;exact h
def Vx(ro:Option Nat)(K:AB):AB:=Ab (λe ds W=>wI (e 14) ((Vw ro K) .ret e ds W) ((Vw ro K) .normal e ds W)) (Vw ro K)
def ACy(v0 v1:Value)(K:AB)(W:CW):=by
 have h:Er 105 35 v0 v1 W K=ED .eql v1 0 λa=>let b:=FR 6 a 5 4 v1 [];Jw a (Vx none K) (M9 v0 v1) 14 (JM 13 undef 6 12 6 11 (DL 10 6 9 8 7 b)) [] W (DV v0 λa=>C0 100 a λc=>CQ 98 c W λd=>EW 98 d v1 false W λf=>GZ f 0 λg=>GU (Vx none K) (M9 v0 v1) 14 g (H8 13 g 6 12 f 6 11 v1 (CP 10 d 6 9 c (CP 8 a 6 7 v0 b))) [] W):=by kernel_rfl
 dsimp at h;exact h
def l6(Q:Ending→CW→Prop)(e:Env)(W:CW):=by
 have h:AFp Tryz.f105 Q e W=AFq Q #[] W:=by kernel_rfl
 dsimp at h;exact h
def ACz{Q v0 v1 W}:=F1 105 35 [v0,v1] Tryz.f105 Q W Tryz.func105 (by kernel_rfl)
def v_(v0 v1 v2:Value)(K:AB)(W:CW):=by
 have h:H5 108 36 v0 v1 v2 W K=BA 78 v1 λa=>CQ 75 a W λb=>BA 56 v2 λc=>As c W λd=>EW 75 b d false W λf=>wV (fld prog 48 f 3) λg=>C0 56 v2 λh=>C9 h W λi=>Fw i W λj=>EB 108 36 [v0,v1,v2] (DB 16 Be 15 j 14 i (A_ 13 h 4 g 12 g 11 f (BK 10 d 9 c 8 b 7 a))) W K:=by kernel_rfl
 dsimp at h;exact h
def Ry(ro:Option Nat)(K:AB):AB:=Ab (λa b c=>B_ a 16 λd=>Gt K a 16 d 35 b c) K
def Od:=by
 have h:=@Ry.eq_1;dsimp at h;exact h
def Rz(ro:Option Nat)(K:AB):AB:=Gu (λa b c=>let d:=HY 32 (Et a) 31 (GI a) 30 (Ai a);Dt prog Bf (Ai a) [GI a,Et a] c (λc f=>D3 c λg=>Dm g (Gj (Ry ro K) a (F2 34 g 33 c d) b f) (Ry ro K) a (F2 34 g 33 c d) b f) λc f=>CJ (Ry ro K) c a d b f) (Ry ro K)
def aY:=by
 have h:=@Rz.eq_1;dsimp at h;exact h
def oW(ro:Option Nat)(e:Env)(ds:List Deferred)(K:AB)(W:CW):=by
 have h:Dd ro 108 36 e ds W K=FU e 16 15 λa=>Gs a (c_ .eql 5 true e 4 (.int .u8 0) λb=>let a:=qc 21 b 20 (e 4) 6 e 4 (E_ 19 (e 4) 5 (e 16) 18 e 16 17 a);Dm b (D9 78 e 1 λb=>CQ 76 b W λc=>KF 56 e 2 0 λd=>As d W λf=>EW 76 c f false W λg=>Gr 29 g e 16 λh=>CQ 5 h W λi=>GU (Rz ro K) e 6 i (Gp 29 i 28 h 27 e 16 26 g (A_ 25 f 24 d 23 c 22 b a)) ds W) (Rz ro K) e a ds W) K 0 e 17 a ds W:=by kernel_rfl
 dsimp at h;exact h
def wA{Q v0 v1 v2 W}:=F1 108 36 [v0,v1,v2] Tryz.f108 Q W Tryz.func108 (by kernel_rfl)
def dc(ro:Option Nat)(K:AB):AB:=Ab (λe ds W=>K .ret (Env.of e [(4,(.int .i64 (-1)))]) ds W) K
def AC0(v0 v1:Value)(K:AB)(W:CW):=by
 have h:Er 117 19 v0 v1 W K=Dl 24 v0 W λa=>EB 117 19 [v0,v1] (BK 8 Be 7 a 6 v0 4 Be) W (dc none K):=by kernel_rfl
 dsimp at h;exact h
def Vy(ro:Option Nat)(K:AB):AB:=Ab (λa b c=>B_ a 8 λd=>Gt K a 8 d 18 b c) K
def aZ:=by
 have h:=@Vy.eq_1;dsimp at h;exact h
def AAC(ro:Option Nat)(e:Env)(ds:List Deferred)(K:AB)(W:CW):=by
 have h:Dd ro 117 19 e ds W K=FU e 8 7 λa=>Gs a (LA 24 e 8 λb=>CQ 56 b W λc=>let a:=Bz 15 c 14 b 13 e 8 12 (E_ 11 (BN e) 5 (CY e) 10 e 8 9 a);Dt prog Bf (BN e) [c] W (λb c=>Dm b (Gj (Vy ro K) e (DB 4 (CY e) 17 (CY e) 16 b a) ds c) (Vy ro K) e (eC 16 b a) ds c) λb c=>CJ (Vy ro K) b e a ds c) K 0 e 9 a ds W:=by kernel_rfl
 dsimp at h;exact h
theorem Xv(Q:Ending→CW→Prop)(e:Env)(W:CW):AQ prog Tryz.f117 Q .ret e [] W=Q (.returned (e 4)) W:=by kernel_rfl
def AC1{Q v0 v1 W}:=F1 117 19 [v0,v1] Tryz.f117 Q W Tryz.func117 (by kernel_rfl)
def AC2(v0 v1 v2:Value)(K:AB)(W:CW):=by
 have h:H5 118 11 v0 v1 v2 W K=GH 56 v0 W λa b=>CQ 78 v1 b λc=>CQ 56 a b λd=>CQ 24 v2 b λf=>Dl 24 f b λg=>let a:=F2 8 g 7 f (BK 6 d 5 c 4 CL 3 a);GD 119 c d g b (λb c=>D3 b λd=>E9 K [v0,v1,v2] (FR 4 d 10 9 b a) c) λb c=>H6 K b v0 v1 v2 a c:=by kernel_rfl
 dsimp at h;exact h
theorem l7(Q:Ending→CW→Prop)(e:Env)(W:CW):AQ prog Tryz.f118 Q .ret e [] W=Q (.returned (e 4)) W:=by kernel_rfl
def AC3{Q v0 v1 v2 W}:=F1 118 11 [v0,v1,v2] Tryz.f118 Q W Tryz.func118 (by kernel_rfl)
def R0(ro:Option Nat)(K:AB):AB:=Ab (λe ds W=>wV (NK prog 4 (e 6) (.bool true) W) λW6=>K .ret e ds W6) K
def R3(ro:Option Nat)(K:AB):AB:=Ab (λa b c=>DG 78 a 3 c λd=>DG 56 a 4 c λf=>ET 62 d f c (λc g=>Gi prog Bf ro 119 72 (.rangeFunc (.tmp 47) #[48,49] (rfA prog 119 0) (zn prog 119 0)) (Env.of a (HY 47 c 46 f 45 d)) b g (CX 0 (R0 ro K))) λc g=>CJ (R0 ro K) c a (Fu 46 f 45 d) b g) K
def Xw:=by
 have h:=@R3.eq_1;dsimp at h;exact h
def Ly(ro:Option Nat)(K:AB):AB:=Ab (λe ds W=>wI (e 44) (wV (NK prog 4 (e 6) (.bool false) W) λW11=>(R3 ro K) .ret e ds W11) ((R3 ro K) .normal e ds W)) (R3 ro K)
def AC4(v0 v1 v2:Value)(K:AB)(W:CW):=by
 have h:H5 119 72 v0 v1 v2 W K=GH 78 v0 W λa b=>GH 56 v1 b λb c=>GH 3 v2 c λc d=>Bp 4 d λd f=>BA 78 a λg=>CQ 75 g f λh=>BA 56 b λi=>As i f λj=>EW 75 h j true f λk=>Db k λl=>Dc k λm=>Bp 48 f λf n=>Bj 48 f l n λn=>D3 m λo=>let c:=eC 22 o (A_ 21 o 20 m 8 m 7 f (Dh 19 m 18 l 12 k 17 (A_ 16 j 15 i 14 h 13 g (BK 6 d 5 c 4 b 3 a))));Jw o (Ly none K) (M6 v0 v1 v2) 44 (DL 43 39 42 41 40 (MT 39 Du 38 true 37 undef 22 (Ep 36 undef 35 (JL 34 undef 33 32 undef 31 (JL 30 undef 29 28 undef 27 (DL 26 22 25 24 23 c)))))) [] n (Nv 48 f 3 λd=>CQ 5 d n λf=>HK .eql 5 f .u8 0 λg=>let c:=vE 26 g 22 false 25 (CP 24 f 22 23 d c);wI g (C0 56 b λd=>C9 d n λf=>Fw f n λg=>C0 78 a λa=>CQ 76 a n λh=>BA 56 b λi=>As i n λj=>EW 76 h j false n λk=>Dl 29 k n λl=>DQ .neq g l λm=>let a:=Ep 39 m 38 (DD 37 m 22 (Bl 36 m 26 35 l (Bl 34 k 26 33 j (Bl 32 i 26 31 h (Bl 30 a 26 29 g (Bl 28 f 26 27 d c))))));Jw m (Ly none K) (M6 v0 v1 v2) 44 (DL 43 39 42 41 40 a) [] n (C0 56 b λb=>C9 b n λc=>Fw c n λd=>GZ d 200 λf=>GU (Ly none K) (M6 v0 v1 v2) 44 f (CP 43 f 39 42 d (CP 41 c 39 40 b a)) [] n)) (C0 56 b λa=>C9 a n λb=>Fw b n λd=>GZ d 200 λf=>GU (Ly none K) (M6 v0 v1 v2) 44 f (CP 43 f 39 42 d (CP 41 b 39 40 a (Il 39 CL 38 37 CL 22 36 26 35 (By 34 26 33 32 31 (By 30 26 29 28 27 c))))) [] n)):=by kernel_rfl
 dsimp at h;exact h
theorem AAD(ro:Option Nat)(e:Env)(ds:List Deferred)(K:AB)(W:CW):D8 prog Bf ro 119 72 (rfA prog 119 0) e ds W K=(K .normal (Env.of e [(10,(e 49)),(9,(e 48))]) ds W):=by kernel_rfl
def Gv(ro:Option Nat)(K:AB):AB:=Ab (λe ds W=>wI (e 71) (wV (NK prog 4 (e 6) (.bool false) W) λVz=>K .ret e ds Vz) (K .normal e ds W)) (CX 1 K)
def AAE(ro:Option Nat)(e:Env)(ds:List Deferred)(K:AB)(W:CW):=by
 have h:qZ ro 119 72 (zn prog 119 0) e ds W K=D9 56 e 4 λa=>C9 a W λb=>Gr 40 b e 9 λc=>FT c W λd=>c_ .eql 5 true e 10 (.int .u8 1) λf=>let a:=eC 57 f (Dh 56 f 55 (DW e) 11 d 54 (BK 53 c 52 (DP e) 51 b 50 a));let b:=H4 57 (Ft 58 d 57 a);wI f (GD 103 d (TN (-1000000000)) (TN 1000000000) W (λa c=>D3 a λf=>let a:=eC 62 f (EY 61 f 60 57 Du 59 a b);Jw f (Gv ro K) e 71 (Ft 70 undef 62 (JL 69 undef 68 67 undef 66 (JM 65 undef 62 64 62 63 a))) ds c (c_ .eql 5 true e 10 (.int .u8 2) λb=>let a:=H8 65 b 62 64 b 62 63 (DW e) a;Dm b (DG 3 e 5 c λb=>let a:=H4 65 (Bl 67 b 65 66 d a);GD 103 d Be b c (λb c=>D3 b λd=>Lc (Gv ro K) e 71 d 70 (A_ 62 CL 69 d 65 Du 68 b a) ds c) λb c=>CJ (Gv ro K) b e a ds c) (Gv ro K) e (GF 71 (DD 70 CL 62 (By 69 65 68 67 66 a))) ds c)) λa c=>CJ (Gv ro K) a e b ds c) (c_ .eql 5 true e 10 (.int .u8 2) λb=>let a:=H8 65 b 62 64 b 62 63 (DW e) (Il 62 CL 61 60 undef 57 59 57 58 a);Dm b (DG 3 e 5 W λb=>let a:=H4 65 (Bl 67 b 65 66 d a);GD 103 d Be b W (λb c=>D3 b λd=>Lc (Gv ro K) e 71 d 70 (A_ 62 CL 69 d 65 Du 68 b a) ds c) λb c=>CJ (Gv ro K) b e a ds c) (Gv ro K) e (GF 71 (DD 70 CL 62 (By 69 65 68 67 66 a))) ds W):=by kernel_rfl
 dsimp at h;exact h
def AC5{Q v0 v1 v2 W}:=F1 119 72 [v0,v1,v2] Tryz.f119 Q W Tryz.func119 (by kernel_rfl)
def AC6(v0 v1:Value)(K:AB)(W:CW):=by
 have h:Er 104 9 v0 v1 W K=(let a:=eC 6 v1 (DD 5 v0 4 []);ET 126 v0 v1 W (λb c=>ED .geq b 0 λd=>Lj K v0 v1 (FR 4 d 8 7 b a) c) λb c=>HX K b v0 v1 a c):=by kernel_rfl
 dsimp at h;exact h
theorem l_(Q:Ending→CW→Prop)(e:Env)(W:CW):AQ prog Tryz.f104 Q .ret e [] W=Q (.returned (e 4)) W:=by kernel_rfl
def AC7{Q v0 v1 W}:=F1 104 9 [v0,v1] Tryz.f104 Q W Tryz.func104 (by kernel_rfl)
def dd(ro:Option Nat)(K:AB):AB:=Ab (λe ds W=>K .ret (Env.of e [(4,(.int .i64 (-1)))]) ds W) K
def AC8(v0 v1:Value)(K:AB)(W:CW):=by
 have h:Er 126 19 v0 v1 W K=Fw v0 W λa=>EB 126 19 [v0,v1] (BK 8 Be 7 a 6 v0 4 Be) W (dd none K):=by kernel_rfl
 dsimp at h;exact h
def de(ro:Option Nat)(K:AB):AB:=Ab (λa b c=>B_ a 8 λd=>Gt K a 8 d 18 b c) K
def ad:=by
 have h:=@de.eq_1;dsimp at h;exact h
def AAF(ro:Option Nat)(e:Env)(ds:List Deferred)(K:AB)(W:CW):=by
 have h:Dd ro 126 19 e ds W K=FU e 8 7 λa=>Gs a (LA 40 e 8 λb=>FT b W λc=>H9 .eql 3 e 1 c λd=>let a:=eC 16 d (Bz 15 c 14 b 13 e 8 12 (E_ 11 (BN e) 5 (CY e) 10 e 8 9 a));Dm d (Gj (de ro K) e (F2 4 (CY e) 17 (CY e) a) ds W) (de ro K) e a ds W) K 0 e 9 a ds W:=by kernel_rfl
 dsimp at h;exact h
theorem Xx(Q:Ending→CW→Prop)(e:Env)(W:CW):AQ prog Tryz.f126 Q .ret e [] W=Q (.returned (e 4)) W:=by kernel_rfl
def AC9{Q v0 v1 W}:=F1 126 19 [v0,v1] Tryz.f126 Q W Tryz.func126 (by kernel_rfl)
theorem Mr:∀a:List UInt8,Hu a a=false
 |[]=>rfl
 |a::x=>by
  simp only[Hu,abE,abb,Mr x,acY]
  cases h:Nat.blt a.toNat a.toNat with
  |false=>rfl
  |true=>have:=aam h;omega
theorem GV:∀a b c:List UInt8,Hu a b=true→Hu b c=true→Hu a c=true
 |_,_,[],_,h=>by simp[Hu]at h
 |_,[],_::_,h,_=>by simp[Hu]at h
 |[],_::_,_::_,_,_=>rfl
 | a::x,b::y,c::z,h1,h2=>by
  simp only[Hu,aaQ,dy]at h1 h2 ⊢;have blt:∀m n:Nat,Nat.blt m n=true↔m<n:=λm n=>⟨λh=>aam h,λh=>aan h⟩
  rw[blt,abz]at h1 h2 ⊢
  rcases h1 with h1|⟨h1,h1'⟩
  ·rcases h2 with h2|⟨h2,h2'⟩
   ·exact .inl (Nat.lt_trans h1 h2)
   ·exact .inl (by omega)
  ·rcases h2 with h2|⟨h2,h2'⟩
   ·exact .inl (by omega)
   ·exact .inr ⟨by omega,GV x y z h1' h2'⟩
theorem wB{c:List AV}:∀{i:Nat},(∀j,j<i→BP c j=false)→∀j k x y,j<k→k<i→c[j]?=some x→c[k]?=some y→Hu (sb x.name) (sb y.name)=true:=by
 intro i h j k
 induction k with
 |zero=>intro x y hj;omega
 |succ k ih=>
  intro x y hj hk hx hy;have hb:=h (k+1) hk;unfold BP at hb;rw[hy]at hb;simp only[aaz]at hb;have hp:=hb.1.2;unfold J4 at hp;have oY:k<c.length:=by have:=(aaa.1 hy).1;omega
  have hz:=ck oY;simp only[hz,aa_]at hp
  rcases aaD.1 hj with h1|rfl
  ·exact GV _ _ _ (ih x _ h1 (by omega) hx hz) hp
  ·rw[hx]at hz;cases hz;exact hp
theorem mA{c:List AV}{i:Nat}(h:∀j,j<i→BP c j=false){j k:Nat}{x y:AV}(hjk:j≠k)(hj:j<i)(hk:k<i)(hx:c[j]?=some x)(hy:c[k]?=some y):x.name≠y.name:=by
 intro e
 rcases Nat.lt_or_gt_of_ne hjk with h1|h1
 ·have:=wB h j k x y h1 hk hx hy;rw[e,Mr]at this;cases this
 ·have:=wB h k j y x h1 hj hy hx;rw[e,Mr]at this;cases this
theorem oZ{c:List AV}(h:∀j,j<c.length→BP c j=false){i:Nat}{x:AV}(hx:c[i]?=some x):Ah c x.name=some i:=by
 unfold Ah;have hi:=(aaa.1 hx).1;have he:=(aaa.1 hx).2;rw[aaq];refine⟨hi,by rw[he];simp,λj hj=>?_⟩;have Y4:j<c.length:=by omega
 have:=mA h (by omega:j≠i) Y4 hi (ck Y4) hx
 simpa using this
theorem Dp{c:List AV}{f i:Nat}{l:List Nat}{x:AV}(hx:c[i]?=some x)(h:Bg c f i=some l):(x.BR=Dw∧l=[i])∨(x.BR≠Dw∧∃f' j m,f=f'+1∧QA c i=some j∧Bg c f' j=some m∧l=i::m):=by
 by_cases hs:x.BR=Dw
 ·rw[Fh hx hs]at h;exact .inl ⟨hs,(aa1 h).symm⟩
 ·right;refine⟨hs,?_⟩
  cases f with
  |zero=>rw[QB hx hs]at h;cases h
  | succ f=>
   rw[IK hx hs]at h
   cases hj:QA c i with
   |none=>rw[hj]at h;cases h
   | some j=>
    rw[hj]at h;simp only at h
    cases h1:Bg c f j with
    |none=>rw[h1]at h;cases h
    |some m=>
     rw[h1]at h;exact⟨f,j,m,rfl,rfl,h1,(aa1 h).symm⟩
theorem GW{c:List AV}{f i:Nat}{l:List Nat}(h:Bg c f i=some l):∃x,c[i]?=some x:=by
 unfold Bg at h
 cases hx:c[i]? with
 |none=>rw[hx]at h;cases h
 |some x=>exact⟨x,rfl⟩
theorem ae{c:List AV}:∀{f i:Nat} {l:List Nat},Bg c f i=some l→∀{f':Nat} {l':List Nat},Bg c f' i=some l'→l=l':=by
 intro f
 induction f with
 | zero=>
  intro i l h f' l' h';obtain⟨x,hx⟩:=GW h
  rcases Dp hx h with⟨hs,rfl⟩|⟨hs,f1,j,m,h1,_⟩
  ·rcases Dp hx h' with⟨_,rfl⟩|⟨Oq,_⟩
   ·rfl
   ·exact(Oq hs).elim
  ·omega
 | succ f ih=>
  intro i l h f' l' h';obtain⟨x,hx⟩:=GW h
  rcases Dp hx h with⟨hs,rfl⟩|⟨hs,f1,j,m,h1,h2,h3,rfl⟩
  ·rcases Dp hx h' with⟨_,rfl⟩|⟨Oq,_⟩
   ·rfl
   ·exact(Oq hs).elim
  ·rcases Dp hx h' with⟨Oq,_⟩|⟨_,f1',j',m',h1',h2',h3',rfl⟩
   ·exact(hs Oq).elim
   ·have:f1=f:=by omega
    subst this;rw[h2]at h2'
    cases h2'
    rw[ih h3 h3']
theorem rA{c:List AV}:∀{f i:Nat} {l:List Nat},Bg c f i=some l→∀k,l.length≤k+1→Bg c k i=some l:=by
 intro f
 induction f with
 |zero=>
  intro i l h k hk;obtain⟨x,hx⟩:=GW h
  rcases Dp hx h with⟨hs,rfl⟩|⟨hs,f1,j,m,h1,_⟩
  ·exact Fh hx hs
  ·omega
 | succ f ih=>
  intro i l h k hk;obtain⟨x,hx⟩:=GW h
  rcases Dp hx h with⟨hs,rfl⟩|⟨hs,f1,j,m,h1,h2,h3,rfl⟩
  ·exact Fh hx hs
  ·have:f1=f:=by omega
   subst this;simp only[aap]at hk
   have hm:0<m.length:=by
    obtain⟨y,hy⟩:=GW h3;rcases Dp hy h3 with⟨_,rfl⟩|⟨_,_,_,_,_,_,_,rfl⟩<;>simp
   cases k with
   |zero=>omega
   |succ k=>
    rw[IK hx hs,h2];simp only;rw[ih h3 k (by omega)];rfl
theorem hY{c:List AV}:∀{f i:Nat} {l:List Nat},Bg c f i=some l→∀j,j∈l→∃f' m,Bg c f' j=some m∧m.length≤l.length:=by
 intro f
 induction f with
 |zero=>
  intro i l h j hj;obtain⟨x,hx⟩:=GW h
  rcases Dp hx h with⟨hs,rfl⟩|⟨hs,f1,j,m,h1,_⟩
  ·rw[dx.1 hj];exact⟨_,_,h,aaf _⟩
  ·omega
 | succ f ih=>
  intro i l h j hj;obtain⟨x,hx⟩:=GW h
  rcases Dp hx h with⟨hs,rfl⟩|⟨hs,f1,k,m,h1,h2,h3,rfl⟩
  ·rw[dx.1 hj];exact⟨_,_,h,aaf _⟩
  ·have:f1=f:=by omega
   subst this
   rcases aaE.1 hj with rfl|hj
   ·exact⟨_,_,h,aaf _⟩
   ·obtain⟨f',m',h4,h5⟩:=ih h3 j hj;exact⟨f',m',h4,by simp only[aap];omega⟩
theorem mB{c:List AV}:∀{f i:Nat} {l:List Nat},Bg c f i=some l→l.Nodup:=by
 intro f
 induction f with
 |zero=>
  intro i l h;obtain⟨x,hx⟩:=GW h
  rcases Dp hx h with⟨hs,rfl⟩|⟨hs,f1,j,m,h1,_⟩
  ·exact abt _ _
  ·omega
 | succ f ih=>
  intro i l h;obtain⟨x,hx⟩:=GW h
  rcases Dp hx h with⟨hs,rfl⟩|⟨hs,f1,k,m,h1,h2,h3,rfl⟩
  ·exact abt _ _
  ·have:f1=f:=by omega
   subst this;refine ac4.2 ⟨λhm=>?_,ih h3⟩;obtain⟨f',m',h4,h5⟩:=hY h3 i hm;have:=ae h h4;rw[←this]at h5;simp only[aap]at h5;omega
theorem oa{n:Nat}{o:List Nat}(h:o.Nodup)(hl:∀v,v∈o→v<n):o.length≤n:=by
 have:=dU n (o.map λv:Nat=>((v:Int)+1)) (by
  rw[List.Nodup,List.pairwise_map]
  exact h.imp λDg e=>Dg (by omega)) λv hv=>by
   obtain⟨u,hu,rfl⟩:=aaU.1 hv;have:=hl u hu;omega
 rwa[aau]at this
theorem ag{c:List AV}{f i:Nat}{l:List Nat}(h:Bg c f i=some l):Bg c c.length i=some l :=
 rA h _ (by have:=oa (mB h) (Mi c _ _ _ h).2;omega)
def CH:List ByteArray→List Vq→Bool
 |_,[]=>true
 |F,f::fs=>(Dj f.name&&(JO f.kind&& !F.any λs=>decide (s=f.name)))&&CH (F++[f.name]) fs
theorem HC:∀(F:List ByteArray) (fs gs:List Vq),CH F (fs++gs)=(CH F fs&&CH (F++fs.map (·.name)) gs)
 |F,[],gs=>by simp[CH]
 |F,f::fs,gs=>by
  rw[aci,CH,CH,HC];simp[Bool.and_assoc]
theorem Uy{fs:List Vq}:∀k,k≤fs.length→(CH [] (fs.take k)=true↔∀j,j<k→J5 fs j=false)
 |0,_=>by simp[CH]
 | k+1,hk=>by
  have hx:=ck (show k<fs.length by omega);have ih:=Uy k (by omega:k≤fs.length);rw[aaX,hx,abw,HC,dy,ih]
  have hb:J5 fs k=false↔CH ([]++(fs.take k).map (·.name)) [fs[k]]=true:=by
   unfold J5 CH CH;rw[hx];simp only[abT,dy,aaz,aa_,aaC,abf]
   have:Xo fs k fs[k].name=((fs.take k).map (·.name)).any λs=>decide (s=fs[k].name):=by
    unfold Xo ER;rw[abm,aaH,aaH]
    constructor
    ·rintro⟨n,hn,h⟩;have hnk:=aaV.1 hn;rw[ck (by omega)]at h;refine⟨fs[n].name,aaU.2 ⟨fs[n],?_,rfl⟩,by simpa using h⟩;exact aa2.2 ⟨n,by omega,rfl⟩
    ·rintro⟨s,hs,h⟩;obtain⟨f,hf,rfl⟩:=aaU.1 hs;obtain⟨n,hn,rfl⟩:=aa2.1 hf;refine⟨n,aaV.2 (by omega),?_⟩;rw[ck (by omega)]
     simpa using h
   rw[this,and_assoc]
  constructor
  ·rintro⟨h1,h2⟩ j hj
   rcases aaD.1 hj with h|rfl
   ·exact h1 j h
   ·exact hb.2 h2
  ·intro h;exact⟨λj hj=>h j (by omega),hb.1 (h k (by omega))⟩
theorem mC(fs:List Vq):CH [] fs=!ER fs.length (J5 fs):=by
 have h:=Uy (fs:=fs) fs.length (aaf _);rw[abO]at h;rw[abm,h,aaC];exact⟨λh=>GM h,λh j hj=>DS h hj⟩
def CE(W:CW)(r:Nat)(S:List ByteArray):Prop:=∃m:List (ByteArray×Value),Ge Value.string W r m∧∀s,Me m s=if S.any (λx=>decide (x=s))then some (.bool true)else none
theorem CE.congr{W W':CW}{r:Nat}{S:List ByteArray}(h:CE W r S)(ho:W'.obj r=W.obj r):CE W' r S:=by
 obtain⟨m,h1,h2⟩:=h;exact⟨m,h1.congr ho,h2⟩
theorem CE.lt{W:CW}(ht:Ag W){r:Nat}{S:List ByteArray}(h:CE W r S):r<W.sz:=by
 obtain⟨m,h1,h2⟩:=h;exact h1.lt ht
theorem AGR:prog.underlying 181=some (.map 9 4):=by kernel_rfl
theorem z4:Hr prog 4=some (.bool false):=by kernel_rfl
theorem CE.look{W:CW}{r:Nat}{S:List ByteArray}(h:CE W r S)(s:ByteArray):Sq prog 181 (.map (some r)) (.string s) false W=some (.bool (S.any λx=>decide (x=s))):=by
 obtain⟨m,h1,h2⟩:=h;rw[Mf AGR u9 rfl z4 G7 h1 s false,h2]
 cases S.any λx=>decide (x=s)<;>rfl
theorem CE.put{W:CW}{r:Nat}{S:List ByteArray}(h:CE W r S){s:ByteArray}{K:CW→Prop}(hK:∀W1,Dn r W W1→CE W1 r (S++[s])→K W1):wV (jt prog 181 (.map (some r)) (.string s) (.bool true) W) K:=by
 obtain⟨m,h1,h2⟩:=h;refine gh AGR u9 rfl G7 h1 λW1 hu hm=>hK W1 hu ⟨_,hm,λu=>?_⟩;rw[Jn,h2,ac3]
 by_cases e:u=s
 ·rw[aad e,e];simp
 ·rw[aac e];have:([s].any λx=>decide (x=u))=false:=by simp;exactλh=>e h.symm
  rw[this,acY]
def hZ(W:CW)(u:Value)(x:AV):Prop:=∃vf ab lb cb,u=.agg #[.string x.name,.string x.BR,vf,.int .u8 x.elem,.slice ab lb cb]∧At 2 (RZ W) vf x.fields
theorem FW{S:Nat→Prop}{W W':CW}(h:Bm S W W')(ht:Ag W)(hm:∀j,S j→∀k,W.cell j k=none){b k:Nat}{v:Value}(hc:W.cell b k=some v):W'.cell b k=some v :=
 h.cell ht (λhs=>by rw[hm b hs k]at hc;cases hc) hc
theorem CE.cell{W:CW}{r:Nat}{S:List ByteArray}(h:CE W r S)(k:Nat):W.cell r k=none:=by
 obtain⟨m,⟨es,Ez,h1,_⟩,_⟩:=h;unfold CW.cell;rw[h1]
def V0(W:CW)(r:Nat)(c:List AV):Prop:=∃m:List (ByteArray×Value),Ge Value.string W r m∧∀s,match Ah c s with
 |some i=>∃u x,Me m s=some u∧c[i]?=some x∧hZ W u x
 |none=>Me m s=none
theorem u75:prog.underlying 75=some (.map 9 48):=by kernel_rfl
def AAG:Value:=.agg #[.string ⟨#[]⟩,.string ⟨#[]⟩,.slice none 0 0,.int .u8 0,.slice none 0 0]
theorem V0.some{W:CW}{r:Nat}{c:List AV}(h:V0 W r c){s:ByteArray}{i:Nat}(hi:Ah c s=Option.some i):∃u x,c[i]?=Option.some x∧hZ W u x∧Sq prog 75 (.map (Option.some r)) (.string s) true W=Option.some (.tuple #[u,.bool true])∧Sq prog 75 (.map (Option.some r)) (.string s) false W=Option.some u:=by
 obtain⟨m,h1,h2⟩:=h;have:=h2 s;rw[hi]at this;obtain⟨u,x,h3,h4,h5⟩:=this
 refine⟨u,x,h4,h5,?_,?_⟩
 ·rw[Mf u75 u9 rfl tN G7 h1 s true,h3];rfl
 ·rw[Mf u75 u9 rfl tN G7 h1 s false,h3];rfl
theorem V0.none{W:CW}{r:Nat}{c:List AV}(h:V0 W r c){s:ByteArray}(hi:Ah c s=Option.none):Sq prog 75 (.map (Option.some r)) (.string s) true W=Option.some (.tuple #[AAG,.bool false])∧Sq prog 75 (.map (Option.some r)) (.string s) false W=Option.some AAG:=by
 obtain⟨m,h1,h2⟩:=h;have:=h2 s;rw[hi]at this
 constructor
 ·rw[Mf u75 u9 rfl tN G7 h1 s true,this];rfl
 ·rw[Mf u75 u9 rfl tN G7 h1 s false,this];rfl
theorem hZ.D4{S:Nat→Prop}{W W':CW}(h:Bm S W W')(ht:Ag W)(hm:∀j,S j→∀k,W.cell j k=none){u:Value}{x:AV}(hu:hZ W u x):hZ W' u x:=by
 obtain⟨vf,ab,lb,cb,h1,h2⟩:=hu;exact⟨vf,ab,lb,cb,h1,h2.imp λ_ _ _ hr=>⟨FW h ht hm hr.name,FW h ht hm hr.kind,hr.lo,hr.hi⟩⟩
theorem V0.D4{S:Nat→Prop}{W W':CW}(h:Bm S W W')(ht:Ag W)(hm:∀j,S j→∀k,W.cell j k=Option.none){r:Nat}{c:List AV}(hr:V0 W r c)(hS:¬S r):V0 W' r c:=by
 obtain⟨m,h1,h2⟩:=hr;refine⟨m,h1.congr (h.obj r (h1.lt ht) hS),λs=>?_⟩;have:=h2 s
 cases hi:Ah c s with
 |none=>rw[hi]at this;exact this
 |some i=>
  rw[hi]at this;obtain⟨u,x,h3,h4,h5⟩:=this;exact⟨u,x,h3,h4,h5.D4 h ht hm⟩
theorem V0.kp{W W':CW}{r:Nat}{c:List AV}(hr:V0 W r c)(ht:Ag W)(k:Kp W W'):V0 W' r c:=hr.D4 (Bm.Io (S:=λ_=>False) k) ht (λ_ h=>h.elim) (λh=>h)
theorem CE.kp{W W':CW}{r:Nat}{S:List ByteArray}(h:CE W r S)(ht:Ag W)(k:Kp W W'):CE W' r S:=h.congr (k.obj r (h.lt ht))
structure Tx(W:CW)(bk bs ba bf rs rf r1:Nat)(c:List AV):Prop where
 k:W.cell bk 0=some (.map (some r1))
 s:W.cell bs 0=some (.map (some rs))
 f:W.cell bf 0=some (.map (some rf))
 a:W.cell ba 0=some (.func (.func 125) #[] #[.pointer (some ⟨bk,0,none⟩),.pointer (some ⟨bs,0,none⟩),.pointer (some ⟨ba,0,none⟩),.pointer (some ⟨bf,0,none⟩)])
 sh:V0 W r1 c
 ns:r1≠rs
 nf:r1≠rf
 sf:rs≠rf
def Xy(rs rf:Nat)(j:Nat):Prop:=j=rs∨j=rf
theorem Xy.none{W:CW}{rs rf:Nat}{S F:List ByteArray}(hs:CE W rs S)(hf:CE W rf F):∀j,Xy rs rf j→∀k,W.cell j k=none:=by
 rintro j (rfl|rfl) k
 ·exact hs.cell k
 ·exact hf.cell k
theorem Tx.D4{W W':CW}{bk bs ba bf rs rf r1:Nat}{c:List AV}(R:Tx W bk bs ba bf rs rf r1 c)(ht:Ag W){S F:List ByteArray}(hs:CE W rs S)(hf:CE W rf F)(h:Bm (Xy rs rf) W W'):Tx W' bk bs ba bf rs rf r1 c :=
 have hm:=Xy.none hs hf
 ⟨FW h ht hm R.k,FW h ht hm R.s,FW h ht hm R.f,FW h ht hm R.a,R.sh.D4 h ht hm (λh=>h.elim R.ns R.nf),R.ns,R.nf,R.sf⟩
theorem RZ.ld{W:CW}{b o:Nat}{x:Vq}(h:RZ W b o x):ld prog 72 (.pointer (some ⟨b,o,none⟩)) W=some (.agg [.string x.name,.int .u8 x.kind].toArray) :=
 Bn (vs:=[.string x.name,.int .u8 x.kind]) a72 s72 rfl (by omega) h.cells
theorem AC':agg? prog 181=some false:=by kernel_rfl
theorem wC:agg? prog 75=some false:=by kernel_rfl
theorem a76:agg? prog 76=some false:=by kernel_rfl
theorem AGS:agg? prog 161=some false:=by kernel_rfl
theorem Hl(a:Addr):RL prog 78 (.pointer (some a)) 0=some (.pointer (some ⟨a.block,a.off,none⟩)):=by kernel_rfl
theorem Ks(a:Addr):RL prog 78 (.pointer (some a)) 1=some (.pointer (some ⟨a.block,a.off+1,none⟩)):=by kernel_rfl
theorem h_{F:List ByteArray}{gs:List Vq}{j:Nat}{g:Vq}(hg:gs[j]?=some g):CH F (gs.take (j+1))=(CH F (gs.take j)&&(Dj g.name&&(JO g.kind&& !(F++(gs.take j).map (·.name)).any λs=>decide (s=g.name)))):=by
 rw[aaX,hg,abw,HC];congr 1;simp[CH]
theorem mD{F:List ByteArray}{gs:List Vq}(j:Nat)(h:CH F (gs.take j)=false):CH F gs=false:=by
 rw[←abn j gs,HC,h,ab4]
theorem rB{W0 W:CW}{K:AB}{e e1:Env}{vf out:Value}{bk bs ba bf rs rf r1:Nat}{c:List AV}{S F:List ByteArray}{gs:List Vq}{ks:List Int}(t0:Ag W0)(R:Tx W0 bk bs ba bf rs rf r1 c){S0 F0:List ByteArray}(VZ:CE W0 rs S0)(hf0:CE W0 rf F0)(Ic:Bm (Xy rs rf) W0 W)(ht:Ag W)(hs:CE W rs S)(hf:CE W rf F)
  (hv:At 2 (RZ W0) vf gs) (hgl:gs.length≤100) (hnm:∀g,g∈gs→g.name.size<1000) (ho:C' W 5 1 out (BU ks)) (Wm:BZ W0.sz out) (oY:ks.length<100000)
  (h4:e 4=.pointer (some ⟨bf,0,none⟩)) (h49:e 49=vf) (h50:e 50=.int .i64 gs.length) (he:DR [4,49,50] e e1) (R4:e1 10=out) (h51:e1 51=.int .i64 0)
  (Hw:CH F gs=false→∀e' W',Bm (Xy rs rf) W0 W'→Ag W'→e' 6=.slice none 0 0→e' 7=.bool false→K .ret e' [] W')
  (Uz:CH F gs=true→∀e' W' NQ,Bm (Xy rs rf) W0 W'→Ag W'→e' 10=NQ→C' W' 5 1 NQ (BU (ks++gs.map (·.kind)))→BZ W0.sz NQ→CE W' rs S→CE W' rf (F++gs.map (·.name))→K (.exit 0) e' [] W') :
  Gi prog Bf none 125 84 (.loop (GB prog 125 0)) e1 [] W K:=by
 have Sh:=Xy.none VZ hf0;have AIy:=VZ.lt t0;have AIz:=hf0.lt t0
 refine EZ (λj e' FG W'=>FG=[]∧∃NQ,Bm (Xy rs rf) W0 W'∧Ag W'∧DR [4,49,50] e e'∧e' 10=NQ∧e' 51=.int .i64 j∧C' W' 5 1 NQ (BU (ks++(gs.take j).map (·.kind)))∧BZ W0.sz NQ∧CE W' rs S∧CE W' rf (F++(gs.take j).map (·.name))∧CH F (gs.take j)=true) gs.length
  ⟨rfl,out,Ic,ht,he,R4,h51,by simpa using ho,Wm,hs,by simpa using hf,by simp[CH]⟩ ?_
 rintro j e' FG W' hj ⟨rfl,NQ,wD,t',R5,wE,g51,I0,AC_,Oq,jq,Aa⟩;have g4:=(R5 4 (by decide)).trans h4;have g49:=(R5 49 (by decide)).trans h49;have g50:=(R5 50 (by decide)).trans h50;rw[zu,g4,g49,g50,g51];simp only[Af,AA]
 refine Hx (λAo=>?_) (λJi=>?_)
 ·have hx:=ck Ao;obtain⟨a,cap,rfl,hc⟩:=hv;obtain⟨p,rfl,hp⟩:=hc j _ hx;have hpW:RZ W' p.block (p.off+j*2) gs[j]:=⟨FW wD t0 Sh hp.name,FW wD t0 Sh hp.kind,hp.lo,hp.hi⟩
  rw[Ay u45 s72 Ao];simp only[AA];rw[hpW.ld];simp only[AA];refine DM z72 s72 rfl rfl rfl t' λW1 k1 t1 z1 hB=>?_;have q0:∀W2,Kp W1 W2→ld prog 9 (.pointer (some ⟨W'.sz,0,none⟩)) W2=some (.string gs[j].name):=λW2 k2=>AD a9 (a:=⟨W'.sz,0,none⟩) (k2.cell t1 (hB.cell rfl));have q1:∀W2,Kp W1 W2→ld prog 5 (.pointer (some ⟨W'.sz,0+1,none⟩)) W2=some (.int .u8 gs[j].kind):=λW2 k2=>AD a5 (a:=⟨W'.sz,0+1,none⟩) (k2.cell t1 (hB.cell rfl));simp only[dO,oP,AA,q0 W1 (.refl _)];have qC:=h_ (F:=F) hx;rw[Aa,abb]at qC;have ALM:=wD.sz;refine Rt (N2 t1 (by have:=hnm _ (aaG Ao);omega)) λW2 k2 t2=>?_;have ZW:=k1.trans k2;have mE:Bm (Xy rs rf) W0 W2:=wD.then (Bm.Io (S:=λ_=>False) ZW) λ_ _ h=>h.elim
  have leaf:∀(b:Bool) (e2:Env),DR [4,10,49,50,51] e' e2→e2 12=.pointer (some ⟨W'.sz,0,none⟩)→e2 70=.bool b→(b=!CH F (gs.take (j+1)))→
    (Jy none (N4 (λj e' FG W'=>FG=[]∧∃NQ,Bm (Xy rs rf) W0 W'∧Ag W'∧DR [4,49,50] e e'∧e' 10=NQ∧e' 51=.int .i64 j∧C' W' 5 1 NQ (BU (ks++(gs.take j).map (·.kind)))∧BZ W0.sz NQ∧CE W' rs S∧CE W' rf (F++(gs.take j).map (·.name))∧CH F (gs.take j)=true) j gs.length K)) .normal e2 [] W2:=by
   intro b e2 aj r12 r70 hb;simp only[Jy,BI,r70]
   refine AH (λZX=>?_) (λZX=>?_)
   ·simp only[XR,aG,BI,NP,Tm,IW,ey];rw[ZX]at hb;exact Hw (mD (j+1) (by simpa using hb.symm)) _ W2 mE t2 rfl rfl
   ·rw[ZX]at hb;have ZK:CH F (gs.take (j+1))=true:=by simpa using hb.symm
    have r4:=(aj 4 (by decide)).trans g4;have r10:=(aj 10 (by decide)).trans wE;have r51:=(aj 51 (by decide)).trans g51;simp only[XR,BI,r4,r10,r12];have qf:ld prog 181 (.pointer (some ⟨bf,0,none⟩)) W2=some (.map (some rf)):=AD AC' (a:=⟨bf,0,none⟩) (FW mE t0 Sh R.f);simp only[qf,AA,dO,oP,q0 W2 k2];refine(jq.kp t' ZW).put λW3 hu hf3=>?_;have AI0:rf<W2.sz:=by have:=mE.sz;omega
    have t3:Ag W3:=t2.A6 AI0 hu;have AI1:W'.sz≠rf:=by omega
    have qk:ld prog 5 (.pointer (some ⟨W'.sz,0+1,none⟩)) W3=some (.int .u8 gs[j].kind):=AD a5 (a:=⟨W'.sz,0+1,none⟩) (by
     show W3.cell W'.sz (0+1)=_;rw[hu.cell AI1]
     exact k2.cell t1 (hB.cell rfl))
    simp only[qk,AA];have ho3:C' W3 5 1 NQ (BU (ks++(gs.take j).map (·.kind))):=Mk (I0.kp t' ZW) hu λb l c e=>by have:=AC_ b l c e;omega
    refine vW VN s5 z5 rfl (by omega) by5 (by omega) (ABX _) rfl rfl t3 ho3 (by rw[IM,aah,aau,aaI];omega) λu v1 W4 Lz t4 o4 n4=>?_;have H0:∀i,Bh NQ i→W0.sz≤i:=λi hi=>AC_.in hi;have AI2:Bm (Xy rs rf) W0 W4:=((mE.then hu.D4 λi hi h=>.inr h)).then Lz.D4 λi hi h=>by have:=H0 i h;omega
    have wF:=Lz.sz;simp only[aG,BI,IW];simp only[AG,AN,Nat.reduceEqDiff,↓reduceIte,r51,AO,AA]
    have cU:CE W4 rs S:=by
     have h2:=Oq.kp t' ZW;have h3:CE W3 rs S:=h2.congr (hu.obj rs R.sf);exact h3.congr (Lz.obj rs (by rw[hu.sz];have:=mE.sz;omega) λb l c e hb=>by have:=H0 rs ⟨b,l,c,e,hb.symm⟩;omega)
    have hf4:CE W4 rf ((F++(gs.take j).map (·.name))++[gs[j].name]) :=
     hf3.congr (Lz.obj rf (by rw[hu.sz];omega) λb l c e hb=>by have:=H0 rf ⟨b,l,c,e,hb.symm⟩;omega)
    refine⟨Ao,trivial,v1,AI2,t4,(R5.trans λt ht=>aj t (by revert t;decide)).trans ((DR.put rfl).trans (.put rfl)),rfl,by rw[Dy (by omega)],?_,n4 _ (by rw[hu.sz];exact mE.sz),cU,?_,ZK⟩
    ·rw[aaX,hx];have:BU (ks++((gs.take j)++(some gs[j]).toList).map (·.kind))=BU (ks++(gs.take j).map (·.kind))++[.int .u8 gs[j].kind]:=by simp only[BU,aa5,abw,abr,List.map_nil,aaO]
     rw[this];exact o4
    ·rw[aaX,hx,aa5,←aaO];exact hf4
  simp only[AW,AA]
  refine AH (λhb=>?_) (λhb=>?_)
  ·have hb:Dj gs[j].name=false:=by simpa using hb
   exact leaf true _ (.put rfl) rfl rfl (by rw[qC,hb];rfl)
  ·have hb:Dj gs[j].name=true:=by simpa using hb
   simp only[q1 W2 k2,AA];refine A4 (aL _ _) ?_;simp only[AW,AA]
   refine AH (λO6=>?_) (λO6=>?_)
   ·have O6:JO gs[j].kind=false:=by unfold JO;simpa only[aaC]using O6
    exact leaf true _ (.put rfl) rfl rfl (by rw[qC,hb,O6];rfl)
   ·have O6:JO gs[j].kind=true:=by unfold JO;simpa only[aa_]using O6
    have qf:ld prog 181 (.pointer (some ⟨bf,0,none⟩)) W2=some (.map (some rf)):=AD AC' (a:=⟨bf,0,none⟩) (FW mE t0 Sh R.f);simp only[qf,q0 W2 k2,AA,(jq.kp t' ZW).look];exact leaf _ _ (.put rfl) rfl rfl (by rw[qC,hb,O6];simp)
 ·simp only[QV];have U0:gs.take j=gs:=aaS (by omega);rw[U0]at I0 jq Aa;exact Uz Aa _ W' NQ wD t' wE I0 AC_ Oq jq
def nameAt(c:List AV)(i:Nat):ByteArray:=match c[i]? with
 |some x=>x.name
 |none=>Dw
def L0(c:List AV)(F:List ByteArray)(s:ByteArray):Option (List Vq):=match Ah c s with
 |some i=>match Bg c c.length i with
  |some l=>if CH F (l.reverse.flatMap (KG c))&&decide ((l.reverse.flatMap (KG c)).length≤60)then some (l.reverse.flatMap (KG c))else none
  |none=>none
 |none=>none
def V2(c:List AV)(rs rf:Nat)(F:List ByteArray)(s:ByteArray)(W:CW):Ending→CW→Prop:=λe W'=>Bm (Xy rs rf) W W'∧Ag W'∧match L0 c F s with
 |some fs=>∃vo S',e=.returned (.tuple #[vo,.bool true])∧C' W' 5 1 vo (BU (fs.map (·.kind)))∧BZ W.sz vo∧CE W' rs S'∧CE W' rf (F++fs.map (·.name))
 |none=>∃vo,e=.returned (.tuple #[vo,.bool false])
theorem Oe(a b c d e:Value):fld prog 48 (.agg #[a,b,c,d,e]) 3=some d:=by kernel_rfl
theorem Xz{args:List Value}{cap:Array Value}{W:CW}{K:Value→CW→Prop}{KP:List PanicEntry→CW→Prop}(h:AX prog Bf 125 (args++cap.toList) W (BO K KP)):Dt prog Bf (.func (.func 125) #[] cap) args W K KP :=
 G5 Tryz.func125 (by kernel_rfl) (by simpa using h)
theorem wG{c:List AV}(hs:∀j,j<c.length→BP c j=false){S:List Nat}(hS:∀j,j∈S→j<c.length){i:Nat}{x:AV}(hx:c[i]?=some x):((S.map (nameAt c)).any λu=>decide (u=x.name))=decide (i∈S):=by
 rw[abm,aaH,decide_eq_true_eq]
 constructor
 ·rintro⟨u,hu,he⟩;obtain⟨j,hj,rfl⟩:=aaU.1 hu;have Y4:=hS j hj;have ez:=ck Y4;have he:=of_decide_eq_true he;unfold nameAt at he;rw[ez]at he
  by_cases e:j=i
  ·exact e▸hj
  ·exact(mA hs e Y4 (aaa.1 hx).1 ez hx he).elim
 ·intro hi;exact⟨x.name,aaU.2 ⟨i,hi,by unfold nameAt;rw[hx]⟩,by simp⟩
theorem ADA{c:List AV}(hC:Ru c)(hsh:∀j,j<c.length→BP c j=false){bk bs ba bf rs rf r1:Nat}{F:List ByteArray}:∀(n:Nat) (S:List Nat) (s:ByteArray) (W:CW),Ag W→Tx W bk bs ba bf rs rf r1 c→CE W rs (S.map (nameAt c))→CE W rf F→S.Nodup→(∀j,j∈S→j<c.length)→c.length≤n+S.length→
  (∀i0,i0∈S→∀f l,Bg c f i0=some l→∃i f' m,Ah c s=some i∧Bg c f' i=some m∧m.length<l.length)→s.size<1000000→
  AX prog Bf 125 [.string s,.pointer (some ⟨bk,0,none⟩),.pointer (some ⟨bs,0,none⟩),.pointer (some ⟨ba,0,none⟩),.pointer (some ⟨bf,0,none⟩)] W (V2 c rs rf F s W):=by
 intro n
 induction n using Nat.strongRecOn with
 | ind n ih=>
  intro S s W ht R hs hf ZM hSl hlen hinv Hs;refine ACl ?_;rw[ACk];have qk:∀W1,Kp W W1→ld prog 75 (.pointer (some ⟨bk,0,none⟩)) W1=some (.map (some r1)):=λW1 k1=>AD wC (a:=⟨bk,0,none⟩) (k1.cell ht R.k);have qs:∀W1,Kp W W1→ld prog 181 (.pointer (some ⟨bs,0,none⟩)) W1=some (.map (some rs)):=λW1 k1=>AD AC' (a:=⟨bs,0,none⟩) (k1.cell ht R.s);simp only[Hl,AA,qk W (.refl _)];generalize Hm:AQ prog Tryz.f125 (V2 c rs rf F s W)=K
  have H0:∀(e:Env) W' v,Bm (Xy rs rf) W W'→Ag W'→e 6=v→e 7=.bool false→L0 c F s=none→K .ret e [] W':=by
   intro e W' v k t h6 h7 hr;rw[←Hm,XS,h6,h7];unfold V2;rw[hr];exact⟨k,t,v,rfl⟩
  cases hi:Ah c s with
  |none=>
   obtain⟨l1,_⟩:=R.sh.none hi;simp only[l1,BV,BW,AA];have Oz:L0 c F s=none:=by unfold L0;rw[hi]
   refine DM (ws:=[.string ⟨#[]⟩,.string ⟨#[]⟩,.slice none 0 0,.int .u8 0,.slice none 0 0]) tN jx rfl rfl rfl ht λW1 k1 t1 z1 hB=>?_;simp only[AW,AA];rw[show(!false)=true from rfl];simp only[BB,Vp,TZ,Jl,II,BI,NP,aH];rw[show∀b l,(Env.of (Env.args [Value.string s,.pointer (some ⟨bk,0,none⟩),.pointer (some ⟨bs,0,none⟩),.pointer (some ⟨ba,0,none⟩),.pointer (some ⟨bf,0,none⟩)]) ((26,b)::l)) 26=b fromλ_ _=>rfl];simp only[BB];exact H0 _ W1 _ (Bm.Io k1) t1 rfl rfl Oz
  | some i=>
   obtain⟨u,x,hx,hu,l1,_⟩:=R.sh.some hi;simp only[l1,BV,BW,AA];obtain⟨vf,ab,lb,cb,rfl,hvf⟩:=hu;obtain⟨af,cf,rfl,_⟩:=id hvf;have H2:=(aaa.1 hx).1
   have PF:x.name=s:=by
    obtain⟨h1,h2,_⟩:=aaq.1 hi;rw[ck h1]at hx;cases hx;exact of_decide_eq_true h2
   refine DM (ws:=[.string x.name,.string x.BR,.slice af x.fields.length cf,.int .u8 x.elem,.slice ab lb cb]) tN jx rfl rfl rfl ht λW1 k1 t1 z1 hB=>?_;simp only[AW,AA];rw[show(!true)=false from rfl];have WY:=hs.kp ht k1;have zO:=hf.kp ht k1;simp only[AZ,qs W1 k1,AA,WY.look];rw[←PF,wG hsh hSl hx];have e26:∀b l,(Env.of (Env.args [Value.string s,.pointer (some ⟨bk,0,none⟩),.pointer (some ⟨bs,0,none⟩),.pointer (some ⟨ba,0,none⟩),.pointer (some ⟨bf,0,none⟩)]) ((26,b)::l)) 26=b:=λ_ _=>rfl;simp only[Vp,BI];rw[PF,e26];have Sh:=Xy.none hs hf;have AGT:=Xy.none WY zO;have AI3:=WY.lt t1;have ALN:=zO.lt t1;have AIy:=hs.lt ht;have AIz:=hf.lt ht;have q1:∀W2,Bm (Xy rs rf) W1 W2→ld prog 9 (.pointer (some ⟨W.sz,0+1,none⟩)) W2=some (.string x.BR):=λW2 k2=>AD a9 (a:=⟨W.sz,0+1,none⟩) (FW k2 t1 AGT (hB.cell rfl));have q2:∀W2,Bm (Xy rs rf) W1 W2→ld prog 45 (.pointer (some ⟨W.sz,0+2,none⟩)) W2=some (.slice af x.fields.length cf):=λW2 k2=>AD a45 (a:=⟨W.sz,0+2,none⟩) (FW k2 t1 AGT (hB.cell rfl))
   refine AH (λhm=>?_) (λhm=>?_)
   ·have hm:=of_decide_eq_true hm;simp only[TZ,Jl,II,BI,NP,aH];refine H0 _ W1 _ (Bm.Io k1) t1 rfl rfl ?_;unfold L0;rw[hi];simp only
    cases hl:Bg c c.length i with
    |none=>rfl
    |some l=>
     obtain⟨i',f',m,h1,h2,h3⟩:=hinv i hm _ _ hl;rw[hi]at h1;cases h1;rw[ae hl h2]at h3;omega
   ·have hm:=of_decide_eq_false hm;simp only[TZ,BI];simp only[AG,AN,jv,Nat.reduceEqDiff,↓reduceIte,jw,vT,aK];simp only[qs W1 k1,AA];refine WY.put λW2 KU Ul=>?_;have c2:Bm (Xy rs rf) W1 W2:=⟨by rw[KU.sz];exact aaf _,λj hj hn=>KU.obj j (λe=>hn (.inl e))⟩
    have t2:=t1.A6 AI3 KU;have uJ:CE W2 rf F:=zO.congr (KU.obj rf (abW R.sf));have R1:=R.D4 ht hs hf (Bm.Io k1);have R2:=R1.D4 t1 WY zO c2;have c02:Bm (Xy rs rf) W W2:=(Bm.Io k1).then c2 λ_ _ h=>h
    have Ul:CE W2 rs ((S++[i]).map (nameAt c)):=by
     rw[aa5];have:nameAt c i=s:=by unfold nameAt;rw[hx];exact PF
     simp only[abr,List.map_nil,this];exact Ul
    simp only[dM,AA,q1 W2 c2,OZ,RY];have To:x.fields.length≤100:=hC.fields x (aai hx);have cD:∀g,g∈x.fields→g.name.size<1000:=hC.AGA x (aai hx)
    have tail:∀(W3:CW) (out:Value) (S3:List ByteArray) (hd:List Vq) (e2:Env),Bm (Xy rs rf) W W3→Bm (Xy rs rf) W1 W3→Ag W3→CE W3 rs S3→CE W3 rf (F++hd.map (·.name))→C' W3 5 1 out (BU (hd.map (·.kind)))→BZ W.sz out→hd.length≤60→e2 4=.pointer (some ⟨bf,0,none⟩)→e2 8=.pointer (some ⟨W.sz,0,none⟩)→e2 10=out→
      (L0 c F s=if CH F (hd++x.fields)&&decide ((hd++x.fields).length≤60)then some (hd++x.fields)else none)→CH F hd=true→
      (Mc none K) .normal e2 [] W3:=by
     intro W3 out S3 hd e2 c3 c13 t3 rC hf3 ho3 ak hhl h4 h8 R4 Oz AI4;simp only[Jl,BI,h8,Rq,AA,q2 W3 c13,Aj u45];have ALO:=c3.sz
     refine rB (e:=Env.of e2 [(50,.int .i64 x.fields.length),(49,.slice af x.fields.length cf)]) ht R hs hf c3 t3 rC hf3 hvf To cD ho3 ak (by rw[aau];omega) h4 rfl rfl (λt ht=>by
      simp only[aaE,acU,or_false]at ht
      rcases ht with rfl|rfl|rfl<;>rfl) R4 rfl (λhb e' W' c' t' h6 h7=>?_) (λhb e' W' NQ c' t' AI5 I0 ZF Oq jq=>?_)
     ·simp only[NP,Tm,II];refine H0 e' W' _ c' t' h6 h7 ?_;rw[Oz,HC,hb];simp
     ·have oY:(BU (hd.map (·.kind)++x.fields.map (·.kind))).length=(hd++x.fields).length*1:=by simp[BU]
      simp only[BI,Oy,IJ,aaA,II,AI5];rw[JG VN I0 (by omega) oY];simp only[AA,Dv];have AI6:CH F (hd++x.fields)=true:=by rw[HC,AI4,hb];rfl
      rw[AI6,abb]at Oz;rw[←Hm,XS];unfold V2
      by_cases hle:(hd++x.fields).length≤60
      ·rw[Oz,aad (decide_eq_true hle)];refine⟨c',t',NQ,S3,?_,by rw[aa5];exact I0,ZF,Oq,by rw[aa5,←aaO];exact jq⟩;simp only[AG,Nat.reduceEqDiff,↓reduceIte];rw[decide_eq_true (by omega)]
      ·rw[Oz,aac (by simp;simp at hle;omega)];refine⟨c',t',NQ,?_⟩;simp only[AG,Nat.reduceEqDiff,↓reduceIte];rw[decide_eq_false (by omega)]
    refine AH (λiA=>?_) (λiA=>?_)
    ·have iA:x.BR≠Dw:=by simpa[Dw]using iA
     obtain ABb:=R2.sh;have qk2:ld prog 75 (.pointer (some ⟨bk,0,none⟩)) W2=some (.map (some r1)):=AD wC (a:=⟨bk,0,none⟩) R2.k;have qa2:ld prog 161 (.pointer (some ⟨ba,0,none⟩)) W2=some (.func (.func 125) #[] #[.pointer (some ⟨bk,0,none⟩),.pointer (some ⟨bs,0,none⟩),.pointer (some ⟨ba,0,none⟩),.pointer (some ⟨bf,0,none⟩)]):=AD AGS (a:=⟨ba,0,none⟩) R2.a;simp only[Hl,AA,qk2,q1 W2 c2,qa2]
     have Y5:QA c i=match Ah c x.BR with
       |some j=>if elemAt c j=0 then some j else none
       |none=>none:=by
      unfold QA;rw[hx];simp only;unfold Ah
      cases hj:c.findIdx? λy=>decide (y.name=x.BR)with
      |none=>rfl
      |some j=>
       have Y4:=(aaq.1 hj).1;simp only[elemAt,ck Y4]
     have ADB:x.BR.size<1000000:=by have:=hC.sup x (aai hx);omega
     have ADC:∀f m,Bg c f i=some m→∃j f' m',QA c i=some j∧Bg c f' j=some m'∧m=i::m':=by
      intro f m h
      rcases Dp hx h with⟨h1,_⟩|⟨_,f1,j,m',_,h2,h3,h4⟩
      ·exact(iA h1).elim
      ·exact⟨j,f1,m',h2,h3,h4⟩
     have hij:∀j,QA c i=some j→Ah c x.BR=some j:=by
      intro j h;rw[Y5]at h
      cases hj:Ah c x.BR with
      |none=>rw[hj]at h;cases h
      |some j'=>
       rw[hj]at h;simp only at h
       split at h
       ·exact h
       ·cases h
     have AGU:(S++[i]).Nodup:=by
      rw[acv];exact⟨ZM,abt _ _,λa ha b hb=>by rw[dx.1 hb];exactλe=>hm (e▸ha)⟩
     have AGV:∀j,j∈S++[i]→j<c.length:=λj hj=>by
      rcases aaB.1 hj with h|h
      ·exact hSl j h
      ·rw[dx.1 h];exact H2
     have hpg:=oa AGU AGV;rw[aah,aaJ]at hpg
     have fe:=ih (n-1) (by omega) (S++[i]) x.BR W2 t2 R2 Ul uJ AGU AGV (by rw[aah,aaJ];omega) (λi0 h0 f l hl=>by
      have h1:∃f' m,Bg c f' i=some m∧m.length≤l.length:=by
       rcases aaB.1 h0 with h|h
       ·obtain⟨i',f',m,h2,h3,h4⟩:=hinv i0 h f l hl;rw[hi]at h2;cases h2;exact⟨f',m,h3,Nat.le_of_lt h4⟩
       ·rw[dx.1 h]at hl;exact⟨f,l,hl,aaf _⟩
      obtain⟨f',m,h2,h3⟩:=h1;obtain⟨j,f2,m',h4,h5,rfl⟩:=ADC f' m h2
      exact⟨j,f2,m',hij j h4,h5,by simp only[aap]at h3;omega⟩) ADB
     have ABc:QA c i=none→L0 c F s=none:=by
      intro h;unfold L0;rw[hi];simp only
      cases hl:Bg c c.length i with
      |none=>rfl
      |some l=>
       obtain⟨j,_,_,h2,_⟩:=ADC _ _ hl;rw[h]at h2;cases h2
     cases hj:Ah c x.BR with
     |none=>
      obtain⟨_,l2⟩:=ABb.none hj;rw[hj]at Y5;simp only at Y5;rw[l2];simp only[AA];unfold AAG;rw[Oe];simp only[AA,CM];rw[show((0:Int) !=0)=false from rfl];simp only[AZ];refine Xz (fe.mono λen W5 ⟨c5,t5,hp⟩=>?_);have:L0 c F x.BR=none:=by unfold L0;rw[hj]
      rw[this]at hp;obtain⟨vo,rfl⟩:=hp;simp only[BO,BV,BW,AA,AW];rw[show(!false)=true from rfl];simp only[BB,Jl,II,BI,NP];exact H0 _ W5 _ (c02.then c5 λ_ _ h=>h) t5 rfl rfl (ABc Y5)
     | some j=>
      obtain⟨u,y,hy,hu,_,l2⟩:=ABb.some hj;obtain⟨vf2,ab2,lb2,cb2,rfl,_⟩:=hu;rw[hj]at Y5;simp only at Y5;have MJ:elemAt c j=y.elem:=by unfold elemAt;rw[hy]
      rw[l2];simp only[AA];rw[Oe];simp only[AA,CM]
      refine AH (λhe=>?_) (λhe=>?_)
      ·have he:y.elem≠0:=by simpa using he
       simp only[Jl,II,NP];exact H0 _ W2 _ c02 t2 rfl rfl (ABc (by rw[Y5,aac (by rw[MJ];exact he)]))
      ·have he:y.elem=0:=by simpa using he
       have Y5:QA c i=some j:=by rw[Y5,aad (by rw[MJ];exact he)]
       have hfi:KG c i=x.fields:=by unfold KG;rw[hx]
       have Z1:L0 c F s=match Bg c c.length j with
         |some m=>if CH F (m.reverse.flatMap (KG c)++x.fields)&&decide ((m.reverse.flatMap (KG c)++x.fields).length≤60)then some (m.reverse.flatMap (KG c)++x.fields)else none
         |none=>none:=by
        unfold L0;rw[hi];simp only
        cases hl:Bg c c.length i with
        | none=>
         cases hm:Bg c c.length j with
         |none=>rfl
         |some m=>
          have:Bg c (c.length+1) i=some (i::m):=by rw[IK hx iA,Y5];simp only[hm];rfl
          rw[ag this]at hl;cases hl
        |some l=>
         obtain⟨j',f',m,h2,h3,rfl⟩:=ADC _ _ hl;rw[Y5]at h2;cases h2;rw[ag h3];simp only[List.reverse_cons,aa4,aas,acB,aaR,hfi]
       have rD:L0 c F x.BR=match Bg c c.length j with
         |some m=>if CH F (m.reverse.flatMap (KG c))&&decide ((m.reverse.flatMap (KG c)).length≤60)then some (m.reverse.flatMap (KG c))else none
         |none=>none:=by
        unfold L0;rw[hj]
       refine Xz (fe.mono λen W5 ⟨c5,t5,hp⟩=>?_);have c05:Bm (Xy rs rf) W W5:=c02.then c5 λ_ _ h=>h
       cases hrI:L0 c F x.BR with
       | none=>
        rw[hrI]at hp;obtain⟨vo,rfl⟩:=hp;simp only[BO,BV,BW,AA,AW];rw[show(!false)=true from rfl];simp only[BB,Jl,II,BI,NP];refine H0 _ W5 _ c05 t5 rfl rfl ?_;rw[Z1];rw[hrI]at rD
        cases hm:Bg c c.length j with
        |none=>rfl
        |some m=>
         rw[hm]at rD;simp only at rD ⊢
         split at rD
         ·cases rD
         ·rename_i hn;rw[aac];intro hh;apply hn;simp only[dy,decide_eq_true_eq,HC,aah]at hh ⊢;exact⟨hh.1.1,by omega⟩
       | some fs=>
        rw[hrI]at hp;obtain⟨vo,S',rfl,ho5,hn5,hs5,hf5⟩:=hp;simp only[BO,BV,BW,AA,AW];rw[show(!true)=false from rfl];simp only[AZ];rw[hrI]at rD
        cases hm:Bg c c.length j with
        |none=>rw[hm]at rD;cases rD
        | some m=>
         rw[hm]at rD Z1;simp only at rD Z1
         split at rD
         ·rename_i hh
          cases rD
          simp only[dy,decide_eq_true_eq]at hh;have kR:=c2.sz;have ALP:=k1.sz;exact tail W5 vo S' _ _ c05 (c2.then c5 λ_ _ h=>h) t5 hs5 hf5 ho5 (λb l c e=>by have:=hn5 b l c e;omega) hh.2 rfl rfl rfl Z1 hh.1
         ·cases rD
    ·have iA:x.BR=Dw:=by simpa[Dw]using iA
     refine tail W2 (.slice none 0 0) _ [] _ c02 c2 t2 Ul (by simpa using uJ) C'.nil (BZ.nil _ _ _) (by simp) rfl rfl rfl ?_ rfl;unfold L0;rw[hi];simp only;rw[Fh hx iA];simp only[List.reverse_cons,List.reverse_nil,abf,aas,acB,aaR];have:KG c i=x.fields:=by unfold KG;rw[hx]
     rw[this]
theorem AGW:Hr prog 181=some (.map none):=by kernel_rfl
theorem AGX:De prog 181=some 1:=by kernel_rfl
theorem AI7:Hr prog 161=some .nilFunc:=by kernel_rfl
theorem AI8:De prog 161=some 1:=by kernel_rfl
theorem U1:De prog 78=some 2:=by kernel_rfl
theorem a78:agg? prog 78=some true:=by kernel_rfl
theorem z78:Hr prog 78=some (.agg #[.map none,.map none]):=by kernel_rfl
theorem wH{t:TypeId}{z v:Value}(hz:Hr prog t=some z)(hs:De prog t=some 1)(uT:z.cells.size=1)(h1:BG v=true){W:CW}{K:Value→CW→Prop}(ht:Ag W)
  (hk:∀W2,Kp W W2→Ag W2→W2.sz=W.sz+1→Aq W2 W.sz t [v]→K (.pointer (some ⟨W.sz,0,none⟩)) W2):Iw (n_ prog t W) λp W1=>wV (NK prog t p v W1) λW2=>K p W2:=by
 refine H' hz hs ht λW1 k1 t1 z1 hB=>?_;refine Ac hs (a:=⟨W.sz,0,none⟩) h1 hB (by simp[uT]) λW2 hu Ey=>?_;rw[Tq (by simp[uT])]at Ey;exact hk W2 (k1.A6 (aaf _) hu) (t1.A6 (by rw[z1];exact acT _) hu) (by rw[hu.sz,z1]) Ey
theorem AAH{t:TypeId}{z:Value}{v:Value→Value}(hz:Hr prog t=some z)(hs:De prog t=some 1)(uT:z.cells.size=1){W:CW}(h1:BG (v (.pointer (some ⟨W.sz,0,none⟩)))=true){K:Value→CW→Prop}(ht:Ag W)
  (hk:∀W2,Kp W W2→Ag W2→W2.sz=W.sz+1→Aq W2 W.sz t [v (.pointer (some ⟨W.sz,0,none⟩))]→K (.pointer (some ⟨W.sz,0,none⟩)) W2):Iw (n_ prog t W) λp W1=>wV (NK prog t p (v p) W1) λW2=>K p W2:=by
 refine H' hz hs ht λW1 k1 t1 z1 hB=>?_;refine Ac hs (a:=⟨W.sz,0,none⟩) h1 hB (by simp[uT]) λW2 hu Ey=>?_;rw[Tq (by simp[uT])]at Ey;exact hk W2 (k1.A6 (aaf _) hu) (t1.A6 (by rw[z1];exact acT _) hu) (by rw[hu.sz,z1]) Ey
def wJ(c:List AV)(s:ByteArray)(W:CW):Ending→CW→Prop:=λe W'=>Kp W W'∧Ag W'∧match L0 c [] s with
 |some fs=>∃vo,e=.returned (.tuple #[vo,.bool true])∧C' W' 5 1 vo (BU (fs.map (·.kind)))∧BZ W.sz vo
 |none=>∃vo,e=.returned (.tuple #[vo,.bool false])
theorem AAI{c:List AV}(hC:Ru c)(hsh:∀j,j<c.length→BP c j=false){r1:Nat}{v2:Value}{s:ByteArray}{W:CW}(ht:Ag W)(hr:V0 W r1 c)(TB:BG v2=true)(Hs:s.size<1000000) :
  AX prog Bf 102 [.agg #[.map (some r1),v2],.string s] W (wJ c s W):=by
 refine ACj ?_;rw[ACi];refine Fy U1 ht λW0 k0 t0 z0 QJ=>?_;have QJ:Aq W0 W.sz 78 [.map (some r1),v2]:=QJ;refine XX (enc:=Value.string) t0 λW1 k1 t1 z1 O3=>?_;refine wH AGW AGX rfl rfl t1 λW3 k3 t3 z3 Fk=>?_;refine XX (enc:=Value.string) t3 λW4 k4 t4 z4 uW=>?_;refine wH AGW AGX rfl rfl t4 λW6 k6 t6 z6 Ms=>?_;simp only[AA];refine AAH (v:=λp=>.func (.func 125) #[] #[.pointer (some ⟨W.sz,0,none⟩),.pointer (some ⟨W1.sz,0,none⟩),p,.pointer (some ⟨W4.sz,0,none⟩)]) AI7 AI8 rfl rfl t6 λW8 k8 t8 z8 Sr=>?_;rw[AD AGS (a:=⟨W6.sz,0,none⟩) (Sr.cell rfl)];simp only[AA];have k08:Kp W0 W8:=(((k1.trans k3).trans k4).trans k6).trans k8;have kk:=k0.trans k08;have VZ:CE W8 W0.sz ([].map (nameAt c)):=⟨[],(O3.kp t1 (((k3.trans k4).trans k6).trans k8)),λs=>rfl⟩
 have hf0:CE W8 W3.sz []:=⟨[],uW.kp t4 (k6.trans k8),λs=>rfl⟩
 have KE:=(hr.D4 (Bm.Io (S:=λ_=>False) kk) ht (λ_ h=>h.elim) (λh=>h))
 have AGY:r1<W.sz:=by
  obtain⟨m,h1,_⟩:=hr;exact h1.lt ht
 have R:Tx W8 W.sz W1.sz W6.sz W4.sz W0.sz W3.sz r1 c:=⟨k08.cell t0 (QJ.cell rfl),(((k4.trans k6).trans k8)).cell t3 (Fk.cell rfl),k8.cell t6 (Ms.cell rfl),Sr.cell rfl,KE,by omega,by omega,by omega⟩
 refine Xz ((ADA hC hsh c.length [] s W8 t8 R VZ hf0 ack (λj h=>by cases h) (by simp) (λ_ h=>by cases h) Hs).mono λen W9 ⟨c9,t9,hp⟩=>?_);have kW:Kp W W9:=Bm.kp kk c9 λj hj=>by rcases hj with rfl|rfl<;>omega
 cases yw:L0 c [] s with
 |none=>
  rw[yw]at hp;obtain⟨vo,rfl⟩:=hp;simp only[BO,BV,BW,AA];rw[XQ];refine⟨kW,t9,?_⟩;rw[yw];exact⟨vo,rfl⟩
 |some fs=>
  rw[yw]at hp;obtain⟨vo,S',rfl,ho,hn,_,_⟩:=hp;simp only[BO,BV,BW,AA];rw[XQ];refine⟨kW,t9,?_⟩;rw[yw];exact⟨vo,rfl,ho,λb l c e=>abh kk.sz (hn b l c e)⟩
theorem wK{c:List AV}{s:ByteArray}{i:Nat}(hi:Ah c s=some i):L0 c [] s=if LG c i then none else some (EP c i):=by
 unfold L0 LG;rw[hi];simp only
 cases hl:Bg c c.length i with
 |none=>rfl
 | some l=>
  have hf:EP c i=l.reverse.flatMap (KG c):=by unfold EP;rw[hl]
  simp only;rw[←hf,mC]
  by_cases h60:(EP c i).length≤60
  ·rw[decide_eq_true h60,decide_eq_false (by omega)]
   cases ER (EP c i).length (J5 (EP c i))<;>rfl
  ·rw[decide_eq_false h60,decide_eq_true (by omega)];simp
theorem iB:Tryz.f47.results.toList=[.cell 2 78,.tmp 3]:=by kernel_rfl
theorem J7{P:Program}{fn:Func}{Q:Ending→CW→Prop}{e:Env}{W:CW}{s t:Tmp}{ty:TypeId}{p:Addr}{v:Value}(hr:fn.results.toList=[.cell s ty,.tmp t])(he:e s=.pointer (some p))(hv:ld P ty (.pointer (some p)) W=some v)(hq:Q (.returned (.tuple #[v,e t])) W):AQ P fn Q .ret e [] W:=by
 have hv:LS P ty p W=some v:=hv;simp only[AQ,CI,hr,Jt,qX,he,hv];exact hq
theorem aq{c:List AV}{i:Nat}(hs:∀j,j<i+1→BP c j=false){x:AV}(hx:c[i]?=some x)(s:ByteArray):Ah (c.take (i+1)) s=if s=x.name then some i else Ah (c.take i) s:=by
 unfold Ah;have H2:=(aaa.1 hx).1;rw[aaX,hx,abw,acX]
 by_cases e:s=x.name
 ·rw[aad e]
  have:(c.take i).findIdx? (λy=>decide (y.name=s))=none:=by
   rw[aaL];intro y hy;obtain⟨j,hj,rfl⟩:=aa2.1 hy;have:=mA hs (by omega:j≠i) (by omega) (by omega) (ck (by omega)) hx;rw[e]
   simpa using this
  rw[this];simp[ac9,e,aaI];omega
 ·rw[aac e];have:([x].findIdx? λy=>decide (y.name=s))=none:=by simp[ac9];exactλh=>e h.symm
  rw[this]
  cases (c.take i).findIdx? (λy=>decide (y.name=s))<;>rfl
theorem Mt{W W':CW}{r b k:Nat}{v:Value}{m:List (ByteArray×Value)}(hu:Dn r W W')(hm:Ge Value.string W r m)(hc:W.cell b k=some v):W'.cell b k=some v:=by
 obtain⟨es,Ez,h1,_⟩:=hm
 have:b≠r:=by
  rintro rfl;unfold CW.cell at hc;rw[h1]at hc;cases hc
 rw[hu.cell this];exact hc
theorem V0.put{W:CW}{r:Nat}{c:List AV}{i:Nat}{x:AV}{u:Value}(h:V0 W r (c.take i))(hs:∀j,j<i+1→BP c j=false)(hx:c[i]?=Option.some x)(hu:hZ W u x){K:CW→Prop}(hK:∀W1,Dn r W W1→(∀b k v,W.cell b k=Option.some v→W1.cell b k=Option.some v)→V0 W1 r (c.take (i+1))→K W1):wV (jt prog 75 (.map (Option.some r)) (.string x.name) u W) K:=by
 obtain⟨m,h1,h2⟩:=h;refine gh u75 u9 rfl G7 h1 λW1 Y5 hm=>?_;have A5:∀b k v,W.cell b k=Option.some v→W1.cell b k=Option.some v:=λb k v hc=>Mt Y5 h1 hc;have hA:∀{u x},hZ W u x→hZ W1 u x:=λ{u x} ⟨vf,ab,lb,cb,h3,h4⟩=>⟨vf,ab,lb,cb,h3,h4.imp λ_ _ _ hr=>⟨A5 _ _ _ hr.name,A5 _ _ _ hr.kind,hr.lo,hr.hi⟩⟩
 refine hK W1 Y5 A5 ⟨_,hm,λs=>?_⟩;have H2:=(aaa.1 hx).1;rw[aq hs hx,Jn]
 by_cases e:s=x.name
 ·rw[aad e,aad e];exact⟨u,x,rfl,by rw[aaW,aad (by omega)];exact hx,hA hu⟩
 ·rw[aac e,aac e];have:=h2 s
  cases hi:Ah (c.take i) s with
  |none=>rw[hi]at this;exact this
  |some j=>
   rw[hi]at this;obtain⟨u',x',h3,h4,h5⟩:=this;refine⟨u',x',h3,?_,hA h5⟩;rw[aaW]at h4 ⊢
   split at h4
   ·rw[aad (by omega)];exact h4
   ·cases h4
theorem AGZ(a b:Nat):ZT prog 78 [(0,.map (some a)),(1,.map (some b))]=some (.agg [.map (some a),.map (some b)].toArray):=by kernel_rfl
theorem QK{W:CW}{b a1 a2:Nat}(h:Aq W b 78 [.map (some a1),.map (some a2)]):ld prog 78 (.pointer (some ⟨b,0,none⟩)) W=some (.agg [.map (some a1),.map (some a2)].toArray):=Bn (vs:=[.map (some a1),.map (some a2)]) a78 U1 rfl (by omega) h.cells
def RwM(W:CW)(r:Nat)(c:List AV)(n:Nat):Prop:=∃m:List (ByteArray×Value),Ge Value.string W r m∧∀s,match Ah (c.take n) s with
 |some i=>∃v,Me m s=some v∧At 1 (RKd W) v (Al c i)
 |none=>Me m s=none
theorem u76:prog.underlying 76=some (.map 9 29):=by kernel_rfl
theorem z29:Hr prog 29=some (.slice none 0 0):=by kernel_rfl
theorem RwM.put{W:CW}{r:Nat}{c:List AV}{i:Nat}{x:AV}{u:Value}(h:RwM W r c i)(hs:∀j,j<c.length→BP c j=false)(hx:c[i]?=some x)(hu:At 1 (RKd W) u (Al c i)){K:CW→Prop}(hK:∀W1,Dn r W W1→(∀b k v,W.cell b k=some v→W1.cell b k=some v)→RwM W1 r c (i+1)→K W1):wV (jt prog 76 (.map (some r)) (.string x.name) u W) K:=by
 obtain⟨m,h1,h2⟩:=h;refine gh u76 u9 rfl G7 h1 λW1 Y5 hm=>?_;have A5:∀b k v,W.cell b k=some v→W1.cell b k=some v:=λb k v hc=>Mt Y5 h1 hc;have H2:=(aaa.1 hx).1;refine hK W1 Y5 A5 ⟨_,hm,λs=>?_⟩;rw[aq (λj hj=>hs j (by omega)) hx,Jn]
 by_cases e:s=x.name
 ·rw[aad e,aad e];exact⟨u,rfl,hu.imp λ_ _ _ hr=>A5 _ _ _ hr⟩
 ·rw[aac e,aac e];have:=h2 s
  cases hi:Ah (c.take i) s with
  |none=>rw[hi]at this;exact this
  |some j=>
   rw[hi]at this;obtain⟨v,h3,h4⟩:=this;exact⟨v,h3,h4.imp λ_ _ _ hr=>A5 _ _ _ hr⟩
structure FB(W:CW)(r1 r2:Nat)(c:List AV):Prop where
 sh:V0 W r1 c
 rw:RwM W r2 c c.length
def KH(r1 r2:Nat):Value:=.agg #[.map (some r1),.map (some r2)]
def au(c:List AV)(W:CW):Ending→CW→Prop:=λe W'=>Kp W W'∧Ag W'∧∃r1 r2,e=.returned (.tuple #[KH r1 r2,.bool (Az c)])∧W.sz≤r1∧W.sz≤r2∧(Az c=true→FB W' r1 r2 c)
structure X0(W0 W:CW)(b2 b4 r1 r2:Nat):Prop where
 kp:Kp W0 W
 top:Ag W
 b2:Aq W b2 78 [.map none,.map none]
 b4:Aq W b4 78 [.map (some r1),.map (some r2)]
theorem X0.VP{W0 W W':CW}{b2 b4 r1 r2:Nat}(I:X0 W0 W b2 b4 r1 r2)(k:Kp W W')(t:Ag W'):X0 W0 W' b2 b4 r1 r2:=⟨I.kp.trans k,t,I.b2.ext I.top k,I.b4.ext I.top k⟩
theorem Bu{W:CW}{b r:Nat}{el:TypeId}{vs:List Value}{m:List (ByteArray×Value)}(h:Aq W b el vs)(hm:Ge Value.string W r m):b≠r:=by
 rintro rfl;obtain⟨es,Ez,h1,_⟩:=hm;obtain⟨c,n,z,h2,_⟩:=h;rw[h1]at h2;cases h2
theorem Aq.J8{W:CW}{b k:Nat}{el:TypeId}{vs:List Value}{v:Value}(h:Aq W b el vs)(hc:W.cell b k=some v):vs[k]?=some v:=by
 obtain⟨c,n,z,h1,h2,h3⟩:=h;unfold CW.cell at hc;rw[h1]at hc;simp only at hc
 split at hc
 ·rename_i hk;have hk:k<vs.length:=by omega
  have:=h3 k _ (ck hk);rw[ck hk,←hc,this]
 ·cases hc
theorem N7{v0:Value}{c:List AV}{W:CW}(ht:Ag W)(hc:At 5 (JZ W) v0 c)(hC:Ru c):AX prog Bf 47 [v0] W (au c W):=by
 refine AGD ?_;rw[AGC];refine H' z78 U1 ht λW0 k0 t0 z0 Ey=>?_;have Ey:Aq W0 W.sz 78 [.map none,.map none]:=Ey;refine XX (enc:=Value.string) t0 λW1 k1 t1 z1 O3=>?_;refine XX (enc:=Value.string) t1 λW2 k2 t2 z2 Br=>?_;rw[AGZ];simp only[AA];refine DM z78 U1 rfl rfl rfl t2 λW4 k4 t4 z4 L4=>?_;obtain⟨a,cap,rfl,_⟩:=id hc;simp only[Aj Y1,AA,Bt];have hlen:=hC.len;have kk:Kp W W4:=((k0.trans k1).trans k2).trans k4;have I4:X0 W W4 W.sz W2.sz W0.sz W1.sz:=⟨kk,t4,Ey.ext t0 ((k1.trans k2).trans k4),L4⟩
 have wL:=O3.kp t1 (k2.trans k4);have wM:=Br.kp t2 k4;have r1W:W.sz≤W0.sz:=k0.sz;have r2W:W.sz≤W1.sz:=abh r1W k1.sz;generalize KE:W0.sz=r1 at I4 wL O3 r1W;generalize Ty:W1.sz=r2 at I4 wM Br r2W;have r12:r1≠r2:=by omega
 generalize W2.sz=b4 at I4;generalize O6:W.sz=b2 at I4;generalize Hm:AQ prog Tryz.f47 (au c W)=K
 have Ei:∀W1 (ok:Bool),X0 W W1 b2 b4 r1 r2→ok=Az c→(Az c=true→FB W1 r1 r2 c)→∀{K':CW→Prop},(∀W2,(∀e,e 2=.pointer (some ⟨b2,0,none⟩)→e 3=.bool ok→K .ret e [] W2)→K' W2)→
   wV (NK prog 78 (.pointer (some ⟨b2,0,none⟩)) (.agg [.map (some r1),.map (some r2)].toArray) W1) K':=by
  intro W1 ok I Aa Gk K' hK';refine Fg U1 (a:=⟨b2,0,none⟩) rfl rfl I.b2 (by simp) λW2 hu hB=>hK' W2 λe h2 h3=>?_;have hu:Dn b2 W1 W2:=hu;rw[←Hm];have hB:Aq W2 b2 78 [.map (some r1),.map (some r2)]:=hB;refine J7 iB h2 (QK hB) ?_;have AI9:=I.b2.lt I.top;refine⟨I.kp.A6 (by omega) hu,I.top.A6 AI9 hu,r1,r2,by rw[h3,Aa];rfl,by omega,by omega,λhc=>?_⟩;obtain⟨⟨m,g1,g2⟩,⟨m',g3,g4⟩⟩:=Gk hc;have NV:=Bu I.b2 g1;have Nd:=Bu I.b2 g3
  have A5:∀b k v,v≠.map none→W1.cell b k=some v→W2.cell b k=some v:=λb k v hv h=>by
   rw[hu.cell]
   ·exact h
   ·rintro rfl;have h2:=I.b2.J8 h
    match k,h2 with
    |0,h2=>cases h2;exact hv rfl
    |1,h2=>cases h2;exact hv rfl
  refine⟨⟨m,g1.congr (hu.obj r1 (abW NV)),λs=>?_⟩,⟨m',g3.congr (hu.obj r2 (abW Nd)),λs=>?_⟩⟩
  ·have:=g2 s
   cases hi:Ah c s with
   |none=>rw[hi]at this;exact this
   |some i=>
    rw[hi]at this;obtain⟨u,x,h5,h6,vf,ab,lb,cb,h7,h8⟩:=this;exact⟨u,x,h5,h6,vf,ab,lb,cb,h7,h8.imp λ_ _ _ hr=>⟨A5 _ _ _ (by intro h;cases h) hr.name,A5 _ _ _ (by intro h;cases h) hr.kind,hr.lo,hr.hi⟩⟩
  ·have:=g4 s
   cases hi:Ah (c.take c.length) s with
   |none=>rw[hi]at this;exact this
   |some i=>
    rw[hi]at this;obtain⟨v,h5,h6⟩:=this;exact⟨v,h5,h6.imp λ_ _ _ hr=>A5 _ _ _ (by intro h;cases h) hr⟩
 refine AH (λhg=>?_) (λhg=>?_)
 ·rw[QK I4.b4];simp only[AA]
  have Hw:Az c=false:=by
   have:=of_decide_eq_true hg;unfold Az;rw[decide_eq_false (by omega)];rfl
  exact Ei W4 false I4 Hw.symm (λh=>by rw[Hw]at h;cases h) λW5 hr=>hr _ rfl rfl
 ·have hg:=of_decide_eq_false hg
  have I9:Az c=(!ER c.length (BP c)&& !ER c.length (LG c)):=by
   unfold Az;rw[decide_eq_true (by omega)];rfl
  have hA0:(∀j,j<0→BP c j=false):=λj h=>by omega
  refine EZ (λi e ds W'=>ds=[]∧X0 W W' b2 b4 r1 r2∧e 0=.slice a c.length cap∧e 19=.slice a c.length cap∧e 20=.int .i64 c.length∧e 21=.int .i64 i∧e 2=.pointer (some ⟨b2,0,none⟩)∧e 4=.pointer (some ⟨b4,0,none⟩)∧V0 W' r1 (c.take i)∧Ge Value.string W' r2 []∧∀j,j<i→BP c j=false) c.length
   ⟨rfl,I4,rfl,rfl,rfl,rfl,rfl,rfl,⟨[],wL,λs=>rfl⟩,wM,hA0⟩ ?_
  rintro i e ds W' hi ⟨rfl,I',h0,h19,h20,h21,h2,h4,aw,hrm,Bw⟩;rw[ACp,h19,h20,h21];simp only[Af,AA]
  refine Hx (λAo=>?_) (λJi=>?_)
  ·obtain⟨x,hx⟩:∃x,c[i]?=some x:=⟨_,ck Ao⟩
   have JB:=aai hx;have hcW:At 5 (JZ W') (.slice a c.length cap) c:=hc.imp λ_ _ _ hr=>hr.kp ht I'.kp;obtain⟨a',cap',ha,A5⟩:=hcW
   cases ha
   obtain⟨p,rfl,hr⟩:=A5 i _ hx;obtain⟨vf,ab,lb,cb,tH,hfs⟩:=hr.ld;obtain⟨af,ADD,rfl,_⟩:=id hfs;rw[Ay Y1 jx Ao];simp only[AA,tH];refine DM tN jx rfl rfl rfl I'.top λW6 k6 t6 z6 Ms=>?_;have I6:=I'.VP k6 t6;have q0:∀W7,Kp W6 W7→ld prog 9 (.pointer (some ⟨W'.sz,0,none⟩)) W7=some (.string x.name):=λW7 k7=>AD a9 (a:=⟨W'.sz,0,none⟩) (k7.cell t6 (Ms.cell rfl));have q1:∀W7,Kp W6 W7→ld prog 9 (.pointer (some ⟨W'.sz,0+1,none⟩)) W7=some (.string x.BR):=λW7 k7=>AD a9 (a:=⟨W'.sz,1,none⟩) (k7.cell t6 (Ms.cell rfl));have q2:∀W7,Kp W6 W7→ld prog 45 (.pointer (some ⟨W'.sz,0+2,none⟩)) W7=some (.slice af x.fields.length ADD):=λW7 k7=>AD a45 (a:=⟨W'.sz,2,none⟩) (k7.cell t6 (Ms.cell rfl));have q3:∀W7,Kp W6 W7→ld prog 5 (.pointer (some ⟨W'.sz,0+3,none⟩)) W7=some (.int .u8 x.elem):=λW7 k7=>AD a5 (a:=⟨W'.sz,3,none⟩) (k7.cell t6 (Ms.cell rfl));have hsb:BP c i=((!Dj x.name||J4 c x i)||((decide (x.elem≠0)&&(!JO x.elem||decide (x.BR≠Dw)||decide (0<x.fields.length)))||decide (20<x.fields.length))):=by unfold BP;rw[hx]
   have leaf:∀(W7:CW) (b:Bool) (e1:Env),Kp W6 W7→Ag W7→DR [0,2,4,19,20,21] e e1→e1 6=.pointer (some ⟨W'.sz,0,none⟩)→e1 73=.bool b→b=BP c i→
     (Kr none (N4 (λi e ds W'=>ds=[]∧X0 W W' b2 b4 r1 r2∧e 0=.slice (some p) c.length cap∧e 19=.slice (some p) c.length cap∧e 20=.int .i64 c.length∧e 21=.int .i64 i∧e 2=.pointer (some ⟨b2,0,none⟩)∧e 4=.pointer (some ⟨b4,0,none⟩)∧V0 W' r1 (c.take i)∧Ge Value.string W' r2 []∧∀j,j<i→BP c j=false) i c.length (CX 0 (dY none K)))) .normal e1 [] W7:=by
    intro W7 b e1 k7 t7 hA g6 g73 hb;have I7:=I6.VP k7 t7;have g2:=(hA 2 (by decide)).trans h2;have g4:=(hA 4 (by decide)).trans h4;simp only[Kr,BI,g73]
    refine AH (λZX=>?_) (λZX=>?_)
    ·rw[g2,g4,QK I7.b4];simp only[AA];have Hw:Az c=false:=by rw[I9,EU Ao (by rw[←hb,ZX])];rfl
     refine Ei W7 false I7 Hw.symm (λh=>by rw[Hw]at h;cases h) λW8 hr=>?_;simp only[aQ,hX,BI,NP,Tm,IW,ey,hM];exact hr _ g2 rfl
    ·have Uz:BP c i=false:=by rw[←hb,ZX]
     simp only[aQ,BI,g4,g6,Hl,Md,AA];rw[AD wC (a:=⟨b4,0,none⟩) (I7.b4.cell rfl),q0 W7 k7,Bn (vs:=[.string x.name,.string x.BR,.slice af x.fields.length ADD,.int .u8 x.elem,.slice ab lb cb]) a48 jx rfl (by omega) (Ms.ext t6 k7).cells];simp only[AA];have k67:=k6.trans k7;have AGa:=aw.kp I'.top k67;refine AGa.put (Lr Bw Uz) hx ⟨_,_,_,_,rfl,hfs.imp λ_ _ _ hr=>hr.kp I'.top k67⟩ λW8 hu A5 ADE=>?_;obtain⟨m7,g7,_⟩:=AGa;have AGY:=g7.lt I7.top;have t8:=I7.top.A6 AGY hu;have Nd:=Bu I7.b2 g7;have hn4:=Bu I7.b4 g7;have I8:X0 W W8 b2 b4 r1 r2:=⟨I7.kp.A6 r1W hu,t8,I7.b2.congr (hu.obj _ Nd),I7.b4.congr (hu.obj _ hn4)⟩
     simp only[hX,BI,IW];simp only[AG,AN,Nat.reduceEqDiff,↓reduceIte,(hA 21 (by decide)).trans h21,AO,AA];refine⟨Ao,trivial,I8,(hA 0 (by decide)).trans h0,(hA 19 (by decide)).trans h19,(hA 20 (by decide)).trans h20,by rw[Dy (by omega)],g2,g4,ADE,((hrm.kp I'.top k67).congr (hu.obj _ (abW r12))),Lr Bw Uz⟩
   have hnp:∀b:Bool,b=(decide (x.elem=0)||(JO x.elem&&(decide (x.BR=Dw)&&decide (x.fields.length=0))))→BP c i=((!Dj x.name||J4 c x i)||(!b||decide (20<x.fields.length))):=by
    intro b hb;rw[hsb,hb];congr 2
    by_cases e1:x.elem=0<;>by_cases e2:x.BR=Dw<;>by_cases e3:x.fields.length=0<;>cases JO x.elem<;>simp[e1,e2,e3]<;>omega
   have head:∀(b:Bool) (e1:Env),DR [0,2,4,19,20,21] e e1→e1 6=.pointer (some ⟨W'.sz,0,none⟩)→e1 5=.int .i64 i→e1 7=.bool b→b=(decide (x.elem=0)||(JO x.elem&&(decide (x.BR=Dw)&&decide (x.fields.length=0))))→
     (Mq none (N4 (λi e ds W'=>ds=[]∧X0 W W' b2 b4 r1 r2∧e 0=.slice (some p) c.length cap∧e 19=.slice (some p) c.length cap∧e 20=.int .i64 c.length∧e 21=.int .i64 i∧e 2=.pointer (some ⟨b2,0,none⟩)∧e 4=.pointer (some ⟨b4,0,none⟩)∧V0 W' r1 (c.take i)∧Ge Value.string W' r2 []∧∀j,j<i→BP c j=false) i c.length (CX 0 (dY none K)))) .normal e1 [] W6:=by
    intro b e1 hA g6 g5 g7 hb;have hsb:=hnp b hb;have g0:=(hA 0 (by decide)).trans h0;simp only[qw,BI,g0,g5,g6,g7,Md,Rq,AA,q0 W6 (.refl _)];refine Rt (N2 t6 (by have:=hC.name x JB;omega)) λW7 k7 t7=>?_;simp only[AW,AA,Bt]
    refine AH (λhs=>?_) (λhs=>?_)
    ·exact⟨by simp only[q0 W6 (.refl _),and_self],trivial,leaf W7 true _ k7 t7 (hA.trans (.put rfl)) g6 rfl (by rw[hsb,hs];rfl)⟩
    ·have tl:∀e2:Env,True:=λ_=>trivial;refine AH (λh=>?g1) (λh=>?g2)
     case' g1=>
      obtain⟨j,rfl⟩:∃j,i=j+1:=⟨i-1,by have:=of_decide_eq_true h;omega⟩
      have Y4:j<c.length:=by omega
      have hxp:=ck Y4;obtain⟨p',hp',j3⟩:=A5 j _ hxp
      cases hp'
      have es:((j+1:Nat):Int)-1=(j:Nat):=by omega
      have hpb:J4 c x (j+1)=!Hu (sb c[j].name) (sb x.name):=by unfold J4;simp only[hxp]
      have q4:ld prog 9 (.pointer (some ⟨p.block,p.off+j*5,none⟩)) W7=some (.string c[j].name):=AD a9 (a:=⟨p.block,p.off+j*5,none⟩) (k7.cell t6 (k6.cell I'.top j3.name));simp only[Ae,AA,es];rw[wrap64 (by omega) (by omega),Ay Y1 jx Y4];simp only[AA,Md,q0 W7 k7,q4,aJ];refine AH (λhq=>?h1) (λhq=>?h2)
      case h1=>exact⟨by simp only[q0 W6 (.refl _),and_self],trivial,leaf W7 true _ k7 t7 (hA.trans (.put rfl)) g6 rfl (by rw[hsb,hpb,hq];simp)⟩
      have hpf:=hpb.trans hq
     case' g2=>
      have hpf:J4 c x i=false:=by
       cases i with
       |zero=>rfl
       |succ i=>have:=of_decide_eq_false h;omega
     all_goals
      rw[hs,hpf,acS,abY]at hsb
      refine AH (λh1=>?_) (λh1=>?_)
      ·exact⟨by simp only[q0 W6 (.refl _),and_self],trivial,leaf W7 true _ k7 t7 (hA.trans (.put rfl)) g6 rfl (by rw[hsb,h1];rfl)⟩
      ·simp only[q2 W7 k7,Aj u45,AA,Bt];refine⟨by simp only[q0 W6 (.refl _),and_self],trivial,leaf W7 _ _ k7 t7 (hA.trans (.put rfl)) g6 rfl ?_⟩;rw[hsb,h1,abY];exact decide_eq_decide.2 (by omega)
   simp only[dN,AA,q3 W6 (.refl _),BJ]
   refine AH (λhe=>?_) (λhe=>?_)
   ·have he:x.elem=0:=by simpa using he
    exact head true _ (.put rfl) rfl rfl rfl (by rw[decide_eq_true he];rfl)
   ·have he:¬x.elem=0:=by simpa using he
    refine A4 (aL _ _) ?_
    refine AH (λhk=>?_) (λhk=>?_)
    ·have hk:JO x.elem=true:=hk;simp only[dM,AA,q1 W6 (.refl _),Tn,RY]
     refine AH (λhsu=>?_) (λhsu=>?_)
     ·have hsu:decide (x.BR=Dw)=true:=hsu;simp only[Rq,AA,q2 W6 (.refl _),Aj u45,BJ];refine head ((x.fields.length:Int)==0) _ (.put rfl) rfl rfl rfl ?_;rw[decide_eq_false he,hk,hsu,abY,abb,abb]
      cases x.fields<;>simp
      omega
     ·have hsu:decide (x.BR=Dw)=false:=hsu;exact head false _ (.put rfl) rfl rfl rfl (by rw[decide_eq_false he,hsu];simp)
    ·have hk:JO x.elem=false:=hk;exact head false _ (.put rfl) rfl rfl rfl (by rw[decide_eq_false he,hk];rfl)
  ·have U0:c.take i=c:=aaS (by omega);rw[U0]at aw;have hS:∀j,j<c.length→BP c j=false:=λj hj=>Bw j (by omega);have hSa:ER c.length (BP c)=false:=GM hS;rw[hSa]at I9;simp only[BI,Oy,IJ,QV,aaA,hM];simp only[AG,AN,Nat.reduceEqDiff,↓reduceIte,h0];simp only[Aj Y1,AA]
   refine EZ (λi e ds W'=>ds=[]∧X0 W W' b2 b4 r1 r2∧e 81=.slice a c.length cap∧e 82=.int .i64 c.length∧e 83=.int .i64 i∧e 2=.pointer (some ⟨b2,0,none⟩)∧e 4=.pointer (some ⟨b4,0,none⟩)∧V0 W' r1 c∧RwM W' r2 c i∧∀j,j<i→LG c j=false) c.length
    ⟨rfl,I',rfl,rfl,rfl,h2,h4,aw,⟨[],hrm,λs=>by simp[Ah,Me]⟩,by omega⟩ ?_
   rintro i2 e2 ds2 W2 hi2 ⟨rfl,I2,g81,g82,g83,g2,g4,ADF,ADG,U2⟩;rw[ACq,g81,g82,g83];simp only[Af,AA]
   refine Hx (λAo=>?_) (λADH=>?_)
   ·obtain⟨x,hx⟩:∃x,c[i2]?=some x:=⟨_,ck Ao⟩
    have JB:=aai hx;have hcW:At 5 (JZ W2) (.slice a c.length cap) c:=hc.imp λ_ _ _ hr=>hr.kp ht I2.kp;obtain⟨a',cap',ha,A5⟩:=hcW
    cases ha
    obtain⟨p,rfl,hr⟩:=A5 i2 _ hx;obtain⟨vf,ab,lb,cb,tH,hfs⟩:=hr.ld;obtain⟨af,ADD,rfl,_⟩:=id hfs;rw[Ay Y1 jx Ao];simp only[AA,tH];refine DM tN jx rfl rfl rfl I2.top λW6 k6 t6 z6 Ms=>?_;have I6:=I2.VP k6 t6;have q0:∀W7,Kp W6 W7→ld prog 9 (.pointer (some ⟨W2.sz,0,none⟩)) W7=some (.string x.name):=λW7 k7=>AD a9 (a:=⟨W2.sz,0,none⟩) (k7.cell t6 (Ms.cell rfl));rw[g4,QK I6.b4];simp only[Md,AA,q0 W6 (.refl _)];refine(AAI hC hS t6 (ADF.kp I2.top k6) rfl (by have:=hC.name x JB;omega)).mono λen W7 ⟨k7,t7,hp⟩=>?_;have M0:=oZ hS hx;rw[wK M0]at hp;have I7:=I6.VP k7 t7
    cases tO:LG c i2 with
    |true=>
     rw[tO]at hp;obtain⟨vo,rfl⟩:=hp;simp only[BO,BV,BW,AA,AW];rw[show(!false)=true from rfl];simp only[BB];rw[QK I7.b4,g2];simp only[AA];have Hw:Az c=false:=by rw[I9,EU Ao tO];rfl
     refine Ei W7 false I7 Hw.symm (λh=>by rw[Hw]at h;cases h) λW8 hr=>?_;simp only[aR,NP,Tm,IW,ey,lh];exact hr _ g2 rfl
    | false=>
     rw[tO]at hp;obtain⟨vo,rfl,ho,hn⟩:=hp;simp only[BO,BV,BW,AA,AW];rw[show(!true)=false from rfl];simp only[AZ,Ks,AA,q0 W7 k7];rw[AD a76 (a:=⟨b4,0+1,none⟩) (I7.b4.cell rfl)];simp only[AA];have wN:At 1 (RKd W7) vo (Al c i2):=JE (f:=λk=>Value.int .u8 k) (by unfold Al;exact ho)
     have AGb:RwM W7 r2 c i2:=by
      obtain⟨m,m1,m2⟩:=ADG;refine⟨m,m1.kp I2.top (k6.trans k7),λs=>?_⟩;have:=m2 s
      cases hi:Ah (c.take i2) s with
      |none=>rw[hi]at this;exact this
      |some i=>
       rw[hi]at this;obtain⟨v,h5,h6⟩:=this;exact⟨v,h5,h6.imp λ_ _ _ hr=>(k6.trans k7).cell I2.top hr⟩
     refine AGb.put hS hx wN λW8 hu wO AI'=>?_;obtain⟨m7,g7,_⟩:=AGb;have AI_:=g7.lt I7.top;have Nd:=Bu I7.b2 g7;have hn4:=Bu I7.b4 g7;have I8:X0 W W8 b2 b4 r1 r2:=⟨I7.kp.A6 r2W hu,I7.top.A6 AI_ hu,I7.b2.congr (hu.obj _ Nd),I7.b4.congr (hu.obj _ hn4)⟩
     have ADE:V0 W8 r1 c:=by
      obtain⟨m,m1,m2⟩:=ADF.kp I2.top (k6.trans k7);refine⟨m,m1.congr (hu.obj _ r12),λs=>?_⟩;have:=m2 s
      cases hi:Ah c s with
      |none=>rw[hi]at this;exact this
      |some i=>
       rw[hi]at this;obtain⟨u,x,h5,h6,vf,ab,lb,cb,h7,h8⟩:=this;exact⟨u,x,h5,h6,vf,ab,lb,cb,h7,h8.imp λ_ _ _ hr=>⟨wO _ _ _ hr.name,wO _ _ _ hr.kind,hr.lo,hr.hi⟩⟩
     simp only[aR,BI,IW];simp only[AG,AN,Nat.reduceEqDiff,↓reduceIte,g83,AO,AA];exact⟨Ao,trivial,I8,g81,g82,by rw[Dy (by omega)],g2,g4,ADE,AI',Lr U2 tO⟩
   ·have hR:ER c.length (LG c)=false:=GM λj hj=>U2 j (by omega);have Uz:Az c=true:=by rw[I9,hR];rfl
    have hi3:i2=c.length:=by omega
    rw[hi3]at ADG;simp only[BI,Oy,IJ,QV,aaA,lh];simp only[AG,AN,Nat.reduceEqDiff,↓reduceIte,g2,g4];rw[QK I2.b4];simp only[AA];exact Ei W2 true I2 Uz.symm (λ_=>⟨ADF,ADG⟩) λW8 hr=>hr _ g2 rfl
theorem iC{v0:Value}{l:List Int}{n:Int}{W:CW}(hc:At 1 (Eh W) v0 l)(hlen:l.length<1000000):AX prog Bf 126 [v0,.int .i64 n] W (H_ (.int .i64 (Jz l λx=>decide (x=n))) W):=by
 refine AC9 ?_;rw[AC8];obtain⟨a,cap,rfl,A5⟩:=hc;simp only[Aj KB,AA];refine EZ (λi e ds W'=>W'=W∧ds=[]∧e 0=.slice a l.length cap∧e 1=.int .i64 n∧e 7=.int .i64 l.length∧e 8=.int .i64 i∧∀j x,j<i→l[j]?=some x→decide (x=n)=false) l.length ⟨rfl,rfl,rfl,rfl,rfl,rfl,by omega⟩ ?_;rintro i e ds W' hi ⟨rfl,rfl,h0,h1,h7,h8,Bw⟩;rw[AAF,h0,h1,h7,h8];simp only[Af,AA]
 refine Hx (λAo=>?_) (λJi=>?_)
 ·have hx:=ck Ao;obtain⟨p,rfl,hp⟩:=A5 i _ hx;rw[Ay KB s3 Ao];simp only[AA];rw[AD a3 (a:=⟨p.block,p.off+i*1,none⟩) hp.1];simp only[AA,BJ]
  refine AH (λhq=>?_) (λhq=>?_)
  ·have hq:n=l[i]:=by simpa using hq
   simp only[ad,NP,Tm,IW,ey,dd,Xx];refine⟨?_,rfl⟩;simp only[AG,↓reduceIte];rw[Lp Ao (by simp[hq]) Bw]
  ·have hq:¬n=l[i]:=by simpa using hq
   simp only[ad,BI,IW];simp only[AG,AN,Nat.reduceEqDiff,↓reduceIte,h0,h1,h7,h8,AO,AA];refine⟨Ao,trivial,trivial,trivial,trivial,trivial,by rw[Dy (by omega)],λj x hj Mh=>?_⟩
   rcases aaD.1 hj with h2|rfl
   ·exact Bw j x h2 Mh
   ·rw[hx]at Mh;cases Mh;exact decide_eq_false λe=>hq e.symm
 ·simp only[BI,Oy,IJ,QV,aaA,dd,Xx];refine⟨?_,rfl⟩;simp only[AG,↓reduceIte];rw[Jo λj x hj hx=>Bw j x (by omega) hx]
theorem X1{v0:Value}{l:List Int}{n:Int}{W:CW}(hc:At 1 (Eh W) v0 l)(hlen:l.length<1000000):AX prog Bf 104 [v0,.int .i64 n] W (H_ (.bool (l.any λx=>decide (x=n))) W):=by
 refine AC7 ?_;rw[AC6];refine A4 (iC hc hlen) ?_;simp only[CC,AA,l_];refine⟨?_,rfl⟩;simp only[AG,↓reduceIte];congr 2;unfold Jz
 cases h:l.findIdx? λx=>decide (x=n)with
 | none=>
  rw[aaL]at h
  have:(l.any λx=>decide (x=n))=false:=by
   rw[abU];intro x hx;rw[h x hx];simp
  rw[this];rfl
 |some i=>
  obtain⟨h1,h2,_⟩:=aaq.1 h;rw[aaH.2 ⟨_,aaG h1,h2⟩];simp
def mF(W:CW)(u:Value)(x:Bq):Prop:=∃am cm,u=.agg #[.string x.type,.string x.to,.slice am x.map.length cm]∧At 1 (Eh W) (.slice am x.map.length cm) x.map
def PM(key:Bq→ByteArray)(W:CW)(r:Nat)(l:List Bq):Prop:=∃m:List (ByteArray×Value),Ge Value.string W r m∧∀s,match l.find? (λx=>decide (key x=s))with
 |some x=>∃u,Me m s=some u∧mF W u x
 |none=>Me m s=none
theorem mF.cell{W W1:CW}{u:Value}{x:Bq}(h:mF W u x)(hc:∀b k k2 n,W.cell b k=some (.int k2 n)→W1.cell b k=some (.int k2 n)):mF W1 u x:=by
 obtain⟨am,cm,h1,h2⟩:=h;exact⟨am,cm,h1,h2.imp λ_ _ _ hr=>⟨hc _ _ _ _ hr.1,hr.2⟩⟩
theorem PM.cell{key:Bq→ByteArray}{W W1:CW}{r:Nat}{l:List Bq}(h:PM key W r l)(ho:W1.obj r=W.obj r)(hc:∀b k k2 n,W.cell b k=some (.int k2 n)→W1.cell b k=some (.int k2 n)):PM key W1 r l:=by
 obtain⟨m,h1,h2⟩:=h;refine⟨m,h1.congr ho,λs=>?_⟩;have:=h2 s
 cases hf:l.find? (λx=>decide (key x=s))with
 |none=>rw[hf]at this;exact this
 |some x=>
  rw[hf]at this;obtain⟨u,h3,h4⟩:=this;exact⟨u,h3,h4.cell hc⟩
theorem PM.kp{key:Bq→ByteArray}{W W1:CW}{r:Nat}{l:List Bq}(h:PM key W r l)(ht:Ag W)(k:Kp W W1):PM key W1 r l:=by
 have h':=h;obtain⟨m,h1,_⟩:=h';exact h.cell (k.obj r (h1.lt ht)) λ_ _ _ _ hc=>k.cell ht hc
theorem u81:prog.underlying 81=some (.map 9 58):=by kernel_rfl
def AAJ:Value:=.agg #[.string ⟨#[]⟩,.string ⟨#[]⟩,.slice none 0 0]
theorem tP:Hr prog 58=some AAJ:=by kernel_rfl
theorem PM.put{key:Bq→ByteArray}{W:CW}{r:Nat}{l:List Bq}{i:Nat}{x:Bq}{u:Value}(h:PM key W r (l.take i))(hx:l[i]?=some x)(AAK:∀j y,j<i→l[j]?=some y→key y≠key x)(hu:mF W u x){K:CW→Prop}
  (hK:∀W1,Dn r W W1→(∀b k v,W.cell b k=some v→W1.cell b k=some v)→PM key W1 r (l.take (i+1))→K W1):wV (jt prog 81 (.map (some r)) (.string (key x)) u W) K:=by
 obtain⟨m,h1,h2⟩:=h;refine gh u81 u9 rfl G7 h1 λW1 Y5 hm=>?_;have A5:∀b k v,W.cell b k=some v→W1.cell b k=some v:=λb k v hc=>Mt Y5 h1 hc;refine hK W1 Y5 A5 ⟨_,hm,λs=>?_⟩;have H2:=(aaa.1 hx).1;rw[aaX,hx,abw,List.find?_append,Jn]
 by_cases e:s=key x
 ·rw[aad e]
  have:(l.take i).find? (λy=>decide (key y=s))=none:=by
   rw[abZ];intro y hy;obtain⟨j,hj,rfl⟩:=aa2.1 hy;have:=AAK j _ (by omega) (ck (by omega));rw[e]
   simpa using this
  rw[this];simp only[Option.none_or,List.find?_cons,e,decide_true];exact⟨u,rfl,hu.cell λ_ _ _ _ hc=>A5 _ _ _ hc⟩
 ·rw[aac e]
  have:([x].find? λy=>decide (key y=s))=none:=by
   rw[abZ];intro y hy;rw[dx.1 hy]
   simpa using abW e
  rw[this,Option.or_none];have:=h2 s
  cases hf:(l.take i).find? (λy=>decide (key y=s))with
  |none=>rw[hf]at this;exact this
  |some y=>
   rw[hf]at this;obtain⟨u',h3,h4⟩:=this;exact⟨u',h3,h4.cell λ_ _ _ _ hc=>A5 _ _ _ hc⟩
theorem PM.some{key:Bq→ByteArray}{W:CW}{r:Nat}{l:List Bq}(h:PM key W r l){s:ByteArray}{x:Bq}(hf:l.find? (λx=>decide (key x=s))=Option.some x):∃u,mF W u x∧Sq prog 81 (.map (Option.some r)) (.string s) true W=Option.some (.tuple #[u,.bool true]):=by
 obtain⟨m,h1,h2⟩:=h;have:=h2 s;rw[hf]at this;obtain⟨u,h3,h4⟩:=this;refine⟨u,h4,?_⟩;rw[Mf u81 u9 rfl tP G7 h1 s true,h3];rfl
theorem PM.none{key:Bq→ByteArray}{W:CW}{r:Nat}{l:List Bq}(h:PM key W r l){s:ByteArray}(hf:l.find? (λx=>decide (key x=s))=Option.none):Sq prog 81 (.map (Option.some r)) (.string s) true W=Option.some (.tuple #[AAJ,.bool false]):=by
 obtain⟨m,h1,h2⟩:=h;have:=h2 s;rw[hf]at this;rw[Mf u81 u9 rfl tP G7 h1 s true,this];rfl
theorem RwM.some{W:CW}{r:Nat}{c:List AV}(h:RwM W r c c.length){s:ByteArray}{i:Nat}(hi:Ah c s=Option.some i):∃a cap,Sq prog 76 (.map (Option.some r)) (.string s) false W=Option.some (.slice a (Al c i).length cap)∧At 1 (RKd W) (.slice a (Al c i).length cap) (Al c i):=by
 obtain⟨m,h1,h2⟩:=h;have:=h2 s;rw[abO,hi]at this;obtain⟨v,h3,h4⟩:=this;obtain⟨a,cap,rfl,h5⟩:=id h4;refine⟨a,cap,?_,h4⟩;rw[Mf u76 u9 rfl z29 G7 h1 s false,h3];rfl
def Fl(c:List AV)(l:List Bq)(i:Nat)(s:Bq):Bool:=match Ah c s.type,Ah c s.to with
 |some t,some a=>(decide (elemAt c t≠0)||decide (elemAt c a≠0)||IX l s i)||decide (s.map.length≠(Al c a).length)
 |_,_=>true
def Of(l:List Bq)(i:Nat)(s:Bq):Bool:=ER i λk=>decide ((l[k]?).map (·.to)=some s.to)
def X2(c:List AV)(s:Bq):Bool:=match Ah c s.type,Ah c s.to with
 |some t,some a=>ER (Al c a).length (Mn (Al c t) (Al c a) s.map)
 |_,_=>true
def Tz(l:List Bq)(s:Bq):Bool:=(l.find? λx=>decide (x.type=s.to)).isSome
def LJ(c:List AV)(l:List Bq)(i:Nat):Bool:=match l[i]? with
 |none=>true
 |some s=>Fl c l i s||(Of l i s||X2 c s)
theorem T0{c:List AV}{l:List Bq}{i:Nat}{s:Bq}(hs:l[i]?=some s):Tt c l i=(LJ c l i||Tz l s):=by
 unfold Tt LJ Fl X2;rw[hs];simp only
 cases ht:Ah c s.type with
 |none=>simp
 | some t=>
  cases ha:Ah c s.to with
  |none=>simp
  | some a=>
   simp only
   have hn:ER l.length (Mo l s i)=(Of l i s||Tz l s):=by
    have H2:=(aaa.1 hs).1;rw[abm,aaQ];unfold Tz;rw[acM]
    constructor
    ·intro h;obtain⟨k,hk,hb⟩:=aaH.1 h;have hk:=aaV.1 hk;unfold Mo at hb;have hxk:=ck hk;rw[hxk]at hb;simp only[aaQ,dy,decide_eq_true_eq]at hb
     rcases hb with hb|⟨hb,O6⟩
     ·exact .inr ⟨_,aaG hk,by simpa using hb⟩
     ·exact .inl (EU hb (by rw[hxk];simpa using O6))
    ·rintro(h|⟨x,hx,hb⟩)
     ·obtain⟨k,hk,hb⟩:=aaH.1 h;have hk:=aaV.1 hk;have hxk:=ck (show k<l.length by omega);rw[hxk]at hb;refine EU (show k<l.length by omega) ?_;unfold Mo;rw[hxk];simp only[abd,aag,decide_eq_true_eq]at hb;simp[hb,hk]
     ·obtain⟨k,hk,rfl⟩:=abQ.1 hx;refine EU hk ?_;unfold Mo;rw[ck hk];simp only[hb,Bool.true_or]
   rw[hn]
   cases decide (elemAt c t≠0)<;>cases decide (elemAt c a≠0)<;>cases IX l s i<;>cases Of l i s<;>cases Tz l s<;>cases decide (s.map.length≠(Al c a).length)<;>simp
theorem AAL{c:List AV}{l:List Bq}:∀{i:Nat},(∀j,j<i→∀s,l[j]?=some s→Fl c l j s=false)→∀j k x y,j<k→k<i→l[j]?=some x→l[k]?=some y→Hu (sb x.type) (sb y.type)=true:=by
 intro i h j k
 induction k with
 |zero=>intro x y hj;omega
 | succ k ih=>
  intro x y hj hk hx hy;have hb:=h (k+1) hk y hy;unfold Fl at hb
  split at hb
  ·simp only[aaz]at hb;have hp:=hb.1.2;unfold IX at hp;have oY:k<l.length:=by have:=(aaa.1 hy).1;omega
   have hz:=ck oY;simp only[hz,aa_]at hp
   rcases aaD.1 hj with h1|rfl
   ·exact GV _ _ _ (ih x _ h1 (by omega) hx hz) hp
   ·rw[hx]at hz;cases hz;exact hp
  ·cases hb
theorem FB.kp{W W':CW}{r1 r2:Nat}{c:List AV}(h:FB W r1 r2 c)(ht:Ag W)(k:Kp W W'):FB W' r1 r2 c:=by
 refine⟨h.sh.kp ht k,?_⟩;obtain⟨m,m1,m2⟩:=h.rw;refine⟨m,m1.kp ht k,λs=>?_⟩;have:=m2 s
 cases hi:Ah (c.take c.length) s with
 |none=>rw[hi]at this;exact this
 |some i=>
  rw[hi]at this;obtain⟨v,h5,h6⟩:=this;exact⟨v,h5,h6.imp λ_ _ _ hr=>k.cell ht hr⟩
theorem FB.A6{W W':CW}{r1 r2 r:Nat}{c:List AV}(h:FB W r1 r2 c)(hu:Dn r W W')(h1:r1≠r)(h2:r2≠r)(A5:∀b k v,W.cell b k=some v→W'.cell b k=some v):FB W' r1 r2 c:=by
 constructor
 ·obtain⟨m,m1,m2⟩:=h.sh;refine⟨m,m1.congr (hu.obj _ h1),λs=>?_⟩;have:=m2 s
  cases hi:Ah c s with
  |none=>rw[hi]at this;exact this
  |some i=>
   rw[hi]at this;obtain⟨u,x,h5,h6,vf,ab,lb,cb,h7,h8⟩:=this;exact⟨u,x,h5,h6,vf,ab,lb,cb,h7,h8.imp λ_ _ _ hr=>⟨A5 _ _ _ hr.name,A5 _ _ _ hr.kind,hr.lo,hr.hi⟩⟩
 ·obtain⟨m,m1,m2⟩:=h.rw;refine⟨m,m1.congr (hu.obj _ h2),λs=>?_⟩;have:=m2 s
  cases hi:Ah (c.take c.length) s with
  |none=>rw[hi]at this;exact this
  |some i=>
   rw[hi]at this;obtain⟨v,h5,h6⟩:=this;exact⟨v,h5,h6.imp λ_ _ _ hr=>A5 _ _ _ hr⟩
theorem iD{mp:List Int}{k:Nat}(hk:k≤mp.length)(n:Int):Ts mp k n=(mp.take k).any λx=>decide (x=n):=by
 unfold Ts ER;rw[abm,aaH,aaH]
 constructor
 ·rintro⟨j,hj,h⟩;have hjk:=aaV.1 hj;rw[ck (by omega)]at h;exact⟨mp[j],aa2.2 ⟨j,by omega,rfl⟩,by simpa using h⟩
 ·rintro⟨x,hx,h⟩;obtain⟨j,hj,rfl⟩:=aa2.1 hx;refine⟨j,aaV.2 (by omega),?_⟩;rw[ck (by omega)]
  simpa using h
theorem wP{W:CW}{v:Value}{l:List Int}{k:Nat}(h:At 1 (Eh W) v l)(ho:N1 W 3 v)(hk:k≤l.length):∃v',Sp prog 40 v none (some (.int .i64 k)) none W=some v'∧At 1 (Eh W) v' (l.take k):=by
 obtain⟨a,cap,rfl,hc⟩:=h;obtain⟨he,hle⟩:=ho _ _ _ rfl;have oY:(l.take k).length=k:=by rw[aaI];omega
 refine⟨.slice (cond (Nat.beq cap 0) a (a.map λa=>⟨a.block,a.off+0*1,none⟩)) k cap,?_,⟨_,cap,by rw[oY],λi x hx=>?_⟩⟩
 ·unfold Sp;rw[KB];simp only[NX,KB,CS,bound,s3];rw[show(decide ((0:Int)≤(k:Int))&&decide ((k:Int)≤(cap:Int)))=true by simp;omega];simp only[cond_true,he,abL,ab4,abY,aav,acY,abg];rw[show Nat.ble k cap=true from aan (by omega)];simp
 ·have hik:i<k:=by have:=(aaa.1 hx).1;omega
  rw[aaW,aad hik]at hx;obtain⟨p,rfl,hr⟩:=hc i x hx
  have Ie:Nat.beq cap 0=false:=by
   cases hb:Nat.beq cap 0 with
   |false=>rfl
   |true=>have:=aab hb;omega
  rw[Ie];exact⟨⟨p.block,p.off+0*1,none⟩,rfl,by rw[abl,aa6];exact hr⟩
theorem AAM{W:CW}{K:AB}{e e1:Env}{c:List AV}{s:Bq}{r1 r2 b2 b8 t a:Nat}{vm:Value}(Gk:FB W r1 r2 c)(O6:W.cell b2 1=some (.map (some r2)))(Sr:Aq W b8 58 [.string s.type,.string s.to,vm])(j_:At 1 (Eh W) vm s.map)(Aa:N1 W 3 vm)(ht:Ah c s.type=some t)(ha:Ah c s.to=some a)(hlen:s.map.length=(Al c a).length)(fz:s.map.length<100000)(PG:(Al c t).length<100000)
  (h2:e 2=.pointer (some ⟨b2,0,none⟩)) (h8:e 8=.pointer (some ⟨b8,0,none⟩)) (AJA:e 107=vm) (AJB:e 108=.int .i64 s.map.length) (he:DR [1,2,4,6,8,29,30,31,107,108] e e1) (AJC:e1 109=.int .i64 0)
  (df:X2 c s=true→∀e',DR [4,6] e e'→wV (ld prog 83 (e' 6) W) λAJD=>wV (NK prog 83 (e' 4) AJD W) λW27=>∀e2:Env,e2 4=e' 4→e2 5=.bool false→K .ret e2 [] W27)
  (H0:X2 c s=false→∀e',DR [1,2,4,6,8,29,30,31] e e'→K (.exit 2) e' [] W) :
  Gi prog Bf none 48 179 (.loop (GB prog 48 1)) e1 [] W K:=by
 have hms:X2 c s=ER (Al c a).length (Mn (Al c t) (Al c a) s.map):=by unfold X2;rw[ht,ha]
 refine EZ (λm e' FG W'=>FG=[]∧W'=W∧DR [1,2,4,6,8,29,30,31,107,108] e e'∧e' 109=.int .i64 m∧∀j,j<m→Mn (Al c t) (Al c a) s.map j=false) s.map.length ⟨rfl,rfl,he,AJC,by omega⟩ ?_;rintro m e' FG W' hm ⟨rfl,rfl,hA,AGc,Bw⟩;have g2:=(hA 2 (by decide)).trans h2;have g8:=(hA 8 (by decide)).trans h8;rw[ACs,g2,g8,AGc,(hA 107 (by decide)).trans AJA,(hA 108 (by decide)).trans AJB];simp only[Af,AA]
 refine Hx (λAo=>?_) (λJi=>?_)
 ·have hx:=ck Ao;have Np:m<(Al c a).length:=by omega
  have wQ:=ck Np;obtain⟨av,cv,rfl,hmc⟩:=id j_;obtain⟨q,rfl,hq⟩:=hmc m _ hx;obtain⟨art,crt,lt,hrt⟩:=Gk.rw.some ht;obtain⟨ara,cra,la,hra⟩:=Gk.rw.some ha;rw[Ay KB s3 Ao];simp only[AA,Ks,Rr,Oa,Rs];have qm:ld prog 76 (.pointer (some ⟨b2,0+1,none⟩)) W'=some (.map (some r2)):=AD a76 (a:=⟨b2,0+1,none⟩) O6;have qt:ld prog 9 (.pointer (some ⟨b8,0,none⟩)) W'=some (.string s.type):=AD a9 (a:=⟨b8,0,none⟩) (Sr.cell rfl);have qa:ld prog 9 (.pointer (some ⟨b8,0+1,none⟩)) W'=some (.string s.to):=AD a9 (a:=⟨b8,0+1,none⟩) (Sr.cell rfl);have qv:ld prog 40 (.pointer (some ⟨b8,0+2,none⟩)) W'=some (.slice (some q) s.map.length cv):=AD Uv (a:=⟨b8,0+2,none⟩) (Sr.cell rfl);rw[AD a3 (a:=⟨q.block,q.off+m*1,none⟩) hq.1];simp only[AA,qm,qt,lt,Aj VN,Ae];rw[wrap64 (by omega) (by omega)];have hmb:Mn (Al c t) (Al c a) s.map m=(decide (s.map[m]<0)||decide (s.map[m]≥(Al c t).length)||decide ((Al c t)[s.map[m].toNat]?≠(Al c a)[m]?)||Ts s.map m s.map[m]):=by unfold Mn;rw[hx]
  have leaf:∀(b:Bool) (e2:Env),DR [1,2,4,6,8,29,30,31,107,108,109] e' e2→e2 147=.bool b→b=Mn (Al c t) (Al c a) s.map m→(Rx none (N4 (λm e' AJE tQ=>AJE=[]∧tQ=W'∧DR [1,2,4,6,8,29,30,31,107,108] e e'∧e' 109=.int .i64 m∧∀j,j<m→Mn (Al c t) (Al c a) s.map j=false) m s.map.length K)) .normal e2 [] W':=by
   intro b e2 aj AJF hb;simp only[qz,BI,AJF]
   refine AH (λZX=>?_) (λZX=>?_)
   ·have hA3:DR [1,2,4,6,8,29,30,31,107,108] e e2:=hA.trans λt ht=>aj t (by revert t;decide);have:=df (by rw[hms];exact EU Np (by rw[←hb,ZX])) e2 (λt ht=>hA3 t (by revert t;decide))
    revert this
    cases ld prog 83 (e2 6) W' with
    |none=>exactλh=>h
    | some v=>
     simp only[AA]
     cases NK prog 83 (e2 4) v W' with
     |none=>exactλh=>h
     |some W27=>
      simp only[AA];intro h;simp only[aU,NP,IW,ey];exact h _ rfl rfl
   ·simp only[aU,BI,IW,(aj 109 (by decide)).trans AGc,AO,AA];refine⟨Ao,trivial,trivial,(hA.trans λt ht=>aj t (by revert t;decide)).trans (.put rfl),?_,Lr Bw (by rw[←hb,ZX])⟩;simp only[AG,↓reduceIte];rw[Dy (by omega)]
  refine A4 (gZ _ _ _ _) ?_;simp only[AW,AA]
  refine AH (λhb=>?_) (λhb=>?_)
  ·refine⟨by simp only[and_self],trivial,leaf true _ (.put rfl) rfl ?_⟩;rw[hmb]
   by_cases h1:s.map[m]<0
   ·rw[decide_eq_true h1];rfl
   ·have:¬(s.map[m]≤((Al c t).length:Int)-1):=by
     intro h2;rw[decide_eq_true (by omega:(0:Int)≤s.map[m]),decide_eq_true h2]at hb
     cases hb
    rw[decide_eq_true (by omega:s.map[m]≥((Al c t).length:Int))];simp
  ·have hb:(decide ((0:Int)≤s.map[m])&&decide (s.map[m]≤((Al c t).length:Int)-1))=true:=by simpa only[aa_]using hb
   simp only[dy,decide_eq_true_eq]at hb;obtain⟨ek,ALQ⟩:=hb;obtain⟨v',hsl,Iu⟩:=wP (k:=m) j_ Aa (by omega);simp only[qv,hsl,AA];refine A4 (X1 Iu (by rw[aaI];omega)) ?_;have AGd:=iD (mp:=s.map) (k:=m) (by omega) s.map[m]
   refine AH (λhd=>?_) (λhd=>?_)
   ·refine⟨by simp only[and_self],trivial,leaf true _ (.put rfl) rfl ?_⟩;rw[hmb,AGd,hd];simp
   ·have LO:s.map[m].toNat<(Al c t).length:=by omega
    have hxt:=ck LO;obtain⟨_,_,e3,AJG⟩:=hrt
    cases e3
    obtain⟨_,_,e4,AJH⟩:=hra
    cases e4
    obtain⟨pt,rfl,hpt⟩:=AJG _ _ hxt;obtain⟨pa,rfl,hpa⟩:=AJH _ _ wQ
    have ei:lD prog 29 (.slice (some pt) (Al c t).length crt) (.int .i64 s.map[m])=some (.pointer (some ⟨pt.block,pt.off+s.map[m].toNat*1,none⟩)):=by
     have e1:(Value.int IntKind.i64 s.map[m])=.int .i64 ((s.map[m].toNat:Nat):Int):=by rw[Int.toNat_of_nonneg ek]
     rw[e1];exact Ay VN s5 LO
    simp only[ei,AA];rw[AD a5 (a:=⟨pt.block,pt.off+s.map[m].toNat*1,none⟩) hpt];simp only[AA,qm,qa,la];rw[Ay VN s5 Np];simp only[AA];rw[AD a5 (a:=⟨pa.block,pa.off+m*1,none⟩) hpa];simp only[AA,CM];refine⟨by simp only[and_self],trivial,leaf _ _ (.put rfl) rfl ?_⟩;rw[hmb,AGd,hd,hxt,wQ,decide_eq_false (by omega:¬s.map[m]<0),decide_eq_false (by omega:¬s.map[m]≥((Al c t).length:Int))];simp only[acS,abY,acY]
    by_cases e:(Al c t)[s.map[m].toNat]=(Al c a)[m]
    ·rw[decide_eq_false (by simp[e])];simp[e]
    ·rw[decide_eq_true (by simpa using e)];simpa using e
 ·simp only[QV];refine H0 ?_ _ (λt ht=>(DR.put rfl t (by exact ht)).trans (hA t (by revert t;decide)));rw[hms];exact GM λj hj=>Bw j (by omega)
theorem iE:Tryz.f48.results.toList=[.cell 4 83,.tmp 5]:=by kernel_rfl
theorem wR:De prog 83=some 2:=by kernel_rfl
theorem a83:agg? prog 83=some true:=by kernel_rfl
theorem a81:agg? prog 81=some false:=by kernel_rfl
theorem z83:Hr prog 83=some (.agg #[.map none,.map none]):=by kernel_rfl
theorem AGe(a b:Nat):ZT prog 83 [(0,.map (some a)),(1,.map (some b))]=some (.agg [.map (some a),.map (some b)].toArray):=by kernel_rfl
theorem V3(a:Addr):RL prog 83 (.pointer (some a)) 0=some (.pointer (some ⟨a.block,a.off,none⟩)):=by kernel_rfl
theorem V4(a:Addr):RL prog 83 (.pointer (some a)) 1=some (.pointer (some ⟨a.block,a.off+1,none⟩)):=by kernel_rfl
theorem dg{W:CW}{b a1 a2:Nat}(h:Aq W b 83 [.map (some a1),.map (some a2)]):ld prog 83 (.pointer (some ⟨b,0,none⟩)) W=some (.agg [.map (some a1),.map (some a2)].toArray):=Bn (vs:=[.map (some a1),.map (some a2)]) a83 wR rfl (by omega) h.cells
theorem XV.ld{W:CW}{b o:Nat}{x:Bq}(h:XV W b o x):∃am cm,ld prog 58 (.pointer (some ⟨b,o,none⟩)) W=some (.agg [.string x.type,.string x.to,.slice am x.map.length cm].toArray)∧At 1 (Eh W) (.slice am x.map.length cm) x.map∧N1 W 3 (.slice am x.map.length cm):=by
 obtain⟨v,h1,h2,h3⟩:=h.map;obtain⟨am,cm,rfl,h4⟩:=id h2;refine⟨am,cm,Bn (vs:=[.string x.type,.string x.to,.slice am x.map.length cm]) a58 jy rfl (by omega) ?_,h2,h3⟩;intro j w hj
 match j,hj with
 |0,hj=>cases hj;exact h.type
 |1,hj=>cases hj;exact h.to
 |2,hj=>cases hj;exact h1
theorem X3{W:CW}{r1:Nat}{c:List AV}(h:V0 W r1 c)(s:ByteArray):∃ws:List Value,Sq prog 75 (.map (some r1)) (.string s) true W=some (.tuple #[.agg ws.toArray,.bool (Ah c s).isSome])∧ws.length=5∧ws.all BG=true∧∀i,Ah c s=some i→ws[3]?=some (.int .u8 (elemAt c i)):=by
 cases hi:Ah c s with
 |none=>
  obtain⟨l1,_⟩:=h.none hi;exact⟨[.string ⟨#[]⟩,.string ⟨#[]⟩,.slice none 0 0,.int .u8 0,.slice none 0 0],l1,rfl,rfl,λi h=>by cases h⟩
 |some i=>
  obtain⟨u,x,hx,hu,l1,_⟩:=h.some hi;obtain⟨vf,ab,lb,cb,rfl,hf⟩:=hu;obtain⟨af,cf,rfl,_⟩:=hf;refine⟨[.string x.name,.string x.BR,.slice af x.fields.length cf,.int .u8 x.elem,.slice ab lb cb],l1,rfl,rfl,λj h=>?_⟩
  cases h
  unfold elemAt;rw[hx];rfl
theorem dh{key:Bq→ByteArray}{W:CW}{r:Nat}{l:List Bq}(h:PM key W r l)(s:ByteArray):∃ws:List Value,Sq prog 81 (.map (some r)) (.string s) true W=some (.tuple #[.agg ws.toArray,.bool (l.find? λx=>decide (key x=s)).isSome])∧ws.length=3∧ws.all BG=true:=by
 cases hf:l.find? λx=>decide (key x=s)with
 |none=>exact⟨[.string ⟨#[]⟩,.string ⟨#[]⟩,.slice none 0 0],h.none hf,rfl,rfl⟩
 |some x=>
  obtain⟨u,hu,l1⟩:=h.some hf;obtain⟨am,cm,rfl,_⟩:=hu;exact⟨[.string x.type,.string x.to,.slice am x.map.length cm],l1,rfl,rfl⟩
structure T3(W0 W:CW)(b2 b4 b6 r1 r2 w r:Nat)(c:List AV):Prop where
 kp:Kp W0 W
 top:Ag W
 b2:Aq W b2 78 [.map (some r1),.map (some r2)]
 b4:Aq W b4 83 [.map none,.map none]
 b6:Aq W b6 83 [.map (some w),.map (some r)]
 cat:FB W r1 r2 c
theorem T3.VP{W0 W W':CW}{b2 b4 b6 r1 r2 w r:Nat}{c:List AV}(I:T3 W0 W b2 b4 b6 r1 r2 w r c)(k:Kp W W')(t:Ag W'):T3 W0 W' b2 b4 b6 r1 r2 w r c:=⟨I.kp.trans k,t,I.b2.ext I.top k,I.b4.ext I.top k,I.b6.ext I.top k,I.cat.kp I.top k⟩
def ay(c:List AV)(l:List Bq)(W:CW):Ending→CW→Prop:=λe W'=>Kp W W'∧Ag W'∧∃w r,e=.returned (.tuple #[.agg #[.map (some w),.map (some r)],.bool (BL c l)])∧(BL c l=true→PM Bq.type W' w l∧PM Bq.to W' r l)
theorem iF {v1:Value}{c:List AV}{l:List Bq}{r1 r2:Nat}{W:CW}(ht:Ag W)(Gk:FB W r1 r2 c)(hC:Ru c)(hl:At 3 (XV W) v1 l)(nk:l.length<100000)(Jb:∀s,s∈l→s.map.length<100000):AX prog Bf 48 [KH r1 r2,v1] W (ay c l W):=by
 refine AGG ?_;rw[AGF];obtain⟨a,cap,rfl,_⟩:=id hl;unfold KH;refine Fy U1 ht λW0 k0 t0 z0 Ey=>?_;have Ey:Aq W0 W.sz 78 [.map (some r1),.map (some r2)]:=Ey;refine H' z83 wR t0 λW1 k1 t1 z1 L4=>?_;have L4:Aq W1 W0.sz 83 [.map none,.map none]:=L4;refine XX (enc:=Value.string) t1 λW2 k2 t2 z2 O3=>?_;refine XX (enc:=Value.string) t2 λW3 k3 t3 z3 Br=>?_;rw[AGe];simp only[AA];refine DM z83 wR rfl rfl rfl t3 λW5 k5 t5 z5 Ms=>?_;simp only[Aj u23,AA,Bt];have wT:=(k2.trans k3).trans k5;have kk:Kp W W5:=(k0.trans k1).trans wT;have I5:T3 W W5 W.sz W0.sz W3.sz r1 r2 W1.sz W2.sz c:=⟨kk,t5,Ey.ext t0 (k1.trans wT),L4.ext t1 wT,Ms,Gk.kp ht kk⟩
 have wL:=O3.kp t2 (k3.trans k5);have wM:=Br.kp t3 k5;have wW:W.sz≤W1.sz:=(k0.trans k1).sz;have rW:W.sz≤W2.sz:=abh wW k2.sz;have r1l:r1<W.sz:=by obtain⟨m,h1,_⟩:=Gk.sh;exact h1.lt ht
 have r2l:r2<W.sz:=by obtain⟨m,h1,_⟩:=Gk.rw;exact h1.lt ht
 have Nn:W1.sz≠W2.sz:=by omega
 generalize W1.sz=w at I5 wL wW Nn;generalize W2.sz=r at I5 wM rW Nn;generalize W3.sz=b6 at I5;have wU:W.sz≤W0.sz:=k0.sz;generalize W0.sz=b4 at I5 wU;generalize Hm:AQ prog Tryz.f48 (ay c l W)=K
 have Ei:∀W1 (ok:Bool),T3 W W1 W.sz b4 b6 r1 r2 w r c→ok=BL c l→(BL c l=true→PM Bq.type W1 w l∧PM Bq.to W1 r l)→∀{K':CW→Prop},(∀W2,(∀e,e 4=.pointer (some ⟨b4,0,none⟩)→e 5=.bool ok→K .ret e [] W2)→K' W2)→
   wV (NK prog 83 (.pointer (some ⟨b4,0,none⟩)) (.agg [.map (some w),.map (some r)].toArray) W1) K':=by
  intro W1 ok I Aa Gk K' hK';refine Fg wR (a:=⟨b4,0,none⟩) rfl rfl I.b4 (by simp) λW2 hu hB=>hK' W2 λe h4 h5=>?_;have hu:Dn b4 W1 W2:=hu;rw[←Hm];have hB:Aq W2 b4 83 [.map (some w),.map (some r)]:=hB;refine J7 iE h4 (dg hB) ?_;have AJI:=I.b4.lt I.top;refine⟨I.kp.A6 wU hu,I.top.A6 AJI hu,w,r,by rw[h5,Aa],λhc=>?_⟩;obtain⟨s1,s2⟩:=Gk hc
  have A5:∀b k k2 n,W1.cell b k=some (.int k2 n)→W2.cell b k=some (.int k2 n):=λb k k2 n h=>by
   rw[hu.cell]
   ·exact h
   ·rintro rfl;have h2:=I.b4.J8 h
    match k,h2 with
    |0,h2=>cases h2
    |1,h2=>cases h2
  obtain⟨m,g1,_⟩:=id s1;obtain⟨m',g2,_⟩:=id s2;exact⟨s1.cell (hu.obj _ (abW (Bu I.b4 g1))) A5,s2.cell (hu.obj _ (abW (Bu I.b4 g2))) A5⟩
 refine AH (λhg=>?_) (λhg=>?_)
 ·rw[dg I5.b6];simp only[AA]
  have Hw:BL c l=false:=by
   have:=of_decide_eq_true hg;unfold BL;rw[decide_eq_false (by omega)];rfl
  exact Ei W5 false I5 Hw.symm (λh=>by rw[Hw]at h;cases h) λW6 hr=>hr _ rfl rfl
 ·have hg:=of_decide_eq_false hg
  have I9:BL c l=!ER l.length (Tt c l):=by
   unfold BL;rw[decide_eq_true (by omega)];rfl
  have AAN:∀i s,l[i]?=some s→LJ c l i=true→BL c l=false:=λi s hs hb=>by
   rw[I9,EU (aaa.1 hs).1 (by rw[T0 hs,hb];rfl)];rfl
  refine EZ (λi e ds W'=>ds=[]∧T3 W W' W.sz b4 b6 r1 r2 w r c∧e 1=.slice a l.length cap∧e 29=.slice a l.length cap∧e 30=.int .i64 l.length∧e 31=.int .i64 i∧e 2=.pointer (some ⟨W.sz,0,none⟩)∧e 4=.pointer (some ⟨b4,0,none⟩)∧e 6=.pointer (some ⟨b6,0,none⟩)∧PM Bq.type W' w (l.take i)∧PM Bq.to W' r (l.take i)∧∀j,j<i→LJ c l j=false) l.length
   ⟨rfl,I5,rfl,rfl,rfl,rfl,rfl,rfl,rfl,⟨[],wL,λs=>rfl⟩,⟨[],wM,λs=>rfl⟩,by omega⟩ ?_
  rintro i e ds W' hi ⟨rfl,I',h1,h29,h30,h31,h2,h4,h6,hw,hr,Bw⟩;rw[ACr,h1,h29,h30,h31,h2];simp only[Af,AA]
  refine Hx (λAo=>?_) (λJi=>?_)
  ·obtain ⟨s,hs⟩:∃s,l[i]?=some s:=⟨_,ck Ao⟩
   have JB:=aai hs;have hlW:At 3 (XV W') (.slice a l.length cap) l:=hl.imp λ_ _ _ hr=>hr.kp ht I'.kp;obtain⟨a',cap',ha,A5⟩:=id hlW
   cases ha
   obtain⟨p,rfl,Z1⟩:=A5 i _ hs;obtain⟨am,cm,tH,ADI,Aa⟩:=Z1.ld;rw[Ay u23 jy Ao];simp only[AA,tH];refine DM tP jy rfl rfl rfl I'.top λyx ZW t12 z12 Sr=>?_;have I12:=I'.VP ZW t12;have qt:∀W7,Kp yx W7→ld prog 9 (.pointer (some ⟨W'.sz,0,none⟩)) W7=some (.string s.type):=λW7 k7=>AD a9 (a:=⟨W'.sz,0,none⟩) (k7.cell t12 (Sr.cell rfl));have qa:∀W7,Kp yx W7→ld prog 9 (.pointer (some ⟨W'.sz,0+1,none⟩)) W7=some (.string s.to):=λW7 k7=>AD a9 (a:=⟨W'.sz,1,none⟩) (k7.cell t12 (Sr.cell rfl));have qv:∀W7,Kp yx W7→ld prog 40 (.pointer (some ⟨W'.sz,0+2,none⟩)) W7=some (.slice am s.map.length cm):=λW7 k7=>AD Uv (a:=⟨W'.sz,2,none⟩) (k7.cell t12 (Sr.cell rfl));have qm1:∀W7,T3 W W7 W.sz b4 b6 r1 r2 w r c→ld prog 75 (.pointer (some ⟨W.sz,0,none⟩)) W7=some (.map (some r1)):=λW7 I=>AD wC (a:=⟨W.sz,0,none⟩) (I.b2.cell rfl);have qm2:∀W7,T3 W W7 W.sz b4 b6 r1 r2 w r c→ld prog 76 (.pointer (some ⟨W.sz,0+1,none⟩)) W7=some (.map (some r2)):=λW7 I=>AD a76 (a:=⟨W.sz,1,none⟩) (I.b2.cell rfl);obtain⟨ws1,L1,AJJ,AGf,AJK⟩:=X3 I12.cat.sh s.type;simp only[Hl,Rr,Oa,AA,qm1 yx I12,qt yx (.refl _),L1,BV,BW];refine DM tN jx rfl AGf AJJ t12 λW14 k14 t14 z14 hB9=>?_;have I14:=I12.VP k14 t14;obtain⟨ws2,L2,AJL,wX,AJM⟩:=X3 I14.cat.sh s.to;simp only[AA,qm1 W14 I14,qa W14 k14,L2,BV,BW];refine DM tN jx rfl wX AJL t14 λT4 k16 t16 z16 ADJ=>?_;have I16:=I14.VP k16 t16;have M':=k14.trans k16;have ADK:=ZW.trans M'
   have leaf:∀(b:Bool) (e1:Env),DR [1,2,4,6,29,30,31] e e1→e1 8=.pointer (some ⟨W'.sz,0,none⟩)→e1 94=.bool b→(b=true→Fl c l i s=true)→(b=false→Fl c l i s=false)→
     (Jd none (N4 (λi e ds W'=>ds=[]∧T3 W W' W.sz b4 b6 r1 r2 w r c∧e 1=.slice (some p) l.length cap∧e 29=.slice (some p) l.length cap∧e 30=.int .i64 l.length∧e 31=.int .i64 i∧e 2=.pointer (some ⟨W.sz,0,none⟩)∧e 4=.pointer (some ⟨b4,0,none⟩)∧e 6=.pointer (some ⟨b6,0,none⟩)∧PM Bq.type W' w (l.take i)∧PM Bq.to W' r (l.take i)∧∀j,j<i→LJ c l j=false) i l.length (CX 0 (lk none K)))) .normal e1 [] T4:=by
    intro b e1 hA g8 g94 rE hbf;have g1:=(hA 1 (by decide)).trans h1;have g2:=(hA 2 (by decide)).trans h2;have g4:=(hA 4 (by decide)).trans h4;have g6:=(hA 6 (by decide)).trans h6;have g29:=(hA 29 (by decide)).trans h29;have g30:=(hA 30 (by decide)).trans h30;have g31:=(hA 31 (by decide)).trans h31;have wF:LJ c l i=(Fl c l i s||(Of l i s||X2 c s)):=by unfold LJ;rw[hs]
    have Gm:∀W7,T3 W W7 W.sz b4 b6 r1 r2 w r c→LJ c l i=true→∀{K':CW→Prop},(∀W2,(∀e,e 4=.pointer (some ⟨b4,0,none⟩)→e 5=.bool false→K .ret e [] W2)→K' W2)→
      wV (NK prog 83 (.pointer (some ⟨b4,0,none⟩)) (.agg [.map (some w),.map (some r)].toArray) W7) K':=λW7 I hb=>
     have Hw:=AAN i s hs hb
     Ei W7 false I Hw.symm (λh=>by rw[Hw]at h;cases h)
    simp only[qy,BI,g94]
    refine AH (λZX=>?_) (λZX=>?_)
    ·rw[g4,g6,dg I16.b6];simp only[AA];refine Gm T4 I16 (by rw[wF,rE ZX];rfl) λW8 hr8=>?_;simp only[aT,Oc,NP,Tm,IW,ey,Rv];exact hr8 _ g4 rfl
    ·have JK:=hbf ZX;have AJN:=hr.kp I'.top ADK;have ALR:=hw.kp I'.top ADK;obtain⟨ws3,L3,AJO,AGg⟩:=dh AJN s.to;simp only[aT,BI,g6,g8,V4,Oa,AA];rw[AD a81 (a:=⟨b6,0+1,none⟩) (I16.b6.cell rfl)];simp only[AA,qa T4 M',L3,BV,BW];refine DM tP jy rfl AGg AJO t16 λW18 k18 t18 z18 AJP=>?_;have j4:=I16.VP k18 t18;have a7:=M'.trans k18;have wY:=ZW.trans a7
     have htw:Of l i s=((l.take i).find? λx=>decide (x.to=s.to)).isSome:=by
      unfold Of ER;rw[abm,aaH,acM]
      constructor
      ·rintro⟨k,hk,hb⟩;have hk:=aaV.1 hk;rw[ck (show k<l.length by omega)]at hb;exact⟨l[k],aa2.2 ⟨k,by omega,rfl⟩,by simpa using hb⟩
      ·rintro⟨x,hx,hb⟩;obtain⟨k,hk,rfl⟩:=aa2.1 hx;refine⟨k,aaV.2 (by omega),?_⟩;rw[ck (show k<l.length by omega)]
       simpa using hb
     refine AH (λdi=>?_) (λdi=>?_)
     ·rw[g4,dg j4.b6];simp only[AA];refine Gm W18 j4 (by rw[wF,htw,di];simp) λW8 hr8=>?_;simp only[Oc,NP,Tm,IW,ey,Rv];exact hr8 _ g4 rfl
     ·simp only[Rs,AA,qv W18 a7,Aj KB];unfold Fl at JK
      cases Uw:Ah c s.type with
      |none=>rw[Uw]at JK;cases JK
      | some t=>
       cases jz:Ah c s.to with
       |none=>rw[Uw,jz]at JK;cases JK
       | some aa=>
        rw[Uw,jz]at JK;simp only[aaz,decide_eq_false_iff_not,acu]at JK
        have Z7:(Al c t).length<100000:=by
         have h1:=N3 hC.len hC.fields t;unfold Al;rw[aau];omega
        have ADL:∀j,j<i+1→∀y,l[j]?=some y→Fl c l j y=false:=λj hj y hy=>by
         rcases aaD.1 hj with h|rfl
         ·have:=Bw j h;unfold LJ at this;rw[hy]at this;simp only[aaz]at this;exact this.1
         ·rw[hs]at hy;cases hy;unfold Fl;rw[Uw,jz];simp only[aaz,decide_eq_false_iff_not,acu];exact JK
        refine AAM (e:=Env.of e1 [(8,.pointer (some ⟨W'.sz,0,none⟩)),(107,.slice am s.map.length cm),(108,.int .i64 s.map.length)]) j4.cat (j4.b2.cell rfl) ((Sr.ext t12 a7)) (ADI.imp λ_ _ _ hr=>hr.kp I'.top wY) (Aa.kp I'.top wY) Uw jz JK.2 (Jb s JB) Z7 g2 rfl rfl rfl (λt ht=>by
         simp only[aaE,acU,or_false]at ht
         rcases ht with rfl|rfl|rfl|rfl|rfl|rfl|rfl|rfl|rfl|rfl<;>first|rfl|exact g8) rfl (λhm e2 aj=>?_) (λhm e2 aj=>?_)
        ·have q4:e2 4=.pointer (some ⟨b4,0,none⟩):=(aj 4 (by decide)).trans g4;have q6:e2 6=.pointer (some ⟨b6,0,none⟩):=(aj 6 (by decide)).trans g6;rw[q4,q6,dg j4.b6];simp only[AA];refine Gm W18 j4 (by rw[wF,hm];simp) λW8 hr8=>?_;intro e3 r4 r5;simp only[aS,Oc,BI,NP,Tm,IW,ey,Rv];exact hr8 _ r4 r5
        ·have q1:e2 1=.slice (some p) l.length cap:=(aj 1 (by decide)).trans g1;have q2:e2 2=.pointer (some ⟨W.sz,0,none⟩):=(aj 2 (by decide)).trans g2;have q4:e2 4=.pointer (some ⟨b4,0,none⟩):=(aj 4 (by decide)).trans g4;have q6:e2 6=.pointer (some ⟨b6,0,none⟩):=(aj 6 (by decide)).trans g6;have q8:e2 8=.pointer (some ⟨W'.sz,0,none⟩):=(aj 8 (by decide)).trans rfl;have q29:e2 29=.slice (some p) l.length cap:=(aj 29 (by decide)).trans g29;have q30:e2 30=.int .i64 l.length:=(aj 30 (by decide)).trans g30;have q31:e2 31=.int .i64 i:=(aj 31 (by decide)).trans g31;have wZ:=Sr.ext t12 a7;have l58:∀W7,Aq W7 W'.sz 58 [.string s.type,.string s.to,.slice am s.map.length cm]→ld prog 58 (.pointer (some ⟨W'.sz,0,none⟩)) W7=some (.agg [.string s.type,.string s.to,.slice am s.map.length cm].toArray):=λW7 hB=>Bn (vs:=[.string s.type,.string s.to,.slice am s.map.length cm]) a58 jy rfl (by omega) hB.cells;have lr:∀W7,Aq W7 b6 83 [.map (some w),.map (some r)]→ld prog 81 (.pointer (some ⟨b6,0+1,none⟩)) W7=some (.map (some r)):=λW7 hB=>AD a81 (a:=⟨b6,0+1,none⟩) (hB.cell rfl);have lto:∀W7,Aq W7 W'.sz 58 [.string s.type,.string s.to,.slice am s.map.length cm]→ld prog 9 (.pointer (some ⟨W'.sz,0+1,none⟩)) W7=some (.string s.to):=λW7 hB=>AD a9 (a:=⟨W'.sz,0+1,none⟩) (hB.cell rfl);simp only[BI,Oy,IJ,aaA,aS,q6,q8,V3,V4,Rr,Oa,AA,lr W18 j4.b6,qt W18 a7,qa W18 a7,l58 W18 wZ];rw[AD a81 (a:=⟨b6,0,none⟩) (j4.b6.cell rfl)];simp only[AA];have AGh:=hw.kp I'.top wY;have AGi:=hr.kp I'.top wY;have hAS:mF W18 (.agg [.string s.type,.string s.to,.slice am s.map.length cm].toArray) s:=⟨am,cm,rfl,ADI.imp λ_ _ _ hr=>hr.kp I'.top wY⟩
         refine AGh.put (key:=Bq.type) hs (λj y hj hy e=>?_) hAS λW20 iG ADM AJQ=>?_
         ·have:=AAL ADL j i y s hj (by omega) hy hs;rw[e,Mr]at this;cases this
         ·obtain⟨m18,gw,_⟩:=id AGh;obtain⟨ALS,gr,_⟩:=id AGi;have aN:=gw.lt t18;have t20:=t18.A6 aN iG;have I20:T3 W W20 W.sz b4 b6 r1 r2 w r c:=⟨j4.kp.A6 wW iG,t20,j4.b2.congr (iG.obj _ (Bu j4.b2 gw)),j4.b4.congr (iG.obj _ (Bu j4.b4 gw)),j4.b6.congr (iG.obj _ (Bu j4.b6 gw)),j4.cat.A6 iG (by omega) (by omega) ADM⟩
          have AGj:=AGi.cell (iG.obj _ (abW Nn)) λ_ _ _ _ hc=>ADM _ _ _ hc;have ABd:Aq W20 W'.sz 58 [.string s.type,.string s.to,.slice am s.map.length cm]:=wZ.congr (iG.obj _ (Bu wZ gw))
          refine AGj.put (key:=Bq.to) hs (λj y hj hy e=>?_) (hAS.cell λ_ _ _ _ hc=>ADM _ _ _ hc) λW21 mG AGk AJR=>?_
          ·have:((l.take i).find? λx=>decide (x.to=s.to)).isSome=true:=by
            rw[acM];have Y4:=(aaa.1 hy).1;exact⟨y,aa2.2 ⟨j,by omega,(aaa.1 hy).2⟩,by simpa using e⟩
           rw[di]at this;cases this
          ·obtain⟨m20,AAO,_⟩:=id AGj;have AGl:=AAO.lt t20;have I21:T3 W W21 W.sz b4 b6 r1 r2 w r c:=⟨I20.kp.A6 rW mG,t20.A6 AGl mG,I20.b2.congr (mG.obj _ (Bu I20.b2 AAO)),I20.b4.congr (mG.obj _ (Bu I20.b4 AAO)),I20.b6.congr (mG.obj _ (Bu I20.b6 AAO)),I20.cat.A6 mG (by omega) (by omega) AGk⟩
           have AJS:=AJQ.cell (mG.obj _ Nn) λ_ _ _ _ hc=>AGk _ _ _ hc;refine⟨by simp only[l58 W20 ABd,lto W20 ABd,lr W20 I20.b6,and_self],trivial,?_⟩;simp only[Oc,BI,IW];simp only[AG,AN,Nat.reduceEqDiff,↓reduceIte,q31,AO,AA];refine⟨Ao,trivial,I21,q1,q29,q30,by rw[Dy (by omega)],q2,q4,q6,AJS,AJR,Lr Bw ?_⟩;rw[wF,htw,di,hm];unfold Fl;rw[Uw,jz];simp only[acS,acY];rw[aaz];simp only[aaz,decide_eq_false_iff_not,acu];exact JK
   simp only[AW,AA]
   cases Uw:Ah c s.type with
   |none=>
    have hh:Fl c l i s=true:=by unfold Fl;rw[Uw]
    simp only[abL,aaY,BB];exact⟨trivial,trivial,leaf true _ (.put rfl) rfl rfl (λ_=>hh) (λh=>by cases h)⟩
   | some t=>
    simp only[ac_,aav,AZ]
    cases jz:Ah c s.to with
    |none=>
     have hh:Fl c l i s=true:=by unfold Fl;rw[Uw,jz]
     simp only[abL,aaY,BB];exact⟨trivial,trivial,leaf true _ (.put rfl) rfl rfl (λ_=>hh) (λh=>by cases h)⟩
    | some aa=>
     have hh:Fl c l i s=((decide (elemAt c t≠0)||decide (elemAt c aa≠0)||IX l s i)||decide (s.map.length≠(Al c aa).length)):=by unfold Fl;rw[Uw,jz]
     simp only[ac_,aav,AZ];have e9:ld prog 5 (.pointer (some ⟨yx.sz,0+3,none⟩)) T4=some (.int .u8 (elemAt c t)):=AD a5 (a:=⟨yx.sz,0+3,none⟩) (k16.cell t14 (hB9.cell (AJK t Uw)));have oc:ld prog 5 (.pointer (some ⟨W14.sz,0+3,none⟩)) T4=some (.int .u8 (elemAt c aa)):=AD a5 (a:=⟨W14.sz,0+3,none⟩) (ADJ.cell (AJM aa jz));obtain⟨ara,cra,la,hra⟩:=I16.cat.rw.some jz;simp only[dN,AA,e9,oc,CM,Bt,Rs,Ks,qv T4 M',qm2 T4 I16,qa T4 M',qt T4 M',la,Aj KB,Aj VN]
     refine AH (λhe=>?_) (λhe=>?_)
     ·have he:elemAt c t≠0:=by simpa using he
      exact⟨by simp only[and_self],trivial,leaf true _ (.put rfl) rfl rfl (λ_=>by rw[hh,decide_eq_true he];rfl) (λh=>by cases h)⟩
     ·have he:¬elemAt c t≠0:=by simpa using he
      refine AH (λWX=>?_) (λWX=>?_)
      ·have WX:elemAt c aa≠0:=by simpa using WX
       exact⟨by simp only[and_self],trivial,leaf true _ (.put rfl) rfl rfl (λ_=>by rw[hh,decide_eq_true WX];simp) (λh=>by cases h)⟩
      ·have WX:¬elemAt c aa≠0:=by simpa using WX
       rw[decide_eq_false he,decide_eq_false WX,acS,abY]at hh
       have Uj:IX l s i=false→((s.map.length:Int) !=((Al c aa).length:Nat))=Fl c l i s:=λhp=>by
        rw[hh,hp,abY]
        by_cases e:s.map.length=(Al c aa).length
        ·rw[decide_eq_false (by simpa using e),e];simp
        ·rw[decide_eq_true e];simp;omega
       cases i with
       |zero=>
        refine AH (λh=>by simp at h) (λ_=>?_);have hp:=Uj rfl;exact⟨by simp only[qv T4 M',qm2 T4 I16,qa T4 M',Aj KB,Aj VN,and_self],trivial,leaf _ _ (.put rfl) rfl rfl (λh=>by rw[←hp];exact h) (λh=>by rw[←hp];exact h)⟩
       |succ i=>
        refine AH (λ_=>?_) (λh=>by have:=of_decide_eq_false h;omega);have mH:i<l.length:=by omega
        have hxp:=ck mH;obtain⟨p',hp',j3⟩:=A5 i _ hxp
        cases hp'
        have r3:ld prog 9 (.pointer (some ⟨p.block,p.off+i*3,none⟩)) T4=some (.string l[i].type):=AD a9 (a:=⟨p.block,p.off+i*3,none⟩) (ADK.cell I'.top j3.type);have es:((i+1:Nat):Int)-1=(i:Nat):=by omega
        simp only[Ae,AA,es];rw[wrap64 (by omega) (by omega),Ay u23 jy mH];simp only[AA,Rr,r3,aJ];have hpb:IX l s (i+1)=!Hu (sb l[i].type) (sb s.type):=by unfold IX;simp only[hxp]
        refine AH (λhq=>?_) (λhq=>?_)
        ·exact⟨by simp only[qt T4 M',and_self],trivial,leaf true _ (.put rfl) rfl rfl (λ_=>by rw[hh,hpb,hq];rfl) (λh=>by cases h)⟩
        ·have hp:=Uj (hpb.trans hq);exact⟨by simp only[qt T4 M',qv T4 M',qm2 T4 I16,qa T4 M',Aj KB,Aj VN,and_self],trivial,leaf _ _ (.put rfl) rfl rfl (λh=>by rw[←hp];exact h) (λh=>by rw[←hp];exact h)⟩
  ·have U0:l.take i=l:=aaS (by omega);rw[U0]at hw hr;have Bv:∀j,j<l.length→LJ c l j=false:=λj hj=>Bw j (by omega);simp only[BI,Oy,IJ,QV,aaA,Rv];simp only[AG,AN,Nat.reduceEqDiff,↓reduceIte,h1];simp only[Aj u23,AA]
   refine EZ (λi e ds W'=>ds=[]∧T3 W W' W.sz b4 b6 r1 r2 w r c∧e 161=.slice a l.length cap∧e 162=.int .i64 l.length∧e 163=.int .i64 i∧e 4=.pointer (some ⟨b4,0,none⟩)∧e 6=.pointer (some ⟨b6,0,none⟩)∧PM Bq.type W' w l∧PM Bq.to W' r l∧∀j s,j<i→l[j]?=some s→Tz l s=false) l.length
    ⟨rfl,I',rfl,rfl,rfl,h4,h6,hw,hr,by omega⟩ ?_
   rintro i2 e2 ds2 W2 hi2 ⟨rfl,I2,AGm,AGn,AGo,g4,g6,Fq,Ty,U2⟩;rw[ACt,AGm,AGn,AGo,g6];simp only[Af,AA]
   refine Hx (λAo=>?_) (λADH=>?_)
   ·obtain⟨s,hs⟩:∃s,l[i2]?=some s:=⟨_,ck Ao⟩
    have hlW:At 3 (XV W2) (.slice a l.length cap) l:=hl.imp λ_ _ _ hr=>hr.kp ht I2.kp;obtain⟨a',cap',ha,A5⟩:=id hlW
    cases ha
    obtain⟨p,rfl,Z1⟩:=A5 i2 _ hs;obtain⟨am,cm,tH,ADI,Aa⟩:=Z1.ld;rw[Ay u23 jy Ao];simp only[AA,tH];refine DM tP jy rfl rfl rfl I2.top λyx ZW t12 z12 Sr=>?_;have I12:=I2.VP ZW t12;obtain⟨ws,L,fo,Nb⟩:=dh (Fq.kp I2.top ZW) s.to;simp only[V3,Oa,AA];rw[AD a81 (a:=⟨b6,0,none⟩) (I12.b6.cell rfl),AD a9 (a:=⟨W2.sz,0+1,none⟩) (Sr.cell rfl)];simp only[AA,L,BV,BW];refine DM tP jy rfl Nb fo t12 λW14 k14 t14 z14 ALT=>?_;have I14:=I12.VP k14 t14;have ABe:Tz l s=(l.find? λx=>decide (x.type=s.to)).isSome:=rfl
    refine AH (λhb=>?_) (λhb=>?_)
    ·rw[g4,dg I14.b6];simp only[AA]
     have Hw:BL c l=false:=by
      rw[I9,EU Ao (by rw[T0 hs,ABe,hb];simp)];rfl
     refine Ei W14 false I14 Hw.symm (λh=>by rw[Hw]at h;cases h) λW8 hr8=>?_;simp only[aV,NP,Tm,IW,ey,lj];exact hr8 _ g4 rfl
    ·simp only[aV,BI,IW];simp only[AG,AN,Nat.reduceEqDiff,↓reduceIte,AGo,AO,AA];refine⟨Ao,trivial,I14,AGm,AGn,by rw[Dy (by omega)],g4,g6,Fq.kp I2.top (ZW.trans k14),Ty.kp I2.top (ZW.trans k14),λj s' hj Oq=>?_⟩
     rcases aaD.1 hj with h|rfl
     ·exact U2 j s' h Oq
     ·rw[hs]at Oq;cases Oq;rw[ABe];exact hb
   ·have Uz:BL c l=true:=by
     rw[I9,GM λj hj=>?_]
     ·rfl
     ·have ez:=ck hj;rw[T0 ez,Bv j hj,U2 j _ (by omega) ez];rfl
    simp only[BI,Oy,IJ,QV,aaA,lj];simp only[AG,AN,Nat.reduceEqDiff,↓reduceIte,g4,g6];rw[dg I2.b6];simp only[AA];exact Ei W2 true I2 Uz.symm (λ_=>⟨Fq,Ty⟩) λW8 hr8=>hr8 _ g4 rfl
structure rF(W:CW)(bk bx r1 r2:Nat)(c:List AV)(ty:ByteArray)(n:Nat):Prop where
 k0:W.cell bk 0=some (.map (some r1))
 k1:W.cell bk 1=some (.map (some r2))
 cat:FB W r1 r2 c
 x0:W.cell bx 0=some (.string ty)
 x1:∃a cap,W.cell bx 1=some (.slice a n cap)
theorem V0.elem{W:CW}{r:Nat}{c:List AV}(h:V0 W r c){s:ByteArray}{i:Nat}(hi:Ah c s=Option.some i):∃a b f g,Sq prog 75 (.map (Option.some r)) (.string s) false W=Option.some (.agg #[a,b,f,.int .u8 (elemAt c i),g]):=by
 obtain⟨u,x,hx,hu,_,l2⟩:=h.some hi;obtain⟨vf,ab,lb,cb,rfl,_⟩:=hu;exact⟨_,_,_,_,by unfold elemAt;rw[hx];exact l2⟩
theorem R6{l:Nat}{args:List Value}{W:CW}{K:Value→CW→Prop}{KP:List PanicEntry→CW→Prop}(h:Js prog Bf l args W (BO K KP)):Dt prog Bf (.func (.yield l) #[] #[]) args W K KP:=by
 unfold Dt JI
 simpa using h
theorem N8(Q:Ending→CW→Prop)(x:Exit)(hx:x=.normal∨x=.ret)(e:Env)(W:CW)(h:Q (.returned (.tuple #[])) W):AQ prog Tryz.f108 Q x e [] W:=by
 have hr:Tryz.f108.results.toList=[]:=by kernel_rfl
 rcases hx with rfl|rfl<;>simp only[AQ,CI,hr,Jt]<;>exact h
theorem rG{l bk bx r1 r2 n ix:Nat}{c:List AV}{ty:ByteArray}(U3:Ah c ty=some ix)(LO:n<100000)(hn:elemAt c ix=0→n≤(Al c ix).length)(J:Nat→CW→Prop)(Stop:CW→Prop)(hJ:∀i W,J i W→rF W bk bx r1 r2 c ty n)
  (mI:∀i W,i<n→J i W→Js prog Bf l [.int .i64 i,.int .u8 (A0 c ix i)] W λe W'=>(e=.returned (.bool true)∧J (i+1) W')∨(e=.returned (.bool false)∧Stop W')) {W:CW} (h0:J 0 W) :
  AX prog Bf 108 [.func (.yield l) #[] #[],.pointer (some ⟨bk,0,none⟩),.pointer (some ⟨bx,0,none⟩)] W λe W'=>e=.returned (.tuple #[])∧(J n W'∨Stop W'):=by
 refine wA ?_;rw[v_];have K0:=hJ 0 W h0;obtain⟨a0,AJT,RJ⟩:=K0.x1;obtain⟨ea,eb,ef,eg,MJ⟩:=K0.cat.sh.elem U3;simp only[Hl,G6,FJ,AA];rw[AD wC (a:=⟨bk,0,none⟩) K0.k0,AD a9 (a:=⟨bx,0,none⟩) K0.x0,AD Uv (a:=⟨bx,0+1,none⟩) RJ];simp only[AA,MJ,Oe,Aj KB];refine EZ (λi e ds W'=>ds=[]∧e 0=.func (.yield l) #[] #[]∧e 1=.pointer (some ⟨bk,0,none⟩)∧e 2=.pointer (some ⟨bx,0,none⟩)∧e 4=.int .u8 (elemAt c ix)∧e 15=.int .i64 n∧e 16=.int .i64 i∧J i W') n ⟨rfl,rfl,rfl,rfl,rfl,rfl,rfl,h0⟩ ?_;rintro i e ds W' hi ⟨rfl,h0,h1,h2,h4,h15,iH,hj⟩;rw[oW,h1,h2,h4,h15,iH];simp only[Af,AA]
 refine Hx (λAo=>?_) (λJi=>?_)
 ·have E8:∀(e1:Env),DR [0,1,2,4,15,16] e e1→e1 5=.int .i64 i→e1 6=.int .u8 (A0 c ix i)→
    (Rz none (N4 (λi e ds W'=>ds=[]∧e 0=.func (.yield l) #[] #[]∧e 1=.pointer (some ⟨bk,0,none⟩)∧e 2=.pointer (some ⟨bx,0,none⟩)∧e 4=.int .u8 (elemAt c ix)∧e 15=.int .i64 n∧e 16=.int .i64 i∧J i W') i n (CX 0 (AQ prog Tryz.f108 λe W'=>e=.returned (.tuple #[])∧(J n W'∨Stop W'))))) .normal e1 [] W':=by
   intro e1 hA h5 h6;have g0:=(hA 0 (by decide)).trans h0;have g16:=(hA 16 (by decide)).trans iH;simp only[aY,BI,g0,h5,h6];refine R6 ((mI i W' Ao hj).mono λen W1 hp=>?_)
   rcases hp with⟨rfl,nq⟩|⟨rfl,D1⟩
   ·simp only[BO,AW,AA,aav,AZ,Od,BI,NP,Tm,IW,ey];simp only[AG,AN,Nat.reduceEqDiff,↓reduceIte,g16,AO,AA];exact⟨Ao,trivial,g0,(hA 1 (by decide)).trans h1,(hA 2 (by decide)).trans h2,(hA 4 (by decide)).trans h4,(hA 15 (by decide)).trans h15,by rw[Dy (by omega)],nq⟩
   ·simp only[BO,AW,AA,aaY,BB,Od,BI,NP,Tm,IW,ey];exact N8 _ _ (.inr rfl) _ _ ⟨rfl,.inr D1⟩
  simp only[BJ,AA]
  refine AH (λhe=>?_) (λhe=>?_)
  ·have he:elemAt c ix=0:=by simpa using he
   have Ki:=hJ i W' hj;have H2:=DI U3;have Z7:i<(Al c ix).length:=by have:=hn he;omega
   obtain⟨ar,cr,lr,yw⟩:=Ki.cat.rw.some U3;obtain⟨_,_,e3,hrc⟩:=yw
   cases e3
   obtain⟨pr,rfl,M3⟩:=hrc i _ (ck Z7);simp only[Ks,G6,AA];rw[AD a76 (a:=⟨bk,0+1,none⟩) Ki.k1,AD a9 (a:=⟨bx,0,none⟩) Ki.x0];simp only[AA,lr];rw[Ay VN s5 Z7];simp only[AA];rw[AD a5 (a:=⟨pr.block,pr.off+i*1,none⟩) M3];simp only[AA];refine E8 _ (.put rfl) rfl ?_;show Value.int .u8 (Al c ix)[i]=_;rw[J6 he H2,ck Z7];rfl
  ·have he:elemAt c ix≠0:=by simpa using he
   refine E8 _ (.put rfl) rfl ?_;show Value.int .u8 (elemAt c ix)=_;have H2:=DI U3;unfold A0;unfold elemAt at he ⊢;rw[ck H2]at he ⊢;simp only at he ⊢;rw[aad he]
 ·simp only[IJ,QV,aaA];have hi:i=n:=by omega
  exact N8 _ _ (.inl rfl) _ _ ⟨rfl,.inl (hi▸hj)⟩
theorem dj{fn:FuncId}{nt:Nat}{f:Operand}{p1 p2 a1 a2:Tmp}{A B:Code}{e:Env}{ds:List Deferred}{W:CW}{K:AB}{bk bx r1 r2 n ix:Nat}{c:List AV}{ty:ByteArray}(ht:Ag W)
  (hf:e.ev f=.func (.func 108) #[] #[.pointer (some ⟨bk,0,none⟩),.pointer (some ⟨bx,0,none⟩)]) (U3:Ah c ty=some ix) (LO:n<100000) (hn:elemAt c ix=0→n≤(Al c ix).length)
  (hA:∀ro e0 ds K W,D8 prog Bf ro fn nt A e0 ds W K=K .normal (Env.of e0 [(a2,e0 p2),(a1,e0 p1)]) ds W) (wa:p1≠p2∧a1≠a2)
  (J:Nat→CW→Prop) (Stop:Exit→CW→Prop) (hJ:∀i W,J i W→rF W bk bx r1 r2 c ty n)
  (hJl:∀i W1 W2,J i W1→Dn (W.sz+1) W1 W2→(∀b k v,W1.cell b k=some v→W2.cell b k=some v)→J i W2)
  (hSl:∀x W1 W2,Stop x W1→Dn (W.sz+1) W1 W2→(∀b k v,W1.cell b k=some v→W2.cell b k=some v)→Stop x W2)
  (h0:∀W2,Kp W W2→Ag W2→W2.sz=W.sz+2→W2.obj W.sz=some .deferred→J 0 W2)
  (fy:∀(i:Nat) W1 (Kb:AB) (E:Env),(∀t,t≠p1→t≠p2→t≠a1→t≠a2→E t=e t)→E a1=.int .i64 i→E a2=.int .u8 (A0 c ix i)→i<n→J i W1→(∃o,W1.obj (W.sz+1)=some o∧∀a b c d,o≠.cells a b c d)→
   (∀e' FG W3,W3.obj (W.sz+1)=W1.obj (W.sz+1)→J (i+1) W3→Kb .normal e' FG W3)→(∀e' FG W3,W3.obj (W.sz+1)=W1.obj (W.sz+1)→Stop .ret W3→Kb .ret e' FG W3)→(∀id e' FG W3,W3.obj (W.sz+1)=W1.obj (W.sz+1)→Stop (.exit id) W3→Kb (.exit id) e' FG W3)→
   D8 prog Bf (some (W.sz+1)) fn nt B E [] W1 Kb)
  (GR:∀W',J n W'→K .normal e (mark W.sz::ds) W') (ABf:∀x W',Stop x W'→K x e (mark W.sz::ds) W') :
  Gi prog Bf none fn nt (.rangeFunc f #[p1,p2] A B) e ds W K:=by
 have A5:∀{W1 W2:CW} {st Dr Vj e' gb gd A' B' d'},EE W1 (W.sz+1) st Dr Vj e' gb gd A' B' d'→Dn (W.sz+1) W1 W2→∀b k v,W1.cell b k=some v→W2.cell b k=some v:=by
  intro W1 W2 st Dr Vj e' gb gd A' B' d' hl hu b k v hc;obtain⟨T,ho,_⟩:=hl
  rw[hu.cell]
  ·exact hc
  ·rintro rfl;unfold CW.cell at hc;rw[ho]at hc;cases hc
 refine zy (g:=108) (args:=[.func (.yield (W.sz+1)) #[] #[],.pointer (some ⟨bk,0,none⟩),.pointer (some ⟨bx,0,none⟩)]) ht ?_ λW2 k2 t2 z2 hd hl=>?_
 ·rw[hf];rfl
 ·refine(rG (J:=λi W'=>J i W'∧EE W' (W.sz+1) .ready none fn e nt #[p1,p2] A B W.sz) (Stop:=λW'=>∃x,Stop x W'∧∃pd,EE W' (W.sz+1) .done (some pd) fn e nt #[p1,p2] A B W.sz∧((pd=.ret∧x=.ret)∨∃id,pd=.exit id∧x=.exit id)) U3 LO hn (λi W' h=>hJ i W' h.1) (λi W' hi h=>?_) ⟨h0 W2 k2 t2 z2 hd,hl⟩).mono λen W' ⟨he,hr⟩=>?_
  ·obtain⟨hj,Y3⟩:=h;refine oR Y3 rfl ?_;rw[hA];refine⟨rfl,none,e,nt,#[p1,p2],A,B,W.sz,Y3,λW3 hu rH=>?_⟩;have hj3:=hJl i W' W3 hj hu (A5 Y3 hu);obtain⟨qJ,ue⟩:=wa
   refine fy i W3 _ _ (λt h1 h2 h3 h4=>by simp only[AG,AN,abj,ab7,Env.Fi,aac h1,aac h2,aac h3,aac h4]) (by simp only[AG,AN,abj,ab7,Env.Fi,aac qJ,aac ue,aaA]) (by simp only[AG,AN,abj,ab7,Env.Fi,aaA,aac (abW qJ)]) hi hj3 (by obtain⟨T,ho,_⟩:=rH;exact⟨_,ho,λ_ _ _ _ h=>by cases h⟩) (λe' FG W4 ho hj4=>?_) (λe' FG W4 ho cU=>?_) (λid e' FG W4 ho cU=>?_)
   ·refine⟨.busy,none,fn,e,nt,#[p1,p2],A,B,W.sz,rH.congr ho,λW5 U4 hl5=>.inl ⟨rfl,?_,hl5⟩⟩;exact hJl _ W4 W5 hj4 U4 (A5 (rH.congr ho) U4)
   ·refine⟨.busy,none,fn,e,nt,#[p1,p2],A,B,W.sz,rH.congr ho,λW5 U4 hl5=>.inr ⟨rfl,.ret,?_,.ret,hl5,.inl ⟨rfl,rfl⟩⟩⟩;exact hSl _ W4 W5 cU U4 (A5 (rH.congr ho) U4)
   ·refine⟨.busy,none,fn,e,nt,#[p1,p2],A,B,W.sz,rH.congr ho,λW5 U4 hl5=>.inr ⟨rfl,.exit id,?_,.exit id,hl5,.inr ⟨id,rfl,rfl⟩⟩⟩;exact hSl _ W4 W5 cU U4 (A5 (rH.congr ho) U4)
  ·refine⟨⟨_,he⟩,?_⟩
   rcases hr with⟨hj,Y3⟩|⟨x,hs,pd,Y3,hx⟩
   ·refine⟨.ready,none,fn,e,nt,#[p1,p2],A,B,W.sz,Y3,(by intro h;cases h),λW5 U4=>GR W5 ?_⟩;exact hJl _ W' W5 hj U4 (A5 Y3 U4)
   ·refine⟨.done,some pd,fn,e,nt,#[p1,p2],A,B,W.sz,Y3,(by intro h;cases h),λW5 U4=>?_⟩;have hs5:=hSl _ W' W5 hs U4 (A5 Y3 U4)
    rcases hx with⟨rfl,rfl⟩|⟨id,rfl,rfl⟩
    ·exact ABf _ W5 hs5
    ·exact ABf _ W5 hs5
theorem dk:Tryz.f119.results.toList=[.cell 6 4]:=by kernel_rfl
theorem s4:De prog 4=some 1:=by kernel_rfl
theorem a4:agg? prog 4=some false:=by kernel_rfl
theorem J9{P:Program}{fn:Func}{Q:Ending→CW→Prop}{x:Exit}{e:Env}{ds:List Deferred}{W:CW}{r:Nat}(ho:W.obj r=some .deferred)(h:AQ P fn Q x e ds (W.A6 r .dead)):AQ P fn Q x e (mark r::ds) W:=⟨ho,h⟩
def rI(r1 r2:Nat)(ty:ByteArray)(vx:Value)(W:CW):Ending→CW→Prop:=λe W'=>Kp W W'∧Ag W'∧∃bk bx,e=.returned (.func (.func 108) #[] #[.pointer (some ⟨bk,0,none⟩),.pointer (some ⟨bx,0,none⟩)])∧W.sz≤bk∧W.sz≤bx∧Aq W' bk 78 [.map (some r1),.map (some r2)]∧Aq W' bx 56 [.string ty,vx]
theorem R7{r1 r2:Nat}{ty:ByteArray}{vx:Value}{W:CW}(ht:Ag W):AX prog Bf 62 [KH r1 r2,.agg #[.string ty,vx]] W (rI r1 r2 ty vx W):=by
 refine AGO ?_;rw[AGN];unfold KH;refine Fy U1 ht λW0 k0 t0 z0 QJ=>?_;refine Fy LD t0 λW1 k1 t1 z1 P_=>?_;simp only[AA];rw[q_];exact⟨k0.trans k1,t1,W.sz,W0.sz,rfl,aaf _,k0.sz,QJ.ext t0 k1,P_⟩
theorem mJ(kind n:Int)(size:Nat):(!Hj kind n size)=((kind==1&& !(decide (-1000000000≤n)&&decide (n≤1000000000)))||(kind==2&& !(decide ((0:Int)≤n)&&decide (n≤(size:Int))))):=by
 unfold Hj;rw[Bool.not_not]
 congr 2
 ·by_cases h1:-1000000000≤n<;>by_cases h2:n≤1000000000<;>simp[h1,h2]<;>omega
 ·by_cases h1:(0:Int)≤n<;>by_cases h2:n≤(size:Int)<;>simp[h1,h2]<;>omega
def T5(c:List AV)(i:Nat)(vs:List Int)(size k:Nat):Bool:=match vs[k]? with
 |some n=>!Hj (A0 c i k) n size
 |none=>false
theorem X4{c:List AV}{x:BC}{size i:Nat}{s:AV}(hi:Ah c x.type=some i)(hs:c[i]?=some s):A8 c x size=(FL c i s x.AL.length&& !ER x.AL.length (T5 c i x.AL size)):=by
 unfold A8;rw[hi];simp only[hs];rfl
theorem AAP{c:List AV}{r1 r2:Nat}{x:BC}{vx:Value}{size:Nat}{W:CW}(ht:Ag W)(Gk:FB W r1 r2 c)(Aa:Az c=true)(hC:Ru c)(T6:At 1 (Eh W) vx x.AL)(hv:x.AL.length<100000)(Hs:size<1000000) :
  AX prog Bf 119 [KH r1 r2,.agg #[.string x.type,vx],.int .i64 size] W (z_ (.bool (A8 c x size)) W):=by
 refine AC5 ?_;rw[AC4];unfold KH;obtain⟨ax,cx,rfl,_⟩:=id T6;refine Fy U1 ht λW0 k0 t0 z0 Fk=>?_;have Fk:Aq W0 W.sz 78 [.map (some r1),.map (some r2)]:=Fk;refine Fy LD t0 λW1 k1 t1 z1 L4=>?_;have L4:Aq W1 W0.sz 56 [.string x.type,.slice ax x.AL.length cx]:=L4;refine Fy s3 t1 λW2 k2 t2 z2 NR=>?_;have NR:Aq W2 W1.sz 3 [.int .i64 size]:=NR;refine H' z4 s4 t2 λW3 k3 t3 z3 Ms=>?_;have Ms:Aq W3 W2.sz 4 [.bool false]:=Ms;have wc:=(k1.trans k2).trans k3;have kk:Kp W W3:=k0.trans wc;have PN:=Gk.kp ht kk;have Fk:=Fk.ext t0 wc;have L4:=L4.ext t1 (k2.trans k3);have NR:=NR.ext t2 k3;have AAQ:W.sz≤W2.sz:=by have:=k0.sz;have:=k1.sz;have:=k2.sz;omega
 have Dg:W2.sz≠W.sz∧W2.sz≠W0.sz∧W2.sz≠W1.sz:=by have:=k1.sz;omega
 generalize rJ:W.sz=b3 at Fk AAQ Dg;generalize yp:W0.sz=b4 at L4 Dg;generalize hb5:W1.sz=b5 at NR Dg;generalize hb6:W2.sz=b6 at Ms AAQ Dg;have q3:∀W7,Kp W3 W7→ld prog 75 (.pointer (some ⟨b3,0,none⟩)) W7=some (.map (some r1)):=λW7 k7=>AD wC (a:=⟨b3,0,none⟩) (k7.cell t3 (Fk.cell rfl));have q3':∀W7,Kp W3 W7→ld prog 76 (.pointer (some ⟨b3,0+1,none⟩)) W7=some (.map (some r2)):=λW7 k7=>AD a76 (a:=⟨b3,1,none⟩) (k7.cell t3 (Fk.cell rfl));have q4:∀W7,Kp W3 W7→ld prog 9 (.pointer (some ⟨b4,0,none⟩)) W7=some (.string x.type):=λW7 k7=>AD a9 (a:=⟨b4,0,none⟩) (k7.cell t3 (L4.cell rfl));have q4':∀W7,Kp W3 W7→ld prog 40 (.pointer (some ⟨b4,0+1,none⟩)) W7=some (.slice ax x.AL.length cx):=λW7 k7=>AD Uv (a:=⟨b4,1,none⟩) (k7.cell t3 (L4.cell rfl));obtain⟨ws,L,fo,Nb,MJ⟩:=X3 PN.sh x.type;simp only[Hl,G6,AA,q3 W3 (.refl _),q4 W3 (.refl _),L,BV,BW];refine DM tN jx rfl Nb fo t3 λW5 k5 t5 z5 hB7=>?_;have od:=PN.kp t3 k5;generalize Hm:AQ prog Tryz.f119 (z_ (.bool (A8 c x size)) W)=K
 have GR:∀(W7:CW) (b:Bool) (e:Env),Bm (·=b6) W3 W7→Ag W7→W7.cell b6 0=some (.bool b)→e 6=.pointer (some ⟨b6,0,none⟩)→b=A8 c x size→K .ret e [] W7:=by
  intro W7 b e k t hb h6 hbe;rw[←Hm];refine Mm dk h6 (AD a4 (a:=⟨b6,0,none⟩) hb) ?_;exact⟨by rw[hbe],Bm.kp kk k λj hj=>by rw[hj];omega,t⟩
 have leaf:∀(b:Bool) (e:Env),e 44=.bool b→e 3=.pointer (some ⟨b3,0,none⟩)→e 4=.pointer (some ⟨b4,0,none⟩)→e 5=.pointer (some ⟨b5,0,none⟩)→e 6=.pointer (some ⟨b6,0,none⟩)→
   (b=true→A8 c x size=false)→(b=false→∃i s,Ah c x.type=some i∧c[i]?=some s∧FL c i s x.AL.length=true)→(Ly none K) .normal e [] W5:=by
  intro b e h44 h3 h4 h5 h6 rE hbf;have mK:=Ms.ext t3 k5;simp only[Ly,BI,h44]
  refine AH (λhb=>?_) (λhb=>?_)
  ·rw[h6];refine Ac s4 (a:=⟨b6,0,none⟩) rfl mK (by simp) λW6 hu hB=>?_;have hu:Dn b6 W5 W6:=hu;have AGp:=mK.lt t5;simp only[Xw,NP,aH,R0];exact GR W6 false e ((Bm.Io k5).then hu.D4 λ_ _ h=>h) (t5.A6 AGp hu) (hB.cell rfl) h6 (rE hb).symm
  ·obtain⟨i,s,hi,hs,hm⟩:=hbf hb;have LP:A8 c x size=!ER x.AL.length (T5 c i x.AL size):=by rw[X4 hi hs,hm,abb]
   have AJU:=Fk.ext t3 k5;have AJV:=L4.ext t3 k5;simp only[Xw,BI,h3,h4];rw[Bn (vs:=[.map (some r1),.map (some r2)]) a78 U1 rfl (by omega) AJU.cells,Bn (vs:=[.string x.type,.slice ax x.AL.length cx]) gY LD rfl (by omega) AJV.cells];simp only[AA];refine(R7 (r1:=r1) (r2:=r2) (ty:=x.type) t5).mono λen W8 ⟨k8,t8,bk,bx,FN,qD,hbx,tR,tS⟩=>?_;subst FN;simp only[BO];have iI:=od.kp t5 k8;have k38:=k5.trans k8;have ADN:=mK.ext t5 k8;have AGp:=ADN.lt t8;have AJW:=tR.lt t8;have AJX:=tS.lt t8;have ALU:=Ms.lt t3;have ALV:=k5.sz;have hv8:At 1 (Eh W8) (.slice ax x.AL.length cx) x.AL:=T6.imp λ_ _ _ hr=>hr.kp ht (kk.trans k38);have hKd:∀W',Kp W8 W'→rF W' bk bx r1 r2 c x.type x.AL.length:=λW' k=>⟨k.cell t8 (tR.cell rfl),k.cell t8 (tR.cell rfl),iI.kp t8 k,k.cell t8 (tS.cell rfl),_,_,k.cell t8 (tS.cell rfl)⟩
   refine dj (bk:=bk) (bx:=bx) (r1:=r1) (r2:=r2) (n:=x.AL.length) (ix:=i) (c:=c) (ty:=x.type) (a1:=9) (a2:=10) t8 rfl hi hv (λhe=>by
     have:=Lt hs he hm;omega) (λro e0 ds K W=>by rw[AAD]) (by decide)
    (λj W'=>Kp W8 W'∧Ag W'∧W'.obj W8.sz=some .deferred∧W8.sz+1<W'.sz∧∀m,m<j→T5 c i x.AL size m=false)
    (λy W'=>y=.ret∧Bm (·=b6) W8 W'∧Ag W'∧W'.obj W8.sz=some .deferred∧W'.cell b6 0=some (.bool false)∧W8.sz+1<W'.sz∧A8 c x size=false)
    (λj W' h=>hKd W' h.1) (λj W1 W2 ⟨h1,h2,h3,h4,h5⟩ hu hc=>?_) (λy W1 W2 ⟨h1,h2,h3,h4,h5,h6,h7⟩ hu hc=>?_) (λW2 k2 t2 z2 hd=>⟨k2,t2,hd,by omega,by omega⟩) (λj W1 Kb E hE hE1 hE2 hj ⟨fk,ht1,qJ,fz,Bw⟩ M_ hn hr hx=>?_) (λW' ⟨h1,h2,h3,h4,h5⟩=>?_) (λy W' ⟨y1,y2,y3,y4,y5,y6,y7⟩=>?_)
   ·exact⟨h1.A6 (by omega) hu,h2.A6 h4 hu,by rw[hu.obj _ (by omega)];exact h3,by rw[hu.sz];exact h4,h5⟩
   ·exact⟨h1,h2.then hu.D4 λi hi he=>by omega,h3.A6 h6 hu,by rw[hu.obj _ (by omega)];exact h4,hc _ _ _ h5,by rw[hu.sz];exact h6,h7⟩
   ·have ez:=ck hj;obtain⟨p,e2,we⟩:=id hv8;have cV:At 1 (Eh W1) (.slice ax x.AL.length cx) x.AL:=hv8.imp λ_ _ _ hr=>hr.kp t8 fk;obtain⟨_,_,e3,hvc⟩:=cV
    cases e3
    obtain⟨q,rfl,hq⟩:=hvc j _ ez;have k31:=k38.trans fk;have ADO:=ADN.ext t8 fk;have l3:ld prog 3 (.pointer (some ⟨b5,0,none⟩)) W1=some (.int .i64 size):=AD a3 (a:=⟨b5,0,none⟩) (k31.cell t3 (NR.cell rfl));have g4:E 4=.pointer (some ⟨b4,0,none⟩):=(hE 4 (by decide) (by decide) (by decide) (by decide)).trans h4;have g5:E 5=.pointer (some ⟨b5,0,none⟩):=(hE 5 (by decide) (by decide) (by decide) (by decide)).trans h5;have g6:E 6=.pointer (some ⟨b6,0,none⟩):=(hE 6 (by decide) (by decide) (by decide) (by decide)).trans h6;rw[AAE,g4,g5,hE1,hE2];simp only[FJ,AA,q4' W1 k31];rw[Ay KB s3 hj];simp only[AA];rw[AD a3 (a:=⟨q.block,q.off+j*1,none⟩) hq.1];simp only[AA,BJ]
    have ew:T5 c i x.AL size j=((A0 c i j==1&& !(decide (-1000000000≤x.AL[j])&&decide (x.AL[j]≤1000000000)))||(A0 c i j==2&& !(decide ((0:Int)≤x.AL[j])&&decide (x.AL[j]≤(size:Int))))):=by
     unfold T5;rw[ez];exact mJ _ _ _
    have oe:∀(b:Bool) (e2:Env),e2 71=.bool b→e2 6=.pointer (some ⟨b6,0,none⟩)→b=T5 c i x.AL size j→(Gv (some (W8.sz+1)) Kb) .normal e2 [] W1:=by
     intro b e2 h71 g6 hb;simp only[Gv,BI,h71]
     refine AH (λZX=>?_) (λZX=>?_)
     ·rw[g6];refine Ac s4 (a:=⟨b6,0,none⟩) (v:=.bool false) rfl ADO (by simp) λW9 hu hB=>?_;have hu:Dn b6 W1 W9:=hu;refine hr _ _ W9 (hu.obj _ (by omega)) ⟨rfl,(Bm.Io fk).then hu.D4 λ_ _ h=>h,ht1.A6 (by omega) hu,by rw[hu.obj _ (by omega)];exact qJ,hB.cell rfl,by rw[hu.sz];exact fz,?_⟩;rw[LP,EU hj (by rw[←hb,ZX])];rfl
     ·exact hn _ _ W1 rfl ⟨fk,ht1,qJ,fz,Lr Bw (by rw[←hb,ZX])⟩
    have second:∀(e2:Env),e2 6=.pointer (some ⟨b6,0,none⟩)→True:=λ_ _=>trivial
    refine AH (λhk=>?_) (λhk=>?_)
    ·refine A4 (gZ _ _ _ _) ?_;simp only[AW,AA];rw[hk,abb]at ew
     refine AH (λM0=>?_) (λM0=>?_)
     ·exact oe true _ rfl (by exact g6) (by rw[ew,M0];rfl)
     ·have fk:A0 c i j=1:=by simpa using hk
      rw[M0,fk,show((1:Int)==2)=false from rfl,ab4,acS]at ew;simp only[fk,Int.reduceBEq,AZ];exact oe false _ rfl (by exact g6) ew.symm
    ·rw[hk,ab4,abY]at ew
     refine AH (λqE=>?_) (λqE=>?_)
     ·simp only[l3,AA];refine A4 (gZ _ _ _ _) ?_;simp only[AW,AA];rw[qE,abb]at ew;exact oe _ _ rfl (by exact g6) ew.symm
     ·exact oe false _ rfl (by exact g6) (by rw[ew,qE,ab4])
   ·simp only[BI,zw,R0];simp only[AG,AN,Nat.reduceEqDiff,↓reduceIte,h6];have ADO:=ADN.ext t8 h1;refine Ac s4 (a:=⟨b6,0,none⟩) (v:=.bool true) rfl ADO (by simp) λW9 hu hB=>?_;have hu:Dn b6 W' W9:=hu;rw[←Hm];have hd9:W9.obj W8.sz=some .deferred:=by rw[hu.obj _ (by omega)];exact h3
    refine J9 hd9 ?_;have KU:Dn W8.sz W9 (W9.A6 W8.sz .dead):=Dn.of _ _ _;have t9:Ag W9:=h2.A6 (by omega) hu;rw[Hm];refine GR _ true _ ((((Bm.Io (k38.trans h1)).then hu.D4 λ_ _ h=>h)).then KU.D4 λj hj he=>by omega) (t9.A6 (by rw[hu.sz];omega) KU) (by rw[KU.cell (by omega)];exact hB.cell rfl) h6 ?_;rw[LP,GM λm hm=>h5 m hm];rfl
   ·subst y1;simp only[NP,Tm,R0];rw[←Hm];refine J9 y4 ?_;have KU:Dn W8.sz W' (W'.A6 W8.sz .dead):=Dn.of _ _ _;rw[Hm];exact GR _ false _ (((Bm.Io k38).then y2 λ_ _ h=>h).then KU.D4 λj hj he=>by omega) (y3.A6 (by omega) KU) (by rw[KU.cell (by omega)];exact y5) h6 y7.symm
 simp only[AW,AA]
 cases hi:Ah c x.type with
 |none=>
  simp only[abL,aaY,BB];exact leaf true _ rfl rfl rfl rfl rfl (λ_=>by unfold A8;rw[hi]) (λh=>by cases h)
 | some i=>
  have H2:=DI hi;have hs:=ck H2;simp only[ac_,aav,AZ];have e7:ld prog 5 (.pointer (some ⟨W3.sz,0+3,none⟩)) W5=some (.int .u8 (elemAt c i)):=AD a5 (a:=⟨W3.sz,0+3,none⟩) (hB7.cell (MJ i hi));obtain⟨ar,cr,lr,yw⟩:=od.rw.some hi;have AGq:elemAt c i=c[i].elem:=by unfold elemAt;rw[hs]
  have h60:=(dW Aa H2).1;simp only[dN,FJ,Ks,AA,e7,q4 W5 k5,q4' W5 k5,q3' W5 k5,lr,Aj KB,Aj VN,BJ,CM,Bt]
  refine AH (λhe=>?_) (λhe=>?_)
  ·have he:elemAt c i=0:=by simpa using he
   have hm:FL c i c[i] x.AL.length=decide (x.AL.length=(Al c i).length):=by unfold FL;rw[aac (by rw[←AGq];simpa using he)]
   refine AH (λhn=>?_) (λhn=>?_)
   ·have hn:¬(x.AL.length:Int)=(Al c i).length:=by simpa using hn
    exact leaf true _ rfl rfl rfl rfl rfl (λ_=>by rw[X4 hi hs,hm,decide_eq_false (by omega)];rfl) (λh=>by cases h)
   ·have hn:(x.AL.length:Int)=(Al c i).length:=by simpa using hn
    refine leaf (decide ((x.AL.length:Int)>200)) _ rfl rfl rfl rfl rfl (λh=>by have:=of_decide_eq_true h;omega) (λ_=>⟨i,c[i],hi,hs,by rw[hm];exact decide_eq_true (by omega)⟩)
  ·have he:elemAt c i≠0:=by simpa using he
   have hm:FL c i c[i] x.AL.length=decide (x.AL.length≤200):=by unfold FL;rw[aad (by rw[←AGq];exact he)]
   refine leaf (decide ((x.AL.length:Int)>200)) _ rfl rfl rfl rfl rfl (λh=>?_) (λh=>⟨i,c[i],hi,hs,?_⟩)
   ·have:=of_decide_eq_true h;rw[X4 hi hs,hm,decide_eq_false (by omega)];rfl
   ·have:=of_decide_eq_false h;rw[hm];exact decide_eq_true (by omega)
theorem s24:De prog 24=some 1:=by kernel_rfl
theorem yy:agg? prog 24=some false:=by kernel_rfl
structure AGr(W:CW)(b2 b3 r1 r2:Nat)(c:List AV)(h:List BC):Prop where
 k:Cells W b2 0 [.map (some r1),.map (some r2)]
 cat:FB W r1 r2 c
 h:∃a cap,W.cell b3 0=some (.slice a h.length cap)
theorem rK{c:List AV}{r1 r2 b2 b3:Nat}{x:BC}{h:List BC}{vx:Value}{W:CW}(ht:Ag W)(A:AGr W b2 b3 r1 r2 c h)(Aa:Az c=true)(hC:Ru c)(T6:At 1 (Eh W) vx x.AL)(hv:x.AL.length<100000)(Hs:h.length<1000000) :
  AX prog Bf 118 [.agg #[.string x.type,vx],.pointer (some ⟨b2,0,none⟩),.pointer (some ⟨b3,0,none⟩)] W (z_ (.bool (!A8 c x h.length)) W):=by
 refine AC3 ?_;rw[AC2];refine Fy LD ht λW0 k0 t0 z0 hB=>?_;have hB:Aq W0 W.sz 56 [.string x.type,vx]:=hB;obtain⟨a,cap,h3⟩:=A.h;have ep:Cells W0 b2 0 [.map (some r1),.map (some r2)]:=A.k.ext ht k0;rw[Bn (vs:=[.map (some r1),.map (some r2)]) (a:=⟨b2,0,none⟩) a78 U1 rfl (by omega) ep,Bn (vs:=[.string x.type,vx]) (a:=⟨W.sz,0,none⟩) gY LD rfl (by omega) hB.cells,AD yy (a:=⟨b3,0,none⟩) (k0.cell ht h3)];simp only[AA,Aj VT];refine Rt (AAP t0 (A.cat.kp ht k0) Aa hC (T6.imp λ_ _ _ hr=>hr.kp ht k0) hv Hs) λW1 k1 t1=>?_;simp only[AW,AA,l7];exact⟨rfl,k0.trans k1,t1⟩
theorem rL{c:List AV}{r1 r2 b2 b3:Nat}{v0:Value}{h:List BC}{W:CW}(ht:Ag W)(A:AGr W b2 b3 r1 r2 c h)(Aa:Az c=true)(hC:Ru c)(hh:At 2 (JC W) v0 h)(hv:∀x,x∈h→x.AL.length<100000)(Hs:h.length<1000000) :
  AX prog Bf 117 [v0,.func (.func 118) #[] #[.pointer (some ⟨b2,0,none⟩),.pointer (some ⟨b3,0,none⟩)]] W (z_ (.int .i64 (Jz h λx=>!A8 c x h.length)) W):=by
 refine AC1 ?_;rw[AC0];obtain⟨a,cap,rfl,A5⟩:=hh;simp only[Aj VT,AA];refine EZ (λi e ds W'=>Kp W W'∧Ag W'∧ds=[]∧e 0=.slice a h.length cap∧e 1=.func (.func 118) #[] #[.pointer (some ⟨b2,0,none⟩),.pointer (some ⟨b3,0,none⟩)]∧e 7=.int .i64 h.length∧e 8=.int .i64 i∧∀j x,j<i→h[j]?=some x→(!A8 c x h.length)=false) h.length ⟨.refl _,ht,rfl,rfl,rfl,rfl,rfl,by omega⟩ ?_;rintro i e ds W' hi ⟨k',t',rfl,h0,h1,h7,h8,Bw⟩;rw[AAC,h0,h1,h7,h8];simp only[Af,AA]
 refine Hx (λAo=>?_) (λJi=>?_)
 ·have hx:=ck Ao;obtain⟨p,rfl,hr⟩:=A5 i _ hx;obtain⟨u,hu,vx,rfl,T6⟩:=(hr.kp ht k').ld;rw[Ay VT LD Ao];simp only[AA,hu];obtain⟨ah,ch,h3⟩:=A.h;refine G5 Tryz.func118 (by kernel_rfl) (Rt (rK t' ⟨A.k.ext ht k',A.cat.kp ht k',ah,ch,k'.cell ht h3⟩ Aa hC T6 (hv _ (aaG Ao)) Hs) λW1 k1 t1=>?_)
  refine AH (λhq=>?_) (λhq=>?_)
  ·simp only[aZ,NP,Tm,IW,ey,dc,Xv];refine⟨?_,k'.trans k1,t1⟩;simp only[AG,↓reduceIte];rw[Lp Ao hq Bw]
  ·simp only[aZ,BI,IW];simp only[AG,AN,Nat.reduceEqDiff,↓reduceIte,h0,h1,h7,h8,AO,AA];refine⟨Ao,k'.trans k1,t1,trivial,trivial,trivial,trivial,by rw[Dy (by omega)],λj x hj Mh=>?_⟩
   rcases aaD.1 hj with h2|rfl
   ·exact Bw j x h2 Mh
   ·rw[hx]at Mh;cases Mh;exact hq
 ·simp only[BI,Oy,IJ,QV,aaA,dc,Xv];refine⟨?_,k',t'⟩;simp only[AG,↓reduceIte];rw[Jo λj x hj hx=>Bw j x (by omega) hx]
theorem wg{c:List AV}{r1 r2:Nat}{v1:Value}{h:List BC}{W:CW}(ht:Ag W)(Gk:FB W r1 r2 c)(Aa:Az c=true)(hC:Ru c)(hh:At 2 (JC W) v1 h)(hv:∀x,x∈h→x.AL.length<100000)(Hs:h.length<1000000) :
  AX prog Bf 84 [KH r1 r2,v1] W (z_ (.int .i64 (G8 c h)) W):=by
 refine AGQ ?_;rw[AGP];unfold KH;obtain⟨a,cap,rfl,_⟩:=id hh;refine Fy U1 ht λW0 k0 t0 z0 QJ=>?_;refine Fy s24 t0 λW1 k1 t1 z1 P_=>?_;have kk:=k0.trans k1;rw[AD yy (a:=⟨W0.sz,0,none⟩) (P_.cell rfl)];simp only[AA,Aj VT,Bt];unfold G8
 refine AH (λhg=>?_) (λhg=>?_)
 ·rw[aW,aad (by have:=of_decide_eq_true hg;omega)];exact⟨rfl,kk,t1⟩
 ·rw[aac (by have:=of_decide_eq_false hg;omega)];refine Rt (rL t1 ⟨(QJ.ext t0 k1).cells,Gk.kp ht kk,_,_,P_.cell rfl⟩ Aa hC (hh.imp λ_ _ _ hr=>hr.kp ht kk) hv Hs) λW2 k2 t2=>?_;rw[aW];exact⟨rfl,kk.trans k2,t2⟩
theorem iJ:Tryz.f49.results.toList=[.cell 6 78,.tmp 7]:=by kernel_rfl
def Kt(c:List AV)(h:List BC)(root:Int):Int:=if Az c then(if G8 c h≥0 then 211 else if root<0∨root>h.length then 1 else 0)else 210
def X5(c:List AV)(h:List BC)(root:Int)(W:CW):Ending→CW→Prop:=λe W'=>Kp W W'∧Ag W'∧∃r1 r2,e=.returned (.tuple #[KH r1 r2,.int .i64 (Kt c h root)])∧(Az c=true→FB W' r1 r2 c)
theorem FB.AGs{W W':CW}{r1 r2 b:Nat}{c:List AV}{u v:Value}(h:FB W r1 r2 c)(hu:Dn b W W')(hB:Aq W b 78 [u,v])(h1:∀k n,u≠.int k n∧v≠.int k n)(h2:∀s,u≠.string s∧v≠.string s):FB W' r1 r2 c:=by
 have uC:∀b' k k2 n,W.cell b' k=some (.int k2 n)→W'.cell b' k=some (.int k2 n):=λb' k k2 n hc=>by
  rw[hu.cell]
  ·exact hc
  ·rintro rfl;have:=hB.J8 hc
   match k,this with
   |0,this=>exact((h1 k2 n).1 (aa1 this)).elim
   |1,this=>exact((h1 k2 n).2 (aa1 this)).elim
 have jn:∀b' k s,W.cell b' k=some (.string s)→W'.cell b' k=some (.string s):=λb' k s hc=>by
  rw[hu.cell]
  ·exact hc
  ·rintro rfl;have:=hB.J8 hc
   match k,this with
   |0,this=>exact((h2 s).1 (aa1 this)).elim
   |1,this=>exact((h2 s).2 (aa1 this)).elim
 constructor
 ·obtain⟨m,m1,m2⟩:=h.sh;refine⟨m,m1.congr (hu.obj _ (abW (Bu hB m1))),λs=>?_⟩;have:=m2 s
  cases hi:Ah c s with
  |none=>rw[hi]at this;exact this
  |some i=>
   rw[hi]at this;obtain⟨w,x,h5,h6,vf,ab,lb,cb,h7,h8⟩:=this;exact⟨w,x,h5,h6,vf,ab,lb,cb,h7,h8.imp λ_ _ _ hr=>⟨jn _ _ _ hr.name,uC _ _ _ _ hr.kind,hr.lo,hr.hi⟩⟩
 ·obtain⟨m,m1,m2⟩:=h.rw;refine⟨m,m1.congr (hu.obj _ (abW (Bu hB m1))),λs=>?_⟩;have:=m2 s
  cases hi:Ah (c.take c.length) s with
  |none=>rw[hi]at this;exact this
  |some i=>
   rw[hi]at this;obtain⟨v,h5,h6⟩:=this;exact⟨v,h5,h6.imp λ_ _ _ hr=>uC _ _ _ _ hr⟩
theorem rM{v0 v1:Value}{c:List AV}{h:List BC}{root:Int}{W:CW}(ht:Ag W)(hc:At 5 (JZ W) v0 c)(hC:Ru c)(hh:At 2 (JC W) v1 h)(hv:∀x,x∈h→x.AL.length<100000)(Hs:h.length<1000000) :
  AX prog Bf 49 [v0,v1,.int .i64 root] W (X5 c h root W):=by
 refine AGI ?_;rw[AGH];obtain⟨a,cap,rfl,_⟩:=id hh;refine H' z78 U1 ht λW0 k0 t0 z0 Ms=>?_;have Ms:Aq W0 W.sz 78 [.map none,.map none]:=Ms;refine(N7 t0 (hc.imp λ_ _ _ hr=>hr.kp ht k0) hC).mono λen W1 ⟨k1,t1,r1,r2,FN,KE,Ty,Gk⟩=>?_;subst FN;simp only[BO,BV,BW,AA];unfold KH;refine DM (ws:=[.map (some r1),.map (some r2)]) z78 U1 rfl rfl rfl t1 λW4 k4 t4 z4 Sr=>?_;have AJY:=Ms.ext t0 (k1.trans k4);have rN:=(k0.trans k1).trans k4;generalize Hm:AQ prog Tryz.f49 (X5 c h root W)=K
 have Ei:∀W5,Kp W4 W5→Ag W5→(Az c=true→FB W5 r1 r2 c)→∀{K':Value→CW→Prop},(∀v W6,(∀e,e 6=.pointer (some ⟨W.sz,0,none⟩)→e 7=.int .i64 (Kt c h root)→K .ret e [] W6)→K' v W6)→
   wV (ld prog 78 (.pointer (some ⟨W1.sz,0,none⟩)) W5) λv=>wV (NK prog 78 (.pointer (some ⟨W.sz,0,none⟩)) v W5) (K' v):=by
  intro W5 k5 t5 od K' hK';rw[QK (Sr.ext t4 k5)];simp only[AA];have mK:=AJY.ext t4 k5;refine Fg U1 (a:=⟨W.sz,0,none⟩) rfl rfl mK (by simp) λW6 hu hB=>hK' _ W6 λe h6 h7=>?_;have hu:Dn W.sz W5 W6:=hu;have hB:Aq W6 W.sz 78 [.map (some r1),.map (some r2)]:=hB;rw[←Hm];refine J7 iJ h6 (QK hB) ?_;have hl:=mK.lt t5;refine⟨(rN.trans k5).A6 (aaf _) hu,t5.A6 hl hu,r1,r2,by rw[h7];rfl,λhc=>?_⟩;exact(od hc).AGs hu mK (λk n=>⟨nofun,nofun⟩) (λs=>⟨nofun,nofun⟩)
 simp only[AW,AA]
 cases Aa:Az c with
 |false=>
  simp only[aaY,BB];refine Ei W4 (.refl _) t4 (λh=>by rw[Aa]at h;cases h) λv W6 hr=>?_;simp only[LI,NP];exact hr _ rfl (by unfold Kt;rw[Aa];rfl)
 | true=>
  simp only[aav,AZ];have a8:=(Gk Aa).kp t1 k4;rw[QK Sr];simp only[AA];refine Rt (wg (v1:=.slice a h.length cap) t4 a8 Aa hC (hh.imp λ_ _ _ hr=>hr.kp ht rN) hv Hs) λW8 k8 t8=>?_;have iI:=a8.kp t4 k8;simp only[CC,AA]
  refine AH (λhw=>?_) (λhw=>?_)
  ·have hw:=of_decide_eq_true hw;refine Ei W8 k8 t8 (λ_=>iI) λv W6 hr=>?_;simp only[LI,NP];exact hr _ rfl (by unfold Kt;rw[Aa,aad rfl,aad hw];rfl)
  ·have hw:=of_decide_eq_false hw;simp only[Aj VT,AA];refine A4 (gZ _ _ _ _) ?_;simp only[AW,AA]
   refine AH (λhb=>?_) (λhb=>?_)
   ·refine Ei W8 k8 t8 (λ_=>iI) λv W6 hr=>?_;simp only[LI,NP];refine hr _ rfl ?_
    have:root<0∨root>h.length:=by
     by_cases h1:(0:Int)≤root
     ·right
      by_cases h2:root≤(h.length:Int)
      ·rw[decide_eq_true h1,decide_eq_true h2]at hb;cases hb
      ·omega
     ·left;omega
    unfold Kt;rw[Aa,aad rfl,aac hw,aad this];rfl
   ·have:¬(root<0∨root>h.length):=by
     rw[aa_,dy,decide_eq_true_eq,decide_eq_true_eq]at hb;omega
    simp only[LI,BI];simp only[AG,Nat.reduceEqDiff,↓reduceIte];refine Ei W8 k8 t8 (λ_=>iI) λv W6 hr=>?_;exact hr _ rfl (by unfold Kt;rw[Aa,aad rfl,aac hw,aac this];rfl)
end Go.Ce
