/- A part of the proof: Rn, Ro, Rp, Sa, Sb, Sc, Sd, Sf, Sg, Si, ShL4, Ed, Qt, ShE, Qu, Qv, Qw, Qx, Se, Sj, ShX, Xa, Xb, Xc, Sk, ShL6, Sl, Sm, Sn, Xd, ShU, ShT1, ShT, Tc, Ta, Td, Te, Tf, So, Tg, Tb, Th, Ti, Xe, Xf, Xg, Xh, ShV, ShV2, Ua, Ub, Uc, Ud, Va, Vb, Vc, Vd, Ue, Ve, ShY, Ya, Yb, Yq. -/
import Derived.Test.YtmknebebbbjdlaaGreatW02
import Derived.Test.YtmknebebbbjdlaaGreatW04
import Derived.Test.YtmknebebbbjdlaaGreatProg
set_option linter.unusedSectionVars false
set_option linter.unusedVariables false
set_option linter.unusedSimpArgs false
set_option linter.defProp false
set_option maxRecDepth 200000
namespace Go.Ce
open Go Go.Proofs Go.Proofs.Tryz
def GY(c:List AV)(l:List Bq)(s:ByteArray):Option Int:=if(Ah c s).isSome then(if(l.find? λx=>decide (x.type=s)).isSome then some 214 else none)else some 213
structure pF(A:CW)(bk br r1 r2 w r:Nat)(c:List AV)(l:List Bq):Prop where
 top:Ag A
 k:Aq A bk 78 [.map (some r1),.map (some r2)]
 rr:Aq A br 83 [.map (some w),.map (some r)]
 cat:FB A r1 r2 c
 w:PM Bq.type A w l
 rd:PM Bq.to A r l
theorem AHg:Hr prog 48=some AAG:=by kernel_rfl
theorem ic:De prog 48=some 5:=by kernel_rfl
theorem xX{A:CW}{bk br r1 r2 w r:Nat}{c:List AV}{l:List Bq}(I:pF A bk br r1 r2 w r c l):o6 A (.func (.func 75) #[] #[.pointer (some ⟨bk,0,none⟩),.pointer (some ⟨br,0,none⟩)]) (GY c l):=by
 intro s W K KP kA ht H0 df;refine G5 Tryz.func75 (by kernel_rfl) ?_;refine AF3 (v0:=.string s) (v1:=.pointer (some ⟨bk,0,none⟩)) (v2:=.pointer (some ⟨br,0,none⟩)) ?_;rw[AF2];have hk:=I.k.ext I.top kA;have hr:=I.rr.ext I.top kA;have Gk:=I.cat.kp I.top kA;simp only[Hl,AA];rw[AD wC (a:=⟨bk,0,none⟩) (hk.cell rfl)];simp only[AA];obtain⟨ws,fz,aN,hwo,_⟩:=X3 Gk.sh s;rw[fz];simp only[AA,BV,BW];refine DM (ws:=ws) AHg ic rfl hwo aN ht λW2 k2 t2 z2 hB=>?_
 refine Hn (λh1=>?_) (λh1=>?_)
 ·have Fq:=(I.w.kp I.top (kA.trans k2))
  obtain⟨ws2,PG,AKX,AKY⟩:=dh Fq s;simp only[V3,AA];rw[AD a81 (a:=⟨br,0,none⟩) ((hr.ext ht k2).cell rfl)];simp only[AA];rw[PG];simp only[AA,BV,BW];refine DM (ws:=ws2) tP jy rfl AKY AKX t2 λW5 k5 t5 z5 NR=>?_;simp only[AW,AA]
  refine Hn (λh2=>?_) (λh2=>?_)
  ·have h2:(l.find? λx=>decide (Bq.type x=s)).isSome=false:=by simpa using h2
   exact D0 (by kernel_rfl) _ _ (.inl rfl) _ _ (H0 (by unfold GY;rw[aad h1,aac (by rw[h2];simp)]) _ W5 (k2.trans k5) t5)
  ·have h2:(l.find? λx=>decide (Bq.type x=s)).isSome=true:=by simpa using h2
   exact df 214 (by unfold GY;rw[aad h1,aad h2]) W5 (k2.trans k5) t5
 ·exact df 213 (by unfold GY;rw[aac (by rw[h1];simp)]) W2 k2 t2
theorem bF{c:List AV}{l:List Bq}{s:ByteArray}(h:GY c l s=none):(Ah c s).isSome=true∧(l.find? λx=>decide (x.type=s))=none:=by
 unfold GY at h
 split at h
 ·rename_i h1
  split at h
  ·cases h
  ·rename_i h2;exact⟨h1,by simpa using h2⟩
 ·cases h
theorem T9{b:List UInt8}{ask:ByteArray→Option Int}(ha:∀s e,ask s=some e→e≠0):∀{k at_:Nat} {out:List ByteArray} {e:Int},FX b ask k at_ out=.error e→e≠0
 |0,at_,out,e,h=>by cases h
 | k+1,at_,out,e,h=>by
  unfold FX at h
  split at h
  ·rename_i hn;cases h;exact Gy hn
  ·split at h
   ·rename_i ht;cases h;rw[rk ht];decide
   ·split at h
    ·split at h
     ·rename_i hq;cases h;exact ha _ _ hq
     ·exact T9 ha h
    ·cases h;decide
where
 Gy {b:List UInt8} {at_:Nat} {m e:Int} (h:D7 b at_ m=.error e):e≠0:=by
  unfold D7 at h
  split at h
  ·rename_i hg;cases h;exact L8 hg
  ·split at h
   ·cases h
   ·cases h;decide
 L8 {b:List UInt8}:∀{f at_ n sh:Nat} {e:Int},Gw b f at_ n sh=.error e→e≠0
  |0,_,_,_,_,h=>by cases h;decide
  | f+1,at_,n,sh,e,h=>by
   unfold Gw at h
   split at h
   ·cases h;decide
   ·split at h
    ·split at h
     ·cases h
     ·cases h;decide
    ·exact L8 h
theorem Gy{b:List UInt8}{at_:Nat}{m e:Int}(h:D7 b at_ m=.error e):e≠0:=T9.Gy h
theorem T'{b:List UInt8}{c:List AV}{ix many:Nat}:∀{m k at_ fd:Nat} {vs:List Int} {e:Int},GN b c ix many m k at_ fd vs=.error e→e≠0
 |0,_,_,_,_,_,h=>by cases h
 | m+1,k,at_,fd,vs,e,h=>by
  unfold GN at h
  split at h
  ·split at h
   ·rename_i hn;cases h;exact Gy hn
   ·exact T' h
  ·split at h
   ·rename_i hn;cases h;exact Gy hn
   ·exact T' h
theorem YD{b:List UInt8}{c:List AV}{ts:List ByteArray}{many:Nat}:∀{m i at_ used fd:Nat} {out:List BC} {e:Int},Fm b c ts many m i at_ used fd out=.error e→e≠0
 |0,_,_,_,_,_,_,h=>by cases h
 | m+1,i,at_,used,fd,out,e,h=>by
  unfold Fm at h
  split at h
  ·split at h
   ·rename_i hn;cases h;exact Gy hn
   ·split at h
    ·cases h;decide
    ·split at h
     ·cases h;decide
     ·split at h
      ·rename_i hn
       cases h
       split at hn
       ·exact Gy hn
       ·cases hn
      ·split at h
       ·rename_i hv;cases h;exact T' hv
       ·exact YD h
  ·cases h;decide
theorem ie{b:List UInt8}{c:List AV}{ask:ByteArray→Option Int}(ha:∀s e,ask s=some e→e≠0){at_:Nat}{e:Int}(h:CA b c ask at_=.error e):e≠0:=by
 unfold CA at h
 split at h
 ·rename_i hh
  cases h
  unfold Ev at hh
  split at hh
  ·rename_i hn;cases hh;exact Gy hn
  ·split at hh
   ·split at hh
    ·rename_i hn;cases hh;exact Gy hn
    ·exact T9 ha hh
   ·cases hh;decide
 ·split at h
  ·rename_i hn;cases h;exact Gy hn
  ·split at h
   ·rename_i hg;cases h;exact YD hg
   ·split at h
    ·cases h
    ·cases h;decide
theorem xY{c:List AV}{l:List Bq}:∀s e,GY c l s=some e→e≠0:=by
 intro s e h;unfold GY at h
 split at h
 ·split at h
  ·cases h;decide
  ·cases h
 ·cases h;decide
theorem T_{b:List UInt8}{c:List AV}{ix many:Nat}:∀{m k at_ fd:Nat} {vs:List Int} {r:List Int×Nat×Nat},GN b c ix many m k at_ fd vs=.ok r→r.1.length=vs.length+m
 |0,_,_,_,_,_,h=>by cases h;rfl
 | m+1,k,at_,fd,vs,r,h=>by
  unfold GN at h
  split at h
  ·split at h
   ·cases h
   ·have:=T_ h;rw[this];simp;omega
  ·split at h
   ·cases h
   ·have:=T_ h;rw[this];simp;omega
def pG(c:List AV)(x:BC):Prop:=∃ix,Ah c x.type=some ix∧(elemAt c ix=0→x.AL.length=(Al c ix).length)
theorem YE{b:List UInt8}{c:List AV}{ts:List ByteArray}{many:Nat}:∀{m i at_ used fd:Nat} {out:List BC} {r:List BC×Nat×Nat×Nat},Fm b c ts many m i at_ used fd out=.ok r→(∀x,x∈out→pG c x)→∀x,x∈r.1→pG c x
 |0,_,_,_,_,_,_,h,ho=>by cases h;exact ho
 | m+1,i,at_,used,fd,out,r,h,ho=>by
  unfold Fm at h
  split at h
  ·split at h
   ·cases h
   ·split at h
    ·cases h
    ·rename_i ty _
     split at h
     ·cases h
     ·rename_i ix U3
      split at h
      ·cases h
      ·rename_i n a2 hn
       split at h
       ·cases h
       ·rename_i vs Gx a3 hv;refine YE h λx hx=>?_
        rcases aaB.1 hx with hx|hx
        ·exact ho x hx
        ·cases dx.1 hx
         refine⟨ix,U3,λhe=>?_⟩;rw[aac (by simp[he])]at hn
         cases hn
         have:=T_ hv
         simpa using this
  ·cases h
theorem ig{b:List UInt8}{c:List AV}{ask:ByteArray→Option Int}{at_:Nat}{r:List BC×Nat}(h:CA b c ask at_=.ok r):(∀x,x∈r.1→pG c x)∧r.1.length≤1000:=by
 unfold CA at h
 split at h
 ·cases h
 ·split at h
  ·cases h
  ·rename_i many a2 hn
   split at h
   ·cases h
   ·rename_i hg
    split at h
    ·cases h
     obtain⟨hm,_,_⟩:=GX hn;exact⟨YE hg (λx hx=>by cases hx),by have:=YF hg;simp at this;simp only;omega⟩
    ·cases h
where
 YF {b:List UInt8} {c:List AV} {ts:List ByteArray} {many:Nat}:∀{m i at_ used fd:Nat} {out:List BC} {r:List BC×Nat×Nat×Nat},Fm b c ts many m i at_ used fd out=.ok r→r.1.length=out.length+m
  |0,_,_,_,_,_,_,h=>by cases h;rfl
  | m+1,i,at_,used,fd,out,r,h=>by
   unfold Fm at h
   split at h
   ·split at h
    ·cases h
    ·split at h
     ·cases h
     ·split at h
      ·cases h
      ·split at h
       ·cases h
       ·split at h
        ·cases h
        ·rw[YF h];simp;omega
   ·cases h
def BdT(x:BC):Prop:=∀v,v∈x.AL→-9223372036854775808≤v∧v≤9223372036854775807
theorem YG{b:List UInt8}{c:List AV}{ix many:Nat}(hm:many≤1000):∀{m k at_ fd:Nat} {vs:List Int} {r:List Int×Nat×Nat},GN b c ix many m k at_ fd vs=.ok r→(∀v,v∈vs→-9223372036854775808≤v∧v≤9223372036854775807)→∀v,v∈r.1→-9223372036854775808≤v∧v≤9223372036854775807
 |0,_,_,_,_,_,h,hv=>by cases h;exact hv
 | m+1,k,at_,fd,vs,r,h,hv=>by
  unfold GN at h
  split at h
  ·split at h
   ·cases h
   ·rename_i n a hn;obtain⟨h1,_,_⟩:=GX hn;refine YG hm h λv ZD=>?_
    rcases aaB.1 ZD with hq|hq
    ·exact hv v hq
    ·rw[dx.1 hq];omega
  ·split at h
   ·cases h
   ·rename_i n a hn;obtain⟨h1,_,_⟩:=GX hn;refine YG hm h λv ZD=>?_
    rcases aaB.1 ZD with hq|hq
    ·exact hv v hq
    ·rw[dx.1 hq];unfold Zi;split<;>omega
theorem bG{b:List UInt8}{c:List AV}{ts:List ByteArray}{many:Nat}(hmn:many≤1000):∀{m i at_ used fd:Nat} {out:List BC} {r:List BC×Nat×Nat×Nat},Fm b c ts many m i at_ used fd out=.ok r→(∀x,x∈out→BdT x)→∀x,x∈r.1→BdT x
 |0,_,_,_,_,_,_,h,ho=>by cases h;exact ho
 | m+1,i,at_,used,fd,out,r,h,ho=>by
  unfold Fm at h
  split at h
  ·split at h
   ·cases h
   ·split at h
    ·cases h
    ·split at h
     ·cases h
     ·split at h
      ·cases h
      ·split at h
       ·cases h
       ·rename_i vs Gx a3 hv;refine bG hmn h λx hx=>?_
        rcases aaB.1 hx with hx|hx
        ·exact ho x hx
        ·cases dx.1 hx
         exact YG hmn hv (λv hv=>by cases hv)
  ·cases h
theorem ma{b:List UInt8}{c:List AV}{ask:ByteArray→Option Int}{at_:Nat}{r:List BC×Nat}(h:CA b c ask at_=.ok r):∀x,x∈r.1→BdT x:=by
 unfold CA at h
 split at h
 ·cases h
 ·split at h
  ·cases h
  ·rename_i many a2 hn
   split at h
   ·cases h
   ·rename_i hg
    split at h
    ·cases h
     obtain⟨hm,_,_⟩:=GX hn;exact bG (by omega) hg (λx hx=>by cases hx)
    ·cases h
theorem ik{mp vs z:List Int}(hz:∀v,v∈z→-9223372036854775808≤v∧v≤9223372036854775807)(hv:∀v,v∈vs→-9223372036854775808≤v∧v≤9223372036854775807):∀n v,v∈Gg mp vs z n→-9223372036854775808≤v∧v≤9223372036854775807
 |0,v,h=>hz v h
 | n+1,v,h=>by
  rw[Gg]at h
  rcases List.mem_or_eq_of_mem_set h with h|h
  ·exact ik hz hv n v h
  ·rw[h]
   cases hq:vs[n]? with
   |none=>rw[Option.getD_none];omega
   |some w=>rw[aK];exact hv w (aai hq)
theorem xZ{c:List AV}{l:List Bq}{x:BC}(h:BdT x):BdT (Bb c l x):=by
 unfold Bb
 split
 ·exact h
 ·split
  ·exact h
  ·exact ik (λv hv=>by rw[acH hv];omega) h _
theorem OB:∀(l:List (BC×Value)) (k:Nat),(l.flatMap Ho)[k]?=(l[k/2]?).bind λq=>(Ho q)[k%2]?
 |[],k=>by simp
 |q::l,0=>rfl
 |q::l,1=>rfl
 | q::l,k+2=>by
  have h:((q::l).flatMap Ho)[k+2]?=(l.flatMap Ho)[k]?:=by
   simp only[aas];rfl
  rw[h,OB l k,show(k+2)/2=k/2+1 by omega,show(k+2)%2=k%2 by omega];rfl
theorem xa{l:List (BC×Value)}{i:Nat}(hi:i<l.length)(q:BC×Value):putAt (l.flatMap Ho) (0+i*2) (Ho q)=(l.set i q).flatMap Ho:=by
 apply abq;intro k;have hl:=Ir l;have h2:(Ho q).length=2:=rfl;rw[Jm (by rw[hl,h2];omega),OB,OB,h2,abG]
 by_cases e:i=k/2
 ·rw[aad ⟨by omega,by omega⟩,aad e,aad hi];show _=(Ho q)[k%2]?;congr 1;omega
 ·rw[aac (by omega),aac e]
theorem r7{l:List Value}(h:l.Nodup){i:Nat}{x:Value}(hx:x∉l∨l[i]?=some x):(l.set i x).Nodup:=by
 rcases hx with hx|hx
 ·unfold List.Nodup at h ⊢;rw[List.pairwise_iff_getElem]at h ⊢;intro j k hj hk hjk;rw[abX]at hj hk;rw[List.getElem_set,List.getElem_set]
  split
  ·rw[aac (by omega)];exactλe=>hx (e▸aaG _)
  ·split
   ·exactλe=>hx (e▸aaG _)
   ·exact h j k hj hk hjk
 ·have:l.set i x=l:=by
   apply abq;intro k;rw[abG]
   split
   ·rename_i e;subst e;rw[aad (aaa.1 hx).1,hx]
   ·rfl
  rw[this];exact h
theorem YH{B:Nat}{W:CW}{v:Value}{ps:List (BC×Value)}(h:Fo B W v ps)(hb:∀p,p∈ps→BdT p.1):At 2 (JC W) v (ps.map (·.1)):=by
 have hl:=Ir ps;have y_:=h.pv;obtain⟨hO,_,_,_⟩:=h;generalize jn:ps.flatMap Ho=cs at hO hl
 cases hO with
 |nil=>
  have:ps=[]:=aaF.1 (by simp at hl;omega);subst this;exact⟨none,0,rfl,λi x hx=>by cases hx⟩
 | @some b0 len _ hB PG=>
  have kN:len=ps.length:=by omega
  refine⟨some ⟨b0,0,none⟩,len,by rw[aau,kN],λi x hx=>⟨_,rfl,?_⟩⟩;rw[aaK,aaw]at hx;obtain⟨p,hp,rfl⟩:=hx;have hpm:=aai hp;obtain⟨bv,h1,h2,_⟩:=y_ p hpm
  have hg:∀j,j<2→cs[i*2+j]?=(Ho p)[j]?:=λj hj=>by
   rw[←jn,OB,show(i*2+j)/2=i by omega,show(i*2+j)%2=j by omega,hp];rfl
  refine⟨?_,p.2,?_,?_⟩
  ·show W.cell b0 (0+i*2)=_;rw[aa0];exact hB.cell (hg 0 (by omega))
  ·show W.cell b0 (0+i*2+1)=_;rw[aa0];exact hB.cell (hg 1 (by omega))
  ·refine⟨some ⟨bv,0,none⟩,p.1.AL.length,h1,λj y hy=>⟨_,rfl,?_,hb p hpm y (aai hy)⟩⟩;show W.cell bv (0+j*1)=_;rw[show 0+j*1=j by omega];refine h2.cell ?_;unfold DO;rw[aaK,hy];rfl
theorem xc{A W:CW}{K:AB}{e:Env}{bk br VQ B r1 r2 w r:Nat}{vo:Value}{c:List AV}{l:List Bq}{ps:List (BC×Value)}(Q:pF A bk br r1 r2 w r c l)(hC:Ru c)(hs:BL c l=true)(Jb:∀s,s∈l→s.map.length<100000)(Oz:∀p,p∈ps→pG c p.1)(Zm:∀p,p∈ps→BdT p.1)(kN:ps.length≤1000)
  (kA:Kp A W) (t0:Ag W) (hAB:A.sz≤B) (rj:A.sz≤VQ) (AAd:Aq W VQ 24 [vo]) (hH:Fo B W vo ps)
  (g9:e 9=.pointer (some ⟨bk,0,none⟩)) (g11:e 11=.pointer (some ⟨br,0,none⟩)) (rX:e 12=.pointer (some ⟨VQ,0,none⟩)) (g37:e 37=vo) (g38:e 38=.int .i64 ps.length) (g39:e 39=.int .i64 0)
  (GR:∀e' W' qs,Kp A W'→Ag W'→Aq W' VQ 24 [vo]→Fo B W' vo qs→qs.map (·.1)=ps.map (λp=>Bb c l p.1)→e' 12=.pointer (some ⟨VQ,0,none⟩)→K (.exit 0) e' [] W') :
  Gi prog Bf none 19 56 (.loop (GB prog 19 0)) e [] W K:=by
 refine EZ (λi e' FG W'=>FG=[]∧Kp A W'∧Ag W'∧Aq W' VQ 24 [vo]∧e' 9=.pointer (some ⟨bk,0,none⟩)∧e' 11=.pointer (some ⟨br,0,none⟩)∧e' 12=.pointer (some ⟨VQ,0,none⟩)∧e' 37=vo∧e' 38=.int .i64 ps.length∧e' 39=.int .i64 i∧∃qs,qs.length=i∧Fo B W' vo (qs++ps.drop i)∧qs.map (·.1)=(ps.take i).map (λp=>Bb c l p.1)) ps.length
  ⟨rfl,kA,t0,AAd,g9,g11,rX,g37,g38,g39,[],rfl,hH,rfl⟩ ?_
 rintro i e' FG W' hi ⟨rfl,pE,t',xd,h9,e_,du,h37,h38,h39,qs,tc,hH',td⟩;rw[ACL,h37,h38,h39];simp only[Af,AA];refine Hx (λAo=>?_) (λJi=>?_)
 rotate_left
 ·have M0:i=ps.length:=by omega
  subst M0;simp only[QV];refine GR _ W' qs pE t' xd ?_ (by rw[td,abO]) (by simp only[AG,AN,Nat.reduceEqDiff,↓reduceIte,du])
  simpa using hH'
 ·have hp:=ck Ao;generalize hpp:ps[i]=p at hp;have hpm:p∈ps:=aai hp;have Nm:ps.drop i=p::ps.drop (i+1):=by rw[←hpp];exact ab5 Ao
  have mW:(qs++ps.drop i)[i]?=some p:=by rw[aay (by omega),tc,abB,Nm];rfl
  have nk:(qs++ps.drop i).length=ps.length:=by rw[aah,abN,tc];omega
  have OS:=Ir (qs++ps.drop i);obtain⟨bv,hv,wy,hBB⟩:=hH'.pv p (aai mW)
  obtain⟨b0,wN,QJ,ALv⟩:∃b0,vo=.slice (some ⟨b0,0,none⟩) ps.length ps.length∧Aq W' b0 56 ((qs++ps.drop i).flatMap Ho)∧B≤b0:=by
   have hO:=hH'.own;have hN:=hH'.new;generalize (qs++ps.drop i).flatMap Ho=cs at hO OS
   cases hO with
   |nil=>simp at OS;omega
   | @some b0 len _ hB hl=>
    have:len=ps.length:=by omega
    subst this;exact⟨b0,rfl,hB,hN _ _ _ rfl⟩
  subst wN;rw[Ay VT LD Ao];simp only[AA]
  have A5:Cells W' b0 (0+i*2) (Ho p):=λj v hj=>by
   have yn:j<2:=by have:=(aaa.1 hj).1;simpa[Ho]using this
   refine QJ.cell ?_;rw[OB,show(0+i*2+j)/2=i by omega,show(0+i*2+j)%2=j by omega,mW];exact hj
  rw[Bn (vs:=Ho p) (a:=⟨b0,0+i*2,none⟩) gY LD rfl (by omega) A5];simp only[AA];have Nb:(Ho p).all BG=true:=by unfold Ho;rw[hv];rfl
  refine DM (ws:=Ho p) z56 LD rfl Nb rfl t' λW2 k2 t2 z2 AHh=>?_;have X_:=pE.trans k2;have mb:=xd.ext t' k2;rw[du,e_,h9];rw[AD yy (a:=⟨VQ,0,none⟩) (mb.cell rfl),dg ((Q.rr.ext Q.top X_)),QK (Q.k.ext Q.top X_),Bn (vs:=Ho p) (a:=⟨W'.sz,0,none⟩) gY LD rfl (by omega) AHh.cells];simp only[AA];have AKZ:=wy.ext t' k2
  have T6:At 1 (Eh W2) p.2 p.1.AL:=by
   refine⟨some ⟨bv,0,none⟩,p.1.AL.length,hv,λj y hy=>⟨_,rfl,?_,Zm p hpm y (aai hy)⟩⟩;show W2.cell bv (0+j*1)=_;rw[show 0+j*1=j by omega];refine AKZ.cell ?_;unfold DO;rw[aaK,hy];rfl
  have hm:∀s,YC l p.1.type=some s→s.map.length≤p.1.AL.length∧∃t,Ah c s.type=some t∧∀m,m∈s.map→0≤m∧m.toNat<(Al c t).length:=by
   intro s I9;unfold YC at I9;have hto:s.to=p.1.type:=by simpa using List.find?_some I9
   obtain⟨j,hj⟩:=abS (ab3 I9);obtain⟨t,a,S⟩:=dT hs hj;obtain⟨ix,U3,Z7⟩:=Oz p hpm;rw[←hto,S.ai]at U3
   cases U3
   refine⟨by rw[Z7 S.ea,S.len];exact aaf _,t,S.ti,λm Sh=>?_⟩;obtain⟨k,hk⟩:=abS Sh;have oY:k<(Al c a).length:=by rw[←S.len];exact(aaa.1 hk).1
   obtain⟨n,NV,Nd,ak,_⟩:=S.map k oY;rw[hk]at NV
   cases NV
   omega
  refine(r6 (w:=w) (r:=r) (r1:=r1) (r2:=r2) t2 (Q.rd.kp Q.top X_) (Q.cat.kp Q.top X_) hC T6 hm Jb).mono λen W3 ⟨k3,t3,vv,FN,VY⟩=>?_;subst FN;refine AP ?_;have k23:=k2.trans k3;have kA3:=X_.trans k3;have AD7:=mb.ext t2 k3;have xe:=QJ.ext t' k23;rw[Ay VT LD Ao];simp only[AA];generalize hy:Bb c l p.1=y at VY
  have wX:(Ho (y,vv)).all BG=true:=by
   rcases VY with⟨rfl,_⟩|⟨bv2,rfl,_⟩
   ·unfold Ho;rw[hv];rfl
   ·rfl
  refine Fg LD (a:=⟨b0,0+i*2,none⟩) (ws:=Ho (y,vv)) wX rfl xe (by show 0+i*2+2≤_;rw[OS,nk];omega) λW4 hu4 L4=>?_;have hu4:Dn b0 W3 W4:=hu4
  have uR:(qs++ps.drop i).set i (y,vv)=(qs++[(y,vv)])++ps.drop (i+1):=by
   rw[Nm,List.set_append_right _ _ (by omega),tc,abB];simp
  have L4:Aq W4 b0 56 (((qs++[(y,vv)])++ps.drop (i+1)).flatMap Ho):=by
   rw[←uR,←xa (by rw[nk];exact Ao)];exact L4
  have AHi:VQ≠b0:=by
   rintro rfl;have:=Ba xd QJ;cases this
  have AKa:=xe.lt t3;have t4:=t3.A6 AKa hu4;have l15:∀W0,Kp W2 W0→ld prog 24 (.pointer (some ⟨VQ,0,none⟩)) W0=some (.slice (some ⟨b0,0,none⟩) ps.length ps.length):=λW0 k0=>AD yy (a:=⟨VQ,0,none⟩) ((mb.ext t2 k0).cell rfl);refine⟨by simp only[Bn (vs:=Ho p) (a:=⟨W'.sz,0,none⟩) gY LD rfl (by omega) AHh.cells,l15 W2 (.refl _),l15 W3 k3,dg ((Q.rr.ext Q.top X_)),QK (Q.k.ext Q.top X_),and_self],trivial,?_⟩;simp only[qh,BI,IW];simp only[AG,AN,Nat.reduceEqDiff,↓reduceIte,h39,AO,AA]
  have xg:∀{j:Nat} {ws:List Value},Aq W3 j 3 ws→Aq W4 j 3 ws:=λ{j ws} hB=>hB.congr (hu4.obj j (by
   rintro rfl
   have:=Ba hB xe;cases this))
  refine⟨Ao,trivial,kA3.A6 (by omega) hu4,t4,AD7.congr (hu4.obj _ AHi),?_,?_,?_,?_,?_,?_,qs++[(y,vv)],by simp[tc],⟨?_,hH'.new,λq hq=>?_,?_⟩,?_⟩
  ·simp only[h9]
  ·simp only[e_]
  ·simp only[du]
  ·simp only[h37]
  ·simp only[h38]
  ·rw[Dy (by omega)]
  ·refine C'.some L4 ?_;rw[Ir,←uR,abX,nk]
  ·have old:∀q,q∈qs++ps.drop i→∃bv,q.2=.slice (some ⟨bv,0,none⟩) q.1.AL.length q.1.AL.length∧Aq W4 bv 3 (DO q.1.AL)∧B≤bv:=λq hq=>by
    obtain⟨bq,h1,h2,h3⟩:=hH'.pv q hq;exact⟨bq,h1,xg (h2.ext t' k23),h3⟩
   rw[aaO]at hq
   rcases aaB.1 hq with hq|hq
   ·exact old q (ab6 _ hq)
   ·rcases aaB.1 hq with hq|hq
    ·cases dx.1 hq
     rcases VY with⟨h1,h2⟩|⟨bv2,h1,h2,h3⟩
     ·refine⟨bv,?_,?_,hBB⟩
      ·show vv=_;rw[h1,hv];show _=Value.slice _ y.AL.length y.AL.length;rw[h2]
      ·show Aq W4 bv 3 (DO y.AL);rw[h2];exact xg (wy.ext t' k23)
     ·have:=k2.sz;have:=N5 t' hH'.own (⟨_,_,_,rfl,rfl⟩:Bh (.slice (some ⟨b0,0,none⟩) ps.length ps.length) b0);exact⟨bv2,h1,xg h2,by omega⟩
    ·exact old q (List.mem_append_right _ (by rw[Nm];exact abP _ hq))
  ·rw[←uR,List.map_set];refine r7 hH'.nd ?_
   rcases VY with⟨h1,_⟩|⟨bv2,h1,_,h3⟩
   ·right;rw[aaK,mW,h1];rfl
   ·left;intro hm;obtain⟨q,hq,he⟩:=aaU.1 hm;obtain⟨bq,g1,g2,_⟩:=hH'.pv q hq;have hl:=g2.lt t';have:=k2.sz;have he:q.2=vv:=he;rw[g1,h1]at he;have e2:bq=bv2:=by injection he with e1;injection e1 with e1;injection e1
    omega
  ·rw[aa5,td,aaX,hp,aa5,←hy];rfl
theorem AKb:Hr prog 24=some (.slice none 0 0):=by kernel_rfl
theorem Fo.low{B B':Nat}{W:CW}{v:Value}{ps:List (BC×Value)}(h:Fo B W v ps)(hB:B'≤B):Fo B' W v ps:=⟨h.own,λb l c e=>by have:=h.new b l c e;omega,λp hp=>by
 obtain⟨bv,h1,h2,h3⟩:=h.pv p hp
 exact⟨bv,h1,h2,by omega⟩,h.nd⟩
def J'(c:List AV)(l:List Bq)(b:List UInt8):List BC×Int×Int :=
 if Az c=false then([],0,210)else if BL c l=false then([],0,212)else if 100000<b.length then([],0,2)else match CA b c (GY c l) 0 with
 | .error e=>([],0,e)
 | .ok (xs,_)=>(xs.map (Bb c l),min (xs.length:Int) 1,0)
def il(r:List BC×Int×Int)(W:CW):Ending→CW→Prop:=λen W'=>Kp W W'∧Ag W'∧∃v qs,en=.returned (.tuple #[v,.int .i64 r.2.1,.int .i64 r.2.2])∧Fo W.sz W' v qs∧qs.map (·.1)=r.1∧∀q,q∈qs→BdT q.1
structure Zj(A:CW)(vb:Value)(b:List UInt8):Prop where
 sl:∃a cap,vb=.slice a b.length cap∧b.length≤cap∧∀i x,b[i]?=some x→∃p,a=some p∧Lo A p.block (p.off+i*1) x
theorem Zj.kp{A W:CW}{vb:Value}{b:List UInt8}(h:Zj A vb b)(ht:Ag A)(k:Kp A W):Zj W vb b:=by
 obtain⟨a,cap,h1,h2,h3⟩:=h.sl
 exact⟨a,cap,h1,h2,λi x hx=>by
  obtain⟨p,q1,q2⟩:=h3 i x hx
  exact⟨p,q1,k.cell ht q2⟩⟩
theorem AAe{A W:CW}{bk br r1 r2 w r VQ rb:Nat}{vb:Value}{b:List UInt8}{c:List AV}{l:List Bq}(Q:pF A bk br r1 r2 w r c l)(I:dt A vb b)(h:Rd A W rb vb 0)(AAd:Aq W VQ 24 [.slice none 0 0])(hAb:A.sz≤VQ)(Dg:VQ≠rb)(Aa:Az c=true)(hC:Ru c){K:Value→CW→Prop}{KP:List PanicEntry→CW→Prop}
  (hk:∀W' v xs Ej ps,CA b c (GY c l) 0=.ok (xs,Ej)→Bm (λj=>j=rb∨j=VQ) W W'→Ag W'→Aq W' VQ 24 [v]→Fo W.sz W' v ps→ps.map (·.1)=xs→K (.tuple #[]) W')
  (hp:∀W' x,CA b c (GY c l) 0=.error x→Bm (ZZ rb) W W'→Ag W'→KP (DT x) W') :
  Dt prog Bf (.func (.func 73) #[] #[.pointer (some ⟨bk,0,none⟩),.pointer (some ⟨br,0,none⟩),.pointer (some ⟨VQ,0,none⟩)]) [.pointer (some ⟨rb,0,none⟩)] W K KP:=by
 refine G5 Tryz.func73 (by kernel_rfl) ?_;refine AFz (v0:=.pointer (some ⟨rb,0,none⟩)) (v1:=.pointer (some ⟨bk,0,none⟩)) (v2:=.pointer (some ⟨br,0,none⟩)) (v3:=.pointer (some ⟨VQ,0,none⟩)) ?_;rw[AFy];rw[QK (Q.k.ext Q.top h.kp)];simp only[AA];refine(iX (c:=c) I h (aa7 _) (xX Q) (λs hs=>(bF hs).1) Q.cat Aa hC).mono λen W1 ⟨k1,t1,hr⟩=>?_
 cases LP:CA b c (GY c l) 0 with
 |error x=>
  rw[LP]at hr;simp only at hr;subst hr;exact hp W1 x LP k1 t1
 |ok r=>
  obtain⟨xs,Ej⟩:=r;rw[LP]at hr;obtain⟨v,FN,⟨ps,h1,h2⟩,_⟩:=hr;subst FN;refine AP ?_;have P_:=k1.IA h.top (b:=VQ) Dg AAd;refine Ac s24 (a:=⟨VQ,0,none⟩) (v:=v) (Ml h2.own) P_ (by simp) λW2 hu Ey=>?_;have hu:Dn VQ W1 W2:=hu;have hl:=AAd.lt h.top;refine D0 (by kernel_rfl) _ _ (.inl rfl) _ _ (hk W2 v xs Ej ps LP ⟨by rw[hu.sz];exact k1.sz,λj hj hS=>?_⟩ (t1.A6 (P_.lt t1) hu) Ey (h2.of λj o hj ho _=>by rw[hu.obj j (by omega)];exact ho) h1);rw[hu.obj j (λe=>hS (.inr e)),k1.obj j hj (λe=>hS (.inl e))]
theorem UA{v0 v1 vb:Value}{c:List AV}{l:List Bq}{b:List UInt8}{W:CW}(ht:Ag W)(hc:At 5 (JZ W) v0 c)(hC:Ru c)(hl:At 3 (XV W) v1 l)(nk:l.length<100000)(Jb:∀s,s∈l→s.map.length<100000)(hb:Zj W vb b) :
  AX prog Bf 19 [v0,v1,vb] W (il (J' c l b) W):=by
 refine AFw ?_;rw[AFv];generalize Hm:AQ prog Tryz.f19 (il (J' c l b) W)=KK
 have Ei:∀(e':Env) W' v n m qs,Kp W W'→Ag W'→e' 6=v→e' 7=.int .i64 n→e' 8=.int .i64 m→Fo W.sz W' v qs→(∀q,q∈qs→BdT q.1)→J' c l b=(qs.map (·.1),n,m)→KK .ret e' [] W':=by
  intro e' W' v n m qs k t h6 h7 h8 hH Zm hn;rw[←Hm,qi,h6,h7,h8,hn];exact⟨k,t,v,qs,rfl,hH,rfl,Zm⟩
 have LZ:∀W',Fo W.sz W' (.slice none 0 0) []:=λW'=>⟨C'.nil,BZ.nil _ _ _,λp hp=>(by cases hp),ack⟩
 refine(N7 ht hc hC).mono λen W1 ⟨k1,t1,r1,r2,FN,KE,Ty,Gk⟩=>?_;subst FN;refine AP ?_;refine Ad (BV _ _) ?_;refine Ad (BW _ _) ?_;unfold KH;refine DM (ws:=[.map (some r1),.map (some r2)]) z78 U1 rfl rfl rfl t1 λW3 k3 t3 z3 hB9=>?_;have mc:=k1.trans k3;simp only[AW,AA]
 cases Aa:Az c with
 |false=>
  simp only[aaY,BB];exact Ei _ W3 _ 0 210 [] mc t3 rfl rfl rfl (LZ _) (λq hq=>by cases hq) (by unfold J';rw[aad Aa];rfl)
 | true=>
  simp only[aav,AZ];have PN:=(Gk Aa).kp t1 k3;rw[QK hB9];simp only[AA];refine(iF t3 PN hC (hl.imp λ_ _ _ hr=>hr.kp ht mc) nk Jb).mono λen W4 ⟨k4,t4,w,r,FN,I9⟩=>?_;subst FN;refine AP ?_;refine Ad (BV _ _) ?_;refine Ad (BW _ _) ?_;refine DM (ws:=[.map (some w),.map (some r)]) z83 wR rfl rfl rfl t4 λA k7 tA z7 ADJ=>?_;have k3A:=k4.trans k7;have ox:=mc.trans k3A;simp only[AW,AA]
  cases hs:BL c l with
  |false=>
   simp only[aaY,BB];exact Ei _ A _ 0 212 [] ox tA rfl rfl rfl (LZ _) (λq hq=>by cases hq) (by unfold J';rw[aac (by rw[Aa];simp),aad hs];rfl)
  | true=>
   simp only[aav,AZ];obtain⟨hsw,zQ⟩:=I9 hs;have Q:pF A W1.sz W4.sz r1 r2 w r c l:=⟨tA,hB9.ext t3 k3A,ADJ,PN.kp t3 k3A,hsw.kp t4 k7,zQ.kp t4 k7⟩
   have hbA:=hb.kp ht ox;refine H' AKb s24 tA λT k8 tT zT rj=>?_;have rj:Aq T A.sz 24 [.slice none 0 0]:=rj;obtain⟨a,cap,ew,Ie,rE⟩:=hbA.sl;rw[ew]
   have LN:J' c l b=(if 100000<b.length then([],0,2)else match CA b c (GY c l) 0 with
    | .error e=>([],0,e)
    | .ok (xs,_)=>(xs.map (Bb c l),min (xs.length:Int) 1,0)):=by
    unfold J';rw[aac (by rw[Aa];simp),aac (by rw[hs];simp)]
   have qO:∀x,CA b c (GY c l) 0=.error x→x≠0:=λx=>ie xY;have hTn:Kp A T:=k8
   refine(YB (Q:=λen W'=>Kp A W'∧Ag W'∧∃x,en=.returned (.int .i64 x)∧((x≠0∧J' c l b=([],0,x))∨(x=0∧∃v xs Ej ps,J' c l b=(xs.map (Bb c l),min (xs.length:Int) 1,0)∧CA b c (GY c l) 0=.ok (xs,Ej)∧Aq W' A.sz 24 [v]∧Fo A.sz W' v ps∧ps.map (·.1)=xs))) tT (λS9 W' k t=>⟨k8.trans k,t,2,rfl,.inl ⟨by decide,by rw[LN,aad S9]⟩⟩) (λTo W0 k t hz hBe hBr=>?_)).mono λen W' ⟨kk,tt,x,FN,VY⟩=>?_
   ·have hkA:=k8.trans k
    have AHj:J' c l b=(match CA b c (GY c l) 0 with
     | .error e=>([],0,e)
     | .ok (xs,_)=>(xs.map (Bb c l),min (xs.length:Int) 1,0)):=by rw[LN,aac (by omega)]
    have I:dt A (.slice a b.length cap) b:=⟨tA,⟨a,cap,rfl,Ie,rE⟩,To⟩
    have R:Rd A W0 (T.sz+1) (.slice a b.length cap) 0:=⟨hkA,t,by omega,hBr⟩
    refine AAe Q I R (rj.ext tT k) (aaf _) (by omega) Aa hC (λW3 v xs Ej ps LP Ic t3 Fk hH3 wF=>?_) (λW4 x LP Ic t4=>?_)
    ·refine⟨t3,Ic.IA t (λh=>by omega) hBe,λW' hu t'=>⟨⟨?_,λj hj=>?_⟩,t',0,rfl,.inr ⟨rfl,v,xs,Ej,ps,?_,LP,?_,?_,wF⟩⟩⟩
     ·have h1:=hkA.sz;have h2:=Ic.sz;have h3:=hu.sz;omega
     ·have h1:=hkA.sz;have h2:=Ic.sz;rw[hu.obj j (by omega) (by omega),Ic.obj j (by omega) (λh=>by omega),hkA.obj j hj]
     ·rw[AHj,LP]
     ·exact Fk.congr (hu.obj _ (Fk.lt t3) (by omega))
     ·exact(hH3.of λj o hj ho _=>by rw[hu.obj j (t3 _ _ ho) (by omega)];exact ho).low hkA.sz
    ·refine⟨x,rfl,t4,Ic.IA t (λh=>by have:T.sz=T.sz+1:=h;omega) hBe,λW' hu t'=>⟨⟨?_,λj hj=>?_⟩,t',x,rfl,.inl ⟨qO x LP,by rw[AHj,LP]⟩⟩⟩
     ·have h1:=hkA.sz;have h2:=Ic.sz;have h3:=hu.sz;omega
     ·have h1:=hkA.sz;have h2:=Ic.sz;rw[hu.obj j (by omega) (by omega),Ic.obj j (by omega) (λh=>by have:j=T.sz+1:=h;omega),hkA.obj j hj]
   ·subst FN;refine AP ?_;simp only[CM,AA]
    rcases VY with⟨hx,hr⟩|⟨rfl,v,xs,Ej,ps,hr,LP,hB,hH,wF⟩
    ·rw[show(x !=0)=true by simpa using hx,BB];exact Ei _ W' _ 0 x [] (ox.trans kk) tt rfl rfl rfl (LZ _) (λq hq=>by cases hq) hr
    ·rw[show((0:Int) !=0)=false from rfl,AZ];rw[AD yy (a:=⟨A.sz,0,none⟩) (hB.cell rfl)];simp only[AA];obtain⟨Oz,NB⟩:=ig LP;have Zm:=ma LP;subst wF;rw[aau]at NB
     have hlen:Kw prog 24 v W'=some (.int .i64 ps.length):=by
      have:=Ir ps;exact JG VT hH.own (by omega) (by omega)
     rw[hlen];simp only[AA];refine xc (c:=c) (l:=l) (ps:=ps) Q hC hs Jb (λp hp=>Oz _ (ab_ hp)) (λp hp=>Zm _ (ab_ hp)) NB kk tt (aaf _) (aaf _) hB hH rfl rfl rfl rfl rfl rfl (λe' W2 qs X_ t2 Ey hH2 td du=>?_);simp only[qg,BI,Oy,IJ];rw[du];have PG:ld prog 24 (.pointer (some ⟨A.sz,0,none⟩)) W2=some v:=AD yy (a:=⟨A.sz,0,none⟩) (Ey.cell rfl);rw[PG]
     have tc:qs.length=ps.length:=by
      have:=ab8 List.length td
      simpa using this
     have AHk:Kw prog 24 v W2=some (.int .i64 qs.length):=by
      have:=Ir qs;exact JG VT hH2.own (by omega) (by omega)
     simp only[AA];rw[AHk];simp only[AA];rw[pB];simp only[vS];refine⟨by simp only[PG,and_self],trivial,?_⟩;refine Ei _ W2 v (min (qs.length:Int) 1) 0 qs (ox.trans X_) t2 rfl rfl rfl (hH2.low (by have:=ox.sz;omega)) (λq hq=>?_) (by rw[hr,ada,td,aau,tc];rfl);have:q.1∈ps.map (λp=>Bb c l p.1):=by rw[←td];exact ab_ hq
     obtain⟨p,hp,he⟩:=aaU.1 this;rw[←he];exact xZ (Zm _ (ab_ hp))
def bI(b:List UInt8):List Int:=b.map λx=>((x.toNat:Nat):Int)
theorem LL(b:List UInt8):(bI b).length=b.length:=aau _
structure YI(b:List UInt8)(i j:Nat)(e:List Int):Prop where
 le:j≤b.length
 ij:j=i+e.length
 eq:(bI b).drop i=e++(bI b).drop j
theorem YI.split{b:List UInt8}{i k:Nat}{e f:List Int}(h:YI b i k (e++f)):∃j,YI b i j e∧YI b j k f:=by
 have hl:=h.ij;have hle:=h.le;rw[aah]at hl
 have hd:(bI b).drop (i+e.length)=f++(bI b).drop k:=by
  rw[←acA,h.eq,aaO,List.drop_left]
 exact⟨i+e.length,⟨by omega,rfl,by rw[h.eq,hd,aaO]⟩,⟨h.le,by omega,hd⟩⟩
theorem YI.head{b:List UInt8}{i k:Nat}{n:Int}{f:List Int}(h:YI b i k (n::f)):∃x,b[i]?=some x∧n=((x.toNat:Nat):Int)∧YI b (i+1) k f:=by
 have hl:=h.ij;have hle:=h.le;rw[aap]at hl;have H2:i<b.length:=by omega
 have he:=h.eq;unfold bI at he;rw[←acZ,ab5 H2,abr,aci]at he
 injection he with h1 h2
 refine⟨b[i],ck H2,h1.symm,⟨hle,by omega,?_⟩⟩;unfold bI;rw[←acZ];exact h2
theorem V7{n:Nat}(h:n<128):CD n=[(n:Int)]:=by unfold CD;rw[aad h]
theorem AAf{n:Nat}(h:128≤n):CD n=((n%128+128:Nat):Int)::CD (n/128):=by
 conv=>lhs;unfold CD
 rw[aac (by omega)]
theorem pH{b:List UInt8}:∀{f at_ n sh v j:Nat},0<f→v<128^f→(0<v∨sh=0)→YI b at_ j (CD v)→Gw b f at_ n sh=.ok (n+v*2^sh,j)
 | f+1,at_,n,sh,v,j,_,h,h0,hs=>by
  unfold Gw
  by_cases hv:v<128
  ·rw[V7 hv]at hs;obtain⟨x,hx,he,hq⟩:=hs.head;have:v=x.toNat:=by omega
   subst this;rw[hx];simp only[aad hv];rw[aad h0];have:=hq.ij;rw[aaP]at this;rw[this]
  ·rw[AAf (by omega)]at hs;obtain⟨x,hx,he,hq⟩:=hs.head;have:v%128+128=x.toNat:=by omega
   rw[hx];simp only;rw[aac (by omega),pH (Nat.pos_of_ne_zero (by rintro rfl;omega)) (by rw[Nat.pow_succ]at h;omega) (.inl (by omega)) hq,show x.toNat%128=v%128 by omega];congr 2;rw[ade,show(2:Nat)^7=128 from rfl,acF (2^sh) 128,←Nat.mul_assoc,Nat.add_assoc,←abu];congr 2;omega
theorem IY{b:List UInt8}{at_:Nat}{m:Int}{n j:Nat}(h:YI b at_ j (CD n))(hm:(n:Int)≤m)(hn:n<4398046511104):D7 b at_ m=.ok (n,j):=by
 unfold D7;rw[pH (f:=6) (n:=0) (sh:=0) (by omega) (by omega) (.inr rfl) h];simp only[aa0,Nat.pow_zero,ac2];rw[aad hm]
inductive Is(c:List AV)(ix many:Nat):Nat→Nat→List Int→Nat→Prop
 |nil (k fd:Nat):Is c ix many k fd [] fd
 |ref {k fd v:Nat} {vs:List Int} {Gx:Nat} (hk:A0 c ix k=2) (hv:v≤min (fd+1) many) (h:Is c ix many (k+1) (max fd v) vs Gx):Is c ix many k fd ((v:Int)::vs) Gx
 |word {k fd:Nat} {v:Int} {vs:List Int} {Gx:Nat} (hk:A0 c ix k≠2) (h1:-1000000000≤v) (h2:v≤1000000000) (h:Is c ix many (k+1) fd vs Gx):Is c ix many k fd (v::vs) Gx
def O0(c:List AV)(ix:Nat):Nat→List Int→List Int
 |_,[]=>[]
 |k,v::vs=>(if A0 c ix k=2 then CD v.toNat else CD (Lv v).toNat)++O0 c ix (k+1) vs
theorem xh(v:Int):Zi (Lv v).toNat=v:=by
 unfold Lv Zi;split<;>split<;>omega
theorem AAg{v:Int}(h1:-1000000000≤v)(h2:v≤1000000000):(Lv v).toNat≤2000000000:=by
 unfold Lv;split<;>omega
theorem xi{b:List UInt8}{c:List AV}{ix many:Nat}(hm:many≤1000){k fd Gx:Nat}{new:List Int}(h:Is c ix many k fd new Gx):∀{at_ j:Nat} {vs:List Int},YI b at_ j (O0 c ix k new)→GN b c ix many new.length k at_ fd vs=.ok (vs++new,Gx,j):=by
 induction h with
 |nil k fd=>
  intro at_ j vs hs;have:=hs.ij;rw[show O0 c ix k []=[]from rfl]at this;rw[this,aaR];rfl
 | @ref k fd v vs' Gx hk hv h ih=>
  intro at_ j vs hs;rw[O0,aad hk,abg]at hs;obtain⟨a,h1,h2⟩:=hs.split;rw[aap,GN,aad hk,IY h1 (by omega) (by omega)];simp only;rw[ih h2];simp
 | @word k fd v vs' Gx hk cV TB h ih=>
  intro at_ j vs hs;rw[O0,aac hk]at hs;obtain⟨a,h1,h2⟩:=hs.split;have:=AAg cV TB;rw[aap,GN,aac hk,IY h1 (by omega) (by omega)];simp only;rw[ih h2,xh];simp
theorem r8{ts:List ByteArray}(hn:ts.Nodup){t:Nat}{s:ByteArray}(h:ts[t]?=some s):Jz ts (λx=>decide (x=s))=t:=by
 obtain⟨hl,he⟩:=aaa.1 h;refine Lp hl (by rw[he];simp) λj x hj hx=>?_;obtain⟨Y4,hje⟩:=aaa.1 hx
 have:x≠s:=by
  rintro rfl;have:=(List.getElem_inj hn).1 (hje.trans he.symm);omega
 simpa using this
inductive ES(c:List AV)(ts:List ByteArray)(many:Nat):Nat→Nat→Nat→List BC→Nat→Nat→Prop
 |nil (i u f:Nat):ES c ts many i u f [] u f
 |cons {i u f:Nat} {x:BC} {xs:List BC} {t ix f1 u' f':Nat} (hi:i<f) (ht:ts[t]?=some x.type) (Zr:t≤u) (hx:Ah c x.type=some ix) (hn:if elemAt c ix≠0 then x.AL.length≤200 else x.AL.length=(Al c ix).length) (hv:Is c ix many 0 f x.AL f1) (h:ES c ts many (i+1) (if t=u then u+1 else u) f1 xs u' f'):ES c ts many i u f (x::xs) u' f'
def JP(c:List AV)(ts:List ByteArray)(x:BC):List Int:=match Ah c x.type with
 |some i=>CD (Jz ts λy=>decide (y=x.type)).toNat++(if elemAt c i≠0 then CD x.AL.length else[])++O0 c i 0 x.AL
 |none=>[]
theorem r9{b:List UInt8}{c:List AV}{ts:List ByteArray}{many:Nat}(hm:many≤1000)(ZM:ts.Nodup)(Xq:ts.length≤100){i u f u' f':Nat}{new:List BC}(h:ES c ts many i u f new u' f'):∀{at_ j:Nat} {out:List BC},YI b at_ j (new.flatMap (JP c ts))→Fm b c ts many new.length i at_ u f out=.ok (out++new,u',f',j):=by
 induction h with
 |nil i u f=>
  intro at_ j out hs;have:=hs.ij;rw[show List.flatMap (JP c ts) []=[]from rfl]at this;rw[this,aaR];rfl
 | @cons i u f x xs t ix f1 u' f' hi ht Zr hx hn hv h ih=>
  intro at_ j out hs;rw[aas]at hs;obtain⟨a3,hs,Oq⟩:=hs.split;unfold JP at hs;rw[hx]at hs;obtain⟨a2,hs,hsv⟩:=hs.split;obtain⟨a1,D1,qC⟩:=hs.split;have ALw:=(aaa.1 ht).1;rw[r8 ZM ht]at D1;have D1:YI b at_ a1 (CD t):=D1;rw[aap,Fm,aad hi,IY D1 (by omega) (by omega)];simp only;rw[ht];simp only;rw[hx];simp only
  have Nd:(if elemAt c ix≠0 then D7 b a1 200 else .ok ((Al c ix).length,a1))=.ok (x.AL.length,a2):=by
   split
   ·rename_i he;rw[aad he]at hn qC;exact IY qC (by omega) (by omega)
   ·rename_i he;rw[aac he]at hn qC;have:=qC.ij;rw[hn,this];rfl
  rw[Nd];simp only;rw[xi hm hv hsv];simp only;rw[ih Oq];simp
theorem me(l:List UInt8):(strOf l).size=l.length:=by
 unfold strOf;show l.toArray.size=_;simp
theorem im(s:ByteArray):strOf (sb s)=s:=by
 unfold strOf sb;simp
theorem YI.bytes{b:List UInt8}{a j:Nat}{l:List UInt8}(h:YI b a j (bI l)):(b.drop a).take l.length=l∧a+l.length=j∧j≤b.length:=by
 have h1:=h.ij;rw[LL]at h1;refine⟨?_,h1.symm,h.le⟩
 have he:((bI b).drop a).take l.length=bI l:=by
  rw[h.eq,List.take_append_of_le_length (by rw[LL];omega),aaS (by rw[LL];omega)]
 unfold bI at he;rw[←acZ,←List.map_take]at he
 have AKc:∀(x y:List UInt8),x.map (λx=>((x.toNat:Nat):Int))=y.map (λx=>((x.toNat:Nat):Int))→x=y:=by
  intro x y K_;refine List.map_inj_right (f:=λx:UInt8=>((x.toNat:Nat):Int)) (λp q hpq=>?_)|>.1 K_;exact ac1.1 (Int.ofNat.inj hpq)
 exact AKc _ _ he
theorem YJ{b:List UInt8}{ask:ByteArray→Option Int}:∀{new:List ByteArray} {at_ j:Nat} {out:List ByteArray},(∀s,s∈new→Dj s=true∧ask s=none)→(out++new).Nodup→YI b at_ j (new.flatMap Hi)→FX b ask new.length at_ out=.ok (out++new,j)
 |[],at_,j,out,_,_,hs=>by
  have:=hs.ij;rw[show List.flatMap Hi []=[]from rfl]at this;rw[this,aaR];rfl
 | s::new,at_,j,out,hn,ZM,hs=>by
  rw[aas]at hs;obtain⟨a2,hs,Oq⟩:=hs.split;unfold Hi at hs;obtain⟨a1,h1,h2⟩:=hs.split;obtain⟨hsy,dr⟩:=hn s (by simp)
  have Hs:s.size≤60:=by
   unfold Dj at hsy;simp only[dy,decide_eq_true_eq]at hsy;omega
  have hb:JD s=bI (sb s):=rfl;rw[hb]at h2;obtain⟨q1,q2,q3⟩:=h2.bytes;have hl:(sb s).length=s.size:=by rw[←me,im]
  rw[hl]at q1 q2;have hS:strOf ((b.drop a1).take s.size)=s:=by rw[q1,im]
  rw[aap,FX,IY h1 (by omega) (by omega)];simp only;rw[HL,aad (by omega)];simp only
  have zX:(out.any λx=>decide (x=s))=false:=by
   refine abU.2 λx hx=>?_;have:=(acv.1 ZM).2.2 x hx s (by simp)
   simpa using this
  rw[hS,aad ⟨hsy,zX⟩,dr];rw[q2,YJ (λx hx=>hn x (by simp[hx])) (by simpa using ZM) Oq];simp
structure Canon(c:List AV)(ask:ByteArray→Option Int)(ts:List ByteArray)(xs:List BC):Prop where
 tsl:ts.length≤100
 sym:∀s,s∈ts→Dj s=true∧ask s=none
 nodup:ts.Nodup
 len:xs.length≤1000
 scan:ES c ts xs.length 0 0 (min xs.length 1) xs ts.length xs.length
def FM(c:List AV)(ts:List ByteArray)(xs:List BC):List Int:=[1]++CD ts.length++ts.flatMap Hi++CD xs.length++xs.flatMap (JP c ts)
theorem YI.all{b:List UInt8}{e:List Int}:YI b 0 b.length e↔bI b=e:=by
 constructor
 ·intro h;have:=h.eq;rw[abI,acn (by rw[LL];omega),aaR]at this;exact this
 ·rintro rfl;refine⟨by omega,by rw[LL];omega,?_⟩;rw[abI,acn (by rw[LL];omega),aaR]
theorem bH{c:List AV}{l:List Bq}(h:BL c l=true){i:Nat}{s:Bq}(hs:l[i]?=some s):IX l s i=false∧∀k,k<l.length→Mo l s i k=false:=by
 unfold BL at h;simp only[dy,aaC]at h;have hb:=DS h.2 (aaa.1 hs).1;unfold Tt at hb;rw[hs]at hb;simp only at hb
 split at hb
 ·simp only[aaz]at hb;exact⟨hb.1.2,λk hk=>DS hb.2.1 hk⟩
 ·cases hb
theorem xj{c:List AV}{l:List Bq}(h:BL c l=true):∀(k j:Nat) (x y:Bq),j<k→l[j]?=some x→l[k]?=some y→Hu (sb x.type) (sb y.type)=true:=by
 intro k
 induction k with
 |zero=>intro j x y hj;omega
 |succ k ih=>
  intro j x y hj hx hy;have hp:=(bH h hy).1;unfold IX at hp;have oY:k<l.length:=by have:=(aaa.1 hy).1;omega
  have hz:=ck oY;simp only[hz,aa_]at hp
  rcases aaD.1 hj with h1|rfl
  ·exact GV _ _ _ (ih j x _ h1 hx hz) hp
  ·rw[hx]at hz;cases hz;exact hp
theorem r_{c:List AV}{l:List Bq}(h:BL c l=true){s:Bq}(hs:s∈l):Ip l s.type=some s:=by
 obtain⟨i,hi,he⟩:=abQ.1 hs;have Jr:=ck hi;rw[he]at Jr
 have:=vg (l:=l) (s:=s.type) hi (by rw[he];simp) (λj hj=>by
  have Y4:j<l.length:=by omega
  have hj':=ck Y4;rw[hj'];have Ao:=xj h i j _ _ hj hj' Jr;simp only[abd,aag,decide_eq_false_iff_not];intro e
  rw[e,Mr]at Ao;cases Ao)
 rw[this,he]
theorem ABk{c:List AV}{l:List Bq}(h:BL c l=true){s x:Bq}(hs:s∈l)(hx:x∈l):x.type≠s.to:=by
 obtain⟨i,hi,he⟩:=abQ.1 hs;obtain⟨k,hk,hke⟩:=abQ.1 hx;have Jr:=ck hi;rw[he]at Jr;have:=(bH h Jr).2 k hk;unfold Mo at this;rw[ck hk,hke]at this;simp only[aaz,decide_eq_false_iff_not]at this;exact this.1
theorem sA{l:List Bq}{s:ByteArray}{x:Bq}(h:YC l s=some x):x∈l∧x.to=s:=⟨ab3 h,by simpa using List.find?_some h⟩
theorem sB{mp:List Int}{k:Nat}{n:Int}(h:Ts mp k n=false){j:Nat}(hj:j<k):mp[j]?≠some n:=by
 have:=DS h hj
 simpa using this
theorem YK{mp vs z:List Int}(M0:∀(k:Nat) m,mp[k]?=some m→0≤m∧m.toNat<z.length)(hd:∀(k j:Nat) m,j<k→mp[k]?=some m→mp[j]?≠some m):∀n,n≤mp.length→∀(j:Nat) m,j<n→mp[j]?=some m→(Gg mp vs z n)[m.toNat]?=some ((vs[j]?).getD 0)
 |0,_,j,m,hj,_=>by omega
 | n+1,hn,j,m,hj,hm=>by
  have LO:n<mp.length:=by omega
  have hx:=ck LO;have hb:=M0 n _ hx;have O6:=M0 j _ hm;rw[Gg,hx,abc,abG]
  by_cases e:n=j
  ·subst e;rw[hx]at hm
   cases hm
   rw[aad rfl,aad (by rw[L7];exact hb.2)]
  ·have hjn:j<n:=by omega
   have Dg:mp[n]≠m:=λe'=>hd n j m hjn (by rw[hx,e']) hm;rw[aac (by omega)];exact YK M0 hd n (by omega) j m hjn hm
theorem bJ{mp vs z:List Int}(M0:∀(k:Nat) m,mp[k]?=some m→0≤m){i:Nat}(hi:∀m,m∈mp→m.toNat≠i):∀n,n≤mp.length→(Gg mp vs z n)[i]?=z[i]?
 |0,_=>rfl
 |n+1,hn=>by
  have LO:n<mp.length:=by omega
  have hx:=ck LO;rw[Gg,hx,abc,abG,aac (hi _ (aai hx))];exact bJ M0 hi n (by omega)
structure WIs(c:List AV)(l:List Bq)(x:BC)(many ix:Nat):Prop where
 ti:Ah c x.type=some ix
 ask:Ip l x.type=none
 n:if elemAt c ix≠0 then x.AL.length≤200 else x.AL.length=(Al c ix).length
 val:∀(k:Nat) v,x.AL[k]?=some v→Hj (A0 c ix k) v many=true
theorem AAh{c:List AV}{s:Bq}{t a:Nat}(S:ABa c s t a):(∀(k:Nat) m,s.map[k]?=some m→0≤m∧m.toNat<(Al c t).length)∧∀(k j:Nat) m,j<k→s.map[k]?=some m→s.map[j]?≠some m:=by
 constructor
 ·intro k m hk;obtain⟨n,h1,h2,h3,_⟩:=S.map k (by rw[←S.len];exact(aaa.1 hk).1);rw[hk]at h1;cases h1;omega
 ·intro k j m hj hk;obtain⟨n,h1,_,_,_,h5⟩:=S.map k (by rw[←S.len];exact(aaa.1 hk).1);rw[hk]at h1;cases h1;exact sB h5 hj
theorem WIs.back{c:List AV}{l:List Bq}{x:BC}{many ix:Nat}(h:WIs c l x many ix)(hs:BL c l=true):AM l (Bb c l x)=x∧A8 c (Bb c l x) many=true∧YC l (Bb c l x).type=none:=by
 have H2:=DI h.ti
 cases hto:YC l x.type with
 |none=>
  have hb:Bb c l x=x:=by unfold Bb;rw[hto]
  rw[hb];refine⟨by unfold AM;rw[h.ask],?_,hto⟩;refine Xp (i:=ix) (s:=c[ix]) ⟨h.ti,ck H2,?_,h.val⟩;have hn:=h.n;unfold elemAt at hn;rw[ck H2]at hn;unfold FL;simp only at hn
  split
  ·rename_i he;rw[aad he]at hn;simpa using hn
  ·rename_i he;rw[aac he]at hn;simpa using hn
 | some s=>
  obtain⟨aw,D1⟩:=sA hto;obtain⟨j,hj⟩:=abS aw;obtain⟨t,a,S⟩:=dT hs hj;have jz:a=ix:=by have h1:=S.ai;rw[D1,h.ti]at h1;exact(aa1 h1).symm
  subst jz;obtain⟨M0,hd⟩:=AAh S;have hn:=h.n;rw[aac (by rw[S.ea];simp)]at hn;have Xq:=DI S.ti
  have hb:Bb c l x=⟨s.type,Gg s.map x.AL (List.replicate (Al c t).length 0) s.map.length⟩:=by
   unfold Bb;rw[hto];simp only;rw[S.ti]
  rw[hb];have AHl:∀(k:Nat) m,s.map[k]?=some m→0≤m∧m.toNat<(List.replicate (Al c t).length (0:Int)).length:=λk m hk=>by rw[acs];exact M0 k m hk
  have hlen:s.map.length=x.AL.length:=by rw[S.len,hn]
  refine⟨?_,?_,?_⟩
  ·unfold AM;show(match Ip l s.type with|some s=>_|none=>_)=x;rw[r_ hs aw]
   cases x with
   | mk ty vs=>
    simp only at D1 hlen ⊢;rw[D1];congr 1;apply abq;intro k;rw[aaK]
    cases hk:s.map[k]? with
    |none=>
     have:=List.getElem?_eq_none_iff.1 hk;rw[ab1 (by omega)];rfl
    |some m=>
     have oY:=(aaa.1 hk).1;show some (Ls _ m)=_;unfold Ls;rw[YK AHl hd s.map.length (aaf _) k m oY hk,ck (by omega)];rfl
  ·refine Xp (i:=t) (s:=c[t]) ⟨S.ti,ck Xq,?_,λk v hk=>?_⟩
   ·have het:=S.et;unfold elemAt at het;rw[ck Xq]at het;unfold FL;rw[aac (by simpa using het)];refine decide_eq_true ?_;show(Gg _ _ _ _).length=_;rw[L7,acs]
   ·have hk:(Gg s.map x.AL (List.replicate (Al c t).length 0) s.map.length)[k]?=some v:=hk
    by_cases hq:∃m,m∈s.map∧m.toNat=k
    ·obtain⟨m,hm,za⟩:=hq;obtain⟨j,VE⟩:=abS hm;have Y4:=(aaa.1 VE).1;have:=YK (vs:=x.AL) AHl hd s.map.length (aaf _) j m Y4 VE;rw[za,hk,ck (by omega)]at this
     cases this
     have hv:=h.val j _ (ck (by omega));obtain⟨n,h1,_,_,h4,_⟩:=S.map j (by rw[←S.len];exact Y4);rw[VE]at h1;cases h1;rw[J6 S.ea H2]at hv;rw[J6 S.et Xq,←za,h4];exact hv
    ·rw[bJ (λk m hk=>(M0 k m hk).1) (λm hm e=>hq ⟨m,hm,e⟩) _ (aaf _)]at hk
     have:v=0:=by
      have:=aai hk;exact acH this
     subst this;unfold Hj;simp
  ·show YC l s.type=none;unfold YC;rw[abZ];intro y hy;have:=ABk hs hy aw
   simpa usingλe=>this e.symm
def iota(n:Nat):List Int:=(List.range n).map λk=>((k:Nat):Int)+1
theorem YL(n:Nat):(iota n).length=n:=by simp[iota]
theorem bK(n:Nat):iota (n+1)=iota n++[((n:Nat):Int)+1]:=by simp[iota,List.range_succ]
theorem iq{n k:Nat}(h:k<n):(iota n)[k]?=some (((k:Nat):Int)+1):=by simp[iota,h]
theorem YM{n:Nat}{v:Int}:v∈iota n↔1≤v∧v≤n:=by
 unfold iota;rw[aaU]
 constructor
 ·rintro⟨k,hk,rfl⟩;have:=aaV.1 hk;omega
 ·rintro⟨h1,h2⟩;exact⟨(v-1).toNat,aaV.2 (by omega),by omega⟩
theorem mf{n:Nat}{v:Nat}(h:v≤n):placeOf (iota n) v=v:=by
 rcases abM v with rfl|hp
 ·exact Jc λhm=>by have:=YM.1 hm;omega
 ·have hf:(iota n).findIdx? (λx=>decide (x=(v:Int)))=some (v-1):=by
   rw[aaq]
   have hg:∀k (hk:k<(iota n).length),(iota n)[k]=((k:Nat):Int)+1:=λk hk=>by
    have:=iq (n:=n) (k:=k) (by rw[←YL n];exact hk);rw[ck hk]at this;exact aa1 this
   refine⟨by rw[YL];omega,by rw[hg];simp;omega,λj hj=>?_⟩;rw[hg];simp;omega
  unfold placeOf;rw[hf];simp only;omega
theorem mg{f v:Nat}(h:v≤f+1):visit (iota f) v=iota (max f v):=by
 unfold visit
 by_cases h0:v=0
 ·subst h0;rw[aac (by omega),Nat.max_eq_left (by omega)]
 ·by_cases hv:v=f+1
  ·subst hv;rw[aad ⟨by omega,λhm=>by have:=YM.1 hm;omega⟩,Nat.max_eq_right (by omega),bK];simp
  ·rw[aac (λh=>h.2 (YM.2 (by omega))),Nat.max_eq_left (by omega)]
def Ee(g:Nat→Int→List Int):Nat→List Int→List Int
 |_,[]=>[]
 |k,v::vs=>g k v++Ee g (k+1) vs
theorem YN(g:Nat→Int→List Int)(v:Int):∀(vs:List Int) (k:Nat),Ee g k (vs++[v])=Ee g k vs++g (k+vs.length) v
 |[],k=>by simp[Ee]
 |u::vs,k=>by
  rw[aci,Ee,YN g v vs (k+1),Ee,aaO,aap];congr 2;congr 1;omega
theorem d_{g:Nat→Int→List Int}{vs:List Int}{T:Nat→List Int}(h0:T 0=[])(h1:∀n v,vs[n]?=some v→T (n+1)=T n++g n v):∀n,n≤vs.length→T n=Ee g 0 (vs.take n)
 |0,_=>by rw[h0,acO];rfl
 |n+1,hn=>by
  have hx:=ck (show n<vs.length by omega);rw[h1 n _ hx,d_ h0 h1 n (by omega),aaX,hx,abw,YN,aaI,Nat.min_eq_left (by omega),aa0]
def QO(c:List AV)(ix k:Nat)(v:Int):List Int:=if A0 c ix k=2 then[v]else[]
theorem bL(c:List AV)(i:Nat)(vs:List Int):Eu c i vs vs.length=Ee (QO c i) 0 vs:=by
 rw[d_ (T:=Eu c i vs) (g:=QO c i) rfl (λn v hv=>by rw[Eu,hv];rfl) vs.length (aaf _),abO]
theorem bM(c:List AV)(o:List Int)(i:Nat)(vs:List Int):Fj c o i vs vs.length=Ee (λk v=>Tv o (A0 c i k) v) 0 vs:=by
 rw[d_ (T:=Fj c o i vs) (g:=λk v=>Tv o (A0 c i k) v) rfl (λn v hv=>by rw[Fj,hv]) vs.length (aaf _),abO]
theorem Is.fold{c:List AV}{ix many k fd Gx:Nat}{vs:List Int}(h:Is c ix many k fd vs Gx):(Ee (QO c ix) k vs).foldl visit (iota fd)=iota Gx∧fd≤Gx∧(fd≤many→Gx≤many):=by
 induction h with
 |nil=>exact⟨rfl,aaf _,id⟩
 | @ref k fd v vs Gx hk hv h ih=>
  obtain⟨h1,h2,h3⟩:=ih;refine⟨?_,by omega,λhf=>h3 (by omega)⟩;rw[Ee,acL,QO,aad hk];show(Ee _ _ _).foldl visit (visit (iota fd) (v:Int))=_;rw[mg (by omega)];exact h1
 | @word k fd v vs Gx hk cV TB h ih=>
  obtain⟨h1,h2,h3⟩:=ih;refine⟨?_,h2,h3⟩;rw[Ee,QO,aac hk];exact h1
theorem Is.val{c:List AV}{ix many k fd Gx:Nat}{vs:List Int}(h:Is c ix many k fd vs Gx):∀(j:Nat) v,vs[j]?=some v→Hj (A0 c ix (k+j)) v many=true:=by
 induction h with
 |nil=>intro j v hv;simp at hv
 | @ref k fd v vs Gx hk hv h ih=>
  intro j w hw
  cases j with
  |zero=>
   cases hw
   unfold Hj;rw[aa6,hk];simp;omega
  |succ j=>
   have:=ih j w hw;rw[show k+(j+1)=k+1+j by omega];exact this
 | @word k fd v vs Gx hk cV TB h ih=>
  intro j w hw
  cases j with
  |zero=>
   cases hw
   unfold Hj;rw[aa6];simp[hk];omega
  |succ j=>
   have:=ih j w hw;rw[show k+(j+1)=k+1+j by omega];exact this
theorem Is.enc{c:List AV}{ix many k fd Gx:Nat}{vs:List Int}(h:Is c ix many k fd vs Gx):Ee (λk v=>Tv (iota many) (A0 c ix k) v) k vs=O0 c ix k vs:=by
 induction h with
 |nil=>rfl
 | @ref k fd v vs Gx hk hv h ih=>
  rw[Ee,O0,ih,Tv,aad hk,aad hk,mf (by omega),abg]
 | @word k fd v vs Gx hk cV TB h ih=>
  rw[Ee,O0,ih,Tv,aac hk,aac hk]
theorem ES.search{c:List AV}{ts:List ByteArray}{many i u f u' f':Nat}{xs:List BC}{refs:Int→List Int}(h:ES c ts many i u f xs u' f')(hr:∀(j:Nat) x,xs[j]?=some x→refs (((i+j:Nat):Int)+1)=refsOf c x):CN refs xs.length (iota f) i=iota f':=by
 induction h with
 |nil=>rfl
 | @cons i u f x xs t ix f1 u' f' hi ht Zr hx hn hv h ih=>
  rw[aap,CN,iq hi];simp only;have h0:=hr 0 x rfl;rw[aa6]at h0;rw[h0]
  have:refsOf c x=Ee (QO c ix) 0 x.AL:=by
   unfold refsOf;rw[hx];exact bL c ix x.AL
  rw[this,hv.fold.1]
  exact ih λj y hy=>by
   have:=hr (j+1) y hy;rw[show i+1+j=i+(j+1) by omega];exact this
theorem ES.types{c:List AV}{ts:List ByteArray}(ZM:ts.Nodup){many i u f u' f':Nat}{xs:List BC}(h:ES c ts many i u f xs u' f'):xs.foldl (λt x=>BS t x.type) (ts.take u)=ts.take u':=by
 induction h with
 |nil=>rfl
 | @cons i u f x xs t ix f1 u' f' hi ht Zr hx hn hv h ih=>
  rw[abe];obtain⟨Xq,hte⟩:=aaa.1 ht
  have:BS (ts.take u) x.type=ts.take (if t=u then u+1 else u):=by
   unfold BS
   by_cases e:t=u
   ·subst e
    rw[aad rfl,aac,aaX,ht]
    ·rfl
    ·intro ha;obtain⟨y,hy,hye⟩:=aaH.1 ha;have hye:y=x.type:=of_decide_eq_true hye;subst hye;obtain⟨j,hj⟩:=abS hy;rw[aaW]at hj
     split at hj
     ·rename_i hjt;obtain⟨Y4,hje⟩:=aaa.1 hj;have:=(List.getElem_inj ZM).1 (hje.trans hte.symm);omega
     ·cases hj
   ·rw[aac e,aad];refine aaH.2 ⟨x.type,aai (i:=t) ?_,by simp⟩;rw[aaW,aad (by omega),ht]
  rw[this];exact ih
theorem ES.wis{c:List AV}{l:List Bq}{ts:List ByteArray}(AAi:∀s,s∈ts→GY c l s=none){many i u f u' f':Nat}{xs:List BC}(h:ES c ts many i u f xs u' f'):∀x,x∈xs→∃ix,WIs c l x many ix∧EF c ts (iota many) x=JP c ts x:=by
 induction h with
 |nil=>intro x hx;cases hx
 | @cons i u f x xs t ix f1 u' f' hi ht Zr hx hn hv h ih=>
  intro y hy
  rcases aaE.1 hy with rfl|hy
  ·refine⟨ix,⟨hx,(bF (AAi _ (aai ht))).2,hn,λk v hk=>?_⟩,?_⟩
   ·have:=hv.val k v hk;rw[aa0]at this;exact this
   ·unfold EF JP;rw[hx];simp only;rw[bM,hv.enc]
  ·exact ih y hy
theorem ir(h:List BC):AJ h (iota h.length)=h:=by
 have key:∀n,n≤h.length→AJ h (iota n)=h.take n:=by
  intro n
  induction n with
  |zero=>intro _;rfl
  | succ n ih=>
   intro hn
   have e:AJ h (iota (n+1))=AJ h (iota n)++AJ h [((n:Nat):Int)+1]:=by
    unfold AJ;rw[bK,aa4]
   rw[e,ih (by omega),aaX];congr 1;unfold AJ;simp
 rw[key _ (aaf _),abO]
structure AD8(c:List AV)(l:List Bq)(ts:List ByteArray)(xs:List BC):Prop where
 ask:Ja c l (xs.map (Bb c l)) (min (xs.length:Int) 1)=0
 found:Au c l (xs.map (Bb c l)) (min (xs.length:Int) 1)=iota xs.length
 bad:PL l (xs.map (Bb c l)) (iota xs.length)=false
 types:C3 l (AJ (xs.map (Bb c l)) (iota xs.length))=ts
 bytes:EV c l (xs.map (Bb c l)) (iota xs.length)=FM c ts xs
theorem iu{c:List AV}{l:List Bq}{ts:List ByteArray}{xs:List BC}(Aa:Az c=true)(hs:BL c l=true)(h:Canon c (GY c l) ts xs):AD8 c l ts xs:=by
 have hw:=h.scan.wis (l:=l) λs hs=>(h.sym s hs).2;have hlen:(xs.map (Bb c l)).length=xs.length:=aau _
 have LP:AJ (xs.map (Bb c l)) (iota xs.length)=xs.map (Bb c l):=by
  rw[←hlen];exact ir _
 have xk:∀x,x∈xs→AM l (Bb c l x)=x:=λx hx=>by
  obtain⟨ix,hi,_⟩:=hw x hx;exact(hi.back hs).1
 have Tu:C3 l (xs.map (Bb c l))=ts:=by
  have h1:=h.scan.types h.nodup;rw[abO,acO]at h1;unfold C3;rw[List.foldl_map]
  have key:∀(ys:List BC) (t:List ByteArray),(∀x,x∈ys→x∈xs)→ys.foldl (λt x=>BS t (AM l (Bb c l x)).type) t=ys.foldl (λt x=>BS t x.type) t:=by
   intro ys
   induction ys with
   |nil=>intro t _;rfl
   |cons y ys ih=>
    intro t hy;rw[abe,abe,xk y (hy y (by simp)),ih _ λx hx=>hy x (by simp[hx])]
  rw[key xs [] λx hx=>hx];exact h1
 have M0:G8 c (xs.map (Bb c l))<0:=by
  unfold G8;have:=h.len;rw[aac (by rw[hlen];omega)]
  have hf:(xs.map (Bb c l)).findIdx? (λx=>!A8 c x (xs.map (Bb c l)).length)=none:=by
   rw[aaL];intro y hy;obtain⟨x,hx,rfl⟩:=aaU.1 hy;obtain⟨ix,hi,_⟩:=hw x hx;have h1:=(hi.back hs).2.1;rw[hlen,h1];rfl
  unfold Jz;rw[hf];simp
 refine⟨?_,?_,?_,?_,?_⟩
 ·unfold Ja PK;rw[Aa,hs];simp only[aaA];rw[aac (by simp),aac (by omega),aac];rw[hlen];omega
 ·unfold Au
  have D1:start (min (xs.length:Int) 1)=iota (min xs.length 1):=by
   unfold start
   by_cases h0:xs.length=0
   ·rw[h0];rfl
   ·rw[aad (by omega),show min (xs.length:Int) 1=1 by omega,show min xs.length 1=1 by omega];rfl
  rw[D1,hlen];refine h.scan.search λj x hx=>?_;unfold Gf;rw[show(((0+j:Nat):Int)+1-1).toNat=j by omega,aaK,hx];simp only[abd];rw[xk x (aai hx)]
 ·unfold PL;rw[LP];refine abU.2 λy hy=>?_;obtain⟨x,hx,rfl⟩:=aaU.1 hy;obtain⟨ix,hi,_⟩:=hw x hx;have h1:=(hi.back hs).2.2;unfold YC at h1;rw[abZ]at h1;have:(l.any λs=>decide (s.to=(Bb c l x).type))=false:=abU.2 λs Oq=>h1 s Oq;rw[this];simp
 ·rw[LP,Tu]
 ·unfold EV FM;rw[LP,Tu,YL];congr 1;rw[acV]
  have key:∀(ys:List BC),(∀x,x∈ys→x∈xs)→ys.flatMap (λx=>EF c ts (iota xs.length) (AM l (Bb c l x)))=ys.flatMap (JP c ts):=by
   intro ys
   induction ys with
   |nil=>intro _;rfl
   |cons y ys ih=>
    intro hy;obtain⟨ix,_,he⟩:=hw y (hy y (by simp));rw[aas,aas,xk y (hy y (by simp)),he,ih λx hx=>hy x (by simp[hx])]
  exact key xs λx hx=>hx
theorem sC(o:List Int)(v:Int):o<+: visit o v:=by
 unfold visit
 split
 ·exact List.prefix_append _ _
 ·exact acj _
theorem YO:∀(vs o:List Int),o<+: vs.foldl visit o
 |[],o=>acj _
 |v::vs,o=>(sC o v).trans (YO vs _)
theorem Mu(refs:Int→List Int):∀(m:Nat) (o:List Int) (n:Nat),o<+: CN refs m o n
 |0,o,_=>acj _
 |m+1,o,n=>by
  unfold CN
  split
  ·exact acj _
  ·exact(YO _ _).trans (Mu refs m _ _)
theorem YP{n:Nat}:∀(vs o:List Int),Found o n→(∀v,v∈vs→v≤n)→Found (vs.foldl visit o) n
 |[],o,h,_=>h
 |v::vs,o,h,hv=>YP vs _ (h.visit (hv v (by simp))) λw hw=>hv w (by simp[hw])
theorem SC{refs:Int→List Int}{n:Nat}(hr:∀v w,w∈refs v→w≤n):∀(m:Nat) (o:List Int) (k:Nat),Found o n→Found (CN refs m o k) n
 |0,o,_,h=>h
 |m+1,o,k,h=>by
  unfold CN
  split
  ·exact h
  ·exact SC hr m _ _ (YP _ _ h λw hw=>hr _ w hw)
theorem bN{o O:List Int}(h:o<+: O){v:Int}(hv:v∈o):placeOf O v=placeOf o v:=by
 obtain⟨r,rfl⟩:=h;unfold placeOf;rw[acX]
 cases hf:o.findIdx? (λx=>decide (x=v))with
 |some i=>rfl
 |none=>
  rw[aaL]at hf;have:=hf v hv;simp at this
theorem mh{o:List Int}{v:Int}:placeOf o v≤o.length:=(QF o v).2
def VR(c:List AV)(ix:Nat)(O:List Int):Nat→List Int→List Int
 |_,[]=>[]
 |k,v::vs=>(if A0 c ix k=2 then placeOf O v else v)::VR c ix O (k+1) vs
theorem YQ{c:List AV}{ix:Nat}{O:List Int}:∀(vs:List Int) (k:Nat),(VR c ix O k vs).length=vs.length
 |[],_=>rfl
 |v::vs,k=>by rw[VR,aap,aap,YQ vs]
theorem iv{c:List AV}{ix:Nat}{O:List Int}:∀(vs:List Int) (k:Nat),Ee (λk v=>Tv O (A0 c ix k) v) k vs=O0 c ix k (VR c ix O k vs)
 |[],_=>rfl
 |v::vs,k=>by
  rw[Ee,VR,O0,iv vs (k+1),Tv]
  by_cases hk:A0 c ix k=2
  ·simp only[aad hk]
  ·simp only[aac hk]
theorem QP{c:List AV}{ix:Nat}{O:List Int}(h0:(0:Int)∉O):∀(vs:List Int) (k:Nat) (o:List Int),(∀(j:Nat) v,vs[j]?=some v→A0 c ix (k+j)=2→0≤v)→(∀(j:Nat) v,vs[j]?=some v→A0 c ix (k+j)≠2→-1000000000≤v∧v≤1000000000)→(Ee (QO c ix) k vs).foldl visit o<+: O→Is c ix O.length k o.length (VR c ix O k vs) ((Ee (QO c ix) k vs).foldl visit o).length
 |[],k,o,_,_,_=>.nil _ _
 | v::vs,k,o,h1,h2,hp=>by
  have n1:∀(j:Nat) w,vs[j]?=some w→A0 c ix (k+1+j)=2→0≤w:=λj w hw hk=>h1 (j+1) w hw (by rw[show k+(j+1)=k+1+j by omega];exact hk);have n2:∀(j:Nat) w,vs[j]?=some w→A0 c ix (k+1+j)≠2→-1000000000≤w∧w≤1000000000:=λj w hw hk=>h2 (j+1) w hw (by rw[show k+(j+1)=k+1+j by omega];exact hk)
  by_cases hk:A0 c ix k=2
  ·have hs:(Ee (QO c ix) k (v::vs)).foldl visit o=(Ee (QO c ix) (k+1) vs).foldl visit (visit o v):=by
    rw[Ee,QO,aad hk,acL];rfl
   rw[hs]at hp ⊢;have ih:=QP h0 vs (k+1) (visit o v) n1 n2 hp;have y_:visit o v<+: O:=(YO _ _).trans hp;have AD9:=y_.length_le;have tE:=h1 0 v rfl hk;rw[VR,aad hk];have hnn:=(QF O v).1;have AHm:placeOf O v=((placeOf O v).toNat:Int):=by omega
   rw[AHm]
   by_cases hn:0<v∧v∉o
   ·have AD':visit o v=o++[v]:=by unfold visit;rw[aad hn]
    rw[AD']at y_ ih AD9 ⊢
    have kN:placeOf O v=o.length+1:=by
     rw[bN y_ (by simp),Ux hn.2,aad rfl]
    rw[aah,aaJ]at ih AD9;refine .ref hk (by omega) ?_;rw[show max o.length (placeOf O v).toNat=o.length+1 by omega];exact ih
   ·have AD':visit o v=o:=by unfold visit;rw[aac hn]
    rw[AD']at y_ ih AD9 ⊢
    have kN:placeOf O v≤o.length:=by
     by_cases wN:v∈o
     ·rw[bN y_ wN];exact mh
     ·have:v=0:=by
       by_cases hz:0<v
       ·exact(hn ⟨hz,wN⟩).elim
       ·omega
      subst this;rw[Jc h0];omega
    refine .ref hk (by omega) ?_;rw[show max o.length (placeOf O v).toNat=o.length by omega];exact ih
  ·have hs:(Ee (QO c ix) k (v::vs)).foldl visit o=(Ee (QO c ix) (k+1) vs).foldl visit o:=by
    rw[Ee,QO,aac hk];rfl
   rw[hs]at hp ⊢;obtain⟨b1,b2⟩:=h2 0 v rfl hk;rw[VR,aac hk];exact .word hk b1 b2 (QP h0 vs (k+1) o n1 n2 hp)
theorem iw(t:List ByteArray)(s:ByteArray):t<+: BS t s:=by
 unfold BS
 split
 ·exact acj _
 ·exact List.prefix_append _ _
theorem SD{α:Type}(f:α→ByteArray):∀(xs:List α) (t:List ByteArray),t<+: xs.foldl (λt x=>BS t (f x)) t
 |[],t=>acj _
 |x::xs,t=>(iw t (f x)).trans (SD f xs _)
theorem PQ{t:List ByteArray}(h:t.Nodup)(s:ByteArray):(BS t s).Nodup:=by
 unfold BS
 split
 ·exact h
 ·rename_i hn;rw[acv];refine⟨h,abt _ _,λx hx y hy=>?_⟩;rw[dx.1 hy];rintro rfl;exact hn (aaH.2 ⟨x,hx,by simp⟩)
theorem OC{α:Type}(f:α→ByteArray):∀(xs:List α) (t:List ByteArray),t.Nodup→(xs.foldl (λt x=>BS t (f x)) t).Nodup
 |[],t,h=>h
 |x::xs,t,h=>OC f xs _ (PQ h _)
theorem eA{α:Type}{a b:List α}(h:a<+: b){i:Nat}{x:α}(hx:a[i]?=some x):b[i]?=some x:=by
 obtain⟨r,rfl⟩:=h;rw[aat (aaa.1 hx).1];exact hx
def sD(c:List AV)(O:List Int)(y:BC):BC:=match Ah c y.type with
 |some ix=>⟨y.type,VR c ix O 0 y.AL⟩
 |none=>y
def IQ(c:List AV)(l:List Bq)(h:List BC)(O:List Int):List BC:=(AJ h O).map λx=>sD c O (AM l x)
theorem AD_{c:List AV}{y:BC}{n i:Nat}{s:AV}(Y:gn c y n i s):if elemAt c i≠0 then y.AL.length≤200 else y.AL.length=(Al c i).length:=by
 have hm:=Y.many;unfold FL at hm;have he:elemAt c i=s.elem:=by unfold elemAt;rw[Y.si]
 rw[he]
 split
 ·rename_i h;rw[aad h]at hm;simpa using hm
 ·rename_i h;rw[aac h]at hm;simpa using hm
theorem U6{h:List BC}{v:Int}{x:BC}(hx:h[(v-1).toNat]?=some x)(r:List Int):AJ h (v::r)=x::AJ h r:=by
 unfold AJ;rw[aas,hx];rfl
theorem xm{h:List BC}{O:List Int}(hO:Found O h.length){v:Int}(hv:v∈O):∃x,h[(v-1).toNat]?=some x:=by
 have h1:=hO.low v hv;have h2:=hO.high v hv;exact⟨_,ck (by omega)⟩
theorem OD{h:List BC}{N:Nat}(hN:N=h.length):∀{O:List Int},(∀v,v∈O→0<v∧v≤N)→(AJ h O).length=O.length
 |[],_=>rfl
 |v::O,hO=>by
  have hv:=hO v (by simp);have hx:=ck (show(v-1).toNat<h.length by omega);rw[U6 hx,aap,aap,OD hN λw hw=>hO w (by simp[hw])]
theorem PR{c:List AV}{l:List Bq}{h:List BC}{O:List Int}{ts:List ByteArray}(Aa:Az c=true)(hs:BL c l=true)(LP:∀x,x∈h→A8 c x h.length=true)(hO:Found O h.length):∀(m n:Nat) (o:List Int) (T:List ByteArray),n+m=h.length→T.Nodup→CN (Gf c l h) m o n=O→(AJ h (O.drop n)).foldl (λt x=>BS t (AM l x).type) T=ts→ES c ts O.length n T.length o.length ((AJ h (O.drop n)).map λx=>sD c O (AM l x)) ts.length O.length
 |0,n,o,T,hn,hT,sE,Ig=>by
  have sE:o=O:=sE;subst sE;have:=hO.len;rw[acn (by omega)]at Ig ⊢;have Ig:T=ts:=Ig;subst Ig;exact .nil _ _ _
 | m+1,n,o,T,hn,hT,sE,Ig=>by
  have Bw:=Mu (Gf c l h) (m+1) o n;rw[sE]at Bw
  cases NT:o[n]? with
  |none=>
   rw[CN,NT]at sE;have sE:o=O:=sE;subst sE;rw[acn (List.getElem?_eq_none_iff.1 NT)]at Ig ⊢;have Ig:T=ts:=Ig;subst Ig;exact .nil _ _ _
  | some v=>
   rw[CN,NT]at sE;simp only at sE;have LO:=(aaa.1 NT).1;have hOn:=eA Bw NT;obtain⟨hOl,hOe⟩:=aaa.1 hOn;have hvO:v∈O:=aai hOn;obtain⟨x,hx⟩:=xm hO hvO;have Nm:O.drop n=v::O.drop (n+1):=by rw[ab5 hOl,hOe]
   rw[Nm,U6 hx]at Ig ⊢;rw[abe]at Ig;rw[abr];obtain⟨ix,s,Y⟩:=FV (CR hs (LP x (aai hx)))
   have hrefs:Gf c l h v=Ee (QO c ix) 0 (AM l x).AL:=by
    unfold Gf;rw[hx];simp only;unfold refsOf;rw[Y.ti];exact bL c ix _
   have ABl:=Mu (Gf c l h) m ((Gf c l h v).foldl visit o) (n+1);rw[sE]at ABl
   have hV:=QP (c:=c) (ix:=ix) (O:=O) (λhz=>by have:=hO.low 0 hz;omega) (AM l x).AL 0 o
    (λj w hw hk=>by
     rw[aa0]at hk
     rcases Lx Aa Y hw with h1|h1
     ·exact h1.2.1
     ·rw[h1.1]at hk;cases hk)
    (λj w hw hk=>by
     rw[aa0]at hk
     rcases Lx Aa Y hw with h1|h1
     ·exact(hk h1.1).elim
     ·exact h1.2)
    (by rw[←hrefs];exact ABl)
   rw[←hrefs]at hV;have ih:=PR Aa hs LP hO m (n+1) ((Gf c l h v).foldl visit o) (BS T (AM l x).type) (by omega) (PQ hT _) sE Ig;have AAj:BS T (AM l x).type<+: ts:=by rw[←Ig];exact SD _ _ _
   have CG:sD c O (AM l x)=⟨(AM l x).type,VR c ix O 0 (AM l x).AL⟩:=by unfold sD;rw[Y.ti]
   rw[CG];have hmn:=AD_ Y;have ZF:if elemAt c ix≠0 then(VR c ix O 0 (AM l x).AL).length≤200 else(VR c ix O 0 (AM l x).AL).length=(Al c ix).length:=by rw[YQ];exact hmn
   by_cases ha:T.any (λy=>decide (y=(AM l x).type))=true
   ·have AEA:BS T (AM l x).type=T:=by unfold BS;rw[aad ha]
    rw[AEA]at ih AAj;obtain⟨y,hy,hye⟩:=aaH.1 ha;have hye:y=(AM l x).type:=of_decide_eq_true hye;obtain⟨t,ht⟩:=abS hy;have Xq:=(aaa.1 ht).1;refine .cons (t:=t) (ix:=ix) LO (by show ts[t]?=some _;rw[eA AAj ht,hye]) (by omega) Y.ti ZF hV ?_;rw[aac (by omega)];exact ih
   ·have AEA:BS T (AM l x).type=T++[(AM l x).type]:=by unfold BS;rw[aac ha]
    rw[AEA]at ih AAj;rw[aah,aaJ]at ih;refine .cons (t:=T.length) (ix:=ix) LO (by show ts[T.length]?=some _;exact eA AAj (by simp)) (aaf _) Y.ti ZF hV ?_;rw[aad rfl];exact ih
theorem AEB{c:List AV}(Aa:Az c=true){s:ByteArray}{i:Nat}(h:Ah c s=some i):Dj s=true:=by
 have H2:=DI h;obtain⟨h1,h2,_⟩:=aaq.1 h;unfold Az at Aa;simp only[dy,aaC]at Aa;have hb:=DS Aa.2.1 H2;unfold BP at hb;rw[ck H2]at hb;simp only[aaz,aa_]at hb;rw[←of_decide_eq_true h2];exact hb.1.1
theorem iz{c:List AV}{l:List Bq}(hs:BL c l=true){x:BC}:Ip l (AM l x).type=none:=by
 unfold AM
 cases I9:Ip l x.type with
 |none=>exact I9
 | some s=>
  show Ip l s.to=none;unfold Ip;rw[abZ];intro y hy
  have aw:s∈l:=by
   obtain⟨i,hi,_⟩:=Mp I9;exact aai hi
  have:=ABk hs aw hy
  simpa using this
theorem OE{c:List AV}{l:List Bq}{h:List BC}{root:Int}(hz:Ja c l h root=0)(bC:h.length≤40):Canon c (GY c l) (C3 l (AJ h (Au c l h root))) (IQ c l h (Au c l h root))∧EV c l h (Au c l h root)=FM c (C3 l (AJ h (Au c l h root))) (IQ c l h (Au c l h root))∧Found (Au c l h root) h.length∧start root<+: Au c l h root:=by
 obtain⟨Aa,hs,mU,tV,KE⟩:=IP hz;obtain⟨NB,LP⟩:=IL mU;have hF:Found (Au c l h root) h.length:=SC (λv w hw=>(oo Aa hs LP w hw).2) _ _ _ (Found.start KE);have Bw:start root<+: Au c l h root:=Mu _ _ _ _;have jj:Au c l h root=CN (Gf c l h) h.length (start root) 0:=rfl;generalize hO:Au c l h root=O at hF Bw jj ⊢;have hlen:=OD rfl λv hv=>⟨hF.low v hv,hF.high v hv⟩
 have kT:=hF.len
 have AHn:∀x,x∈AJ h O→A8 c x h.length=true:=λx hx=>by
  unfold AJ at hx;obtain⟨v,_,hv⟩:=abo.1 hx
  cases hg:h[(v-1).toNat]? with
  |none=>rw[hg]at hv;cases hv
  |some y=>rw[hg]at hv;rw[dx.1 hv];exact LP _ (aai hg)
 have ZM:(C3 l (AJ h O)).Nodup:=OC _ _ _ ack
 refine⟨⟨?_,λs Oq=>?_,ZM,?_,?_⟩,?_,hF,Bw⟩
 ·have h1:=Lw l (AJ h O) [];unfold C3;simp only[aaP]at h1;omega
 ·rcases QG l (AJ h O) [] Oq with h'|⟨x,hx,rfl⟩
  ·cases h'
  ·obtain⟨i,s,Y⟩:=FV (CR hs (AHn x hx));refine⟨AEB Aa Y.ti,?_⟩;have:=iz hs (x:=x);unfold Ip at this;unfold GY;rw[Y.ti,this];rfl
 ·unfold IQ;rw[aau];omega
 ·have:=PR (ts:=C3 l (AJ h O)) Aa hs LP hF h.length 0 (start root) [] (by omega) ack jj.symm (by rw[abI];rfl);rw[abI]at this;have e1:(IQ c l h O).length=O.length:=by unfold IQ;rw[aau,hlen]
  have e2:(start root).length=min O.length 1:=by
   have hle:=Bw.length_le
   by_cases h0:root>0
   ·have:(start root).length=1:=by unfold start;rw[aad h0];rfl
    omega
   ·have D1:start root=[]:=by unfold start;rw[aac h0]
    rw[D1]at jj
    have:O=[]:=by
     rw[jj]
     cases h.length with
     |zero=>rfl
     |succ m=>rfl
    rw[D1,this];rfl
  rw[e1,←e2];exact this
 ·unfold EV FM;have e1:(IQ c l h O).length=O.length:=by unfold IQ;rw[aau,hlen]
  rw[e1];congr 1;unfold IQ;rw[acV]
  have key:∀(ys:List BC),(∀x,x∈ys→x∈AJ h O)→ys.flatMap (λx=>EF c (C3 l (AJ h O)) O (AM l x))=ys.flatMap (λx=>JP c (C3 l (AJ h O)) (sD c O (AM l x))):=by
   intro ys
   induction ys with
   |nil=>intro _;rfl
   |cons y ys ih=>
    intro hy;rw[aas,aas,ih λx hx=>hy x (by simp[hx])];congr 1;obtain⟨i,s,Y⟩:=FV (CR hs (AHn y (hy y (by simp))));unfold sD;rw[Y.ti];unfold EF JP;simp only;rw[Y.ti];simp only;rw[bM,iv,YQ]
  exact key _ λx hx=>hx
theorem YI.more{b m:List UInt8}{i j:Nat}{e:List Int}(h:YI b i j e):YI (b++m) i j e:=by
 have h1:=h.le;have h2:=h.ij;refine⟨by rw[aah];omega,h.ij,?_⟩;have he:bI (b++m)=bI b++bI m:=by unfold bI;rw[aa5]
 rw[he,List.drop_append_of_le_length (by rw[LL];omega),List.drop_append_of_le_length (by rw[LL];omega),h.eq,aaO]
theorem i_{b:List UInt8}{c:List AV}{ask:ByteArray→Option Int}{ts:List ByteArray}{xs:List BC}{j:Nat}(h:Canon c ask ts xs)(hb:YI b 0 j (FM c ts xs)):CA b c ask 0=if j=b.length then .ok (xs,j)else .error 4:=by
 unfold FM at hb;obtain⟨a4,hb,h5⟩:=hb.split;obtain⟨a3,hb,h4⟩:=hb.split;obtain⟨a2,hb,h3⟩:=hb.split;obtain⟨a1,h1,h2⟩:=hb.split;rw[←mR]at h1;have hl:=h.tsl;have hx:=h.len
 have hh:Ev b ask 0=.ok (ts,a3):=by
  unfold Ev;rw[IY h1 (by omega) (by omega)];simp only[aad];rw[IY h2 (by omega) (by omega)];simp only;rw[YJ (out:=[]) h.sym (by simpa using h.nodup) h3];simp
 unfold CA;rw[hh];simp only;rw[IY h4 (by omega) (by omega)];simp only;rw[r9 (out:=[]) h.len h.nodup h.tsl h.scan h5];simp
theorem U7{c:List AV}{l:List Bq}{ts:List ByteArray}{xs:List BC}{b m:List UInt8}(Aa:Az c=true)(hs:BL c l=true)(h:Canon c (GY c l) ts xs)(hb:bI b=FM c ts xs)(hl:(b++m).length≤100000):J' c l (b++m)=if m=[]then(xs.map (Bb c l),min (xs.length:Int) 1,0)else([],0,4):=by
 have AKd:=(YI.all.2 hb).more (m:=m);have ht:=i_ h AKd;unfold J';rw[aac (by rw[Aa];simp),aac (by rw[hs];simp),aac (by omega),ht]
 by_cases hm:m=[]
 ·subst hm;rw[aad rfl,aad (by simp)]
 ·have:0<m.length:=List.length_pos_iff.2 hm;rw[aac hm,aac (by rw[aah];omega)]
end Go.Ce
namespace Go.Ce
section
variable {P:Program}
def Su(P:Program)(W:CW)(t:TypeId)(v:Value):Prop:=∃m,CT P m t W [v]
theorem Su.int{W:CW}{t:TypeId}{k:IntKind}{v:Value}(ht:P.underlying t=some (.int k))(h:Su P W t v):∃x,v=.int k x∧(Lit.int k x).wf=true:=by
 obtain⟨m,h⟩:=h
 cases m with
 |zero=>exact h.elim
 |succ m=>
  simp only[CT,ht]at h;obtain⟨x,hx,hw⟩:=h
  cases hx
  exact⟨x,rfl,hw⟩
theorem Su.string{W:CW}{t:TypeId}{v:Value}(ht:P.underlying t=some .string)(h:Su P W t v):∃x:ByteArray,v=.string x∧x.size≤maxLen:=by
 obtain⟨m,h⟩:=h
 cases m with
 |zero=>exact h.elim
 |succ m=>
  simp only[CT,ht]at h;obtain⟨x,hx,hw⟩:=h
  cases hx
  exact⟨x,rfl,hw⟩
theorem Su.slice{W:CW}{t e:TypeId}{v:Value}(ht:P.underlying t=some (.slice e))(h:Su P W t v):v=.slice none 0 0∨v=.slice (some ⟨0,0,some 0⟩) 0 0∨∃k len cap f m,v=.slice (some ⟨k,0,none⟩) len cap∧0<cap∧len≤cap∧cap≤maxLen∧
  W.obj k=some (.fixed f (len*P.cellsOf e) e)∧∀i,i<len→CT P m e W (FC f (P.cellsOf e) (i*P.cellsOf e)):=by
 obtain⟨m,h⟩:=h
 cases m with
 |zero=>exact h.elim
 |succ m=>
  simp only[CT,ht]at h
  rcases h with h|h|⟨k,len,cap,f,h1,h2,h3,h4,h5,h6⟩
  ·cases h;exact .inl rfl
  ·cases h;exact .inr (.inl rfl)
  ·cases h1;exact .inr (.inr ⟨k,len,cap,f,m,rfl,h2,h3,h4,h5,h6⟩)
theorem zD.cons{W:CW}{t:TypeId}{ts:List TypeId}{vs:List Value}(h:zD P (t::ts) W vs):∃cs vs',vs=St P t cs::vs'∧CT P 20 t W cs∧zD P ts W vs':=by
 cases vs with
 |nil=>exact h.elim
 |cons v vs=>
  obtain⟨⟨cs,rfl,hc⟩,h2⟩:=h;exact⟨cs,vs,rfl,hc,h2⟩
theorem zD.nil{W:CW}{vs:List Value}(h:zD P [] W vs):vs=[]:=by
 cases vs with
 |nil=>rfl
 |cons=>exact h.elim
end
end Go.Ce
namespace Go.Ce
open Go Go.Proofs Go.Proofs.Tryz
def V8(P:Program)(t:TypeId):List (TypeId×Nat):=match P.underlying t with
 |some (.struct fs)=>fs.toList.map λf=>(f.type,f.offset)
 |_=>[]
theorem Gz{P:Program}{m:Nat}{t ty:TypeId}{off n:Nat}{W:CW}{cs:List Value}(hm:(V8 P t).any (λx=>Nat.beq x.1 ty&&Nat.beq x.2 off)=true)(hn:P.cellsOf t=n)(h1:P.cellsOf ty=1)(ho:off<n)(h:CT P m t W cs):∃v,cs[off]?=some v∧Su P W ty v:=by
 cases m with
 |zero=>exact h.elim
 | succ m=>
  unfold V8 at hm;simp only[CT]at h
  split at hm
  ·rename_i fs hu;rw[hu]at h;obtain⟨hl,hf⟩:=h;obtain⟨x,hx,he⟩:=aaH.1 hm;obtain⟨f,hfm,rfl⟩:=aaU.1 hx;simp only[dy]at he;have e1:f.type=ty:=aab he.1;have e2:f.offset=off:=aab he.2;have:=hf f hfm;rw[e1,e2,h1]at this;have Ao:off<cs.length:=by omega
   refine⟨cs[off],ck Ao,m,?_⟩;rw[ab5 Ao,List.take_succ_cons,acO]at this;exact this
  ·cases hm
theorem YR(f:Nat→Value):∀(m k j:Nat),j<m→(FC f m k)[j]?=some (f (k+j))
 |0,k,j,h=>by omega
 |m+1,k,0,h=>rfl
 |m+1,k,j+1,h=>by
  unfold FC;rw[ace,YR f m (k+1) j (by omega)];congr 2;omega
theorem pI{α:Type}{Q:Nat→α→Prop}:∀n:Nat,(∀i,i<n→∃x,Q i x)→∃l:List α,l.length=n∧∀i x,l[i]?=some x→Q i x
 |0,_=>⟨[],rfl,λi x h=>by simp at h⟩
 | n+1,h=>by
  obtain⟨l,hl,hq⟩:=pI n λi hi=>h i (by omega);obtain⟨x,hx⟩:=h n (by omega);refine⟨l++[x],by simp[hl],λi y hy=>?_⟩
  by_cases hi:i<l.length
  ·rw[aat hi]at hy;exact hq i y hy
  ·rw[aay (by omega)]at hy
   have h0:i-l.length=0:=by
    cases hd:i-l.length with
    |zero=>rfl
    |succ k=>rw[hd]at hy;simp at hy
   rw[h0]at hy
   cases hy
   have:i=n:=by omega
   subst this;exact hx
theorem V9{P:Program}{α:Type}{R:Nat→Nat→α→Prop}{t e:TypeId}{n:Nat}(ht:P.underlying t=some (.slice e))(hn:P.cellsOf e=n){W:CW}{v:Value}(h:Su P W t v)
  (MJ:∀m cs k off,CT P m e W cs→(∀j,j<n→W.cell k (off+j)=cs[j]?)→∃x,R k off x):∃l,At n R v l∧N1 W e v∧l.length≤maxLen:=by
 rcases h.slice ht with rfl|rfl|⟨k,len,cap,f,m,rfl,h1,h2,h3,h4,h5⟩
 ·exact⟨[],⟨none,0,rfl,λi x hx=>by simp at hx⟩,λa l c hv=>by cases hv;exact⟨rfl,aaf _⟩,aa7 _⟩
 ·exact⟨[],⟨_,0,rfl,λi x hx=>by simp at hx⟩,λa l c hv=>by cases hv;exact⟨rfl,aaf _⟩,aa7 _⟩
 ·rw[hn]at h4 h5
  obtain⟨l,hl,hq⟩:=pI (Q:=λi x=>R k (i*n) x) len λi hi=>MJ m _ k (i*n) (h5 i hi) λj hj=>by
   rw[YR f n (i*n) j hj];unfold CW.cell;rw[h4]
   have:i*n+j<len*n:=by
    have:(i+1)*n≤len*n:=aaN _ hi;rw[acG]at this;omega
   simp only[aad this]
  refine⟨l,⟨_,cap,by rw[hl],λi x hx=>⟨_,rfl,by simpa using hq i x hx⟩⟩,λa l c hv=>?_,by omega⟩
  cases hv
  refine⟨?_,h2⟩;simp[ME,h4]
theorem wf_i64{x:Int}(h:(Lit.int .i64 x).wf=true):-9223372036854775808≤x∧x≤9223372036854775807:=by
 simp only[Lit.wf,dy,decide_eq_true_eq]at h;have h1:IntKind.i64.min=-9223372036854775808:=by rfl
 have h2:IntKind.i64.max=9223372036854775807:=by rfl
 omega
theorem wf_u8{x:Int}(h:(Lit.int .u8 x).wf=true):0≤x∧x<256:=by
 simp only[Lit.wf,dy,decide_eq_true_eq]at h;have h1:IntKind.u8.min=0:=by rfl
 have h2:IntKind.u8.max=255:=by rfl
 omega
section
variable {W:CW}{m:Nat}{cs:List Value}{k off:Nat}
theorem u46:∃e,prog.underlying 46=some (.slice e):=⟨match prog.underlying 46 with|some (.slice e)=>e|_=>0,by kernel_rfl⟩
theorem c3:prog.cellsOf 3=1:=by kernel_rfl
theorem c5:prog.cellsOf 5=1:=by kernel_rfl
theorem c9:prog.cellsOf 9=1:=by kernel_rfl
theorem c40:prog.cellsOf 40=1:=by kernel_rfl
theorem c45:prog.cellsOf 45=1:=by kernel_rfl
theorem c46:prog.cellsOf 46=1:=by kernel_rfl
theorem te:prog.cellsOf 48=5:=by kernel_rfl
theorem c56:prog.cellsOf 56=2:=by kernel_rfl
theorem c72:prog.cellsOf 72=2:=by kernel_rfl
theorem ut3:prog.underlying 3=some (.int .i64):=by kernel_rfl
theorem ut5:prog.underlying 5=some (.int .u8):=by kernel_rfl
theorem xn{v:Value}(h:Su prog W 40 v):∃l,At 1 (Eh W) v l∧N1 W 3 v∧l.length≤maxLen :=
 V9 KB c3 h λm cs k off hc hj=>by
  cases m with
  |zero=>exact hc.elim
  |succ m=>
   simp only[CT,ut3]at hc;obtain⟨x,rfl,hw⟩:=hc;exact⟨x,by have:=hj 0 (by omega);simpa using this,wf_i64 hw⟩
theorem eB{n:Nat}{t:TypeId}{o:Nat}(hm:(V8 prog t).any (λx=>Nat.beq x.1 9&&Nat.beq x.2 o)=true)(hn:prog.cellsOf t=n)(ho:o<n)(hc:CT prog m t W cs)(hj:∀j,j<n→W.cell k (off+j)=cs[j]?):∃s:ByteArray,W.cell k (off+o)=some (.string s):=by
 obtain⟨v,hv,hl⟩:=Gz hm hn c9 ho hc;obtain⟨s,rfl,_⟩:=hl.string u9;exact⟨s,(hj o ho).trans hv⟩
theorem ABm{n:Nat}{t:TypeId}{o:Nat}(hm:(V8 prog t).any (λx=>Nat.beq x.1 5&&Nat.beq x.2 o)=true)(hn:prog.cellsOf t=n)(ho:o<n)(hc:CT prog m t W cs)(hj:∀j,j<n→W.cell k (off+j)=cs[j]?):∃x:Int,W.cell k (off+o)=some (.int .u8 x)∧0≤x∧x<256:=by
 obtain⟨v,hv,hl⟩:=Gz hm hn c5 ho hc;obtain⟨x,rfl,hw⟩:=hl.int ut5;exact⟨x,(hj o ho).trans hv,wf_u8 hw⟩
theorem jA{v:Value}(h:Su prog W 45 v):∃l,At 2 (RZ W) v l∧N1 W 72 v∧l.length≤maxLen :=
 V9 u45 c72 h λm cs k off hc hj=>by
  obtain⟨s,h0⟩:=eB (o:=0) (by kernel_rfl) c72 (by omega) hc hj;obtain⟨x,h1,h2,h3⟩:=ABm (o:=1) (by kernel_rfl) c72 (by omega) hc hj;exact⟨⟨s,x⟩,h0,h1,h2,h3⟩
theorem th{v:Value}(h:Su prog W 22 v):∃l,At 5 (JZ W) v l∧N1 W 48 v∧l.length≤maxLen :=
 V9 Y1 te h λm cs k off hc hj=>by
  obtain⟨s,h0⟩:=eB (o:=0) (by kernel_rfl) te (by omega) hc hj;obtain⟨s2,h1⟩:=eB (o:=1) (by kernel_rfl) te (by omega) hc hj;obtain⟨v2,TB,PG⟩:=Gz (ty:=45) (off:=2) (by kernel_rfl) te c45 (by omega) hc;obtain⟨fs,hfs,_⟩:=jA PG;obtain⟨x,h3,h4,h5⟩:=ABm (o:=3) (by kernel_rfl) te (by omega) hc hj;obtain⟨v4,hv4,hl4⟩:=Gz (ty:=46) (off:=4) (by kernel_rfl) te c46 (by omega) hc;obtain⟨e,he⟩:=u46
  have hb:∃a l k,v4=.slice a l k:=by
   rcases hl4.slice he with rfl|rfl|⟨k,len,cap,f,m,rfl,_⟩<;>exact⟨_,_,_,rfl⟩
  obtain⟨a,l,c,rfl⟩:=hb;exact⟨⟨s,s2,fs,x⟩,h0,h1,⟨v2,(hj 2 (by omega)).trans TB,hfs⟩,h3,⟨a,l,c,(hj 4 (by omega)).trans hv4⟩,h4,h5⟩
theorem tj{v:Value}(h:Su prog W 24 v):∃l,At 2 (JC W) v l∧N1 W 56 v∧l.length≤maxLen :=
 V9 VT c56 h λm cs k off hc hj=>by
  obtain⟨s,h0⟩:=eB (o:=0) (by kernel_rfl) c56 (by omega) hc hj;obtain⟨v2,TB,PG⟩:=Gz (ty:=40) (off:=1) (by kernel_rfl) c56 c40 (by omega) hc;obtain⟨fs,hfs,_⟩:=xn PG;exact⟨⟨s,fs⟩,h0,⟨v2,(hj 1 (by omega)).trans TB,hfs⟩⟩
end
def UB(ro:Option Nat)(K:AB):AB:=Ab (λe ds W=>K .ret e ds W) K
def eD(ro:Option Nat)(K:AB):AB:=Ab (λa b c=>M7 22 a c λd=>ED .leq d 12 λf=>let d:=BK 73 f 72 f 71 d 70 (Ai a);Ut f (UB ro K) a (DB 2 Du 82 Du 81 undef (Z_ 73 80 79 undef 78 (DL 77 73 76 75 74 d))) b c (M7 22 a c λf=>GZ f 100 λg=>let d:=vE 77 g 73 false 76 (CP 75 f 73 74 (Ai a) d);Dm g (M7 22 a c λf=>ED .leq f 102 λg=>Lc (UB ro K) a 2 g 82 (zz3 81 g 73 false 80 g 77 true (Fv 79 f 77 78 a d)) b c) (UB ro K) a (DD 2 CL 82 (Il 81 CL 73 80 undef 77 79 77 78 d)) b c)) K
def YS:=by
 have h:=@eD.eq_1;dsimp at h;exact h
def AHo(v0:Value)(K:AB)(W:CW):=by
 have h:HM 13 83 [v0] W K=EB 13 83 [v0] (DD 3 Be 2 []) W (eD none K):=by kernel_rfl
 dsimp at h;exact h
def mi(ro:Option Nat)(K:AB):AB:=Ab (λa b c=>B_ a 3 λd=>GK K a 3 d 14 13 b c) K
def YT:=by
 have h:=@mi.eq_1;dsimp at h;exact h
def eE(ro:Option Nat)(K:AB):AB:=Gu (λa b c=>Ko ro 13 83 1 a (Z' 4 Be) b c 2 (CX 1 (mi ro K))) (mi ro K)
def jB:=by
 have h:=@eE.eq_1;dsimp at h;exact h
def UC(ro:Option Nat)(K:AB):AB:=Ab (λe ds W=>wI (e 48) ((eE ro K) .ret (Env.of e [(2,(.bool false))]) ds W) ((eE ro K) .normal e ds W)) (eE ro K)
def eF(ro:Option Nat)(K:AB):AB:=Ab (λa b c=>LA 22 a 3 λd=>BA 48 d λf=>As f c λg=>Dl 9 g c λh=>GZ h 70 λi=>let d:=EY 22 i 21 20 h 19 g (Bz 18 f 17 d 16 a 3 15 []);Jw i (UC ro K) a 48 (JM 47 undef 40 46 40 45 (DL 44 40 43 42 41 (MT 40 Du 39 true 38 undef 31 (HV 37 31 36 (DL 35 31 34 33 32 (MT 31 Du 30 true 29 undef 22 (HV 28 22 27 (DL 26 22 25 24 23 d)))))))) b c (LA 22 a 3 λf=>C0 48 f λg=>As g c λh=>Dl 9 h c λi=>GZ i 70 λj=>let d:=Ep 31 j 30 (H8 29 j 22 28 i 22 27 h (CP 26 g 22 25 f (CP 24 (Di a) 22 23 (Ai a) d)));Jw j (UC ro K) a 48 (JM 47 undef 40 46 40 45 (DL 44 40 43 42 41 (MT 40 Du 39 true 38 undef 31 (HV 37 31 36 (DL 35 31 34 33 32 d))))) b c (LA 22 a 3 λf=>Nv 48 f 2 λg=>CQ 45 g c λh=>Dl 45 h c λi=>GZ i 24 λj=>let d:=Ep 40 j 39 (H8 38 j 31 37 i 31 36 h (CP 35 g 31 34 f (CP 33 (Di a) 31 32 (Ai a) d)));Jw j (UC ro K) a 48 (JM 47 undef 40 46 40 45 (DL 44 40 43 42 41 d)) b c (LA 22 a 3 λf=>Nv 48 f 4 λg=>CQ 46 g c λh=>Dl 46 h c λi=>GZ i 20 λj=>GU (UC ro K) a 48 j (H8 47 j 40 46 i 40 45 h (CP 44 g 40 43 f (CP 42 (Di a) 40 41 (Ai a) d))) b c)))) K
def YU:=by
 have h:=@eF.eq_1;dsimp at h;exact h
def eG(ro:Option Nat)(K:AB):AB:=Ab (λe ds W=>wI (e 12) ((eF ro K) .normal e ds W) ((eF ro K) (.exit 0) e ds W)) (eF ro K)
def AEC(ro:Option Nat)(e:Env)(ds:List Deferred)(K:AB)(W:CW):=by
 have h:Dd ro 13 83 e ds W K=M7 22 e W λa=>H9 .lss 3 e 3 a λb=>let a:=eC 9 b (BK 8 b 7 a 6 (Ai e) 5 (Di e));Dm b (NL .lss 3 e 3 103 λb=>GU (eG ro K) e 12 b (Bl 11 b 9 10 (Di e) a) ds W) (eG ro K) e (GF 12 (Lf 11 9 10 a)) ds W:=by kernel_rfl
 dsimp at h;exact h
def mj(ro:Option Nat)(K:AB):AB:=Ab (λa b c=>B_ a 4 λd=>GK K a 4 d 58 57 b c) K
def jC:=by
 have h:=@mj.eq_1;dsimp at h;exact h
def AED(ro:Option Nat)(e:Env)(ds:List Deferred)(K:AB)(W:CW):=by
 have h:H3 ro 13 83 1 e ds W K=LA 22 e 3 λa=>Nv 48 a 2 λb=>CQ 45 b W λc=>Dl 45 c W λd=>H9 .lss 3 e 4 d λf=>let a:=A_ 56 f 55 d 54 c 53 b (BK 52 a 51 (Di e) 50 (Ai e) 49 (e 4));P6 f (LA 22 e 3 λb=>Nv 48 b 2 λc=>CQ 45 c W λd=>Gr 45 d e 4 λf=>BA 72 f λg=>As g W λh=>Dl 9 h W λi=>GZ i 70 λj=>let a:=DB 69 j 68 i 67 h (Gp 66 g 65 f 64 e 4 63 d (Bz 62 c 61 b 60 e 3 59 a));Dm j (aA (mj ro K) e 2 a ds W) (mj ro K) e a ds W) K 2 e a ds W:=by kernel_rfl
 dsimp at h;exact h
theorem sF(Q:Ending→CW→Prop)(e:Env)(W:CW):AQ prog Tryz.f13 Q .ret e [] W=Q (.returned (e 2)) W:=by kernel_rfl
def AHp{Q v0 W}:=F1 13 83 [v0] Tryz.f13 Q W Tryz.func13 (by kernel_rfl)
def UD(ro:Option Nat)(K:AB):AB:=Ab (λe ds W=>K .ret e ds W) K
def ml(ro:Option Nat)(K:AB):AB:=Ab (λa b c=>M7 24 a c λd=>ED .leq d 40 λf=>let d:=BK 47 f 46 f 45 d 44 (Ai a);Ut f (UD ro K) a (DB 2 Du 56 Du 55 undef (Z_ 47 54 53 undef 52 (DL 51 47 50 49 48 d))) b c (M7 24 a c λf=>GZ f 1000 λg=>let d:=vE 51 g 47 false 50 (CP 49 f 47 48 (Ai a) d);Dm g (M7 24 a c λf=>ED .leq f 1002 λg=>Lc (UD ro K) a 2 g 56 (zz3 55 g 47 false 54 g 51 true (Fv 53 f 51 52 a d)) b c) (UD ro K) a (DD 2 CL 56 (Il 55 CL 47 54 undef 51 53 51 52 d)) b c)) K
def jD:=by
 have h:=@ml.eq_1;dsimp at h;exact h
def AHq(v0:Value)(K:AB)(W:CW):=by
 have h:HM 15 57 [v0] W K=EB 15 57 [v0] (DD 3 Be 2 []) W (ml none K):=by kernel_rfl
 dsimp at h;exact h
def eH(ro:Option Nat)(K:AB):AB:=Ab (λa b c=>B_ a 3 λd=>GK K a 3 d 9 8 b c) K
def jE:=by
 have h:=@eH.eq_1;dsimp at h;exact h
def UE(ro:Option Nat)(K:AB):AB:=Ab (λe ds W=>wI (e 43) ((eH ro K) .ret (Env.of e [(2,(.bool false))]) ds W) ((eH ro K) .normal e ds W)) (CX 1 (eH ro K))
def AEE(ro:Option Nat)(e:Env)(ds:List Deferred)(K:AB)(W:CW):=by
 have h:Dd ro 15 57 e ds W K=M7 24 e W λa=>H9 .lss 3 e 3 a λb=>let a:=BK 7 b 6 a 5 (Ai e) 4 (Di e);P6 b (LA 24 e 3 λb=>BA 56 b λc=>As c W λd=>Dl 9 d W λf=>GZ f 70 λg=>let a:=EY 17 g 16 15 f 14 d (Bz 13 c 12 b 11 e 3 10 a);Ut g (UE ro K) e (F2 43 Du 42 undef (M5 35 41 35 40 (M5 35 39 35 38 (M5 35 37 35 36 (Ft 35 Du 35 (F2 34 Du 33 undef (Z_ 17 32 31 undef 30 (JL 29 undef 28 27 undef 26 (DL 25 17 24 23 22 (DL 21 17 20 19 18 a)))))))))) ds W (LA 24 e 3 λb=>C0 56 b λc=>C9 c W λd=>Fw d W λf=>GZ f 70 λg=>let a:=vE 25 g 17 false 24 (CP 23 f 17 22 d (CP 21 c 17 20 b (CP 19 (Di e) 17 18 (Ai e) a)));wI g (LA 24 e 3 λb=>C0 56 b λc=>C9 c W λd=>Fw d W λf=>ED .leq f 200 λg=>let a:=Ep 35 g 34 (zz3 33 g 17 false 32 g 25 true (Bl 31 f 25 30 d (Bl 29 c 25 28 b (Fv 27 (Di e) 25 26 e a))));Jw g (UE ro K) e 43 (JM 42 undef 35 41 35 40 (DL 39 35 38 37 36 a)) ds W (LA 24 e 3 λb=>C0 56 b λc=>C9 c W λd=>Fw d W λf=>GZ f 203 λg=>GU (UE ro K) e 43 g (H8 42 g 35 41 f 35 40 d (CP 39 c 35 38 b (CP 37 (Di e) 35 36 (Ai e) a))) ds W)) (LA 24 e 3 λb=>C0 56 b λc=>C9 c W λd=>Fw d W λf=>GZ f 203 λg=>GU (UE ro K) e 43 g (CP 42 g 35 41 f (CP 40 d 35 39 c (CP 38 b 35 37 (Di e) (Lg 36 (Ai e) 35 35 CL 34 (Il 33 CL 17 32 undef 25 31 25 30 (By 29 25 28 27 26 a)))))) ds W))) K 0 e a ds W:=by kernel_rfl
 dsimp at h;exact h
theorem sG(Q:Ending→CW→Prop)(e:Env)(W:CW):AQ prog Tryz.f15 Q .ret e [] W=Q (.returned (e 2)) W:=by kernel_rfl
def AHr{Q v0 W}:=F1 15 57 [v0] Tryz.f15 Q W Tryz.func15 (by kernel_rfl)
def Oj(A:Prop)(W:CW):Ending→CW→Prop:=λe W'=>W'=W∧∃b,e=.returned (.bool b)∧(b=true→A)
theorem AEF{i:Nat}(h:i<9223372036854775807):IntKind.i64.wrap ((i:Int)+1)=((i+1:Nat):Int):=by rw[wrap64 (by omega) (by omega)];rfl
theorem jF{v0:Value}{l:List BC}{W:CW}(hl:At 2 (JC W) v0 l)(hlm:l.length≤maxLen) :
  AX prog Bf 15 [v0] W (Oj ((l.length≤40∨1000<l.length)∧l.length≤1002∧∀x,x∈l→x.AL.length≤203) W):=by
 refine AHr ?_;rw[AHq];have ALx:maxLen=9223372036854775807:=rfl;obtain⟨a,cap,rfl,hc⟩:=hl;generalize Hm:AQ prog Tryz.f15 (Oj ((l.length≤40∨1000<l.length)∧l.length≤1002∧∀x,x∈l→x.AL.length≤203) W)=KK
 have It:∀(e:Env) (b:Bool),e 2=.bool b→(b=true→(l.length≤40∨1000<l.length)∧l.length≤1002∧∀x,x∈l→x.AL.length≤203)→KK .ret e [] W:=by
  intro e b h2 hb;rw[←Hm,sG];exact⟨rfl,b,by rw[h2],hb⟩
 refine EZ (λi e ds W'=>ds=[]∧W'=W∧e 0=.slice a l.length cap∧e 3=.int .i64 i∧∀j x,j<i→l[j]?=some x→x.AL.length≤203) l.length ⟨rfl,rfl,rfl,rfl,by omega⟩ ?_;rintro i e ds W' hi ⟨rfl,rfl,h0,h3,Bw⟩;rw[AEE,h0,h3];simp only[Aj VT,AA,Af]
 refine Hx (λAo=>?_) (λJi=>?_)
 ·have hx:=ck Ao;obtain⟨p,rfl,hp⟩:=hc i _ hx;obtain⟨vm,j_,hm⟩:=hp.AL;obtain⟨am,cm,rfl,_⟩:=hm;rw[Ay VT LD Ao];simp only[AA,G6,FJ];rw[AD a9 (a:=⟨p.block,p.off+i*2,none⟩) hp.type,AD Uv (a:=⟨p.block,p.off+i*2+1,none⟩) j_];simp only[AA,N0 u9,Aj KB,Bt,Dv]
  have fin:∀(e1:Env) (b:Bool),e1 43=.bool b→e1 0=.slice (some p) l.length cap→e1 3=.int .i64 i→(b=false→l[i].AL.length≤203)→(UE none (N4 (λi e ds tQ=>ds=[]∧tQ=W'∧e 0=.slice (some p) l.length cap∧e 3=.int .i64 i∧∀j x,j<i→l[j]?=some x→x.AL.length≤203) i l.length (CX 0 (ml none KK)))) .normal e1 [] W':=by
   intro e1 b h43 g0 g3 hb;simp only[UE,BI,h43]
   refine AH (λrE=>?_) (λhbf=>?_)
   ·simp only[jE,NP,Tm,IW,ey,jD];exact It _ false rfl nofun
   ·simp only[jE,BI,IW];simp only[AG,AN,Nat.reduceEqDiff,↓reduceIte,g0,g3,AO,AA];refine⟨Ao,trivial,trivial,trivial,by rw[AEF (by omega)],λj x hj Mh=>?_⟩
    rcases aaD.1 hj with h2|rfl
    ·exact Bw j x h2 Mh
    ·rw[hx]at Mh;cases Mh;exact hb hbf
  refine AH (λ_=>fin _ true rfl (by exact h0) (by exact h3) nofun) (λ_=>?_)
  refine AH (λh70=>?_) (λh70=>?_)
  ·refine AH (λAKe=>fin _ true rfl (by exact h0) (by exact h3) nofun) (λAKe=>?_);refine fin _ _ rfl (by exact h0) (by exact h3) λhb=>?_;have:=of_decide_eq_false hb;omega
  ·refine fin _ _ rfl (by exact h0) (by exact h3) λhb=>?_;have:=of_decide_eq_false h70;omega
 ·have H2:i=l.length:=by omega
  simp only[BI,Oy,IJ,QV,aaA,jD];simp only[AG,AN,Nat.reduceEqDiff,↓reduceIte,h0,Aj VT,AA,Dv,Bt]
  have Bv:∀x,x∈l→x.AL.length≤203:=λs hs=>by
   obtain⟨j,hj,rfl⟩:=abV hs;exact Bw j _ (by omega) (ck hj)
  refine AH (λbC=>?_) (λbC=>?_)
  ·simp only[UD,BI];have:=of_decide_eq_true bC;exact It _ true rfl λ_=>⟨.inl (by omega),by omega,Bv⟩
  ·refine AH (λNB=>?_) (λNB=>?_)
   ·simp only[UD,BI];have NB:=of_decide_eq_true NB;refine It _ _ rfl λhb=>?_;have:=of_decide_eq_true hb;exact⟨.inr (by omega),by omega,Bv⟩
   ·simp only[UD,BI];exact It _ false rfl nofun
theorem a46:agg? prog 46=some false:=by kernel_rfl
theorem AAk(a:Addr):RL prog 48 (.pointer (some a)) 4=some (.pointer (some ⟨a.block,a.off+4,none⟩)):=by kernel_rfl
def VS(x:AV):Prop:=x.name.size≤70∧x.BR.size≤70∧x.fields.length≤24∧∀f,f∈x.fields→f.name.size≤70
theorem U8{v0:Value}{l:List AV}{W:CW}(hl:At 5 (JZ W) v0 l) :
  AX prog Bf 13 [v0] W (Oj (l.length≤102∧∀x,x∈l→VS x) W):=by
 refine AHp ?_;rw[AHo];obtain⟨a,cap,rfl,hc⟩:=hl;generalize Hm:AQ prog Tryz.f13 (Oj (l.length≤102∧∀x,x∈l→VS x) W)=KK
 have It:∀(e:Env) (b:Bool),e 2=.bool b→(b=true→l.length≤102∧∀x,x∈l→VS x)→KK .ret e [] W:=by
  intro e b h2 hb;rw[←Hm,sF];exact⟨rfl,b,by rw[h2],hb⟩
 refine EZ (λi e ds W'=>ds=[]∧W'=W∧e 0=.slice a l.length cap∧e 3=.int .i64 i∧∀j x,j<i→l[j]?=some x→VS x) (min l.length 103) ⟨rfl,rfl,rfl,rfl,by omega⟩ ?_;rintro i e ds W' hi ⟨rfl,rfl,h0,h3,Bw⟩;rw[AEC,h0,h3];simp only[Aj Y1,AA,Af]
 have GR:∀e1:Env,e1 0=.slice a l.length cap→(l.length≤102→i=l.length)→(eD none KK) .normal e1 [] W':=by
  intro e1 g0 H2
  have Bv:l.length≤102→∀x,x∈l→VS x:=λh s hs=>by
   have:=H2 h;obtain⟨j,hj,rfl⟩:=abV hs;exact Bw j _ (by omega) (ck hj)
  simp only[YS,BI,g0,Aj Y1,AA,Dv,Bt]
  refine AH (λdu=>?_) (λdu=>?_)
  ·simp only[UB,BI];have:=of_decide_eq_true du;exact It _ true rfl λ_=>⟨by omega,Bv (by omega)⟩
  ·refine AH (λAKf=>?_) (λAKf=>?_)
   ·simp only[UB,BI];refine It _ _ rfl λhb=>?_;have:=of_decide_eq_true hb;exact⟨by omega,Bv (by omega)⟩
   ·simp only[UB,BI];exact It _ false rfl nofun
 refine Hx (λAo=>?_) (λJi=>?_)
 ·simp only[eG,BI];simp only[AG,↓reduceIte]
  refine AH (λh22=>?_) (λh22=>?_)
  ·have h22:i<103:=by have:=of_decide_eq_true h22;omega
   have hx:=ck Ao;obtain⟨p,rfl,hp⟩:=hc i _ hx;obtain⟨vf,hvf,hf⟩:=hp.fields;obtain⟨af,cf,rfl,hfc⟩:=hf;obtain⟨ab,lb,cb,ZX⟩:=hp.binds;have q9:ld prog 9 (.pointer (some ⟨p.block,p.off+i*5,none⟩)) W'=some (.string l[i].name):=AD a9 (a:=⟨p.block,p.off+i*5,none⟩) hp.name;have q9':ld prog 9 (.pointer (some ⟨p.block,p.off+i*5+1,none⟩)) W'=some (.string l[i].BR):=AD a9 (a:=⟨p.block,p.off+i*5+1,none⟩) hp.BR;have q45:ld prog 45 (.pointer (some ⟨p.block,p.off+i*5+2,none⟩)) W'=some (.slice af l[i].fields.length cf):=AD a45 (a:=⟨p.block,p.off+i*5+2,none⟩) hvf;have q46:ld prog 46 (.pointer (some ⟨p.block,p.off+i*5+4,none⟩)) W'=some (.slice ab lb cb):=AD a46 (a:=⟨p.block,p.off+i*5+4,none⟩) ZX;obtain⟨eb,heb⟩:=u46;simp only[YU,BI];simp only[AG,AN,Nat.reduceEqDiff,↓reduceIte,h0,h3];rw[Ay Y1 jx Ao];simp only[AA,Md,dM,Rq,AAk,q9,q9',q45,q46,N0 u9,Aj u45,Aj heb,Bt]
   have fin:∀(e1:Env) (b:Bool),e1 48=.bool b→e1 0=.slice (some p) l.length cap→e1 3=.int .i64 i→(b=false→l[i].name.size≤70∧l[i].BR.size≤70∧l[i].fields.length≤24)→(UC none (N4 (λi e ds tQ=>ds=[]∧tQ=W'∧e 0=.slice (some p) l.length cap∧e 3=.int .i64 i∧∀j x,j<i→l[j]?=some x→VS x) i (min l.length 103) (CX 0 (eD none KK)))) .normal e1 [] W':=by
    intro e1 b h48 g0 g3 hb;simp only[UC,BI,h48]
    refine AH (λrE=>?_) (λhbf=>?_)
    ·simp only[jB,YT,NP,Tm,IW,ey,YS];exact It _ false rfl nofun
    ·obtain⟨hn,hsu,M4⟩:=hb hbf;simp only[jB,BI];refine EZ (λm e ds tQ=>ds=[]∧tQ=W'∧e 0=.slice (some p) l.length cap∧e 3=.int .i64 i∧e 4=.int .i64 m∧∀j x,j<m→l[i].fields[j]?=some x→x.name.size≤70) l[i].fields.length ⟨rfl,rfl,by exact g0,by exact g3,rfl,by omega⟩ ?_;rintro m e2 ds2 W2 hm ⟨rfl,rfl,r0,r3,r4,U2⟩;rw[AED,r0,r3,r4,Ay Y1 jx Ao];simp only[AA,Rq,q45,Aj u45,Af]
     refine Hx (λAEG=>?_) (λALy=>?_)
     ·have hxm:=ck AEG;obtain⟨q,rfl,hq⟩:=hfc m _ hxm;rw[Ay u45 s72 AEG];simp only[AA,dO];rw[AD a9 (a:=⟨q.block,q.off+m*2,none⟩) hq.name];simp only[AA,N0 u9,Bt]
      refine AH (λh70=>?_) (λh70=>?_)
      ·simp only[jC,YT,NP,Tm,IW,ey,YS];exact It _ false rfl nofun
      ·simp only[jC,BI,IW];simp only[AG,AN,Nat.reduceEqDiff,↓reduceIte,r0,r3,r4,AO,AA];refine⟨AEG,trivial,trivial,trivial,trivial,by rw[Dy (by omega)],λj x hj Mh=>?_⟩
       rcases aaD.1 hj with h2|rfl
       ·exact U2 j x h2 Mh
       ·rw[hxm]at Mh;cases Mh;have:=of_decide_eq_false h70;omega
     ·simp only[BI,Oy,zw,IJ,IW,QV,aaA,YT];simp only[AG,AN,Nat.reduceEqDiff,↓reduceIte,r0,r3,AO,AA];refine⟨by omega,trivial,trivial,trivial,by rw[Dy (by omega)],λj x hj Mh=>?_⟩
      rcases aaD.1 hj with h2|rfl
      ·exact Bw j x h2 Mh
      ·rw[hx]at Mh;cases Mh;refine⟨hn,hsu,M4,λf hf=>?_⟩;obtain⟨j2,yn,rfl⟩:=abV hf;exact U2 j2 _ (by omega) (ck yn)
   refine AH (λ_=>fin _ true rfl (by exact h0) (by exact h3) nofun) (λh1=>?_);refine AH (λ_=>fin _ true rfl (by exact h0) (by exact h3) nofun) (λh2=>?_);refine AH (λ_=>fin _ true rfl (by exact h0) (by exact h3) nofun) (λh4=>?_);refine fin _ _ rfl (by exact h0) (by exact h3) λ_=>?_;have h1:=of_decide_eq_false h1;have h2:=of_decide_eq_false h2;have h4:=of_decide_eq_false h4;exact⟨by omega,by omega,by omega⟩
  ·have h22:¬i<103:=by have:=of_decide_eq_false h22;omega
   simp only[YU,Oy,IJ,QV,aaA];exact GR _ h0 (by omega)
 ·simp only[eG,BI];simp only[AG,↓reduceIte,AZ];simp only[YU,Oy,IJ,QV,aaA];exact GR _ h0 (by omega)
def PS(l:List Int):List UInt8:=l.map λk=>UInt8.ofNat k.toNat
theorem NC:∀l:List Int,GO (BU l)=some (PS l)
 |[]=>rfl
 |a::l=>by
  have:=NC l;unfold BU PS at this ⊢;simp only[abr,GO,this]
theorem AAl{W:CW}{v:Value}{l:List Int}(h:C' W 5 1 v (BU l)):zf prog 29 9 v W=some (.string ⟨(PS l).toArray⟩):=by
 have h5:prog.underlying 5=some (.int .u8):=by kernel_rfl
 unfold zf;rw[VN,u9];have nk:=IM l;have hcb:=NC l;generalize BU l=cs at h nk hcb
 cases h with
 |nil=>
  simp only[j7,h5,FD,CS];rw[show GO []=some (PS l)from hcb]
 | @some b len _ hB hl=>
  obtain⟨c,n,z,ho,hn,hc⟩:=hB;have LO:len=cs.length:=by omega
  have hf:FD (some ⟨b,0,none⟩) len W=some cs:=by
   simp only[FD,ho]
   cases hz:Nat.beq len 0 with
   |true=>
    have:=aab hz;have:cs=[]:=aaF.1 (by omega);subst this;rfl
   |false=>
    have lV:Nat.ble (0+len) n=true:=aan (by omega);simp only[cond_false,lV,cond_true];rw[LO,HZ λj v hj=>by rw[aa0];exact hc j v hj]
  simp only[j7,h5,hf,CS,hcb]
theorem xo{c:List AV}(h1:c.length≤102)(h2:∀x,x∈c→VS x):Ru c :=
 ⟨by omega,λx hx=>by have:=(h2 x hx).2.2.1;omega,λx hx=>by have:=(h2 x hx).1;omega,λx hx=>by have:=(h2 x hx).2.1;omega,λx hx f hf=>by have:=(h2 x hx).2.2.2 f hf;omega⟩
theorem bO:CB Bf 16=true:=by kernel_rfl
theorem UF:CB Bf (16+2000000)=true:=by kernel_rfl
def xp:Ending→CW→Prop:=λe _=>e=.returned (.bool true)
theorem Zj.is{W:CW}{v:Value}{b:List UInt8}(h:Zj W v b):At 1 (Lo W) v b:=by
 obtain⟨a,cap,rfl,_,hc⟩:=h.sl;exact⟨a,cap,rfl,hc⟩
theorem xq(b:List UInt8):PS (bI b)=b:=by
 unfold PS bI;rw[ada]
 have:((λk:Int=>UInt8.ofNat k.toNat)∘λx:UInt8=>((x.toNat:Nat):Int))=id:=by
  funext x;simp
 rw[this,List.map_id]
theorem eI(a b d:Value):ext (.tuple #[a,b,d]) 0=some a:=rfl
theorem eJ(a b d:Value):ext (.tuple #[a,b,d]) 1=some b:=rfl
theorem eK(a b d:Value):ext (.tuple #[a,b,d]) 2=some d:=rfl
def jG(l:List Int):Prop:=∀x,x∈l→0≤x∧x<256
theorem jG.app{a b:List Int}(h:jG a)(g:jG b):jG (a++b):=λx hx=>(aaB.1 hx).elim (h x) (g x)
theorem jG.flat{α:Type}{f:α→List Int}{l:List α}(h:∀x,x∈l→jG (f x)):jG (l.flatMap f):=λx hx=>by
 obtain⟨y,hy,hx⟩:=abo.1 hx;exact h y hy x hx
theorem Ok(n:Nat):jG (CD n):=by
 induction n using Nat.strongRecOn with
 | ind n ih=>
  unfold CD
  split
  ·intro x hx;rw[dx.1 hx];omega
  ·intro x hx
   rcases aaE.1 hx with rfl|hx
   ·omega
   ·exact ih (n/128) (by omega) x hx
theorem AEH(b:List UInt8):jG (bI b):=λx hx=>by
 obtain⟨y,_,rfl⟩:=aaU.1 hx;have:=y.toNat_lt;omega
theorem jH(c:List AV)(ix:Nat):∀(vs:List Int) (k:Nat),jG (O0 c ix k vs)
 |[],_=>λx hx=>by cases hx
 |v::vs,k=>by
  rw[O0];refine jG.app ?_ (jH c ix vs _);split<;>exact Ok _
theorem sH(c:List AV)(ts:List ByteArray)(x:BC):jG (JP c ts x):=by
 unfold JP
 split
 ·refine((Ok _).app ?_).app (jH _ _ _ _)
  split
  ·exact Ok _
  ·intro x hx;cases hx
 ·intro x hx;cases hx
theorem AAm(c:List AV)(ts:List ByteArray)(xs:List BC):jG (FM c ts xs):=by
 unfold FM
 refine((((?_:jG [1]).app (Ok _)).app (jG.flat λs _=>?_)).app (Ok _)).app (jG.flat λx _=>sH _ _ _)
 ·intro x hx;rw[dx.1 hx];omega
 ·exact(Ok _).app (AEH _)
theorem xu{l:List Int}(h:jG l):bI (PS l)=l:=by
 unfold bI PS;rw[ada]
 have:l.map ((λx:UInt8=>((x.toNat:Nat):Int))∘λk:Int=>UInt8.ofNat k.toNat)=l.map id:=by
  refine List.map_congr_left λx hx=>?_;have hb:=h x hx;show((UInt8.ofNat x.toNat).toNat:Int)=x;rw[UInt8.toNat_ofNat_of_lt' (by show x.toNat<256;omega)];omega
 rw[this,List.map_id]
theorem sI(b:List UInt8)(j:Nat):(BU (bI b))[j]?=(b[j]?).map λx=>Value.int .u8 ((x.toNat:Nat):Int):=by
 unfold BU bI;rw[ada,aaK];rfl
theorem AEI{W:CW}{v:Value}{b:List UInt8}(h:C' W 5 1 v (BU (bI b))):Zj W v b:=by
 have hl:=IM (bI b);rw[LL]at hl;have hg:=sI b;generalize BU (bI b)=cs at h hl hg
 cases h with
 |nil=>
  have:b=[]:=aaF.1 (by simpa using hl.symm);subst this;exact⟨none,0,rfl,aaf _,λi x hx=>by cases hx⟩
 | @some b0 len _ hB PG=>
  have:len=b.length:=by omega
  subst this;refine⟨some ⟨b0,0,none⟩,b.length,rfl,aaf _,λi x hx=>⟨_,rfl,?_⟩⟩;show W.cell b0 (0+i*1)=_;rw[show 0+i*1=i by omega];exact hB.cell (by rw[hg,hx];rfl)
structure xv(c:List AV)(l:List Bq)(h:List BC)(root:Int)(b:List UInt8)(ts:List ByteArray)(xs:List BC):Prop where
 wr:Dz c l h root=(bI b,0)
 ok:Az c=true
 sp:BL c l=true
 can:Canon c (GY c l) ts xs
 enc:bI b=FM c ts xs
theorem xw{c:List AV}{l:List Bq}{h:List BC}{root:Int}(hz:Ja c l h root=0)(bC:h.length≤40)(hw:Dz c l h root=(EV c l h (Au c l h root),0)):∃b,xv c l h root b (C3 l (AJ h (Au c l h root))) (IQ c l h (Au c l h root)):=by
 obtain⟨Aa,hs,_⟩:=IP hz;obtain⟨h1,h2,_⟩:=OE hz bC;have hb:bI (PS (EV c l h (Au c l h root)))=EV c l h (Au c l h root):=xu (by rw[h2];exact AAm _ _ _);exact⟨PS (EV c l h (Au c l h root)),by rw[hw,hb],Aa,hs,h1,by rw[hb,h2]⟩
def AHs(v0:Value)(K:AB)(W:CW):=by
 have h:HM 32 9 [v0] W K=Bp 51 W λa b=>RR 91 #[] #[a] λc=>let d:=BK 5 c 4 v0 3 Be 2 a;ET 72 v0 c b (λb c=>CQ 51 a c λf=>Bj 51 a f c λa=>E9 K [v0] (eC 3 b (Dh 8 b 7 f 3 b 6 d)) a) λa b=>Lb K a [v0] d b:=by kernel_rfl
 dsimp at h;exact h
def AHt{Q v0 W}:=F1 32 9 [v0] Tryz.f32 Q W Tryz.func32 (by kernel_rfl)
def AHu(v0 v1:Value)(K:AB)(W:CW):=by
 have h:Er 91 5 v0 v1 W K=ET 92 v0 (.func (.func 93) #[] #[]) W (λa b=>Bj 51 v1 a b λb=>TM K (M9 v0 v1) (Fu 4 a 3 v0) [] b) λa b=>HX K a v0 v1 (Z' 3 v0) b:=by kernel_rfl
 dsimp at h;exact h
def AHv{Q v0 v1 W}:=F1 91 5 [v0,v1] Tryz.f91 Q W Tryz.func91 (by kernel_rfl)
def AHw(v0:Value)(K:AB)(W:CW):=by
 have h:HM 93 2 [v0] W K=AFm K (Env.args [v0]) [] W:=by kernel_rfl
 dsimp at h;exact h
def AHx{Q v0 W}:=F1 93 2 [v0] Tryz.f93 Q W Tryz.func93 (by kernel_rfl)
def YV(b:List UInt8)(at_:Nat):Option (ByteArray×Nat):=match Gw b 6 at_ 0 0 with
 | .error _=>none
 | .ok (n,a1)=>if a1+n≤b.length then some (strOf ((b.drop a1).take n),a1+n)else none
def Ew(b:List UInt8):Nat→Nat→List ByteArray→List ByteArray×Option Nat
 |0,at_,out=>(out,some at_)
 |k+1,at_,out=>match YV b at_ with
  |none=>(out,none)
  |some (s,a2)=>if Dj s=true∧(out.any λx=>decide (x=s))=false then Ew b k a2 (out++[s])else(out,none)
def DN(b:List UInt8):List ByteArray×Option Nat:=match b with
 |[]=>([],none)
 |x::_=>if x.toNat=1 then(match Gw b 6 1 0 0 with
  | .error _=>([],none)
  | .ok (n,a1)=>if n≤100 then Ew b n a1 []else([],none))else([],none)
def OF(ask:ByteArray→Option Int):List ByteArray→Option Int
 |[]=>none
 |s::r=>match ask s with
  |some e=>some e
  |none=>OF ask r
theorem L8{b:List UInt8}:∀{f at_ n sh:Nat} {x:Int},Gw b f at_ n sh=.error x→x=4
 |0,_,_,_,_,h=>by cases h;rfl
 | f+1,at_,n,sh,x,h=>by
  unfold Gw at h
  split at h
  ·cases h;rfl
  ·split at h
   ·split at h
    ·cases h
    ·cases h;rfl
   ·exact L8 h
theorem pJ{b:List UInt8}:∀{f at_ n sh m a:Nat},0<sh→Gw b f at_ n sh=.ok (m,a)→n+2^sh≤m
 |0,_,_,_,_,_,_,h=>by cases h
 | f+1,at_,n,sh,m,a,hs,h=>by
  unfold Gw at h
  split at h
  ·cases h
  ·rename_i x hx
   split at h
   ·split at h
    ·rename_i VY
     cases h
     have:1≤x.toNat:=by omega
     have:=aaN (2^sh) this;omega
    ·cases h
   ·have h1:=pJ (by omega) h;have h2:2^(sh+7)=128*2^sh:=by rw[ade,acF]
    have h3:1≤2^sh:=acJ;omega
theorem sJ{b:List UInt8}{at_:Nat}{most e:Int}(h:D7 b at_ most=.error e):e=4:=by
 unfold D7 at h
 split at h
 ·rename_i x hx
  cases h
  exact L8 hx
 ·split at h
  ·cases h
  ·cases h;rfl
theorem L9{b:List UInt8}{at_ n a:Nat}{most:Int}(h:Gw b 6 at_ 0 0=.ok (n,a)):D7 b at_ most=if(n:Int)≤most then .ok (n,a)else .error 4:=by
 unfold D7;rw[h]
theorem OG{b:List UInt8}{at_:Nat}{most x:Int}(h:Gw b 6 at_ 0 0=.error x):D7 b at_ most=.error 4:=by
 unfold D7;rw[h,L8 h]
theorem xx{s:ByteArray}(h:Dj s=true):s.size≤60:=by
 unfold Dj at h;simp only[dy,decide_eq_true_eq]at h;omega
theorem jI(b:List UInt8)(ask:ByteArray→Option Int):∀(k at_:Nat) (out:List ByteArray),∃new,(Ew b k at_ out).1=out++new∧FX b ask k at_ out=(match OF ask new with
  |some e=>.error e
  |none=>match(Ew b k at_ out).2 with
   |some a=>.ok (out++new,a)
   |none=>.error 4)
 |0,at_,out=>⟨[],by simp[Ew],by simp[Ew,FX,OF]⟩
 | k+1,at_,out=>by
  have stop:YV b at_=none∨(∃s a2,YV b at_=some (s,a2)∧¬(Dj s=true∧(out.any λx=>decide (x=s))=false))→FX b ask (k+1) at_ out=.error 4→∃new,(Ew b (k+1) at_ out).1=out++new∧FX b ask (k+1) at_ out=(match OF ask new with
    |some e=>.error e
    |none=>match(Ew b (k+1) at_ out).2 with
     |some a=>.ok (out++new,a)
     |none=>.error 4):=by
   intro h hh
   have ht:Ew b (k+1) at_ out=(out,none):=by
    rw[Ew]
    rcases h with h|⟨s,a2,h,hn⟩
    ·rw[h]
    ·rw[h];simp only;rw[aac hn]
   exact⟨[],by rw[ht];simp,by rw[hh,ht];rfl⟩
  cases hn:Gw b 6 at_ 0 0 with
  |error x=>exact stop (.inl (by unfold YV;rw[hn])) (by rw[FX,OG hn])
  | ok r=>
   obtain⟨n,a1⟩:=r
   by_cases hle:a1+n≤b.length
   ·have htx:YV b at_=some (strOf ((b.drop a1).take n),a1+n):=by unfold YV;rw[hn];simp only;rw[aad hle]
    have Hs:(strOf ((b.drop a1).take n)).size=n:=by
     show((b.drop a1).take n).toArray.size=n;rw[acK,aaI,abN];omega
    generalize hs:strOf ((b.drop a1).take n)=s at*
    by_cases AEJ:n≤60
    ·have hR:D7 b at_ 60=.ok (n,a1):=by rw[L9 hn,aad (by omega)]
     have hT:HL b a1 n=.ok (a1+n):=by unfold HL;rw[aad hle]
     by_cases hc:Dj s=true∧(out.any λx=>decide (x=s))=false
     ·have h1:Ew b (k+1) at_ out=Ew b k (a1+n) (out++[s]):=by rw[Ew,htx];simp only;rw[aad hc]
      have h2:FX b ask (k+1) at_ out=(match ask s with
       |some e=>.error e
       |none=>FX b ask k (a1+n) (out++[s])):=by
       rw[FX,hR];simp only;rw[hT];simp only[hs];rw[aad hc];rfl
      obtain⟨new,g1,g2⟩:=jI b ask k (a1+n) (out++[s]);refine⟨s::new,by rw[h1,g1];simp,?_⟩;rw[h1,h2,OF]
      cases ha:ask s with
      |some e=>rfl
      |none=>simp only[g2,aaO,List.singleton_append]
     ·refine stop (.inr ⟨s,_,htx,hc⟩) ?_;rw[FX,hR];simp only;rw[hT];simp only[hs];rw[aac hc]
    ·refine stop (.inr ⟨s,_,htx,λh=>?_⟩) ?_
     ·have:=xx h.1;omega
     ·rw[FX,L9 hn,aac (by omega)]
   ·refine stop (.inl (by unfold YV;rw[hn];simp only;rw[aac hle])) ?_;rw[FX,L9 hn]
    by_cases AEJ:(n:Int)≤60
    ·rw[aad AEJ];simp only;unfold HL;rw[aac hle]
    ·rw[aac AEJ]
theorem head_eq(b:List UInt8)(ask:ByteArray→Option Int):Ev b ask 0=(match OF ask (DN b).1 with
  |some e=>.error e
  |none=>match(DN b).2 with
   |some a=>.ok ((DN b).1,a)
   |none=>.error 4):=by
 have stop:DN b=([],none)→Ev b ask 0=.error 4→Ev b ask 0=(match OF ask (DN b).1 with
  |some e=>.error e
  |none=>match(DN b).2 with
   |some a=>.ok ((DN b).1,a)
   |none=>.error 4):=by
  intro h hh;rw[h,hh];rfl
 cases hb:b with
 |nil=>
  rw[←hb];refine stop (by unfold DN;rw[hb]) ?_;unfold Ev;rw[OG (x:=4) (by rw[hb];rfl)]
 | cons x r=>
  rw[←hb];have hx:b[0]?=some x:=by rw[hb];rfl
  by_cases RJ:x.toNat=1
  ·have hG:Gw b 6 0 0 0=.ok (1,1):=by
    rw[Gw,hx];simp only;rw[aad (by omega),aad (by omega),RJ]
   have hR:D7 b 0 128=.ok (1,1):=by rw[L9 hG,aad (by decide)]
   have hF:DN b=(match Gw b 6 1 0 0 with
    | .error _=>([],none)
    | .ok (n,a1)=>if n≤100 then Ew b n a1 []else([],none)):=by
    unfold DN;rw[hb];simp only;rw[aad RJ,←hb]<;>rfl
   cases hn:Gw b 6 1 0 0 with
   |error e=>
    refine stop (by rw[hF,hn]) ?_;unfold Ev;rw[hR];simp only;rw[aad True.intro,OG hn]
   | ok r=>
    obtain⟨n,a1⟩:=r
    by_cases hle:n≤100
    ·have h1:DN b=Ew b n a1 []:=by rw[hF,hn];simp only;rw[aad hle]
     obtain⟨new,g1,g2⟩:=jI b ask n a1 [];rw[abf]at g1 g2;unfold Ev;rw[hR];simp only;rw[aad True.intro,L9 hn,aad (by omega)];simp only;rw[g2,h1,g1]
    ·refine stop (by rw[hF,hn];simp only;rw[aac hle]) ?_;unfold Ev;rw[hR];simp only;rw[aad True.intro,L9 hn,aac (by omega)]
  ·refine stop (by unfold DN;rw[hb];simp only;rw[aac RJ]) ?_;unfold Ev
   cases hR:D7 b 0 128 with
   |error e=>rw[sJ hR]
   | ok r=>
    obtain⟨n,a⟩:=r;simp only;rw[aac];intro h1;subst h1
    have hG:Gw b 6 0 0 0=.ok (1,a):=by
     unfold D7 at hR
     split at hR
     ·cases hR
     ·rename_i n' a' hg
      split at hR
      ·cases hR;exact hg
      ·cases hR
    rw[Gw,hx]at hG;simp only at hG
    split at hG
    ·split at hG
     ·have e:=(Prod.mk.inj (Except.ok.inj hG)).1;omega
     ·cases hG
    ·have:=pJ (by omega) hG;omega
theorem Mv{P:Program}{α:Type}{R:Nat→Nat→α→Prop}{t el:TypeId}{n:Nat}{v:Value}{l:List α}(u:P.underlying t=some (.slice el))(h:At n R v l)(W:CW):Kw P t v W=some (.int .i64 l.length):=by
 obtain⟨a,cap,rfl,_⟩:=h;exact Aj u _ _ _ _
theorem jJ{W:CW}{v:Value}{xs:List BC}(h:At 2 (JC W) v xs){i:Nat}{x:BC}(hx:xs[i]?=some x):∃q p0 p1 vv,lD prog 24 v (.int .i64 i)=some q∧RL prog 56 q 0=some p0∧RL prog 56 q 1=some p1∧ld prog 9 p0 W=some (.string x.type)∧ld prog 40 p1 W=some vv∧At 1 (Eh W) vv x.AL:=by
 obtain⟨a,cap,rfl,hc⟩:=h;obtain⟨p,rfl,hr⟩:=hc i x hx;obtain⟨vv,h1,h2⟩:=hr.AL;exact⟨_,_,_,vv,Ay VT LD (aaa.1 hx).1,G6 _,FJ _,AD a9 (a:=⟨p.block,p.off+i*2,none⟩) hr.type,AD Uv (a:=⟨p.block,p.off+i*2+1,none⟩) h1,h2⟩
theorem jK{W:CW}{v:Value}{xs:List Int}(h:At 1 (Eh W) v xs){i:Nat}{x:Int}(hx:xs[i]?=some x):∃q,lD prog 40 v (.int .i64 i)=some q∧ld prog 3 q W=some (.int .i64 x):=by
 obtain⟨a,cap,rfl,hc⟩:=h;obtain⟨p,rfl,hr⟩:=hc i x hx;exact⟨_,Ay KB s3 (aaa.1 hx).1,AD a3 (a:=⟨p.block,p.off+i*1,none⟩) hr.1⟩
def xy(ro:Option Nat)(K:AB):AB:=Ab (λe ds W=>K .ret (Env.of e [(4,(.bool true))]) ds W) K
def AHy(v0 v1:Value)(K:AB)(W:CW):=by
 have h:Er 24 71 v0 v1 W K=Dl 24 v0 W λa=>Dl 24 v1 W λb=>DQ .neq a b λc=>let a:=A_ 11 c 10 b 9 v1 8 a (DD 7 v0 4 []);wI c (Lj K v0 v1 (GF 4 a) W) (EB 24 71 [v0,v1] (eC 5 Be a) W (xy none K)):=by kernel_rfl
 dsimp at h;exact h
def mm(ro:Option Nat)(K:AB):AB:=Ab (λa b c=>B_ a 5 λd=>GK K a 5 d 17 16 b c) K
def xz:=by
 have h:=@mm.eq_1;dsimp at h;exact h
def eL(ro:Option Nat)(K:AB):AB:=Gu (λa b c=>Ko ro 24 71 1 a (Z' 6 Be) b c 2 (CX 1 (mm ro K))) (mm ro K)
def x_:=by
 have h:=@eL.eq_1;dsimp at h;exact h
def mn(ro:Option Nat)(K:AB):AB:=Ab (λe ds W=>wI (e 43) ((eL ro K) .ret (Env.of e [(4,(.bool false))]) ds W) ((eL ro K) .normal e ds W)) (eL ro K)
def AEK(ro:Option Nat)(e:Env)(ds:List Deferred)(K:AB)(W:CW):=by
 have h:Dd ro 24 71 e ds W K=M7 24 e W λa=>H9 .lss 3 e 5 a λb=>let a:=BK 15 b 14 a 13 (Ai e) 12 (GI e);P6 b (LA 24 e 5 λb=>BA 56 b λc=>As c W λd=>Gr 24 (BN e) e 5 λf=>BA 56 f λg=>As g W λh=>KX .neq 9 d h λi=>let a:=EY 29 i 28 27 h 26 g (Gp 25 f 24 (GI e) 23 e 1 22 d (Bz 21 c 20 b 19 e 5 18 a));wI i (HA (KY (Gn 9 g W h) 9 c W d) (mn ro K) e (H4 43 (Ft 42 undef 29 (DL 41 29 40 39 38 (DL 37 29 36 35 34 (DL 33 29 32 31 30 a))))) ds W) (LA 24 e 5 λb=>C0 56 b λf=>C9 f W λi=>Fw i W λj=>Gr 24 (BN e) e 5 λk=>C0 56 k λl=>C9 l W λm=>Fw m W λn=>DQ .neq j n λo=>HW (Ld (Es 40 m W n) 40 l W m (Ld (Es 40 i W j) 40 f W i (KY (Gn 9 g W h) 9 c W d))) (mn ro K) e 43 o (H8 42 o 29 41 n 29 40 m (CP 39 l 29 38 k (CP 37 (GI e) 29 36 (BN e) (CP 35 j 29 34 i (CP 33 f 29 32 b (CP 31 (GI e) 29 30 (Ai e) a)))))) ds W)) K 0 e a ds W:=by kernel_rfl
 dsimp at h;exact h
def mo(ro:Option Nat)(K:AB):AB:=Ab (λa b c=>B_ a 6 λd=>GK K a 6 d 53 52 b c) K
def yA:=by
 have h:=@mo.eq_1;dsimp at h;exact h
def AEL(ro:Option Nat)(e:Env)(ds:List Deferred)(K:AB)(W:CW):=by
 have h:H3 ro 24 71 1 e ds W K=LA 24 e 5 λa=>C0 56 a λb=>C9 b W λc=>Fw c W λd=>H9 .lss 3 e 6 d λf=>let a:=A_ 51 f 50 d 49 c 48 b (BK 47 a 46 (GI e) 45 (Ai e) 44 (Et e));P6 f (LA 24 e 5 λb=>C0 56 b λc=>C9 c W λd=>Gr 40 d e 6 λf=>FT f W λg=>Gr 24 (BN e) e 5 λh=>C0 56 h λi=>C9 i W λj=>Gr 40 j e 6 λk=>FT k W λl=>DQ .neq g l λm=>let a:=eC 70 m (Gp 69 l 68 k 67 e 6 66 j (Gp 65 i 64 h 63 e 5 62 (BN e) (Gp 61 g 60 f 59 e 6 58 d (Bz 57 c 56 b 55 e 5 54 a))));GC (Ld (Gn 3 k W l) 40 i W j (KY (Gn 3 f W g) 40 c W d)) (Dm m (aA (mo ro K) e 4 a ds W) (mo ro K) e a ds W)) K 2 e a ds W:=by kernel_rfl
 dsimp at h;exact h
theorem sK(Q:Ending→CW→Prop)(e:Env)(W:CW):AQ prog Tryz.f24 Q .ret e [] W=Q (.returned (e 4)) W:=by kernel_rfl
def AHz{Q v0 v1 W}:=F1 24 71 [v0,v1] Tryz.f24 Q W Tryz.func24 (by kernel_rfl)
theorem YW{c:List AV}:BL c []=true:=rfl
section
variable {c:List AV}{A B:List BC}{f:Int→Int}{S:Int→Prop}
end
section
variable {A:CW}{F3 b11 VQ QN b17 bl rl bm rm r1 r2:Nat}{vl vm v1 v3:Value}{c:List AV}{h k:List BC}{O M:List Int}
end
section
variable {A:CW}{F3 b11 VQ QN b17 bl rl bm rm r1 r2:Nat}{vl vm v1 v3:Value}{c:List AV}{h k:List BC}{O M:List Int}
end
section
variable {A:CW}{F3 b11 VQ QN b17 bl rl bm rm r1 r2:Nat}{vl vm v1 v3:Value}{c:List AV}{h k:List BC}{O M:List Int}
end
theorem mq{c:List AV}{l:List Bq}{h:List BC}{root:Int}:(∃e:Int,e≠0∧Dz c l h root=([],e))∨(Ja c l h root=0∧PL l h (Au c l h root)=false∧Dz c l h root=(EV c l h (Au c l h root),0)):=by
 unfold Dz
 by_cases h1:Ja c l h root≠0
 ·exact .inl ⟨_,h1,by rw[aad h1]⟩
 ·rw[aac h1]
  by_cases h2:PL l h (Au c l h root)=true
  ·exact .inl ⟨214,by decide,by rw[aad h2]⟩
  ·exact .inr ⟨by simpa using h1,by simpa using h2,by rw[aac h2]⟩
theorem yB{s:ByteArray}(h:Dj s=true):(Hi s).length≤61:=by
 unfold Dj at h;simp only[dy,decide_eq_true_eq]at h;unfold Hi;rw[aah,V7 (by omega)]
 have:(JD s).length=s.size:=by
  unfold JD;rw[aau,Lq]
 rw[this];simp only[aaJ];omega
theorem pK:∀ts:List ByteArray,(∀s,s∈ts→Dj s=true)→(ts.flatMap Hi).length≤ts.length*61
 |[],_=>aaf _
 |s::ts,h=>by
  rw[aas,aah,aap];have h1:=yB (h s (by simp));have h2:=pK ts λx hx=>h x (by simp[hx]);omega
theorem sL{c:List AV}{l:List Bq}{h:List BC}{root:Int}{b:List UInt8}(hz:Ja c l h root=0)(bC:h.length≤40)(hw:Dz c l h root=(EV c l h (Au c l h root),0))(B:xv c l h root b (C3 l (AJ h (Au c l h root))) (IQ c l h (Au c l h root))):b.length≤100000:=by
 obtain⟨Aa,hs,mU,tV,KE⟩:=IP hz;obtain⟨_,LP⟩:=IL mU;obtain⟨_,_,hF,_⟩:=OE hz bC
 have he:bI b=EV c l h (Au c l h root):=by
  have:=B.wr;rw[hw]at this;exact(Prod.mk.inj this).1.symm
 have Ig:=B.can.sym;have hl:=LL b;rw[he]at hl;unfold EV at hl;have kT:=hF.len;have h1:=Lw l (AJ h (Au c l h root)) [];have h2:=Hk h (Au c l h root)
 have Xq:(C3 l (AJ h (Au c l h root))).length≤40:=by
  unfold C3;simp only[aaP]at h1;omega
 generalize C3 l (AJ h (Au c l h root))=ts at hl Ig Xq
 have h3:=QH (l:=l) (t:=ts) (o:=Au c l h root) (n:=h.length) Aa (by omega) (by omega) (AJ h (Au c l h root)) λx hx=>CR hs (LP x (by
  unfold AJ at hx;obtain⟨v,_,hv⟩:=abo.1 hx
  cases hg:h[(v-1).toNat]? with
  |none=>rw[hg]at hv;cases hv
  |some y=>rw[hg]at hv;rw[dx.1 hv];exact aai hg))
 have h4:=pK ts λs hs=>(Ig s hs).1;rw[V7 (show ts.length<128 by omega),V7 (show(Au c l h root).length<128 by omega)]at hl;simp only[aah,aaJ]at hl;have h5:(AJ h (Au c l h root)).length*1616≤40*1616:=aaN _ (by omega);omega
theorem U9{W:CW}{va vb:Value}{xs:List BC}(ha:At 2 (JC W) va xs)(hb:At 2 (JC W) vb xs)(hl:xs.length≤100000)(hv:∀x,x∈xs→x.AL.length≤100000):AX prog Bf 24 [va,vb] W (λen W'=>en=.returned (.bool true)∧W'=W):=by
 refine AHz ?_;rw[AHy];generalize Hm:AQ prog Tryz.f24 (λen W'=>en=.returned (.bool true)∧W'=W)=KK;rw[Mv VT ha];simp only[AA];rw[Mv VT hb];simp only[AA,CM,bne_self_eq_false,AZ];refine EZ (λi e' FG W'=>FG=[]∧W'=W∧e' 0=va∧e' 1=vb∧e' 5=.int .i64 i) xs.length ⟨rfl,rfl,rfl,rfl,rfl⟩ ?_;rintro i e ds W' hi ⟨rfl,rfl,h0,h1,h5⟩;rw[AEK,h0,h1,h5,Mv VT ha];simp only[AA,Af];refine Hx (λAo=>?_) (λJi=>?_)
 rotate_left
 ·have:i=xs.length:=by omega
  subst this;simp only[IJ,QV,aaA,xy,BI];rw[←Hm,sK];exact⟨by simp only[AG,↓reduceIte],rfl⟩
 have hx:=ck Ao;generalize xs[i]=x at hx;have hxv:=hv x (aai hx);obtain⟨qa,p0,p1,vv,a1,a2,a3',a4',a5',a6'⟩:=jJ ha hx;obtain⟨qb,q0,q1,vw,b1,b2,b3,b4,b5,b6⟩:=jJ hb hx;simp only[a1,a2,a3',a4',a5',b1,b2,b3,b4,b5,AA,OZ,RY,decide_true,aav,AZ];rw[Mv KB a6'];simp only[AA];rw[Mv KB b6];simp only[AA,CM,bne_self_eq_false];refine⟨by simp only[and_self],?_⟩;simp only[mn,BI];simp only[AG,↓reduceIte,AZ];simp only[x_,BI];refine⟨trivial,?_⟩
 refine EZ (λk e' FG W2=>FG=[]∧W2=W'∧e' 0=va∧e' 1=vb∧e' 5=.int .i64 i∧e' 6=.int .i64 k) x.AL.length ?_ ?_
 ·exact⟨rfl,rfl,by simp only[AG,AN,Nat.reduceEqDiff,↓reduceIte,h0],by simp only[AG,AN,Nat.reduceEqDiff,↓reduceIte,h1],by simp only[AG,AN,Nat.reduceEqDiff,↓reduceIte,h5],(by simp only[AG,↓reduceIte];rfl)⟩
 rintro k e2 ds W2 hk ⟨rfl,rfl,g0,g1,g5,g6⟩;rw[AEL,g0,g1,g5,g6];simp only[a1,a3',a5',AA];rw[Mv KB a6'];simp only[AA,Af];refine Hx (λNp=>?_) (λADH=>?_)
 rotate_left
 ·have:k=x.AL.length:=by omega
  subst this;simp only[IJ,zw,QV,aaA,xz,BI];simp only[AG,AN,Nat.reduceEqDiff,↓reduceIte,g5,AO,AA];rw[Dy (by omega)];exact⟨Ao,rfl,rfl,by simp only[AG,AN,Nat.reduceEqDiff,↓reduceIte,g0],by simp only[AG,AN,Nat.reduceEqDiff,↓reduceIte,g1],by simp only[AG,↓reduceIte]⟩
 have hy:=ck Np;obtain⟨ra,c1,c2⟩:=jK a6' hy;obtain⟨rb,d1,d2⟩:=jK b6 hy;simp only[b1,b3,b5,c1,c2,d1,d2,AA,CM,bne_self_eq_false,AZ];refine⟨by simp only[and_self],trivial,?_⟩;simp only[yA,BI,IW];simp only[AG,AN,Nat.reduceEqDiff,↓reduceIte,g6,AO,AA];rw[Dy (by omega)];exact⟨Np,trivial,trivial,by simp only[g0],by simp only[g1],by simp only[g5],by simp only[AG]⟩
theorem AAn{W:CW}{v:Value}{l:List ByteArray}(h:C' W 9 1 v (strs l)):At 1 (ACo W) v l:=by
 have:=JE (f:=λ(s:ByteArray)=>Value.string s) h;exact this
theorem mu{b:List UInt8}:(DN b).1.length≤100:=by
 have key:∀(k at_:Nat) (out:List ByteArray),(Ew b k at_ out).1.length≤out.length+k:=by
  intro k
  induction k with
  |zero=>intro at_ out;simp[Ew]
  | succ k ih=>
   intro at_ out;rw[Ew]
   split
   ·simp
   ·rename_i s a2 _
    split
    ·have:=ih a2 (out++[s]);simp only[aah,aaJ]at this;omega
    ·simp
 unfold DN
 split
 ·simp
 ·split
  ·split
   ·simp
   ·split
    ·rename_i n a1 _ h;have:=key n a1 [];simp at this;omega
    ·simp
  ·simp
def AEM(v0:Value)(K:AB)(W:CW):=by
 have h:HM 116 8 [v0] W K=GJ 139 v0 W (λa b=>E9 K [v0] (BK 2 a 7 a 6 v0 2 Be) b) λa b=>Lb K a [v0] (Fu 6 v0 2 Be) b:=by kernel_rfl
 dsimp at h;exact h
theorem mv(Q:Ending→CW→Prop)(e:Env)(W:CW):AQ prog Tryz.f116 Q .ret e [] W=Q (.returned (e 2)) W:=by kernel_rfl
def AEN{Q v0 W}:=F1 116 8 [v0] Tryz.f116 Q W Tryz.func116 (by kernel_rfl)
def V'(ro:Option Nat)(K:AB):AB:=Ab (λe ds W=>wV (cl prog 197 5 (e 0)) λv21=>wV (idx prog 9 (.string ⟨#[0,1,2,2,3,3,3,3,4,4,4,4,4,4,4,4,5,5,5,5,5,5,5,5,5,5,5,5,5,5,5,5,6,6,6,6,6,6,6,6,6,6,6,6,6,6,6,6,6,6,6,6,6,6,6,6,6,6,6,6,6,6,6,6,7,7,7,7,7,7,7,7,7,7,7,7,7,7,7,7,7,7,7,7,7,7,7,7,7,7,7,7,7,7,7,7,7,7,7,7,7,7,7,7,7,7,7,7,7,7,7,7,7,7,7,7,7,7,7,7,7,7,7,7,7,7,7,7,8,8,8,8,8,8,8,8,8,8,8,8,8,8,8,8,8,8,8,8,8,8,8,8,8,8,8,8,8,8,8,8,8,8,8,8,8,8,8,8,8,8,8,8,8,8,8,8,8,8,8,8,8,8,8,8,8,8,8,8,8,8,8,8,8,8,8,8,8,8,8,8,8,8,8,8,8,8,8,8,8,8,8,8,8,8,8,8,8,8,8,8,8,8,8,8,8,8,8,8,8,8,8,8,8,8,8,8,8,8,8,8,8,8,8,8,8,8,8,8,8,8,8,8,8,8,8,8]⟩) v21) λv22=>wV (cl prog 5 3 v22) λv23=>wV (CF prog .add 3 false (e 2) v23) λv24=>K .ret (Env.of e [(2,v24),(24,v24),(23,v23),(22,v22),(21,v21),(20,(e 0)),(19,(e 2))]) ds W) K
def V_(ro:Option Nat)(K:AB):AB:=Ab (λa b c=>HK .geq 197 (Ai a) .u64 256 λd=>Dm d (HK .shr 197 (Ai a) .u64 8 λf=>oF a 2 8 λg=>TM (V' ro K) a (Gp 2 g 18 g 17 a 2 0 f (BK 16 f 15 (Ai a) 14 d 13 (Ai a))) b c) (V' ro K) a (Fu 14 d 13 (Ai a)) b c) K
def sM:=by
 have h:=@V_.eq_1;dsimp at h;exact h
def eM(ro:Option Nat)(K:AB):AB:=Ab (λa b c=>HK .geq 197 (Ai a) .u64 65536 λd=>Dm d (HK .shr 197 (Ai a) .u64 16 λf=>oF a 2 16 λg=>TM (V_ ro K) a (Gp 2 g 12 g 11 a 2 0 f (BK 10 f 9 (Ai a) 8 d 7 (Ai a))) b c) (V_ ro K) a (Fu 8 d 7 (Ai a)) b c) K
def sN:=by
 have h:=@eM.eq_1;dsimp at h;exact h
def AEO(v0:Value)(K:AB)(W:CW):=by
 have h:HM 139 25 [v0] W K=HK .geq 197 v0 .u64 4294967296 λa=>let b:=HY 4 a 3 v0 2 Be;Dm a (HK .shr 197 v0 .u64 32 λa=>TM (eM none K) (Env.args [v0]) (A_ 2 (TN 32) 0 a 6 a 5 v0 b) [] W) (eM none K) (Env.args [v0]) b [] W:=by kernel_rfl
 dsimp at h;exact h
theorem mw(Q:Ending→CW→Prop)(e:Env)(W:CW):AQ prog Tryz.f139 Q .ret e [] W=Q (.returned (e 2)) W:=by kernel_rfl
def AEP{Q v0 W}:=F1 139 25 [v0] Tryz.f139 Q W Tryz.func139 (by kernel_rfl)
def AEQ(v0:Value)(K:AB)(W:CW):=by
 have h:HM 151 7 [v0] W K=wV (cl prog 3 164 v0) λa=>let b:=HY 4 a 3 v0 2 (.int .u64 0);GJ 116 a W (λa c=>ZU .shl 164 true (.int .u64 1) a λd=>E9 K [v0] (FR 2 d 6 5 a b) c) λa c=>Lb K a [v0] b c:=by kernel_rfl
 dsimp at h;exact h
theorem my(Q:Ending→CW→Prop)(e:Env)(W:CW):AQ prog Tryz.f151 Q .ret e [] W=Q (.returned (e 2)) W:=by kernel_rfl
def AER{Q v0 W}:=F1 151 7 [v0] Tryz.f151 Q W Tryz.func151 (by kernel_rfl)
def AES(v0:Value)(K:AB)(W:CW):=by
 have h:HM 152 33 [v0] W K=DV v0 λa=>CQ 205 a W λb=>DV v0 λc=>CQ 205 c W λd=>HK .shl 205 d .u64 13 λf=>KX .xor 205 b f λg=>DV v0 λh=>Bj 205 h g W λi=>GC (Gd 205 c W d a b) (DV v0 λj=>CQ 205 j i λk=>DV v0 λl=>CQ 205 l i λm=>HK .shr 205 m .u64 7 λn=>KX .xor 205 k n λo=>DV v0 λp=>Bj 205 p o i λq=>GC (Gd 205 l i m j k) (DV v0 λi=>CQ 205 i q λr=>DV v0 λs=>CQ 205 s q λt=>HK .shl 205 t .u64 17 λu=>KX .xor 205 r u λv=>DV v0 λw=>Bj 205 w v q λy=>GC (Gd 205 s q t i r) (DV v0 λq=>CQ 205 q y λz=>E9 K [v0] (EY 2 z 32 31 q 30 v0 (A_ 29 w 28 v 27 u 26 t (A_ 25 s 24 v0 23 r 22 i (A_ 21 v0 20 p 19 o 18 n (A_ 17 m 16 l 15 v0 14 k (A_ 13 j 12 v0 11 h 10 g (A_ 9 f 8 d 7 c 6 v0 (BK 5 b 4 a 3 v0 2 (.int .u64 0))))))))) y))):=by kernel_rfl
 dsimp at h;exact h
theorem mz(Q:Ending→CW→Prop)(e:Env)(W:CW):AQ prog Tryz.f152 Q .ret e [] W=Q (.returned (e 2)) W:=by kernel_rfl
def AET{Q v0 W}:=F1 152 33 [v0] Tryz.f152 Q W Tryz.func152 (by kernel_rfl)
theorem yC{x d:Int}(h0:0≤x)(h1:x≤1000000)(hd:0<d):CF prog .quo 3 true (.int .i64 x) (.int .i64 d)=some (.int .i64 (x/d)):=by
 rw[XT _ _ _ (by omega),acz h0];have h2:x/d≤x:=Int.ediv_le_self _ h0;have h3:0≤x/d:=Int.ediv_nonneg h0 (by omega);rw[wrap64 (by omega) (by omega)]
theorem OH{x y:Int}{X Y:Prop}(h1:x≤y→X)(h2:y<x→Y):wI (.bool (decide (x≤y))) X Y:=AH (λh=>h1 (of_decide_eq_true h)) (λh=>h2 (by have:=of_decide_eq_false h;omega))
theorem QQ{x y:Int}{X Y:Prop}(h1:x<y→X)(h2:y≤x→Y):wI (.bool (decide (x<y))) X Y:=AH (λh=>h1 (of_decide_eq_true h)) (λh=>h2 (by have:=of_decide_eq_false h;omega))
theorem QR{x y:Int}{X Y:Prop}(h1:y≤x→X)(h2:x<y→Y):wI (.bool (decide (x≥y))) X Y:=AH (λh=>h1 (of_decide_eq_true h)) (λh=>h2 (by have:=of_decide_eq_false h;omega))
theorem YX{x y:Int}{X Y:Prop}(h1:y<x→X)(h2:x≤y→Y):wI (.bool (decide (x>y))) X Y:=AH (λh=>h1 (of_decide_eq_true h)) (λh=>h2 (by have:=of_decide_eq_false h;omega))
structure PE(e:Env)(b n:Nat)(ki kj:Nat)(a i j:Int):Prop where
 e0:e 0=.slice (some ⟨b,0,none⟩) n n
 e1:e 1=.int .i64 a
 ei:e ki=.int .i64 i
 ej:e kj=.int .i64 j
def Hq(n:Nat):Nat:=if n=0 then 0 else Nat.log2 n+1
theorem AEU(n:Int):cl prog 197 5 (.int .u64 n)=some (.int .u8 (IntKind.u8.wrap n)):=by kernel_rfl
theorem AH0(n:Int):cl prog 5 3 (.int .u8 n)=some (.int .i64 (IntKind.i64.wrap n)):=by kernel_rfl
theorem yD(n:Int):cl prog 3 164 (.int .i64 n)=some (.int .u64 (IntKind.u64.wrap n)):=by kernel_rfl
theorem AH1(n:Int):cl prog 3 205 (.int .i64 n)=some (.int .u64 (IntKind.u64.wrap n)):=by kernel_rfl
theorem AH2(n:Int):cl prog 164 3 (.int .u64 n)=some (.int .i64 (IntKind.i64.wrap n)):=by kernel_rfl
theorem bP{x:Int}(h1:0≤x)(h2:x<18446744073709551616):IntKind.u64.wrap x=x:=by
 unfold IntKind.wrap;simp[IntKind.bits,IntKind.signed];omega
theorem AKg:agg? prog 205=some false:=by kernel_rfl
theorem yE:De prog 205=some 1:=by kernel_rfl
theorem AKh:Hr prog 205=some (.int .u64 0):=by kernel_rfl
theorem yF(x c:Int)(hc:0≤c):∃y,CF prog .shl 205 true (.int .u64 x) (.int .u64 c)=some (.int .u64 y):=by
 refine⟨IntKind.u64.wrap (x*2^(min c.toNat IntKind.u64.bits)),?_⟩;simp only[CF];rw[decide_eq_false (by omega)];rfl
theorem AEV(x c:Int)(hc:0≤c):∃y,CF prog .shr 205 true (.int .u64 x) (.int .u64 c)=some (.int .u64 y):=by
 refine⟨x.fdiv (2^(min c.toNat IntKind.u64.bits)),?_⟩;simp only[CF];rw[decide_eq_false (by omega)];rfl
theorem m0(x y:Int):∃z,CF prog .xor 205 false (.int .u64 x) (.int .u64 y)=some (.int .u64 z):=⟨IntKind.u64.wrap ((BitVec.ofInt 64 x^^^BitVec.ofInt 64 y).toNat),by simp only[CF,Oo,decide_true,cond_true];rfl⟩
theorem m6{W:CW}{s:Nat}{k:Int}(ht:Ag W)(hs:Aq W s 205 [.int .u64 k]):AX prog Bf 152 [.pointer (some ⟨s,0,none⟩)] W (λen W'=>Bm (·=s) W W'∧Ag W'∧∃k',Aq W' s 205 [.int .u64 k']∧en=.returned (.int .u64 k')):=by
 refine AET ?_;rw[AES];have ld:∀{V:CW} {k:Int},Aq V s 205 [.int .u64 k]→Go.Ce.ld prog 205 (.pointer (some ⟨s,0,none⟩)) V=some (.int .u64 k):=λhB=>AD AKg (a:=⟨s,0,none⟩) (hB.cell rfl);obtain⟨x1,h1⟩:=yF k 13 (by omega);obtain⟨x2,h2⟩:=m0 k x1;simp only[C4,ld hs,h1,h2,AA];refine Ac yE (a:=⟨s,0,none⟩) (v:=.int .u64 x2) rfl hs (by simp) λW1 Z2 P_=>?_;have Z2:Dn s W W1:=Z2;have P_:Aq W1 s 205 [.int .u64 x2]:=P_;have t1:=ht.A6 (hs.lt ht) Z2;refine⟨by simp only[and_self],trivial,?_⟩;obtain⟨x3,h3⟩:=AEV x2 7 (by omega);obtain⟨x4,h4⟩:=m0 x2 x3;simp only[ld P_,h3,h4,AA];refine Ac yE (a:=⟨s,0,none⟩) (v:=.int .u64 x4) rfl P_ (by simp) λW2 KU Ey=>?_;have KU:Dn s W1 W2:=KU;have Ey:Aq W2 s 205 [.int .u64 x4]:=Ey;have t2:=t1.A6 (P_.lt t1) KU;refine⟨by simp only[and_self],trivial,?_⟩;obtain⟨x5,h5⟩:=yF x4 17 (by omega);obtain⟨x6,h6⟩:=m0 x4 x5;simp only[ld Ey,h5,h6,AA];refine Ac yE (a:=⟨s,0,none⟩) (v:=.int .u64 x6) rfl Ey (by simp) λW3 Og Fk=>?_;have Og:Dn s W2 W3:=Og;have Fk:Aq W3 s 205 [.int .u64 x6]:=Fk;refine⟨by simp only[and_self],trivial,?_⟩;simp only[ld Fk,AA];rw[mz];exact⟨(Z2.D4.then KU.D4 λ_ _ h=>h).then Og.D4 λ_ _ h=>h,t2.A6 (Ey.lt t2) Og,x6,Fk,rfl⟩
def at_(l:List Int)(i:Int):Int:=(l[i.toNat]?).getD 0
def jL(l:List Int)(i j:Int):List Int:=(l.set j.toNat (at_ l i)).set i.toNat (at_ l j)
theorem AAo(l:List Int)(i j:Int):(jL l i j).length=l.length:=by unfold jL;rw[abX,abX]
theorem OI{l:List Int}{i j k:Int}(hi:0≤i)(H2:i<l.length)(hj:0≤j)(Y4:j<l.length)(hk:0≤k):at_ (jL l i j) k=if k=i then at_ l j else if k=j then at_ l i else at_ l k:=by
 unfold jL;show((((l.set j.toNat (at_ l i)).set i.toNat (at_ l j))[k.toNat]?).getD 0)=_;rw[abG,abG,abX]
 by_cases h1:k=i
 ·subst h1;rw[aad rfl,aad rfl,aad (by omega)];rfl
 ·rw[aac (by omega),aac h1]
  by_cases h2:k=j
  ·subst h2;rw[aad rfl,aad rfl,aad (by omega)];rfl
  ·rw[aac (by omega),aac h2];rfl
inductive SW(lo hi:Int)(l:List Int):List Int→Prop
 |refl:SW lo hi l l
 |step {m:List Int} {i j:Int}:SW lo hi l m→lo≤i→i<hi→lo≤j→j<hi→SW lo hi l (jL m i j)
theorem SW.len{lo hi:Int}{l m:List Int}(h:SW lo hi l m):m.length=l.length:=by
 induction h with
 |refl=>rfl
 |step h _ _ _ _ ih=>rw[AAo,ih]
theorem SW.trans{lo hi:Int}{l m r:List Int}(h:SW lo hi l m)(k:SW lo hi m r):SW lo hi l r:=by
 induction k with
 |refl=>exact h
 |step _ a b c d ih=>exact ih.step a b c d
theorem SW.mono{lo hi s8 Jr:Int}{l m:List Int}(h:SW lo hi l m)(h1:s8≤lo)(h2:hi≤Jr):SW s8 Jr l m:=by
 induction h with
 |refl=>exact .refl
 |step _ a b c d ih=>exact ih.step (by omega) (by omega) (by omega) (by omega)
theorem SW.out{lo hi:Int}{l m:List Int}(h:SW lo hi l m)(h0:0≤lo)(h1:hi≤l.length){k:Int}(uS:0≤k)(hk:k<lo∨hi≤k):at_ m k=at_ l k:=by
 induction h with
 |refl=>rfl
 |step h a b c d ih=>
  have:=h.len;rw[OI (by omega) (by omega) (by omega) (by omega) uS,aac (by omega),aac (by omega),ih]
theorem SW.all{lo hi:Int}{l m:List Int}(h:SW lo hi l m)(h0:0≤lo)(h1:hi≤l.length){P:Int→Prop}(hp:∀k,lo≤k→k<hi→P (at_ l k)):∀k,lo≤k→k<hi→P (at_ m k):=by
 induction h with
 |refl=>exact hp
 | step h a b c d ih=>
  intro k uS fk;have:=h.len;rw[OI (by omega) (by omega) (by omega) (by omega) (by omega)]
  split
  ·exact ih _ c d
  ·split
   ·exact ih _ a b
   ·exact ih k uS fk
theorem SW.perm{lo hi:Int}{l m:List Int}(h:SW lo hi l m)(h0:0≤lo)(h1:hi≤l.length):m.Perm l:=by
 induction h with
 |refl=>exact acP _
 | @step m i j h a b c d ih=>
  have hl:=h.len;refine List.Perm.trans ?_ ih;have Jr:i.toNat<m.length:=by omega
  have hj':j.toNat<m.length:=by omega
  have e1:at_ m i=m[i.toNat]:=by unfold at_;rw[ck Jr];rfl
  have e2:at_ m j=m[j.toNat]:=by unfold at_;rw[ck hj'];rfl
  unfold jL;rw[e1,e2];exact List.set_set_perm hj' Jr
def Std(lo hi:Int)(l:List Int):Prop:=∀i j:Int,lo≤i→i<j→j<hi→at_ l i≤at_ l j
def jM(lo i j:Int)(m:List Int):Prop:=∀x y:Int,lo≤x→x<y→y≤i→y≠j→at_ m x≤at_ m y
theorem jM.step{lo i j:Int}{m:List Int}(h:jM lo i j m)(h0:0≤lo)(hj:lo<j)(hji:j≤i)(H2:i<m.length)(Ao:at_ m j<at_ m (j-1)):jM lo i (j-1) (jL m (j-1) j):=by
 intro x y hx K_ hy Dg;have e:=λk (hk:0≤k)=>OI (l:=m) (i:=j-1) (j:=j) (k:=k) (by omega) (by omega) (by omega) (by omega) hk;rw[e x (by omega),e y (by omega)]
 by_cases hyj:y=j
 ·subst hyj;rw[aac (show¬y=y-1 by omega),aad rfl]
  by_cases ez:x=y-1
  ·rw[aad ez];omega
  ·rw[aac ez,aac (by omega)];exact h x (y-1) hx (by omega) (by omega) (by omega)
 ·rw[aac Dg,aac hyj]
  split
  ·exact h j y (by omega) (by omega) hy hyj
  ·split
   ·exact h (j-1) y (by omega) (by omega) hy hyj
   ·exact h x y hx K_ hy hyj
theorem jM.done{lo i j:Int}{m:List Int}(h:jM lo i j m)(hj:lo≤j)(hs:j=lo∨at_ m (j-1)≤at_ m j)(hd:lo≤i):Std lo (i+1) m:=by
 intro x y hx K_ hy
 by_cases e:y=j
 ·subst e
  rcases hs with hs|hs
  ·omega
  ·by_cases Mh:x=y-1
   ·rw[Mh];exact hs
   ·have:=h x (y-1) hx (by omega) (by omega) (by omega);omega
 ·exact h x y hx K_ (by omega) e
def HP(m:List Int)(f lo hi:Int):Prop:=∀c p:Int,lo≤p→p<c→c<hi→(c=2*p+1∨c=2*p+2)→at_ m (f+c)≤at_ m (f+p)
def SiP(m:List Int)(f lo hi r:Int):Prop:=(∀c p:Int,lo≤p→p≠r→p<c→c<hi→(c=2*p+1∨c=2*p+2)→at_ m (f+c)≤at_ m (f+p))∧∀c p:Int,lo≤p→p<r→(r=2*p+1∨r=2*p+2)→r<c→c<hi→(c=2*r+1∨c=2*r+2)→at_ m (f+c)≤at_ m (f+p)
theorem SiP.step{m:List Int}{f lo hi r d:Int}(h:SiP m f lo hi r)(M_:0≤lo)(hr:lo≤r)(hf:0≤f)(hl:f+hi≤m.length)(hd:d=2*r+1∨d=2*r+2)(hdh:d<hi)(Ao:at_ m (f+r)<at_ m (f+d))(kG:∀c,r<c→c<hi→(c=2*r+1∨c=2*r+2)→at_ m (f+c)≤at_ m (f+d)):SiP (jL m (f+d) (f+r)) f lo hi d:=by
 obtain⟨h1,h2⟩:=h;have e:=λk (hk:0≤k)=>OI (l:=m) (i:=f+d) (j:=f+r) (k:=k) (by omega) (by omega) (by omega) (by omega) hk
 constructor
 ·intro c p hp hpd we hc hcp;rw[e (f+c) (by omega),e (f+p) (by omega),aac (show¬f+p=f+d by omega)]
  by_cases M3:p=r
  ·subst M3;rw[aad rfl]
   by_cases hcd:c=d
   ·rw[aad (by omega)];omega
   ·rw[aac (by omega),aac (by omega)];exact kG c we hc hcp
  ·rw[aac (show¬f+p=f+r by omega),aac (show¬f+c=f+d by omega)]
   by_cases hcr:c=r
   ·rw[aad (by omega)];exact h2 d p hp (by omega) (by omega) (by omega) hdh hd
   ·rw[aac (by omega)];exact h1 c p hp M3 we hc hcp
 ·intro c p hp hpd hdp hdc hc hcd;have M3:p=r:=by omega
  subst M3;rw[e (f+c) (by omega),e (f+p) (by omega),aac (show¬f+c=f+d by omega),aac (show¬f+c=f+p by omega),aac (show¬f+p=f+d by omega),aad rfl];exact h1 c d (by omega) (by omega) hdc hc hcd
theorem HP.root{m:List Int}{f s:Int}(h:HP m f 0 s):∀(n:Nat) (x:Int),x.toNat=n→0≤x→x<s→at_ m (f+x)≤at_ m (f+0):=by
 intro n
 induction n using Nat.strongRecOn with
 |ind n ih=>
  intro x hn h0 hs
  by_cases hx:x=0
  ·rw[hx];exact abx _
  ·have h1:=h x ((x-1)/2) (by omega) (by omega) hs (by omega);have h2:=ih ((x-1)/2).toNat (by omega) ((x-1)/2) rfl (by omega) (by omega);omega
theorem YY{m:List Int}{i j k:Int}{n:Nat}(hm:m.length=n)(hi:0≤i)(H2:i<n)(hj:0≤j)(Y4:j<n)(hk:0≤k):at_ (jL m i j) k=if k=i then at_ m j else if k=j then at_ m i else at_ m k:=OI hi (by omega) hj (by omega) hk
def ND(a hi El:Int)(m:List Int):Prop:=(∀x,a≤x→x<El→at_ m x<at_ m El)∧∀x,El<x→x<hi→at_ m El≤at_ m x
theorem jN{a hi j:Int}{m:List Int}{n:Nat}(hm:m.length=n)(ha:0≤a)(haj:a≤j)(hjh:j<hi)(K2:hi≤n)(hL:∀x,a+1≤x→x<j+1→at_ m x<at_ m a)(hR:∀x,j<x→x≤hi-1→¬at_ m x<at_ m a):ND a hi j (jL m a j):=by
 have e:=λk (hk:0≤k)=>YY (m:=m) (i:=a) (j:=j) (k:=k) hm ha (by omega) (by omega) (by omega) hk
 have ej:at_ (jL m a j) j=at_ m a:=by
  rw[e j (by omega)]
  split
  ·rename_i h;rw[h]
  ·rw[aad rfl]
 constructor
 ·intro x hx0 RJ;rw[ej,e x (by omega)]
  split
  ·exact hL j (by omega) (by omega)
  ·rw[aac (by omega)];exact hL x (by omega) (by omega)
 ·intro x hx0 RJ;rw[ej,e x (by omega),aac (by omega),aac (by omega)];have:=hR x hx0 (by omega);omega
structure QE(e:Env)(b n:Nat)(a hi LQ:Int)(wb wp:Bool):Prop where
 e0:e 0=.slice (some ⟨b,0,none⟩) n n
 e1:e 1=.int .i64 a
 e2:e 2=.int .i64 hi
 e3:e 3=.int .i64 LQ
 e8:e 8=.bool wb
 e9:e 9=.bool wp
structure QI(a0 FZ a hi:Int)(m:List Int):Prop where
 l:Std a0 a m
 r:Std hi FZ m
 lx:∀x y,a0≤x→x<a→a≤y→y<FZ→at_ m x≤at_ m y
 xr:∀x y,a0≤x→x<hi→hi≤y→y<FZ→at_ m x≤at_ m y
 pre:0<a→∀x,a≤x→x<hi→at_ m (a-1)≤at_ m x
section
variable {a0 FZ a hi El:Int}{m m2:List Int}
theorem QI.sw(h:QI a0 FZ a hi m)(h0:0≤a0)(h1:a0≤a)(h2:hi≤FZ)(hl:FZ≤m.length)(s:SW a hi m m2)(pL:a≤hi):QI a0 FZ a hi m2:=by
 have out:=λk (hk:0≤k) (s_:k<a∨hi≤k)=>s.out (by omega) (by omega) hk s_;have all:=λ(P:Int→Prop) hp=>s.all (P:=P) (by omega) (by omega) hp
 refine⟨λx y hx K_ hy=>?_,λx y hx K_ hy=>?_,λx y hx wQ hy m8=>?_,λx y hx Ss hy m8=>?_,λha x hx Ss=>?_⟩
 ·rw[out x (by omega) (by omega),out y (by omega) (by omega)];exact h.l x y hx K_ hy
 ·rw[out x (by omega) (by omega),out y (by omega) (by omega)];exact h.r x y hx K_ hy
 ·rw[out x (by omega) (by omega)]
  by_cases hh:hi≤y
  ·rw[out y (by omega) (by omega)];exact h.lx x y hx wQ hy m8
  ·exact all (λv=>at_ m x≤v) (λk k0 k1=>h.lx x k hx wQ k0 (by omega)) y hy (by omega)
 ·rw[out y (by omega) (by omega)]
  by_cases hh:x<a
  ·rw[out x (by omega) (by omega)];exact h.xr x y hx Ss hy m8
  ·exact all (λv=>v≤at_ m y) (λk k0 k1=>h.xr k y (by omega) k1 hy m8) x (by omega) Ss
 ·rw[out (a-1) (by omega) (by omega)];exact all (λv=>at_ m (a-1)≤v) (λk k0 k1=>h.pre ha k k0 k1) x hx Ss
theorem QI.done(h:QI a0 FZ a hi m)(hs:Std a hi m):Std a0 FZ m:=by
 intro x y hx K_ hy
 by_cases h1:y<a
 ·exact h.l x y hx K_ h1
 ·by_cases h2:x<a
  ·exact h.lx x y hx h2 (by omega) hy
  ·by_cases h3:y<hi
   ·exact hs x y (by omega) K_ h3
   ·by_cases h4:x<hi
    ·exact h.xr x y hx h4 (by omega) hy
    ·exact h.r x y (by omega) K_ hy
theorem QI.left(h:QI a0 FZ a hi m)(h1:a0≤a)(O3:a≤El)(Br:El<hi)(h2:hi≤FZ)(hP:ND a hi El m)(hs:Std a El m):QI a0 FZ (El+1) hi m:=by
 refine⟨λx y hx K_ hy=>?_,h.r,λx y hx wQ hy m8=>?_,h.xr,λha x hx Ss=>?_⟩
 ·by_cases g1:y<a
  ·exact h.l x y hx K_ g1
  ·by_cases g2:x<a
   ·exact h.lx x y hx g2 (by omega) (by omega)
   ·by_cases g3:y=El
    ·rw[g3];exact Int.le_of_lt (hP.1 x (by omega) (by omega))
    ·exact hs x y (by omega) K_ (by omega)
 ·by_cases g1:x<a
  ·exact h.lx x y hx g1 (by omega) m8
  ·by_cases g2:y<hi
   ·have:=hP.2 y (by omega) g2
    by_cases g3:x=El
    ·rw[g3];exact this
    ·have:=hP.1 x (by omega) (by omega);omega
   ·exact h.xr x y hx (by omega) (by omega) m8
 ·rw[show El+1-1=El by omega];exact hP.2 x (by omega) Ss
theorem QI.right(h:QI a0 FZ a hi m)(h1:a0≤a)(O3:a≤El)(Br:El<hi)(h2:hi≤FZ)(hP:ND a hi El m)(hs:Std (El+1) hi m):QI a0 FZ a El m:=by
 refine⟨h.l,λx y hx K_ hy=>?_,h.lx,λx y hx Ss hy m8=>?_,λha x hx Ss=>h.pre ha x hx (by omega)⟩
 ·by_cases g1:y<hi
  ·by_cases g2:x=El
   ·rw[g2];exact hP.2 y (by omega) g1
   ·exact hs x y (by omega) K_ g1
  ·by_cases g2:x<hi
   ·exact h.xr x y (by omega) g2 (by omega) hy
   ·exact h.r x y (by omega) K_ hy
 ·by_cases g1:x<a
  ·exact h.lx x y hx g1 (by omega) m8
  ·by_cases g2:y<hi
   ·have:=hP.1 x (by omega) Ss
    by_cases g3:y=El
    ·rw[g3];omega
    ·have:=hP.2 y (by omega) g2;omega
   ·exact h.xr x y hx (by omega) (by omega) m8
theorem QI.equal(h:QI a0 FZ a hi m){v:Int}(h1:a0≤a)(O3:a<El)(Br:El≤hi)(h2:hi≤FZ)(Ji:∀x,a≤x→x<hi→v≤at_ m x)(hL:∀x,a≤x→x<El→at_ m x≤v)(hR:∀x,El≤x→x<hi→v<at_ m x):QI a0 FZ El hi m:=by
 refine⟨λx y hx K_ hy=>?_,h.r,λx y hx wQ hy m8=>?_,h.xr,λha x hx Ss=>?_⟩
 ·by_cases g1:y<a
  ·exact h.l x y hx K_ g1
  ·by_cases g2:x<a
   ·exact h.lx x y hx g2 (by omega) (by omega)
   ·have:=hL x (by omega) (by omega);have:=Ji y (by omega) (by omega);omega
 ·by_cases g1:x<a
  ·exact h.lx x y hx g1 (by omega) m8
  ·by_cases g2:y<hi
   ·have:=hL x (by omega) wQ;have:=hR y hy g2;omega
   ·exact h.xr x y hx (by omega) (by omega) m8
 ·have:=hL (El-1) (by omega) (by omega);have:=hR x hx Ss;omega
theorem ND.swl(hP:ND a hi El m)(h0:0≤a)(O3:a≤El)(Br:El<hi)(hl:hi≤m.length)(s:SW a El m m2):ND a hi El m2:=by
 have out:=λk (hk:0≤k) (s_:k<a∨El≤k)=>s.out (by omega) (by omega) hk s_
 refine⟨λx hx hxm=>?_,λx hx Ss=>?_⟩
 ·rw[out El (by omega) (by omega)];exact s.all (P:=λv=>v<at_ m El) (by omega) (by omega) (λk k0 k1=>hP.1 k k0 k1) x hx hxm
 ·rw[out El (by omega) (by omega),out x (by omega) (by omega)];exact hP.2 x hx Ss
theorem ND.swr(hP:ND a hi El m)(h0:0≤a)(O3:a≤El)(Br:El<hi)(hl:hi≤m.length)(s:SW (El+1) hi m m2):ND a hi El m2:=by
 have out:=λk (hk:0≤k) (s_:k<El+1∨hi≤k)=>s.out (by omega) (by omega) hk s_
 refine⟨λx hx hxm=>?_,λx hx Ss=>?_⟩
 ·rw[out El (by omega) (by omega),out x (by omega) (by omega)];exact hP.1 x hx hxm
 ·rw[out El (by omega) (by omega)];exact s.all (P:=λv=>at_ m El≤v) (by omega) (by omega) (λk k0 k1=>hP.2 k (by omega) k1) x (by omega) Ss
end
def yG(v0 v1 v2 v3:Value)(K:AB)(W:CW):=by
 have h:HM 115 134 [v0,v1,v2,v3] W K=EB 115 134 [v0,v1,v2,v3] (Ft 9 Du 8 []) W K:=by kernel_rfl
 dsimp at h;exact h
def L_(ro:Option Nat)(K:AB):AB:=Gu (λa b c=>let d:=Bz 98 (EO a) 97 (DE a) 96 a 1 95 [];Nx 137 (Ai a) (BN a) (DE a) (EO a) c (λc f=>Db c λg=>Dc c λh=>DQ .sub g (BN a) λi=>H9 .sub 3 a 2 g λj=>NL .quo 3 a 10 8 λk=>DQ .lss i j λl=>let c:=F2 113 l 112 j (A_ 111 i 18 k 110 k 109 (DW a) (A_ 17 j 16 i 108 j 107 g (Gp 106 (DE a) 105 i 104 a 1 103 g (EY 9 h 102 15 h 14 g (Dh 101 h 100 g 94 c 99 d)))));wI l (DQ .geq i k λd=>let c:=Bz 120 (Di a) 119 g 118 a 1 117 (EY 8 d 116 115 k 114 i c);Nx 115 (Ai a) (BN a) g (Di a) f (λd f=>Ju g 1 λh=>TM K a (EY 1 h 123 122 g 121 d c) b f) λd f=>CJ K d a c b f) (DQ .geq j k λd=>Ju g 1 λh=>let c:=eC 131 (Di a) (A_ 130 (DE a) 129 h 128 g 127 (Ai a) (EY 8 d 126 125 k 124 j c));Nx 115 (Ai a) h (DE a) (Di a) f (λd f=>TM K a (FR 2 g 133 132 d c) b f) λd f=>CJ K d a c b f)) λc f=>CJ K c a d b f) K
def YZ:=by
 have h:=@L_.eq_1;dsimp at h;exact h
def SE(ro:Option Nat)(K:AB):AB:=Ab (λa b c=>let d:=Bz 91 (EO a) 90 (DE a) 89 a 1 88 [];XK a 87 (Nx 136 (Ai a) (BN a) (DE a) (EO a) c (λc f=>lK (L_ ro K) 1 a (XJ 1 c 93 c 13 c 92 d) b f) λc f=>CJ (L_ ro K) c a d b f) (L_ ro K) a b c) (L_ ro K)
def m9:=by
 have h:=@SE.eq_1;dsimp at h;exact h
def J_(ro:Option Nat)(K:AB):AB:=Gu (λa b c=>NL .gtr 3 a 1 0 λd=>let f:=oG 75 d 74 73 a 1;Km d (D_ a 1 λd=>FQ a d λg=>As g c λh=>DH a 11 λi=>As i c λj=>Kn h j c (λk l=>D3 k λm=>HW (Gd 9 i c j g h) (SE ro K) a 87 m (Ft 86 m 75 (Bl 85 k 75 84 j (Bl 83 i 75 82 (EO a) (Bl 81 (Ai a) 75 80 h (Bl 79 g 75 78 d (Fv 77 (BN a) 75 76 a f)))))) b l) λ_ _=>False) True (SE ro K) a (GF 87 (DD 86 undef 75 (Lf 85 75 84 (By 83 75 82 81 80 (By 79 75 78 77 76 f))))) b c) K
def Yg:=by
 have h:=@J_.eq_1;dsimp at h;exact h
def OJ(ro:Option Nat)(K:AB):AB:=Ab (λa b c=>let d:=HY 71 (DE a) 70 (BN a) 69 (Ai a);XK a 68 (GD 134 (Ai a) (BN a) (DE a) c (λc f=>Dm c (Gj (J_ ro K) a (eC 72 c d) b f) (J_ ro K) a (eC 72 c d) b f) λc f=>CJ (J_ ro K) c a d b f) (J_ ro K) a b c) (J_ ro K)
def m_:=by
 have h:=@OJ.eq_1;dsimp at h;exact h
def OK(ro:Option Nat)(K:AB):AB:=Gu (λa b c=>let d:=F2 65 (DP a) 64 (DP a) (Ft 63 (DP a) 62 (Fu 62 (CY a) 61 (CY a)));Dm (CY a) (Dm (DP a) (NL .eql 186 a 12 1 λf=>GU (OJ ro K) a 68 f (Bl 67 f 65 66 (a 12) d) b c) (OJ ro K) a (GF 68 (Lf 67 65 66 d)) b c) (OJ ro K) a (GF 68 (Lf 67 65 66 (Lg 65 CL 64 63 undef 62 (Fu 62 (CY a) 61 (CY a))))) b c) K
def nA:=by
 have h:=@OK.eq_1;dsimp at h;exact h
def OL(ro:Option Nat)(K:AB):AB:=Gu (λa b c=>let d:=HY 45 (DE a) 44 (BN a) 43 (Ai a);GD 132 (Ai a) (BN a) (DE a) c (λc f=>Db c λg=>Dc c λh=>XI .eql 186 h 2 λi=>let c:=A_ 50 i 49 h 12 h 11 g (Dh 48 h 47 g 42 c 46 d);let d:=DB 53 (DE a) 52 (BN a) 51 (Ai a) c;Dm i (GD 133 (Ai a) (BN a) (DE a) f (λc f=>D_ a 2 λh=>DQ .sub g (BN a) λi=>DQ .sub h i λj=>GU (OK ro K) a 12 (TN 1) (EY 11 j 60 59 i 58 (BN a) (Gp 57 g 56 h 55 a 2 54 c d)) b f) λc f=>CJ (OK ro K) c a d b f) (OK ro K) a c b f) λc f=>CJ K c a d b f) K
def nB:=by
 have h:=@OL.eq_1;dsimp at h;exact h
def pM(ro:Option Nat)(e:Env)(ds:List Deferred)(K:AB)(W:CW):=by
 have h:Dd ro 115 134 e ds W K=Im .sub e 2 1 λa=>ED .leq a 12 λb=>let a:=F2 23 b 22 a (E_ 10 a 21 a 20 e 1 19 (DE e));let c:=DB 26 (DE e) 25 (BN e) 24 (Ai e) a;wI b (GD 129 (Ai e) (BN e) (DE e) W (λa b=>Gj K e (eC 27 a c) ds b) λa b=>CJ K a e c ds b) (NL .eql 3 e 3 0 λb=>let c:=eC 32 (DE e) (A_ 31 (BN e) 30 (Ai e) 29 b 28 (Di e) a);wI b (GD 130 (Ai e) (BN e) (DE e) W (λa b=>Gj K e (eC 33 a c) ds b) λa b=>CJ K a e c ds b) (D3 (CY e) λc=>let a:=A_ 35 c 34 (CY e) 29 b 28 (Di e) a;let b:=DB 38 (DE e) 37 (BN e) 36 (Ai e) a;Dm c (GD 131 (Ai e) (BN e) (DE e) W (λa c=>D_ e 3 λd=>TM (OL ro K) e (Gp 3 d 41 d 40 e 3 39 a b) ds c) λa c=>CJ (OL ro K) a e b ds c) (OL ro K) e a ds W)):=by kernel_rfl
 dsimp at h;exact h
def yH{Q v0 v1 v2 v3 W}:=F1 115 134 [v0,v1,v2,v3] Tryz.f115 Q W Tryz.func115 (by kernel_rfl)
def yI(v0 v1 v2:Value)(K:AB)(W:CW):=by
 have h:H5 129 49 v0 v1 v2 W K=Ju v1 1 λa=>EB 129 49 [v0,v1,v2] (FR 6 a 9 8 v1 []) W K:=by kernel_rfl
 dsimp at h;exact h
def eN(ro:Option Nat)(K:AB):AB:=Ab (λa b c=>B_ a 6 λd=>GK K a 6 d 14 13 b c) K
def sO:=by
 have h:=@eN.eq_1;dsimp at h;exact h
def pN(ro:Option Nat)(e:Env)(ds:List Deferred)(K:AB)(W:CW):=by
 have h:Dd ro 129 49 e ds W K=FU e 6 2 λa=>let b:=Nw 12 a 11 (DE e) 10 e 6;P6 a (Ko ro 129 49 1 e (F2 7 (Et e) 15 (Et e) b) ds W 2 (CX 1 (eN ro K))) K 0 e b ds W:=by kernel_rfl
 dsimp at h;exact h
def pO(ro:Option Nat)(K:AB):AB:=Ab (λa b c=>D_ a 7 λd=>GK K a 7 d 32 31 b c) K
def bQ:=by
 have h:=@pO.eq_1;dsimp at h;exact h
def WA(ro:Option Nat)(K:AB):AB:=Ab (λa b c=>D_ a 7 λd=>D_ a 7 λf=>FQ a f λg=>As g c λh=>DH a 7 λi=>As i c λj=>DH a 7 λk=>EA k h c λl=>FQ a d λm=>EA m j l λl=>HA (H7 9 i c j 9 g c h) (pO ro K) a (A_ 48 m 47 k 46 j 45 i (A_ 44 (Da a) 43 (Ai a) 42 h 41 g (A_ 40 f 39 (Da a) 38 (Ai a) 37 d (Bz 36 (Da a) 35 (Ai a) 34 a 7 33 [])))) b l) K
def bR:=by
 have h:=@WA.eq_1;dsimp at h;exact h
def WB(ro:Option Nat)(K:AB):AB:=Ab (λe ds W=>wI (e 30) ((WA ro K) .normal e ds W) ((WA ro K) (.exit 2) e ds W)) (WA ro K)
def AAp(ro:Option Nat)(e:Env)(ds:List Deferred)(K:AB)(W:CW):=by
 have h:H3 ro 129 49 1 e ds W K=Im .gtr e 7 1 λa=>let b:=E_ 19 a 18 a 17 e 1 16 (Da e);Km a (DH e 7 λa=>As a W λc=>D_ e 7 λd=>FQ e d λf=>As f W λg=>Kn c g W (λh i=>HW (Gd 9 f W g a c) (WB ro K) e 30 h (Bl 29 h 19 28 g (Bl 27 f 19 26 d (Fv 25 (Da e) 19 24 e (Bl 23 c 19 22 a (Fv 21 (Da e) 19 20 e b))))) ds i) λ_ _=>False) True (WB ro K) e (GF 30 (Lf 29 19 28 (By 27 19 26 25 24 (By 23 19 22 21 20 b)))) ds W:=by kernel_rfl
 dsimp at h;exact h
def yJ{Q v0 v1 v2 W}:=F1 129 49 [v0,v1,v2] Tryz.f129 Q W Tryz.func129 (by kernel_rfl)
def pP(ro:Option Nat)(K:AB):AB:=Ab (λa b c=>D_ a 8 λd=>Ko ro 130 56 1 a (oG 10 d 28 27 a 8) b c 2 K) K
def sP:=by
 have h:=@pP.eq_1;dsimp at h;exact h
def AEW(v0 v1 v2:Value)(K:AB)(W:CW):=by
 have h:H5 130 56 v0 v1 v2 W K=DQ .sub v2 v1 λa=>Lh a 1 λb=>ED .quo b 2 λc=>EB 130 56 [v0,v1,v2] (FR 9 c 17 16 b (EY 15 a 8 14 a 13 v1 (BK 12 v2 7 Be 6 v1 11 v1))) W (pP none K):=by kernel_rfl
 dsimp at h;exact h
def eO(ro:Option Nat)(K:AB):AB:=Ab (λa b c=>D_ a 9 λd=>GK K a 9 d 21 20 b c) K
def sQ:=by
 have h:=@eO.eq_1;dsimp at h;exact h
def AAq(ro:Option Nat)(e:Env)(ds:List Deferred)(K:AB)(W:CW):=by
 have h:Dd ro 130 56 e ds W K=NL .geq 3 e 9 0 λa=>let b:=F2 25 (Et e) 24 (CY e) (BK 23 (DP e) 22 (Ai e) 19 a 18 (DP e));P6 a (Nx 150 (Ai e) (DP e) (CY e) (Et e) W (λa c=>GU (eO ro K) e 26 a b ds c) λa c=>CJ (eO ro K) a e b ds c) K 0 e (Fu 19 a 18 (DP e)) ds W:=by kernel_rfl
 dsimp at h;exact h
def eP(ro:Option Nat)(K:AB):AB:=Ab (λa b c=>D_ a 10 λd=>GK K a 10 d 32 31 b c) K
def sR:=by
 have h:=@eP.eq_1;dsimp at h;exact h
def AAr(ro:Option Nat)(e:Env)(ds:List Deferred)(K:AB)(W:CW):=by
 have h:H3 ro 130 56 1 e ds W K=NL .geq 3 e 10 0 λa=>P6 a (PI e 6 10 λb=>PI e 6 10 λc=>FQ e c λd=>As d W λf=>DH e 6 λg=>As g W λh=>DH e 6 λi=>EA i f W λj=>FQ e b λk=>let a:=Bz 54 (Et e) 53 (DW e) 52 e 7 51 (A_ 50 k 49 i 48 h 47 g (A_ 46 (Et e) 45 (Ai e) 44 f 43 d (Bz 42 c 41 (DW e) 40 e 6 39 (Bz 38 b 37 (DW e) 36 e 6 35 (BK 34 (Et e) 33 (Ai e) 30 a 29 (DW e))))));EA k h j λb=>GC (H7 9 g W h 9 d W f) (Nx 150 (Ai e) (Da e) (DW e) (Et e) b (λb c=>GU (eP ro K) e 55 b a ds c) λb c=>CJ (eP ro K) b e a ds c)) K 2 e (Fu 30 a 29 (DW e)) ds W:=by kernel_rfl
 dsimp at h;exact h
def AEX{Q v0 v1 v2 W}:=F1 130 56 [v0,v1,v2] Tryz.f130 Q W Tryz.func130 (by kernel_rfl)
def AEY(v0 v1 v2:Value)(K:AB)(W:CW):=by
 have h:H5 131 65 v0 v1 v2 W K=DQ .sub v2 v1 λa=>ED .geq a 8 λb=>let c:=F2 15 b 14 a (BK 6 a 13 a 12 v1 11 v2);Dm b (wV (cl prog 3 205 a) λb=>Bp 205 W λd f=>let c:=A_ 18 a 7 d 17 b 16 a c;Bj 205 d b f λb=>GJ 151 a b (λb d=>ED .quo a 4 λf=>ED .mul f 2 λg=>DQ .add v1 g λh=>Lh h 1 λi=>EB 131 65 [v0,v1,v2] (eC 9 i (A_ 25 i 24 h 23 g 22 f (Dh 21 a 20 v1 8 b 19 c))) d K) λa b=>H6 K a v0 v1 v2 c b) K (M6 v0 v1 v2) c [] W:=by kernel_rfl
 dsimp at h;exact h
def WC(ro:Option Nat)(K:AB):AB:=Ab (λa b c=>B_ a 9 λd=>GK K a 9 d 35 34 b c) K
def sS:=by
 have h:=@WC.eq_1;dsimp at h;exact h
def WD(ro:Option Nat)(K:AB):AB:=Gu (λa b c=>PI a 1 10 λd=>PI a 1 10 λf=>FQ a f λg=>As g c λh=>DH a 9 λi=>As i c λj=>DH a 9 λk=>EA k h c λl=>FQ a d λm=>EA m j l λl=>HA (H7 9 i c j 9 g c h) (WC ro K) a (F2 64 m 63 k (Bz 62 j 61 i 60 a 9 59 (A_ 58 h 57 g 56 f 55 (DW a) (A_ 54 (BN a) 53 (Ai a) 52 d 51 (DW a) (Bz 50 (BN a) 49 (Ai a) 48 a 9 47 []))))) b l) (WC ro K)
def sT:=by
 have h:=@WD.eq_1;dsimp at h;exact h
def AAs(ro:Option Nat)(e:Env)(ds:List Deferred)(K:AB)(W:CW):=by
 have h:Dd ro 131 65 e ds W K=NL .quo 3 e 6 4 λa=>ED .mul a 2 λb=>H9 .add 3 e 1 b λc=>Ju c 1 λd=>H9 .leq 3 e 9 d λf=>let a:=A_ 33 f 32 d 31 c 30 b (E_ 29 a 28 (Et e) 27 e 1 26 (DP e));P6 f (GJ 152 (Da e) W (λb c=>c_ .sub 164 true e 8 (.int .u64 1) λd=>KX .and 164 b d λf=>wV (cl prog 164 3 f) λg=>DQ .geq g (Et e) λh=>let a:=eC 43 h (XJ 42 (Et e) 41 g 10 g 40 (Gp 39 f 38 d 37 e 8 36 b a));Dm h (DQ .sub g (Et e) λb=>TM (WD ro K) e (Gp 10 b 46 b 45 e 6 44 g a) ds c) (WD ro K) e a ds c) λb c=>CJ (WC ro K) b e a ds c) K 0 e a ds W:=by kernel_rfl
 dsimp at h;exact h
def AEZ{Q v0 v1 v2 W}:=F1 131 65 [v0,v1,v2] Tryz.f131 Q W Tryz.func131 (by kernel_rfl)
def SF(ro:Option Nat)(K:AB):AB:=Ab (λa b c=>DG 3 a 9 c λd=>ED .eql d 0 λf=>let g:=FR 51 f 52 49 d [];wI f (Gj K a (qc 7 (TN 1) 6 (EO a) 53 a 11 g) b c) (ED .eql d 12 λd=>wI d (Gj K a (eC 7 (TN 2) (Dh 6 (EO a) 56 (EO a) 54 d 55 g)) b c) (Gj K a (eC 7 Be (Dh 6 (EO a) 50 (EO a) 54 d 55 g)) b c))) K
def sU:=by
 have h:=@SF.eq_1;dsimp at h;exact h
def Mw(ro:Option Nat)(K:AB):AB:=Ab (λa b c=>let d:=Bz 47 (a 12) 46 (EO a) 45 a 10 44 [];TO 154 [Ai a,DW a,EO a,a 12,DP a] c (λc f=>Lc (SF ro K) a 11 c 48 d b f) λc f=>CJ (SF ro K) c a d b f) (SF ro K)
def sV:=by
 have h:=@Mw.eq_1;dsimp at h;exact h
def AEa(v0 v1 v2:Value)(K:AB)(W:CW):=by
 have h:H5 132 57 v0 v1 v2 W K=DQ .sub v2 v1 λa=>Bp 3 W λb c=>ED .quo a 4 λd=>ED .mul d 1 λf=>DQ .add v1 f λg=>ED .quo a 4 λh=>ED .mul h 2 λi=>DQ .add v1 i λj=>ED .quo a 4 λk=>ED .mul k 3 λl=>DQ .add v1 l λm=>ED .geq a 8 λn=>let d:=DB 32 n 31 a 12 m (A_ 30 m 29 l 28 k 27 a (A_ 26 v1 11 j 25 j 24 i (A_ 23 h 22 a 21 v1 10 g (A_ 20 g 19 f 18 d 17 a (Dh 16 v1 9 b 8 a 15 (BK 14 v1 13 v2 7 Be 6 Be))))));Dm n (ED .geq a 50 λf=>let h:=A_ 36 g 35 v0 34 f 33 a d;Dm f (GD 153 v0 g b c (λa c=>let a:=Dh 39 j 38 v0 10 a 37 h;GD 153 v0 j b c (λc d=>let a:=Dh 42 m 41 v0 11 c 40 a;GD 153 v0 m b d (λb c=>Lc (Mw none K) (M6 v0 v1 v2) 12 b 43 a [] c) λb c=>H6 (Mw none K) b v0 v1 v2 a c) λb c=>H6 (Mw none K) b v0 v1 v2 a c) λa b=>H6 (Mw none K) a v0 v1 v2 h b) (Mw none K) (M6 v0 v1 v2) (F2 34 f 33 a d) [] c) (SF none K) (M6 v0 v1 v2) d [] c:=by kernel_rfl
 dsimp at h;exact h
theorem QS(Q:Ending→CW→Prop)(e:Env)(W:CW):AQ prog Tryz.f132 Q .ret e [] W=Q (.returned (.tuple #[e 6,e 7])) W:=by kernel_rfl
def AEb{Q v0 v1 v2 W}:=F1 132 57 [v0,v1,v2] Tryz.f132 Q W Tryz.func132 (by kernel_rfl)
def AEc(v0 v1 v2:Value)(K:AB)(W:CW):=by
 have h:H5 133 32 v0 v1 v2 W K=Lh v2 1 λa=>EB 133 32 [v0,v1,v2] (eC 7 a (BK 10 a 9 v2 6 v1 8 v1)) W K:=by kernel_rfl
 dsimp at h;exact h
def AAt(ro:Option Nat)(e:Env)(ds:List Deferred)(K:AB)(W:CW):=by
 have h:Dd ro 133 32 e ds W K=FU e 6 7 λa=>let b:=Nw 13 a 12 (Da e) 11 e 6;P6 a (DH e 7 λa=>As a W λc=>DH e 6 λd=>As d W λf=>DH e 6 λg=>EA g c W λh=>DH e 7 λi=>EA i f h λh=>GC (H7 9 d W f 9 a W c) (B_ e 6 λj=>D_ e 7 λk=>TM K e (Gp 7 k 31 k 30 e 7 6 j (A_ 29 j 28 (Et e) 27 i 26 g (Bz 25 f 24 d 23 e 6 22 (Bz 21 c 20 a 19 e 7 18 (Bz 17 (Da e) 16 (Ai e) 15 e 6 14 b))))) ds h)) K 0 e b ds W:=by kernel_rfl
 dsimp at h;exact h
def AEd{Q v0 v1 v2 W}:=F1 133 32 [v0,v1,v2] Tryz.f133 Q W Tryz.func133 (by kernel_rfl)
def IZ(ro:Option Nat)(K:AB):AB:=Ab (λe ds W=>K .ret (Env.of e [(6,(.bool false))]) ds W) K
def AEe(v0 v1 v2:Value)(K:AB)(W:CW):=by
 have h:H5 134 133 v0 v1 v2 W K=Ju v1 1 λa=>EB 134 133 [v0,v1,v2] (DB 8 Be 7 a 12 a (DD 11 v1 6 [])) W (IZ none K):=by kernel_rfl
 dsimp at h;exact h
def Jg(ro:Option Nat)(K:AB):AB:=Ab (λa b c=>B_ a 8 λd=>GK K a 8 d 16 15 b c) K
def UG:=by
 have h:=@Jg.eq_1;dsimp at h;exact h
def SG(ro:Option Nat)(K:AB):AB:=Gu (λa b c=>Im .sub a 2 7 λd=>ED .geq d 2 λf=>let d:=E_ 98 f 97 d 96 a 7 95 (DE a);Dm f (B_ a 7 λf=>Ko ro 134 133 3 a (qc 10 f 100 f 99 a 7 d) b c 6 (CX 1 (Jg ro K))) (Jg ro K) a d b c) (Jg ro K)
def sW:=by
 have h:=@SG.eq_1;dsimp at h;exact h
def WE(ro:Option Nat)(K:AB):AB:=Gu (λa b c=>Im .eql a 7 2 λd=>let f:=Nw 37 d 36 (DE a) 35 a 7;wI d (Gj (Jg ro K) a (H4 6 f) b c) (Im .sub a 2 1 λd=>ED .lss d 50 λg=>let d:=Gp 41 g 40 d 39 a 1 38 (DE a) f;wI g (aA (Jg ro K) a 6 d b c) (D_ a 7 λf=>D_ a 7 λg=>FQ a g λh=>As h c λi=>DH a 7 λj=>As j c λk=>DH a 7 λl=>EA l i c λm=>FQ a f λn=>EA n k m λm=>GC (H7 9 j c k 9 h c i) (Im .sub a 7 1 λc=>ED .geq c 2 λo=>let c:=Gp 61 o 60 c 59 a 1 58 (Da a) (A_ 57 n 56 l 55 k 54 j (A_ 53 (Da a) 52 (Ai a) 51 i 50 h (A_ 49 g 48 (Da a) 47 (Ai a) 46 f (Bz 45 (Da a) 44 (Ai a) 43 a 7 42 d))));Dm o (D_ a 7 λd=>Ko ro 134 133 2 a (qc 9 d 63 d 62 a 7 c) b m 4 (SG ro K)) (SG ro K) a c b m)))) (Jg ro K)
def sX:=by
 have h:=@WE.eq_1;dsimp at h;exact h
def AAu(ro:Option Nat)(e:Env)(ds:List Deferred)(K:AB)(W:CW):=by
 have h:Dd ro 134 133 e ds W K=NL .lss 3 e 8 5 λa=>P6 a (Ko ro 134 133 1 e (Fu 14 a 13 (CY e)) ds W 2 (WE ro K)) K 0 e (Fu 14 a 13 (CY e)) ds W:=by kernel_rfl
 dsimp at h;exact h
def WG(ro:Option Nat)(K:AB):AB:=Ab (λa b c=>B_ a 7 λd=>GK K a 7 d 34 33 b c) K
def bS:=by
 have h:=@WG.eq_1;dsimp at h;exact h
def WH(ro:Option Nat)(K:AB):AB:=Ab (λe ds W=>wI (e 32) ((WG ro K) .normal e ds W) ((WG ro K) (.exit 2) e ds W)) (WG ro K)
def AAv(ro:Option Nat)(e:Env)(ds:List Deferred)(K:AB)(W:CW):=by
 have h:H3 ro 134 133 1 e ds W K=FU e 7 2 λa=>let b:=E_ 20 a 19 a 18 e 2 17 (Da e);Km a (DH e 7 λa=>As a W λc=>D_ e 7 λd=>FQ e d λf=>As f W λg=>Kn c g W (λh i=>D3 h λj=>HW (Gd 9 f W g a c) (WH ro K) e 32 j (Ft 31 j 20 (Bl 30 h 20 29 g (Bl 28 f 20 27 d (Fv 26 (Da e) 20 25 e (Bl 24 c 20 23 a (Fv 22 (Da e) 20 21 e b)))))) ds i) λ_ _=>False) True (WH ro K) e (GF 32 (DD 31 undef 20 (Lf 30 20 29 (By 28 20 27 26 25 (By 24 20 23 22 21 b))))) ds W:=by kernel_rfl
 dsimp at h;exact h
def Yh(ro:Option Nat)(K:AB):AB:=Ab (λa b c=>D_ a 9 λd=>GK K a 9 d 67 66 b c) K
def Yi:=by
 have h:=@Yh.eq_1;dsimp at h;exact h
def AAw(ro:Option Nat)(e:Env)(ds:List Deferred)(K:AB)(W:CW):=by
 have h:H3 ro 134 133 2 e ds W K=NL .geq 3 e 9 1 λa=>P6 a (DH e 9 λb=>As b W λc=>D_ e 9 λd=>FQ e d λf=>As f W λg=>Kn c g W (λh i=>D3 h λj=>let a:=eC 78 j (A_ 77 h 76 g 75 f 74 d (A_ 73 (DP e) 72 (Ai e) 71 c 70 b (BK 69 (DP e) 68 (Ai e) 65 a 64 (DP e))));GC (Gd 9 f W g b c) (wI j (lK (Yh ro K) 4 e a ds i) (D_ e 9 λb=>D_ e 9 λc=>FQ e c λd=>As d i λf=>DH e 9 λg=>As g i λh=>DH e 9 λj=>EA j f i λk=>FQ e b λl=>EA l h k λk=>HA (H7 9 g i h 9 d i f) (Yh ro K) e (A_ 94 l 93 j 92 h 91 g (A_ 90 (DP e) 89 (Ai e) 88 f 87 d (A_ 86 c 85 (DP e) 84 (Ai e) 83 b (Bz 82 (DP e) 81 (Ai e) 80 e 9 79 a)))) ds k))) λ_ _=>False) K 4 e (Fu 65 a 64 (DP e)) ds W:=by kernel_rfl
 dsimp at h;exact h
def Yj(ro:Option Nat)(K:AB):AB:=Ab (λa b c=>B_ a 10 λd=>GK K a 10 d 105 104 b c) K
def Yk:=by
 have h:=@Yj.eq_1;dsimp at h;exact h
def AAx(ro:Option Nat)(e:Env)(ds:List Deferred)(K:AB)(W:CW):=by
 have h:H3 ro 134 133 3 e ds W K=FU e 10 2 λa=>let b:=Nw 103 a 102 (DE e) 101 e 10;P6 a (DH e 10 λa=>As a W λc=>D_ e 10 λd=>FQ e d λf=>As f W λg=>Kn c g W (λh i=>D3 h λj=>let b:=DB 116 j 115 h 114 g (Bz 113 f 112 d 111 e 10 110 (Bz 109 c 108 a 107 e 10 106 b));GC (Gd 9 f W g a c) (wI j (lK (Yj ro K) 6 e b ds i) (D_ e 10 λa=>D_ e 10 λc=>FQ e c λd=>As d i λf=>DH e 10 λg=>As g i λh=>DH e 10 λj=>EA j f i λk=>FQ e a λl=>EA l h k λk=>HA (H7 9 g i h 9 d i f) (Yj ro K) e (A_ 132 l 131 j 130 h 129 g (A_ 128 (DW e) 127 (Ai e) 126 f 125 d (A_ 124 c 123 (DW e) 122 (Ai e) 121 a (Bz 120 (DW e) 119 (Ai e) 118 e 10 117 b)))) ds k))) λ_ _=>False) K 6 e b ds W:=by kernel_rfl
 dsimp at h;exact h
theorem nC(Q:Ending→CW→Prop)(e:Env)(W:CW):AQ prog Tryz.f134 Q .ret e [] W=Q (.returned (e 6)) W:=by kernel_rfl
def AEf{Q v0 v1 v2 W}:=F1 134 133 [v0,v1,v2] Tryz.f134 Q W Tryz.func134 (by kernel_rfl)
def Ol(ro:Option Nat)(K:AB):AB:=Ab (λe ds W=>K .ret e ds W) K
def AEg(v0 v1:Value)(K:AB)(W:CW):=by
 have h:Er 135 17 v0 v1 W K=GJ 155 v0 W (λa b=>let c:=Ep 7 a 6 (DD 5 v0 4 []);let d:=H4 7 (Ft 8 v1 7 c);wI a (GJ 155 v1 b (λa b=>D3 a λc=>let a:=eC 12 c (EY 11 c 10 7 Du 9 a d);Ut c (Ol none K) (M9 v0 v1) (MT 4 Du 16 true 15 undef 12 (HV 14 12 13 a)) [] b (KX .lss 9 v0 v1 λc=>Lc (Ol none K) (M9 v0 v1) 4 c 16 (H8 15 c 12 14 v1 12 13 v0 a) [] b)) λa b=>HX (Ol none K) a v0 v1 d b) (KX .lss 9 v0 v1 λa=>Lc (Ol none K) (M9 v0 v1) 4 a 16 (H8 15 a 12 14 v1 12 13 v0 (Il 12 CL 11 10 undef 7 9 7 8 c)) [] b)) λa b=>HX (Ol none K) a v0 v1 (DD 5 v0 4 []) b:=by kernel_rfl
 dsimp at h;exact h
theorem nD(Q:Ending→CW→Prop)(e:Env)(W:CW):AQ prog Tryz.f135 Q .ret e [] W=Q (.returned (e 4)) W:=by kernel_rfl
def AEh{Q v0 v1 W}:=F1 135 17 [v0,v1] Tryz.f135 Q W Tryz.func135 (by kernel_rfl)
def pQ(ro:Option Nat)(K:AB):AB:=Ab (λe ds W=>K .ret (Env.of e [(8,(e 9)),(83,(e 9))]) ds W) K
def AEi(v0 v1 v2 v3:Value)(K:AB)(W:CW):=by
 have h:HM 136 84 [v0,v1,v2,v3] W K=Gq 51 v0 v3 λa=>As a W λb=>Gq 51 v0 v1 λc=>As c W λd=>Gq 51 v0 v1 λf=>EA f b W λg=>Gq 51 v0 v3 λh=>EA h d g λg=>GC (H7 9 c W d 9 a W b) (Ju v1 1 λi=>Lh v2 1 λj=>EB 136 84 [v0,v1,v2,v3] (eC 10 j (A_ 9 i 28 j 27 v2 26 i (A_ 25 v1 24 h 23 f 22 d (A_ 21 c 20 v1 19 v0 18 b (XJ 17 a 16 v3 15 v0 14 (BK 13 v0 12 v1 11 v0 8 Be)))))) g (pQ none K)):=by kernel_rfl
 dsimp at h;exact h
def pR(ro:Option Nat)(K:AB):AB:=Gu (λa b c=>Im .gtr a 9 10 λd=>let f:=Nw 64 d 63 (DW a) 62 a 9;wI d (lK K 0 a f b c) (DH a 10 λd=>As d c λg=>DH a 9 λh=>As h c λi=>DH a 9 λj=>EA j g c λk=>DH a 10 λl=>EA l i k λk=>GC (H7 9 h c i 9 d c g) (B_ a 9 λc=>D_ a 10 λm=>TM K a (Gp 10 m 82 m 81 a 10 9 c (A_ 80 c 79 (DP a) 78 l 77 j (Bz 76 i 75 h 74 a 9 73 (Bz 72 g 71 d 70 a 10 69 (Bz 68 (DW a) 67 (Ai a) 66 a 9 65 f))))) b k))) K
def sY:=by
 have h:=@pR.eq_1;dsimp at h;exact h
def pS(ro:Option Nat)(K:AB):AB:=Ab (λe ds W=>Gi prog Bf ro 136 84 (.loop (GB prog 136 2)) e ds W (CX 4 (pR ro K))) (CX 1 K)
def AAy(ro:Option Nat)(e:Env)(ds:List Deferred)(K:AB)(W:CW):=by
 have h:Dd ro 136 84 e ds W K=gN ro 136 84 1 e ds W 2 (pS ro K):=by kernel_rfl
 dsimp at h;exact h
def WJ(ro:Option Nat)(K:AB):AB:=Ab (λa b c=>B_ a 9 λd=>GK K a 9 d 45 44 b c) K
def bT:=by
 have h:=@WJ.eq_1;dsimp at h;exact h
def WK(ro:Option Nat)(K:AB):AB:=Ab (λe ds W=>wI (e 43) ((WJ ro K) .normal e ds W) ((WJ ro K) (.exit 2) e ds W)) (WJ ro K)
def AAz(ro:Option Nat)(e:Env)(ds:List Deferred)(K:AB)(W:CW):=by
 have h:H3 ro 136 84 1 e ds W K=Im .leq e 9 10 λa=>let b:=E_ 32 a 31 a 30 e 10 29 (DP e);Km a (DH e 1 λa=>As a W λc=>DH e 9 λd=>As d W λf=>Kn c f W (λg h=>D3 g λi=>HW (Gd 9 d W f a c) (WK ro K) e 43 i (Bl 42 i 32 41 g (Bl 40 f 32 39 d (Fv 38 (DP e) 32 37 e (Bl 36 c 32 35 a (Fv 34 (BN e) 32 33 e b))))) ds h) λ_ _=>False) True (WK ro K) e (GF 43 (Lf 42 32 41 (By 40 32 39 38 37 (By 36 32 35 34 33 b)))) ds W:=by kernel_rfl
 dsimp at h;exact h
def SH(ro:Option Nat)(K:AB):AB:=Ab (λa b c=>D_ a 10 λd=>GK K a 10 d 61 60 b c) K
def Yl:=by
 have h:=@SH.eq_1;dsimp at h;exact h
def SI(ro:Option Nat)(K:AB):AB:=Ab (λe ds W=>wI (e 59) ((SH ro K) .normal e ds W) ((SH ro K) (.exit 4) e ds W)) (SH ro K)
def AA0(ro:Option Nat)(e:Env)(ds:List Deferred)(K:AB)(W:CW):=by
 have h:H3 ro 136 84 2 e ds W K=Im .leq e 9 10 λa=>let b:=E_ 49 a 48 a 47 e 10 46 (DP e);Km a (DH e 1 λa=>As a W λc=>DH e 10 λd=>As d W λf=>Kn c f W (λg h=>HW (Gd 9 d W f a c) (SI ro K) e 59 g (Ft 58 g 49 (Bl 57 f 49 56 d (Fv 55 (DW e) 49 54 e (Bl 53 c 49 52 a (Fv 51 (BN e) 49 50 e b))))) ds h) λ_ _=>False) True (SI ro K) e (GF 59 (DD 58 undef 49 (By 57 49 56 55 54 (By 53 49 52 51 50 b)))) ds W:=by kernel_rfl
 dsimp at h;exact h
theorem nE(Q:Ending→CW→Prop)(e:Env)(W:CW):AQ prog Tryz.f136 Q .ret e [] W=Q (.returned (e 8)) W:=by kernel_rfl
def AEj{Q v0 v1 v2 v3 W}:=F1 136 84 [v0,v1,v2,v3] Tryz.f136 Q W Tryz.func136 (by kernel_rfl)
def pT(ro:Option Nat)(K:AB):AB:=Ab (λa b c=>DH a 1 λd=>As d c λf=>DH a 11 λg=>As g c λh=>DH a 11 λi=>EA i f c λj=>DH a 1 λk=>EA k h j λj=>GC (H7 9 g c h 9 d c f) (aA K a 9 (A_ 8 (EO a) 167 (EO a) 166 k 165 i (Bz 164 h 163 g 162 a 11 161 (Bz 160 f 159 d 158 a 1 157 (Bz 156 (BN a) 155 (Ai a) 154 a 11 153 [])))) b j)) K
def sZ:=by
 have h:=@pT.eq_1;dsimp at h;exact h
def pU(ro:Option Nat)(K:AB):AB:=Ab (λa b c=>Im .gtr a 10 11 λd=>let f:=Nw 65 d 64 (EO a) 63 a 10;wI d (DH a 1 λd=>As d c λg=>DH a 11 λh=>As h c λi=>DH a 11 λj=>EA j g c λk=>DH a 1 λl=>EA l i k λk=>GC (H7 9 h c i 9 d c g) (Gj K a (H4 9 (A_ 8 (EO a) 80 (EO a) 79 l 78 j (Bz 77 i 76 h 75 a 11 74 (Bz 73 g 72 d 71 a 1 70 (Bz 69 (BN a) 68 (Ai a) 67 a 11 66 f))))) b k)) (DH a 11 λd=>As d c λg=>DH a 10 λh=>As h c λi=>DH a 10 λj=>EA j g c λk=>DH a 11 λl=>EA l i k λk=>GC (H7 9 h c i 9 d c g) (B_ a 10 λc=>D_ a 11 λm=>Ko ro 137 168 2 a (Gp 11 m 98 m 97 a 11 10 c (A_ 96 c 95 (DW a) 94 l 93 j (Bz 92 i 91 h 90 a 10 89 (Bz 88 g 87 d 86 a 11 85 (Bz 84 (EO a) 83 (Ai a) 82 a 10 81 f))))) b k 4 (pT ro K)))) K
def sa:=by
 have h:=@pU.eq_1;dsimp at h;exact h
def jO(ro:Option Nat)(K:AB):AB:=Ab (λe ds W=>Gi prog Bf ro 137 168 (.loop (GB prog 137 1)) e ds W (CX 2 (pU ro K))) K
def AEk(v0 v1 v2 v3:Value)(K:AB)(W:CW):=by
 have h:HM 137 168 [v0,v1,v2,v3] W K=Gq 51 v0 v3 λa=>As a W λb=>Gq 51 v0 v1 λc=>As c W λd=>Gq 51 v0 v1 λf=>EA f b W λg=>Gq 51 v0 v3 λh=>EA h d g λg=>GC (H7 9 c W d 9 a W b) (Ju v1 1 λi=>Lh v2 1 λj=>EB 137 168 [v0,v1,v2,v3] (F2 11 j 10 i (A_ 29 j 28 v2 27 i 26 v1 (A_ 25 h 24 f 23 d 22 c (A_ 21 v1 20 v0 19 b 18 a (XJ 17 v3 16 v0 15 v3 14 (BK 13 v1 12 v0 9 CL 8 Be)))))) g (jO none K)):=by kernel_rfl
 dsimp at h;exact h
def SJ(ro:Option Nat)(K:AB):AB:=Ab (λa b c=>B_ a 10 λd=>GK K a 10 d 45 44 b c) K
def Ym:=by
 have h:=@SJ.eq_1;dsimp at h;exact h
def SK(ro:Option Nat)(K:AB):AB:=Ab (λe ds W=>wI (e 43) ((SJ ro K) .normal e ds W) ((SJ ro K) (.exit 0) e ds W)) (SJ ro K)
def AA1(ro:Option Nat)(e:Env)(ds:List Deferred)(K:AB)(W:CW):=by
 have h:Dd ro 137 168 e ds W K=Im .leq e 10 11 λa=>let b:=E_ 33 a 32 a 31 e 11 30 (DW e);Km a (DH e 10 λa=>As a W λc=>DH e 1 λd=>As d W λf=>Kn c f W (λg h=>HW (Gd 9 d W f a c) (SK ro K) e 43 g (Ft 42 g 33 (Bl 41 f 33 40 d (Fv 39 (BN e) 33 38 e (Bl 37 c 33 36 a (Fv 35 (DW e) 33 34 e b))))) ds h) λ_ _=>False) True (SK ro K) e (GF 43 (DD 42 undef 33 (By 41 33 40 39 38 (By 37 33 36 35 34 b)))) ds W:=by kernel_rfl
 dsimp at h;exact h
def SL(ro:Option Nat)(K:AB):AB:=Ab (λa b c=>D_ a 11 λd=>GK K a 11 d 62 61 b c) K
def Yn:=by
 have h:=@SL.eq_1;dsimp at h;exact h
def SM(ro:Option Nat)(K:AB):AB:=Ab (λe ds W=>wI (e 60) ((SL ro K) .normal e ds W) ((SL ro K) (.exit 2) e ds W)) (SL ro K)
def AA2(ro:Option Nat)(e:Env)(ds:List Deferred)(K:AB)(W:CW):=by
 have h:H3 ro 137 168 1 e ds W K=Im .leq e 10 11 λa=>let b:=E_ 49 a 48 a 47 e 11 46 (DW e);Km a (DH e 11 λa=>As a W λc=>DH e 1 λd=>As d W λf=>Kn c f W (λg h=>D3 g λi=>HW (Gd 9 d W f a c) (SM ro K) e 60 i (Bl 59 i 49 58 g (Bl 57 f 49 56 d (Fv 55 (BN e) 49 54 e (Bl 53 c 49 52 a (Fv 51 (EO e) 49 50 e b))))) ds h) λ_ _=>False) True (SM ro K) e (GF 60 (Lf 59 49 58 (By 57 49 56 55 54 (By 53 49 52 51 50 b)))) ds W:=by kernel_rfl
 dsimp at h;exact h
def jP(ro:Option Nat)(K:AB):AB:=vF (λa b c=>Im .gtr a 10 11 λd=>let f:=Nw 134 d 133 (EO a) 132 a 10;wI d (lK K 4 a f b c) (DH a 11 λd=>As d c λg=>DH a 10 λh=>As h c λi=>DH a 10 λj=>EA j g c λk=>DH a 11 λl=>EA l i k λk=>GC (H7 9 h c i 9 d c g) (B_ a 10 λc=>D_ a 11 λm=>TM K a (Gp 11 m 152 m 151 a 11 10 c (A_ 150 c 149 (DW a) 148 l 147 j (Bz 146 i 145 h 144 a 10 143 (Bz 142 g 141 d 140 a 11 139 (Bz 138 (EO a) 137 (Ai a) 136 a 10 135 f))))) b k))) 5 K
def nF:=by
 have h:=@jP.eq_1;dsimp at h;exact h
def jQ(ro:Option Nat)(K:AB):AB:=Ab (λe ds W=>Gi prog Bf ro 137 168 (.loop (GB prog 137 4)) e ds W (CX 8 (jP ro K))) (CX 5 K)
def AA3(ro:Option Nat)(e:Env)(ds:List Deferred)(K:AB)(W:CW):=by
 have h:H3 ro 137 168 2 e ds W K=gN ro 137 168 3 e ds W 6 (jQ ro K):=by kernel_rfl
 dsimp at h;exact h
def SN(ro:Option Nat)(K:AB):AB:=Ab (λa b c=>B_ a 10 λd=>GK K a 10 d 114 113 b c) K
def Yo:=by
 have h:=@SN.eq_1;dsimp at h;exact h
def SO(ro:Option Nat)(K:AB):AB:=Ab (λe ds W=>wI (e 112) ((SN ro K) .normal e ds W) ((SN ro K) (.exit 6) e ds W)) (SN ro K)
def AA4(ro:Option Nat)(e:Env)(ds:List Deferred)(K:AB)(W:CW):=by
 have h:H3 ro 137 168 3 e ds W K=Im .leq e 10 11 λa=>let b:=E_ 102 a 101 a 100 e 11 99 (DW e);Km a (DH e 10 λa=>As a W λc=>DH e 1 λd=>As d W λf=>Kn c f W (λg h=>HW (Gd 9 d W f a c) (SO ro K) e 112 g (Ft 111 g 102 (Bl 110 f 102 109 d (Fv 108 (BN e) 102 107 e (Bl 106 c 102 105 a (Fv 104 (DW e) 102 103 e b))))) ds h) λ_ _=>False) True (SO ro K) e (GF 112 (DD 111 undef 102 (By 110 102 109 108 107 (By 106 102 105 104 103 b)))) ds W:=by kernel_rfl
 dsimp at h;exact h
def SP(ro:Option Nat)(K:AB):AB:=Ab (λa b c=>D_ a 11 λd=>GK K a 11 d 131 130 b c) K
def Yr:=by
 have h:=@SP.eq_1;dsimp at h;exact h
def SQ(ro:Option Nat)(K:AB):AB:=Ab (λe ds W=>wI (e 129) ((SP ro K) .normal e ds W) ((SP ro K) (.exit 8) e ds W)) (SP ro K)
def AA5(ro:Option Nat)(e:Env)(ds:List Deferred)(K:AB)(W:CW):=by
 have h:H3 ro 137 168 4 e ds W K=Im .leq e 10 11 λa=>let b:=E_ 118 a 117 a 116 e 11 115 (DW e);Km a (DH e 11 λa=>As a W λc=>DH e 1 λd=>As d W λf=>Kn c f W (λg h=>D3 g λi=>HW (Gd 9 d W f a c) (SQ ro K) e 129 i (Bl 128 i 118 127 g (Bl 126 f 118 125 d (Fv 124 (BN e) 118 123 e (Bl 122 c 118 121 a (Fv 120 (EO e) 118 119 e b))))) ds h) λ_ _=>False) True (SQ ro K) e (GF 129 (Lf 128 118 127 (By 126 118 125 124 123 (By 122 118 121 120 119 b)))) ds W:=by kernel_rfl
 dsimp at h;exact h
theorem nG(Q:Ending→CW→Prop)(e:Env)(W:CW):AQ prog Tryz.f137 Q .ret e [] W=Q (.returned (.tuple #[e 8,e 9])) W:=by kernel_rfl
def AEl{Q v0 v1 v2 v3 W}:=F1 137 168 [v0,v1,v2,v3] Tryz.f137 Q W Tryz.func137 (by kernel_rfl)
def AEm(v0 v1 v2 v3:Value)(K:AB)(W:CW):=by
 have h:HM 150 76 [v0,v1,v2,v3] W K=EB 150 76 [v0,v1,v2,v3] (Ep 8 v1 10 []) W K:=by kernel_rfl
 dsimp at h;exact h
def SR(ro:Option Nat)(K:AB):AB:=Gu (λa b c=>PI a 3 8 λd=>FQ a d λf=>As f c λg=>PI a 3 9 λh=>FQ a h λi=>As i c λj=>Kn g j c (λk l=>D3 k λm=>let d:=F2 52 m 51 k (A_ 50 j 49 i 48 h 47 (DP a) (A_ 46 (Di a) 45 (Ai a) 44 g 43 f (Bz 42 d 41 (CY a) 40 a 3 39 [])));GC (Gd 9 i c j f g) (wI m (Gj K a d b l) (PI a 3 8 λc=>PI a 3 9 λf=>PI a 3 9 λg=>FQ a g λh=>As h l λi=>PI a 3 8 λj=>FQ a j λk=>As k l λm=>FQ a c λn=>EA n i l λo=>FQ a f λp=>EA p m o λo=>HA (H7 9 k l m 9 h l i) K a (A_ 8 (DP a) 75 (DP a) 74 p 73 n (A_ 72 m 71 k 70 j 69 (CY a) (A_ 68 (Di a) 67 (Ai a) 66 i 65 h (Bz 64 g 63 (DP a) 62 a 3 61 (Bz 60 f 59 (DP a) 58 a 3 57 (Bz 56 c 55 (CY a) 54 a 3 53 d)))))) b o))) λ_ _=>False) K
def sc:=by
 have h:=@SR.eq_1;dsimp at h;exact h
def WL(ro:Option Nat)(K:AB):AB:=Ab (λa b c=>XK a 36 (B_ a 9 λd=>GK (SR ro K) a 9 d 38 37 b c) (SR ro K) a b c) (SR ro K)
def sd:=by
 have h:=@WL.eq_1;dsimp at h;exact h
def AA6(ro:Option Nat)(e:Env)(ds:List Deferred)(K:AB)(W:CW):=by
 have h:Dd ro 150 76 e ds W K=ZU .mul 3 true (TN 2) (CY e) λa=>Ju a 1 λb=>DQ .geq b (DE e) λc=>let a:=DB 16 c 15 (DE e) 14 b (BK 9 b 13 b 12 a 11 (CY e));wI c (lK K 0 e a ds W) (Ju b 1 λc=>DQ .lss c (DE e) λd=>let a:=eC 21 d (A_ 20 d 19 (DE e) 18 c 17 b a);Km d (H9 .add 3 e 3 b λc=>FQ e c λd=>As d W λf=>H9 .add 3 e 3 b λg=>Ju g 1 λh=>FQ e h λi=>As i W λj=>Kn f j W (λk l=>HW (Gd 9 i W j d f) (WL ro K) e 36 k (Bl 35 k 21 34 j (Bl 33 i 21 32 h (Bl 31 g 21 30 b (Fv 29 (Di e) 21 28 e (Bl 27 f 21 26 d (Bl 25 c 21 24 b (Fv 23 (Di e) 21 22 e a))))))) ds l) λ_ _=>False) True (WL ro K) e (GF 36 (Lf 35 21 34 (By 33 21 32 31 30 (By 29 21 28 27 26 (By 25 21 24 23 22 a))))) ds W):=by kernel_rfl
 dsimp at h;exact h
def AEn{Q v0 v1 v2 v3 W}:=F1 150 76 [v0,v1,v2,v3] Tryz.f150 Q W Tryz.func150 (by kernel_rfl)
def AEo(v0 v1 v2:Value)(K:AB)(W:CW):=by
 have h:H5 153 15 v0 v1 v2 W K=Lh v1 1 λa=>Ju v1 1 λb=>let c:=Dh 13 v2 12 b 11 v1 10 (BK 9 a 8 v1 7 v0 6 Be);TO 154 [v0,a,v1,b,v2] W (λa b=>E9 K [v0,v1,v2] (Ep 6 a 14 c) b) λa b=>H6 K a v0 v1 v2 c b:=by kernel_rfl
 dsimp at h;exact h
theorem nH(Q:Ending→CW→Prop)(e:Env)(W:CW):AQ prog Tryz.f153 Q .ret e [] W=Q (.returned (e 6)) W:=by kernel_rfl
def AEp{Q v0 v1 v2 W}:=F1 153 15 [v0,v1,v2] Tryz.f153 Q W Tryz.func153 (by kernel_rfl)
def AEq(v0 v1 v2 v3 v4:Value)(K:AB)(W:CW):=by
 have h:HM 154 36 [v0,v1,v2,v3,v4] W K=(let a:=eC 15 v4 (BK 14 v2 13 v1 12 v0 10 Be);Nx 160 v0 v1 v2 v4 W (λb c=>Db b λd=>Dc b λf=>let a:=F2 23 v4 22 v3 (A_ 21 f 20 v0 2 f 1 d (Dh 18 f 17 d 11 b 16 a));Nx 160 v0 f v3 v4 c (λb c=>Db b λf=>Dc b λg=>let a:=F2 31 v4 30 f (A_ 29 d 28 v0 3 g 2 f (Dh 26 g 25 f 19 b 24 a));Nx 160 v0 d f v4 c (λb c=>Db b λd=>Dc b λf=>E9 K [v0,v1,v2,v3,v4] (EY 10 f 35 2 f 1 d (Dh 34 f 33 d 27 b 32 a)) c) λb c=>Lb K b [v0,v1,v2,v3,v4] a c) λb c=>Lb K b [v0,v1,v2,v3,v4] a c) λb c=>Lb K b [v0,v1,v2,v3,v4] a c):=by kernel_rfl
 dsimp at h;exact h
theorem nI(Q:Ending→CW→Prop)(e:Env)(W:CW):AQ prog Tryz.f154 Q .ret e [] W=Q (.returned (e 10)) W:=by kernel_rfl
def AEr{Q v0 v1 v2 v3 v4 W}:=F1 154 36 [v0,v1,v2,v3,v4] Tryz.f154 Q W Tryz.func154 (by kernel_rfl)
def AEs(v0:Value)(K:AB)(W:CW):=by
 have h:HM 155 6 [v0] W K=KX .neq 9 v0 v0 λa=>E9 K [v0] (FR 2 a 5 4 v0 (DD 3 v0 2 [])) W:=by kernel_rfl
 dsimp at h;exact h
theorem nJ(Q:Ending→CW→Prop)(e:Env)(W:CW):AQ prog Tryz.f155 Q .ret e [] W=Q (.returned (e 2)) W:=by kernel_rfl
def AEt{Q v0 W}:=F1 155 6 [v0] Tryz.f155 Q W Tryz.func155 (by kernel_rfl)
def AEu(v0 v1 v2 v3:Value)(K:AB)(W:CW):=by
 have h:HM 160 28 [v0,v1,v2,v3] W K=Gq 51 v0 v2 λa=>As a W λb=>Gq 51 v0 v1 λc=>As c W λd=>Kn b d W (λf g=>let h:=DB 18 f 17 d 16 c (A_ 15 v1 14 v0 13 b 12 a (BK 11 v2 10 v0 9 Be 8 Be));GC (Gd 9 c W d a b) (wI f (DV v3 λa=>FT a g λb=>Ju b 1 λc=>DV v3 λd=>Bj 3 d c g λf=>E9 K [v0,v1,v2,v3] (eC 9 v1 (A_ 8 v2 25 v1 24 v2 23 d (A_ 22 c 21 b 20 a 19 v3 h))) f) (E9 K [v0,v1,v2,v3] (XJ 9 v2 8 v1 27 v2 26 h) g))) λ_ _=>False:=by kernel_rfl
 dsimp at h;exact h
theorem Ys(Q:Ending→CW→Prop)(e:Env)(W:CW):AQ prog Tryz.f160 Q .ret e [] W=Q (.returned (.tuple #[e 8,e 9])) W:=by kernel_rfl
def AEv{Q v0 v1 v2 v3 W}:=F1 160 28 [v0,v1,v2,v3] Tryz.f160 Q W Tryz.func160 (by kernel_rfl)
structure MA(dec:Int→ByteArray):Prop where
 lt:∀x y:Int,Hu (sb (dec x)) (sb (dec y))=decide (x<y)
def sx(dec:Int→ByteArray)(l:List Int):List Value:=l.map λk=>Value.string (dec k)
theorem eQ{dec:Int→ByteArray}(l:List Int):(sx dec l).length=l.length:=by unfold sx;rw[aau]
def Ax(dec:Int→ByteArray)(W:CW)(b:Nat)(l:List Int):Prop:=Aq W b 9 (sx dec l)
def Dx(dec:Int→ByteArray)(W:CW)(b n:Nat):Prop:=∃l:List Int,l.length=n∧Aq W b 9 (sx dec l)
theorem Av{b n:Nat}{i:Int}(h0:0≤i)(h1:i<n):lD prog 51 (.slice (some ⟨b,0,none⟩) n n) (.int .i64 i)=some (.pointer (some ⟨b,0+i.toNat*1,none⟩)):=by
 have:=Ay (P:=prog) gX s9 (a:=⟨b,0,none⟩) (len:=n) (cap:=n) (kk:=.i64) (i:=i.toNat) (by omega);rw[show((i.toNat:Nat):Int)=i by omega]at this;exact this
theorem Ax.da{dec:Int→ByteArray}{W:CW}{b:Nat}{l:List Int}(h:Ax dec W b l):Dx dec W b l.length:=⟨l,rfl,h⟩
theorem Ax.ld{dec:Int→ByteArray}{W:CW}{b:Nat}{l:List Int}(h:Ax dec W b l){i:Int}(h0:0≤i)(h1:i<l.length):Go.Ce.ld prog 9 (.pointer (some ⟨b,0+i.toNat*1,none⟩)) W=some (.string (dec (at_ l i))):=by
 have hx:=ck (show i.toNat<l.length by omega);refine AD a9 (a:=⟨b,0+i.toNat*1,none⟩) ?_;show W.cell b (0+i.toNat*1)=_;rw[show 0+i.toNat*1=i.toNat by omega];refine h.cell ?_;unfold sx at_;rw[aaK,hx];rfl
theorem Dx.ld{dec:Int→ByteArray}{W:CW}{b n:Nat}(h:Dx dec W b n){i:Int}(h0:0≤i)(h1:i<n):∃x,Go.Ce.ld prog 9 (.pointer (some ⟨b,0+i.toNat*1,none⟩)) W=some (.string (dec x)):=by
 obtain⟨l,hl,hB⟩:=h;have hB:Ax dec W b l:=hB;exact⟨_,hB.ld h0 (by omega)⟩
theorem Dx.lt{dec:Int→ByteArray}{W:CW}{b n:Nat}(h:Dx dec W b n)(ht:Ag W):b<W.sz:=by
 obtain⟨l,_,hB⟩:=h;exact hB.lt ht
theorem Dx.kp{dec:Int→ByteArray}{W W':CW}{b n:Nat}(h:Dx dec W b n)(ht:Ag W)(k:Kp W W'):Dx dec W' b n:=by
 obtain⟨l,hl,hB⟩:=h;exact⟨l,hl,hB.ext ht k⟩
theorem Dx.D4{dec:Int→ByteArray}{W W':CW}{b n s:Nat}(h:Dx dec W b n)(ht:Ag W)(hc:Bm (·=s) W W')(Dg:b≠s):Dx dec W' b n:=by
 obtain⟨l,hl,hB⟩:=h;exact⟨l,hl,hc.IA ht Dg hB⟩
structure Sx(dec:Int→ByteArray)(A W:CW)(b:Nat)(lo hi:Int)(l0 l:List Int):Prop where
 D4:Bm (·=b) A W
 top:Ag W
 ar:Ax dec W b l
 sw:SW lo hi l0 l
theorem Sx.start{dec:Int→ByteArray}{W:CW}{b:Nat}{lo hi:Int}{l:List Int}(ht:Ag W)(h:Ax dec W b l):Sx dec W W b lo hi l l:=⟨.refl _ _,ht,h,.refl⟩
theorem Sx.trans{dec:Int→ByteArray}{A W W':CW}{b:Nat}{lo hi:Int}{l0 l m:List Int}(h:Sx dec A W b lo hi l0 l)(k:Sx dec W W' b lo hi l m):Sx dec A W' b lo hi l0 m:=⟨h.D4.then k.D4 λ_ _ h=>h,k.top,k.ar,h.sw.trans k.sw⟩
theorem Sx.mono{dec:Int→ByteArray}{A W:CW}{b:Nat}{lo hi s8 Jr:Int}{l0 l:List Int}(h:Sx dec A W b lo hi l0 l)(h1:s8≤lo)(h2:hi≤Jr):Sx dec A W b s8 Jr l0 l:=⟨h.D4,h.top,h.ar,h.sw.mono h1 h2⟩
theorem Sx.kp{dec:Int→ByteArray}{A W W':CW}{b:Nat}{lo hi:Int}{l0 l:List Int}(h:Sx dec A W b lo hi l0 l)(k:Kp W W')(t:Ag W'):Sx dec A W' b lo hi l0 l:=⟨h.D4.then (Bm.Io k) λ_ _ h=>h,t,h.ar.ext h.top k,h.sw⟩
theorem jR{dec:Int→ByteArray}{A W:CW}{b:Nat}{lo hi:Int}{l0 l:List Int}(S:Sx dec A W b lo hi l0 l)(h0:0≤lo)(hl:hi≤l.length){i j:Int}(FZ:lo≤i)(fA:i<hi)(zB:lo≤j)(nq:j<hi){K:CW→Prop}(hk:∀W',(∀j,j≠b→W'.obj j=W.obj j)→Sx dec A W' b lo hi l0 (jL l i j)→K W') :
  wV (NK prog 9 (.pointer (some ⟨b,0+j.toNat*1,none⟩)) (.string (dec (at_ l i))) W) λW2=>wV (NK prog 9 (.pointer (some ⟨b,0+i.toNat*1,none⟩)) (.string (dec (at_ l j))) W2) K:=by
 have AH3:∀{l:List Int} {k:Int} {x:Int},0≤k→k<l.length→putAt (sx dec l) (0+k.toNat*1) [.string (dec x)]=sx dec (l.set k.toNat x):=by
  intro l k x uS fk;apply abq;intro j;have H2:k.toNat<l.length:=by omega
  rw[Jm (by rw[eQ,aaJ];omega),aaJ];unfold sx;rw[aaK,aaK,abG]
  by_cases e:k.toNat=j
  ·rw[aad ⟨by omega,by omega⟩,aad e,aad H2,show j-(0+k.toNat*1)=0 by omega];rfl
  ·rw[aac (by omega),aac e]
 have hB:Aq W b 9 (sx dec l):=S.ar;refine Ac s9 (a:=⟨b,0+j.toNat*1,none⟩) (v:=.string (dec (at_ l i))) rfl hB (by rw[eQ];show 0+j.toNat*1<_;omega) λW2 KU Ey=>?_;have KU:Dn b W W2:=KU;have Ey:Aq W2 b 9 (putAt (sx dec l) (0+j.toNat*1) [.string (dec (at_ l i))]):=Ey;rw[AH3 (by omega) (by omega)]at Ey;refine Ac s9 (a:=⟨b,0+i.toNat*1,none⟩) (v:=.string (dec (at_ l j))) rfl Ey (by rw[eQ,abX];show 0+i.toNat*1<_;omega) λW3 Og Fk=>?_;have Og:Dn b W2 W3:=Og;have Fk:Aq W3 b 9 (putAt (sx dec (l.set j.toNat (at_ l i))) (0+i.toNat*1) [.string (dec (at_ l j))]):=Fk;rw[AH3 (by omega) (by rw[abX];omega)]at Fk;have t2:=S.top.A6 (hB.lt S.top) KU;exact hk W3 (λj hj=>by rw[Og.obj j hj,KU.obj j hj]) ⟨(S.D4.then KU.D4 λ_ _ h=>h).then Og.D4 λ_ _ h=>h,t2.A6 (Ey.lt t2) Og,Fk,S.sw.step FZ fA zB nq⟩
theorem Fz{dec:Int→ByteArray}{A W:CW}{b:Nat}{lo hi:Int}{l0 l:List Int}(S:Sx dec A W b lo hi l0 l)(h0:0≤lo)(hl:hi≤l.length){i j:Int}(FZ:lo≤i)(fA:i<hi)(zB:lo≤j)(nq:j<hi){K:CW→Prop}(hk:∀W',Sx dec A W' b lo hi l0 (jL l i j)→K W') :
  wV (NK prog 9 (.pointer (some ⟨b,0+j.toNat*1,none⟩)) (.string (dec (at_ l i))) W) λW2=>wV (NK prog 9 (.pointer (some ⟨b,0+i.toNat*1,none⟩)) (.string (dec (at_ l j))) W2) K:=jR S h0 hl FZ fA zB nq λW' _ S'=>hk W' S'
def yK(dec:Int→ByteArray)(b:Nat)(lo hi:Int)(l:List Int)(Q:List Int→Prop)(W:CW):Ending→CW→Prop:=λen W'=>en=.returned (.tuple #[])∧∃m,Sx dec W W' b lo hi l m∧Q m
theorem CZ{dec:Int→ByteArray}(D:MA dec)(x y:Int)(W:CW):AX prog Bf 135 [.string (dec x),.string (dec y)] W (H_ (.bool (decide (x<y))) W):=by
 refine AEh ?_;rw[AEg]
 have AKi:∀s:ByteArray,AX prog Bf 155 [.string s] W (H_ (.bool false) W):=by
  intro s;refine AEt ?_;rw[AEs];simp only[OZ,AA,Ln,aav];rw[nJ];exact⟨rfl,rfl⟩
 refine A4 (AKi _) ?_;simp only[AZ,aI,AA,Ol,BI,aH,D.lt];rw[nD];exact⟨rfl,rfl⟩
theorem OM{dec:Int→ByteArray}(D:MA dec){W:CW}{b n s:Nat}{i j k lo hi:Int}(ht:Ag W)(hd:Dx dec W b n)(hs:Aq W s 3 [.int .i64 k])(M_:0≤lo)(K2:hi≤n)(FZ:lo≤i∧i<hi)(zB:lo≤j∧j<hi) :
  AX prog Bf 160 [.slice (some ⟨b,0,none⟩) n n,.int .i64 i,.int .i64 j,.pointer (some ⟨s,0,none⟩)] W (λen W'=>Bm (·=s) W W'∧Ag W'∧(∃k',Aq W' s 3 [.int .i64 k'])∧∃p q,en=.returned (.tuple #[.int .i64 p,.int .i64 q])∧lo≤p∧p<hi∧lo≤q∧q<hi):=by
 refine AEv ?_;rw[AEu];obtain⟨x,hx⟩:=hd.ld (i:=j) (by omega) (by omega);obtain⟨y,hy⟩:=hd.ld (i:=i) (by omega) (by omega);rw[Av (by omega) (by omega),Av (by omega) (by omega)];simp only[hx,hy,AA];refine A4 (CZ D x y W) ?_;refine⟨by simp only[and_self],trivial,?_⟩
 refine AH (λ_=>?_) (λ_=>?_)
 ·simp only[C4,AA];rw[AD a3 (a:=⟨s,0,none⟩) (hs.cell rfl)];simp only[AA,AO];refine Ac s3 (a:=⟨s,0,none⟩) rfl hs (by simp) λW2 hu hB=>?_;have hu:Dn s W W2:=hu;rw[Ys];exact⟨hu.D4,ht.A6 (hs.lt ht) hu,⟨_,hB⟩,j,i,rfl,zB.1,zB.2,FZ.1,FZ.2⟩
 ·rw[Ys];exact⟨.refl _ _,ht,⟨k,hs⟩,i,j,rfl,FZ.1,FZ.2,zB.1,zB.2⟩
theorem SS{dec:Int→ByteArray}(D:MA dec){W:CW}{b n s:Nat}{i j k c lo hi:Int}(ht:Ag W)(hd:Dx dec W b n)(hs:Aq W s 3 [.int .i64 c])(Dg:b≠s)(M_:0≤lo)(K2:hi≤n)(FZ:lo≤i∧i<hi)(zB:lo≤j∧j<hi)(uS:lo≤k∧k<hi) :
  AX prog Bf 154 [.slice (some ⟨b,0,none⟩) n n,.int .i64 i,.int .i64 j,.int .i64 k,.pointer (some ⟨s,0,none⟩)] W (λen W'=>Bm (·=s) W W'∧Ag W'∧(∃k',Aq W' s 3 [.int .i64 k'])∧∃p,en=.returned (.int .i64 p)∧lo≤p∧p<hi):=by
 refine AEr ?_;rw[AEq];refine(OM D ht hd hs M_ K2 FZ zB).mono λen W1 ⟨c1,t1,⟨s1,WY⟩,p1,q1,he,a1,a2,a3',a4'⟩=>?_;subst he;refine AP ?_;refine Ad (BV _ _) ?_;refine Ad (BW _ _) ?_;have qJ:=hd.D4 ht c1 Dg;refine(OM D t1 qJ WY M_ K2 ⟨a3',a4'⟩ uS).mono λen W2 ⟨c2,t2,⟨s2,Ul⟩,p2,q2,he,b1,b2,b3,b4⟩=>?_;subst he;refine AP ?_;refine Ad (BV _ _) ?_;refine Ad (BW _ _) ?_;have ue:=qJ.D4 t1 c2 Dg;refine(OM D t2 ue Ul M_ K2 ⟨a1,a2⟩ ⟨b1,b2⟩).mono λen W3 ⟨c3,t3,⟨s3,rC⟩,p3,q3,he,d1,d2,d3,d4⟩=>?_;subst he;refine AP ?_;refine Ad (BV _ _) ?_;refine Ad (BW _ _) ?_;rw[nI];exact⟨(c1.then c2 λ_ _ h=>h).then c3 λ_ _ h=>h,t3,⟨_,rC⟩,q3,rfl,d3,d4⟩
theorem UH{dec:Int→ByteArray}(D:MA dec){W:CW}{b n s:Nat}{i c lo hi:Int}(ht:Ag W)(hd:Dx dec W b n)(hs:Aq W s 3 [.int .i64 c])(Dg:b≠s)(hn:n≤1000000)(M_:0≤lo)(K2:hi≤n)(h0:lo<i)(h1:i+1<hi) :
  AX prog Bf 153 [.slice (some ⟨b,0,none⟩) n n,.int .i64 i,.pointer (some ⟨s,0,none⟩)] W (λen W'=>Bm (·=s) W W'∧Ag W'∧(∃k',Aq W' s 3 [.int .i64 k'])∧∃p,en=.returned (.int .i64 p)∧lo≤p∧p<hi):=by
 refine AEp ?_;rw[AEo];simp only[Ae,AO,AA];rw[wrap64 (x:=i-1) (by omega) (by omega),wrap64 (x:=i+1) (by omega) (by omega)];refine(SS D ht hd hs Dg M_ K2 (i:=i-1) (j:=i) (k:=i+1) (by omega) (by omega) (by omega)).mono λen W1 ⟨c1,t1,h2,p,he,a1,a2⟩=>?_;subst he;refine AP ?_;rw[nH];exact⟨c1,t1,h2,p,rfl,a1,a2⟩
theorem jS{dec:Int→ByteArray}(D:MA dec){W:CW}{b n:Nat}{lo hi:Int}(ht:Ag W)(hd:Dx dec W b n)(hn:n≤1000000)(M_:0≤lo)(K2:hi≤n)(h8:8≤hi-lo) :
  AX prog Bf 132 [.slice (some ⟨b,0,none⟩) n n,.int .i64 lo,.int .i64 hi] W (λen W'=>Kp W W'∧Ag W'∧∃p h,en=.returned (.tuple #[.int .i64 p,.int .i64 h])∧lo≤p∧p<hi):=by
 refine AEb ?_;rw[AEa];simp only[Ae,AA];rw[wrap64 (by omega) (by omega)];refine H' z3 s3 ht λW0 k0 t0 z0 hB=>?_;have hB:Aq W0 W.sz 3 [.int .i64 0]:=hB;have dS:=hd.lt ht;have hd0:=hd.kp ht k0;rw[yC (by omega) (by omega) (by omega)];simp only[Lm,AO,CC,AA];rw[wrap64 (x:=(hi-lo)/4*1) (by omega) (by omega),wrap64 (x:=(hi-lo)/4*2) (by omega) (by omega),wrap64 (x:=(hi-lo)/4*3) (by omega) (by omega),wrap64 (x:=lo+(hi-lo)/4*1) (by omega) (by omega),wrap64 (x:=lo+(hi-lo)/4*2) (by omega) (by omega),wrap64 (x:=lo+(hi-lo)/4*3) (by omega) (by omega),decide_eq_true (show hi-lo≥8 by omega)];simp only[BB]
 have fin:∀(e:Env) (x y z:Int) W1,Kp W W1→Ag W1→Bm (·=W.sz) W0 W1→(∃k,Aq W1 W.sz 3 [.int .i64 k])→e 0=.slice (some ⟨b,0,none⟩) n n→e 9=.pointer (some ⟨W.sz,0,none⟩)→e 10=.int .i64 x→e 11=.int .i64 y→e 12=.int .i64 z→lo≤x∧x<hi→lo≤y∧y<hi→lo≤z∧z<hi→(Mw none (AQ prog Tryz.f132 λen W'=>Kp W W'∧Ag W'∧∃p h,en=.returned (.tuple #[.int .i64 p,.int .i64 h])∧lo≤p∧p<hi)) .normal e [] W1:=by
  intro e x y z W1 k1 t1 c1 ⟨k,hs⟩ g0 g9 wE g11 rX bx by_ bz;simp only[sV,BI,g0,g9,wE,g11,rX];refine(SS D t1 (hd.kp ht k1) hs (by omega) M_ K2 bx by_ bz).mono λen W2 ⟨c2,t2,⟨k2,Ul⟩,p,he,U',R'⟩=>?_;subst he;refine AP ?_;have kW:Kp W W2:=Bm.kp k1 c2 λj hj=>by omega
  simp only[sU,BI];simp only[AG,AN,Nat.reduceEqDiff,↓reduceIte,g9];rw[AD a3 (a:=⟨W.sz,0,none⟩) (Ul.cell rfl)];simp only[AA,BJ]
  refine AH (λ_=>?_) (λ_=>AH (λ_=>?_) (λ_=>?_))
  ·rw[QS];exact⟨kW,t2,p,1,rfl,U',R'⟩
  ·rw[QS];exact⟨kW,t2,p,2,rfl,U',R'⟩
  ·rw[QS];exact⟨kW,t2,p,0,rfl,U',R'⟩
 refine AH (λh50=>?_) (λh50=>?_)
 ·have h50:=of_decide_eq_true h50;refine(UH D t0 hd0 hB (by omega) hn M_ K2 (i:=lo+(hi-lo)/4*1) (by omega) (by omega)).mono λen W1 ⟨c1,t1,⟨k1,WY⟩,p1,he,a1,a2⟩=>?_;subst he;refine AP ?_;have kW1:Kp W W1:=Bm.kp k0 c1 λj hj=>by omega
  refine(UH D t1 (hd.kp ht kW1) WY (by omega) hn M_ K2 (i:=lo+(hi-lo)/4*2) (by omega) (by omega)).mono λen W2 ⟨c2,t2,⟨k2,Ul⟩,p2,he,b1,b2⟩=>?_;subst he;refine AP ?_;have kW2:Kp W W2:=Bm.kp kW1 c2 λj hj=>by omega
  refine(UH D t2 (hd.kp ht kW2) Ul (by omega) hn M_ K2 (i:=lo+(hi-lo)/4*3) (by omega) (by omega)).mono λen W3 ⟨c3,t3,⟨k3,rC⟩,p3,he,d1,d2⟩=>?_;subst he;refine AP ?_;have kW3:Kp W W3:=Bm.kp kW2 c3 λj hj=>by omega
  exact fin _ p1 p2 p3 W3 kW3 t3 ((c1.then c2 λ_ _ h=>h).then c3 λ_ _ h=>h) ⟨_,rC⟩ (by simp only[AG,AN,jv,Nat.reduceEqDiff,↓reduceIte,jw,aK]) (by simp only[AG,Nat.reduceEqDiff,↓reduceIte]) (by simp only[AG,Nat.reduceEqDiff,↓reduceIte]) (by simp only[AG,Nat.reduceEqDiff,↓reduceIte]) (by simp only[AG,↓reduceIte]) ⟨a1,a2⟩ ⟨b1,b2⟩ ⟨d1,d2⟩
 ·exact fin _ (lo+(hi-lo)/4*1) (lo+(hi-lo)/4*2) (lo+(hi-lo)/4*3) W0 k0 t0 (.refl _ _) ⟨_,hB⟩ (by simp only[AG,AN,jv,Nat.reduceEqDiff,↓reduceIte,jw,aK]) (by simp only[AG,Nat.reduceEqDiff,↓reduceIte]) (by simp only[AG,Nat.reduceEqDiff,↓reduceIte]) (by simp only[AG,Nat.reduceEqDiff,↓reduceIte]) (by simp only[AG,Nat.reduceEqDiff,↓reduceIte]) (by omega) (by omega) (by omega)
theorem Sx.len{dec:Int→ByteArray}{A W:CW}{b n:Nat}{lo hi:Int}{l m:List Int}(S:Sx dec A W b lo hi l m)(hn:l.length=n):m.length=n:=by rw[S.sw.len,hn]
theorem yL{dec:Int→ByteArray}{W:CW}{b n:Nat}{lo hi:Int}{l:List Int}(ht:Ag W)(hd:Ax dec W b l)(NS:l.length=n)(hn:n≤1000000)(M_:0≤lo)(K2:hi≤n)(py:lo≤hi) :
  AX prog Bf 133 [.slice (some ⟨b,0,none⟩) n n,.int .i64 lo,.int .i64 hi] W (yK dec b lo hi l (λ_=>True) W):=by
 refine AEd ?_;rw[AEc];simp only[Ae,AA];rw[wrap64 (by omega) (by omega)];refine DX (λk e ds W'=>ds=[]∧(∃m,Sx dec W W' b lo hi l m)∧e 0=.slice (some ⟨b,0,none⟩) n n∧∃i j:Int,e 6=.int .i64 i∧e 7=.int .i64 j∧lo≤i∧lo-1≤j∧j<hi∧i≤hi∧(j-i+2).toNat=k) (hi-1-lo+2).toNat ⟨rfl,⟨l,.start ht hd⟩,rfl,lo,hi-1,rfl,rfl,by omega,by omega,by omega,by omega,rfl⟩ ?_;rintro k e ds W' ⟨rfl,⟨m,S⟩,h0,i,j,h6,h7,i0,j0,j1,i1,hk⟩;have Jb:=S.len NS;rw[AAt,h0,h6,h7];simp only[Af,AA]
 refine QQ (λAo=>?_) (λJi=>?_)
 ·have hx:=S.ar.ld (i:=j) (by omega) (by omega);have hy:=S.ar.ld (i:=i) (by omega) (by omega);rw[Av (by omega) (by omega),Av (by omega) (by omega)];simp only[hx,hy,AA];refine Fz S M_ (by omega) (i:=j) (j:=i) (by omega) (by omega) (by omega) (by omega) λW3 S3=>?_;refine⟨by simp only[and_self],trivial,?_⟩;simp only[AO,Ae,AA,Uu];rw[wrap64 (x:=i+1) (by omega) (by omega),wrap64 (x:=j-1) (by omega) (by omega)];exact⟨(j-1-(i+1)+2).toNat,by omega,trivial,⟨_,S3⟩,by simp only[AG,AN,Nat.reduceEqDiff,↓reduceIte,h0],i+1,j-1,by simp only[AG,Nat.reduceEqDiff,↓reduceIte],by simp only[AG,↓reduceIte],by omega,by omega,by omega,by omega,rfl⟩
 ·simp only[IJ,VM,aaA];exact D0 (by kernel_rfl) _ _ (.inl rfl) _ _ ⟨rfl,m,S,trivial⟩
theorem nK{dec:Int→ByteArray}(D:MA dec){W:CW}{b n:Nat}{lo hi:Int}{l:List Int}(ht:Ag W)(hd:Ax dec W b l)(NS:l.length=n)(hn:n≤1000000)(M_:0≤lo)(K2:hi≤n)(py:lo≤hi) :
  AX prog Bf 129 [.slice (some ⟨b,0,none⟩) n n,.int .i64 lo,.int .i64 hi] W (yK dec b lo hi l (Std lo hi) W):=by
 refine yJ ?_;rw[yI];simp only[AO,AA];rw[wrap64 (by omega) (by omega)];generalize Hm:AQ prog Tryz.f129 (yK dec b lo hi l (Std lo hi) W)=KK;refine DX (λk e ds W'=>ds=[]∧e 0=.slice (some ⟨b,0,none⟩) n n∧e 1=.int .i64 lo∧e 2=.int .i64 hi∧∃(i:Int) (m:List Int),e 6=.int .i64 i∧lo<i∧i≤hi+1∧Sx dec W W' b lo hi l m∧Std lo i m∧(hi+1-i).toNat=k) (hi+1-(lo+1)).toNat ⟨rfl,rfl,rfl,rfl,lo+1,l,rfl,by omega,by omega,.start ht hd,λx y hx K_ hy=>by omega,rfl⟩ ?_;rintro k e ds W' ⟨rfl,h0,h1,h2,i,m,h6,i0,i1,S,D1,hk⟩;rw[pN,h2,h6];simp only[Af,AA];refine QQ (λAo=>?_) (λJi=>?_)
 rotate_left
 ·simp only[IJ,VM,aaA];rw[←Hm];exact D0 (by kernel_rfl) _ _ (.inl rfl) _ _ ⟨rfl,m,S,λx y hx K_ hy=>D1 x y hx K_ (by omega)⟩
 refine DX (λk e ds W'=>ds=[]∧e 0=.slice (some ⟨b,0,none⟩) n n∧e 1=.int .i64 lo∧e 2=.int .i64 hi∧e 6=.int .i64 i∧∃(j:Int) (m:List Int),e 7=.int .i64 j∧lo≤j∧j≤i∧Sx dec W W' b lo hi l m∧jM lo i j m∧j.toNat=k) i.toNat ?_ ?_
 ·exact⟨rfl,by simp only[AG,AN,Nat.reduceEqDiff,↓reduceIte,h0],by simp only[AG,AN,Nat.reduceEqDiff,↓reduceIte,h1],by simp only[AG,AN,Nat.reduceEqDiff,↓reduceIte,h2],by simp only[AG,AN,Nat.reduceEqDiff,↓reduceIte,h6],i,m,by simp only[AG,↓reduceIte],by omega,by omega,S,λx y hx K_ hy Dg=>D1 x y hx K_ (by omega),rfl⟩
 rintro k' e ds W' ⟨rfl,h0,h1,h2,h6,j,m,h7,j0,j1,S,hI,s_⟩;have Jb:=S.len NS;rw[AAp,h0,h1,h7];simp only[Bt,AA]
 have k5:∀(e2:Env) (q:Bool),e2 30=.bool q→e2 0=.slice (some ⟨b,0,none⟩) n n→e2 1=.int .i64 lo→e2 2=.int .i64 hi→e2 6=.int .i64 i→e2 7=.int .i64 j→(q=true→lo<j∧at_ m j<at_ m (j-1))→(q=false→j=lo∨at_ m (j-1)≤at_ m j)→(WB none (EC (λk e ds W'=>ds=[]∧e 0=.slice (some ⟨b,0,none⟩) n n∧e 1=.int .i64 lo∧e 2=.int .i64 hi∧e 6=.int .i64 i∧∃(j:Int) (m:List Int),e 7=.int .i64 j∧lo≤j∧j≤i∧Sx dec W W' b lo hi l m∧jM lo i j m∧j.toNat=k) k' (CX 2 (CX 1 (eN none (EC (λk e ds W'=>ds=[]∧e 0=.slice (some ⟨b,0,none⟩) n n∧e 1=.int .i64 lo∧e 2=.int .i64 hi∧∃(i:Int) (m:List Int),e 6=.int .i64 i∧lo<i∧i≤hi+1∧Sx dec W W' b lo hi l m∧Std lo i m∧(hi+1-i).toNat=k) k (CX 0 KK))))))) .normal e2 [] W':=by
  intro e2 q g30 g0 g1 g2 g6 g7 hq fB;simp only[WB,BI,g30]
  refine AH (λhb=>?_) (λhb=>?_)
  ·obtain⟨hj,mH⟩:=hq hb;simp only[bR,BI,g0,g7,Ae,AA];rw[wrap64 (by omega) (by omega)];have hx:=S.ar.ld (i:=j-1) (by omega) (by omega);have hy:=S.ar.ld (i:=j) (by omega) (by omega);rw[Av (by omega) (by omega),Av (by omega) (by omega)];simp only[hx,hy,AA];refine Fz S M_ (by omega) (i:=j-1) (j:=j) (by omega) (by omega) (by omega) (by omega) λW3 S3=>?_;refine⟨by simp only[and_self],trivial,?_⟩;simp only[bQ,BI,Uu];simp only[AG,AN,Nat.reduceEqDiff,↓reduceIte,g7,Ae,AA];rw[wrap64 (by omega) (by omega)];exact⟨(j-1).toNat,by omega,trivial,by simp only[g0],by simp only[g1],by simp only[g2],by simp only[g6],j-1,_,by simp only[AG],by omega,by omega,S3,hI.step M_ hj j1 (by omega) mH,rfl⟩
  ·simp only[bR,bQ,sO,IJ,zw,Oy,BI,VM,Uu,aaA,g6,AO,AA];rw[wrap64 (by omega) (by omega)];exact⟨(hi+1-(i+1)).toNat,by omega,trivial,by simp only[AG,AN,Nat.reduceEqDiff,↓reduceIte,g0],by simp only[AG,AN,Nat.reduceEqDiff,↓reduceIte,g1],by simp only[AG,AN,Nat.reduceEqDiff,↓reduceIte,g2],i+1,m,by simp only[AG,↓reduceIte],by omega,by omega,S,hI.done j0 (fB hb) (by omega),rfl⟩
 refine YX (λZN=>?_) (λhle=>?_)
 ·have hx:=S.ar.ld (i:=j) (by omega) (by omega);have hy:=S.ar.ld (i:=j-1) (by omega) (by omega);rw[Av (by omega) (by omega)];simp only[hx,AA,Ae];rw[wrap64 (by omega) (by omega),Av (by omega) (by omega)];simp only[hy,AA];refine A4 (CZ D _ _ W') ?_;refine⟨by simp only[and_self],trivial,?_⟩;exact k5 _ (decide (at_ m j<at_ m (j-1))) (by simp only[AG,↓reduceIte]) (by simp only[AG,AN,Nat.reduceEqDiff,↓reduceIte,h0]) (by simp only[AG,AN,Nat.reduceEqDiff,↓reduceIte,h1]) (by simp only[AG,AN,Nat.reduceEqDiff,↓reduceIte,h2]) (by simp only[AG,AN,Nat.reduceEqDiff,↓reduceIte,h6]) (by simp only[AG,AN,Nat.reduceEqDiff,↓reduceIte,h7]) (λh=>⟨ZN,of_decide_eq_true h⟩) λh=>.inr (by have:=of_decide_eq_false h;omega)
 ·refine⟨trivial,trivial,?_⟩;exact k5 _ false (by simp only[AG,↓reduceIte]) (by simp only[AG,AN,Nat.reduceEqDiff,↓reduceIte,h0]) (by simp only[AG,AN,Nat.reduceEqDiff,↓reduceIte,h1]) (by simp only[AG,AN,Nat.reduceEqDiff,↓reduceIte,h2]) (by simp only[AG,AN,Nat.reduceEqDiff,↓reduceIte,h6]) (by simp only[AG,AN,Nat.reduceEqDiff,↓reduceIte,h7]) (λh=>(by cases h)) λ_=>.inl (by omega)
def PXo(dec:Int→ByteArray)(W:CW)(b n:Nat)(lo hi:Int)(l:List Int)(k:Nat)(e:Env)(ds:List Deferred)(W':CW):Prop:=ds=[]∧e 0=.slice (some ⟨b,0,none⟩) n n∧e 1=.int .i64 lo∧e 2=.int .i64 hi∧∃(i s:Int) (m:List Int),e 7=.int .i64 i∧e 8=.int .i64 s∧lo<i∧i≤hi∧0≤s∧s≤5∧Sx dec W W' b lo hi l m∧Std lo i m∧(5-s).toNat=k
def PXi(dec:Int→ByteArray)(W:CW)(b n:Nat)(lo hi:Int)(l:List Int)(s:Int)(m:List Int)(k:Nat)(e:Env)(ds:List Deferred)(W':CW):Prop:=ds=[]∧e 0=.slice (some ⟨b,0,none⟩) n n∧e 1=.int .i64 lo∧e 2=.int .i64 hi∧∃i:Int,e 7=.int .i64 i∧e 8=.int .i64 s∧lo<i∧i≤hi∧Sx dec W W' b lo hi l m∧Std lo i m∧(hi+1-i).toNat=k
def PXl(dec:Int→ByteArray)(W:CW)(b n:Nat)(lo hi:Int)(l:List Int)(s i:Int)(k:Nat)(e:Env)(ds:List Deferred)(W':CW):Prop:=ds=[]∧e 0=.slice (some ⟨b,0,none⟩) n n∧e 1=.int .i64 lo∧e 2=.int .i64 hi∧e 7=.int .i64 i∧e 8=.int .i64 s∧∃(j:Int) (m:List Int),e 9=.int .i64 j∧lo≤j∧j≤i-1∧Sx dec W W' b lo hi l m∧jM lo (i-1) j m∧j.toNat=k
def PXr(dec:Int→ByteArray)(W:CW)(b n:Nat)(lo hi:Int)(l:List Int)(s i:Int)(k:Nat)(e:Env)(ds:List Deferred)(W':CW):Prop:=ds=[]∧e 0=.slice (some ⟨b,0,none⟩) n n∧e 1=.int .i64 lo∧e 2=.int .i64 hi∧e 7=.int .i64 i∧e 8=.int .i64 s∧∃(j:Int) (m:List Int),e 10=.int .i64 j∧i<j∧j≤hi∧Sx dec W W' b lo hi l m∧Std lo i m∧(hi-j).toNat=k
theorem yM{dec:Int→ByteArray}(D:MA dec){W:CW}{b n:Nat}{lo hi:Int}{l:List Int}(ht:Ag W)(hd:Ax dec W b l)(NS:l.length=n)(hn:n≤1000000)(M_:0≤lo)(K2:hi≤n)(py:lo<hi)(Bw:0<lo→∀x,lo≤x→x<hi→at_ l (lo-1)≤at_ l x) :
  AX prog Bf 134 [.slice (some ⟨b,0,none⟩) n n,.int .i64 lo,.int .i64 hi] W (λen W'=>∃q m,en=.returned (.bool q)∧Sx dec W W' b lo hi l m∧(q=true→Std lo hi m)):=by
 refine AEf ?_;rw[AEe];generalize Hm:AQ prog Tryz.f134 (λen W'=>∃q m,en=.returned (.bool q)∧Sx dec W W' b lo hi l m∧(q=true→Std lo hi m))=KK
 have It:∀(e:Env) q W' m,e 6=.bool q→Sx dec W W' b lo hi l m→(q=true→Std lo hi m)→KK .ret e [] W':=by
  intro e q W' m h6 S hq;rw[←Hm,nC,h6];exact⟨q,m,rfl,S,hq⟩
 have ow:∀{W' m},Sx dec W W' b lo hi l m→0<lo→∀x,lo≤x→x<hi→at_ m (lo-1)≤at_ m x:=by
  intro W' m S h0 x hx Ss;rw[S.sw.out M_ (by omega) (by omega) (.inl (by omega))];exact S.sw.all (P:=λv=>at_ l (lo-1)≤v) M_ (by omega) (Bw h0) x hx Ss
 simp only[AO,AA];rw[wrap64 (by omega) (by omega)];refine DX (PXo dec W b n lo hi l) 5 ⟨rfl,rfl,rfl,rfl,lo+1,0,l,rfl,rfl,by omega,by omega,by omega,by omega,.start ht hd,λx y hx K_ hy=>by omega,rfl⟩ ?_;rintro k e ds W1 ⟨rfl,h0,h1,h2,i,s,m,h7,h8,i0,i1,s0,s1,S,D1,hk⟩;rw[AAu,h8];simp only[Af,AA];refine QQ (λAo=>?_) (λJi=>?_)
 rotate_left
 ·simp only[IJ,VM,aaA,IZ,BI];exact It _ false _ m (by simp only[AG,↓reduceIte]) S λh=>(by cases h)
 have k1:∀(e2:Env) W2 i m,e2 0=.slice (some ⟨b,0,none⟩) n n→e2 1=.int .i64 lo→e2 2=.int .i64 hi→e2 7=.int .i64 i→e2 8=.int .i64 s→lo<i→i≤hi→Sx dec W W2 b lo hi l m→Std lo i m→(Jg none (EC (PXo dec W b n lo hi l) k (CX 0 (IZ none KK)))) .normal e2 [] W2:=by
  intro e2 W2 i m g0 g1 g2 g7 g8 j0 j1 S2 Ul;simp only[UG,BI,Uu,g8,AO,AA];rw[wrap64 (by omega) (by omega)];exact⟨(5-(s+1)).toNat,by omega,rfl,by simp only[AG,AN,Nat.reduceEqDiff,↓reduceIte,g0],by simp only[AG,AN,Nat.reduceEqDiff,↓reduceIte,g1],by simp only[AG,AN,Nat.reduceEqDiff,↓reduceIte,g2],i,s+1,m,by simp only[AG,AN,Nat.reduceEqDiff,↓reduceIte,g7],by simp only[AG,↓reduceIte],j0,j1,by omega,by omega,S2,Ul,rfl⟩
 have k4:∀(e2:Env) W2 i m,e2 0=.slice (some ⟨b,0,none⟩) n n→e2 1=.int .i64 lo→e2 2=.int .i64 hi→e2 7=.int .i64 i→e2 8=.int .i64 s→lo<i→i≤hi→Sx dec W W2 b lo hi l m→Std lo i m→(SG none (EC (PXo dec W b n lo hi l) k (CX 0 (IZ none KK)))) .normal e2 [] W2:=by
  intro e2 W2 i m g0 g1 g2 g7 g8 j0 j1 S2 Ul;simp only[sW,BI,g2,g7,Ae,CC,AO,AA];rw[wrap64 (x:=hi-i) (by omega) (by omega)];refine QR (λJi=>?_) (λAo=>?_)
  rotate_left
  ·exact k1 _ W2 i m (by simp only[AG,AN,Nat.reduceEqDiff,↓reduceIte,g0]) (by simp only[AG,AN,Nat.reduceEqDiff,↓reduceIte,g1]) (by simp only[AG,AN,Nat.reduceEqDiff,↓reduceIte,g2]) (by simp only[AG,AN,Nat.reduceEqDiff,↓reduceIte,g7]) (by simp only[AG,AN,Nat.reduceEqDiff,↓reduceIte,g8]) j0 j1 S2 Ul
  rw[wrap64 (x:=i+1) (by omega) (by omega)];refine DX (PXr dec W b n lo hi l s i) (hi-(i+1)).toNat ⟨rfl,by simp only[AG,AN,Nat.reduceEqDiff,↓reduceIte,g0],by simp only[AG,AN,Nat.reduceEqDiff,↓reduceIte,g1],by simp only[AG,AN,Nat.reduceEqDiff,↓reduceIte,g2],by simp only[AG,AN,Nat.reduceEqDiff,↓reduceIte,g7],by simp only[AG,AN,Nat.reduceEqDiff,↓reduceIte,g8],i+1,m,by simp only[AG,↓reduceIte],by omega,by omega,S2,Ul,rfl⟩ ?_;clear g0 g1 g2 g7 g8 S2 Ul S D1;rintro k' e3 ds W3 ⟨rfl,g0,g1,g2,g7,g8,j,m,wE,jj0,jj1,S3,rC,s_⟩;have Jb:=S3.len NS
  have done:∀(e4:Env),e4 0=.slice (some ⟨b,0,none⟩) n n→e4 1=.int .i64 lo→e4 2=.int .i64 hi→e4 7=.int .i64 i→e4 8=.int .i64 s→(CX 6 (CX 1 (Jg none (EC (PXo dec W b n lo hi l) k (CX 0 (IZ none KK)))))) (.exit 6) e4 [] W3:=by
   intro e4 q0 q1 q2 q7 q8;simp only[IJ,aaA,zw];exact k1 e4 W3 i m q0 q1 q2 q7 q8 j0 j1 S3 rC
  rw[AAx,g0,g2,wE];simp only[Af,AA];refine QQ (λPG=>?_) (λNW=>?_)
  rotate_left
  ·simp only[VM];exact done _ (by simp only[AG,AN,Nat.reduceEqDiff,↓reduceIte,g0]) (by simp only[AG,AN,Nat.reduceEqDiff,↓reduceIte,g1]) (by simp only[AG,AN,Nat.reduceEqDiff,↓reduceIte,g2]) (by simp only[AG,AN,Nat.reduceEqDiff,↓reduceIte,g7]) (by simp only[AG,AN,Nat.reduceEqDiff,↓reduceIte,g8])
  have hx:=S3.ar.ld (i:=j) (by omega) (by omega);have hy:=S3.ar.ld (i:=j-1) (by omega) (by omega);rw[Av (by omega) (by omega)];simp only[hx,AA,Ae];rw[wrap64 (x:=j-1) (by omega) (by omega),Av (by omega) (by omega)];simp only[hy,AA];refine A4 (CZ D _ _ W3) ?_;simp only[AW,AA];refine⟨by simp only[and_self],trivial,?_⟩
  refine AH (λ_=>?_) (λ_=>?_)
  ·simp only[Yk,Oy,VM];exact done _ (by simp only[AG,AN,Nat.reduceEqDiff,↓reduceIte,g0]) (by simp only[AG,AN,Nat.reduceEqDiff,↓reduceIte,g1]) (by simp only[AG,AN,Nat.reduceEqDiff,↓reduceIte,g2]) (by simp only[AG,AN,Nat.reduceEqDiff,↓reduceIte,g7]) (by simp only[AG,AN,Nat.reduceEqDiff,↓reduceIte,g8])
  ·simp only[hx,hy,AA];refine Fz S3 M_ (by omega) (i:=j-1) (j:=j) (by omega) (by omega) (by omega) (by omega) λW4 S4=>?_;refine⟨by simp only[and_self],trivial,?_⟩;simp only[Yk,BI,Uu];simp only[AG,AN,Nat.reduceEqDiff,↓reduceIte,wE,AO,AA];rw[wrap64 (by omega) (by omega)];refine⟨(hi-(j+1)).toNat,by omega,rfl,by simp only[AG,AN,Nat.reduceEqDiff,↓reduceIte,g0],by simp only[AG,AN,Nat.reduceEqDiff,↓reduceIte,g1],by simp only[AG,AN,Nat.reduceEqDiff,↓reduceIte,g2],by simp only[AG,AN,Nat.reduceEqDiff,↓reduceIte,g7],by simp only[AG,AN,Nat.reduceEqDiff,↓reduceIte,g8],j+1,_,(by first|rfl|simp only[AG,AN,jv,Nat.reduceEqDiff,↓reduceIte,jw,vT,aK,and_self]),by omega,by omega,S4,λx y hx K_ hy=>?_,rfl⟩;have e:=λk (hk:0≤k)=>OI (l:=m) (i:=j-1) (j:=j) (k:=k) (by omega) (by omega) (by omega) (by omega) hk;rw[e x (by omega),e y (by omega),aac (by omega),aac (by omega),aac (by omega),aac (by omega)];exact rC x y hx K_ hy
 refine DX (PXi dec W b n lo hi l s m) (hi+1-i).toNat ⟨rfl,by simp only[AG,AN,Nat.reduceEqDiff,↓reduceIte,h0],by simp only[AG,AN,Nat.reduceEqDiff,↓reduceIte,h1],by simp only[AG,AN,Nat.reduceEqDiff,↓reduceIte,h2],i,by simp only[AG,AN,Nat.reduceEqDiff,↓reduceIte,h7],by simp only[AG,AN,Nat.reduceEqDiff,↓reduceIte,h8],i0,i1,S,D1,rfl⟩ ?_;clear h0 h1 h2 h7 h8 D1 i0 i1 i S;rintro k' e2 ds W2 ⟨rfl,h0,h1,h2,i,h7,h8,i0,i1,S,D1,s_⟩;have Jb:=S.len NS
 have k5:∀(e3:Env),e3 0=.slice (some ⟨b,0,none⟩) n n→e3 1=.int .i64 lo→e3 2=.int .i64 hi→e3 7=.int .i64 i→e3 8=.int .i64 s→(i<hi→at_ m i<at_ m (i-1))→(CX 2 (WE none (EC (PXo dec W b n lo hi l) k (CX 0 (IZ none KK))))) (.exit 2) e3 [] W2:=by
  intro e3 g0 g1 g2 g7 g8 mH;simp only[IJ,aaA,sX,BI,g0,g1,g2,g7,BJ,AA]
  refine AH (λhb=>?_) (λhb=>?_)
  ·have hb:i=hi:=eq_of_beq hb;subst hb;simp only[UG,NP,Tm,Uu,tKr,IZ];exact It _ true _ m (by simp only[AG,↓reduceIte]) S λ_=>D1
  have hb:i≠hi:=by intro h;rw[h]at hb;simp at hb
  have mH:=mH (by omega);simp only[Ae,Af,AA];rw[wrap64 (x:=hi-lo) (by omega) (by omega)]
  refine QQ (λ_=>?_) (λ_=>?_)
  ·simp only[UG,NP,Tm,Uu,tKr,IZ];exact It _ false _ m (by simp only[AG,↓reduceIte]) S λh=>(by cases h)
  rw[wrap64 (x:=i-1) (by omega) (by omega)];have hx:=S.ar.ld (i:=i) (by omega) (by omega);have hy:=S.ar.ld (i:=i-1) (by omega) (by omega);rw[Av (by omega) (by omega),Av (by omega) (by omega)];simp only[hx,hy,AA];refine Fz S M_ (by omega) (i:=i-1) (j:=i) (by omega) (by omega) (by omega) (by omega) λW4 S4=>?_;refine⟨by simp only[and_self],trivial,?_⟩;rw[wrap64 (x:=i-lo) (by omega) (by omega)];simp only[CC,AA];have e:=λk (hk:0≤k)=>OI (l:=m) (i:=i-1) (j:=i) (k:=k) (by omega) (by omega) (by omega) (by omega) hk;refine QR (λJi=>?_) (λNp=>?_)
  rotate_left
  ·exact k4 _ W4 i _ (by simp only[AG,AN,Nat.reduceEqDiff,↓reduceIte,g0]) (by simp only[AG,AN,Nat.reduceEqDiff,↓reduceIte,g1]) (by simp only[AG,AN,Nat.reduceEqDiff,↓reduceIte,g2]) (by simp only[AG,AN,Nat.reduceEqDiff,↓reduceIte,g7]) (by simp only[AG,AN,Nat.reduceEqDiff,↓reduceIte,g8]) i0 i1 S4 λx y hx K_ hy=>by omega
  refine DX (PXl dec W b n lo hi l s i) (i-1).toNat ⟨rfl,by simp only[AG,AN,Nat.reduceEqDiff,↓reduceIte,g0],by simp only[AG,AN,Nat.reduceEqDiff,↓reduceIte,g1],by simp only[AG,AN,Nat.reduceEqDiff,↓reduceIte,g2],by simp only[AG,AN,Nat.reduceEqDiff,↓reduceIte,g7],by simp only[AG,AN,Nat.reduceEqDiff,↓reduceIte,g8],i-1,_,by simp only[AG,↓reduceIte],by omega,by omega,S4,λx y hx K_ hy Dg=>?_,rfl⟩ ?_
  ·rw[e x (by omega),e y (by omega),aac (by omega),aac (by omega),aac (by omega),aac (by omega)];exact D1 x y hx K_ (by omega)
  clear e hx hy S4 g0 g1 g2 g7 g8;rintro k2 e4 ds W5 ⟨rfl,g0,g1,g2,g7,g8,j,m5,g9,jj0,jj1,S5,hI,qE⟩;have hm5:=S5.len NS
  have done:∀(e6:Env),e6 0=.slice (some ⟨b,0,none⟩) n n→e6 1=.int .i64 lo→e6 2=.int .i64 hi→e6 7=.int .i64 i→e6 8=.int .i64 s→(j=lo∨at_ m5 (j-1)≤at_ m5 j)→(CX 4 (SG none (EC (PXo dec W b n lo hi l) k (CX 0 (IZ none KK))))) (.exit 4) e6 [] W5:=by
   intro e6 q0 q1 q2 q7 q8 VY;simp only[IJ,aaA];refine k4 e6 W5 i m5 q0 q1 q2 q7 q8 i0 i1 S5 ?_;have:=hI.done jj0 VY (by omega)
   rwa[show i-1+1=i by omega]at this
  rw[AAw,g0,g9];simp only[CC,AA];refine QR (λnq=>?_) (λnq=>?_)
  rotate_left
  ·simp only[VM];exact done _ (by simp only[AG,AN,Nat.reduceEqDiff,↓reduceIte,g0]) (by simp only[AG,AN,Nat.reduceEqDiff,↓reduceIte,g1]) (by simp only[AG,AN,Nat.reduceEqDiff,↓reduceIte,g2]) (by simp only[AG,AN,Nat.reduceEqDiff,↓reduceIte,g7]) (by simp only[AG,AN,Nat.reduceEqDiff,↓reduceIte,g8]) (.inl (by omega))
  have hx:=S5.ar.ld (i:=j) (by omega) (by omega);have hy:=S5.ar.ld (i:=j-1) (by omega) (by omega);rw[Av (by omega) (by omega)];simp only[hx,AA,Ae];rw[wrap64 (x:=j-1) (by omega) (by omega),Av (by omega) (by omega)];simp only[hy,AA];refine A4 (CZ D _ _ W5) ?_;simp only[AW,AA];refine⟨by simp only[and_self],trivial,?_⟩
  refine AH (λhb=>?_) (λhb=>?_)
  ·simp only[Yi,Oy,VM];have hb:(!decide (at_ m5 j<at_ m5 (j-1)))=true:=hb;simp at hb;exact done _ (by simp only[AG,AN,Nat.reduceEqDiff,↓reduceIte,g0]) (by simp only[AG,AN,Nat.reduceEqDiff,↓reduceIte,g1]) (by simp only[AG,AN,Nat.reduceEqDiff,↓reduceIte,g2]) (by simp only[AG,AN,Nat.reduceEqDiff,↓reduceIte,g7]) (by simp only[AG,AN,Nat.reduceEqDiff,↓reduceIte,g8]) (.inr hb)
  ·have hb:(!decide (at_ m5 j<at_ m5 (j-1)))=false:=hb;simp at hb
   have AKj:lo<j:=by
    rcases Int.lt_or_eq_of_le jj0 with h|h
    ·exact h
    ·have:=ow S5 (by omega) j jj0 (by omega);rw[h]at this;omega
   simp only[hx,hy,AA];refine Fz S5 M_ (by omega) (i:=j-1) (j:=j) (by omega) (by omega) (by omega) (by omega) λW6 S6=>?_;refine⟨by simp only[and_self],trivial,?_⟩;simp only[Yi,BI,Uu];simp only[AG,AN,Nat.reduceEqDiff,↓reduceIte,g9,Ae,AA];rw[wrap64 (by omega) (by omega)];exact⟨(j-1).toNat,by omega,rfl,by simp only[AG,AN,Nat.reduceEqDiff,↓reduceIte,g0],by simp only[AG,AN,Nat.reduceEqDiff,↓reduceIte,g1],by simp only[AG,AN,Nat.reduceEqDiff,↓reduceIte,g2],by simp only[AG,AN,Nat.reduceEqDiff,↓reduceIte,g7],by simp only[AG,AN,Nat.reduceEqDiff,↓reduceIte,g8],j-1,_,(by first|rfl|simp only[AG,AN,jv,Nat.reduceEqDiff,↓reduceIte,jw,vT,aK,and_self]),by omega,by omega,S6,hI.step M_ AKj jj1 (by omega) hb,rfl⟩
 rw[AAv,h0,h2,h7];simp only[Af,AA]
 have k7:∀(e3:Env) (q:Bool),e3 32=.bool q→e3 0=.slice (some ⟨b,0,none⟩) n n→e3 1=.int .i64 lo→e3 2=.int .i64 hi→e3 7=.int .i64 i→e3 8=.int .i64 s→(q=true→i<hi∧at_ m (i-1)≤at_ m i)→(q=false→i<hi→at_ m i<at_ m (i-1))→(WH none (EC (PXi dec W b n lo hi l s m) k' (CX 2 (WE none (EC (PXo dec W b n lo hi l) k (CX 0 (IZ none KK))))))) .normal e3 [] W2:=by
  intro e3 q g32 g0 g1 g2 g7 g8 hq fB;simp only[WH,BI,g32]
  refine AH (λhb=>?_) (λhb=>?_)
  ·obtain⟨hj,AKk⟩:=hq hb;simp only[bS,BI,Uu,g7,AO,AA];rw[wrap64 (by omega) (by omega)];refine⟨(hi+1-(i+1)).toNat,by omega,rfl,by simp only[AG,AN,Nat.reduceEqDiff,↓reduceIte,g0],by simp only[AG,AN,Nat.reduceEqDiff,↓reduceIte,g1],by simp only[AG,AN,Nat.reduceEqDiff,↓reduceIte,g2],i+1,by simp only[AG,↓reduceIte],by simp only[AG,AN,Nat.reduceEqDiff,↓reduceIte,g8],by omega,by omega,S,λx y hx K_ hy=>?_,rfl⟩
   by_cases e:y=i
   ·subst e
    by_cases e2:x=y-1
    ·rw[e2];exact AKk
    ·have:=D1 x (y-1) hx (by omega) (by omega);omega
   ·exact D1 x y hx K_ (by omega)
  ·simp only[bS,Oy,VM];exact k5 e3 g0 g1 g2 g7 g8 (fB hb)
 refine QQ (λZN=>?_) (λhle=>?_)
 ·have hx:=S.ar.ld (i:=i) (by omega) (by omega);have hy:=S.ar.ld (i:=i-1) (by omega) (by omega);rw[Av (by omega) (by omega)];simp only[hx,AA,Ae];rw[wrap64 (by omega) (by omega),Av (by omega) (by omega)];simp only[hy,AA];refine A4 (CZ D _ _ W2) ?_;simp only[AW,AA];refine⟨by simp only[and_self],trivial,?_⟩;exact k7 _ (!decide (at_ m i<at_ m (i-1))) (by simp only[AG,↓reduceIte]) (by simp only[AG,AN,Nat.reduceEqDiff,↓reduceIte,h0]) (by simp only[AG,AN,Nat.reduceEqDiff,↓reduceIte,h1]) (by simp only[AG,AN,Nat.reduceEqDiff,↓reduceIte,h2]) (by simp only[AG,AN,Nat.reduceEqDiff,↓reduceIte,h7]) (by simp only[AG,AN,Nat.reduceEqDiff,↓reduceIte,h8]) (λh=>⟨ZN,by have h:(!decide (at_ m i<at_ m (i-1)))=true:=h;simp at h;exact h⟩) λh _=>by have h:(!decide (at_ m i<at_ m (i-1)))=false:=h;simp at h;exact h
 ·refine⟨trivial,trivial,?_⟩;exact k7 _ false (by simp only[AG,↓reduceIte]) (by simp only[AG,AN,Nat.reduceEqDiff,↓reduceIte,h0]) (by simp only[AG,AN,Nat.reduceEqDiff,↓reduceIte,h1]) (by simp only[AG,AN,Nat.reduceEqDiff,↓reduceIte,h2]) (by simp only[AG,AN,Nat.reduceEqDiff,↓reduceIte,h7]) (by simp only[AG,AN,Nat.reduceEqDiff,↓reduceIte,h8]) (λh=>(by cases h)) λ_ h=>by omega
end Go.Ce
