/- A part of the proof: Yc, Yp, Yd, Ye, ShX1, Yf, Xi, Xj, Za, Zb, ShW, Uf, Vf, Vg, Xk, Xl, Tj, Tk, ShV3, Ug, Uh, Vh, Xm, Zc, Zd, Tl, Xn, Ze, Zf, Zg, Zh. -/
import Derived.Test.YtmknebebbbjdlaaGreatW02
import Derived.Test.YtmknebebbbjdlaaGreatW03
import Derived.Test.YtmknebebbbjdlaaGreatW05
import Derived.Test.YtmknebebbbjdlaaGreatProg
set_option linter.unusedSectionVars false
set_option linter.unusedVariables false
set_option linter.unusedSimpArgs false
set_option linter.defProp false
set_option maxRecDepth 200000
namespace Go.Ce
open Go Go.Proofs Go.Proofs.Tryz
theorem ABn{dec:Int→ByteArray}(D:MA dec){W:CW}{b n:Nat}{lo hi first:Int}{l:List Int}(ht:Ag W)(hd:Ax dec W b l)(NS:l.length=n)(hn:n≤1000000)(M_:0≤lo)(hl9:lo≤n)(hf:0≤first)(K2:first+hi≤n)(h0i:0≤hi)(hH:HP l first (lo+1) hi) :
  AX prog Bf 150 [.slice (some ⟨b,0,none⟩) n n,.int .i64 lo,.int .i64 hi,.int .i64 first] W (yK dec b first (first+hi) l (λm=>HP m first lo hi) W):=by
 refine AEn ?_;rw[AEm];generalize Hm:AQ prog Tryz.f150 (yK dec b first (first+hi) l (λm=>HP m first lo hi) W)=KK
 have Ei:∀(x:Exit) (hx:x=.normal∨x=.ret) (e:Env) W' m,Sx dec W W' b first (first+hi) l m→HP m first lo hi→KK x e [] W':=by
  intro x hx e W' m S h;rw[←Hm];exact D0 (by kernel_rfl) _ _ hx _ _ ⟨rfl,m,S,h⟩
 refine DX (λk e ds W'=>ds=[]∧e 0=.slice (some ⟨b,0,none⟩) n n∧e 2=.int .i64 hi∧e 3=.int .i64 first∧∃(r:Int) (m:List Int),e 8=.int .i64 r∧lo≤r∧r≤n∧Sx dec W W' b first (first+hi) l m∧SiP m first lo hi r∧(n-r).toNat=k) ((n:Int)-lo).toNat ⟨rfl,rfl,rfl,rfl,lo,l,rfl,abx _,hl9,.start ht hd,⟨λc p hp Dg=>hH c p (by omega),λc p hp Ao=>by omega⟩,rfl⟩ ?_;rintro k e ds W' ⟨rfl,h0,h2,h3,r,m,h8,r0,r1,S,hS,hk⟩;have Jb:=S.len NS;rw[AA6,h0,h2,h3,h8];simp only[Lm,AO,CC,AA];rw[wrap64 (x:=2*r) (by omega) (by omega),wrap64 (x:=2*r+1) (by omega) (by omega)]
 refine QR (λJi=>?_) (λAo=>?_)
 ·simp only[IJ,VM,aaA];refine Ei _ (.inl rfl) _ _ m S λc p hp we hc hcp=>?_
  by_cases M3:p=r
  ·omega
  ·exact hS.1 c p hp M3 we hc hcp
 have k4:∀(e2:Env) (c:Int),e2 0=.slice (some ⟨b,0,none⟩) n n→e2 2=.int .i64 hi→e2 3=.int .i64 first→e2 8=.int .i64 r→e2 9=.int .i64 c→(c=2*r+1∨c=2*r+2)→c<hi→(∀x,r<x→x<hi→(x=2*r+1∨x=2*r+2)→at_ m (first+x)≤at_ m (first+c))→(SR none (EC (λk e ds W'=>ds=[]∧e 0=.slice (some ⟨b,0,none⟩) n n∧e 2=.int .i64 hi∧e 3=.int .i64 first∧∃(r:Int) (m:List Int),e 8=.int .i64 r∧lo≤r∧r≤n∧Sx dec W W' b first (first+hi) l m∧SiP m first lo hi r∧(n-r).toNat=k) k (CX 0 KK))) .normal e2 [] W':=by
  intro e2 c g0 g2 g3 g8 g9 hrc Ic kG;simp only[sc,BI,Tm,Uu,tKr,g0,g3,g8,g9,AO,AA];rw[wrap64 (x:=first+r) (by omega) (by omega),wrap64 (x:=first+c) (by omega) (by omega)];have hx:=S.ar.ld (i:=first+r) (by omega) (by omega);have hy:=S.ar.ld (i:=first+c) (by omega) (by omega);rw[Av (by omega) (by omega),Av (by omega) (by omega)];simp only[hx,hy,AA];refine A4 (CZ D _ _ W') ?_;simp only[AW,AA];refine⟨by simp only[and_self],trivial,?_⟩
  refine AH (λhb=>?_) (λhb=>?_)
  ·refine Ei _ (.inr rfl) _ _ m S λx p hp hpx Ss hxp=>?_
   by_cases M3:p=r
   ·subst M3;have h1:=kG x hpx Ss hxp;have:¬at_ m (first+p)<at_ m (first+c):=by simpa using hb
    omega
   ·exact hS.1 x p hp M3 hpx Ss hxp
  ·have hb:at_ m (first+r)<at_ m (first+c):=by simpa using hb
   simp only[hx,hy,AA];refine Fz S hf (by omega) (i:=first+c) (j:=first+r) (by omega) (by omega) (by omega) (by omega) λW3 S3=>?_;refine⟨by simp only[and_self],trivial,?_⟩;exact⟨(n-c).toNat,by omega,trivial,by simp only[AG,AN,Nat.reduceEqDiff,↓reduceIte,g0],by simp only[AG,AN,Nat.reduceEqDiff,↓reduceIte,g2],by simp only[AG,AN,Nat.reduceEqDiff,↓reduceIte,g3],c,_,by simp only[AG,↓reduceIte],by omega,by omega,S3,hS.step M_ r0 hf (by omega) hrc Ic hb kG,rfl⟩
 have k5:∀(e2:Env) (q:Bool),e2 36=.bool q→e2 0=.slice (some ⟨b,0,none⟩) n n→e2 2=.int .i64 hi→e2 3=.int .i64 first→e2 8=.int .i64 r→e2 9=.int .i64 (2*r+1)→(q=true→2*r+1+1<hi∧at_ m (first+(2*r+1))<at_ m (first+(2*r+1)+1))→(q=false→2*r+1+1<hi→at_ m (first+(2*r+1)+1)≤at_ m (first+(2*r+1)))→(WL none (EC (λk e ds W'=>ds=[]∧e 0=.slice (some ⟨b,0,none⟩) n n∧e 2=.int .i64 hi∧e 3=.int .i64 first∧∃(r:Int) (m:List Int),e 8=.int .i64 r∧lo≤r∧r≤n∧Sx dec W W' b first (first+hi) l m∧SiP m first lo hi r∧(n-r).toNat=k) k (CX 0 KK))) .normal e2 [] W':=by
  intro e2 q g36 g0 g2 g3 g8 g9 hq fB;simp only[sd,BI,g36];have e1:first+(2*r+1)+1=first+(2*r+2):=by omega
  rw[e1]at hq fB
  refine AH (λhb=>?_) (λhb=>?_)
  ·obtain⟨jo,cN⟩:=hq hb;simp only[g9,AO,AA];rw[wrap64 (by omega) (by omega)];refine k4 _ (2*r+1+1) (by simp only[AG,AN,Nat.reduceEqDiff,↓reduceIte,g0]) (by simp only[AG,AN,Nat.reduceEqDiff,↓reduceIte,g2]) (by simp only[AG,AN,Nat.reduceEqDiff,↓reduceIte,g3]) (by simp only[AG,AN,Nat.reduceEqDiff,↓reduceIte,g8]) (by simp only[AG,↓reduceIte]) (by omega) (by omega) λx RJ fZ hx3=>?_;have e2:first+(2*r+1+1)=first+(2*r+2):=by omega
   rw[e2]
   rcases hx3 with rfl|rfl
   ·exact Int.le_of_lt cN
   ·exact abx _
  ·refine k4 e2 (2*r+1) g0 g2 g3 g8 g9 (by omega) (by omega) λx RJ fZ hx3=>?_
   rcases hx3 with rfl|rfl
   ·exact abx _
   ·exact fB hb (by omega)
 rw[wrap64 (x:=2*r+1+1) (by omega) (by omega)];simp only[Af,AA]
 refine QQ (λPG=>?_) (λPG=>?_)
 ·rw[wrap64 (x:=first+(2*r+1)) (by omega) (by omega),wrap64 (x:=first+(2*r+1)+1) (by omega) (by omega)];have hx:=S.ar.ld (i:=first+(2*r+1)) (by omega) (by omega);have hy:=S.ar.ld (i:=first+(2*r+1)+1) (by omega) (by omega);rw[Av (by omega) (by omega),Av (by omega) (by omega)];simp only[hx,hy,AA];refine A4 (CZ D _ _ W') ?_;refine⟨by simp only[and_self],trivial,?_⟩;exact k5 _ (decide (at_ m (first+(2*r+1))<at_ m (first+(2*r+1)+1))) (by simp only[AG,↓reduceIte]) (by simp only[AG,AN,Nat.reduceEqDiff,↓reduceIte,h0]) (by simp only[AG,AN,Nat.reduceEqDiff,↓reduceIte,h2]) (by simp only[AG,AN,Nat.reduceEqDiff,↓reduceIte,h3]) (by simp only[AG,AN,Nat.reduceEqDiff,↓reduceIte,h8]) (by simp only[AG,Nat.reduceEqDiff,↓reduceIte]) (λh=>⟨PG,of_decide_eq_true h⟩) λh _=>by have:=of_decide_eq_false h;omega
 ·refine⟨trivial,trivial,?_⟩;exact k5 _ false (by simp only[AG,↓reduceIte]) (by simp only[AG,AN,Nat.reduceEqDiff,↓reduceIte,h0]) (by simp only[AG,AN,Nat.reduceEqDiff,↓reduceIte,h2]) (by simp only[AG,AN,Nat.reduceEqDiff,↓reduceIte,h3]) (by simp only[AG,AN,Nat.reduceEqDiff,↓reduceIte,h8]) (by simp only[AG,Nat.reduceEqDiff,↓reduceIte]) (λh=>(by cases h)) λ_ h=>by omega
theorem AH4{dec:Int→ByteArray}(D:MA dec){W:CW}{b n:Nat}{lo hi:Int}{l:List Int}(ht:Ag W)(hd:Ax dec W b l)(NS:l.length=n)(hn:n≤1000000)(M_:0≤lo)(K2:hi≤n)(py:lo<hi) :
  AX prog Bf 130 [.slice (some ⟨b,0,none⟩) n n,.int .i64 lo,.int .i64 hi] W (yK dec b lo hi l (Std lo hi) W):=by
 refine AEX ?_;rw[AEW];generalize Hm:AQ prog Tryz.f130 (yK dec b lo hi l (Std lo hi) W)=KK;simp only[Ae,AA];rw[wrap64 (x:=hi-lo) (by omega) (by omega),wrap64 (by omega) (by omega),yC (by omega) (by omega) (by omega)];simp only[AA];have ehi:lo+(hi-lo)=hi:=by omega
 refine DX (λk e ds W'=>ds=[]∧e 0=.slice (some ⟨b,0,none⟩) n n∧e 6=.int .i64 lo∧e 7=.int .i64 0∧e 8=.int .i64 (hi-lo)∧∃(i:Int) (m:List Int),e 9=.int .i64 i∧-1≤i∧i<hi-lo∧Sx dec W W' b lo hi l m∧HP m lo (i+1) (hi-lo)∧(i+1).toNat=k) ((hi-lo-1)/2+1).toNat ⟨rfl,rfl,rfl,rfl,rfl,(hi-lo-1)/2,l,rfl,by omega,by omega,.start ht hd,λc p hp we hc hcp=>by omega,rfl⟩ ?_;rintro k e ds W' ⟨rfl,h0,h6,h7,h8,i,m,h9,i0,i1,S,hH,hk⟩;have Jb:=S.len NS;rw[AAq,h0,h6,h8,h9];simp only[CC,AA]
 refine QR (λJi=>?_) (λAo=>?_)
 ·refine(ABn D S.top S.ar Jb hn Ji (by omega) M_ (by omega) (by omega) hH).mono λen W2 ⟨he,m2,S2,hH2⟩=>?_;subst he;rw[ehi]at S2;refine AP ?_;simp only[sQ,BI,Uu];simp only[AG,AN,Nat.reduceEqDiff,↓reduceIte,h9,Ae,AA];rw[wrap64 (by omega) (by omega)];exact⟨(i-1+1).toNat,by omega,trivial,by simp only[h0],by simp only[h6],by simp only[h7],by simp only[h8],i-1,m2,by simp only[AG],by omega,by omega,S.trans S2,by rw[show i-1+1=i by omega];exact hH2,rfl⟩
 have hH0:HP m lo 0 (hi-lo):=by rw[show i+1=0 by omega]at hH;exact hH
 simp only[IJ,VM,aaA,sP,BI];simp only[AG,AN,Nat.reduceEqDiff,↓reduceIte,h8,Ae,AA];rw[wrap64 (by omega) (by omega)]
 refine DX (λk e ds W'=>ds=[]∧e 0=.slice (some ⟨b,0,none⟩) n n∧e 6=.int .i64 lo∧e 7=.int .i64 0∧∃(i:Int) (m:List Int),e 10=.int .i64 i∧-1≤i∧i<hi-lo∧Sx dec W W' b lo hi l m∧HP m lo 0 (i+1)∧Std (lo+i+1) hi m∧(∀x y,0≤x→x≤i→lo+i<y→y<hi→at_ m (lo+x)≤at_ m y)∧(i+1).toNat=k) (hi-lo-1+1).toNat ?_ ?_
 ·exact⟨rfl,by simp only[AG,AN,Nat.reduceEqDiff,↓reduceIte,h0],by simp only[AG,AN,Nat.reduceEqDiff,↓reduceIte,h6],by simp only[AG,AN,Nat.reduceEqDiff,↓reduceIte,h7],hi-lo-1,m,by simp only[AG,↓reduceIte],by omega,by omega,S,by rw[show hi-lo-1+1=hi-lo by omega];exact hH0,λx y hx K_ hy=>by omega,λx y hx0 RJ nj hy1=>by omega,rfl⟩
 clear hH hH0 S Jb m;rintro k e ds W' ⟨rfl,h0,h6,h7,i,m,R4,i0,i1,S,hH,D1,hcr,hk⟩;have Jb:=S.len NS;rw[AAr,h0,h6,h7,R4];simp only[CC,AA]
 refine QR (λJi=>?_) (λAo=>?_)
 ·simp only[AO,AA];rw[wrap64 (by omega) (by omega)];have hx:=S.ar.ld (i:=lo+i) (by omega) (by omega);have hy:=S.ar.ld (i:=lo) (by omega) (by omega);rw[Av (by omega) (by omega),Av (by omega) (by omega)];simp only[hx,hy,AA];refine Fz S M_ (by omega) (i:=lo+i) (j:=lo) (by omega) (by omega) (by omega) (by omega) λW3 S3=>?_;refine⟨by simp only[and_self],trivial,?_⟩;have e:=λk (hk:0≤k)=>OI (l:=m) (i:=lo+i) (j:=lo) (k:=k) (by omega) (by omega) (by omega) (by omega) hk;have tC:=S3.len NS
  have ABo:∀x,0≤x→x≤i→at_ m (lo+x)≤at_ m lo:=λx hx0 RJ=>by
   have:=hH.root x.toNat x rfl hx0 (by omega);rw[Int.add_zero]at this;exact this
  have Bv:∀V,at_ m lo≤V→∀k,lo≤k→k<lo+i→at_ (jL m (lo+i) lo) k≤V:=λV hV k uS fk=>by
   rw[e k (by omega),aac (by omega)]
   split
   ·have:=ABo i Ji (abx _);omega
   ·have:=ABo (k-lo) (by omega) (by omega);rw[show lo+(k-lo)=k by omega]at this;omega
  refine(ABn D S3.top S3.ar tC hn (by omega) (by omega) M_ (by omega) Ji (λc p hp we hc hcp=>?_)).mono λen W4 ⟨he,m4,S4,hH4⟩=>?_
  ·rw[e (lo+c) (by omega),e (lo+p) (by omega),aac (by omega),aac (by omega),aac (by omega),aac (by omega)];exact hH c p (by omega) we (by omega) hcp
  subst he;refine AP ?_;simp only[sR,BI,Uu];simp only[AG,AN,Nat.reduceEqDiff,↓reduceIte,R4,Ae,AA];rw[wrap64 (by omega) (by omega)]
  have Gm:∀y,lo+i≤y→y<hi→at_ m4 y=if y=lo+i then at_ m lo else at_ m y:=λy nj hy1=>by
   rw[S4.sw.out M_ (by rw[tC];omega) (by omega) (.inr nj),e y (by omega)]
   split
   ·rfl
   ·rw[aac (by omega)]
  refine⟨(i-1+1).toNat,by omega,trivial,by simp only[h0],by simp only[h6],by simp only[h7],i-1,m4,by simp only[AG],by omega,by omega,S3.trans (S4.mono (abx _) (by omega)),by rw[show i-1+1=i by omega];exact hH4,λx y hx0 K_ hy=>?_,λx y hx0 RJ nj hy1=>?_,rfl⟩
  ·rw[Gm x (by omega) (by omega),Gm y (by omega) hy,aac (show¬y=lo+i by omega)]
   split
   ·have:=hcr 0 y (abx _) Ji (by omega) hy;rw[Int.add_zero]at this;exact this
   ·exact D1 x y (by omega) K_ hy
  ·rw[Gm y (by omega) hy1];refine S4.sw.all M_ (by rw[tC];omega) (P:=λv=>v≤if y=lo+i then at_ m lo else at_ m y) (λk uS fk=>?_) (lo+x) (by omega) (by omega)
   split
   ·exact Bv _ (abx _) k uS fk
   ·refine Bv _ ?_ k uS fk;have:=hcr 0 y (abx _) Ji (by omega) hy1;rw[Int.add_zero]at this;exact this
 ·simp only[IJ,VM,aaA];rw[←Hm];have fA:i=-1:=by omega
  subst fA;exact D0 (by kernel_rfl) _ _ (.inl rfl) _ _ ⟨rfl,m,S,λx y hx K_ hy=>D1 x y (by omega) K_ hy⟩
theorem yN{dec:Int→ByteArray}(D:MA dec){W:CW}{K:AB}{e:Env}{b n:Nat}{a:Int}{m:List Int}{i0 j:Int}(hd:Ax dec W b m)(NS:m.length=n)(hn:n≤1000000)(lC:0≤a)(C8:a<n)(h0i:0≤i0)(hjn:j<n)(E:PE e b n 10 11 a i0 j)
  (M0:i0≤n+5) (VE:-5≤j) (GR:∀e' i,PE e' b n 10 11 a i j→i0≤i→(i≤j+1∨i=i0)→(∀x,i0≤x→x<i→at_ m x<at_ m a)→(i≤j→¬(at_ m i<at_ m a))→K (.exit 0) e' [] W) :
  Gi prog Bf none 137 168 (.loop (GB prog 137 0)) e [] W K:=by
 refine DX (λk e ds W2=>ds=[]∧W2=W∧∃i:Int,PE e b n 10 11 a i j∧i0≤i∧(i≤j+1∨i=i0)∧(∀x,i0≤x→x<i→at_ m x<at_ m a)∧(j+1-i).toNat=k) (j+1-i0).toNat ⟨rfl,rfl,i0,E,by omega,.inr rfl,λx h1 h2=>by omega,rfl⟩ ?_;rintro k e ds W' ⟨rfl,rfl,i,E,FZ,fA,hC,hk⟩;rw[AA1,E.e0,E.e1,E.ei,E.ej];simp only[Dv,AA]
 have kt:∀(e2:Env) (q:Bool),e2 43=.bool q→PE e2 b n 10 11 a i j→(q=true→i≤j∧at_ m i<at_ m a)→(q=false→i≤j→¬(at_ m i<at_ m a))→(SK none (EC (λk e ds W2=>ds=[]∧W2=W'∧∃i:Int,PE e b n 10 11 a i j∧i0≤i∧(i≤j+1∨i=i0)∧(∀x,i0≤x→x<i→at_ m x<at_ m a)∧(j+1-i).toNat=k) k K)) .normal e2 [] W':=by
  intro e2 q g E2 hq fB;simp only[SK,BI,g]
  refine AH (λhb=>?_) (λhb=>?_)
  ·obtain⟨hij,hc⟩:=hq hb;simp only[Ym,BI,Uu,E2.ei,AO,AA];rw[wrap64 (by omega) (by omega)];exact⟨(j+1-(i+1)).toNat,by omega,trivial,trivial,i+1,⟨by simp only[AG,AN,Nat.reduceEqDiff,↓reduceIte,E2.e0],by simp only[AG,AN,Nat.reduceEqDiff,↓reduceIte,E2.e1],by simp only[AG,↓reduceIte],by simp only[AG,AN,Nat.reduceEqDiff,↓reduceIte,E2.ej]⟩,by omega,.inl (by omega),λx h1 h2=>if e:x=i then(by rw[e];exact hc)else hC x h1 (by omega),rfl⟩
  ·simp only[Ym,Oy,VM];exact GR e2 i E2 FZ fA hC (fB hb)
 refine OH (λhle=>?_) (λZN=>?_)
 ·have hx:=hd.ld (i:=i) (by omega) (by omega);have hy:=hd.ld (i:=a) (by omega) (by omega);rw[Av (by omega) (by omega),Av (by omega) (by omega)];simp only[hx,hy,AA];refine A4 (CZ D _ _ W') ?_;refine⟨by simp only[and_self],trivial,?_⟩;exact kt _ (decide (at_ m i<at_ m a)) (by simp only[AG,↓reduceIte]) ⟨by simp only[AG,AN,Nat.reduceEqDiff,↓reduceIte,E.e0],by simp only[AG,AN,Nat.reduceEqDiff,↓reduceIte,E.e1],by simp only[AG,AN,Nat.reduceEqDiff,↓reduceIte,E.ei],by simp only[AG,AN,Nat.reduceEqDiff,↓reduceIte,E.ej]⟩ (λh=>⟨hle,of_decide_eq_true h⟩) λh _=>of_decide_eq_false h
 ·refine⟨trivial,trivial,?_⟩;exact kt _ false (by simp only[AG,↓reduceIte]) ⟨by simp only[AG,AN,Nat.reduceEqDiff,↓reduceIte,E.e0],by simp only[AG,AN,Nat.reduceEqDiff,↓reduceIte,E.e1],by simp only[AG,AN,Nat.reduceEqDiff,↓reduceIte,E.ei],by simp only[AG,AN,Nat.reduceEqDiff,↓reduceIte,E.ej]⟩ (λh=>(by cases h)) λ_ h=>by omega
theorem yO{dec:Int→ByteArray}(D:MA dec){W:CW}{K:AB}{e:Env}{b n:Nat}{a:Int}{m:List Int}{i j0:Int}(hd:Ax dec W b m)(NS:m.length=n)(hn:n≤1000000)(lC:0≤a)(C8:a<n)(h0i:0≤i)(hjn:j0<n)(E:PE e b n 10 11 a i j0)
  (M0:i≤n+5) (VE:-5≤j0) (GR:∀e' j,PE e' b n 10 11 a i j→j≤j0→(i≤j+1∨j=j0)→(∀x,j<x→x≤j0→¬at_ m x<at_ m a)→(i≤j→¬(¬at_ m j<at_ m a))→K (.exit 2) e' [] W) :
  Gi prog Bf none 137 168 (.loop (GB prog 137 1)) e [] W K:=by
 refine DX (λk e ds W2=>ds=[]∧W2=W∧∃j:Int,PE e b n 10 11 a i j∧j≤j0∧(i≤j+1∨j=j0)∧(∀x,j<x→x≤j0→¬at_ m x<at_ m a)∧(j+1-i).toNat=k) (j0+1-i).toNat ⟨rfl,rfl,j0,E,by omega,.inr rfl,λx h1 h2=>by omega,rfl⟩ ?_;rintro k e ds W' ⟨rfl,rfl,j,E,FZ,fA,hC,hk⟩;rw[AA2,E.e0,E.e1,E.ei,E.ej];simp only[Dv,AA]
 have kt:∀(e2:Env) (q:Bool),e2 60=.bool q→PE e2 b n 10 11 a i j→(q=true→i≤j∧¬at_ m j<at_ m a)→(q=false→i≤j→¬(¬at_ m j<at_ m a))→(SM none (EC (λk e ds W2=>ds=[]∧W2=W'∧∃j:Int,PE e b n 10 11 a i j∧j≤j0∧(i≤j+1∨j=j0)∧(∀x,j<x→x≤j0→¬at_ m x<at_ m a)∧(j+1-i).toNat=k) k K)) .normal e2 [] W':=by
  intro e2 q g E2 hq fB;simp only[SM,BI,g]
  refine AH (λhb=>?_) (λhb=>?_)
  ·obtain⟨hij,hc⟩:=hq hb;simp only[Yn,BI,Uu,E2.ej,Ae,AA];rw[wrap64 (by omega) (by omega)];exact⟨(j-1+1-i).toNat,by omega,trivial,trivial,j-1,⟨by simp only[AG,AN,Nat.reduceEqDiff,↓reduceIte,E2.e0],by simp only[AG,AN,Nat.reduceEqDiff,↓reduceIte,E2.e1],by simp only[AG,AN,Nat.reduceEqDiff,↓reduceIte,E2.ei],by simp only[AG,↓reduceIte]⟩,by omega,.inl (by omega),λx h1 h2=>if e:x=j then(by rw[e];exact hc)else hC x (by omega) h2,rfl⟩
  ·simp only[Yn,Oy,VM];exact GR e2 j E2 FZ fA hC (fB hb)
 refine OH (λhle=>?_) (λZN=>?_)
 ·have hx:=hd.ld (i:=j) (by omega) (by omega);have hy:=hd.ld (i:=a) (by omega) (by omega);rw[Av (by omega) (by omega),Av (by omega) (by omega)];simp only[hx,hy,AA];refine A4 (CZ D _ _ W') ?_;simp only[AW,AA];refine⟨by simp only[and_self],trivial,?_⟩;exact kt _ (!decide (at_ m j<at_ m a)) (by simp only[AG,↓reduceIte]) ⟨by simp only[AG,AN,Nat.reduceEqDiff,↓reduceIte,E.e0],by simp only[AG,AN,Nat.reduceEqDiff,↓reduceIte,E.e1],by simp only[AG,AN,Nat.reduceEqDiff,↓reduceIte,E.ei],by simp only[AG,AN,Nat.reduceEqDiff,↓reduceIte,E.ej]⟩ (λh=>⟨hle,by have h:(!decide (at_ m j<at_ m a))=true:=h;simpa using h⟩) λh _ hh=>hh (by have h:(!decide (at_ m j<at_ m a))=false:=h;simpa using h)
 ·refine⟨trivial,trivial,?_⟩;exact kt _ false (by simp only[AG,↓reduceIte]) ⟨by simp only[AG,AN,Nat.reduceEqDiff,↓reduceIte,E.e0],by simp only[AG,AN,Nat.reduceEqDiff,↓reduceIte,E.e1],by simp only[AG,AN,Nat.reduceEqDiff,↓reduceIte,E.ei],by simp only[AG,AN,Nat.reduceEqDiff,↓reduceIte,E.ej]⟩ (λh=>(by cases h)) λ_ h=>by omega
theorem yP{dec:Int→ByteArray}(D:MA dec){W:CW}{K:AB}{e:Env}{b n:Nat}{a:Int}{m:List Int}{i0 j:Int}(hd:Ax dec W b m)(NS:m.length=n)(hn:n≤1000000)(lC:0≤a)(C8:a<n)(h0i:0≤i0)(hjn:j<n)(E:PE e b n 10 11 a i0 j)
  (M0:i0≤n+5) (VE:-5≤j) (GR:∀e' i,PE e' b n 10 11 a i j→i0≤i→(i≤j+1∨i=i0)→(∀x,i0≤x→x<i→at_ m x<at_ m a)→(i≤j→¬(at_ m i<at_ m a))→K (.exit 6) e' [] W) :
  Gi prog Bf none 137 168 (.loop (GB prog 137 3)) e [] W K:=by
 refine DX (λk e ds W2=>ds=[]∧W2=W∧∃i:Int,PE e b n 10 11 a i j∧i0≤i∧(i≤j+1∨i=i0)∧(∀x,i0≤x→x<i→at_ m x<at_ m a)∧(j+1-i).toNat=k) (j+1-i0).toNat ⟨rfl,rfl,i0,E,by omega,.inr rfl,λx h1 h2=>by omega,rfl⟩ ?_;rintro k e ds W' ⟨rfl,rfl,i,E,FZ,fA,hC,hk⟩;rw[AA4,E.e0,E.e1,E.ei,E.ej];simp only[Dv,AA]
 have kt:∀(e2:Env) (q:Bool),e2 112=.bool q→PE e2 b n 10 11 a i j→(q=true→i≤j∧at_ m i<at_ m a)→(q=false→i≤j→¬(at_ m i<at_ m a))→(SO none (EC (λk e ds W2=>ds=[]∧W2=W'∧∃i:Int,PE e b n 10 11 a i j∧i0≤i∧(i≤j+1∨i=i0)∧(∀x,i0≤x→x<i→at_ m x<at_ m a)∧(j+1-i).toNat=k) k K)) .normal e2 [] W':=by
  intro e2 q g E2 hq fB;simp only[SO,BI,g]
  refine AH (λhb=>?_) (λhb=>?_)
  ·obtain⟨hij,hc⟩:=hq hb;simp only[Yo,BI,Uu,E2.ei,AO,AA];rw[wrap64 (by omega) (by omega)];exact⟨(j+1-(i+1)).toNat,by omega,trivial,trivial,i+1,⟨by simp only[AG,AN,Nat.reduceEqDiff,↓reduceIte,E2.e0],by simp only[AG,AN,Nat.reduceEqDiff,↓reduceIte,E2.e1],by simp only[AG,↓reduceIte],by simp only[AG,AN,Nat.reduceEqDiff,↓reduceIte,E2.ej]⟩,by omega,.inl (by omega),λx h1 h2=>if e:x=i then(by rw[e];exact hc)else hC x h1 (by omega),rfl⟩
  ·simp only[Yo,Oy,VM];exact GR e2 i E2 FZ fA hC (fB hb)
 refine OH (λhle=>?_) (λZN=>?_)
 ·have hx:=hd.ld (i:=i) (by omega) (by omega);have hy:=hd.ld (i:=a) (by omega) (by omega);rw[Av (by omega) (by omega),Av (by omega) (by omega)];simp only[hx,hy,AA];refine A4 (CZ D _ _ W') ?_;refine⟨by simp only[and_self],trivial,?_⟩;exact kt _ (decide (at_ m i<at_ m a)) (by simp only[AG,↓reduceIte]) ⟨by simp only[AG,AN,Nat.reduceEqDiff,↓reduceIte,E.e0],by simp only[AG,AN,Nat.reduceEqDiff,↓reduceIte,E.e1],by simp only[AG,AN,Nat.reduceEqDiff,↓reduceIte,E.ei],by simp only[AG,AN,Nat.reduceEqDiff,↓reduceIte,E.ej]⟩ (λh=>⟨hle,of_decide_eq_true h⟩) λh _=>of_decide_eq_false h
 ·refine⟨trivial,trivial,?_⟩;exact kt _ false (by simp only[AG,↓reduceIte]) ⟨by simp only[AG,AN,Nat.reduceEqDiff,↓reduceIte,E.e0],by simp only[AG,AN,Nat.reduceEqDiff,↓reduceIte,E.e1],by simp only[AG,AN,Nat.reduceEqDiff,↓reduceIte,E.ei],by simp only[AG,AN,Nat.reduceEqDiff,↓reduceIte,E.ej]⟩ (λh=>(by cases h)) λ_ h=>by omega
theorem yQ{dec:Int→ByteArray}(D:MA dec){W:CW}{K:AB}{e:Env}{b n:Nat}{a:Int}{m:List Int}{i j0:Int}(hd:Ax dec W b m)(NS:m.length=n)(hn:n≤1000000)(lC:0≤a)(C8:a<n)(h0i:0≤i)(hjn:j0<n)(E:PE e b n 10 11 a i j0)
  (M0:i≤n+5) (VE:-5≤j0) (GR:∀e' j,PE e' b n 10 11 a i j→j≤j0→(i≤j+1∨j=j0)→(∀x,j<x→x≤j0→¬at_ m x<at_ m a)→(i≤j→¬(¬at_ m j<at_ m a))→K (.exit 8) e' [] W) :
  Gi prog Bf none 137 168 (.loop (GB prog 137 4)) e [] W K:=by
 refine DX (λk e ds W2=>ds=[]∧W2=W∧∃j:Int,PE e b n 10 11 a i j∧j≤j0∧(i≤j+1∨j=j0)∧(∀x,j<x→x≤j0→¬at_ m x<at_ m a)∧(j+1-i).toNat=k) (j0+1-i).toNat ⟨rfl,rfl,j0,E,by omega,.inr rfl,λx h1 h2=>by omega,rfl⟩ ?_;rintro k e ds W' ⟨rfl,rfl,j,E,FZ,fA,hC,hk⟩;rw[AA5,E.e0,E.e1,E.ei,E.ej];simp only[Dv,AA]
 have kt:∀(e2:Env) (q:Bool),e2 129=.bool q→PE e2 b n 10 11 a i j→(q=true→i≤j∧¬at_ m j<at_ m a)→(q=false→i≤j→¬(¬at_ m j<at_ m a))→(SQ none (EC (λk e ds W2=>ds=[]∧W2=W'∧∃j:Int,PE e b n 10 11 a i j∧j≤j0∧(i≤j+1∨j=j0)∧(∀x,j<x→x≤j0→¬at_ m x<at_ m a)∧(j+1-i).toNat=k) k K)) .normal e2 [] W':=by
  intro e2 q g E2 hq fB;simp only[SQ,BI,g]
  refine AH (λhb=>?_) (λhb=>?_)
  ·obtain⟨hij,hc⟩:=hq hb;simp only[Yr,BI,Uu,E2.ej,Ae,AA];rw[wrap64 (by omega) (by omega)];exact⟨(j-1+1-i).toNat,by omega,trivial,trivial,j-1,⟨by simp only[AG,AN,Nat.reduceEqDiff,↓reduceIte,E2.e0],by simp only[AG,AN,Nat.reduceEqDiff,↓reduceIte,E2.e1],by simp only[AG,AN,Nat.reduceEqDiff,↓reduceIte,E2.ei],by simp only[AG,↓reduceIte]⟩,by omega,.inl (by omega),λx h1 h2=>if e:x=j then(by rw[e];exact hc)else hC x (by omega) h2,rfl⟩
  ·simp only[Yr,Oy,VM];exact GR e2 j E2 FZ fA hC (fB hb)
 refine OH (λhle=>?_) (λZN=>?_)
 ·have hx:=hd.ld (i:=j) (by omega) (by omega);have hy:=hd.ld (i:=a) (by omega) (by omega);rw[Av (by omega) (by omega),Av (by omega) (by omega)];simp only[hx,hy,AA];refine A4 (CZ D _ _ W') ?_;simp only[AW,AA];refine⟨by simp only[and_self],trivial,?_⟩;exact kt _ (!decide (at_ m j<at_ m a)) (by simp only[AG,↓reduceIte]) ⟨by simp only[AG,AN,Nat.reduceEqDiff,↓reduceIte,E.e0],by simp only[AG,AN,Nat.reduceEqDiff,↓reduceIte,E.e1],by simp only[AG,AN,Nat.reduceEqDiff,↓reduceIte,E.ei],by simp only[AG,AN,Nat.reduceEqDiff,↓reduceIte,E.ej]⟩ (λh=>⟨hle,by have h:(!decide (at_ m j<at_ m a))=true:=h;simpa using h⟩) λh _ hh=>hh (by have h:(!decide (at_ m j<at_ m a))=false:=h;simpa using h)
 ·refine⟨trivial,trivial,?_⟩;exact kt _ false (by simp only[AG,↓reduceIte]) ⟨by simp only[AG,AN,Nat.reduceEqDiff,↓reduceIte,E.e0],by simp only[AG,AN,Nat.reduceEqDiff,↓reduceIte,E.e1],by simp only[AG,AN,Nat.reduceEqDiff,↓reduceIte,E.ei],by simp only[AG,AN,Nat.reduceEqDiff,↓reduceIte,E.ej]⟩ (λh=>(by cases h)) λ_ h=>by omega
theorem yR{dec:Int→ByteArray}(D:MA dec){W:CW}{K:AB}{e:Env}{b n:Nat}{a:Int}{m:List Int}{i0 j:Int}(hd:Ax dec W b m)(NS:m.length=n)(hn:n≤1000000)(lC:0≤a)(C8:a<n)(h0i:0≤i0)(hjn:j<n)(E:PE e b n 9 10 a i0 j)
  (M0:i0≤n+5) (VE:-5≤j) (GR:∀e' i,PE e' b n 9 10 a i j→i0≤i→(i≤j+1∨i=i0)→(∀x,i0≤x→x<i→¬at_ m a<at_ m x)→(i≤j→¬(¬at_ m a<at_ m i))→K (.exit 2) e' [] W) :
  Gi prog Bf none 136 84 (.loop (GB prog 136 1)) e [] W K:=by
 refine DX (λk e ds W2=>ds=[]∧W2=W∧∃i:Int,PE e b n 9 10 a i j∧i0≤i∧(i≤j+1∨i=i0)∧(∀x,i0≤x→x<i→¬at_ m a<at_ m x)∧(j+1-i).toNat=k) (j+1-i0).toNat ⟨rfl,rfl,i0,E,by omega,.inr rfl,λx h1 h2=>by omega,rfl⟩ ?_;rintro k e ds W' ⟨rfl,rfl,i,E,FZ,fA,hC,hk⟩;rw[AAz,E.e0,E.e1,E.ei,E.ej];simp only[Dv,AA]
 have kt:∀(e2:Env) (q:Bool),e2 43=.bool q→PE e2 b n 9 10 a i j→(q=true→i≤j∧¬at_ m a<at_ m i)→(q=false→i≤j→¬(¬at_ m a<at_ m i))→(WK none (EC (λk e ds W2=>ds=[]∧W2=W'∧∃i:Int,PE e b n 9 10 a i j∧i0≤i∧(i≤j+1∨i=i0)∧(∀x,i0≤x→x<i→¬at_ m a<at_ m x)∧(j+1-i).toNat=k) k K)) .normal e2 [] W':=by
  intro e2 q g E2 hq fB;simp only[WK,BI,g]
  refine AH (λhb=>?_) (λhb=>?_)
  ·obtain⟨hij,hc⟩:=hq hb;simp only[bT,BI,Uu,E2.ei,AO,AA];rw[wrap64 (by omega) (by omega)];exact⟨(j+1-(i+1)).toNat,by omega,trivial,trivial,i+1,⟨by simp only[AG,AN,Nat.reduceEqDiff,↓reduceIte,E2.e0],by simp only[AG,AN,Nat.reduceEqDiff,↓reduceIte,E2.e1],by simp only[AG,↓reduceIte],by simp only[AG,AN,Nat.reduceEqDiff,↓reduceIte,E2.ej]⟩,by omega,.inl (by omega),λx h1 h2=>if e:x=i then(by rw[e];exact hc)else hC x h1 (by omega),rfl⟩
  ·simp only[bT,Oy,VM];exact GR e2 i E2 FZ fA hC (fB hb)
 refine OH (λhle=>?_) (λZN=>?_)
 ·have hx:=hd.ld (i:=i) (by omega) (by omega);have hy:=hd.ld (i:=a) (by omega) (by omega);rw[Av (by omega) (by omega),Av (by omega) (by omega)];simp only[hx,hy,AA];refine A4 (CZ D _ _ W') ?_;simp only[AW,AA];refine⟨by simp only[and_self],trivial,?_⟩;exact kt _ (!decide (at_ m a<at_ m i)) (by simp only[AG,↓reduceIte]) ⟨by simp only[AG,AN,Nat.reduceEqDiff,↓reduceIte,E.e0],by simp only[AG,AN,Nat.reduceEqDiff,↓reduceIte,E.e1],by simp only[AG,AN,Nat.reduceEqDiff,↓reduceIte,E.ei],by simp only[AG,AN,Nat.reduceEqDiff,↓reduceIte,E.ej]⟩ (λh=>⟨hle,by have h:(!decide (at_ m a<at_ m i))=true:=h;simpa using h⟩) λh _ hh=>hh (by have h:(!decide (at_ m a<at_ m i))=false:=h;simpa using h)
 ·refine⟨trivial,trivial,?_⟩;exact kt _ false (by simp only[AG,↓reduceIte]) ⟨by simp only[AG,AN,Nat.reduceEqDiff,↓reduceIte,E.e0],by simp only[AG,AN,Nat.reduceEqDiff,↓reduceIte,E.e1],by simp only[AG,AN,Nat.reduceEqDiff,↓reduceIte,E.ei],by simp only[AG,AN,Nat.reduceEqDiff,↓reduceIte,E.ej]⟩ (λh=>(by cases h)) λ_ h=>by omega
theorem yS{dec:Int→ByteArray}(D:MA dec){W:CW}{K:AB}{e:Env}{b n:Nat}{a:Int}{m:List Int}{i j0:Int}(hd:Ax dec W b m)(NS:m.length=n)(hn:n≤1000000)(lC:0≤a)(C8:a<n)(h0i:0≤i)(hjn:j0<n)(E:PE e b n 9 10 a i j0)
  (M0:i≤n+5) (VE:-5≤j0) (GR:∀e' j,PE e' b n 9 10 a i j→j≤j0→(i≤j+1∨j=j0)→(∀x,j<x→x≤j0→at_ m a<at_ m x)→(i≤j→¬(at_ m a<at_ m j))→K (.exit 4) e' [] W) :
  Gi prog Bf none 136 84 (.loop (GB prog 136 2)) e [] W K:=by
 refine DX (λk e ds W2=>ds=[]∧W2=W∧∃j:Int,PE e b n 9 10 a i j∧j≤j0∧(i≤j+1∨j=j0)∧(∀x,j<x→x≤j0→at_ m a<at_ m x)∧(j+1-i).toNat=k) (j0+1-i).toNat ⟨rfl,rfl,j0,E,by omega,.inr rfl,λx h1 h2=>by omega,rfl⟩ ?_;rintro k e ds W' ⟨rfl,rfl,j,E,FZ,fA,hC,hk⟩;rw[AA0,E.e0,E.e1,E.ei,E.ej];simp only[Dv,AA]
 have kt:∀(e2:Env) (q:Bool),e2 59=.bool q→PE e2 b n 9 10 a i j→(q=true→i≤j∧at_ m a<at_ m j)→(q=false→i≤j→¬(at_ m a<at_ m j))→(SI none (EC (λk e ds W2=>ds=[]∧W2=W'∧∃j:Int,PE e b n 9 10 a i j∧j≤j0∧(i≤j+1∨j=j0)∧(∀x,j<x→x≤j0→at_ m a<at_ m x)∧(j+1-i).toNat=k) k K)) .normal e2 [] W':=by
  intro e2 q g E2 hq fB;simp only[SI,BI,g]
  refine AH (λhb=>?_) (λhb=>?_)
  ·obtain⟨hij,hc⟩:=hq hb;simp only[Yl,BI,Uu,E2.ej,Ae,AA];rw[wrap64 (by omega) (by omega)];exact⟨(j-1+1-i).toNat,by omega,trivial,trivial,j-1,⟨by simp only[AG,AN,Nat.reduceEqDiff,↓reduceIte,E2.e0],by simp only[AG,AN,Nat.reduceEqDiff,↓reduceIte,E2.e1],by simp only[AG,AN,Nat.reduceEqDiff,↓reduceIte,E2.ei],by simp only[AG,↓reduceIte]⟩,by omega,.inl (by omega),λx h1 h2=>if e:x=j then(by rw[e];exact hc)else hC x (by omega) h2,rfl⟩
  ·simp only[Yl,Oy,VM];exact GR e2 j E2 FZ fA hC (fB hb)
 refine OH (λhle=>?_) (λZN=>?_)
 ·have hx:=hd.ld (i:=j) (by omega) (by omega);have hy:=hd.ld (i:=a) (by omega) (by omega);rw[Av (by omega) (by omega),Av (by omega) (by omega)];simp only[hx,hy,AA];refine A4 (CZ D _ _ W') ?_;refine⟨by simp only[and_self],trivial,?_⟩;exact kt _ (decide (at_ m a<at_ m j)) (by simp only[AG,↓reduceIte]) ⟨by simp only[AG,AN,Nat.reduceEqDiff,↓reduceIte,E.e0],by simp only[AG,AN,Nat.reduceEqDiff,↓reduceIte,E.e1],by simp only[AG,AN,Nat.reduceEqDiff,↓reduceIte,E.ei],by simp only[AG,AN,Nat.reduceEqDiff,↓reduceIte,E.ej]⟩ (λh=>⟨hle,of_decide_eq_true h⟩) λh _=>of_decide_eq_false h
 ·refine⟨trivial,trivial,?_⟩;exact kt _ false (by simp only[AG,↓reduceIte]) ⟨by simp only[AG,AN,Nat.reduceEqDiff,↓reduceIte,E.e0],by simp only[AG,AN,Nat.reduceEqDiff,↓reduceIte,E.e1],by simp only[AG,AN,Nat.reduceEqDiff,↓reduceIte,E.ei],by simp only[AG,AN,Nat.reduceEqDiff,↓reduceIte,E.ej]⟩ (λh=>(by cases h)) λ_ h=>by omega
theorem AA7{n:Nat}(h:1≤n):2^Hq n≤2*n:=by
 unfold Hq;rw[aac (by omega),Nat.pow_succ];have:=acW (n:=n) (by omega);omega
theorem AA8{n k:Nat}(h1:2^k≤n)(h2:n<2^(k+1)):Nat.log2 n=k:=by
 have hn:n≠0:=by have:1≤2^k:=acJ;omega
 have a1:2^Nat.log2 n≤n:=acW hn;have a2:n<2^(Nat.log2 n+1):=Nat.lt_log2_self
 rcases Nat.lt_trichotomy (Nat.log2 n) k with h|h|h
 ·have:=abR (n:=2) (by omega) (show Nat.log2 n+1≤k by omega);omega
 ·exact h
 ·have:=abR (n:=2) (by omega) (show k+1≤Nat.log2 n by omega);omega
theorem jT{n k:Nat}(h:2^k≤n):Hq n=k+Hq (n/2^k):=by
 have h1:1≤2^k:=acJ;have hd:1≤n/2^k:=(Nat.one_le_div_iff (by omega)).2 h;unfold Hq;rw[aac (by omega),aac (by omega)];have a1:2^Nat.log2 (n/2^k)≤n/2^k:=acW (by omega);have a2:n/2^k<2^(Nat.log2 (n/2^k)+1):=Nat.lt_log2_self
 have e:Nat.log2 n=k+Nat.log2 (n/2^k):=by
  refine AA8 ?_ ?_
  ·rw[ade,acF];exact(Nat.le_div_iff_mul_le (by omega)).1 a1
  ·rw[show k+Nat.log2 (n/2^k)+1=(Nat.log2 (n/2^k)+1)+k by omega,ade];exact(Nat.div_lt_iff_lt_mul (by omega)).1 a2
 omega
noncomputable def pV(n:Nat):Bool:=match idx prog 9 (.string ⟨#[0,1,2,2,3,3,3,3,4,4,4,4,4,4,4,4,5,5,5,5,5,5,5,5,5,5,5,5,5,5,5,5,6,6,6,6,6,6,6,6,6,6,6,6,6,6,6,6,6,6,6,6,6,6,6,6,6,6,6,6,6,6,6,6,7,7,7,7,7,7,7,7,7,7,7,7,7,7,7,7,7,7,7,7,7,7,7,7,7,7,7,7,7,7,7,7,7,7,7,7,7,7,7,7,7,7,7,7,7,7,7,7,7,7,7,7,7,7,7,7,7,7,7,7,7,7,7,7,8,8,8,8,8,8,8,8,8,8,8,8,8,8,8,8,8,8,8,8,8,8,8,8,8,8,8,8,8,8,8,8,8,8,8,8,8,8,8,8,8,8,8,8,8,8,8,8,8,8,8,8,8,8,8,8,8,8,8,8,8,8,8,8,8,8,8,8,8,8,8,8,8,8,8,8,8,8,8,8,8,8,8,8,8,8,8,8,8,8,8,8,8,8,8,8,8,8,8,8,8,8,8,8,8,8,8,8,8,8,8,8,8,8,8,8,8,8,8,8,8,8,8,8,8,8,8,8]⟩) (.int .u8 (n:Int))with
 |some (.int .u8 x)=>decide (x=(Hq n:Int))&&decide (Hq n≤8)
 |_=>false
theorem AA9:(List.range 256).all pV=true:=by kernel_rfl
theorem yT{n:Nat}(hn:n<256):idx prog 9 (.string ⟨#[0,1,2,2,3,3,3,3,4,4,4,4,4,4,4,4,5,5,5,5,5,5,5,5,5,5,5,5,5,5,5,5,6,6,6,6,6,6,6,6,6,6,6,6,6,6,6,6,6,6,6,6,6,6,6,6,6,6,6,6,6,6,6,6,7,7,7,7,7,7,7,7,7,7,7,7,7,7,7,7,7,7,7,7,7,7,7,7,7,7,7,7,7,7,7,7,7,7,7,7,7,7,7,7,7,7,7,7,7,7,7,7,7,7,7,7,7,7,7,7,7,7,7,7,7,7,7,7,8,8,8,8,8,8,8,8,8,8,8,8,8,8,8,8,8,8,8,8,8,8,8,8,8,8,8,8,8,8,8,8,8,8,8,8,8,8,8,8,8,8,8,8,8,8,8,8,8,8,8,8,8,8,8,8,8,8,8,8,8,8,8,8,8,8,8,8,8,8,8,8,8,8,8,8,8,8,8,8,8,8,8,8,8,8,8,8,8,8,8,8,8,8,8,8,8,8,8,8,8,8,8,8,8,8,8,8,8,8,8,8,8,8,8,8,8,8,8,8,8,8,8,8,8,8,8,8]⟩) (.int .u8 (n:Int))=some (.int .u8 (Hq n:Int))∧Hq n≤8:=by
 have h:=aax.1 AA9 n (aaV.2 hn);unfold pV at h
 split at h
 ·rename_i x hx;simp only[dy,decide_eq_true_eq]at h;rw[hx,h.1];exact⟨rfl,h.2⟩
 ·cases h
theorem yU{n k:Nat}(hk:k≤63):CF prog .shr 197 true (.int .u64 (n:Int)) (.int .u64 (k:Int))=some (.int .u64 ((n/2^k:Nat):Int)):=by
 have h1:CF prog .shr 197 true (.int .u64 (n:Int)) (.int .u64 (k:Int))=cond (decide ((k:Int)<0)) none (some (.int .u64 ((n:Int).fdiv (2^(min (k:Int).toNat IntKind.u64.bits))))):=rfl;rw[h1,decide_eq_false (by omega)];have h2:min (k:Int).toNat IntKind.u64.bits=k:=by rw[abg];show min k 64=k;omega
 rw[h2]
 have h3:(n:Int).fdiv (2^k)=((n/2^k:Nat):Int):=by
  rw[Int.fdiv_eq_ediv_of_nonneg _ (Int.pow_nonneg (by decide))];simp
 rw[h3];rfl
theorem eR{n:Nat}(hn:n≤1000000)(W:CW):AX prog Bf 116 [.int .u64 (n:Int)] W (H_ (.int .i64 (Hq n:Int)) W):=by
 have AKl:AX prog Bf 139 [.int .u64 (n:Int)] W (H_ (.int .i64 (Hq n:Int)) W):=by
  refine AEP ?_;rw[AEO];generalize Hm:AQ prog Tryz.f139 (H_ (.int .i64 (Hq n:Int)) W)=KK
  have k0:∀(e:Env) (m r:Nat),m<256→r≤100→Hq n=r+Hq m→e 0=.int .u64 m→e 2=.int .i64 r→(V' none KK) .normal e [] W:=by
   intro e m r hm hr hl h0 h2;obtain⟨h1,h8⟩:=yT hm;simp only[V',BI,h0,AEU,AA];rw[vZ (by omega) (by omega),h1];simp only[AA,AH0,AO,h2];rw[wrap64 (x:=(Hq m:Int)) (by omega) (by omega),wrap64 (by omega) (by omega),←Hm,mw];refine⟨?_,rfl⟩;simp only[AG,↓reduceIte];congr 2;omega
  have k1:∀(e:Env) (m r:Nat),m<65536→r≤50→Hq n=r+Hq m→e 0=.int .u64 m→e 2=.int .i64 r→(V_ none KK) .normal e [] W:=by
   intro e m r hm hr hl h0 h2;simp only[sM,BI,h0,CC,AA]
   refine AH (λhg=>?_) (λhg=>?_)
   ·have hg:256≤m:=by have:=of_decide_eq_true hg;omega
    have:=yU (n:=m) (k:=8) (by omega);rw[show((8:Nat):Int)=8 from rfl]at this;rw[this];simp only[AA,h2,AO];rw[wrap64 (by omega) (by omega)];refine k0 _ (m/2^8) (r+8) (by omega) (by omega) ?_ (by simp only[AG,Nat.reduceEqDiff,↓reduceIte]) (by simp only[AG,↓reduceIte];rfl);rw[hl,jT (k:=8) (by omega)];omega
   ·have hg:m<256:=by have:=of_decide_eq_false hg;omega
    exact k0 _ m r hg (by omega) hl (by simp only[AG,AN,Nat.reduceEqDiff,↓reduceIte,h0]) (by simp only[AG,AN,Nat.reduceEqDiff,↓reduceIte,h2])
  simp only[CC,AA];rw[decide_eq_false (by omega)];simp only[AZ,sN,BI];simp only[AG,AN,jv,Nat.reduceEqDiff,↓reduceIte,jw,aK,CC,AA]
  refine AH (λhg=>?_) (λhg=>?_)
  ·have hg:65536≤n:=by have:=of_decide_eq_true hg;omega
   have:=yU (n:=n) (k:=16) (by omega);rw[show((16:Nat):Int)=16 from rfl]at this;rw[this];simp only[AA,AO];rw[wrap64 (by omega) (by omega)];exact k1 _ (n/2^16) 16 (by omega) (by omega) (jT (k:=16) (by omega)) (by simp only[AG,Nat.reduceEqDiff,↓reduceIte]) (by simp only[AG,↓reduceIte];rfl)
  ·have hg:n<65536:=by have:=of_decide_eq_false hg;omega
   exact k1 _ n 0 hg (by omega) (by omega) (by simp only[AG,AN,jv,Nat.reduceEqDiff,↓reduceIte,jw,aK]) (by simp only[AG,AN,Nat.reduceEqDiff,↓reduceIte];rfl)
 refine AEN ?_;rw[AEM];refine A4 AKl ?_;rw[mv];exact⟨rfl,rfl⟩
theorem nL{n:Nat}(hn:n≤1000000):Hq n≤20:=by
 unfold Hq
 split
 ·omega
 ·rename_i h;have a1:2^Nat.log2 n≤n:=acW h;refine abJ λhh=>?_;have:=abR (n:=2) (by omega) (show 20≤Nat.log2 n by omega);omega
theorem AKm{t:Nat}(h:t≤20):CF prog .shl 164 true (.int .u64 1) (.int .i64 (t:Int))=some (.int .u64 ((2^t:Nat):Int)):=by
 have h1:CF prog .shl 164 true (.int .u64 1) (.int .i64 (t:Int))=cond (decide ((t:Int)<0)) none (some (.int .u64 (IntKind.u64.wrap (1*2^(min (t:Int).toNat IntKind.u64.bits))))):=rfl;rw[h1,decide_eq_false (by omega)];have h2:min (t:Int).toNat IntKind.u64.bits=t:=by rw[abg];show min t 64=t;omega
 have h3:2^t≤2^20:=abR (by omega) h;have h4:(1:Int)*2^t=((2^t:Nat):Int):=by simp
 rw[h2,h4,bP (Int.natCast_nonneg _) (by clear h4 h1;generalize 2^t=q at*;omega)];rfl
theorem AA'{n:Nat}(hn:n≤1000000)(W:CW):AX prog Bf 151 [.int .i64 (n:Int)] W (H_ (.int .u64 ((2^Hq n:Nat):Int)) W):=by
 refine AER ?_;rw[AEQ,yD];simp only[AA];rw[bP (by omega) (by omega)];refine A4 (eR hn W) ?_;rw[AKm (nL hn)];simp only[AA];rw[my];exact⟨rfl,rfl⟩
theorem AKn(x:Int){m:Nat}(hm:m≤10000000):∃w:Nat,CF prog .and 164 false (.int .u64 x) (.int .u64 (m:Int))=some (.int .u64 (w:Int))∧w≤m:=by
 have h:CF prog .and 164 false (.int .u64 x) (.int .u64 (m:Int))=some (.int .u64 (IntKind.u64.wrap ((BitVec.ofInt 64 x&&&BitVec.ofInt 64 (m:Int)).toNat))):=by simp only[CF,Oo,decide_true,cond_true];rfl
 have hle:(BitVec.ofInt 64 x&&&BitVec.ofInt 64 (m:Int)).toNat≤m:=by
  rw[BitVec.toNat_and];refine abh Nat.and_le_right ?_;rw[BitVec.toNat_ofInt];omega
 exact⟨_,by rw[h,bP (by omega) (by omega)],hle⟩
theorem nM{dec:Int→ByteArray}(D:MA dec){W:CW}{b n:Nat}{a hi p:Int}{l:List Int}(ht:Ag W)(hd:Ax dec W b l)(NS:l.length=n)(hn:n≤1000000)(ha:0≤a)(K2:hi≤n)(pL:a<hi)(U':a≤p)(R':p<hi) :
  AX prog Bf 137 [.slice (some ⟨b,0,none⟩) n n,.int .i64 a,.int .i64 hi,.int .i64 p] W (λen W'=>∃El q m,en=.returned (.tuple #[.int .i64 El,.bool q])∧a≤El∧El<hi∧Sx dec W W' b a hi l m∧ND a hi El m):=by
 refine AEl ?_;rw[AEk];generalize Hm:AQ prog Tryz.f137 (λen W'=>∃El q m,en=.returned (.tuple #[.int .i64 El,.bool q])∧a≤El∧El<hi∧Sx dec W W' b a hi l m∧ND a hi El m)=KK
 have It:∀(e:Env) W' El q m,Sx dec W W' b a hi l m→e 8=.int .i64 El→e 9=.bool q→a≤El→El<hi→ND a hi El m→KK .ret e [] W':=by
  intro e W' El q m S h8 h9 h1 h2 hP;rw[←Hm,nG,h8,h9];exact⟨El,q,m,rfl,h1,h2,S,hP⟩
 have hx:=hd.ld (i:=p) (by omega) (by omega);have hy:=hd.ld (i:=a) (by omega) (by omega);rw[Av (by omega) (by omega),Av (by omega) (by omega)];simp only[hx,hy,AA];refine Fz (Sx.start (lo:=a) (hi:=hi) ht hd) ha (by omega) (i:=p) (j:=a) U' R' (abx _) pL λW3 S3=>?_;refine⟨by simp only[and_self],trivial,?_⟩;have O3:=S3.len NS;generalize jL l p a=m1 at S3 O3;simp only[AO,Ae,AA];rw[wrap64 (x:=a+1) (by omega) (by omega),wrap64 (x:=hi-1) (by omega) (by omega)];refine yN D S3.ar O3 hn ha (by omega) (by omega) (by omega) ⟨rfl,rfl,rfl,rfl⟩ (by omega) (by omega) λe1 i1 E1 fA ALz hL1 WY=>?_;simp only[IJ,aaA,jO,BI];refine yO D S3.ar O3 hn ha (by omega) (by omega) (by omega) E1 (by omega) (by omega) λe2 j1 E2 nq AL0 hR1 Ul=>?_;simp only[IJ,aaA,sa,BI,E2.e0,E2.e1,E2.ei,E2.ej,Bt,AA]
 refine YX (λZN=>?_) (λhle=>?_)
 ·have hx:=S3.ar.ld (i:=a) (by omega) (by omega);have hy:=S3.ar.ld (i:=j1) (by omega) (by omega);rw[Av (by omega) (by omega),Av (by omega) (by omega)];simp only[hx,hy,AA];refine Fz S3 ha (by omega) (i:=a) (j:=j1) (by omega) (by omega) (by omega) (by omega) λW5 S5=>?_;refine⟨by simp only[and_self],trivial,?_⟩;exact It _ W5 j1 true _ S5 (by simp only[AG,Nat.reduceEqDiff,↓reduceIte]) (by simp only[AG,↓reduceIte]) (by omega) (by omega) (jN O3 ha (by omega) (by omega) K2 (λx h1 h2=>hL1 x h1 (by omega)) hR1)
 have g1:=WY (by omega);have g2:at_ m1 j1<at_ m1 a:=abJ λh=>Ul hle h;have Dg:i1≠j1:=λh=>g1 (by rw[h];exact g2);have hx:=S3.ar.ld (i:=j1) (by omega) (by omega);have hy:=S3.ar.ld (i:=i1) (by omega) (by omega);rw[Av (by omega) (by omega),Av (by omega) (by omega)];simp only[hx,hy,AA];refine Fz S3 ha (by omega) (i:=j1) (j:=i1) (by omega) (by omega) (by omega) (by omega) λW5 S5=>?_;refine⟨by simp only[and_self],trivial,?_⟩;have e:=λk (hk:0≤k)=>YY (m:=m1) (i:=j1) (j:=i1) (k:=k) O3 (by omega) (by omega) (by omega) (by omega) hk;simp only[AO,Ae,AA];rw[wrap64 (x:=i1+1) (by omega) (by omega),wrap64 (x:=j1-1) (by omega) (by omega)]
 refine DX (λk e ds W'=>ds=[]∧∃(i j:Int) (m:List Int),PE e b n 10 11 a i j∧Sx dec W W' b a hi l m∧a<i∧i≤j+1∧j<hi∧(∀x,a+1≤x→x<i→at_ m x<at_ m a)∧(∀x,j<x→x≤hi-1→¬at_ m x<at_ m a)∧(j+1-i).toNat=k) (j1-1+1-(i1+1)).toNat ?_ ?_
 ·refine⟨rfl,i1+1,j1-1,_,⟨by simp only[AG,AN,Nat.reduceEqDiff,↓reduceIte,E2.e0],by simp only[AG,AN,Nat.reduceEqDiff,↓reduceIte,E2.e1],by simp only[AG,Nat.reduceEqDiff,↓reduceIte],by simp only[AG,↓reduceIte]⟩,S5,by omega,by omega,by omega,λx h1 h2=>?_,λx h1 h2=>?_,rfl⟩
  ·rw[e x (by omega),e a (by omega),aac (show¬x=j1 by omega),aac (show¬a=j1 by omega),aac (show¬a=i1 by omega)]
   split
   ·exact g2
   ·exact hL1 x h1 (by omega)
  ·rw[e x (by omega),e a (by omega),aac (show¬a=j1 by omega),aac (show¬a=i1 by omega)]
   split
   ·exact g1
   ·rw[aac (by omega)];exact hR1 x (by omega) h2
 clear e hx hy;rintro k e3 ds W6 ⟨rfl,i,j,m,E3,S,i0,i9,j9,hL,hR,hk⟩;have Jb:=S.len NS;rw[AA3];refine yP D S.ar Jb hn ha (by omega) (by omega) (by omega) E3 (by omega) (by omega) λe4 i2 E4 hi2 AKo zm rC=>?_;simp only[IJ,aaA,jQ,BI];refine yQ D S.ar Jb hn ha (by omega) (by omega) (by omega) E4 (by omega) (by omega) λe5 j2 E5 yn AKp hR2 cU=>?_;simp only[IJ,aaA,nF,BI,E5.e0,E5.ei,E5.ej,Bt,AA]
 have hLL:∀x,a+1≤x→x<i2→at_ m x<at_ m a:=λx h1 h2=>by
  by_cases hx:x<i
  ·exact hL x h1 hx
  ·exact zm x (by omega) h2
 have hRR:∀x,j2<x→x≤hi-1→¬at_ m x<at_ m a:=λx h1 h2=>by
  by_cases hx:j<x
  ·exact hR x hx h2
  ·exact hR2 x h1 (by omega)
 refine YX (λZN=>?_) (λhle=>?_)
 ·simp only[VM,IJ,aaA,sZ,BI];simp only[AG,AN,Nat.reduceEqDiff,↓reduceIte,E5.e0,E5.e1,E5.ej];have hx:=S.ar.ld (i:=a) (by omega) (by omega);have hy:=S.ar.ld (i:=j2) (by omega) (by omega);rw[Av (by omega) (by omega),Av (by omega) (by omega)];simp only[hx,hy,AA];refine Fz S ha (by omega) (i:=a) (j:=j2) (by omega) (by omega) (by omega) (by omega) λW8 S8=>?_;refine⟨by simp only[and_self],trivial,?_⟩;exact It _ W8 j2 false _ S8 (by simp only[AG,Nat.reduceEqDiff,↓reduceIte]) (by simp only[AG,↓reduceIte]) (by omega) (by omega) (jN Jb ha (by omega) (by omega) K2 (λx h1 h2=>hLL x h1 (by omega)) hRR)
 ·have g1:=rC (by omega);have g2:at_ m j2<at_ m a:=abJ λh=>cU hle h;have Dg:i2≠j2:=λh=>g1 (by rw[h];exact g2);have hx:=S.ar.ld (i:=j2) (by omega) (by omega);have hy:=S.ar.ld (i:=i2) (by omega) (by omega);rw[Av (by omega) (by omega),Av (by omega) (by omega)];simp only[hx,hy,AA];refine Fz S ha (by omega) (i:=j2) (j:=i2) (by omega) (by omega) (by omega) (by omega) λW8 S8=>?_;refine⟨by simp only[and_self],trivial,?_⟩;have e:=λk (hk:0≤k)=>YY (m:=m) (i:=j2) (j:=i2) (k:=k) Jb (by omega) (by omega) (by omega) (by omega) hk;simp only[AO,Ae,AA,Uu];rw[wrap64 (x:=i2+1) (by omega) (by omega),wrap64 (x:=j2-1) (by omega) (by omega)]
  refine⟨(j2-1+1-(i2+1)).toNat,by omega,trivial,i2+1,j2-1,_,⟨by simp only[AG,AN,Nat.reduceEqDiff,↓reduceIte,E5.e0],by simp only[AG,AN,Nat.reduceEqDiff,↓reduceIte,E5.e1],by simp only[AG,Nat.reduceEqDiff,↓reduceIte],by simp only[AG,↓reduceIte]⟩,S8,by omega,by omega,by omega,λx h1 h2=>?_,λx h1 h2=>?_,rfl⟩
  ·rw[e x (by omega),e a (by omega),aac (show¬x=j2 by omega),aac (show¬a=j2 by omega),aac (show¬a=i2 by omega)]
   split
   ·exact g2
   ·exact hLL x h1 (by omega)
  ·rw[e x (by omega),e a (by omega),aac (show¬a=j2 by omega),aac (show¬a=i2 by omega)]
   split
   ·exact g1
   ·rw[aac (by omega)];exact hRR x (by omega) h2
theorem AEw{dec:Int→ByteArray}(D:MA dec){W:CW}{b n:Nat}{a hi p:Int}{l:List Int}(ht:Ag W)(hd:Ax dec W b l)(NS:l.length=n)(hn:n≤1000000)(ha:0≤a)(K2:hi≤n)(pL:a<hi)(U':a≤p)(R':p<hi) :
  AX prog Bf 136 [.slice (some ⟨b,0,none⟩) n n,.int .i64 a,.int .i64 hi,.int .i64 p] W (λen W'=>∃El m,en=.returned (.int .i64 El)∧a<El∧El≤hi∧Sx dec W W' b a hi l m∧(∀x,a≤x→x<El→at_ m x≤at_ l p)∧∀x,El≤x→x<hi→at_ l p<at_ m x):=by
 refine AEj ?_;rw[AEi];have hx:=hd.ld (i:=p) (by omega) (by omega);have hy:=hd.ld (i:=a) (by omega) (by omega);rw[Av (by omega) (by omega),Av (by omega) (by omega)];simp only[hx,hy,AA];refine Fz (Sx.start (lo:=a) (hi:=hi) ht hd) ha (by omega) (i:=p) (j:=a) U' R' (abx _) pL λW3 S3=>?_;refine⟨by simp only[and_self],trivial,?_⟩
 have y_:at_ (jL l p a) a=at_ l p:=by
  rw[YY NS (by omega) (by omega) (by omega) (by omega) ha]
  split
  ·rename_i h;rw[h]
  ·rw[aad rfl]
 generalize jL l p a=m1 at S3 y_;simp only[AO,Ae,AA];rw[wrap64 (x:=a+1) (by omega) (by omega),wrap64 (x:=hi-1) (by omega) (by omega)];refine DX (λk e ds W'=>ds=[]∧∃(i j:Int) (m:List Int),PE e b n 9 10 a i j∧Sx dec W W' b a hi l m∧a<i∧i≤j+1∧j<hi∧at_ m a=at_ l p∧(∀x,a+1≤x→x<i→¬at_ m a<at_ m x)∧(∀x,j<x→x≤hi-1→at_ m a<at_ m x)∧(j+1-i).toNat=k) (hi-1+1-(a+1)).toNat ⟨rfl,a+1,hi-1,m1,⟨rfl,rfl,rfl,rfl⟩,S3,by omega,by omega,by omega,y_,λx h1 h2=>by omega,λx h1 h2=>by omega,rfl⟩ ?_;rintro k e3 ds W6 ⟨rfl,i,j,m,E3,S,i0,i9,j9,hma,hL,hR,hk⟩;have Jb:=S.len NS;rw[AAy];refine yR D S.ar Jb hn ha (by omega) (by omega) (by omega) E3 (by omega) (by omega) λe4 i2 E4 hi2 AKo zm rC=>?_;simp only[IJ,aaA,pS,BI];refine yS D S.ar Jb hn ha (by omega) (by omega) (by omega) E4 (by omega) (by omega) λe5 j2 E5 yn AKp hR2 cU=>?_;simp only[IJ,aaA,sY,BI,E5.e0,E5.ei,E5.ej,Bt,AA]
 have hLL:∀x,a+1≤x→x<i2→¬at_ m a<at_ m x:=λx h1 h2=>by
  by_cases hx:x<i
  ·exact hL x h1 hx
  ·exact zm x (by omega) h2
 have hRR:∀x,j2<x→x≤hi-1→at_ m a<at_ m x:=λx h1 h2=>by
  by_cases hx:j<x
  ·exact hR x hx h2
  ·exact hR2 x h1 (by omega)
 refine YX (λZN=>?_) (λhle=>?_)
 ·simp only[VM,IJ,aaA,pQ,BI];rw[nE]
  refine⟨i2,m,?_,by omega,by omega,S,λx h1 h2=>?_,λx h1 h2=>?_⟩
  ·simp only[AG,AN,Nat.reduceEqDiff,↓reduceIte,E5.ei]
  ·by_cases wQ:x=a
   ·rw[wQ,hma];exact abx _
   ·have:=hLL x (by omega) h2;omega
  ·have:=hRR x (by omega) (by omega);omega
 ·have g1:at_ m a<at_ m i2:=abJ λh=>rC (by omega) h;have g2:=cU hle;have Dg:i2≠j2:=λh=>g2 (by rw[←h];exact g1);have hx:=S.ar.ld (i:=j2) (by omega) (by omega);have hy:=S.ar.ld (i:=i2) (by omega) (by omega);rw[Av (by omega) (by omega),Av (by omega) (by omega)];simp only[hx,hy,AA];refine Fz S ha (by omega) (i:=j2) (j:=i2) (by omega) (by omega) (by omega) (by omega) λW8 S8=>?_;refine⟨by simp only[and_self],trivial,?_⟩;have e:=λk (hk:0≤k)=>YY (m:=m) (i:=j2) (j:=i2) (k:=k) Jb (by omega) (by omega) (by omega) (by omega) hk;simp only[AO,Ae,AA,Uu];rw[wrap64 (x:=i2+1) (by omega) (by omega),wrap64 (x:=j2-1) (by omega) (by omega)]
  refine⟨(j2-1+1-(i2+1)).toNat,by omega,trivial,i2+1,j2-1,_,⟨by simp only[AG,AN,Nat.reduceEqDiff,↓reduceIte,E5.e0],by simp only[AG,AN,Nat.reduceEqDiff,↓reduceIte,E5.e1],by simp only[AG,Nat.reduceEqDiff,↓reduceIte],by simp only[AG,↓reduceIte]⟩,S8,by omega,by omega,by omega,?_,λx h1 h2=>?_,λx h1 h2=>?_,rfl⟩
  ·rw[e a (by omega),aac (show¬a=j2 by omega),aac (show¬a=i2 by omega)];exact hma
  ·rw[e x (by omega),e a (by omega),aac (show¬x=j2 by omega),aac (show¬a=j2 by omega),aac (show¬a=i2 by omega)]
   split
   ·exact g2
   ·exact hLL x h1 (by omega)
  ·rw[e x (by omega),e a (by omega),aac (show¬a=j2 by omega),aac (show¬a=i2 by omega)]
   split
   ·exact g1
   ·rw[aac (by omega)];exact hRR x (by omega) h2
theorem AEx{dec:Int→ByteArray}{W:CW}{b n:Nat}{lo hi:Int}{l0:List Int}(ht:Ag W)(hd:Ax dec W b l0)(NS:l0.length=n)(hn:n≤1000000)(M_:0≤lo)(K2:hi≤n)(h8:8≤hi-lo) :
  AX prog Bf 131 [.slice (some ⟨b,0,none⟩) n n,.int .i64 lo,.int .i64 hi] W (yK dec b lo hi l0 (λ_=>True) W):=by
 refine AEZ ?_;rw[AEY];generalize Hm:AQ prog Tryz.f131 (yK dec b lo hi l0 (λ_=>True) W)=KK;obtain⟨l,hl⟩:∃l:Nat,hi-lo=(l:Int):=⟨(hi-lo).toNat,by omega⟩
 have AL1:2^Hq l≤2*l:=AA7 (by omega);simp only[Ae,AA];rw[wrap64 (by omega) (by omega),hl];simp only[CC,AA];rw[decide_eq_true (show(l:Int)≥8 by omega),BB,AH1];simp only[AA];refine H' AKh yE ht λW0 k0 t0 z0 QJ=>?_;have QJ:Aq W0 W.sz 205 [.int .u64 0]:=QJ;refine Ac yE (a:=⟨W.sz,0,none⟩) (v:=.int .u64 (IntKind.u64.wrap (l:Int))) rfl QJ (by simp) λW1 Z2 P_=>?_;have Z2:Dn W.sz W0 W1:=Z2;have P_:Aq W1 W.sz 205 [.int .u64 (IntKind.u64.wrap (l:Int))]:=P_;have t1:=t0.A6 (QJ.lt t0) Z2;have k1:Kp W W1:=k0.A6 (aaf _) Z2;have dS:b<W.sz:=hd.lt ht;have Dg:b≠W.sz:=by omega
 refine A4 (AA' (n:=l) (by omega) W1) ?_;rw[yC (by omega) (by omega) (by omega)];simp only[Lm,AO,Ae,AA];rw[wrap64 (x:=(l:Int)/4*2) (by omega) (by omega),wrap64 (x:=lo+(l:Int)/4*2) (by omega) (by omega),wrap64 (x:=lo+(l:Int)/4*2-1) (by omega) (by omega)];refine DX (λk e ds W'=>ds=[]∧(∃m,Sx dec W W' b lo hi l0 m)∧(∃c,Aq W' W.sz 205 [.int .u64 c])∧e 0=.slice (some ⟨b,0,none⟩) n n∧e 1=.int .i64 lo∧e 6=.int .i64 (l:Int)∧e 7=.pointer (some ⟨W.sz,0,none⟩)∧e 8=.int .u64 ((2^Hq l:Nat):Int)∧∃i:Int,e 9=.int .i64 i∧lo+(l:Int)/4*2-1≤i∧i≤lo+(l:Int)/4*2+2∧(lo+(l:Int)/4*2+2-i).toNat=k) 3 ⟨rfl,⟨l0,(Sx.start ht hd).kp k1 t1⟩,⟨_,P_⟩,rfl,rfl,rfl,rfl,rfl,_,rfl,by omega,by omega,by omega⟩ ?_;rintro k e ds W2 ⟨rfl,⟨m,S⟩,⟨c,hc⟩,e0,e1,e6,e7,e8,i,e9,i0,i1,hk⟩;rw[AAs,e1,e6,e7,e8,e9,yC (by omega) (by omega) (by omega)];simp only[Lm,AO,AA];rw[wrap64 (x:=(l:Int)/4*2) (by omega) (by omega),wrap64 (x:=lo+(l:Int)/4*2) (by omega) (by omega),wrap64 (x:=lo+(l:Int)/4*2+1) (by omega) (by omega)];simp only[Dv,AA];refine OH (λhle=>?_) (λZN=>?_)
 rotate_left
 ·simp only[IJ,VM,aaA];rw[←Hm];exact D0 (by kernel_rfl) _ _ (.inl rfl) _ _ ⟨rfl,m,S,trivial⟩
 refine(m6 S.top hc).mono λen W3 ⟨c3,t3,k',Fk,he⟩=>?_;subst he;refine AP ?_;have hd3:Ax dec W3 b m:=c3.IA S.top Dg S.ar;have S3:Sx dec W W3 b lo hi l0 m:=⟨S.D4.then c3 λj hj he=>by omega,t3,hd3,S.sw⟩
 have Jb:=S.len NS;have R':1≤2^Hq l:=acJ;have hp2:2^Hq l≤2000000:=by omega
 simp only[Ae,AA];rw[bP (by omega) (by omega),show((2^Hq l:Nat):Int)-1=((2^Hq l-1:Nat):Int) by omega];obtain⟨w,hw,hwm⟩:=AKn k' (m:=2^Hq l-1) (by omega);rw[hw];simp only[AA,AH2,CC];rw[wrap64 (by omega) (by omega)]
 have k9:∀(e2:Env) (o:Int),0≤o→o<l→e2 0=.slice (some ⟨b,0,none⟩) n n→e2 1=.int .i64 lo→e2 6=.int .i64 (l:Int)→e2 7=.pointer (some ⟨W.sz,0,none⟩)→e2 8=.int .u64 ((2^Hq l:Nat):Int)→e2 9=.int .i64 i→e2 10=.int .i64 o→(WD none (EC (λk e ds W'=>ds=[]∧(∃m,Sx dec W W' b lo hi l0 m)∧(∃c,Aq W' W.sz 205 [.int .u64 c])∧e 0=.slice (some ⟨b,0,none⟩) n n∧e 1=.int .i64 lo∧e 6=.int .i64 (l:Int)∧e 7=.pointer (some ⟨W.sz,0,none⟩)∧e 8=.int .u64 ((2^Hq l:Nat):Int)∧∃i:Int,e 9=.int .i64 i∧lo+(l:Int)/4*2-1≤i∧i≤lo+(l:Int)/4*2+2∧(lo+(l:Int)/4*2+2-i).toNat=k) k (CX 0 KK))) .normal e2 [] W3:=by
  intro e2 o o0 o1 g0 g1 g6 g7 g8 g9 wE;simp only[sT,BI,g0,g1,g9,wE,AO,AA];rw[wrap64 (by omega) (by omega)];have hx:=S3.ar.ld (i:=lo+o) (by omega) (by omega);have hy:=S3.ar.ld (i:=i) (by omega) (by omega);rw[Av (by omega) (by omega),Av (by omega) (by omega)];simp only[hx,hy,AA];refine jR S3 M_ (by omega) (i:=lo+o) (j:=i) (by omega) (by omega) (by omega) (by omega) λW5 Wl S5=>?_;refine⟨by simp only[and_self],trivial,?_⟩;simp only[sS,BI,Uu];simp only[AG,AN,Nat.reduceEqDiff,↓reduceIte,g9,AO,AA];rw[wrap64 (by omega) (by omega)];exact⟨(lo+(l:Int)/4*2+2-(i+1)).toNat,by omega,trivial,⟨_,S5⟩,⟨k',Fk.congr (Wl _ (λe=>Dg e.symm))⟩,by simp only[g0],by simp only[g1],by simp only[g6],by simp only[g7],by simp only[g8],i+1,by simp only[AG],by omega,by omega,rfl⟩
 refine QR (λJi=>?_) (λAo=>?_)
 ·simp only[Ae,AA];rw[wrap64 (by omega) (by omega)];exact k9 _ ((w:Int)-l) (by omega) (by omega) (by simp only[AG,AN,Nat.reduceEqDiff,↓reduceIte,e0]) (by simp only[AG,AN,Nat.reduceEqDiff,↓reduceIte,e1]) (by simp only[AG,AN,Nat.reduceEqDiff,↓reduceIte,e6]) (by simp only[AG,AN,Nat.reduceEqDiff,↓reduceIte,e7]) (by simp only[AG,AN,Nat.reduceEqDiff,↓reduceIte,e8]) (by simp only[AG,AN,Nat.reduceEqDiff,↓reduceIte,e9]) (by simp only[AG,↓reduceIte])
 ·exact k9 _ (w:Int) (by omega) (by omega) (by simp only[AG,AN,Nat.reduceEqDiff,↓reduceIte,e0]) (by simp only[AG,AN,Nat.reduceEqDiff,↓reduceIte,e1]) (by simp only[AG,AN,Nat.reduceEqDiff,↓reduceIte,e6]) (by simp only[AG,AN,Nat.reduceEqDiff,↓reduceIte,e7]) (by simp only[AG,AN,Nat.reduceEqDiff,↓reduceIte,e8]) (by simp only[AG,AN,Nat.reduceEqDiff,↓reduceIte,e9]) (by simp only[AG,Nat.reduceEqDiff,↓reduceIte])
def QX(dec:Int→ByteArray)(W:CW)(b n:Nat)(a0 FZ:Int)(l:List Int)(k:Nat)(e:Env)(ds:List Deferred)(W':CW):Prop:=ds=[]∧∃a hi LQ wb wp m,QE e b n a hi LQ wb wp∧Sx dec W W' b a0 FZ l m∧QI a0 FZ a hi m∧a0≤a∧a≤hi∧hi≤FZ∧(hi-a).toNat=k
theorem AKq{dec:Int→ByteArray}(D:MA dec){b n:Nat}(hn:n≤1000000):∀(B:Nat) {W:CW} {a hi LQ:Int} {l:List Int},Ag W→Ax dec W b l→l.length=n→0≤a→a≤hi→hi≤n→hi-a≤B→(0<a→∀x,a≤x→x<hi→at_ l (a-1)≤at_ l x)→AX prog Bf 115 [.slice (some ⟨b,0,none⟩) n n,.int .i64 a,.int .i64 hi,.int .i64 LQ] W (yK dec b a hi l (Std a hi) W):=by
 intro B
 induction B using Nat.strongRecOn with
 |ind B ih=>
 intro W a0 FZ AKr l ht hd NS lC AKs AL2 nb Bw;refine yH ?_;rw[yG];generalize Hm:AQ prog Tryz.f115 (yK dec b a0 FZ l (Std a0 FZ) W)=KK
 have Ei:∀(x:Exit) (hx:x=.normal∨x=.ret) (e:Env) W' m,Sx dec W W' b a0 FZ l m→Std a0 FZ m→KK x e [] W':=by
  intro x hx e W' m S hs;rw[←Hm];exact D0 (by kernel_rfl) _ _ hx _ _ ⟨rfl,m,S,hs⟩
 refine DX (QX dec W b n a0 FZ l) (FZ-a0).toNat ⟨rfl,a0,FZ,AKr,true,true,l,⟨rfl,rfl,rfl,rfl,rfl,rfl⟩,.start ht hd,⟨λx y hx K_ hy=>by omega,λx y hx K_ hy=>by omega,λx y hx wQ hy m8=>by omega,λx y hx Ss hy m8=>by omega,Bw⟩,abx _,AKs,abx _,rfl⟩ ?_;rintro k e ds W1 ⟨rfl,a,hi,LQ,wb,wp,m,E,S,I,ha,pL,K2,hk⟩;have Jb:=S.len NS;have part:∀{W2:CW} {m2:List Int},Sx dec W1 W2 b a hi m m2→Sx dec W W2 b a0 FZ l m2∧QI a0 FZ a hi m2:=λ{W2 m2} S2=>⟨S.trans (S2.mono ha K2),I.sw lC ha K2 (by omega) S2.sw pL⟩
 rw[pM,E.e0,E.e1,E.e2,E.e3,E.e8];simp only[Ae,AA];rw[wrap64 (by omega) (by omega)];simp only[Dv,AA]
 refine OH (λdu=>?_) (λdu=>?_)
 ·refine(nK D S.top S.ar Jb (by omega) (by omega) (by omega) pL).mono λen W2 ⟨he,m2,S2,hs⟩=>?_;subst he;refine AP ?_;simp only[Tm,tKr];obtain⟨g1,g2⟩:=part S2;exact Ei _ (.inr rfl) _ _ m2 g1 (g2.done hs)
 simp only[BJ,AA]
 refine AH (λ_=>?_) (λ_=>?_)
 ·refine(AH4 D S.top S.ar Jb (by omega) (by omega) (by omega) (by omega)).mono λen W2 ⟨he,m2,S2,hs⟩=>?_;subst he;refine AP ?_;simp only[Tm,tKr];obtain⟨g1,g2⟩:=part S2;exact Ei _ (.inr rfl) _ _ m2 g1 (g2.done hs)
 have ZW:∀(e2:Env) W2 LQ wb wp p m2,Sx dec W W2 b a0 FZ l m2→QI a0 FZ a hi m2→QE e2 b n a hi LQ wb wp→e2 10=.int .i64 (hi-a)→e2 11=.int .i64 p→a≤p→p<hi→(L_ none (EC (QX dec W b n a0 FZ l) k (CX 0 KK))) .normal e2 [] W2:=by
  intro e2 W2 LQ wb wp p m2 S2 I2 E2 R4 e_ U' R';have Br:=S2.len NS;simp only[YZ,BI,oO,Uu,tKp,E2.e0,E2.e1,E2.e2,E2.e3,R4,e_];refine(nM D S2.top S2.ar Br (by omega) (by omega) (by omega) (by omega) U' R').mono λen W3 ⟨El,q,m3,he,q1,q2,S3,hP⟩=>?_;subst he;refine AP ?_;refine Ad (BV _ _) ?_;refine Ad (BW _ _) ?_;simp only[Ae,AA];rw[wrap64 (x:=El-a) (by omega) (by omega),wrap64 (x:=hi-El) (by omega) (by omega),yC (by omega) (by omega) (by omega)];simp only[Af,CC,AA];have S23:=S2.trans (S3.mono ha K2);have tC:=S23.len NS;have I3:=I2.sw lC ha K2 (by omega) S3.sw pL
  refine AH (λ_=>?_) (λ_=>?_)
  ·refine(ih (El-a).toNat (by omega) S3.top S3.ar tC (by omega) q1 (by omega) (by omega) (λh0 x hx Ss=>I3.pre h0 x hx (by omega))).mono λen W4 ⟨he,m4,S4,cU⟩=>?_;subst he;refine AP ?_;simp only[AO,AA];rw[wrap64 (by omega) (by omega)];have I4:=I3.sw lC ha K2 (by omega) (S4.sw.mono (abx _) (by omega:El≤hi)) pL;have hP4:=hP.swl (by omega) q1 q2 (by omega) S4.sw;exact⟨(hi-(El+1)).toNat,by omega,rfl,El+1,hi,LQ,_,q,m4,⟨by simp only[AG,AN,Nat.reduceEqDiff,↓reduceIte,E2.e0],by simp only[AG,↓reduceIte],by simp only[AG,AN,Nat.reduceEqDiff,↓reduceIte,E2.e2],by simp only[AG,AN,Nat.reduceEqDiff,↓reduceIte,E2.e3],(by simp only[AG,Nat.reduceEqDiff,↓reduceIte];rfl),by simp only[AG,Nat.reduceEqDiff,↓reduceIte]⟩,S23.trans (S4.mono ha (by omega)),I4.left ha q1 q2 K2 hP4 cU,by omega,by omega,by omega,rfl⟩
  ·simp only[AO,AA];rw[wrap64 (by omega) (by omega)];refine(ih (hi-(El+1)).toNat (by omega) S3.top S3.ar tC (by omega) (by omega) (by omega) (by omega) (λh0 x hx Ss=>by rw[show El+1-1=El by omega];exact hP.2 x (by omega) Ss)).mono λen W4 ⟨he,m4,S4,cU⟩=>?_;subst he;refine AP ?_;have I4:=I3.sw lC ha K2 (by omega) (S4.sw.mono (by omega:a≤El+1) (abx _)) pL;have hP4:=hP.swr (by omega) q1 q2 (by omega) S4.sw;exact⟨(El-a).toNat,by omega,rfl,a,El,LQ,_,q,m4,⟨by simp only[AG,AN,Nat.reduceEqDiff,↓reduceIte,E2.e0],by simp only[AG,AN,Nat.reduceEqDiff,↓reduceIte,E2.e1],by simp only[AG,↓reduceIte],by simp only[AG,AN,Nat.reduceEqDiff,↓reduceIte,E2.e3],(by simp only[AG,Nat.reduceEqDiff,↓reduceIte];rfl),by simp only[AG,Nat.reduceEqDiff,↓reduceIte]⟩,S23.trans (S4.mono (by omega) K2),I4.right ha q1 q2 K2 hP4 cU,by omega,by omega,by omega,rfl⟩
 have wT:∀(e2:Env) W2 LQ wb wp p q m2,Sx dec W W2 b a0 FZ l m2→QI a0 FZ a hi m2→QE e2 b n a hi LQ wb wp→e2 10=.int .i64 (hi-a)→e2 11=.int .i64 p→e2 87=.bool q→(q=true→0<a∧at_ m2 p≤at_ m2 (a-1))→a≤p→p<hi→(SE none (EC (QX dec W b n a0 FZ l) k (CX 0 KK))) .normal e2 [] W2:=by
  intro e2 W2 LQ wb wp p q m2 S2 I2 E2 R4 e_ h87 hq U' R';have Br:=S2.len NS;simp only[m9,BI,h87]
  refine AH (λhb=>?_) (λ_=>?_)
  ·obtain⟨hap,kN⟩:=hq hb;rw[E2.e0,E2.e1,E2.e2,e_];refine(AEw D S2.top S2.ar Br (by omega) (by omega) (by omega) (by omega) U' R').mono λen W3 ⟨El,m3,he,q1,q2,S3,hL,hR⟩=>?_;subst he;refine AP ?_;have I3:=I2.sw lC ha K2 (by omega) S3.sw pL;have Ji:=S3.sw.all (P:=λv=>at_ m2 p≤v) (by omega) (by omega) (λx hx Ss=>by have:=I2.pre hap x hx Ss;omega);simp only[YZ,Oy,IJ,aaA,Uu];exact⟨(hi-El).toNat,by omega,rfl,El,hi,LQ,wb,wp,m3,⟨by simp only[AG,AN,Nat.reduceEqDiff,↓reduceIte,E2.e0],by simp only[AG,↓reduceIte],by simp only[AG,AN,Nat.reduceEqDiff,↓reduceIte,E2.e2],by simp only[AG,AN,Nat.reduceEqDiff,↓reduceIte,E2.e3],by simp only[AG,AN,Nat.reduceEqDiff,↓reduceIte,E2.e8],by simp only[AG,AN,Nat.reduceEqDiff,↓reduceIte,E2.e9]⟩,S2.trans (S3.mono ha K2),I3.equal ha q1 q2 K2 Ji hL hR,by omega,by omega,by omega,rfl⟩
  ·exact ZW e2 W2 LQ wb wp p m2 S2 I2 E2 R4 e_ U' R'
 have k18:∀(e2:Env) W2 LQ wb wp p m2,Sx dec W W2 b a0 FZ l m2→QI a0 FZ a hi m2→QE e2 b n a hi LQ wb wp→e2 10=.int .i64 (hi-a)→e2 11=.int .i64 p→a≤p→p<hi→(J_ none (EC (QX dec W b n a0 FZ l) k (CX 0 KK))) .normal e2 [] W2:=by
  intro e2 W2 LQ wb wp p m2 S2 I2 E2 R4 e_ U' R';have Br:=S2.len NS;simp only[Yg,BI,E2.e0,E2.e1,e_,Bt,AA]
  refine YX (λhg=>?_) (λhl=>?_)
  ·simp only[Ae,AA];rw[wrap64 (by omega) (by omega)];have hx:=S2.ar.ld (i:=a-1) (by omega) (by omega);have hy:=S2.ar.ld (i:=p) (by omega) (by omega);rw[Av (by omega) (by omega),Av (by omega) (by omega)];simp only[hx,hy,AA];refine A4 (CZ D _ _ W2) ?_;simp only[AW,AA];refine⟨by simp only[and_self],trivial,?_⟩;exact wT _ W2 LQ wb wp p (!decide (at_ m2 (a-1)<at_ m2 p)) m2 S2 I2 ⟨by simp only[AG,AN,Nat.reduceEqDiff,↓reduceIte,E2.e0],by simp only[AG,AN,Nat.reduceEqDiff,↓reduceIte,E2.e1],by simp only[AG,AN,Nat.reduceEqDiff,↓reduceIte,E2.e2],by simp only[AG,AN,Nat.reduceEqDiff,↓reduceIte,E2.e3],by simp only[AG,AN,Nat.reduceEqDiff,↓reduceIte,E2.e8],by simp only[AG,AN,Nat.reduceEqDiff,↓reduceIte,E2.e9]⟩ (by simp only[AG,AN,Nat.reduceEqDiff,↓reduceIte,R4]) (by simp only[AG,AN,Nat.reduceEqDiff,↓reduceIte,e_]) (by simp only[AG,↓reduceIte]) (λh=>⟨hg,by have h:(!decide (at_ m2 (a-1)<at_ m2 p))=true:=h;simp at h;exact h⟩) U' R'
  ·refine⟨trivial,trivial,?_⟩;exact wT _ W2 LQ wb wp p false m2 S2 I2 ⟨by simp only[AG,AN,Nat.reduceEqDiff,↓reduceIte,E2.e0],by simp only[AG,AN,Nat.reduceEqDiff,↓reduceIte,E2.e1],by simp only[AG,AN,Nat.reduceEqDiff,↓reduceIte,E2.e2],by simp only[AG,AN,Nat.reduceEqDiff,↓reduceIte,E2.e3],by simp only[AG,AN,Nat.reduceEqDiff,↓reduceIte,E2.e8],by simp only[AG,AN,Nat.reduceEqDiff,↓reduceIte,E2.e9]⟩ (by simp only[AG,AN,Nat.reduceEqDiff,↓reduceIte,R4]) (by simp only[AG,AN,Nat.reduceEqDiff,↓reduceIte,e_]) (by simp only[AG,↓reduceIte]) (λh=>(by cases h)) U' R'
 have k21:∀(e2:Env) W2 LQ wb wp p q m2,Sx dec W W2 b a0 FZ l m2→QI a0 FZ a hi m2→QE e2 b n a hi LQ wb wp→e2 10=.int .i64 (hi-a)→e2 11=.int .i64 p→e2 68=.bool q→a≤p→p<hi→(OJ none (EC (QX dec W b n a0 FZ l) k (CX 0 KK))) .normal e2 [] W2:=by
  intro e2 W2 LQ wb wp p q m2 S2 I2 E2 R4 e_ h68 U' R';have Br:=S2.len NS;simp only[m_,BI,h68]
  refine AH (λ_=>?_) (λ_=>?_)
  ·rw[E2.e0,E2.e1,E2.e2];refine(yM D S2.top S2.ar Br (by omega) (by omega) (by omega) (by omega) I2.pre).mono λen W3 ⟨q,m3,he,S3,hq⟩=>?_;subst he;refine AP ?_;have S23:=S2.trans (S3.mono ha K2);have I3:=I2.sw lC ha K2 (by omega) S3.sw pL
   refine AH (λhb=>?_) (λ_=>?_)
   ·simp only[Yg,NP,Tm,tKr];exact Ei _ (.inr rfl) _ _ m3 S23 (I3.done (hq hb))
   ·exact k18 _ W3 LQ wb wp p m3 S23 I3 ⟨by simp only[AG,AN,Nat.reduceEqDiff,↓reduceIte,E2.e0],by simp only[AG,AN,Nat.reduceEqDiff,↓reduceIte,E2.e1],by simp only[AG,AN,Nat.reduceEqDiff,↓reduceIte,E2.e2],by simp only[AG,AN,Nat.reduceEqDiff,↓reduceIte,E2.e3],by simp only[AG,AN,Nat.reduceEqDiff,↓reduceIte,E2.e8],by simp only[AG,AN,Nat.reduceEqDiff,↓reduceIte,E2.e9]⟩ (by simp only[AG,AN,Nat.reduceEqDiff,↓reduceIte,R4]) (by simp only[AG,AN,Nat.reduceEqDiff,↓reduceIte,e_]) U' R'
  ·exact k18 e2 W2 LQ wb wp p m2 S2 I2 E2 R4 e_ U' R'
 have k22:∀(e2:Env) W2 LQ wb wp p h m2,Sx dec W W2 b a0 FZ l m2→QI a0 FZ a hi m2→QE e2 b n a hi LQ wb wp→e2 10=.int .i64 (hi-a)→e2 11=.int .i64 p→e2 12=.int .i64 h→a≤p→p<hi→(OK none (EC (QX dec W b n a0 FZ l) k (CX 0 KK))) .normal e2 [] W2:=by
  intro e2 W2 LQ wb wp p h m2 S2 I2 E2 R4 e_ AKt U' R';simp only[nA,BI,E2.e8,E2.e9,AKt,BJ,AA]
  refine AH (λ_=>?_) (λ_=>?_)
  ·refine AH (λ_=>?_) (λ_=>?_)
   ·exact k21 _ W2 LQ wb wp p _ m2 S2 I2 ⟨by simp only[AG,AN,Nat.reduceEqDiff,↓reduceIte,E2.e0],by simp only[AG,AN,Nat.reduceEqDiff,↓reduceIte,E2.e1],by simp only[AG,AN,Nat.reduceEqDiff,↓reduceIte,E2.e2],by simp only[AG,AN,Nat.reduceEqDiff,↓reduceIte,E2.e3],by simp only[AG,AN,Nat.reduceEqDiff,↓reduceIte,E2.e8],by simp only[AG,AN,Nat.reduceEqDiff,↓reduceIte,E2.e9]⟩ (by simp only[AG,AN,Nat.reduceEqDiff,↓reduceIte,R4]) (by simp only[AG,AN,Nat.reduceEqDiff,↓reduceIte,e_]) (by simp only[AG,↓reduceIte];rfl) U' R'
   ·exact k21 _ W2 LQ wb wp p false m2 S2 I2 ⟨by simp only[AG,AN,Nat.reduceEqDiff,↓reduceIte,E2.e0],by simp only[AG,AN,Nat.reduceEqDiff,↓reduceIte,E2.e1],by simp only[AG,AN,Nat.reduceEqDiff,↓reduceIte,E2.e2],by simp only[AG,AN,Nat.reduceEqDiff,↓reduceIte,E2.e3],by simp only[AG,AN,Nat.reduceEqDiff,↓reduceIte,E2.e8],by simp only[AG,AN,Nat.reduceEqDiff,↓reduceIte,E2.e9]⟩ (by simp only[AG,AN,Nat.reduceEqDiff,↓reduceIte,R4]) (by simp only[AG,AN,Nat.reduceEqDiff,↓reduceIte,e_]) (by simp only[AG,↓reduceIte]) U' R'
  ·exact k21 _ W2 LQ wb wp p false m2 S2 I2 ⟨by simp only[AG,AN,Nat.reduceEqDiff,↓reduceIte,E2.e0],by simp only[AG,AN,Nat.reduceEqDiff,↓reduceIte,E2.e1],by simp only[AG,AN,Nat.reduceEqDiff,↓reduceIte,E2.e2],by simp only[AG,AN,Nat.reduceEqDiff,↓reduceIte,E2.e3],by simp only[AG,AN,Nat.reduceEqDiff,↓reduceIte,E2.e8],by simp only[AG,AN,Nat.reduceEqDiff,↓reduceIte,E2.e9]⟩ (by simp only[AG,AN,Nat.reduceEqDiff,↓reduceIte,R4]) (by simp only[AG,AN,Nat.reduceEqDiff,↓reduceIte,e_]) (by simp only[AG,↓reduceIte]) U' R'
 have k25:∀(e2:Env) W2 LQ wb wp m2,Sx dec W W2 b a0 FZ l m2→QI a0 FZ a hi m2→QE e2 b n a hi LQ wb wp→e2 10=.int .i64 (hi-a)→(OL none (EC (QX dec W b n a0 FZ l) k (CX 0 KK))) .normal e2 [] W2:=by
  intro e2 W2 LQ wb wp m2 S2 I2 E2 R4;have Br:=S2.len NS;have hda:Dx dec W2 b n:=by rw[←Br];exact S2.ar.da
  simp only[nB,BI,oO,tKp,E2.e0,E2.e1,E2.e2];refine(jS D S2.top hda (by omega) (by omega) (by omega) (by omega)).mono λen W3 ⟨k3,t3,p,h,he,U',R'⟩=>?_;subst he;have S3:=S2.kp k3 t3;refine AP ?_;refine Ad (BV _ _) ?_;refine Ad (BW _ _) ?_;simp only[BJ,AA]
  refine AH (λ_=>?_) (λ_=>?_)
  ·refine(yL S3.top S3.ar Br (by omega) (by omega) (by omega) pL).mono λen W4 ⟨he,m4,S4,_⟩=>?_;subst he;refine AP ?_;simp only[Ae,AA];rw[wrap64 (x:=hi-1) (by omega) (by omega),wrap64 (x:=p-a) (by omega) (by omega),wrap64 (x:=hi-1-(p-a)) (by omega) (by omega)];exact k22 _ W4 LQ wb wp (hi-1-(p-a)) 1 m4 (S3.trans (S4.mono ha K2)) (I2.sw lC ha K2 (by omega) S4.sw pL) ⟨by simp only[AG,AN,Nat.reduceEqDiff,↓reduceIte,E2.e0],by simp only[AG,AN,Nat.reduceEqDiff,↓reduceIte,E2.e1],by simp only[AG,AN,Nat.reduceEqDiff,↓reduceIte,E2.e2],by simp only[AG,AN,Nat.reduceEqDiff,↓reduceIte,E2.e3],by simp only[AG,AN,Nat.reduceEqDiff,↓reduceIte,E2.e8],by simp only[AG,AN,Nat.reduceEqDiff,↓reduceIte,E2.e9]⟩ (by simp only[AG,AN,Nat.reduceEqDiff,↓reduceIte,R4]) (by simp only[AG,Nat.reduceEqDiff,↓reduceIte]) (by simp only[AG,↓reduceIte]) (by omega) (by omega)
  ·exact k22 _ W3 LQ wb wp p h m2 S3 I2 ⟨by simp only[AG,AN,Nat.reduceEqDiff,↓reduceIte,E2.e0],by simp only[AG,AN,Nat.reduceEqDiff,↓reduceIte,E2.e1],by simp only[AG,AN,Nat.reduceEqDiff,↓reduceIte,E2.e2],by simp only[AG,AN,Nat.reduceEqDiff,↓reduceIte,E2.e3],by simp only[AG,AN,Nat.reduceEqDiff,↓reduceIte,E2.e8],by simp only[AG,AN,Nat.reduceEqDiff,↓reduceIte,E2.e9]⟩ (by simp only[AG,AN,Nat.reduceEqDiff,↓reduceIte,R4]) (by simp only[AG,Nat.reduceEqDiff,↓reduceIte]) (by simp only[AG,Nat.reduceEqDiff,↓reduceIte]) U' R'
 simp only[AW,AA]
 refine AH (λ_=>?_) (λ_=>?_)
 ·refine(AEx S.top S.ar Jb hn (by omega) (by omega) (by omega)).mono λen W2 ⟨he,m2,S2,_⟩=>?_;subst he;refine AP ?_;obtain⟨g1,g2⟩:=part S2;exact k25 _ W2 _ wb wp m2 g1 g2 ⟨by simp only[AG,AN,Nat.reduceEqDiff,↓reduceIte,E.e0],by simp only[AG,AN,Nat.reduceEqDiff,↓reduceIte,E.e1],by simp only[AG,AN,Nat.reduceEqDiff,↓reduceIte,E.e2],by simp only[AG,↓reduceIte];rfl,by simp only[AG,AN,Nat.reduceEqDiff,↓reduceIte,E.e8],by simp only[AG,AN,Nat.reduceEqDiff,↓reduceIte,E.e9]⟩ (by simp only[AG,Nat.reduceEqDiff,↓reduceIte])
 ·exact k25 _ W1 LQ wb wp m S I ⟨by simp only[AG,AN,Nat.reduceEqDiff,↓reduceIte,E.e0],by simp only[AG,AN,Nat.reduceEqDiff,↓reduceIte,E.e1],by simp only[AG,AN,Nat.reduceEqDiff,↓reduceIte,E.e2],by simp only[AG,AN,Nat.reduceEqDiff,↓reduceIte,E.e3],by simp only[AG,AN,Nat.reduceEqDiff,↓reduceIte,E.e8],by simp only[AG,AN,Nat.reduceEqDiff,↓reduceIte,E.e9]⟩ (by simp only[AG,Nat.reduceEqDiff,↓reduceIte])
def yV(ro:Option Nat)(K:AB):AB:=Ab (λa b c=>GJ 82 (DW a) c (λc d=>Gj K a (eC 5 Be (BK 4 (DW a) 52 (DW a) 51 c 50 (DW a))) b d) λc d=>CJ K c a (Z' 50 (DW a)) b d) K
def yW:=by
 have h:=@yV.eq_1;dsimp at h;exact h
def AH5(v0 v1:Value)(K:AB)(W:CW):=by
 have h:Er 25 53 v0 v1 W K=(let a:=HY 16 v0 5 Be 4 (.slice none 0 0);GJ 47 v0 W (λb c=>Db b λd=>Dc b λf=>Bp 78 c λc g=>Bj 78 c d g λg=>D3 f λh=>let a:=A_ 21 h 20 f 7 f 6 c (Dh 19 f 18 d 15 b 17 a);wI h (Lj K v0 v1 (F2 5 (TN 210) 4 (.slice none 0 0) a) g) (GJ 32 v1 g (λb c=>Db b λd=>Dc b λf=>XI .neq 30 f 0 λg=>let a:=eC 28 g (XJ 27 f 9 f 8 d 26 (A_ 25 d 22 b 24 b 23 v1 a));wI g (Lj K v0 v1 (DB 5 f 4 (.slice none 0 0) 29 f a) c) (Dl 51 d c λb=>EB 25 53 [v0,v1] (A_ 32 Be 31 b 30 d 10 (.slice none 0 0) a) c (yV none K))) λb c=>HX K b v0 v1 (eC 23 v1 a) c)) λb c=>HX K b v0 v1 a c):=by kernel_rfl
 dsimp at h;exact h
def nN(ro:Option Nat)(K:AB):AB:=Ab (λa b c=>B_ a 32 λd=>Gt K a 32 d 49 b c) K
def jU:=by
 have h:=@nN.eq_1;dsimp at h;exact h
def AEy(ro:Option Nat)(e:Env)(ds:List Deferred)(K:AB)(W:CW):=by
 have h:Dd ro 25 53 e ds W K=FU e 32 31 λa=>Gs a (KZ 51 e 30 e 32 λb=>As b W λc=>KF 78 e 6 0 λd=>CQ 75 d W λf=>EW 75 f c true W λg=>Db g λh=>Dc g λi=>Bp 48 W λj k=>Bj 48 j h k λk=>D3 i λl=>let a:=DB 44 l 43 i 14 i (A_ 13 j 42 i 41 h 36 g (A_ 40 g 39 c 38 f 37 d (BK 12 c 35 c 34 b 33 a)));Dm l (M8 prog 51 1 [(0,c)] k λb d=>Li prog [51,51] (DW e) b d λd f=>GU (nN ro K) e 10 d (A_ 48 d 47 b 46 c 45 (DW e) a) ds f) (nN ro K) e a ds k) K 0 e 33 a ds W:=by kernel_rfl
 dsimp at h;exact h
theorem se(Q:Ending→CW→Prop)(e:Env)(W:CW):AQ prog Tryz.f25 Q .ret e [] W=Q (.returned (.tuple #[e 4,e 5])) W:=by kernel_rfl
def AH6{Q v0 v1 W}:=F1 25 53 [v0,v1] Tryz.f25 Q W Tryz.func25 (by kernel_rfl)
def AH7(v0:Value)(K:AB)(W:CW):=by
 have h:HM 82 11 [v0] W K=Dl 51 v0 W λa=>wV (cl prog 3 164 a) λb=>let c:=DB 8 b 7 a 6 a (BK 5 v0 2 a 4 a 3 v0);GJ 116 b W (λb d=>Nx 115 v0 Be a b d (λa d=>TM K (Env.args [v0]) (F2 10 a 9 b c) [] d) λa d=>Lb K a [v0] (eC 9 b c) d) λa b=>Lb K a [v0] c b:=by kernel_rfl
 dsimp at h;exact h
def AH8{Q v0 W}:=F1 82 11 [v0] Tryz.f82 Q W Tryz.func82 (by kernel_rfl)
theorem SU{a b:List UInt8}(h:Hu a b=true):Hu b a=false:=by
 cases hq:Hu b a with
 |false=>rfl
 |true=>have:=GV a b a h hq;rw[Mr]at this;cases this
theorem WM:∀a b:List UInt8,Hu a b=true∨a=b∨Hu b a=true
 |[],[]=>.inr (.inl rfl)
 |[],_::_=>.inl rfl
 |_::_,[]=>.inr (.inr rfl)
 | a::x,b::y=>by
  simp only[Hu,aaQ,dy]
  rcases Nat.lt_trichotomy a.toNat b.toNat with h|h|h
  ·exact .inl (.inl (aan h))
  ·have e:a=b:=ac1.1 h;subst e
   rcases WM x y with q|q|q
   ·exact .inl (.inr ⟨abE _,q⟩)
   ·exact .inr (.inl (by rw[q]))
   ·exact .inr (.inr (.inr ⟨abE _,q⟩))
  ·exact .inr (.inr (.inl (aan h)))
theorem jV:∀a b:Nat,Hu (List.replicate a 0++[1]) (List.replicate b 0++[1])=decide (b<a)
 |0,0=>rfl
 |0,b+1=>by
  rw[aby];rfl
 |a+1,0=>by
  rw[aby];rfl
 |a+1,b+1=>by
  rw[aby,aby,aci,aci,Hu,jV a b]
  by_cases h:b<a
  ·rw[decide_eq_true h,decide_eq_true (by omega)];rfl
  ·rw[decide_eq_false h,decide_eq_false (by omega)];rfl
theorem bU:∀a b:Nat,Hu (List.replicate a 0) (List.replicate b 0)=decide (a<b)
 |0,0=>rfl
 |0,b+1=>by
  rw[aby];rfl
 |a+1,0=>by
  rw[aby];rfl
 |a+1,b+1=>by
  rw[aby,aby,Hu,bU a b]
  by_cases h:a<b
  ·rw[decide_eq_true h,decide_eq_true (by omega)];rfl
  ·rw[decide_eq_false h,decide_eq_false (by omega)];rfl
def AA_(x:Int):ByteArray:=if x<0 then⟨(1::(List.replicate (-x).toNat 0++[1])).toArray⟩else⟨(255::List.replicate x.toNat 0).toArray⟩
theorem AH9:MA AA_:=⟨λx y=>by
 unfold AA_
 by_cases hx:x<0<;>by_cases hy:y<0
 ·rw[aad hx,aad hy];show Hu (1::_) (1::_)=_;rw[Hu,jV]
  by_cases h:x<y
  ·rw[decide_eq_true h,decide_eq_true (by omega)];rfl
  ·rw[decide_eq_false h,decide_eq_false (by omega)];rfl
 ·rw[aad hx,aac hy,decide_eq_true (by omega)];rfl
 ·rw[aac hx,aad hy,decide_eq_false (by omega)];rfl
 ·rw[aac hx,aac hy];show Hu (255::_) (255::_)=_;rw[Hu,bU]
  by_cases h:x<y
  ·rw[decide_eq_true h,decide_eq_true (by omega)];rfl
  ·rw[decide_eq_false h,decide_eq_false (by omega)];rfl⟩
def Good(s:ByteArray):Prop:=∃x r,sb s=x::r∧2≤x.toNat∧x.toNat≤254
structure ABA(dec:Int→ByteArray):Prop where
 ord:MA dec
 low:∀s,Good s→∃x,Hu (sb (dec x)) (sb s)=true
 high:∀s,Good s→∃x,Hu (sb s) (sb (dec x))=true
theorem AH':ABA AA_:=⟨AH9,λs ⟨x,r,h,h1,h2⟩=>⟨-1,by
  rw[h];show Hu (1::_) (x::r)=true;rw[Hu,show Nat.blt (1:UInt8).toNat x.toNat=true from aan h1]
  rfl⟩,λs ⟨x,r,h,h1,h2⟩=>⟨0,by
  rw[h];show Hu (x::r) (255::_)=true;rw[Hu,show Nat.blt x.toNat (255:UInt8).toNat=true from aan (by show x.toNat+1≤255;omega)]
  rfl⟩⟩
theorem pW(P:Int→Bool):∀(n:Nat) (x:Int),P x=true→P (x+n)=false→∃z,P z=true∧P (z+1)=false
 |0,x,h1,h2=>by rw[show x+((0:Nat):Int)=x by omega,h1]at h2;cases h2
 |n+1,x,h1,h2=>by
  cases h:P (x+1)with
  |false=>exact⟨x,h1,h⟩
  |true=>exact pW P n (x+1) h (by rw[show x+1+(n:Int)=x+((n+1:Nat):Int) by omega];exact h2)
theorem yX{a b:ByteArray}(h:sb a=sb b):a=b:=by
 have:Y2 (sb a) (sb b)=true:=by rw[h];exact Ln _
 exact LX this
theorem yY{dec:Int→ByteArray}(D:ABA dec){s:ByteArray}(hs:Good s):∃yZ,ABA yZ∧(∃x,yZ x=s)∧∀x,∃y,yZ y=dec x:=by
 obtain⟨x0,h0⟩:=D.low s hs;obtain⟨y0,h1⟩:=D.high s hs
 have Ao:x0<y0:=by
  have:=GV _ _ _ h0 h1;rw[D.ord.lt]at this;exact of_decide_eq_true this
 obtain⟨z,hz1,hz2⟩:=pW (λx=>Hu (sb (dec x)) (sb s)) (y0-x0).toNat x0 h0 (by
  show Hu (sb (dec (x0+((y0-x0).toNat:Int)))) (sb s)=false;rw[show x0+((y0-x0).toNat:Int)=y0 by omega]
  exact SU h1)
 have hz1:Hu (sb (dec z)) (sb s)=true:=hz1;have hz2:Hu (sb (dec (z+1))) (sb s)=false:=hz2
 rcases WM (sb (dec (z+1))) (sb s)with q|q|q
 ·rw[hz2]at q;cases q
 ·exact⟨dec,D,⟨z+1,yX q⟩,λx=>⟨x,rfl⟩⟩
 ·have lo:∀y,y≤z→Hu (sb (dec y)) (sb s)=true:=λy hy=>by
   by_cases e:y=z
   ·rw[e];exact hz1
   ·exact GV _ _ _ (by rw[D.ord.lt];exact decide_eq_true (by omega)) hz1
  have hi:∀y,z<y→Hu (sb s) (sb (dec y))=true:=λy hy=>by
   by_cases e:y=z+1
   ·rw[e];exact q
   ·exact GV _ _ _ q (by rw[D.ord.lt];exact decide_eq_true (by omega))
  let d:Int→ByteArray:=λy=>if y≤z then dec y else if y=z+1 then s else dec (y-1)
  have d1:∀{y},y≤z→d y=dec y:=λh=>aad h;have d2:d (z+1)=s:=by show(if _ then _ else _)=_;rw[aac (by omega),aad rfl]
  have d3:∀{y},z+1<y→d y=dec (y-1):=λ{y} h=>by show(if _ then _ else _)=_;rw[aac (by omega),aac (by omega)]
  have hr:∀x,∃y,d y=dec x:=λx=>by
   by_cases h:x≤z
   ·exact⟨x,d1 h⟩
   ·exact⟨x+1,by rw[d3 (by omega),show x+1-1=x by omega]⟩
  refine⟨d,⟨⟨λx y=>?_⟩,λt ht=>?_,λt ht=>?_⟩,⟨z+1,d2⟩,hr⟩
  ·rcases Int.lt_trichotomy x (z+1)with hx|hx|hx<;>rcases Int.lt_trichotomy y (z+1)with hy|hy|hy
   ·rw[d1 (by omega),d1 (by omega),D.ord.lt]
   ·subst hy;rw[d1 (by omega),d2,lo _ (by omega),decide_eq_true (by omega)]
   ·rw[d1 (by omega),d3 hy,D.ord.lt]
    by_cases h:x<y
    ·rw[decide_eq_true h,decide_eq_true (by omega)]
    ·omega
   ·subst hx;rw[d2,d1 (by omega),SU (lo _ (by omega)),decide_eq_false (by omega)]
   ·subst hx;subst hy;rw[d2,Mr,decide_eq_false (by omega)]
   ·subst hx;rw[d2,d3 hy,hi _ (by omega),decide_eq_true (by omega)]
   ·rw[d3 hx,d1 (by omega),D.ord.lt,decide_eq_false (by omega),decide_eq_false (by omega)]
   ·subst hy;rw[d3 hx,d2,SU (hi _ (by omega)),decide_eq_false (by omega)]
   ·rw[d3 hx,d3 hy,D.ord.lt]
    by_cases h:x<y
    ·rw[decide_eq_true h,decide_eq_true (by omega)]
    ·rw[decide_eq_false h,decide_eq_false (by omega)]
  ·obtain⟨x,hx⟩:=D.low t ht;obtain⟨y,hy⟩:=hr x;exact⟨y,by rw[hy];exact hx⟩
  ·obtain⟨x,hx⟩:=D.high t ht;obtain⟨y,hy⟩:=hr x;exact⟨y,by rw[hy];exact hx⟩
theorem pX:∀os:List ByteArray,(∀s,s∈os→Good s)→∃dec,ABA dec∧∀s,s∈os→∃x,dec x=s
 |[],_=>⟨AA_,AH',λs h=>by cases h⟩
 |s::os,h=>by
  obtain⟨dec,D,hd⟩:=pX os λt ht=>h t (by simp[ht]);obtain⟨yZ,D',h1,h2⟩:=yY D (h s (by simp));refine⟨yZ,D',λt ht=>?_⟩
  rcases aaE.1 ht with rfl|ht
  ·exact h1
  ·obtain⟨x,rfl⟩:=hd t ht;exact h2 x
theorem jW{dec:Int→ByteArray}:∀os:List ByteArray,(∀s,s∈os→∃x,dec x=s)→∃cs:List Int,cs.map dec=os
 |[],_=>⟨[],rfl⟩
 |s::os,h=>by
  obtain⟨x,hx⟩:=h s (by simp);obtain⟨cs,hc⟩:=jW os λt ht=>h t (by simp[ht]);exact⟨x::cs,by rw[abr,hx,hc]⟩
theorem pY(dec:Int→ByteArray)(cs:List Int):sx dec cs=strs (cs.map dec):=by simp[sx,strs]
def Asc(l:List ByteArray):Prop:=l.Pairwise λa b=>Hu (sb b) (sb a)=false
theorem ya{W:CW}:AX prog Bf 129 [.slice none 0 0,.int .i64 0,.int .i64 0] W (H_ (.tuple #[]) W):=by
 refine yJ ?_;rw[yI];simp only[AO,AA];rw[wrap64 (by omega) (by omega)];refine DX (λk e ds W'=>ds=[]∧W'=W∧e 2=.int .i64 0∧e 6=.int .i64 (0+1)) 0 ⟨rfl,rfl,rfl,rfl⟩ ?_;rintro k e ds W' ⟨rfl,rfl,h2,h6⟩;rw[pN,h2,h6];simp only[Af,AA];rw[decide_eq_false (by omega),AZ];simp only[IJ,VM,aaA];exact D0 (by kernel_rfl) _ _ (.inl rfl) _ _ ⟨rfl,rfl⟩
theorem yb{W:CW}{LQ:Int}:AX prog Bf 115 [.slice none 0 0,.int .i64 0,.int .i64 0,.int .i64 LQ] W (H_ (.tuple #[]) W):=by
 refine yH ?_;rw[yG];refine DX (λk e ds W'=>ds=[]∧W'=W∧e 0=.slice none 0 0∧e 1=.int .i64 0∧e 2=.int .i64 0) 0 ⟨rfl,rfl,rfl,rfl,rfl⟩ ?_;rintro k e ds W' ⟨rfl,rfl,h0,h1,h2⟩;rw[pM,h0,h1,h2];simp only[Ae,AA];rw[wrap64 (by omega) (by omega)];simp only[Dv,AA];rw[decide_eq_true (by omega),BB];refine A4 ya ?_;simp only[Tm,tKr];exact D0 (by kernel_rfl) _ _ (.inr rfl) _ _ ⟨rfl,rfl⟩
theorem sg{W:CW}{vo:Value}{os:List ByteArray}(ht:Ag W)(ho:C' W 9 1 vo (strs os))(hn:os.length≤1000000)(hg:∀s,s∈os→Good s) :
  AX prog Bf 82 [vo] W (λen W'=>en=.returned (.tuple #[])∧Bm (Bh vo) W W'∧Ag W'∧∃l:List ByteArray,l.Perm os∧Asc l∧C' W' 9 1 vo (strs l)):=by
 refine AH8 ?_;rw[AH7];obtain⟨dec,D,hd⟩:=pX os hg;obtain⟨cs,rfl⟩:=jW os hd;have hl:=Iq (cs.map dec);rw[←pY]at ho hl;rw[aau]at hl hn;generalize jn:sx dec cs=vs at ho hl
 cases ho with
 |nil=>
  have:cs=[]:=aaF.1 hl.symm;subst this;rw[Aj gX];simp only[AA,yD];rw[bP (by omega) (by omega)];refine A4 (eR (n:=0) (by omega) W) ?_;refine A4 yb ?_;refine D0 (by kernel_rfl) _ _ (.inl rfl) _ _ ⟨rfl,.refl _ _,ht,[],acP _,List.Pairwise.nil,C'.nil⟩
 | @some b len _ hB Y3=>
  have:len=cs.length:=by omega
  subst this;have hA:Ax dec W b cs:=by unfold Ax;rw[jn];exact hB
  rw[Aj gX];simp only[AA,yD];rw[bP (by omega) (by omega)];refine A4 (eR hn W) ?_;refine(AKq D.ord hn cs.length ht hA rfl (by omega) (by omega) (by omega) (by omega) (λh=>by omega)).mono λen W1 ⟨he,m,S,D1⟩=>?_;subst he;refine AP ?_;have Jb:=S.sw.len
  refine D0 (by kernel_rfl) _ _ (.inl rfl) _ _ ⟨rfl,⟨S.D4.sz,λi hi hS=>S.D4.obj i hi λe=>hS ⟨_,_,_,rfl,e.symm⟩⟩,S.top,m.map dec,(S.sw.perm (by omega) (by omega)).map dec,?_,?_⟩
  ·refine List.Pairwise.map _ (R:=λa b=>a≤b) (λa b h=>by rw[D.ord.lt];exact decide_eq_false (by omega)) ?_;rw[List.pairwise_iff_getElem];intro i j hi hj hij;have h1:=D1 i j (by omega) (by omega) (by omega);unfold at_ at h1;rw[abg,abg,ck hi,ck hj]at h1;exact h1
  ·rw[←pY];exact C'.some S.ar (by rw[eQ];omega)
def AEz(_:ByteArray):Option Int:=none
theorem ABB(A:CW):o6 A (.func (.func 93) #[] #[]) AEz:=by
 intro s W K KP kA ht H0 df;refine G5 Tryz.func93 (by kernel_rfl) ?_;refine AHx (v0:=.string s) ?_;rw[AHw];exact D0 (by kernel_rfl) _ _ (.inl rfl) _ _ (H0 rfl _ W (.refl _) ht)
theorem ABp:∀ts:List ByteArray,OF AEz ts=none
 |[]=>rfl
 |t::ts=>by unfold OF;exact ABp ts
def MB(b:List UInt8):List ByteArray×Int:=if 100000<b.length then([],2)else match(DN b).2 with
 |some _=>((DN b).1,0)
 |none=>([],4)
theorem AH_(b:List UInt8):Ev b AEz 0=match(DN b).2 with
 |some a=>.ok ((DN b).1,a)
 |none=>.error 4:=by rw[head_eq,ABp]<;>rfl
def eS(r:List ByteArray×Int)(W:CW):Ending→CW→Prop:=λen W'=>Kp W W'∧Ag W'∧∃v,en=.returned (.tuple #[v,.int .i64 r.2])∧C' W' 9 1 v (strs r.1)∧BZ W.sz v
theorem jX{P:Program}{fn:Func}{Q:Ending→CW→Prop}{e:Env}{W:CW}{s t:Tmp}{ty:TypeId}{p:Addr}{v:Value}(hr:fn.results.toList=[.cell s ty,.tmp t])(he:e s=.pointer (some p))(hv:ld P ty (.pointer (some p)) W=some v)(hq:Q (.returned (.tuple #[v,e t])) W):AQ P fn Q .ret e [] W:=by
 have hv:LS P ty p W=some v:=hv;simp only[AQ,CI,hr,Jt,qX,he,hv];exact hq
theorem jY:Tryz.f32.results.toList=[.cell 2 51,.tmp 3]:=by kernel_rfl
theorem nO{vb:Value}{b:List UInt8}{W:CW}(ht:Ag W)(hb:Zj W vb b):AX prog Bf 32 [vb] W (eS (MB b) W):=by
 refine AHt ?_;rw[AHs];refine H' z51 s51 ht λT k8 tT zT hB=>?_;have hB:Aq T W.sz 51 [.slice none 0 0]:=hB;have hbT:=hb.kp ht k8;obtain⟨a,cap,ew,Ie,rE⟩:=hbT.sl;rw[ew];simp only[AA]
 refine(YB (Q:=λen W'=>Kp W W'∧Ag W'∧∃x v ts,en=.returned (.int .i64 x)∧Aq W' W.sz 51 [v]∧C' W' 9 1 v (strs ts)∧BZ W.sz v∧MB b=(ts,x)) tT (λS9 W' k t=>⟨k8.trans k,t,2,.slice none 0 0,[],rfl,hB.ext tT k,C'.nil,BZ.nil _ _ _,by unfold MB;rw[aad S9]⟩) (λTo W0 k t hz hBe hBr=>?_)).mono λen W' ⟨kk,tt,x,v,ts,FN,mP,hO,hN,hP⟩=>?_
 ·have hP:MB b=match(DN b).2 with
   |some _=>((DN b).1,0)
   |none=>([],4):=by unfold MB;rw[aac (by omega)]<;>rfl
  have I:dt T (.slice a b.length cap) b:=⟨tT,⟨a,cap,rfl,Ie,rE⟩,To⟩
  have R:Rd T W0 (T.sz+1) (.slice a b.length cap) 0:=⟨k,t,by omega,hBr⟩
  have QJ:=hB.ext tT k;have hWT:W.sz<T.sz:=by omega
  refine G5 Tryz.func91 (by kernel_rfl) ?_;refine AHv (v0:=.pointer (some ⟨T.sz+1,0,none⟩)) (v1:=.pointer (some ⟨W.sz,0,none⟩)) ?_;rw[AHu];refine(pA I R (aa7 _) (ABB T)).mono λen W1 ⟨c1,t1,hp⟩=>?_;rw[AH_]at hp;have ABC:Aq W1 T.sz 30 [.int .i64 0]:=c1.IA t (λh=>by have:T.sz=T.sz+1:=h;omega) hBe;have P_:Aq W1 W.sz 51 [.slice none 0 0]:=c1.IA t (λh=>by have:W.sz=T.sz+1:=h;omega) QJ
  have AKu:∀W',rz T.sz W1 W'→Ag W'→Kp W W':=λW' hu t'=>⟨by have:=k8.sz;have:=k.sz;have:=c1.sz;have:=hu.sz;omega,λj hj=>by
   rw[hu.obj j (by have:=c1.sz;omega) (by omega),c1.obj j (by omega) (λh=>by have:j=T.sz+1:=h;omega),(k8.trans k).obj j hj]⟩
  cases hq:(DN b).2 with
  |none=>
   rw[hq]at hp hP;have hp:en=.panicked (DT 4):=hp;subst hp;refine EH ?_;exact⟨4,rfl,t1,ABC,λW' hu t'=>⟨AKu W' hu t',t',4,.slice none 0 0,[],rfl,P_.congr (hu.obj _ (P_.lt t1) (by omega)),C'.nil,BZ.nil _ _ _,hP⟩⟩
  | some a2=>
   rw[hq]at hp hP;obtain⟨v,rfl,⟨hO,hN⟩,_⟩:=hp;refine AP ?_;refine Ac s51 (a:=⟨W.sz,0,none⟩) (v:=v) (Ml hO) P_ (by simp) λW2 hu Ey=>?_;have hu:Dn W.sz W1 W2:=hu;have Ey:Aq W2 W.sz 51 [v]:=Ey;have hWl:=P_.lt t1;have hzt:=ABC.lt t1;have t2:=t1.A6 hWl hu
   have yc:C' W2 9 1 v (strs (DN b).1):=NA hO λj hj=>hu.obj j λe=>by
    subst e;have:=Ba (Df hO hj) P_
    cases this
   refine D0 (by kernel_rfl) _ _ (.inl rfl) _ _ ?_
   refine⟨t2,ABC.congr (hu.obj _ (by omega)),λW' UQ t'=>⟨⟨by have:=k8.sz;have:=k.sz;have:=c1.sz;have:=UQ.sz;have:=hu.sz;omega,λj hj=>?_⟩,t',0,v,(DN b).1,rfl,Ey.congr (UQ.obj _ (Ey.lt t2) (by omega)),?_,λb' l' c' e=>by have:=hN b' l' c' e;have:=k8.sz;have:=k.sz;omega,hP⟩⟩
   ·rw[UQ.obj j (by rw[hu.sz];have:=c1.sz;omega) (by omega),hu.obj j (by omega),c1.obj j (by omega) (λh=>by have:j=T.sz+1:=h;omega),(k8.trans k).obj j hj]
   ·refine NA yc λj hj=>UQ.obj j ?_ λe=>?_
    ·exact N5 t2 yc hj
    ·subst e;have:=Ba (Df yc hj) (ABC.congr (hu.obj _ (by omega)))
     cases this
 ·subst FN;refine AP ?_;have l51:ld prog 51 (.pointer (some ⟨W.sz,0,none⟩)) W'=some v:=AD a51 (a:=⟨W.sz,0,none⟩) (mP.cell rfl);rw[l51];simp only[AA];refine Ac s51 (a:=⟨W.sz,0,none⟩) (v:=v) (Ml hO) mP (by simp) λW2 hu Ey=>?_;have hu:Dn W.sz W' W2:=hu;have Ey:Aq W2 W.sz 51 [v]:=Ey
  have yc:C' W2 9 1 v (strs ts):=NA hO λj hj=>hu.obj j λe=>by
   subst e;have:=Ba (Df hO hj) mP
   cases this
  refine jX jY (p:=⟨W.sz,0,none⟩) (v:=v) (by simp only[AG,Nat.reduceEqDiff,↓reduceIte]) (AD a51 (a:=⟨W.sz,0,none⟩) (Ey.cell rfl)) ?_;rw[hP];exact⟨kk.A6 (aaf _) hu,tt.A6 (mP.lt tt) hu,v,by simp only[AG,↓reduceIte],yc,hN⟩
def Zk(s:ByteArray):List ByteArray→List ByteArray
 |[]=>[s]
 |x::r=>if Hu (sb x) (sb s)=true then x::Zk s r else s::x::r
def eT(c:List AV)(ts:List ByteArray):List ByteArray:=ts.foldl (λout s=>if(Ah c s).isSome then out else Zk s out) []
def ON(c:List AV)(b:List UInt8):List ByteArray×Int:=if Az c=false then([],210)else if(MB b).2≠0 then([],(MB b).2)else(eT c (MB b).1,0)
theorem UI(s:ByteArray):∀l:List ByteArray,(Zk s l).Perm (s::l)
 |[]=>acP _
 |x::r=>by
  unfold Zk
  split
  ·exact((UI s r).cons x).trans (List.Perm.swap s x r)
  ·exact acP _
theorem jZ{s:ByteArray}:∀{l:List ByteArray},Asc l→Asc (Zk s l)
 |[],_=>abt _ _
 | x::r,h=>by
  obtain⟨h1,h2⟩:=aco.1 h;unfold Zk
  split
  ·rename_i hx;refine aco.2 ⟨λy hy=>?_,jZ h2⟩
   rcases aaE.1 ((UI s r).mem_iff.1 hy)with rfl|hy
   ·exact SU hx
   ·exact h1 y hy
  ·rename_i hx;have hx:Hu (sb x) (sb s)=false:=by simpa using hx
   refine aco.2 ⟨λy hy=>?_,h⟩
   rcases aaE.1 hy with rfl|hy
   ·exact hx
   ·cases hq:Hu (sb y) (sb s)with
    |false=>rfl
    |true=>
     rcases WM (sb x) (sb y)with q|q|q
     ·have:=GV _ _ _ q hq;rw[hx]at this;cases this
     ·rw[←q,hx]at hq;cases hq
     ·rw[h1 y hy]at q;cases q
theorem AE0{l m:List ByteArray}(hp:l.Perm m)(hl:Asc l)(hm:Asc m):l=m:=by
 refine hp.eq_of_pairwise (le:=λa b=>Hu (sb b) (sb a)=false) (λa b _ _ h1 h2=>?_) hl hm
 rcases WM (sb a) (sb b)with q|q|q
 ·rw[h2]at q;cases q
 ·exact yX q
 ·rw[h1]at q;cases q
theorem ABD(c:List AV)(ts:List ByteArray):(eT c ts).Perm (ts.filter λs=>!(Ah c s).isSome)∧Asc (eT c ts):=by
 have key:∀(ts out acc:List ByteArray),out.Perm acc→Asc out→(ts.foldl (λout s=>if(Ah c s).isSome then out else Zk s out) out).Perm (acc++ts.filter λs=>!(Ah c s).isSome)∧Asc (ts.foldl (λout s=>if(Ah c s).isSome then out else Zk s out) out):=by
  intro ts
  induction ts with
  |nil=>intro out acc h1 h2;simpa using⟨h1,h2⟩
  | cons s ts ih=>
   intro out acc h1 h2;rw[abe]
   cases hs:(Ah c s).isSome with
   |true=>
    simp only[aaA];have:=ih out acc h1 h2;rw[List.filter_cons_of_neg (by rw[hs];simp)];exact this
   |false=>
    simp only[aaM,abk];have:=ih (Zk s out) (acc++[s]) (((UI s out).trans (h1.cons s)).trans (List.perm_append_singleton s acc).symm) (jZ h2);rw[List.filter_cons_of_pos (by rw[hs];simp)];rw[aaO]at this;exact this
 have:=key ts [] [] (acP _) List.Pairwise.nil;rw[abf]at this;exact this
theorem yd{s:ByteArray}(h:Dj s=true):Good s:=by
 unfold Dj at h;simp only[dy,decide_eq_true_eq,aaC]at h;obtain⟨⟨h1,_⟩,h3⟩:=h;have hl:(sb s).length=s.size:=Lq s
 cases hs:sb s with
 |nil=>rw[hs]at hl;simp at hl;omega
 |cons x r=>
  refine⟨x,r,hs,?_⟩;rw[hs]at h3;simp only[List.any_cons,aaz,Mg,decide_eq_false_iff_not]at h3;omega
theorem nP{b:List UInt8}:∀s,s∈(DN b).1→Dj s=true:=by
 have key:∀(k at_:Nat) (out:List ByteArray),(∀s,s∈out→Dj s=true)→∀s,s∈(Ew b k at_ out).1→Dj s=true:=by
  intro k
  induction k with
  |zero=>intro at_ out h;exact h
  | succ k ih=>
   intro at_ out h;rw[Ew]
   split
   ·exact h
   ·split
    ·rename_i hc;refine ih _ _ λt ht=>?_
     rcases aaB.1 ht with ht|ht
     ·exact h t ht
     ·rw[dx.1 ht];exact hc.1
    ·exact h
 unfold DN
 split
 ·intro s hs;cases hs
 ·split
  ·split
   ·intro s hs;cases hs
   ·split
    ·exact key _ _ _ λs hs=>by cases hs
    ·intro s hs;cases hs
  ·intro s hs;cases hs
theorem ye{b:List UInt8}:(∀s,s∈(MB b).1→Dj s=true)∧(MB b).1.length≤100:=by
 unfold MB
 split
 ·exact⟨λs hs=>(by cases hs),by simp⟩
 ·split
  ·exact⟨nP,mu⟩
  ·exact⟨λs hs=>(by cases hs),by simp⟩
theorem pZ{c:List AV}(h:Az c=true):(∀j,j<c.length→BP c j=false)∧∀j,j<c.length→LG c j=false:=by
 unfold Az at h;simp only[dy,aaC]at h;exact⟨λj hj=>DS h.2.1 hj,λj hj=>DS h.2.2 hj⟩
theorem AE1{c:List AV}(h:Az c=true){i:Nat}{x:AV}(hx:c[i]?=some x):Ah c x.name=some i:=oZ (pZ h).1 hx
theorem eU{c:List AV}{s:ByteArray}{i:Nat}(h:Ah c s=some i):∃x,c[i]?=some x∧x.name=s:=by
 obtain⟨h1,h2,_⟩:=aaq.1 h;exact⟨c[i],ck h1,by simpa using h2⟩
theorem eV{c:List AV}(h:Az c=true){x:AV}(hx:x∈c):∃i,Ah c x.name=some i∧c[i]?=some x:=by
 obtain⟨i,hi⟩:=List.mem_iff_getElem?.1 hx;exact⟨i,AE1 h hi,hi⟩
theorem nQ{c:List AV}:∀{f g i:Nat} {l:List Nat},f≤g→Bg c f i=some l→Bg c g i=some l:=by
 intro f
 induction f with
 | zero=>
  intro g i l _ h
  cases hx:c[i]? with
  |none=>unfold Bg at h;rw[hx]at h;cases h
  |some x=>
   by_cases hs:x.BR=Dw
   ·rw[Fh hx hs]at h ⊢;exact h
   ·rw[QB hx hs]at h;cases h
 | succ f ih=>
  intro g i l hg h
  cases hx:c[i]? with
  |none=>unfold Bg at h;rw[hx]at h;cases h
  | some x=>
   by_cases hs:x.BR=Dw
   ·rw[Fh hx hs]at h ⊢;exact h
   ·cases g with
    |zero=>omega
    | succ g=>
     rw[IK hx hs]at h ⊢
     cases hu:QA c i with
     |none=>rw[hu]at h;cases h
     |some j=>
      rw[hu]at h;simp only[aaw]at h ⊢;obtain⟨l',h1,h2⟩:=h;exact⟨l',ih (by omega) h1,h2⟩
theorem sj{c d:List AV}(hd:∀x,x∈d→x∈c)(hc:Az c=true):∀{f i j:Nat} {x:AV} {l:List Nat},d[i]?=some x→c[j]?=some x→Bg d f i=some l→∃l',Bg c f j=some l'∧l'.map (c[·]?)=l.map (d[·]?):=by
 intro f
 induction f with
 | zero=>
  intro i j x l hx hy h
  by_cases hs:x.BR=Dw
  ·rw[Fh hx hs]at h
   cases h
   exact⟨[j],Fh hy hs,by simp[hx,hy]⟩
  ·rw[QB hx hs]at h;cases h
 | succ f ih=>
  intro i j x l hx hy h
  by_cases hs:x.BR=Dw
  ·rw[Fh hx hs]at h
   cases h
   exact⟨[j],Fh hy hs,by simp[hx,hy]⟩
  ·rw [IK hx hs]at h
   cases hu:QA d i with
   |none=>rw[hu]at h;cases h
   | some i2=>
    rw[hu]at h;simp only[aaw]at h;obtain⟨l2,h1,rfl⟩:=h;unfold QA at hu;rw[hx]at hu;simp only at hu
    split at hu
    ·rename_i k hk
     split at hu
     ·rename_i y hy2
      split at hu
      ·rename_i MJ
       cases hu
       obtain⟨y',g1,g2⟩:=eU (c:=d) (s:=x.BR) (by unfold Ah;exact hk);rw[hy2]at g1
       cases g1
       obtain⟨j2,q1,q2⟩:=eV hc (hd y (aai hy2));obtain⟨l',e1,e2⟩:=ih hy2 q2 h1
       have Y5:QA c j=some j2:=by
        unfold QA;rw[hy];simp only;have q1':c.findIdx? (λy=>decide (y.name=x.BR))=some j2:=by rw[←g2];exact q1
        rw[q1'];simp only[q2,MJ,aaA]
       refine⟨j::l',by rw[IK hy hs,Y5];simp only[e1,abd],by simp[hx,hy,e2]⟩
      ·cases hu
     ·cases hu
    ·cases hu
def IB(c d:List AV)(s:ByteArray):Prop:=∃i j,Ah c s=some i∧Ah d s=some j∧elemAt c i=elemAt d j∧Al c i=Al d j
theorem IB.symm{c d:List AV}{s:ByteArray}(h:IB c d s):IB d c s:=by
 obtain⟨i,j,h1,h2,h3,h4⟩:=h;exact⟨j,i,h2,h1,h3.symm,h4.symm⟩
def ofF:Option AV→List Vq
 |some x=>x.fields
 |none=>[]
theorem pb(c:List AV)(j:Nat):KG c j=ofF c[j]?:=by unfold KG ofF;cases c[j]? <;>rfl
theorem bV{c d:List AV}(hd:d.Sublist c)(hc:Az c=true)(Aa:Az d=true){s:ByteArray}(hs:(Ah d s).isSome=true):IB d c s:=by
 obtain⟨i,hi⟩:=aa8.1 hs;obtain⟨x,hx,hn⟩:=eU hi;have B0:∀x,x∈d→x∈c:=λx h=>hd.subset h;obtain⟨j,q1,q2⟩:=eV hc (B0 x (aai hx));rw[hn]at q1;refine⟨i,j,hi,q1,by unfold elemAt;rw[hx,q2],?_⟩;have H2:=(aaa.1 hx).1;have hr:=(pZ Aa).2 i H2;unfold LG at hr
 cases hl:Bg d d.length i with
 |none=>rw[hl]at hr;cases hr
 | some l=>
  obtain⟨l',e1,e2⟩:=sj B0 hc hx q2 hl;have e3:=nQ hd.length_le e1
  have h1:EP d i=(l.map (d[·]?)).reverse.flatMap ofF:=by
   unfold EP;rw[hl];simp only[←List.map_reverse,acV,←pb]
  have h2:EP c j=(l'.map (c[·]?)).reverse.flatMap ofF:=by
   unfold EP;rw[e3];simp only[←List.map_reverse,acV,←pb]
  unfold Al;rw[h1,h2,e2]
theorem pc{c:List AV}{i:Nat}(hi:i<c.length)(k:Nat):A0 c i k=if elemAt c i≠0 then elemAt c i else((Al c i)[k]?).getD 0:=by
 unfold A0 elemAt;rw[ck hi]
theorem MC{c d:List AV}{i j:Nat}{s:ByteArray}(h1:Ah c s=some i)(h2:Ah d s=some j)(h3:elemAt c i=elemAt d j)(h4:Al c i=Al d j):A0 c i=A0 d j:=by
 funext k;rw[pc (DI h1),pc (DI h2),h3,h4]
theorem bW{c d:List AV}{i j:Nat}(h:A0 c i=A0 d j):∀(k:Nat) (vs:List Int),O0 c i k vs=O0 d j k vs
 |_,[]=>rfl
 |k,v::vs=>by unfold O0;rw[h,bW h (k+1) vs]
theorem Is.same{c d:List AV}{i j many:Nat}(h:A0 c i=A0 d j){k f f':Nat}{vs:List Int}(hv:Is c i many k f vs f'):Is d j many k f vs f':=by
 induction hv with
 |nil k fd=>exact .nil k fd
 |ref hk hv _ ih=>exact .ref (by rw[←h];exact hk) hv ih
 |word hk h1 h2 _ ih=>exact .word (by rw[←h];exact hk) h1 h2 ih
theorem nR{c d:List AV}{ts:List ByteArray}{x:BC}(h:IB c d x.type):JP c ts x=JP d ts x:=by
 obtain⟨i,j,h1,h2,h3,h4⟩:=h;unfold JP;rw[h1,h2];simp only[h3,bW (MC h1 h2 h3 h4)]
theorem ES.same{c d:List AV}{ts:List ByteArray}{many:Nat}(hs:∀s,s∈ts→IB c d s){i u f:Nat}{xs:List BC}{u' f':Nat}(h:ES c ts many i u f xs u' f'):ES d ts many i u f xs u' f':=by
 induction h with
 |nil i u f=>exact .nil i u f
 |cons hi ht Zr hx hn hv _ ih=>
  obtain⟨a,b,h1,h2,h3,h4⟩:=hs _ (aai ht);rw[hx]at h1
  cases h1
  exact .cons hi ht Zr h2 (by rw[←h3,←h4];exact hn) (hv.same (MC hx h2 h3 h4)) ih
theorem ES.AKv{c:List AV}{ts:List ByteArray}{many i u f:Nat}{xs:List BC}{u' f':Nat}(h:ES c ts many i u f xs u' f'):∀x,x∈xs→x.type∈ts:=by
 induction h with
 |nil i u f=>intro x hx;cases hx
 |cons hi ht Zr hx hn hv _ ih=>
  intro y hy
  rcases aaE.1 hy with rfl|hy
  ·exact aai ht
  ·exact ih y hy
theorem WN{c:List AV}{s:ByteArray}:GY c [] s=none↔(Ah c s).isSome=true:=by
 unfold GY
 cases h:(Ah c s).isSome<;>simp
theorem yg{c:List AV}{s:ByteArray}(h:Ah c s=none):GY c [] s=some 213:=by
 unfold GY;rw[h];rfl
theorem IB.ask{c d:List AV}{s:ByteArray}(h:IB c d s):GY d [] s=none:=by
 obtain⟨i,j,h1,h2,_⟩:=h;exact WN.2 (by rw[h2];rfl)
theorem Canon.same{c d:List AV}{ts:List ByteArray}{xs:List BC}(h:Canon c (GY c []) ts xs)(hs:∀s,s∈ts→IB c d s):Canon d (GY d []) ts xs∧FM c ts xs=FM d ts xs:=by
 refine⟨⟨h.tsl,λs h1=>⟨(h.sym s h1).1,(hs s h1).ask⟩,h.nodup,h.len,h.scan.same hs⟩,?_⟩;unfold FM
 have:xs.flatMap (JP c ts)=xs.flatMap (JP d ts):=by
  have ht:=h.scan.AKv;clear h
  induction xs with
  |nil=>rfl
  |cons x xs ih=>rw[aas,aas,nR (hs _ (ht x (by simp))),ih λy hy=>ht y (by simp[hy])]
 rw[this]
theorem UJ(c:List AV)(xs:List BC):xs.map (Bb c [])=xs:=by
 rw[show Bb c []=id from rfl,List.map_id]
theorem nT{c d:List AV}{x:BC}{n:Nat}(hs:∀s,(Ah c s).isSome=true→IB c d s)(h:A8 c x n=true):A8 d x n=true:=by
 unfold A8 at h ⊢
 cases hi:Ah c x.type with
 |none=>rw[hi]at h;cases h
 |some i=>
  obtain⟨i',j,h1,h2,h3,h4⟩:=hs x.type (by rw[hi];rfl);rw[hi]at h h1
  cases h1
  rw[h2];simp only[ck (DI hi),ck (DI h2)]at h ⊢;have e1:elemAt c i=(c[i]'(DI hi)).elem:=by unfold elemAt;rw[ck (DI hi)]
  have e2:elemAt d j=(d[j]'(DI h2)).elem:=by unfold elemAt;rw[ck (DI h2)]
  unfold FL at h ⊢;rw[←e1]at h;rw[←e2,←h3,←h4,←MC hi h2 h3 h4];exact h
theorem so{c:List AV}{x:BC}{n:Nat}(h:A8 c x n=true):(Ah c x.type).isSome=true:=by
 unfold A8 at h
 cases hi:Ah c x.type with
 |none=>rw[hi]at h;cases h
 |some i=>rfl
theorem U_{c d:List AV}{i j:Nat}(h:A0 c i=A0 d j)(vs:List Int):∀n,Eu c i vs n=Eu d j vs n
 |0=>rfl
 |n+1=>by unfold Eu;rw[h,U_ h vs n]
theorem ja{c d:List AV}{x:BC}(h:IB c d x.type):refsOf c x=refsOf d x:=by
 obtain⟨i,j,h1,h2,h3,h4⟩:=h;unfold refsOf;rw[h1,h2];exact U_ (MC h1 h2 h3 h4) _ _
theorem VA{c d:List AV}{i j:Nat}(h:A0 c i=A0 d j)(o:List Int)(vs:List Int):∀n,Fj c o i vs n=Fj d o j vs n
 |0=>rfl
 |n+1=>by unfold Fj;rw[h,VA h o vs n]
theorem jb{c d:List AV}{t:List ByteArray}{o:List Int}{x:BC}(h:IB c d x.type):EF c t o x=EF d t o x:=by
 obtain⟨i,j,h1,h2,h3,h4⟩:=h;unfold EF;rw[h1,h2];simp only[h3,VA (MC h1 h2 h3 h4)]
theorem sq{α β:Type}{l:List α}{f g:α→List β}(h:∀x,x∈l→f x=g x):l.flatMap f=l.flatMap g:=by
 induction l with
 |nil=>rfl
 |cons x l ih=>rw[aas,aas,h x (by simp),ih λy hy=>h y (by simp[hy])]
theorem at_mem{h:List BC}{o:List Int}{x:BC}(hx:x∈AJ h o):x∈h:=by
 unfold AJ at hx;obtain⟨v,_,hv⟩:=abo.1 hx;exact aai (by simpa using hv)
theorem nU{c d:List AV}{h:List BC}{root:Int}{r:List Int}(hs:∀s,(Ah c s).isSome=true→IB c d s)(hd:Az d=true)(hw:Dz c [] h root=(r,0))(hz:Ja c [] h root=0):Dz d [] h root=(r,0):=by
 obtain⟨_,_,mU,tV,KE⟩:=IP hz;obtain⟨NB,LP⟩:=IL mU;have O5:∀x,x∈h→IB c d x.type:=λx hx=>hs _ (so (LP x hx))
 have Uw:¬G8 d h≥0:=by
  unfold G8;rw[aac (by omega),Jo λj x _ hj=>by rw[nT hs (LP x (aai hj))];rfl];omega
 have hzd:Ja d [] h root=0:=by
  unfold Ja PK;rw[aad hd,aad YW,aac (by simp),aac Uw,aac (by omega)]
 have AKw:Gf c [] h=Gf d [] h:=by
  funext v;unfold Gf
  split
  ·rename_i x hx;exact ja (O5 x (aai hx))
  ·rfl
 have hf:Au c [] h root=Au d [] h root:=by unfold Au;rw[AKw]
 unfold Dz at hw ⊢;rw[aac (by rw[hz];simp)]at hw;rw[aac (by rw[hzd];simp),←hf]
 have hb:EV d [] h (Au c [] h root)=EV c [] h (Au c [] h root):=by
  have e:∀x,x∈AJ h (Au c [] h root)→EF d (C3 [] (AJ h (Au c [] h root))) (Au c [] h root) (AM [] x)=EF c (C3 [] (AJ h (Au c [] h root))) (Au c [] h root) (AM [] x):=λx hx=>(jb (O5 x (at_mem hx))).symm;unfold EV;rw[sq e]
 rw[hb];exact hw
theorem bX{c d:List AV}{ts:List ByteArray}{xs:List BC}{b:List UInt8}(h:Canon c (GY c []) ts xs)(hb:bI b=FM c ts xs)(hl:b.length≤100000)(hd:Az d=true)(hs:∀s,s∈ts→IB c d s):J' d [] b=(xs,min (xs.length:Int) 1,0):=by
 obtain⟨h1,h2⟩:=h.same hs;have:=U7 hd YW h1 (hb.trans h2) (m:=[]) (by simpa using hl);rw[aaR,aad rfl,UJ]at this;exact this
theorem ABE{c:List AV}{ask:ByteArray→Option Int}{ts:List ByteArray}{xs:List BC}{b:List UInt8}(h:Canon c ask ts xs)(hb:bI b=FM c ts xs):∃a,Ev b ask 0=.ok (ts,a):=by
 rw[←YI.all]at hb;unfold FM at hb;obtain⟨a4,hb,h5⟩:=hb.split;obtain⟨a3,hb,h4⟩:=hb.split;obtain⟨a2,hb,h3⟩:=hb.split;obtain⟨a1,h1,h2⟩:=hb.split;rw[←mR]at h1;have hl:=h.tsl;refine⟨a3,?_⟩;unfold Ev;rw[IY h1 (by omega) (by omega)];simp only[aad];rw[IY h2 (by omega) (by omega)];simp only;rw[YJ (out:=[]) h.sym (by simpa using h.nodup) h3];simp
theorem jc{c:List AV}{ask:ByteArray→Option Int}{ts:List ByteArray}{xs:List BC}{b:List UInt8}(h:Canon c ask ts xs)(hb:bI b=FM c ts xs):∃a,DN b=(ts,some a):=by
 obtain⟨a,ha⟩:=ABE h hb;rw[head_eq]at ha
 split at ha
 ·cases ha
 ·split at ha
  ·rename_i a' h2;simp only[Except.ok.injEq,aar]at ha;obtain⟨h1,rfl⟩:=ha;refine⟨a',?_⟩;rw[←h1,←h2]
  ·cases ha
theorem Yt{d:List AV}:∀{ts:List ByteArray},(∃s,s∈ts∧Ah d s=none)→OF (GY d []) ts=some 213
 |[],h=>by obtain⟨s,h,_⟩:=h;cases h
 | t::ts,h=>by
  unfold OF
  cases ht:Ah d t with
  |none=>rw[yg ht]
  |some i=>
   rw[WN.2 (by rw[ht];rfl)];refine Yt ?_;obtain⟨s,h1,h2⟩:=h
   rcases aaE.1 h1 with rfl|h1
   ·rw[ht]at h2;cases h2
   ·exact⟨s,h1,h2⟩
theorem nV{c d:List AV}{ts:List ByteArray}{xs:List BC}{b:List UInt8}(h:Canon c (GY c []) ts xs)(hb:bI b=FM c ts xs)(hl:b.length≤100000)(hd:Az d=true)(hm:∃s,s∈ts∧Ah d s=none):J' d [] b=([],0,213):=by
 obtain⟨a,ha⟩:=jc h hb
 have hh:Ev b (GY d []) 0=.error 213:=by
  rw[head_eq,ha,Yt hm]
 unfold J';rw[aac (by rw[hd];simp),aac (by rw[YW];simp),aac (by omega)];have:CA b d (GY d []) 0=.error 213:=by unfold CA;rw[hh]
 rw[this]
theorem yh{c d:List AV}{ask:ByteArray→Option Int}{ts:List ByteArray}{xs:List BC}{b:List UInt8}(h:Canon c ask ts xs)(hb:bI b=FM c ts xs)(hl:b.length≤100000)(hd:Az d=true):ON d b=(eT d ts,0):=by
 obtain⟨a,ha⟩:=jc h hb
 have ht:MB b=(ts,0):=by
  unfold MB;rw[aac (by omega),ha]
 unfold ON;rw[aac (by rw[hd];simp),ht];simp
theorem UK{d:List AV}:∀{ts out:List ByteArray},(∀s,s∈ts→(Ah d s).isSome=true)→ts.foldl (λout s=>if(Ah d s).isSome then out else Zk s out) out=out
 |[],out,_=>rfl
 |s::ts,out,h=>by
  rw[abe,aad (h s (by simp))];exact UK λt ht=>h t (by simp[ht])
theorem sr{d:List AV}{ts:List ByteArray}(h:∀s,s∈ts→(Ah d s).isSome=true):eT d ts=[]:=UK h
theorem jd{d:List AV}{n:ByteArray}(hn:Ah d n=none):∀{ts:List ByteArray},ts.Nodup→n∈ts→(∀s,s∈ts→(Ah d s).isSome=true∨s=n)→eT d ts=[n]
 |[],_,h,_=>by cases h
 | s::ts,ZM,hm,h=>by
  obtain⟨h1,h2⟩:=ac4.1 ZM;unfold eT;rw[abe]
  by_cases e:s=n
  ·subst e
   rw[aac (by rw[hn];simp),UK λt ht=>?_]
   ·rfl
   ·rcases h t (by simp[ht])with q|q
    ·exact q
    ·subst q;exact(h1 ht).elim
  ·rw[aad ((h s (by simp)).resolve_right e)];refine jd hn h2 ?_ λt ht=>h t (by simp[ht])
   rcases aaE.1 hm with q|q
   ·exact(e q.symm).elim
   ·exact q
def AIA(v0:Value)(K:AB)(W:CW):=by
 have h:HM 23 12 [v0] W K=GJ 47 v0 W (λa b=>Db a λc=>Dc a λd=>Bp 78 b λb f=>Bj 78 b c f λf=>D3 d λg=>let a:=F2 11 g 10 d (A_ 4 d 3 b 9 d 8 c (BK 5 a 7 a 6 v0 2 Be));wI g (E9 K [v0] (eC 2 (TN 210) a) f) (E9 K [v0] (eC 2 Be a) f)) λa b=>Lb K a [v0] (Fu 6 v0 2 Be) b:=by kernel_rfl
 dsimp at h;exact h
theorem bY(Q:Ending→CW→Prop)(e:Env)(W:CW):AQ prog Tryz.f23 Q .ret e [] W=Q (.returned (e 2)) W:=by kernel_rfl
def AIB{Q v0 W}:=F1 23 12 [v0] Tryz.f23 Q W Tryz.func23 (by kernel_rfl)
theorem Yu{v0:Value}{c:List AV}{W:CW}(ht:Ag W)(hc:At 5 (JZ W) v0 c)(hC:Ru c):AX prog Bf 23 [v0] W (z_ (.int .i64 (if Az c then 0 else 210)) W):=by
 refine AIB ?_;rw[AIA];refine(N7 ht hc hC).mono λen W1 ⟨k1,t1,r1,r2,FN,KE,Ty,Gk⟩=>?_;subst FN;refine AP ?_;refine Ad (BV _ _) ?_;refine Ad (BW _ _) ?_;unfold KH;refine DM (ws:=[.map (some r1),.map (some r2)]) z78 U1 rfl rfl rfl t1 λW3 k3 t3 z3 Ms=>?_;have mc:=k1.trans k3;simp only[AW,AA]
 cases Aa:Az c with
 |false=>
  simp only[aaY,BB];rw[bY];exact⟨rfl,mc,t3⟩
 |true=>
  simp only[aav,AZ];rw[bY];exact⟨rfl,mc,t3⟩
theorem nW{v0 vb:Value}{c:List AV}{b:List UInt8}{W:CW}(ht:Ag W)(hc:At 5 (JZ W) v0 c)(hC:Ru c)(hb:Zj W vb b):AX prog Bf 25 [v0,vb] W (eS (ON c b) W):=by
 refine AH6 ?_;rw[AH5];generalize Hm:AQ prog Tryz.f25 (eS (ON c b) W)=KK
 have Ei:∀(e:Env) W' v ts x,Kp W W'→Ag W'→e 4=v→e 5=.int .i64 x→C' W' 9 1 v (strs ts)→BZ W.sz v→ON c b=(ts,x)→KK .ret e [] W':=by
  intro e W' v ts x k t h4 h5 hO hN hP;rw[←Hm,se,h4,h5,hP];exact⟨k,t,v,rfl,hO,hN⟩
 refine(N7 ht hc hC).mono λen W1 ⟨k1,t1,r1,r2,FN,KE,Ty,Gk⟩=>?_;subst FN;refine AP ?_;refine Ad (BV _ _) ?_;refine Ad (BW _ _) ?_;unfold KH;refine DM (ws:=[.map (some r1),.map (some r2)]) z78 U1 rfl rfl rfl t1 λW3 k3 t3 z3 Ms=>?_;have mc:=k1.trans k3;simp only[AW,AA]
 cases Aa:Az c with
 |false=>
  simp only[aaY,BB];exact Ei _ W3 _ [] 210 mc t3 (by simp only[AG,Nat.reduceEqDiff,↓reduceIte]) (by simp only[AG,↓reduceIte]) C'.nil (BZ.nil _ _ _) (by unfold ON;rw[aad Aa])
 | true=>
  simp only[aav,AZ];have PN:=(Gk Aa).kp t1 k3;have hP:ON c b=if(MB b).2≠0 then([],(MB b).2)else(eT c (MB b).1,0):=by unfold ON;rw[aac (by rw[Aa];simp)]
  refine(nO t3 (hb.kp ht mc)).mono λen A ⟨kA,tA,tv,FN,Ig,_⟩=>?_;subst FN;refine AP ?_;refine Ad (BV _ _) ?_;refine Ad (BW _ _) ?_;have ox:=mc.trans kA;simp only[CM,AA]
  refine AH (λhe=>?_) (λhe=>?_)
  ·have he:(MB b).2≠0:=by simpa using he
   exact Ei _ A _ [] (MB b).2 ox tA (by simp only[AG,Nat.reduceEqDiff,↓reduceIte]) (by simp only[AG,↓reduceIte]) C'.nil (BZ.nil _ _ _) (by rw[hP,aad he])
  have he:(MB b).2=0:=by simpa using he
  rw[aac (by omega)]at hP;obtain⟨AAi,AIC⟩:=ye (b:=b);generalize (MB b).1=ts at Ig hP AAi AIC;have ib:=PN.kp t3 kA;have AKx:=Ms.ext t3 kA;rw[JG (m:=ts.length) gX Ig (by omega) (by rw[Iq];omega)];simp only[AA];refine EZ (λi e ds W'=>ds=[]∧Kp A W'∧Ag W'∧e 6=.pointer (some ⟨W1.sz,0,none⟩)∧e 30=tv∧e 31=.int .i64 ts.length∧e 32=.int .i64 i∧∃vo,e 10=vo∧C' W' 9 1 vo (strs ((ts.take i).filter λs=>!(Ah c s).isSome))∧BZ A.sz vo) ts.length ⟨rfl,.refl _,tA,by simp only[AG,Nat.reduceEqDiff,↓reduceIte],by simp only[AG,Nat.reduceEqDiff,↓reduceIte],by simp only[AG,Nat.reduceEqDiff,↓reduceIte],by simp only[AG,↓reduceIte];rfl,_,by simp only[AG,Nat.reduceEqDiff,↓reduceIte],C'.nil,BZ.nil _ _ _⟩ ?_;rintro i e ds W' hi ⟨rfl,pE,t',h6,h30,h31,h32,vo,R4,hO,hN⟩;rw[AEy,h6,h30,h31,h32];simp only[Af,AA]
  have M4:((ts.take i).filter λs=>!(Ah c s).isSome).length≤100:=by
   refine abh (acR _ _) ?_;rw[aaI];omega
  refine Hx (λAo=>?_) (λJi=>?_)
  rotate_left
  ·have:i=ts.length:=by omega
   subst this;simp only[IJ,QV,aaA,yW,BI];rw[abO]at hO M4;simp only[AG,AN,Nat.reduceEqDiff,↓reduceIte,R4];refine(sg t' hO (by omega) (λs hs=>yd (AAi s ((acq.1 hs).1)))).mono λen W2 ⟨FN,c2,t2,l,hp,ha,yc⟩=>?_;subst FN;refine AP ?_
   have hl:l=eT c ts:=by
    obtain⟨q1,q2⟩:=ABD c ts;exact AE0 (hp.trans q1.symm) ha q2
   rw[hl]at yc;have zA:=ox.sz;exact Ei _ W2 vo _ 0 (ox.trans (Bm.kp pE c2 λj hj=>hN.in hj)) t2 (by simp only[AG,Nat.reduceEqDiff,↓reduceIte]) (by simp only[AG,↓reduceIte]) yc (λb' l' c' e=>by have:=hN b' l' c' e;omega) hP
  obtain⟨at_,ct,hv,htc⟩:=id (AAn (Ig.kp tA pE));have hx:=ck Ao;obtain⟨p,rfl,hp⟩:=htc i _ hx;have iT:lD prog 51 tv (.int .i64 i)=some (.pointer (some ⟨p.block,p.off+i*1,none⟩)):=by rw[hv];exact Ay (i:=i) gX s9 Ao
  have tH:ld prog 9 (.pointer (some ⟨p.block,p.off+i*1,none⟩)) W'=some (.string ts[i]):=AD a9 (a:=⟨p.block,p.off+i*1,none⟩) hp
  have Yv:(ts.take (i+1)).filter (λs=>!(Ah c s).isSome)=(ts.take i).filter (λs=>!(Ah c s).isSome)++if(Ah c ts[i]).isSome then[]else[ts[i]]:=by
   rw[aaX,hx,abw,List.filter_append];congr 1
   cases hq:(Ah c ts[i]).isSome with
   |true=>rw[List.filter_cons_of_neg (by rw[hq];simp),aad rfl];rfl
   |false=>rw[List.filter_cons_of_pos (by rw[hq];simp),aac (by simp)];rfl
  generalize ts[i]=s at hx hp tH Yv;rw[iT];simp only[AA,tH,Hl];rw[AD wC (a:=⟨W1.sz,0,none⟩) ((AKx.ext tA pE).cell rfl)];simp only[AA];obtain⟨ws,fz,aN,hwo,_⟩:=X3 (ib.kp tA pE).sh s;rw[fz];simp only[AA,BV,BW];refine DM (ws:=ws) AHg ic rfl hwo aN t' λW2 k2 t2 z2 hB=>?_;have X_:=pE.trans k2;have yc:=hO.kp t' k2;simp only[AW,AA]
  cases hsh:(Ah c s).isSome with
  |true=>
   rw[hsh]at Yv;simp only[aaA,aaR]at Yv;simp only[aav,AZ,jU,BI];simp only[AG,AN,Nat.reduceEqDiff,↓reduceIte,h32,AO,AA,IW];rw[Dy (by omega)];refine⟨Ao,trivial,X_,t2,by simp only[h6],by simp only[h30],by simp only[h31],(by first|rfl|simp only[AG,AN,jv,Nat.reduceEqDiff,↓reduceIte,jw,vT,aK,and_self]),vo,by simp only[R4],?_,hN⟩;rw[Yv];exact yc
  |false=>
   rw[hsh]at Yv;simp only[aaM,abk]at Yv;simp only[aaY,BB];rw[R4];refine Mj gX s9 z9 rfl (by omega) by9 (by omega) (vk _) rfl rfl t2 yc (by rw[Iq];omega) λu Wa jl W7 ka ta Lz t7 o7 n7=>?_;have zA:=X_.sz;simp only[jU,BI];simp only[AG,AN,Nat.reduceEqDiff,↓reduceIte,h32,AO,AA,IW];rw[Dy (by omega)];refine⟨Ao,trivial,Lz.kp X_ hN,t7,by simp only[h6],by simp only[h30],by simp only[h31],(by first|rfl|simp only[AG,AN,jv,Nat.reduceEqDiff,↓reduceIte,jw,vT,aK,and_self]),jl,by simp only[AG],?_,n7 _ zA⟩;rw[Yv,Xt];exact o7
section
variable {A L:CW}{B1 b6 b11 r1 r2 b0:Nat}{v v2:Value}{c:List AV}{h:List BC}{qs ps0:List (BC×Value)}
end
abbrev Y7:=AV×Value×Value
def Em(q:Y7):List Value:=[.string q.1.name,.string q.1.BR,q.2.1,.int .u8 q.1.elem,q.2.2]
theorem OO(q:Y7):(Em q).length=5:=rfl
structure pe(W:CW)(q:Y7):Prop where
 fields:At 2 (RZ W) q.2.1 q.1.fields
 binds:∃a l k,q.2.2=.slice a l k
 lo:0≤q.1.elem
 hi:q.1.elem<256
theorem pe.kp{A W:CW}{q:Y7}(h:pe A q)(ht:Ag A)(k:Kp A W):pe W q:=⟨h.fields.imp λ_ _ _ hr=>hr.kp ht k,h.binds,h.lo,h.hi⟩
theorem pe.shp{W:CW}{q:Y7}(h:pe W q){b o:Nat}(hc:Cells W b o (Em q)):JZ W b o q.1:=by
 obtain⟨a,l,k,hb⟩:=h.binds;exact⟨hc 0 _ rfl,hc 1 _ rfl,⟨_,hc 2 _ rfl,h.fields⟩,hc 3 _ rfl,⟨a,l,k,by rw[←hb];exact hc 4 _ rfl⟩,h.lo,h.hi⟩
theorem yi{W:CW}{b:Nat}:∀(l:List AV) (o:Nat),(∀i x,l[i]?=some x→JZ W b (o+i*5) x)→∃qs:List Y7,qs.map (·.1)=l∧(∀q,q∈qs→pe W q)∧Cells W b o (qs.flatMap Em)
 |[],o,_=>⟨[],rfl,(λq hq=>by cases hq),λj v h=>by cases h⟩
 | x::l,o,h=>by
  obtain⟨qs,h1,h2,h3⟩:=yi l (o+5) λi y hy=>by
   have:=h (i+1) y (by simpa using hy);rw[acG,show o+(i*5+5)=o+5+i*5 by omega]at this;exact this
  have h0:=h 0 x rfl;rw[abl,aa6]at h0;obtain⟨vf,f1,f2⟩:=h0.fields;obtain⟨a,n,k,hb⟩:=h0.binds
  refine⟨(x,vf,.slice a n k)::qs,by simp[h1],λq hq=>?_,?_⟩
  ·rcases aaE.1 hq with rfl|hq
   ·exact⟨f2,⟨_,_,_,rfl⟩,h0.lo,h0.hi⟩
   ·exact h2 q hq
  ·intro j v hj;rw[aas]at hj
   by_cases Ao:j<5
   ·rw[aat (by rw[OO];exact Ao)]at hj
    match j,Ao,hj with
    |0,_,hj=>cases hj;exact h0.name
    |1,_,hj=>cases hj;exact h0.BR
    |2,_,hj=>cases hj;exact f1
    |3,_,hj=>cases hj;exact h0.elem
    |4,_,hj=>cases hj;exact hb
   ·rw[aay (by rw[OO];omega),OO]at hj;have:=h3 (j-5) v hj
    rwa[show o+5+(j-5)=o+j by omega]at this
theorem Om(qs:List Y7):(qs.flatMap Em).length=qs.length*5:=by
 induction qs with
 |nil=>rfl
 |cons q qs ih=>rw[aas,aah,ih,OO,aap];omega
theorem eW{W:CW}{v:Value}{qs:List Y7}(h:C' W 48 5 v (qs.flatMap Em))(hq:∀q,q∈qs→pe W q):At 5 (JZ W) v (qs.map (·.1)):=by
 have hl:=Om qs;generalize jn:qs.flatMap Em=cs at h;rw[jn]at hl
 cases h with
 |nil=>
  have:qs=[]:=aaF.1 (by simp at hl;omega);subst this;exact⟨none,0,rfl,λi x hx=>by cases hx⟩
 | @some b len _ hB dS=>
  have hlen:len=qs.length:=by omega
  refine⟨some ⟨b,0,none⟩,len,by rw[aau,hlen],λi x hx=>⟨_,rfl,?_⟩⟩;rw[aaK]at hx;obtain⟨q,h1,rfl⟩:=aaw.1 hx;have h2:=hB.cells;rw[←jn]at h2;exact(hq q (aai h1)).shp (QC OO qs 0 h2 i q h1)
theorem AID{W:CW}:∀{qs:List Y7},(∀q,q∈qs→pe W q)→(qs.flatMap Em).all BG=true
 |[],_=>rfl
 |q::qs,h=>by
  rw[aas,List.all_append,AID (W:=W) λy hy=>h y (by simp[hy]),abT];obtain⟨a,l,k,hb⟩:=(h q (by simp)).binds;obtain⟨a2,k2,hf,_⟩:=(h q (by simp)).fields;unfold Em;rw[hb,hf];rfl
theorem AKy:(prog.info? 48).map (·.bytes)=some 88:=by kernel_rfl
theorem eX(W:CW):W_ prog 22 0 [] W=some (.slice (some ⟨W.sz,0,none⟩) 0 0,W.new (.cells (Tr.nil.AS 0 []) 0 #[] 48)):=by kernel_rfl
theorem eY(W:CW)(a b c d e:Value):W_ prog 22 1 [(0,.agg #[a,b,c,d,e])] W=some (.slice (some ⟨W.sz,0,none⟩) 1 1,W.new (.cells (Tr.nil.AS 0 [a,b,c,d,e]) 5 #[] 48)):=by kernel_rfl
theorem bnd{n y d:Nat}(h:n≤y):bound (some (.int .i64 (n:Int))) d y=some n:=by
 simp only[bound];rw[show(decide ((0:Int)≤(n:Int))&&decide ((n:Int)≤(y:Int)))=true by simp;omega];simp
theorem Yw{a:Option Addr}{len cap k:Nat}(h1:k≤cap){W:CW}(MJ:ME W a 48=true):Sp prog 22 (.slice a len cap) none (some (.int .i64 k)) none W=some (.slice (cond (Nat.beq cap 0) a (a.map λa=>⟨a.block,a.off+0*5,none⟩)) k cap):=by
 have hbm:bound none cap cap=some cap:=rfl;have zJ:bound none 0 k=some 0:=rfl;unfold Sp;rw[Y1];simp only[NX,Y1,CS,ic,bnd h1,hbm,zJ,MJ];rw[show Nat.ble k cap=true from aan h1];rfl
theorem OP{a:Option Addr}{len cap k:Nat}(h1:k≤len)(h2:len≤cap){W:CW}(MJ:ME W a 48=true):Sp prog 22 (.slice a len cap) (some (.int .i64 k)) none none W=some (.slice (cond (Nat.beq cap k) a (a.map λa=>⟨a.block,a.off+k*5,none⟩)) (len-k) (cap-k)):=by
 have hbm:bound none cap cap=some cap:=rfl;have dS:bound none len cap=some len:=rfl;unfold Sp;rw[Y1];simp only[NX,Y1,CS,ic,bnd h1,hbm,dS,MJ];rw[show Nat.ble len cap=true from aan h2];rfl
theorem SV{A W:CW}(kA:Kp A W)(ht:Ag W){v:Value}{cs qs:List Y7}(hv:C' W 48 5 v (cs.flatMap Em))(hn:BZ A.sz v){a:Option Addr}{m cap:Nat}(hm:qs.length=m)(hq:∀q,q∈qs→pe W q)(VO:0<m→∃p,a=some p∧Cells W p.block p.off (qs.flatMap Em))(To:cs.length+qs.length≤1000){K:Value→CW→Prop}
  (hk:∀v1 W1,Kp A W1→Ag W1→C' W1 48 5 v1 ((cs++qs).flatMap Em)→BZ A.sz v1→LF v W W1→K v1 W1):Iw (app prog [22,22] v (.slice a m cap) W) K:=by
 refine ACn (news:=qs.flatMap Em) Y1 (by kernel_rfl) ic tN rfl (by omega) AKy (by omega) ht hv VO (AID hq) (by rw[Om,hm]) (by rw[Om];omega) λv1 W1 Lz t1 o1 n1=>?_;rw[←aa4]at o1;exact hk v1 W1 (Lz.kp kA hn) t1 o1 (n1 _ kA.sz hn) Lz
structure E7(e:Env)(v0 v2 vb vx:Value)(root gone r:Int)(b6:Nat):Prop where
 e0:e 0=v0
 e2:e 2=v2
 e3:e 3=.int .i64 root
 e4:e 4=.int .i64 gone
 e6:e 6=.pointer (some ⟨b6,0,none⟩)
 oc:e 11=vb
 e13:e 13=vx
 e14:e 14=.int .i64 r
theorem E7.put{e:Env}{v0 v2 vb vx:Value}{root gone r:Int}{b6:Nat}(h:E7 e v0 v2 vb vx root gone r b6){e':Env}(hA:DR [0,2,3,4,6,11,13,14] e e'):E7 e' v0 v2 vb vx root gone r b6 :=
 ⟨(hA 0 (by decide)).trans h.e0,(hA 2 (by decide)).trans h.e2,(hA 3 (by decide)).trans h.e3,(hA 4 (by decide)).trans h.e4,(hA 6 (by decide)).trans h.e6,(hA 11 (by decide)).trans h.oc,(hA 13 (by decide)).trans h.e13,(hA 14 (by decide)).trans h.e14⟩
structure C7(A:CW)(v0 v2 vb vx:Value)(b6:Nat)(c:List AV)(qm:Y7)(h:List BC)(root:Int)(b:List UInt8)(ts:List ByteArray)(xs:List BC):Prop where
 top:Ag A
 cat:At 5 (JZ A) v0 c
 el:N1 A 48 v0
 hp:At 2 (JC A) v2 h
 box:Cells A b6 0 (Em qm)
 om:pe A qm
 bs:Zj A vb b
 rd:At 2 (JC A) vx xs
 len:c.length≤12
 gs:∀x,x∈c→VS x
 gm:VS qm.1
 bC:h.length≤40
 hv:∀x,x∈h→x.AL.length<100000
 hz:Ja c [] h root=0
 B:xv c [] h root b ts xs
 bl:b.length≤100000
 xl:xs.length≤100000∧∀x,x∈xs→x.AL.length≤100000
theorem nX{W:CW}{b o:Nat}{xs ys:List Value}(h:Cells W b o (xs++ys)):Cells W b o xs:=λj v hj=>h j v (by rw[aat (aaa.1 hj).1];exact hj)
theorem je{W:CW}{b o:Nat}{xs ys:List Value}(h:Cells W b o (xs++ys)):Cells W b (o+xs.length) ys:=λj v hj=>by
 have:=h (xs.length+j) v (by rw[aay (by omega)];rw[show xs.length+j-xs.length=j by omega];exact hj)
 rwa[show o+xs.length+j=o+(xs.length+j) by omega]
theorem pf{A:CW}{a:Option Addr}{n cap:Nat}{c:List AV}(h:At 5 (JZ A) (.slice a n cap) c):∃qs:List Y7,qs.map (·.1)=c∧(∀q,q∈qs→pe A q)∧n=c.length∧(0<c.length→∃p,a=some p∧Cells A p.block p.off (qs.flatMap Em)):=by
 obtain⟨a',cap',he,hc⟩:=h
 cases he
 cases a with
 | none=>
  have:c=[]:=by
   cases c with
   |nil=>rfl
   |cons x c=>obtain⟨p,hp,_⟩:=hc 0 x rfl;cases hp
  subst this;exact⟨[],rfl,(λq hq=>by cases hq),rfl,λh=>by simp at h⟩
 | some p=>
  obtain⟨qs,h1,h2,h3⟩:=yi c p.off λi x hx=>by
   obtain⟨p',hp',hr⟩:=hc i x hx
   cases hp'
   exact hr
  exact⟨qs,h1,h2,rfl,λ_=>⟨p,rfl,h3⟩⟩
theorem ABF{n:Nat}(h:0<n):Nat.beq n 0=false:=by
 cases hb:Nat.beq n 0 with
 |false=>rfl
 |true=>have:=aab hb;omega
theorem jf{A W:CW}(ht:Ag A)(k:Kp A W){a:Option Addr}{c:List AV}{qs:List Y7}{cap i:Nat}(hl:qs.length=c.length)(hs:0<c.length→∃p,a=some p∧Cells A p.block p.off (qs.flatMap Em))(hi:i≤c.length)(Ie:c.length≤cap) :
  0<i→∃p,cond (Nat.beq cap 0) a (a.map λa=>⟨a.block,a.off+0*5,none⟩)=some p∧Cells W p.block p.off ((qs.take i).flatMap Em):=λh0=>by
 obtain⟨p,rfl,hc⟩:=hs (by omega);rw[ABF (by omega)];refine⟨⟨p.block,p.off+0*5,none⟩,rfl,?_⟩;rw[←abn i qs,aa4]at hc;have:=(nX hc).ext ht k;show Cells W p.block (p.off+0*5) _;rw[abl,aa6];exact this
theorem jg{A W:CW}(ht:Ag A)(k:Kp A W){a:Option Addr}{c:List AV}{qs:List Y7}{cap i:Nat}(hl:qs.length=c.length)(hs:0<c.length→∃p,a=some p∧Cells A p.block p.off (qs.flatMap Em))(hi:i≤c.length)(Ie:c.length≤cap) :
  0<c.length-i→∃p,cond (Nat.beq cap i) a (a.map λa=>⟨a.block,a.off+i*5,none⟩)=some p∧Cells W p.block p.off ((qs.drop i).flatMap Em):=λh0=>by
 obtain⟨p,rfl,hc⟩:=hs (by omega)
 have hb:Nat.beq cap i=false:=by
  cases hb:Nat.beq cap i with
  |false=>rfl
  |true=>have:=aab hb;omega
 rw[hb];refine⟨⟨p.block,p.off+i*5,none⟩,rfl,?_⟩;rw[←abn i qs,aa4]at hc;have:=(je hc).ext ht k;rw[Om,aaI,show min i qs.length=i by omega]at this;exact this
theorem OQ(W:CW):At 3 (XV W) (.slice none 0 0) []:=⟨none,0,rfl,λi x h=>by cases h⟩
theorem jh{c:List AV}{m:AV}(hl:c.length≤12)(hg:∀x,x∈c→VS x)(hm:VS m){d:List AV}(hdl:d.length≤13)(hd:∀x,x∈d→x∈c∨x=m):Ru d :=
 xo (by omega) λx hx=>(hd x hx).elim (hg x) λe=>by rw[e];exact hm
theorem ABG{A W:CW}{v0 v2 vb vx:Value}{b6:Nat}{c:List AV}{qm:Y7}{h:List BC}{root gone:Int}{b:List UInt8}{ts:List ByteArray}{xs:List BC}(X:C7 A v0 v2 vb vx b6 c qm h root b ts xs){e:Env}(kA:Kp A W)(ht:Ag W)(E:E7 e v0 v2 vb vx root gone (min (xs.length:Int) 1) b6){i:Nat}(iH:e 16=.int .i64 i)(hi:i≤c.length){KK:AB}
  (hk:∀e' W',Kp A W'→Ag W'→E7 e' v0 v2 vb vx root gone (min (xs.length:Int) 1) b6→(MV none KK) .normal e' [] W'):(lL none KK) .normal e [] W:=by
 obtain⟨a,cap,rfl,_⟩:=id X.cat;obtain⟨qs,jo,cN,_,VO⟩:=pf X.cat;have tc:qs.length=c.length:=by rw[←jo,aau]
 obtain⟨MJ,Ie⟩:=X.el _ _ _ rfl;have hlen:=X.len;have pg:∀{V:CW},Kp A V→ME V a 48=true:=λk=>(X.el.kp X.top k _ _ _ rfl).1;simp only[lL,BI,E.e0,E.e2,E.e3,E.e6,E.oc,E.e13,E.e14,iH];refine GL (eX W) ?_;have kq0:Kp W (W.new (.cells (Tr.nil.AS 0 []) 0 #[] 48)):=.new _;have tq0:=ht.new (.cells (Tr.nil.AS 0 []) 0 #[] 48);have oq0:(W.new (.cells (Tr.nil.AS 0 []) 0 #[] 48)).obj W.sz=some (.cells (Tr.nil.AS 0 []) 0 #[] 48):=by rw[A7,aad rfl]
 have sq0:(W.new (.cells (Tr.nil.AS 0 []) 0 #[] 48)).sz=W.sz+1:=rfl;generalize W.new (.cells (Tr.nil.AS 0 []) 0 #[] 48)=NN at kq0 tq0 oq0 sq0 ⊢;have tf:=kA.trans kq0;have ldm:∀{V:CW},Kp A V→ld prog 48 (.pointer (some ⟨b6,0,none⟩)) V=some (.agg (Em qm).toArray):=λk=>Bn a48 ic rfl (by omega) (X.box.ext X.top k);refine Ad (ldm tf) ?_;refine GL (eY NN _ _ _ _ _) ?_;have kq6:Kp NN (NN.new (.cells (Tr.nil.AS 0 (Em qm)) 5 #[] 48)):=.new _;have tq6:=tq0.new (.cells (Tr.nil.AS 0 (Em qm)) 5 #[] 48);have oq6:(NN.new (.cells (Tr.nil.AS 0 (Em qm)) 5 #[] 48)).obj NN.sz=some (.cells (Tr.nil.AS 0 (Em qm)) 5 #[] 48):=by rw[A7,aad rfl]
 have AE2:(NN.new (.cells (Tr.nil.AS 0 (Em qm)) 5 #[] 48)).obj W.sz=some (.cells (Tr.nil.AS 0 []) 0 #[] 48):=by rw[A7,aac (by omega)];exact oq0
 refine⟨⟨_,eX _,by rw[A7,aad rfl];exact oq0.symm⟩,?_⟩;show wV _ _;have es:(NN.new (.cells (Tr.nil.AS 0 (Em qm)) 5 #[] 48))=(NN.new (.cells (Tr.nil.AS 0 [.string qm.1.name,.string qm.1.BR,qm.2.1,.int .u8 qm.1.elem,qm.2.2]) 5 #[] 48)):=rfl;rw[←es];generalize NN.new (.cells (Tr.nil.AS 0 (Em qm)) 5 #[] 48)=tI at kq6 tq6 oq6 AE2 ⊢;have yj:=tf.trans kq6;refine Ad (Yw (by omega) (pg yj)) ?_;have QJ:Aq tI W.sz 48 []:=⟨_,_,_,AE2,rfl,λk w hw=>by cases hw⟩
 refine SV (cs:=[]) (qs:=qs.take i) yj tq6 (C'.some QJ rfl) (Tp kA.sz) (by rw[aaI];omega) (λq hq=>(cN q (abi hq)).kp X.top yj) (jf X.top yj tc VO hi Ie) (by rw[aaP,aaI];omega) λtK W7 kA7 t7 o7 n7 p7=>?_;refine Ad (ldm kA7) ?_
 have o67:W7.obj NN.sz=some (.cells (Tr.nil.AS 0 (Em qm)) 5 #[] 48):=by
  rw[p7.obj _ (tq6 _ _ oq6) (λb l c e=>by cases e;show NN.sz≠W.sz;omega)];exact oq6
 refine⟨⟨_,eY _ _ _ _ _ _,by rw[A7,aad rfl];exact oq6.symm⟩,?_⟩
 have Ms:Cells W7 NN.sz 0 (Em qm):=by
  have:Aq W7 NN.sz 48 (Em qm):=⟨_,_,_,o67,rfl,λk w hw=>by
   rw[B6 _ _ _ (aaa.1 hw).1,aaj,hw];rfl⟩
  exact this.cells
 refine SV (qs:=[qm]) kA7 t7 o7 n7 rfl (λq hq=>by rw[dx.1 hq];exact X.om.kp X.top kA7) (λ_=>⟨_,rfl,by rw[aas,acB,aaR];exact Ms⟩) (by simp;omega) λtM W8 xV t8 o8 n8 p8=>?_;refine Ad (OP hi Ie (pg xV)) ?_;refine SV (qs:=qs.drop i) xV t8 o8 n8 (by rw[abN];omega) (λq hq=>(cN q (abD hq)).kp X.top xV) (jg X.top xV tc VO hi Ie) (by simp;omega) λJX W9 kA9 t9 o9 n9 _=>?_;refine⟨⟨⟨trivial,OP hi Ie (pg xV),OP hi Ie (pg kA7),OP hi Ie (pg yj)⟩,⟨trivial,trivial,ldm kA7,ldm yj⟩,⟨trivial,trivial,trivial,Yw (by omega) (pg yj)⟩,trivial⟩,⟨⟨trivial,trivial,trivial,_,_,_,AE2,oq0⟩,⟨trivial,trivial,⟨_,_,_,o67,oq6⟩,⟨_,_,_,oq6,oq6⟩⟩,trivial⟩,?_⟩
 have bB:=eW o9 (λq hq=>by
  simp only[abf,aaB,dx]at hq
  rcases hq with(hq|hq)|hq
  ·exact(cN q (abi hq)).kp X.top kA9
  ·rw[hq];exact X.om.kp X.top kA9
  ·exact(cN q (abD hq)).kp X.top kA9)
 have hd:(((([]:List Y7)++qs.take i)++[qm])++qs.drop i).map (·.1)=c.take i++[qm.1]++c.drop i:=by
  simp only[abf,aa5,List.map_take,acZ,abr,List.map_nil,jo]
 rw[hd]at bB
 have B0:c.Sublist (c.take i++[qm.1]++c.drop i):=by
  have:c=c.take i++c.drop i:=(abn i c).symm
  conv=>lhs;rw[this]
  exact(List.sublist_append_left _ _).append (List.Sublist.refl _)
 have hdl:(c.take i++[qm.1]++c.drop i).length≤13:=by simp;omega
 have hdm:∀x,x∈c.take i++[qm.1]++c.drop i→x∈c∨x=qm.1:=λx hx=>by
  simp only[aaB,dx]at hx
  rcases hx with(hx|hx)|hx
  ·exact .inl (abi hx)
  ·exact .inr hx
  ·exact .inl (abD hx)
 generalize c.take i++[qm.1]++c.drop i=d at bB B0 hdl hdm;have hC:=jh hlen X.gs X.gm hdl hdm;refine Rt (Yu t9 bB hC) λW10 k10 t10=>?_;have ss:=kA9.trans k10;simp only[BJ,AA]
 cases eZ:Az d with
 |false=>
  simp only[aac (show¬(false=true) by simp),show((210:Int)==0)=false from rfl,AZ];exact hk _ _ ss t10 (E.put (.put rfl))
 | true=>
  simp only[aad,beq_self_eq_true,BB];have hs:∀s,(Ah c s).isSome=true→IB c d s:=λs h=>bV B0 eZ X.B.ok h;have Ig:∀s,s∈ts→IB c d s:=λs h=>hs s (WN.1 (X.B.can.sym s h).2);have j3:=bX X.B.can X.B.enc X.bl eZ Ig;refine(UA t10 (bB.imp λ_ _ _ hr=>hr.kp t9 k10) hC (OQ _) (by simp) (λs h=>by cases h) (X.bs.kp X.top ss)).mono λen W11 ⟨k11,t11,y,ps,FN,hH,td,Zm⟩=>?_;rw[j3]at FN td;subst FN;refine AP ?_;refine Ad (eI _ _ _) ?_;refine Ad (eJ _ _ _) ?_;refine Ad (eK _ _ _) ?_;have AIE:=ss.trans k11
  have hry:At 2 (JC W11) y xs:=by
   have:=YH hH Zm;rw[td]at this;exact this
  have Nn:=nU hs eZ X.B.wr X.hz;refine(YA t11 (bB.imp λ_ _ _ hr=>hr.kp t9 (k10.trans k11)) hC (OQ _) (by simp) (λs h=>by cases h) (X.hp.imp λ_ _ _ hr=>hr.kp X.top AIE) (by have:=X.bC;omega) (.inl X.bC) X.hv).mono λen yx ⟨ZW,t12,w,FN,how⟩=>?_;rw[Nn]at FN how;subst FN;refine AP ?_;refine Ad (BV _ _) ?_;refine Ad (BW _ _) ?_;have AE3:=AIE.trans ZW;simp only[CM,AA,show((0:Int) !=0)=false from rfl,AZ,bne_self_eq_false];refine(U9 (X.rd.imp λ_ _ _ hr=>hr.kp X.top AE3) (hry.imp λ_ _ _ hr=>hr.kp t11 ZW) X.xl.1 X.xl.2).mono λen Vz ⟨FN,hW⟩=>?_;subst FN;subst hW;refine AP ?_;simp only[AW,AA,aav,AZ];rw[AAl how,bD (X.bs.kp X.top AE3).is];simp only[AA,OZ];rw[xq,show strOf b=⟨b.toArray⟩from rfl,Ln];simp only[P8,BI];simp only[AG,↓reduceIte,aav,AZ];exact hk _ _ AE3 t12 (E.put (.put rfl))
theorem ABH{c:List AV}{g:Nat}{x y:AV}(hy:c[g]?=some y)(hx:x∈c):x∈c.take g++c.drop (g+1)∨x=y:=by
 obtain⟨i,hi⟩:=List.mem_iff_getElem?.1 hx
 rcases Nat.lt_trichotomy i g with h|h|h
 ·exact .inl (ab6 _ (aai (i:=i) (by rw[aaW,aad h];exact hi)))
 ·subst h;rw[hi]at hy;cases hy;exact .inr rfl
 ·exact .inl (List.mem_append_right _ (aai (i:=i-(g+1)) (by rw[abv,show g+1+(i-(g+1))=i by omega];exact hi)))
theorem ABI{A W:CW}{v0 v2 vb vx:Value}{b6:Nat}{c:List AV}{qm:Y7}{h:List BC}{root:Int}{b:List UInt8}{ts:List ByteArray}{xs:List BC}(X:C7 A v0 v2 vb vx b6 c qm h root b ts xs){e:Env}(kA:Kp A W)(ht:Ag W){g:Nat}(E:E7 e v0 v2 vb vx root (g:Nat) (min (xs.length:Int) 1) b6)(hg:g<c.length){KK:AB}
  (It:∀(e':Env) W',e' 10=.bool true→KK .ret e' [] W'):(TS none KK) .normal e [] W:=by
 have ib:=X.cat;obtain⟨a,cap,rfl,A5⟩:=id X.cat;obtain⟨qs,jo,cN,_,VO⟩:=pf X.cat;have tc:qs.length=c.length:=by rw[←jo,aau]
 obtain⟨MJ,Ie⟩:=X.el _ _ _ rfl;have hlen:=X.len;have pg:∀{V:CW},Kp A V→ME V a 48=true:=λk=>(X.el.kp X.top k _ _ _ rfl).1;have inc:IntKind.i64.wrap ((g:Int)+1)=((g+1:Nat):Int):=Dy (by omega);simp only[gR,BI,E.e0,E.e4,E.oc,E.e13,E.e14];refine GL (eX W) ?_;have kq0:Kp W (W.new (.cells (Tr.nil.AS 0 []) 0 #[] 48)):=.new _;have tq0:=ht.new (.cells (Tr.nil.AS 0 []) 0 #[] 48);have oq0:(W.new (.cells (Tr.nil.AS 0 []) 0 #[] 48)).obj W.sz=some (.cells (Tr.nil.AS 0 []) 0 #[] 48):=by rw[A7,aad rfl]
 generalize W.new (.cells (Tr.nil.AS 0 []) 0 #[] 48)=W10 at kq0 tq0 oq0 ⊢;have tf:=kA.trans kq0;refine Ad (Yw (by omega) (pg tf)) ?_;have QJ:Aq W10 W.sz 48 []:=⟨_,_,_,oq0,rfl,λk w hw=>by cases hw⟩
 refine SV (cs:=[]) (qs:=qs.take g) tf tq0 (C'.some QJ rfl) (Tp kA.sz) (by rw[aaI];omega) (λq hq=>(cN q (abi hq)).kp X.top tf) (jf X.top tf tc VO (by omega) Ie) (by rw[aaP,aaI];omega) λAL3 W11 kA1 t1 o1 n1 _=>?_;simp only[AO,AA,inc];refine Ad (OP (by omega) Ie (pg kA1)) ?_;refine SV (qs:=qs.drop (g+1)) kA1 t1 o1 n1 (by rw[abN];omega) (λq hq=>(cN q (abD hq)).kp X.top kA1) (jg X.top kA1 tc VO (by omega) Ie) (by simp;omega) λAKz yx X_ t2 o2 n2 _=>?_;refine⟨⟨⟨trivial,OP (by omega) Ie (pg kA1),OP (by omega) Ie (pg tf),OP (by omega) Ie (pg kA)⟩,⟨trivial,trivial,Yw (by omega) (pg tf),Yw (by omega) (pg kA)⟩,trivial⟩,trivial,?_⟩
 have ph:=eW o2 (λq hq=>by
  simp only[abf,aaB]at hq
  rcases hq with hq|hq
  ·exact(cN q (abi hq)).kp X.top X_
  ·exact(cN q (abD hq)).kp X.top X_)
 have hd:((([]:List Y7)++qs.take g)++qs.drop (g+1)).map (·.1)=c.take g++c.drop (g+1):=by
  simp only[abf,aa5,List.map_take,acZ,jo]
 rw[hd]at ph;have hy:=ck hg;have M0:∀x,x∈c→x∈c.take g++c.drop (g+1)∨x=c[g]:=λx hx=>ABH hy hx
 have B0:(c.take g++c.drop (g+1)).Sublist c:=by
  have:c=c.take g++c.drop g:=(abn g c).symm
  conv=>rhs;rw[this]
  exact(List.Sublist.refl _).append (List.drop_sublist_drop_left _ (by omega))
 have hdl:(c.take g++c.drop (g+1)).length≤13:=by simp;omega
 generalize c.take g++c.drop (g+1)=d at ph B0 hdl M0;have hC:Ru d:=jh hlen X.gs X.gm hdl λx hx=>.inl (B0.subset hx);refine Rt (Yu t2 ph hC) λVz wc t13=>?_;have kA3:=X_.trans wc;simp only[CM,AA]
 cases eZ:Az d with
 |false=>
  simp only[aac (show¬(false=true) by simp),show((210:Int) !=0)=true from rfl,BB];refine HJ bO UF ?_;refine AP ?_;exact It _ _ rfl
 |true=>
 simp only[aad,bne_self_eq_false,AZ];have O5:∀s,(Ah d s).isSome=true→IB c d s:=λs hs=>(bV B0 X.B.ok eZ hs).symm;have PN:=(ph.imp λ_ _ _ hr=>hr.kp t2 wc:At 5 (JZ Vz) AKz d)
 refine(nW t13 PN hC (X.bs.kp X.top kA3)).mono λen oz ⟨k17,t17,vn,FN,NT,_⟩=>?_;rw[yh X.B.can X.B.enc X.bl eZ]at FN NT;subst FN;refine AP ?_;refine Ad (BV _ _) ?_;refine Ad (BW _ _) ?_;have kA4:=kA3.trans k17;refine(UA t17 (PN.imp λ_ _ _ hr=>hr.kp t13 k17) hC (OQ _) (by simp) (λs h=>by cases h) (X.bs.kp X.top kA4)).mono λen W19 ⟨k19,t19,y,ps,FN,hH,td,Zm⟩=>?_;have kA5:=kA4.trans k19;have NT:=NT.kp t17 k19
 by_cases Bv:∀s,s∈ts→(Ah d s).isSome=true
 ·rw[bX X.B.can X.B.enc X.bl eZ λs hs=>O5 s (Bv s hs)]at FN td;rw[sr Bv]at NT;subst FN;refine AP ?_;refine Ad (eI _ _ _) ?_;refine Ad (eJ _ _ _) ?_;refine Ad (eK _ _ _) ?_
  have hry:At 2 (JC W19) y xs:=by
   have:=YH hH Zm;rw[td]at this;exact this
  simp only[CM,AA,bne_self_eq_false,AZ];rw[Oi NT];simp only[AA,BJ,aaP,show(((0:Nat):Int)==0)=true from rfl,BB];refine HJ bO UF ?_;refine AP ?_;simp only[BB,beq_self_eq_true];refine(U9 (X.rd.imp λ_ _ _ hr=>hr.kp X.top kA5) hry X.xl.1 X.xl.2).mono λen W28 ⟨FN,hW⟩=>?_;subst FN;subst hW;refine AP ?_;simp only[P7,gQ,TR,BI,NP];exact It _ _ rfl
 ·have AIF:∃s,s∈ts∧Ah d s=none:=by
   refine abJ λH0=>Bv λs hs=>?_
   cases hq:Ah d s with
   |some j=>rfl
   |none=>exact(H0 ⟨s,hs,hq⟩).elim
  have PF:∀s,s∈ts→(Ah d s).isSome=true∨s=(c[g]).name:=λs hs=>by
   obtain⟨j,hj⟩:=aa8.1 (WN.1 (X.B.can.sym s hs).2);obtain⟨x,hx,hn⟩:=eU hj
   rcases M0 x (aai hx)with q|q
   ·obtain⟨j',h1,_⟩:=eV eZ q;rw[hn]at h1;exact .inl (by rw[h1];rfl)
   ·subst q;exact .inr hn.symm
  obtain⟨n,NV,Nd⟩:=AIF;have ak:n=(c[g]).name:=(PF n NV).resolve_left (by rw[Nd];simp);rw[nV X.B.can X.B.enc X.bl eZ ⟨n,NV,Nd⟩]at FN;rw[ak]at NV Nd;rw[jd Nd X.B.can.nodup NV PF]at NT;subst FN;refine AP ?_;refine Ad (eI _ _ _) ?_;refine Ad (eJ _ _ _) ?_;refine Ad (eK _ _ _) ?_;simp only[CM,AA,bne_self_eq_false,AZ];rw[Oi NT];simp only[AA,BJ,aap,aaP,show(((0+1:Nat):Int)==0)=false from rfl,AZ];simp only[gQ,BI];refine HJ bO UF ?_;refine AP ?_;simp only[AG,AN,Nat.reduceEqDiff,↓reduceIte,BB,BJ,AA,E.e0,E.e4,beq_self_eq_true];rw[Oi NT];simp only[AA,BJ,aap,aaP,show(((0+1:Nat):Int)==1)=true from rfl,BB];obtain⟨p,rfl,hr⟩:=A5 g _ hy;have hr:=hr.kp X.top kA5;generalize D1:strs [(c[g]).name]=cs at NT
  cases NT with
  |nil=>cases D1
  | @some bn len _ hB hl=>
  subst D1;have AIH:len=1:=by simp[strs]at hl;omega
  subst AIH;have e1:lD prog 51 (.slice (some ⟨bn,0,none⟩) 1 1) (.int .i64 0)=some (.pointer (some ⟨bn,0,none⟩)):=Ay gX s9 (i:=0) (by omega);have e2:ld prog 9 (.pointer (some ⟨bn,0,none⟩)) W19=some (.string (c[g]).name):=AD a9 (a:=⟨bn,0,none⟩) (hB.cell (k:=0) rfl);have e3:ld prog 9 (.pointer (some ⟨p.block,p.off+g*5,none⟩)) W19=some (.string (c[g]).name):=AD a9 (a:=⟨p.block,p.off+g*5,none⟩) hr.name;rw[Ay Y1 jx hg];simp only[e1,AA,e2,Md,e3,Tn,Ln];refine⟨⟨⟨trivial,trivial⟩,⟨trivial,trivial⟩,⟨trivial,trivial⟩,trivial⟩,trivial,?_⟩;simp only[TR,BI];exact It _ _ rfl
theorem ABJ{A:CW}{v0 v2 vb vx:Value}{b6:Nat}{c:List AV}{qm:Y7}{h:List BC}{root gone:Int}{b:List UInt8}{ts:List ByteArray}{xs:List BC}(X:C7 A v0 v2 vb vx b6 c qm h root b ts xs){e:Env}(E:E7 e v0 v2 vb vx root gone (min (xs.length:Int) 1) b6)(iH:e 16=.int .i64 0){KK:AB}
  (hk:∀(e':Env) (i:Nat),E7 e' v0 v2 vb vx root gone (min (xs.length:Int) 1) b6→e' 16=.int .i64 i→i≤c.length→KK (.exit 0) e' [] A):Gi prog Bf none 7 214 (.loop (GB prog 7 0)) e [] A KK:=by
 have hlen:=X.len;refine EZ (λi e' FG W'=>FG=[]∧W'=A∧E7 e' v0 v2 vb vx root gone (min (xs.length:Int) 1) b6∧e' 16=.int .i64 i) c.length ⟨rfl,rfl,E,iH⟩ ?_;rintro i e ds W hi ⟨rfl,rfl,E,iH⟩;obtain⟨a,cap,tE,A5⟩:=id X.cat;rw[AFu,E.e0,E.e6,iH,Mv Y1 X.cat];simp only[AA,Af]
 refine Hx (λAo=>?_) (λJi=>?_)
 ·have hx:=ck Ao;obtain⟨p,rfl,hr⟩:=A5 i _ hx;rw[tE,Ay Y1 jx Ao];have em:ld prog 9 (.pointer (some ⟨b6,0,none⟩)) W=some (.string qm.1.name):=AD a9 (a:=⟨b6,0,none⟩) (X.box 0 _ rfl);simp only[AA,Md,AD a9 (a:=⟨p.block,p.off+i*5,none⟩) hr.name,em,aI];refine⟨⟨trivial,trivial,trivial,trivial⟩,trivial,?_⟩;simp only[dD,gV,BI,Oy,IW,QV];simp only[AG,AN,Nat.reduceEqDiff,↓reduceIte]
  refine AH (λhb=>?_) (λhb=>?_)
  ·simp only[iH,AO,AA];rw[Dy (by omega)];exact⟨Ao,trivial,trivial,⟨by simp only[AG,AN,Nat.reduceEqDiff,↓reduceIte,E.e0,tE],by simp only[AG,AN,Nat.reduceEqDiff,↓reduceIte,E.e2],by simp only[AG,AN,Nat.reduceEqDiff,↓reduceIte,E.e3],by simp only[AG,AN,Nat.reduceEqDiff,↓reduceIte,E.e4],by simp only[AG,AN,Nat.reduceEqDiff,↓reduceIte,E.e6],by simp only[AG,AN,Nat.reduceEqDiff,↓reduceIte,E.oc],by simp only[AG,AN,Nat.reduceEqDiff,↓reduceIte,E.e13],by simp only[AG,AN,Nat.reduceEqDiff,↓reduceIte,E.e14]⟩,by simp only[AG]⟩
  ·exact hk _ i (E.put (.put rfl)) (by simp only[AG,AN,Nat.reduceEqDiff,↓reduceIte,iH]) hi
 ·refine⟨⟨trivial,trivial⟩,trivial,?_⟩;simp only[dD,gV,BI,Oy,IW,QV];simp only[AG,AN,Nat.reduceEqDiff,↓reduceIte,AZ];exact hk _ i (E.put (.put rfl)) (by simp only[AG,AN,Nat.reduceEqDiff,↓reduceIte,iH]) hi
structure tk(W:CW)(v0 v2:Value)(c:List AV)(qm:Y7)(h:List BC):Prop where
 top:Ag W
 cat:At 5 (JZ W) v0 c
 el:N1 W 48 v0
 om:pe W qm
 hp:At 2 (JC W) v2 h
 hlm:h.length≤maxLen
theorem WO{W:CW}{v0 v2:Value}{c:List AV}{qm:Y7}{h:List BC}{root gone:Int}(A:tk W v0 v2 c qm h):AX prog Bf 7 [v0,.agg (Em qm).toArray,v2,.int .i64 root,.int .i64 gone] W xp:=by
 refine AIt ?_;rw[AIs];generalize Hm:AQ prog Tryz.f7 xp=KK
 have It:∀(e:Env) W',e 10=.bool true→KK .ret e [] W':=by
  intro e W' R4;rw[←Hm,vH,R4];rfl
 have skip:∀(e:Env) W',e 47=.bool true→(MX none KK) .normal e [] W':=by
  intro e W' h47;simp only[gU,BI,h47,BB];refine HJ bO UF ?_;refine AP ?_;simp only[gT,NP];exact It _ W' rfl
 refine Fy ic A.top λW0 k0 t0 z0 hB=>?_;have AII:Cells W0 W.sz 0 (Em qm):=hB.cells;have AK0:=(A.cat.imp λ_ _ _ hr=>hr.kp A.top k0:At 5 (JZ W0) v0 c)
 have U':=(A.hp.imp λ_ _ _ hr=>hr.kp A.top k0:At 2 (JC W0) v2 h)
 refine(U8 AK0).mono λen W1 ⟨hW,b13,he,AK1⟩=>?_;subst hW;subst he;refine AP ?_;simp only[AW,AA]
 cases b13 with
 |false=>exact skip _ _ rfl
 |true=>
 simp only[aav,AZ];refine(jF U' A.hlm).mono λen W2 ⟨hW,b15,he,AK2⟩=>?_;subst hW;subst he;refine AP ?_;simp only[AW,AA]
 cases b15 with
 |false=>exact skip _ _ rfl
 |true=>
 simp only[aav,AZ];have ldm:ld prog 48 (.pointer (some ⟨W.sz,0,none⟩)) W2=some (.agg (Em qm).toArray):=Bn a48 ic rfl (by omega) AII;refine Ad ldm ?_;refine GL (eY W2 _ _ _ _ _) ?_;have k3:Kp W2 (W2.new (.cells (Tr.nil.AS 0 (Em qm)) 5 #[] 48)):=.new _;have t3:=t0.new (.cells (Tr.nil.AS 0 (Em qm)) 5 #[] 48);have o3:(W2.new (.cells (Tr.nil.AS 0 (Em qm)) 5 #[] 48)).obj W2.sz=some (.cells (Tr.nil.AS 0 (Em qm)) 5 #[] 48):=by rw[A7,aad rfl]
 have es:(W2.new (.cells (Tr.nil.AS 0 (Em qm)) 5 #[] 48))=(W2.new (.cells (Tr.nil.AS 0 [.string qm.1.name,.string qm.1.BR,qm.2.1,.int .u8 qm.1.elem,qm.2.2]) 5 #[] 48)):=rfl;rw[←es];generalize W2.new (.cells (Tr.nil.AS 0 (Em qm)) 5 #[] 48)=W3 at k3 t3 o3 ⊢;have mc:=k0.trans k3
 have AK3:C' W3 48 5 (.slice (some ⟨W2.sz,0,none⟩) 1 1) ([qm].flatMap Em):=by
  rw[aas,acB,aaR]
  exact C'.some ⟨_,_,_,o3,rfl,λk w hw=>by
   rw[B6 _ _ _ (aaa.1 hw).1,aaj,hw];rfl⟩ rfl
 have om3:pe W3 qm:=A.om.kp A.top mc;refine(U8 (eW AK3 λq hq=>by rw[dx.1 hq];exact om3)).mono λen W4 ⟨hW,bm,he,hbm⟩=>?_;subst hW;subst he;refine AP ?_;simp only[AW,AA]
 cases bm with
 |false=>exact skip _ _ rfl
 |true=>
 simp only[aav,AZ];obtain⟨c1,c2⟩:=AK1 rfl;obtain⟨t1,t2,t4⟩:=AK2 rfl;obtain⟨_,m2⟩:=hbm rfl;have gm:VS qm.1:=m2 _ (by simp);have hC:=xo c1 c2;have AIJ:=(A.cat.imp λ_ _ _ hr=>hr.kp A.top mc:At 5 (JZ W4) v0 c)
 have hp4:=(A.hp.imp λ_ _ _ hr=>hr.kp A.top mc:At 2 (JC W4) v2 h)
 rw[Mv Y1 AIJ];simp only[AA,Bt]
 by_cases du:(c.length:Int)>12
 ·exact skip _ _ (by simp only[AG,↓reduceIte,decide_eq_true du])
 have hlen:c.length≤12:=by omega
 simp only[gU,BI];simp only[AG,↓reduceIte,decide_eq_false du,AZ];simp only[gT,BI];simp only[AG,AN,jv,Nat.reduceEqDiff,↓reduceIte,jw,vT,aK];refine(YA t3 AIJ hC (OQ _) (by simp) (λs hs=>by cases hs) hp4 (by omega) (t1.imp_right .inl) (λx hx=>by have:=t4 x hx;omega)).mono λen W5 ⟨k5,t5,v17,he,AIK⟩=>?_;subst he;refine AP ?_;refine Ad (BV _ _) ?_;refine Ad (BW _ _) ?_
 rcases mq (c:=c) (l:=[]) (h:=h) (root:=root)with⟨x,hx,hw⟩|⟨hz,_,hw⟩
 ·rw[hw];simp only[CM,AA,show(x !=0)=true by simpa using hx,BB];refine HJ bO UF ?_;refine AP ?_;exact It _ _ rfl
 have bC:h.length≤40:=by
  have:=(IL (IP hz).2.2.1).1;omega
 obtain⟨b,B⟩:=xw hz bC hw;rw[B.wr]at AIK ⊢;have hbs:=AEI AIK;simp only[CM,AA,bne_self_eq_false,AZ];have dS:b.length≤100000:=sL hz bC hw B;have k05:=mc.trans k5;refine(UA t5 (A.cat.imp λ_ _ _ hr=>hr.kp A.top k05) hC (OQ _) (by simp) (λs hs=>by cases hs) hbs).mono λen W6 ⟨k6,t6,v,qs,he,hH,hq,Zm⟩=>?_;have j3:=U7 B.ok B.sp B.can B.enc (m:=[]) (by simpa using dS);rw[aaR,aad rfl,UJ]at j3;obtain⟨p1,_,_,_,_⟩:=iu B.ok B.sp B.can;obtain⟨_,_,hF,_⟩:=OE hz bC
 have hxl:(IQ c [] h (Au c [] h root)).length≤40:=by
  unfold IQ;rw[aau,OD rfl λv hv=>⟨hF.low v hv,hF.high v hv⟩];have:=hF.len;omega
 generalize IQ c [] h (Au c [] h root)=xs at j3 p1 hxl B;rw[UJ]at p1;rw[j3]at he hq;subst he
 have LN:At 2 (JC W6) v xs:=by
  have:=YH hH Zm;rw[hq]at this;exact this
 obtain⟨_,_,AK4,_,_⟩:=IP p1;obtain⟨_,AK5⟩:=IL AK4
 have hyv:∀x,x∈xs→x.AL.length≤100000:=λx hx=>by
  obtain⟨i,s,T⟩:=FV (AK5 x hx);have:=dV hC T.many;omega
 refine AP ?_;refine Ad (eI _ _ _) ?_;refine Ad (eJ _ _ _) ?_;refine Ad (eK _ _ _) ?_;simp only[CM,AA,bne_self_eq_false,AZ];have k06:=k05.trans k6;have k16:=(k3.trans k5).trans k6
 have X:C7 W6 v0 v2 v17 v W.sz c qm h root b _ xs :=
  ⟨t6,A.cat.imp λ_ _ _ hr=>hr.kp A.top k06,A.el.kp A.top k06,A.hp.imp λ_ _ _ hr=>hr.kp A.top k06,AII.ext t0 k16,A.om.kp A.top k06,hbs.kp t5 k6,LN,hlen,c2,gm,bC,(λx hx=>by have:=t4 x hx;omega),hz,B,dS,by omega,hyv⟩
 refine ABJ (gone:=gone) X ⟨by simp only[AG,AN,jv,Nat.reduceEqDiff,↓reduceIte,jw,aK],by simp only[AG,AN,jv,Nat.reduceEqDiff,↓reduceIte,jw,vT,aK],by simp only[AG,AN,jv,Nat.reduceEqDiff,↓reduceIte,jw,vT,aK],by simp only[AG,AN,jv,Nat.reduceEqDiff,↓reduceIte,jw,vT,aK],by simp only[AG,AN,Nat.reduceEqDiff,↓reduceIte],by simp only[AG,Nat.reduceEqDiff,↓reduceIte],by simp only[AG,Nat.reduceEqDiff,↓reduceIte],by simp only[AG,Nat.reduceEqDiff,↓reduceIte]⟩ (by simp only[AG,↓reduceIte]) λe' i E iH hi=>?_;simp only[IJ,aaA];refine ABG X (.refl _) t6 E iH hi λe2 W7 k7 t7 E2=>?_;simp only[vG,BI,E2.e4,E2.e0,Af,AA]
 have kept:∀(e:Env) W',e 144=.bool true→(dB none KK) .normal e [] W':=by
  intro e W' AK6;simp only[gS,BI,AK6,BB];refine HJ bO UF ?_;refine AP ?_;simp only[gR,NP];exact It _ W' rfl
 refine AH (λhb=>?_) (λhb=>?_)
 ·rw[hb];exact kept _ _ rfl
 ·have hg0:0≤gone:=by have:=of_decide_eq_false hb;omega
  obtain⟨g,rfl⟩:=Int.eq_ofNat_of_zero_le hg0;rw[Mv Y1 (X.cat.imp λ_ _ _ hr=>hr.kp t6 k7)];simp only[AA,CC]
  by_cases hgl:(g:Int)≥(c.length:Int)
  ·exact kept _ _ (by simp only[AG,↓reduceIte,decide_eq_true hgl])
  ·simp only[gS,BI];simp only[AG,↓reduceIte,decide_eq_false hgl,AZ];exact ABI X k7 t7 (E2.put (.put rfl)) (by omega) It
theorem AIL(cs:List Value):St prog 48 cs=.agg cs.toArray:=by kernel_rfl
theorem AIM{l:List Value}(h:l.length=5){a b c d e:Value}(h0:l[0]?=some a)(h1:l[1]?=some b)(h2:l[2]?=some c)(h3:l[3]?=some d)(h4:l[4]?=some e):l=[a,b,c,d,e]:=by
 match l,h with
 |[x0,x1,x2,x3,x4],_=>
  cases h0;cases h1;cases h2;cases h3;cases h4
  rfl
theorem ABr{m:Nat}{W:CW}{cs:List Value}(h:CT prog (m+1) 48 W cs):∃qm:Y7,St prog 48 cs=.agg (Em qm).toArray∧pe W qm:=by
 obtain⟨fs,hu⟩:∃fs,prog.underlying 48=some (.struct fs):=⟨match prog.underlying 48 with|some (.struct fs)=>fs|_=>#[],by kernel_rfl⟩
 have hl:cs.length=5:=by
  have h':=h;simp only[CT,hu]at h';rw[h'.1,te]
 obtain⟨v0,g0,l0⟩:=Gz (ty:=9) (off:=0) (by kernel_rfl) te c9 (by omega) h;obtain⟨v1,g1,l1⟩:=Gz (ty:=9) (off:=1) (by kernel_rfl) te c9 (by omega) h;obtain⟨v2,g2,l2⟩:=Gz (ty:=45) (off:=2) (by kernel_rfl) te c45 (by omega) h;obtain⟨v3,g3,l3⟩:=Gz (ty:=5) (off:=3) (by kernel_rfl) te c5 (by omega) h;obtain⟨v4,g4,l4⟩:=Gz (ty:=46) (off:=4) (by kernel_rfl) te c46 (by omega) h;obtain⟨s0,rfl,_⟩:=l0.string u9;obtain⟨s1,rfl,_⟩:=l1.string u9;obtain⟨fl,M4,_⟩:=jA l2;obtain⟨x,rfl,hx⟩:=l3.int ut5;obtain⟨x1,x2⟩:=wf_u8 hx;obtain⟨e,he⟩:=u46
 have hb:∃a l k,v4=.slice a l k:=by
  rcases l4.slice he with rfl|rfl|⟨k,len,cap,f,m,rfl,_⟩<;>exact⟨_,_,_,rfl⟩
 refine⟨(⟨s0,s1,fl,x⟩,v2,v4),?_,⟨M4,hb,x1,x2⟩⟩;rw[AIL,AIM hl g0 g1 g2 g3 g4];rfl
end Go.Ce
