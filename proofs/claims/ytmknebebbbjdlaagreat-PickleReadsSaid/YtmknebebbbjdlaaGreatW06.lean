/- A part of the proof: Ve, ShY, Ya, Yb, Yq, Yc, Yp, Yd, Ye, ShX1, Yf, Xi, Xj, ShW, Uf, Vf, Vg, Xk, Xl, Tj. -/
import Derived.Test.YtmknebebbbjdlaaGreatW02
import Derived.Test.YtmknebebbbjdlaaGreatW03
import Derived.Test.YtmknebebbbjdlaaGreatW05
import Derived.Test.YtmknebebbbjdlaaGreatProg
set_option linter.unusedSectionVars false
set_option linter.unusedVariables false
set_option linter.unusedSimpArgs false
set_option linter.defProp false
set_option maxRecDepth 200000
namespace Go.Ce
open Go Go.Proofs Go.Proofs.Tryz
structure QI(a0 Fj a hi:Int)(m:List Int):Prop where
 l:Std a0 a m
 r:Std hi Fj m
 lx:∀x y,a0≤x→x<a→a≤y→y<Fj→at_ m x≤at_ m y
 xr:∀x y,a0≤x→x<hi→hi≤y→y<Fj→at_ m x≤at_ m y
 pre:0<a→∀x,a≤x→x<hi→at_ m (a-1)≤at_ m x
section
variable {a0 Fj a hi FU:Int}{m m2:List Int}
theorem QI.sw(h:QI a0 Fj a hi m)(h0:0≤a0)(h1:a0≤a)(h2:hi≤Fj)(hl:Fj≤m.length)(s:SW a hi m m2)(sj:a≤hi):QI a0 Fj a hi m2:=by
 have out:=λk (hk:0≤k) (hk':k<a∨hi≤k)=>s.out (by omega) (by omega) hk hk';have all:=λ(P:Int→Prop) hp=>s.all (P:=P) (by omega) (by omega) hp
 refine⟨λx y hx MY hy=>?_,λx y hx MY hy=>?_,λx y hx sG hy qG=>?_,λx y hx Wd hy qG=>?_,λha x hx Wd=>?_⟩
 ·rw[out x (by omega) (by omega),out y (by omega) (by omega)];exact h.l x y hx MY hy
 ·rw[out x (by omega) (by omega),out y (by omega) (by omega)];exact h.r x y hx MY hy
 ·rw[out x (by omega) (by omega)]
  by_cases hh:hi≤y
  ·rw[out y (by omega) (by omega)];exact h.lx x y hx sG hy qG
  ·exact all (λv=>at_ m x≤v) (λk k0 k1=>h.lx x k hx sG k0 (by omega)) y hy (by omega)
 ·rw[out y (by omega) (by omega)]
  by_cases hh:x<a
  ·rw[out x (by omega) (by omega)];exact h.xr x y hx Wd hy qG
  ·exact all (λv=>v≤at_ m y) (λk k0 k1=>h.xr k y (by omega) k1 hy qG) x (by omega) Wd
 ·rw[out (a-1) (by omega) (by omega)];exact all (λv=>at_ m (a-1)≤v) (λk k0 k1=>h.pre ha k k0 k1) x hx Wd
theorem QI.done(h:QI a0 Fj a hi m)(hs:Std a hi m):Std a0 Fj m:=by
 intro x y hx MY hy
 by_cases h1:y<a
 ·exact h.l x y hx MY h1
 ·by_cases h2:x<a
  ·exact h.lx x y hx h2 (by omega) hy
  ·by_cases h3:y<hi
   ·exact hs x y (by omega) MY h3
   ·by_cases h4:x<hi
    ·exact h.xr x y hx h4 (by omega) hy
    ·exact h.r x y (by omega) MY hy
theorem QI.left(h:QI a0 Fj a hi m)(h1:a0≤a)(Ry:a≤FU)(CU:FU<hi)(h2:hi≤Fj)(hP:N7 a hi FU m)(hs:Std a FU m):QI a0 Fj (FU+1) hi m:=by
 refine⟨λx y hx MY hy=>?_,h.r,λx y hx sG hy qG=>?_,h.xr,λha x hx Wd=>?_⟩
 ·by_cases g1:y<a
  ·exact h.l x y hx MY g1
  ·by_cases g2:x<a
   ·exact h.lx x y hx g2 (by omega) (by omega)
   ·by_cases g3:y=FU
    ·rw[g3];exact Int.le_of_lt (hP.1 x (by omega) (by omega))
    ·exact hs x y (by omega) MY (by omega)
 ·by_cases g1:x<a
  ·exact h.lx x y hx g1 (by omega) qG
  ·by_cases g2:y<hi
   ·have:=hP.2 y (by omega) g2
    by_cases g3:x=FU
    ·rw[g3];exact this
    ·have:=hP.1 x (by omega) (by omega);omega
   ·exact h.xr x y hx (by omega) (by omega) qG
 ·rw[show FU+1-1=FU by omega];exact hP.2 x (by omega) Wd
theorem QI.right(h:QI a0 Fj a hi m)(h1:a0≤a)(Ry:a≤FU)(CU:FU<hi)(h2:hi≤Fj)(hP:N7 a hi FU m)(hs:Std (FU+1) hi m):QI a0 Fj a FU m:=by
 refine⟨h.l,λx y hx MY hy=>?_,h.lx,λx y hx Wd hy qG=>?_,λha x hx Wd=>h.pre ha x hx (by omega)⟩
 ·by_cases g1:y<hi
  ·by_cases g2:x=FU
   ·rw[g2];exact hP.2 y (by omega) g1
   ·exact hs x y (by omega) MY g1
  ·by_cases g2:x<hi
   ·exact h.xr x y (by omega) g2 (by omega) hy
   ·exact h.r x y (by omega) MY hy
 ·by_cases g1:x<a
  ·exact h.lx x y hx g1 (by omega) qG
  ·by_cases g2:y<hi
   ·have:=hP.1 x (by omega) Wd
    by_cases g3:y=FU
    ·rw[g3];omega
    ·have:=hP.2 y (by omega) g2;omega
   ·exact h.xr x y hx (by omega) (by omega) qG
theorem QI.equal(h:QI a0 Fj a hi m){v:Int}(h1:a0≤a)(Ry:a<FU)(CU:FU≤hi)(h2:hi≤Fj)(GZ:∀x,a≤x→x<hi→v≤at_ m x)(hL:∀x,a≤x→x<FU→at_ m x≤v)(hR:∀x,FU≤x→x<hi→v<at_ m x):QI a0 Fj FU hi m:=by
 refine⟨λx y hx MY hy=>?_,h.r,λx y hx sG hy qG=>?_,h.xr,λha x hx Wd=>?_⟩
 ·by_cases g1:y<a
  ·exact h.l x y hx MY g1
  ·by_cases g2:x<a
   ·exact h.lx x y hx g2 (by omega) (by omega)
   ·have:=hL x (by omega) (by omega);have:=GZ y (by omega) (by omega);omega
 ·by_cases g1:x<a
  ·exact h.lx x y hx g1 (by omega) qG
  ·by_cases g2:y<hi
   ·have:=hL x (by omega) sG;have:=hR y hy g2;omega
   ·exact h.xr x y hx (by omega) (by omega) qG
 ·have:=hL (FU-1) (by omega) (by omega);have:=hR x hx Wd;omega
theorem N7.swl(hP:N7 a hi FU m)(h0:0≤a)(Ry:a≤FU)(CU:FU<hi)(hl:hi≤m.length)(s:SW a FU m m2):N7 a hi FU m2:=by
 have out:=λk (hk:0≤k) (hk':k<a∨FU≤k)=>s.out (by omega) (by omega) hk hk'
 refine⟨λx hx hxm=>?_,λx hx Wd=>?_⟩
 ·rw[out FU (by omega) (by omega)];exact s.all (P:=λv=>v<at_ m FU) (by omega) (by omega) (λk k0 k1=>hP.1 k k0 k1) x hx hxm
 ·rw[out FU (by omega) (by omega),out x (by omega) (by omega)];exact hP.2 x hx Wd
theorem N7.swr(hP:N7 a hi FU m)(h0:0≤a)(Ry:a≤FU)(CU:FU<hi)(hl:hi≤m.length)(s:SW (FU+1) hi m m2):N7 a hi FU m2:=by
 have out:=λk (hk:0≤k) (hk':k<FU+1∨hi≤k)=>s.out (by omega) (by omega) hk hk'
 refine⟨λx hx hxm=>?_,λx hx Wd=>?_⟩
 ·rw[out FU (by omega) (by omega),out x (by omega) (by omega)];exact hP.1 x hx hxm
 ·rw[out FU (by omega) (by omega)];exact s.all (P:=λv=>at_ m FU≤v) (by omega) (by omega) (λk k0 k1=>hP.2 k (by omega) k1) x (by omega) Wd
end
def AAi(v0 v1 v2 v3:Value)(K:AD)(W:CW):=by
 have h:RN 115 134 (Gc v0 v1 v2 v3) W K=Fu 115 134 (Gc v0 v1 v2 v3) (IS 9 Bl 8 []) W K:=by kernel_rfl
 dsimp at h;exact h
def M1(ro:Option Nat)(K:AD):AD:=Ek (λa b c=>let d:=CC 98 (B0 a) 97 (B7 a) 96 (Ag a) 95 a 0;Me 137 (BA a) (Ag a) (B7 a) (B0 a) c (λc f=>Dn c λg=>Dp c λh=>Oi g (Ag a) λi=>JM .sub 3 a 2 g λj=>KY .quo 3 a 10 8 λk=>Db .lss i j λl=>let c:=F5 113 l 112 j (FL 111 i 18 k 110 k 109 a 10 (BL 17 j 16 i 108 j 107 g (BL 106 (B7 a) 105 i 104 (Ag a) 103 g (Bc 9 h 102 15 h 14 g (D0 101 h 100 g 94 c 99 d)))));wI l (Db .geq i k λd=>let c:=Bq 120 (BO a) 119 g 118 (Ag a) 117 a (Bc 8 d 116 115 k 114 i c);Me 115 (BA a) (Ag a) g (BO a) f (λd f=>Jk g 1 λh=>K4 K a (Bc 1 h 123 122 g 121 d c) b f) λd f=>Bh K d a c b f) (Db .geq j k λd=>Jk g 1 λh=>let c:=eC 131 (BO a) (Bq 130 (B7 a) 129 h 128 g 127 a (Bc 8 d 126 125 k 124 j c));Me 115 (BA a) h (B7 a) (BO a) f (λd f=>Ay K a 2 g (F5 133 g 132 d c) b f) λd f=>Bh K d a c b f)) λc f=>Bh K c a d b f) K
def aT:=by
 have h:=@M1.eq_1;dsimp at h;exact h
def Tx(ro:Option Nat)(K:AD):AD:=AU (λa b c=>let d:=CC 91 (B0 a) 90 (B7 a) 89 (Ag a) 88 a 0;Qz a 87 (Me 136 (BA a) (Ag a) (B7 a) (B0 a) c (λc f=>jw (M1 ro K) 1 a (MZ 1 c 93 c 13 92 d) b f) λc f=>Bh (M1 ro K) c a d b f) (M1 ro K) a b c) (M1 ro K)
def qH:=by
 have h:=@Tx.eq_1;dsimp at h;exact h
def LR(ro:Option Nat)(K:AD):AD:=Ek (λa b c=>KY .gtr 3 a 1 0 λd=>let f:=D4 75 d 74 d 73 (Ag a);LJ d (Em a 1 λd=>GC a d λg=>Ak g c λh=>Bp a 11 λi=>Ak i c λj=>Lt h j c (λk l=>D2 k λm=>HM (Gq 9 i c j g h) (Tx ro K) a 87 m (IX 86 m 75 85 k 75 84 j (BQ 83 i 75 82 (B0 a) (BQ 81 (BA a) 75 80 h (BQ 79 g 75 78 d (Fp 77 (Ag a) 75 76 a f))))) b l) λ_ _=>False) True (Tx ro K) a 87 Az (HA 86 undef 75 (J7 85 75 84 (DP 83 75 82 81 80 (DP 79 75 78 77 76 f)))) b c) K
def aU:=by
 have h:=@LR.eq_1;dsimp at h;exact h
def PC(ro:Option Nat)(K:AD):AD:=AU (λa b c=>let d:=D4 71 (B7 a) 70 (Ag a) 69 (BA a);Qz a 68 (KG 134 a (Ag a) (B7 a) c (λc f=>HR c (LR ro K) a 72 c d b f (Ay (LR ro K) a 72 c d b f)) λc f=>Bh (LR ro K) c a d b f) (LR ro K) a b c) (LR ro K)
def qI:=by
 have h:=@PC.eq_1;dsimp at h;exact h
def PD(ro:Option Nat)(K:AD):AD:=Ek (λa b c=>let d:=Wu 65 (B5 a) 64 a 9 (IS 63 (B5 a) 62 (Bo 62 (A8 a) 61 a 8));wI (A8 a) (AC2 a 9 (KY .eql 186 a 12 1 λf=>Ay (PC ro K) a 68 f (BQ 67 f 65 66 (HS a) d) b c) (Ay (PC ro K) a 68 Az (J7 67 65 66 d) b c)) (Ay (PC ro K) a 68 Az (J7 67 65 66 (Wv 65 false 64 63 undef 62 (Bo 62 (A8 a) 61 a 8))) b c)) K
def qJ:=by
 have h:=@PD.eq_1;dsimp at h;exact h
def PF(ro:Option Nat)(K:AD):AD:=Ek (λa b c=>let d:=D4 45 (B7 a) 44 (Ag a) 43 (BA a);KG 132 a (Ag a) (B7 a) c (λc f=>Dn c λg=>Dp c λh=>yO .eql 186 h 2 λi=>let c:=BL 50 i 49 h 12 h 11 g (D0 48 h 47 g 42 c 46 d);let d:=DT 53 (B7 a) 52 (Ag a) 51 (BA a) c;C1 i (KG 133 a (Ag a) (B7 a) f (λc f=>Em a 2 λh=>Oi g (Ag a) λi=>Oi h i λj=>Ay (PD ro K) a 12 (RM 1) (FL 11 j 60 j 59 i 58 a 1 (BL 57 g 56 h 55 (B7 a) 54 c d)) b f) λc f=>Bh (PD ro K) c a d b f) (PD ro K) a c b f) λc f=>Bh K c a d b f) K
def qK:=by
 have h:=@PF.eq_1;dsimp at h;exact h
def sm(ro:Option Nat)(e:Env)(ds:List Deferred)(K:AD)(W:CW):=by
 have h:CV ro 115 134 e ds W K=JM .sub 3 e 2 (Ag e) λa=>Og a 12 λb=>let a:=F5 23 b 22 a (CC 10 a 21 a 20 (Ag e) 19 e 2);let c:=DT 26 (B7 e) 25 (Ag e) 24 (BA e) a;wI b (KG 129 e (Ag e) (B7 e) W (λa b=>J6 K e (eC 27 a c) ds b) λa b=>Bh K a e c ds b) (KY .eql 3 e 3 0 λb=>let c:=eC 32 (B7 e) (FL 31 (Ag e) 30 (BA e) 29 b 28 e 3 a);wI b (KG 130 e (Ag e) (B7 e) W (λa b=>J6 K e (eC 33 a c) ds b) λa b=>Bh K a e c ds b) (D2 (A8 e) λc=>let a:=FL 35 c 34 (A8 e) 29 b 28 e 3 a;let b:=DT 38 (B7 e) 37 (Ag e) 36 (BA e) a;C1 c (KG 131 e (Ag e) (B7 e) W (λa c=>Em e 3 λd=>K4 (PF ro K) e (Bc 3 d 41 40 (BO e) 39 a b) ds c) λa c=>Bh (PF ro K) a e b ds c) (PF ro K) e a ds W)):=by kernel_rfl
 dsimp at h;exact h
def AAj{Q v0 v1 v2 v3 W}:=FM 115 134 [v0,v1,v2,v3] Tryz.f115 Q W Tryz.func115 (by kernel_rfl)
def AAk(v0 v1 v2:Value)(K:AD)(W:CW):=by
 have h:HQ 129 49 v0 v1 v2 W K=Jk v1 1 λa=>Fu 129 49 (Eg v0 v1 v2) (D4 6 a 9 a 8 v1) W K:=by kernel_rfl
 dsimp at h;exact h
def iO(ro:Option Nat)(K:AD):AD:=AU (λa b c=>BP a 6 λd=>Ay K a 6 d (Bo 14 d 13 a 6) b c) K
def vq:=by
 have h:=@iO.eq_1;dsimp at h;exact h
def so(ro:Option Nat)(e:Env)(ds:List Deferred)(K:AD)(W:CW):=by
 have h:CV ro 129 49 e ds W K=C' e 6 (B7 e) λa=>let b:=D4 12 a 11 (B7 e) 10 (DG e);FQ a (GB ro 129 49 1 e (Wu 7 (DG e) 15 e 6 b) ds W 2 (CB 1 (iO ro K))) K 0 e b ds W:=by kernel_rfl
 dsimp at h;exact h
def sq(ro:Option Nat)(K:AD):AD:=AU (λa b c=>Em a 7 λd=>Ay K a 7 d (Bo 32 d 31 a 7) b c) K
def eW:=by
 have h:=@sq.eq_1;dsimp at h;exact h
def YB(ro:Option Nat)(K:AD):AD:=AU (λa b c=>Em a 7 λd=>Em a 7 λf=>GC a f λg=>Ak g c λh=>Bp a 7 λi=>Ak i c λj=>Bp a 7 λk=>En k h c λl=>GC a d λm=>En m j l λl=>IW (Jn 9 i c j 9 g c h) (sq ro K) a (BL 48 m 47 k 46 j 45 i (BL 44 (BW a) 43 (BA a) 42 h 41 g (BL 40 f 39 (BW a) 38 (BA a) 37 d (CC 36 (BW a) 35 (BA a) 34 (BW a) 33 a 0)))) b l) K
def eX:=by
 have h:=@YB.eq_1;dsimp at h;exact h
def YC(ro:Option Nat)(K:AD):AD:=AU (λe ds W=>wI (e 30) ((YB ro K) .normal e ds W) ((YB ro K) (.exit 2) e ds W)) (YB ro K)
def ACK(ro:Option Nat)(e:Env)(ds:List Deferred)(K:AD)(W:CW):=by
 have h:Ei ro 129 49 1 e ds W K=JM .gtr 3 e 7 (Ag e) λa=>let b:=CC 19 a 18 a 17 (Ag e) 16 e 7;LJ a (Bp e 7 λa=>Ak a W λc=>Em e 7 λd=>GC e d λf=>Ak f W λg=>Lt c g W (λh i=>HM (Gq 9 f W g a c) (YC ro K) e 30 h (BQ 29 h 19 28 g (BQ 27 f 19 26 d (Fp 25 (BW e) 19 24 e (BQ 23 c 19 22 a (Fp 21 (BW e) 19 20 e b))))) ds i) λ_ _=>False) True (YC ro K) e 30 Az (J7 29 19 28 (DP 27 19 26 25 24 (DP 23 19 22 21 20 b))) ds W:=by kernel_rfl
 dsimp at h;exact h
def AAl{Q v0 v1 v2 W}:=FM 129 49 [v0,v1,v2] Tryz.f129 Q W Tryz.func129 (by kernel_rfl)
def sr(ro:Option Nat)(K:AD):AD:=AU (λa b c=>Em a 8 λd=>GB ro 130 56 1 a (D4 10 d 28 d 27 (A8 a)) b c 2 K) K
def vu:=by
 have h:=@sr.eq_1;dsimp at h;exact h
def AGD(v0 v1 v2:Value)(K:AD)(W:CW):=by
 have h:HQ 130 56 v0 v1 v2 W K=Oi v2 v1 λa=>HB .sub a 1 λb=>HB .quo b 2 λc=>Fu 130 56 (Eg v0 v1 v2) (EW 9 c 17 16 b (Bc 15 a 8 14 a 13 v1 (D0 12 v2 7 At 6 v1 11 []))) W (sr none K):=by kernel_rfl
 dsimp at h;exact h
def iP(ro:Option Nat)(K:AD):AD:=AU (λa b c=>Em a 9 λd=>Ay K a 9 d (Bo 21 d 20 a 9) b c) K
def vz:=by
 have h:=@iP.eq_1;dsimp at h;exact h
def ACL(ro:Option Nat)(e:Env)(ds:List Deferred)(K:AD)(W:CW):=by
 have h:CV ro 130 56 e ds W K=KY .geq 3 e 9 0 λa=>let b:=Wu 25 (DG e) 24 e 8 (CC 23 (B5 e) 22 (BA e) 19 a 18 e 9);FQ a (Me 150 (BA e) (B5 e) (A8 e) (DG e) W (λa c=>Ay (iP ro K) e 26 a b ds c) λa c=>Bh (iP ro K) a e b ds c) K 0 e (Bo 19 a 18 e 9) ds W:=by kernel_rfl
 dsimp at h;exact h
def iQ(ro:Option Nat)(K:AD):AD:=AU (λa b c=>Em a 10 λd=>Ay K a 10 d (Bo 32 d 31 a 10) b c) K
def v5:=by
 have h:=@iQ.eq_1;dsimp at h;exact h
def ACN(ro:Option Nat)(e:Env)(ds:List Deferred)(K:AD)(W:CW):=by
 have h:Ei ro 130 56 1 e ds W K=KY .geq 3 e 10 0 λa=>FQ a (Jl 3 e 6 (BM e) λb=>Jl 3 e 6 (BM e) λc=>GC e c λd=>Ak d W λf=>Bp e 6 λg=>Ak g W λh=>Bp e 6 λi=>En i f W λj=>GC e b λk=>let a:=Bq 54 (DG e) 53 (BM e) 52 (BW e) 51 e (BL 50 k 49 i 48 h 47 g (BL 46 (DG e) 45 (BA e) 44 f 43 d (Bq 42 c 41 (BM e) 40 (DG e) 39 e (Bq 38 b 37 (BM e) 36 (DG e) 35 e (CC 34 (DG e) 33 (BA e) 30 a 29 e 10)))));En k h j λb=>F6 (Jn 9 g W h 9 d W f) (Me 150 (BA e) (BW e) (BM e) (DG e) b (λb c=>Ay (iQ ro K) e 55 b a ds c) λb c=>Bh (iQ ro K) b e a ds c)) K 2 e (Bo 30 a 29 e 10) ds W:=by kernel_rfl
 dsimp at h;exact h
def AGE{Q v0 v1 v2 W}:=FM 130 56 [v0,v1,v2] Tryz.f130 Q W Tryz.func130 (by kernel_rfl)
def AGF(v0 v1 v2:Value)(K:AD)(W:CW):=by
 have h:HQ 131 65 v0 v1 v2 W K=Oi v2 v1 λa=>Mc a 8 λb=>let c:=F5 15 b 14 a (BN 6 a 13 a 12 v1 11 v2);C1 b (wV (jn prog 3 205 a) λb=>DB 205 W λd f=>let c:=BL 18 a 7 d 17 b 16 a c;CL 205 d b f λb=>DF 151 a b (λb d=>HB .quo a 4 λf=>HB .mul f 2 λg=>Db .add v1 g λh=>HB .sub h 1 λi=>Fu 131 65 (Eg v0 v1 v2) (eC 9 i (BL 25 i 24 h 23 g 22 f (D0 21 a 20 v1 8 b 19 c))) d K) λa b=>H7 K a v0 v1 v2 c b) K (Eg v0 v1 v2) c [] W:=by kernel_rfl
 dsimp at h;exact h
def YD(ro:Option Nat)(K:AD):AD:=AU (λa b c=>BP a 9 λd=>Ay K a 9 d (Bo 35 d 34 a 9) b c) K
def v_:=by
 have h:=@YD.eq_1;dsimp at h;exact h
def YE(ro:Option Nat)(K:AD):AD:=Ek (λa b c=>Jl 3 a 1 (BM a) λd=>Jl 3 a 1 (BM a) λf=>GC a f λg=>Ak g c λh=>Bp a 9 λi=>Ak i c λj=>Bp a 9 λk=>En k h c λl=>GC a d λm=>En m j l λl=>IW (Jn 9 i c j 9 g c h) (YD ro K) a (F5 64 m 63 k (Bq 62 j 61 i 60 (B5 a) 59 a (FL 58 h 57 g 56 f 55 a 10 (FL 54 (Ag a) 53 (BA a) 52 d 51 a 10 (CC 50 (Ag a) 49 (BA a) 48 (B5 a) 47 a 0))))) b l) (YD ro K)
def wA:=by
 have h:=@YE.eq_1;dsimp at h;exact h
def ACO(ro:Option Nat)(e:Env)(ds:List Deferred)(K:AD)(W:CW):=by
 have h:CV ro 131 65 e ds W K=KY .quo 3 e 6 4 λa=>HB .mul a 2 λb=>Jl 3 e 1 b λc=>Jk c 1 λd=>JM .leq 3 e 9 d λf=>let a:=BL 33 f 32 d 31 c 30 b (CC 29 a 28 (DG e) 27 (Ag e) 26 e 9);FQ f (DF 152 (BW e) W (λb c=>ZC .sub 164 true (A8 e) .u64 1 λd=>NQ .and 164 b d λf=>wV (jn prog 164 3 f) λg=>Db .geq g (DG e) λh=>let a:=eC 43 h (MZ 42 (DG e) 41 g 10 40 (BL 39 f 38 d 37 (A8 e) 36 b a));C1 h (Oi g (DG e) λb=>K4 (YE ro K) e (Bc 10 b 46 45 (DG e) 44 g a) ds c) (YE ro K) e a ds c) λb c=>Bh (YD ro K) b e a ds c) K 0 e a ds W:=by kernel_rfl
 dsimp at h;exact h
def AGG{Q v0 v1 v2 W}:=FM 131 65 [v0,v1,v2] Tryz.f131 Q W Tryz.func131 (by kernel_rfl)
def Ty(ro:Option Nat)(K:AD):AD:=AU (λa b c=>Dj 3 a 9 c λd=>Q0 d 0 λf=>let g:=D4 51 f 52 f 49 d;Of f K a (DT 7 (RM 1) 6 (B0 a) 53 (B0 a) g) b c (Q0 d 12 λd=>HR d K a 7 (RM 2) (D0 6 (B0 a) 56 (B0 a) 54 d 55 g) b c (J6 K a (eC 7 At (D0 6 (B0 a) 50 (B0 a) 54 d 55 g)) b c))) K
def wB:=by
 have h:=@Ty.eq_1;dsimp at h;exact h
def Nr(ro:Option Nat)(K:AD):AD:=AU (λa b c=>let d:=CC 47 (HS a) 46 (B0 a) 45 (BM a) 44 a 0;jx 154 [BA a,BM a,B0 a,HS a,B5 a] c (λc f=>D1 (Ty ro K) a 11 c 48 d b f) λc f=>Bh (Ty ro K) c a d b f) (Ty ro K)
def wC:=by
 have h:=@Nr.eq_1;dsimp at h;exact h
def AGH(v0 v1 v2:Value)(K:AD)(W:CW):=by
 have h:HQ 132 57 v0 v1 v2 W K=Oi v2 v1 λa=>DB 3 W λb c=>HB .quo a 4 λd=>HB .mul d 1 λf=>Db .add v1 f λg=>HB .quo a 4 λh=>HB .mul h 2 λi=>Db .add v1 i λj=>HB .quo a 4 λk=>HB .mul k 3 λl=>Db .add v1 l λm=>Mc a 8 λn=>let d:=DT 32 n 31 a 12 m (BL 30 m 29 l 28 k 27 a (BL 26 v1 11 j 25 j 24 i (BL 23 h 22 a 21 v1 10 g (BL 20 g 19 f 18 d 17 a (D0 16 v1 9 b 8 a 15 (BN 14 v1 13 v2 7 At 6 At))))));C1 n (Mc a 50 λf=>let h:=BL 36 g 35 v0 34 f 33 a d;C1 f (LH 153 v0 g b c (λa c=>let a:=D0 39 j 38 v0 10 a 37 h;LH 153 v0 j b c (λc d=>let a:=D0 42 m 41 v0 11 c 40 a;LH 153 v0 m b d (λb c=>D1 (Nr none K) (Eg v0 v1 v2) 12 b 43 a [] c) λb c=>H7 (Nr none K) b v0 v1 v2 a c) λb c=>H7 (Nr none K) b v0 v1 v2 a c) λa b=>H7 (Nr none K) a v0 v1 v2 h b) (Nr none K) (Eg v0 v1 v2) (F5 34 f 33 a d) [] c) (Ty none K) (Eg v0 v1 v2) d [] c:=by kernel_rfl
 dsimp at h;exact h
theorem Rv(Q:Ending→CW→Prop)(e:Env)(W:CW):AM prog Tryz.f132 Q .ret e [] W=Q (.returned (.tuple #[e 6,e 7])) W:=by kernel_rfl
def AGI{Q v0 v1 v2 W}:=FM 132 57 [v0,v1,v2] Tryz.f132 Q W Tryz.func132 (by kernel_rfl)
def AGJ(v0 v1 v2:Value)(K:AD)(W:CW):=by
 have h:HQ 133 32 v0 v1 v2 W K=HB .sub v2 1 λa=>Fu 133 32 (Eg v0 v1 v2) (eC 7 a (D0 10 a 9 v2 6 v1 8 [])) W K:=by kernel_rfl
 dsimp at h;exact h
def ACP(ro:Option Nat)(e:Env)(ds:List Deferred)(K:AD)(W:CW):=by
 have h:CV ro 133 32 e ds W K=C' e 6 (BW e) λa=>let b:=D4 13 a 12 (BW e) 11 (DG e);FQ a (Bp e 7 λa=>Ak a W λc=>Bp e 6 λd=>Ak d W λf=>Bp e 6 λg=>En g c W λh=>Bp e 7 λi=>En i f h λh=>F6 (Jn 9 d W f 9 a W c) (BP e 6 λj=>Em e 7 λk=>K4 K e (Bc 7 k 31 30 (BW e) 6 j (BL 29 j 28 (DG e) 27 i 26 g (Bq 25 f 24 d 23 (DG e) 22 e (Bq 21 c 20 a 19 (BW e) 18 e (Bq 17 (BW e) 16 (BA e) 15 (DG e) 14 e b))))) ds h)) K 0 e b ds W:=by kernel_rfl
 dsimp at h;exact h
def AGK{Q v0 v1 v2 W}:=FM 133 32 [v0,v1,v2] Tryz.f133 Q W Tryz.func133 (by kernel_rfl)
def Jd(ro:Option Nat)(K:AD):AD:=AU (λe ds W=>K .ret (Env.of e [(6,(.bool false))]) ds W) K
def AGL(v0 v1 v2:Value)(K:AD)(W:CW):=by
 have h:HQ 134 133 v0 v1 v2 W K=Jk v1 1 λa=>Fu 134 133 (Eg v0 v1 v2) (DT 8 At 7 a 12 a (G7 11 v1 6)) W (Jd none K):=by kernel_rfl
 dsimp at h;exact h
def Ky(ro:Option Nat)(K:AD):AD:=AU (λa b c=>BP a 8 λd=>Ay K a 8 d (Bo 16 d 15 a 8) b c) K
def Vp:=by
 have h:=@Ky.eq_1;dsimp at h;exact h
def Tz(ro:Option Nat)(K:AD):AD:=Ek (λa b c=>JM .sub 3 a 2 (BW a) λd=>Mc d 2 λf=>let d:=CC 98 f 97 d 96 (BW a) 95 a 2;C1 f (BP a 7 λf=>GB ro 134 133 3 a (EW 10 f 100 99 (BW a) d) b c 6 (CB 1 (Ky ro K))) (Ky ro K) a d b c) (Ky ro K)
def wD:=by
 have h:=@Tz.eq_1;dsimp at h;exact h
def YF(ro:Option Nat)(K:AD):AD:=Ek (λa b c=>JM .eql 3 a 7 (B7 a) λd=>let f:=D4 37 d 36 (B7 a) 35 (BW a);HR d (Ky ro K) a 6 Bl f b c (JM .sub 3 a 2 (Ag a) λd=>Md d 50 λg=>let d:=FL 41 g 40 d 39 (Ag a) 38 a 2 f;HR g (Ky ro K) a 6 Az d b c (Em a 7 λf=>Em a 7 λg=>GC a g λh=>Ak h c λi=>Bp a 7 λj=>Ak j c λk=>Bp a 7 λl=>En l i c λm=>GC a f λn=>En n k m λm=>F6 (Jn 9 j c k 9 h c i) (JM .sub 3 a 7 (Ag a) λc=>Mc c 2 λo=>let c:=FL 61 o 60 c 59 (Ag a) 58 a 7 (BL 57 n 56 l 55 k 54 j (BL 53 (BW a) 52 (BA a) 51 i 50 h (BL 49 g 48 (BW a) 47 (BA a) 46 f (Bq 45 (BW a) 44 (BA a) 43 (BW a) 42 a d))));C1 o (Em a 7 λd=>GB ro 134 133 2 a (EW 9 d 63 62 (BW a) c) b m 4 (Tz ro K)) (Tz ro K) a c b m)))) (Ky ro K)
def wE:=by
 have h:=@YF.eq_1;dsimp at h;exact h
def ACQ(ro:Option Nat)(e:Env)(ds:List Deferred)(K:AD)(W:CW):=by
 have h:CV ro 134 133 e ds W K=KY .lss 3 e 8 5 λa=>FQ a (GB ro 134 133 1 e (Bo 14 a 13 e 8) ds W 2 (YF ro K)) K 0 e (Bo 14 a 13 e 8) ds W:=by kernel_rfl
 dsimp at h;exact h
def YG(ro:Option Nat)(K:AD):AD:=AU (λa b c=>BP a 7 λd=>Ay K a 7 d (Bo 34 d 33 a 7) b c) K
def eY:=by
 have h:=@YG.eq_1;dsimp at h;exact h
def YH(ro:Option Nat)(K:AD):AD:=AU (λe ds W=>wI (e 32) ((YG ro K) .normal e ds W) ((YG ro K) (.exit 2) e ds W)) (YG ro K)
def ACR(ro:Option Nat)(e:Env)(ds:List Deferred)(K:AD)(W:CW):=by
 have h:Ei ro 134 133 1 e ds W K=C' e 7 (B7 e) λa=>let b:=CC 20 a 19 a 18 (B7 e) 17 e 7;LJ a (Bp e 7 λa=>Ak a W λc=>Em e 7 λd=>GC e d λf=>Ak f W λg=>Lt c g W (λh i=>D2 h λj=>HM (Gq 9 f W g a c) (YH ro K) e 32 j (IX 31 j 20 30 h 20 29 g (BQ 28 f 20 27 d (Fp 26 (BW e) 20 25 e (BQ 24 c 20 23 a (Fp 22 (BW e) 20 21 e b))))) ds i) λ_ _=>False) True (YH ro K) e 32 Az (HA 31 undef 20 (J7 30 20 29 (DP 28 20 27 26 25 (DP 24 20 23 22 21 b)))) ds W:=by kernel_rfl
 dsimp at h;exact h
def T0(ro:Option Nat)(K:AD):AD:=AU (λe ds W=>wV (DL prog .sub 3 true (e 9) (.int .i64 1)) λv67=>K .normal (Env.of e [(9,v67),(67,v67),(66,(e 9))]) ds W) K
def ACS(ro:Option Nat)(e:Env)(ds:List Deferred)(K:AD)(W:CW):=by
 have h:Ei ro 134 133 2 e ds W K=KY .geq 3 e 9 1 λa=>FQ a (Bp e 9 λb=>Ak b W λc=>Em e 9 λd=>GC e d λf=>Ak f W λg=>Lt c g W (λh i=>D2 h λj=>let a:=eC 78 j (BL 77 h 76 g 75 f 74 d (BL 73 (B5 e) 72 (BA e) 71 c 70 b (CC 69 (B5 e) 68 (BA e) 65 a 64 e 9)));F6 (Gq 9 f W g b c) (wI j (jw (T0 ro K) 4 e a ds i) (Em e 9 λb=>Em e 9 λc=>GC e c λd=>Ak d i λf=>Bp e 9 λg=>Ak g i λh=>Bp e 9 λj=>En j f i λk=>GC e b λl=>En l h k λk=>IW (Jn 9 g i h 9 d i f) (T0 ro K) e (BL 94 l 93 j 92 h 91 g (BL 90 (B5 e) 89 (BA e) 88 f 87 d (BL 86 c 85 (B5 e) 84 (BA e) 83 b (Bq 82 (B5 e) 81 (BA e) 80 (B5 e) 79 e a)))) ds k))) λ_ _=>False) K 4 e (Bo 65 a 64 e 9) ds W:=by kernel_rfl
 dsimp at h;exact h
def aV(ro:Option Nat)(K:AD):AD:=AU (λa b c=>BP a 10 λd=>Ay K a 10 d (Bo 105 d 104 a 10) b c) K
def aW:=by
 have h:=@aV.eq_1;dsimp at h;exact h
def ACT(ro:Option Nat)(e:Env)(ds:List Deferred)(K:AD)(W:CW):=by
 have h:Ei ro 134 133 3 e ds W K=C' e 10 (B7 e) λa=>let b:=D4 103 a 102 (B7 e) 101 (BM e);FQ a (Bp e 10 λa=>Ak a W λc=>Em e 10 λd=>GC e d λf=>Ak f W λg=>Lt c g W (λh i=>D2 h λj=>let b:=DT 116 j 115 h 114 g (Bq 113 f 112 d 111 (BM e) 110 e (Bq 109 c 108 a 107 (BM e) 106 e b));F6 (Gq 9 f W g a c) (wI j (jw (aV ro K) 6 e b ds i) (Em e 10 λa=>Em e 10 λc=>GC e c λd=>Ak d i λf=>Bp e 10 λg=>Ak g i λh=>Bp e 10 λj=>En j f i λk=>GC e a λl=>En l h k λk=>IW (Jn 9 g i h 9 d i f) (aV ro K) e (BL 132 l 131 j 130 h 129 g (BL 128 (BM e) 127 (BA e) 126 f 125 d (BL 124 c 123 (BM e) 122 (BA e) 121 a (Bq 120 (BM e) 119 (BA e) 118 (BM e) 117 e b)))) ds k))) λ_ _=>False) K 6 e b ds W:=by kernel_rfl
 dsimp at h;exact h
theorem qL(Q:Ending→CW→Prop)(e:Env)(W:CW):AM prog Tryz.f134 Q .ret e [] W=Q (.returned (e 6)) W:=by kernel_rfl
def AGM{Q v0 v1 v2 W}:=FM 134 133 [v0,v1,v2] Tryz.f134 Q W Tryz.func134 (by kernel_rfl)
def P8(ro:Option Nat)(K:AD):AD:=AU (λe ds W=>K .ret e ds W) K
def AGN(v0 v1:Value)(K:AD)(W:CW):=by
 have h:E9 135 17 v0 v1 W K=DF 155 v0 W (λa b=>let c:=Dh 7 a 6 (G7 5 v0 4);let d:=eC 7 Bl (IS 8 v1 7 c);wI a (DF 155 v1 b (λa b=>D2 a λc=>let a:=eC 12 c (Bc 11 c 10 7 Bl 9 a d);wI c (K4 (P8 none K) (JN v0 v1) (H8 4 true 16 15 undef 12 14 12 13 a) [] b) (NQ .lss 9 v0 v1 λc=>D1 (P8 none K) (JN v0 v1) 4 c 16 (EA 15 c 12 14 v1 13 v0 a) [] b)) λa b=>H6 (P8 none K) a v0 v1 d b) (NQ .lss 9 v0 v1 λa=>D1 (P8 none K) (JN v0 v1) 4 a 16 (EA 15 a 12 14 v1 13 v0 (BG 12 11 10 7 9 8 c)) [] b)) λa b=>H6 (P8 none K) a v0 v1 (G7 5 v0 4) b:=by kernel_rfl
 dsimp at h;exact h
theorem qM(Q:Ending→CW→Prop)(e:Env)(W:CW):AM prog Tryz.f135 Q .ret e [] W=Q (.returned (e 4)) W:=by kernel_rfl
def AGO{Q v0 v1 W}:=FM 135 17 [v0,v1] Tryz.f135 Q W Tryz.func135 (by kernel_rfl)
def ss(ro:Option Nat)(K:AD):AD:=AU (λe ds W=>K .ret (Env.of e [(8,(e 9)),(83,(e 9))]) ds W) K
def AGP(v0 v1 v2 v3:Value)(K:AD)(W:CW):=by
 have h:RN 136 84 (Gc v0 v1 v2 v3) W K=ET 51 v0 v3 λa=>Ak a W λb=>ET 51 v0 v1 λc=>Ak c W λd=>ET 51 v0 v1 λf=>En f b W λg=>ET 51 v0 v3 λh=>En h d g λg=>F6 (Jn 9 c W d 9 a W b) (Jk v1 1 λi=>HB .sub v2 1 λj=>Fu 136 84 (Gc v0 v1 v2 v3) (eC 10 j (BL 9 i 28 j 27 v2 26 i (BL 25 v1 24 h 23 f 22 d (BL 21 c 20 v1 19 v0 18 b (cZ 17 a 16 v3 15 v0 14 (BN 13 v0 12 v1 11 v0 8 At)))))) g (ss none K)):=by kernel_rfl
 dsimp at h;exact h
def su(ro:Option Nat)(K:AD):AD:=Ek (λa b c=>JM .gtr 3 a 9 (BM a) λd=>let f:=D4 64 d 63 (BM a) 62 (B5 a);wI d (jw K 0 a f b c) (Bp a 10 λd=>Ak d c λg=>Bp a 9 λh=>Ak h c λi=>Bp a 9 λj=>En j g c λk=>Bp a 10 λl=>En l i k λk=>F6 (Jn 9 h c i 9 d c g) (BP a 9 λc=>Em a 10 λm=>K4 K a (Bc 10 m 82 81 (BM a) 9 c (BL 80 c 79 (B5 a) 78 l 77 j (Bq 76 i 75 h 74 (B5 a) 73 a (Bq 72 g 71 d 70 (BM a) 69 a (Bq 68 (BM a) 67 (BA a) 66 (B5 a) 65 a f))))) b k))) K
def wF:=by
 have h:=@su.eq_1;dsimp at h;exact h
def sv(ro:Option Nat)(K:AD):AD:=AU (λe ds W=>FX prog Bs ro 136 84 (.loop (D6 prog 136 2)) e ds W (CB 4 (su ro K))) (CB 1 K)
def ACU(ro:Option Nat)(e:Env)(ds:List Deferred)(K:AD)(W:CW):=by
 have h:CV ro 136 84 e ds W K=yQ ro 136 84 1 e ds W 2 (sv ro K):=by kernel_rfl
 dsimp at h;exact h
def YI(ro:Option Nat)(K:AD):AD:=AU (λa b c=>BP a 9 λd=>Ay K a 9 d (Bo 45 d 44 a 9) b c) K
def eZ:=by
 have h:=@YI.eq_1;dsimp at h;exact h
def YJ(ro:Option Nat)(K:AD):AD:=AU (λe ds W=>wI (e 43) ((YI ro K) .normal e ds W) ((YI ro K) (.exit 2) e ds W)) (YI ro K)
def ACV(ro:Option Nat)(e:Env)(ds:List Deferred)(K:AD)(W:CW):=by
 have h:Ei ro 136 84 1 e ds W K=JM .leq 3 e 9 (BM e) λa=>let b:=CC 32 a 31 a 30 (BM e) 29 e 9;LJ a (Bp e 1 λa=>Ak a W λc=>Bp e 9 λd=>Ak d W λf=>Lt c f W (λg h=>D2 g λi=>HM (Gq 9 d W f a c) (YJ ro K) e 43 i (BQ 42 i 32 41 g (BQ 40 f 32 39 d (Fp 38 (B5 e) 32 37 e (BQ 36 c 32 35 a (Fp 34 (Ag e) 32 33 e b))))) ds h) λ_ _=>False) True (YJ ro K) e 43 Az (J7 42 32 41 (DP 40 32 39 38 37 (DP 36 32 35 34 33 b))) ds W:=by kernel_rfl
 dsimp at h;exact h
def PG(ro:Option Nat)(K:AD):AD:=AU (λe ds W=>wV (DL prog .sub 3 true (e 10) (.int .i64 1)) λv61=>K .normal (Env.of e [(10,v61),(61,v61),(60,(e 10))]) ds W) K
def T3(ro:Option Nat)(K:AD):AD:=AU (λe ds W=>wI (e 59) ((PG ro K) .normal e ds W) ((PG ro K) (.exit 4) e ds W)) (PG ro K)
def ACW(ro:Option Nat)(e:Env)(ds:List Deferred)(K:AD)(W:CW):=by
 have h:Ei ro 136 84 2 e ds W K=JM .leq 3 e 9 (BM e) λa=>let b:=CC 49 a 48 a 47 (BM e) 46 e 9;LJ a (Bp e 1 λa=>Ak a W λc=>Bp e 10 λd=>Ak d W λf=>Lt c f W (λg h=>HM (Gq 9 d W f a c) (T3 ro K) e 59 g (IX 58 g 49 57 f 49 56 d (Fp 55 (BM e) 49 54 e (BQ 53 c 49 52 a (Fp 51 (Ag e) 49 50 e b)))) ds h) λ_ _=>False) True (T3 ro K) e 59 Az (Mi 58 undef 49 57 49 56 55 54 (DP 53 49 52 51 50 b)) ds W:=by kernel_rfl
 dsimp at h;exact h
theorem qN(Q:Ending→CW→Prop)(e:Env)(W:CW):AM prog Tryz.f136 Q .ret e [] W=Q (.returned (e 8)) W:=by kernel_rfl
def AGQ{Q v0 v1 v2 v3 W}:=FM 136 84 [v0,v1,v2,v3] Tryz.f136 Q W Tryz.func136 (by kernel_rfl)
def sy(ro:Option Nat)(K:AD):AD:=AU (λa b c=>Bp a 1 λd=>Ak d c λf=>Bp a 11 λg=>Ak g c λh=>Bp a 11 λi=>En i f c λj=>Bp a 1 λk=>En k h j λj=>F6 (Jn 9 g c h 9 d c f) (J6 K a (eC 9 Az (BL 8 (B0 a) 167 (B0 a) 166 k 165 i (Bq 164 h 163 g 162 (B0 a) 161 a (Bq 160 f 159 d 158 (Ag a) 157 a (CC 156 (Ag a) 155 (BA a) 154 (B0 a) 153 a 0))))) b j)) K
def wG:=by
 have h:=@sy.eq_1;dsimp at h;exact h
def s6(ro:Option Nat)(K:AD):AD:=AU (λa b c=>JM .gtr 3 a 10 (B0 a) λd=>let f:=D4 65 d 64 (B0 a) 63 (BM a);wI d (Bp a 1 λd=>Ak d c λg=>Bp a 11 λh=>Ak h c λi=>Bp a 11 λj=>En j g c λk=>Bp a 1 λl=>En l i k λk=>F6 (Jn 9 h c i 9 d c g) (J6 K a (eC 9 Bl (BL 8 (B0 a) 80 (B0 a) 79 l 78 j (Bq 77 i 76 h 75 (B0 a) 74 a (Bq 73 g 72 d 71 (Ag a) 70 a (Bq 69 (Ag a) 68 (BA a) 67 (B0 a) 66 a f))))) b k)) (Bp a 11 λd=>Ak d c λg=>Bp a 10 λh=>Ak h c λi=>Bp a 10 λj=>En j g c λk=>Bp a 11 λl=>En l i k λk=>F6 (Jn 9 h c i 9 d c g) (BP a 10 λc=>Em a 11 λm=>GB ro 137 168 2 a (Bc 11 m 98 97 (B0 a) 10 c (BL 96 c 95 (BM a) 94 l 93 j (Bq 92 i 91 h 90 (BM a) 89 a (Bq 88 g 87 d 86 (B0 a) 85 a (Bq 84 (B0 a) 83 (BA a) 82 (BM a) 81 a f))))) b k 4 (sy ro K)))) K
def wH:=by
 have h:=@s6.eq_1;dsimp at h;exact h
def mL(ro:Option Nat)(K:AD):AD:=AU (λe ds W=>FX prog Bs ro 137 168 (.loop (D6 prog 137 1)) e ds W (CB 2 (s6 ro K))) K
def AGR(v0 v1 v2 v3:Value)(K:AD)(W:CW):=by
 have h:RN 137 168 (Gc v0 v1 v2 v3) W K=ET 51 v0 v3 λa=>Ak a W λb=>ET 51 v0 v1 λc=>Ak c W λd=>ET 51 v0 v1 λf=>En f b W λg=>ET 51 v0 v3 λh=>En h d g λg=>F6 (Jn 9 c W d 9 a W b) (Jk v1 1 λi=>HB .sub v2 1 λj=>Fu 137 168 (Gc v0 v1 v2 v3) (F5 11 j 10 i (BL 29 j 28 v2 27 i 26 v1 (BL 25 h 24 f 23 d 22 c (BL 21 v1 20 v0 19 b 18 a (cZ 17 v3 16 v0 15 v3 14 (BN 13 v1 12 v0 9 Az 8 At)))))) g (mL none K)):=by kernel_rfl
 dsimp at h;exact h
def PH(ro:Option Nat)(K:AD):AD:=AU (λe ds W=>wV (DL prog .add 3 true (e 10) (.int .i64 1)) λv45=>K .normal (Env.of e [(10,v45),(45,v45),(44,(e 10))]) ds W) K
def T4(ro:Option Nat)(K:AD):AD:=AU (λe ds W=>wI (e 43) ((PH ro K) .normal e ds W) ((PH ro K) (.exit 0) e ds W)) (PH ro K)
def ACX(ro:Option Nat)(e:Env)(ds:List Deferred)(K:AD)(W:CW):=by
 have h:CV ro 137 168 e ds W K=JM .leq 3 e 10 (B0 e) λa=>let b:=CC 33 a 32 a 31 (B0 e) 30 e 10;LJ a (Bp e 10 λa=>Ak a W λc=>Bp e 1 λd=>Ak d W λf=>Lt c f W (λg h=>HM (Gq 9 d W f a c) (T4 ro K) e 43 g (IX 42 g 33 41 f 33 40 d (Fp 39 (Ag e) 33 38 e (BQ 37 c 33 36 a (Fp 35 (BM e) 33 34 e b)))) ds h) λ_ _=>False) True (T4 ro K) e 43 Az (Mi 42 undef 33 41 33 40 39 38 (DP 37 33 36 35 34 b)) ds W:=by kernel_rfl
 dsimp at h;exact h
def PI(ro:Option Nat)(K:AD):AD:=AU (λe ds W=>wV (DL prog .sub 3 true (e 11) (.int .i64 1)) λv62=>K .normal (Env.of e [(11,v62),(62,v62),(61,(e 11))]) ds W) K
def T5(ro:Option Nat)(K:AD):AD:=AU (λe ds W=>wI (e 60) ((PI ro K) .normal e ds W) ((PI ro K) (.exit 2) e ds W)) (PI ro K)
def ACY(ro:Option Nat)(e:Env)(ds:List Deferred)(K:AD)(W:CW):=by
 have h:Ei ro 137 168 1 e ds W K=JM .leq 3 e 10 (B0 e) λa=>let b:=CC 49 a 48 a 47 (B0 e) 46 e 10;LJ a (Bp e 11 λa=>Ak a W λc=>Bp e 1 λd=>Ak d W λf=>Lt c f W (λg h=>D2 g λi=>HM (Gq 9 d W f a c) (T5 ro K) e 60 i (BQ 59 i 49 58 g (BQ 57 f 49 56 d (Fp 55 (Ag e) 49 54 e (BQ 53 c 49 52 a (Fp 51 (B0 e) 49 50 e b))))) ds h) λ_ _=>False) True (T5 ro K) e 60 Az (J7 59 49 58 (DP 57 49 56 55 54 (DP 53 49 52 51 50 b))) ds W:=by kernel_rfl
 dsimp at h;exact h
def mM(ro:Option Nat)(K:AD):AD:=jz (λa b c=>JM .gtr 3 a 10 (B0 a) λd=>let f:=D4 134 d 133 (B0 a) 132 (BM a);wI d (jw K 4 a f b c) (Bp a 11 λd=>Ak d c λg=>Bp a 10 λh=>Ak h c λi=>Bp a 10 λj=>En j g c λk=>Bp a 11 λl=>En l i k λk=>F6 (Jn 9 h c i 9 d c g) (BP a 10 λc=>Em a 11 λm=>K4 K a (Bc 11 m 152 151 (B0 a) 10 c (BL 150 c 149 (BM a) 148 l 147 j (Bq 146 i 145 h 144 (BM a) 143 a (Bq 142 g 141 d 140 (B0 a) 139 a (Bq 138 (B0 a) 137 (BA a) 136 (BM a) 135 a f))))) b k))) 5 K
def qO:=by
 have h:=@mM.eq_1;dsimp at h;exact h
def mN(ro:Option Nat)(K:AD):AD:=AU (λe ds W=>FX prog Bs ro 137 168 (.loop (D6 prog 137 4)) e ds W (CB 8 (mM ro K))) (CB 5 K)
def ACZ(ro:Option Nat)(e:Env)(ds:List Deferred)(K:AD)(W:CW):=by
 have h:Ei ro 137 168 2 e ds W K=yQ ro 137 168 3 e ds W 6 (mN ro K):=by kernel_rfl
 dsimp at h;exact h
def T6(ro:Option Nat)(K:AD):AD:=AU (λa b c=>BP a 10 λd=>Ay K a 10 d (Bo 114 d 113 a 10) b c) K
def aX:=by
 have h:=@T6.eq_1;dsimp at h;exact h
def T7(ro:Option Nat)(K:AD):AD:=AU (λe ds W=>wI (e 112) ((T6 ro K) .normal e ds W) ((T6 ro K) (.exit 6) e ds W)) (T6 ro K)
def ACa(ro:Option Nat)(e:Env)(ds:List Deferred)(K:AD)(W:CW):=by
 have h:Ei ro 137 168 3 e ds W K=JM .leq 3 e 10 (B0 e) λa=>let b:=CC 102 a 101 a 100 (B0 e) 99 e 10;LJ a (Bp e 10 λa=>Ak a W λc=>Bp e 1 λd=>Ak d W λf=>Lt c f W (λg h=>HM (Gq 9 d W f a c) (T7 ro K) e 112 g (IX 111 g 102 110 f 102 109 d (Fp 108 (Ag e) 102 107 e (BQ 106 c 102 105 a (Fp 104 (BM e) 102 103 e b)))) ds h) λ_ _=>False) True (T7 ro K) e 112 Az (Mi 111 undef 102 110 102 109 108 107 (DP 106 102 105 104 103 b)) ds W:=by kernel_rfl
 dsimp at h;exact h
def T8(ro:Option Nat)(K:AD):AD:=AU (λa b c=>Em a 11 λd=>Ay K a 11 d (Bo 131 d 130 a 11) b c) K
def aY:=by
 have h:=@T8.eq_1;dsimp at h;exact h
def T9(ro:Option Nat)(K:AD):AD:=AU (λe ds W=>wI (e 129) ((T8 ro K) .normal e ds W) ((T8 ro K) (.exit 8) e ds W)) (T8 ro K)
def ACb(ro:Option Nat)(e:Env)(ds:List Deferred)(K:AD)(W:CW):=by
 have h:Ei ro 137 168 4 e ds W K=JM .leq 3 e 10 (B0 e) λa=>let b:=CC 118 a 117 a 116 (B0 e) 115 e 10;LJ a (Bp e 11 λa=>Ak a W λc=>Bp e 1 λd=>Ak d W λf=>Lt c f W (λg h=>D2 g λi=>HM (Gq 9 d W f a c) (T9 ro K) e 129 i (BQ 128 i 118 127 g (BQ 126 f 118 125 d (Fp 124 (Ag e) 118 123 e (BQ 122 c 118 121 a (Fp 120 (B0 e) 118 119 e b))))) ds h) λ_ _=>False) True (T9 ro K) e 129 Az (J7 128 118 127 (DP 126 118 125 124 123 (DP 122 118 121 120 119 b))) ds W:=by kernel_rfl
 dsimp at h;exact h
theorem qP(Q:Ending→CW→Prop)(e:Env)(W:CW):AM prog Tryz.f137 Q .ret e [] W=Q (.returned (.tuple #[e 8,e 9])) W:=by kernel_rfl
def AGS{Q v0 v1 v2 v3 W}:=FM 137 168 [v0,v1,v2,v3] Tryz.f137 Q W Tryz.func137 (by kernel_rfl)
def AGT(v0 v1 v2 v3:Value)(K:AD)(W:CW):=by
 have h:RN 150 76 (Gc v0 v1 v2 v3) W K=Fu 150 76 (Gc v0 v1 v2 v3) (Dh 8 v1 10 []) W K:=by kernel_rfl
 dsimp at h;exact h
def T'(ro:Option Nat)(K:AD):AD:=Ek (λa b c=>Jl 3 a 3 (A8 a) λd=>GC a d λf=>Ak f c λg=>Jl 3 a 3 (B5 a) λh=>GC a h λi=>Ak i c λj=>Lt g j c (λk l=>D2 k λm=>let d:=F5 52 m 51 k (FL 50 j 49 i 48 h 47 a 9 (BL 46 (BO a) 45 (BA a) 44 g 43 f (CC 42 d 41 (A8 a) 40 (BO a) 39 a 0)));F6 (Gq 9 i c j f g) (Of m K a d b l (Jl 3 a 3 (A8 a) λc=>Jl 3 a 3 (B5 a) λf=>Jl 3 a 3 (B5 a) λg=>GC a g λh=>Ak h l λi=>Jl 3 a 3 (A8 a) λj=>GC a j λk=>Ak k l λm=>GC a c λn=>En n i l λo=>GC a f λp=>En p m o λo=>IW (Jn 9 k l m 9 h l i) K a (BL 8 (B5 a) 75 (B5 a) 74 p 73 n (FL 72 m 71 k 70 j 69 a 8 (BL 68 (BO a) 67 (BA a) 66 i 65 h (Bq 64 g 63 (B5 a) 62 (BO a) 61 a (Bq 60 f 59 (B5 a) 58 (BO a) 57 a (Bq 56 c 55 (A8 a) 54 (BO a) 53 a d)))))) b o))) λ_ _=>False) K
def wJ:=by
 have h:=@T'.eq_1;dsimp at h;exact h
def YK(ro:Option Nat)(K:AD):AD:=AU (λa b c=>Qz a 36 (BP a 9 λd=>Ay (T' ro K) a 9 d (Bo 38 d 37 a 9) b c) (T' ro K) a b c) (T' ro K)
def wK:=by
 have h:=@YK.eq_1;dsimp at h;exact h
def ACc(ro:Option Nat)(e:Env)(ds:List Deferred)(K:AD)(W:CW):=by
 have h:CV ro 150 76 e ds W K=ZB .mul 3 true (RM 2) (A8 e) λa=>Jk a 1 λb=>Db .geq b (B7 e) λc=>let a:=DT 16 c 15 (B7 e) 14 b (CC 9 b 13 b 12 a 11 e 8);wI c (jw K 0 e a ds W) (Jk b 1 λc=>Db .lss c (B7 e) λd=>let a:=eC 21 d (BL 20 d 19 (B7 e) 18 c 17 b a);LJ d (Jl 3 e 3 b λc=>GC e c λd=>Ak d W λf=>Jl 3 e 3 b λg=>Jk g 1 λh=>GC e h λi=>Ak i W λj=>Lt f j W (λk l=>HM (Gq 9 i W j d f) (YK ro K) e 36 k (BQ 35 k 21 34 j (BQ 33 i 21 32 h (BQ 31 g 21 30 b (Fp 29 (BO e) 21 28 e (BQ 27 f 21 26 d (BQ 25 c 21 24 b (Fp 23 (BO e) 21 22 e a))))))) ds l) λ_ _=>False) True (YK ro K) e 36 Az (J7 35 21 34 (DP 33 21 32 31 30 (DP 29 21 28 27 26 (DP 25 21 24 23 22 a)))) ds W):=by kernel_rfl
 dsimp at h;exact h
def AGU{Q v0 v1 v2 v3 W}:=FM 150 76 [v0,v1,v2,v3] Tryz.f150 Q W Tryz.func150 (by kernel_rfl)
def AGV(v0 v1 v2:Value)(K:AD)(W:CW):=by
 have h:HQ 153 15 v0 v1 v2 W K=HB .sub v1 1 λa=>Jk v1 1 λb=>let c:=D0 13 v2 12 b 11 v1 10 (BN 9 a 8 v1 7 v0 6 At);jx 154 [v0,a,v1,b,v2] W (λa b=>GS K (Eg v0 v1 v2) (Dh 6 a 14 c) b) λa b=>H7 K a v0 v1 v2 c b:=by kernel_rfl
 dsimp at h;exact h
theorem qQ(Q:Ending→CW→Prop)(e:Env)(W:CW):AM prog Tryz.f153 Q .ret e [] W=Q (.returned (e 6)) W:=by kernel_rfl
def AGW{Q v0 v1 v2 W}:=FM 153 15 [v0,v1,v2] Tryz.f153 Q W Tryz.func153 (by kernel_rfl)
def AGX(v0 v1 v2 v3 v4:Value)(K:AD)(W:CW):=by
 have h:RN 154 36 (WO v0 v1 v2 v3 v4) W K=(let a:=eC 15 v4 (BN 14 v2 13 v1 12 v0 10 At);Me 160 v0 v1 v2 v4 W (λb c=>Dn b λd=>Dp b λf=>let a:=F5 23 v4 22 v3 (BL 21 f 20 v0 2 f 1 d (D0 18 f 17 d 11 b 16 a));Me 160 v0 f v3 v4 c (λb c=>Dn b λf=>Dp b λg=>let a:=F5 31 v4 30 f (BL 29 d 28 v0 3 g 2 f (D0 26 g 25 f 19 b 24 a));Me 160 v0 d f v4 c (λb c=>Dn b λd=>Dp b λf=>GS K (WO v0 v1 v2 v3 v4) (Bc 10 f 35 2 f 1 d (D0 34 f 33 d 27 b 32 a)) c) λb c=>LF K b (WO v0 v1 v2 v3 v4) a c) λb c=>LF K b (WO v0 v1 v2 v3 v4) a c) λb c=>LF K b (WO v0 v1 v2 v3 v4) a c):=by kernel_rfl
 dsimp at h;exact h
theorem qR(Q:Ending→CW→Prop)(e:Env)(W:CW):AM prog Tryz.f154 Q .ret e [] W=Q (.returned (e 10)) W:=by kernel_rfl
def AGY{Q v0 v1 v2 v3 v4 W}:=FM 154 36 [v0,v1,v2,v3,v4] Tryz.f154 Q W Tryz.func154 (by kernel_rfl)
def AGZ(v0:Value)(K:AD)(W:CW):=by
 have h:GQ 155 6 v0 W K=NQ .neq 9 v0 v0 λa=>GS K (CQ v0) (EW 2 a 5 4 v0 (G7 3 v0 2)) W:=by kernel_rfl
 dsimp at h;exact h
theorem qS(Q:Ending→CW→Prop)(e:Env)(W:CW):AM prog Tryz.f155 Q .ret e [] W=Q (.returned (e 2)) W:=by kernel_rfl
def AGa{Q v0 W}:=FM 155 6 [v0] Tryz.f155 Q W Tryz.func155 (by kernel_rfl)
def AGb(v0 v1 v2 v3:Value)(K:AD)(W:CW):=by
 have h:RN 160 28 (Gc v0 v1 v2 v3) W K=ET 51 v0 v2 λa=>Ak a W λb=>ET 51 v0 v1 λc=>Ak c W λd=>Lt b d W (λf g=>let h:=DT 18 f 17 d 16 c (BL 15 v1 14 v0 13 b 12 a (BN 11 v2 10 v0 9 At 8 At));F6 (Gq 9 c W d a b) (wI f (Gy v3 λa=>DQ a g λb=>Jk b 1 λc=>Gy v3 λd=>CL 3 d c g λf=>GS K (Gc v0 v1 v2 v3) (eC 9 v1 (BL 8 v2 25 v1 24 v2 23 d (BL 22 c 21 b 20 a 19 v3 h))) f) (GS K (Gc v0 v1 v2 v3) (cZ 9 v2 8 v1 27 v2 26 h) g))) λ_ _=>False:=by kernel_rfl
 dsimp at h;exact h
theorem aZ(Q:Ending→CW→Prop)(e:Env)(W:CW):AM prog Tryz.f160 Q .ret e [] W=Q (.returned (.tuple #[e 8,e 9])) W:=by kernel_rfl
def AGc{Q v0 v1 v2 v3 W}:=FM 160 28 [v0,v1,v2,v3] Tryz.f160 Q W Tryz.func160 (by kernel_rfl)
structure M3(dec:Int→ByteArray):Prop where
 lt:∀x y:Int,HH (sb (dec x)) (sb (dec y))=decide (x<y)
def sx(dec:Int→ByteArray)(l:List Int):List Value:=l.map λk=>Value.string (dec k)
theorem iR{dec:Int→ByteArray}(l:List Int):(sx dec l).length=l.length:=by unfold sx;rw[aaq]
def Ax(dec:Int→ByteArray)(W:CW)(b:Nat)(l:List Int):Prop:=A0 W b 9 (sx dec l)
def Dx(dec:Int→ByteArray)(W:CW)(b n:Nat):Prop:=∃l:List Int,l.length=n∧A0 W b 9 (sx dec l)
theorem BI{b n:Nat}{i:Int}(h0:0≤i)(h1:i<n):UK prog 51 (.slice (some ⟨b,0,none⟩) n n) (.int .i64 i)=some (.pointer (some ⟨b,0+i.toNat*1,none⟩)):=by
 have:=AY (P:=prog) LW s9 (a:=⟨b,0,none⟩) (len:=n) (cap:=n) (kk:=.i64) (i:=i.toNat) (by omega);rw[show((i.toNat:Nat):Int)=i by omega]at this;exact this
theorem Ax.da{dec:Int→ByteArray}{W:CW}{b:Nat}{l:List Int}(h:Ax dec W b l):Dx dec W b l.length:=⟨l,rfl,h⟩
theorem Ax.ld{dec:Int→ByteArray}{W:CW}{b:Nat}{l:List Int}(h:Ax dec W b l){i:Int}(h0:0≤i)(h1:i<l.length):Go.Ce.ld prog 9 (.pointer (some ⟨b,0+i.toNat*1,none⟩)) W=some (.string (dec (at_ l i))):=by
 have hx:=ck (show i.toNat<l.length by omega);refine AH a9 (a:=⟨b,0+i.toNat*1,none⟩) ?_;show W.cell b (0+i.toNat*1)=_;rw[show 0+i.toNat*1=i.toNat by omega];refine h.cell ?_;unfold sx at_;rw[aaz,hx];rfl
theorem Dx.ld{dec:Int→ByteArray}{W:CW}{b n:Nat}(h:Dx dec W b n){i:Int}(h0:0≤i)(h1:i<n):∃x,Go.Ce.ld prog 9 (.pointer (some ⟨b,0+i.toNat*1,none⟩)) W=some (.string (dec x)):=by
 obtain⟨l,hl,hB⟩:=h;have hB:Ax dec W b l:=hB;exact⟨_,hB.ld h0 (by omega)⟩
theorem Dx.lt{dec:Int→ByteArray}{W:CW}{b n:Nat}(h:Dx dec W b n)(ht:Ai W):b<W.sz:=by
 obtain⟨l,_,hB⟩:=h;exact hB.lt ht
theorem Dx.kp{dec:Int→ByteArray}{W W':CW}{b n:Nat}(h:Dx dec W b n)(ht:Ai W)(k:Kp W W'):Dx dec W' b n:=by
 obtain⟨l,hl,hB⟩:=h;exact⟨l,hl,hB.ext ht k⟩
theorem Dx.Dk{dec:Int→ByteArray}{W W':CW}{b n s:Nat}(h:Dx dec W b n)(ht:Ai W)(hc:Bw (·=s) W W')(D3:b≠s):Dx dec W' b n:=by
 obtain⟨l,hl,hB⟩:=h;exact⟨l,hl,hc.Fk ht D3 hB⟩
structure Sx(dec:Int→ByteArray)(A W:CW)(b:Nat)(lo hi:Int)(l0 l:List Int):Prop where
 Dk:Bw (·=b) A W
 top:Ai W
 ar:Ax dec W b l
 sw:SW lo hi l0 l
theorem Sx.start{dec:Int→ByteArray}{W:CW}{b:Nat}{lo hi:Int}{l:List Int}(ht:Ai W)(h:Ax dec W b l):Sx dec W W b lo hi l l:=⟨.refl _ _,ht,h,.refl⟩
theorem Sx.trans{dec:Int→ByteArray}{A W W':CW}{b:Nat}{lo hi:Int}{l0 l m:List Int}(h:Sx dec A W b lo hi l0 l)(k:Sx dec W W' b lo hi l m):Sx dec A W' b lo hi l0 m:=⟨h.Dk.then k.Dk λ_ _ h=>h,k.top,k.ar,h.sw.trans k.sw⟩
theorem Sx.mono{dec:Int→ByteArray}{A W:CW}{b:Nat}{lo hi wa LB:Int}{l0 l:List Int}(h:Sx dec A W b lo hi l0 l)(h1:wa≤lo)(h2:hi≤LB):Sx dec A W b wa LB l0 l:=⟨h.Dk,h.top,h.ar,h.sw.mono h1 h2⟩
theorem Sx.kp{dec:Int→ByteArray}{A W W':CW}{b:Nat}{lo hi:Int}{l0 l:List Int}(h:Sx dec A W b lo hi l0 l)(k:Kp W W')(t:Ai W'):Sx dec A W' b lo hi l0 l:=⟨h.Dk.then (Bw.HY k) λ_ _ h=>h,t,h.ar.ext h.top k,h.sw⟩
theorem mO{dec:Int→ByteArray}{A W:CW}{b:Nat}{lo hi:Int}{l0 l:List Int}(S:Sx dec A W b lo hi l0 l)(h0:0≤lo)(hl:hi≤l.length){i j:Int}(Fj:lo≤i)(iq:i<hi)(hj0:lo≤j)(mh:j<hi){K:CW→Prop}(hk:∀W',(∀j,j≠b→W'.obj j=W.obj j)→Sx dec A W' b lo hi l0 (mI l i j)→K W') :
  wV (M6 prog 9 (.pointer (some ⟨b,0+j.toNat*1,none⟩)) (.string (dec (at_ l i))) W) λW2=>wV (M6 prog 9 (.pointer (some ⟨b,0+i.toNat*1,none⟩)) (.string (dec (at_ l j))) W2) K:=by
 have AKE:∀{l:List Int} {k:Int} {x:Int},0≤k→k<l.length→putAt (sx dec l) (0+k.toNat*1) [.string (dec x)]=sx dec (l.set k.toNat x):=by
  intro l k x nR bD;apply aaN;intro j;have La:k.toNat<l.length:=by omega
  rw[JP (by rw[iR,aaH];omega),aaH];unfold sx;rw[aaz,aaz,abw]
  by_cases e:k.toNat=j
  ·rw[aae ⟨by omega,by omega⟩,aae e,aae La,show j-(0+k.toNat*1)=0 by omega];rfl
  ·rw[aad (by omega),aad e]
 have hB:A0 W b 9 (sx dec l):=S.ar;refine Ar s9 (a:=⟨b,0+j.toNat*1,none⟩) (v:=.string (dec (at_ l i))) rfl hB (by rw[iR];show 0+j.toNat*1<_;omega) λW2 QC HD=>?_;have QC:Ep b W W2:=QC;have HD:A0 W2 b 9 (putAt (sx dec l) (0+j.toNat*1) [.string (dec (at_ l i))]):=HD;rw[AKE (by omega) (by omega)]at HD;refine Ar s9 (a:=⟨b,0+i.toNat*1,none⟩) (v:=.string (dec (at_ l j))) rfl HD (by rw[iR,abZ];show 0+i.toNat*1<_;omega) λW3 UN IG=>?_;have UN:Ep b W2 W3:=UN;have IG:A0 W3 b 9 (putAt (sx dec (l.set j.toNat (at_ l i))) (0+i.toNat*1) [.string (dec (at_ l j))]):=IG;rw[AKE (by omega) (by rw[abZ];omega)]at IG;have t2:=S.top.Ba (hB.lt S.top) QC;exact hk W3 (λj hj=>by rw[UN.obj j hj,QC.obj j hj]) ⟨(S.Dk.then QC.Dk λ_ _ h=>h).then UN.Dk λ_ _ h=>h,t2.Ba (HD.lt t2) UN,IG,S.sw.step Fj iq hj0 mh⟩
theorem GX{dec:Int→ByteArray}{A W:CW}{b:Nat}{lo hi:Int}{l0 l:List Int}(S:Sx dec A W b lo hi l0 l)(h0:0≤lo)(hl:hi≤l.length){i j:Int}(Fj:lo≤i)(iq:i<hi)(hj0:lo≤j)(mh:j<hi){K:CW→Prop}(hk:∀W',Sx dec A W' b lo hi l0 (mI l i j)→K W') :
  wV (M6 prog 9 (.pointer (some ⟨b,0+j.toNat*1,none⟩)) (.string (dec (at_ l i))) W) λW2=>wV (M6 prog 9 (.pointer (some ⟨b,0+i.toNat*1,none⟩)) (.string (dec (at_ l j))) W2) K:=mO S h0 hl Fj iq hj0 mh λW' _ S'=>hk W' S'
def SrX(dec:Int→ByteArray)(b:Nat)(lo hi:Int)(l:List Int)(Q:List Int→Prop)(W:CW):Ending→CW→Prop:=λen W'=>en=.returned (.tuple #[])∧∃m,Sx dec W W' b lo hi l m∧Q m
theorem Df{dec:Int→ByteArray}(D:M3 dec)(x y:Int)(W:CW):Ac prog Bs 135 [.string (dec x),.string (dec y)] W (FY (.bool (decide (x<y))) W):=by
 refine AGO ?_;rw[AGN]
 have AMn:∀s:ByteArray,Ac prog Bs 155 [.string s] W (FY (.bool false) W):=by
  intro s;refine AGa ?_;rw[AGZ];simp only[K6,AA,Ou,aav];rw[qS];exact⟨rfl,rfl⟩
 refine As (AMn _) ?_;simp only[AT,dN,AA,P8,Aj,ZQ,D.lt];rw[qM];exact⟨rfl,rfl⟩
theorem PJ{dec:Int→ByteArray}(D:M3 dec){W:CW}{b n s:Nat}{i j k lo hi:Int}(ht:Ai W)(hd:Dx dec W b n)(hs:A0 W s 3 [.int .i64 k])(OB:0≤lo)(L_:hi≤n)(Fj:lo≤i∧i<hi)(hj0:lo≤j∧j<hi) :
  Ac prog Bs 160 [.slice (some ⟨b,0,none⟩) n n,.int .i64 i,.int .i64 j,.pointer (some ⟨s,0,none⟩)] W (λen W'=>Bw (·=s) W W'∧Ai W'∧(∃k',A0 W' s 3 [.int .i64 k'])∧∃p q,en=.returned (.tuple #[.int .i64 p,.int .i64 q])∧lo≤p∧p<hi∧lo≤q∧q<hi):=by
 refine AGc ?_;rw[AGb];obtain⟨x,hx⟩:=hd.ld (i:=j) (by omega) (by omega);obtain⟨y,hy⟩:=hd.ld (i:=i) (by omega) (by omega);rw[BI (by omega) (by omega),BI (by omega) (by omega)];simp only[hx,hy,AA];refine As (Df D x y W) ?_;refine⟨by simp only[and_self],trivial,?_⟩
 refine AF (λ_=>?_) (λ_=>?_)
 ·simp only[By,AA];rw[AH a3 (a:=⟨s,0,none⟩) (hs.cell rfl)];simp only[AA,AK];refine Ar s3 (a:=⟨s,0,none⟩) rfl hs (by simp) λW2 hu hB=>?_;have hu:Ep s W W2:=hu;rw[aZ];exact⟨hu.Dk,ht.Ba (hs.lt ht) hu,⟨_,hB⟩,j,i,rfl,hj0.1,hj0.2,Fj.1,Fj.2⟩
 ·rw[aZ];exact⟨.refl _ _,ht,⟨k,hs⟩,i,j,rfl,Fj.1,Fj.2,hj0.1,hj0.2⟩
theorem T_{dec:Int→ByteArray}(D:M3 dec){W:CW}{b n s:Nat}{i j k c lo hi:Int}(ht:Ai W)(hd:Dx dec W b n)(hs:A0 W s 3 [.int .i64 c])(D3:b≠s)(OB:0≤lo)(L_:hi≤n)(Fj:lo≤i∧i<hi)(hj0:lo≤j∧j<hi)(nR:lo≤k∧k<hi) :
  Ac prog Bs 154 [.slice (some ⟨b,0,none⟩) n n,.int .i64 i,.int .i64 j,.int .i64 k,.pointer (some ⟨s,0,none⟩)] W (λen W'=>Bw (·=s) W W'∧Ai W'∧(∃k',A0 W' s 3 [.int .i64 k'])∧∃p,en=.returned (.int .i64 p)∧lo≤p∧p<hi):=by
 refine AGY ?_;rw[AGX];refine(PJ D ht hd hs OB L_ Fj hj0).mono λen W1 ⟨c1,t1,⟨s1,bU⟩,p1,q1,he,a1,a2,a3',a4'⟩=>?_;subst he;refine AL ?_;refine Ap (CN _ _) ?_;refine Ap (CO _ _) ?_;have zg:=hd.Dk ht c1 D3;refine(PJ D t1 zg bU OB L_ ⟨a3',a4'⟩ nR).mono λen W2 ⟨c2,t2,⟨s2,UJ⟩,p2,q2,he,b1,b2,b3,b4⟩=>?_;subst he;refine AL ?_;refine Ap (CN _ _) ?_;refine Ap (CO _ _) ?_;have hd2:=zg.Dk t1 c2 D3;refine(PJ D t2 hd2 UJ OB L_ ⟨a1,a2⟩ ⟨b1,b2⟩).mono λen W3 ⟨c3,t3,⟨s3,ug⟩,p3,q3,he,d1,d2,d3,d4⟩=>?_;subst he;refine AL ?_;refine Ap (CN _ _) ?_;refine Ap (CO _ _) ?_;rw[qR];exact⟨(c1.then c2 λ_ _ h=>h).then c3 λ_ _ h=>h,t3,⟨_,ug⟩,q3,rfl,d3,d4⟩
theorem Vq{dec:Int→ByteArray}(D:M3 dec){W:CW}{b n s:Nat}{i c lo hi:Int}(ht:Ai W)(hd:Dx dec W b n)(hs:A0 W s 3 [.int .i64 c])(D3:b≠s)(hn:n≤1000000)(OB:0≤lo)(L_:hi≤n)(h0:lo<i)(h1:i+1<hi) :
  Ac prog Bs 153 [.slice (some ⟨b,0,none⟩) n n,.int .i64 i,.pointer (some ⟨s,0,none⟩)] W (λen W'=>Bw (·=s) W W'∧Ai W'∧(∃k',A0 W' s 3 [.int .i64 k'])∧∃p,en=.returned (.int .i64 p)∧lo≤p∧p<hi):=by
 refine AGW ?_;rw[AGV];simp only[Am,AK,AA];rw[wrap64 (x:=i-1) (by omega) (by omega),wrap64 (x:=i+1) (by omega) (by omega)];refine(T_ D ht hd hs D3 OB L_ (i:=i-1) (j:=i) (k:=i+1) (by omega) (by omega) (by omega)).mono λen W1 ⟨c1,t1,h2,p,he,a1,a2⟩=>?_;subst he;refine AL ?_;rw[qQ];exact⟨c1,t1,h2,p,rfl,a1,a2⟩
theorem mP{dec:Int→ByteArray}(D:M3 dec){W:CW}{b n:Nat}{lo hi:Int}(ht:Ai W)(hd:Dx dec W b n)(hn:n≤1000000)(OB:0≤lo)(L_:hi≤n)(h8:8≤hi-lo) :
  Ac prog Bs 132 [.slice (some ⟨b,0,none⟩) n n,.int .i64 lo,.int .i64 hi] W (λen W'=>Kp W W'∧Ai W'∧∃p h,en=.returned (.tuple #[.int .i64 p,.int .i64 h])∧lo≤p∧p<hi):=by
 refine AGI ?_;rw[AGH];simp only[Am,AA];rw[wrap64 (by omega) (by omega)];refine LL z3 s3 ht λW0 k0 t0 z0 hB=>?_;have hB:A0 W0 W.sz 3 [.int .i64 0]:=hB;have kY:=hd.lt ht;have hd0:=hd.kp ht k0;rw[AAe (by omega) (by omega) (by omega)];simp only[Oq,AK,Bt,AA];rw[wrap64 (x:=(hi-lo)/4*1) (by omega) (by omega),wrap64 (x:=(hi-lo)/4*2) (by omega) (by omega),wrap64 (x:=(hi-lo)/4*3) (by omega) (by omega),wrap64 (x:=lo+(hi-lo)/4*1) (by omega) (by omega),wrap64 (x:=lo+(hi-lo)/4*2) (by omega) (by omega),wrap64 (x:=lo+(hi-lo)/4*3) (by omega) (by omega),decide_eq_true (show hi-lo≥8 by omega)];simp only[Af]
 have fin:∀(e:Env) (x y z:Int) W1,Kp W W1→Ai W1→Bw (·=W.sz) W0 W1→(∃k,A0 W1 W.sz 3 [.int .i64 k])→e 0=.slice (some ⟨b,0,none⟩) n n→e 9=.pointer (some ⟨W.sz,0,none⟩)→e 10=.int .i64 x→e 11=.int .i64 y→e 12=.int .i64 z→lo≤x∧x<hi→lo≤y∧y<hi→lo≤z∧z<hi→(Nr none (AM prog Tryz.f132 λen W'=>Kp W W'∧Ai W'∧∃p h,en=.returned (.tuple #[.int .i64 p,.int .i64 h])∧lo≤p∧p<hi)) .normal e [] W1:=by
  intro e x y z W1 k1 t1 c1 ⟨k,hs⟩ g0 g9 bJ g11 pY bx by_ bz;simp only[wC,Aj,g0,g9,bJ,g11,pY];refine(T_ D t1 (hd.kp ht k1) hs (by omega) OB L_ bx by_ bz).mono λen W2 ⟨c2,t2,⟨k2,UJ⟩,p,he,YL,TZ⟩=>?_;subst he;refine AL ?_;have kW:Kp W W2:=Bw.kp k1 c2 λj hj=>by omega
  simp only[wB,Aj];simp only[AG,AJ,Nat.reduceEqDiff,↓reduceIte,g9];rw[AH a3 (a:=⟨W.sz,0,none⟩) (UJ.cell rfl)];simp only[AA,BD]
  refine AF (λ_=>?_) (λ_=>AF (λ_=>?_) (λ_=>?_))
  ·rw[Rv];exact⟨kW,t2,p,1,rfl,YL,TZ⟩
  ·rw[Rv];exact⟨kW,t2,p,2,rfl,YL,TZ⟩
  ·rw[Rv];exact⟨kW,t2,p,0,rfl,YL,TZ⟩
 refine AF (λh50=>?_) (λh50=>?_)
 ·have h50:=of_decide_eq_true h50;refine(Vq D t0 hd0 hB (by omega) hn OB L_ (i:=lo+(hi-lo)/4*1) (by omega) (by omega)).mono λen W1 ⟨c1,t1,⟨k1,bU⟩,p1,he,a1,a2⟩=>?_;subst he;refine AL ?_;have kW1:Kp W W1:=Bw.kp k0 c1 λj hj=>by omega
  refine(Vq D t1 (hd.kp ht kW1) bU (by omega) hn OB L_ (i:=lo+(hi-lo)/4*2) (by omega) (by omega)).mono λen W2 ⟨c2,t2,⟨k2,UJ⟩,p2,he,b1,b2⟩=>?_;subst he;refine AL ?_;have kW2:Kp W W2:=Bw.kp kW1 c2 λj hj=>by omega
  refine(Vq D t2 (hd.kp ht kW2) UJ (by omega) hn OB L_ (i:=lo+(hi-lo)/4*3) (by omega) (by omega)).mono λen W3 ⟨c3,t3,⟨k3,ug⟩,p3,he,d1,d2⟩=>?_;subst he;refine AL ?_;have kW3:Kp W W3:=Bw.kp kW2 c3 λj hj=>by omega
  exact fin _ p1 p2 p3 W3 kW3 t3 ((c1.then c2 λ_ _ h=>h).then c3 λ_ _ h=>h) ⟨_,ug⟩ (by simp only[AG,AJ,Lc,Nat.reduceEqDiff,↓reduceIte,Nb,Kn]) (by simp only[AG,Nat.reduceEqDiff,↓reduceIte]) (by simp only[AG,Nat.reduceEqDiff,↓reduceIte]) (by simp only[AG,Nat.reduceEqDiff,↓reduceIte]) (by simp only[AG,↓reduceIte]) ⟨a1,a2⟩ ⟨b1,b2⟩ ⟨d1,d2⟩
 ·exact fin _ (lo+(hi-lo)/4*1) (lo+(hi-lo)/4*2) (lo+(hi-lo)/4*3) W0 k0 t0 (.refl _ _) ⟨_,hB⟩ (by simp only[AG,AJ,Lc,Nat.reduceEqDiff,↓reduceIte,Nb,Kn]) (by simp only[AG,Nat.reduceEqDiff,↓reduceIte]) (by simp only[AG,Nat.reduceEqDiff,↓reduceIte]) (by simp only[AG,Nat.reduceEqDiff,↓reduceIte]) (by simp only[AG,Nat.reduceEqDiff,↓reduceIte]) (by omega) (by omega) (by omega)
theorem Sx.len{dec:Int→ByteArray}{A W:CW}{b n:Nat}{lo hi:Int}{l m:List Int}(S:Sx dec A W b lo hi l m)(hn:l.length=n):m.length=n:=by rw[S.sw.len,hn]
theorem AAm{dec:Int→ByteArray}{W:CW}{b n:Nat}{lo hi:Int}{l:List Int}(ht:Ai W)(hd:Ax dec W b l)(OK:l.length=n)(hn:n≤1000000)(OB:0≤lo)(L_:hi≤n)(mf:lo≤hi) :
  Ac prog Bs 133 [.slice (some ⟨b,0,none⟩) n n,.int .i64 lo,.int .i64 hi] W (SrX dec b lo hi l (λ_=>True) W):=by
 refine AGK ?_;rw[AGJ];simp only[Am,AA];rw[wrap64 (by omega) (by omega)];refine CX (λk e ds W'=>ds=[]∧(∃m,Sx dec W W' b lo hi l m)∧e 0=.slice (some ⟨b,0,none⟩) n n∧∃i j:Int,e 6=.int .i64 i∧e 7=.int .i64 j∧lo≤i∧lo-1≤j∧j<hi∧i≤hi∧(j-i+2).toNat=k) (hi-1-lo+2).toNat ⟨rfl,⟨l,.start ht hd⟩,rfl,lo,hi-1,rfl,rfl,by omega,by omega,by omega,by omega,rfl⟩ ?_;rintro k e ds W' ⟨rfl,⟨m,S⟩,h0,i,j,h6,h7,i0,j0,j1,i1,hk⟩;have M9:=S.len OK;rw[ACP,h0,h6,h7];simp only[AP,AA]
 refine Rt (λAd=>?_) (λGZ=>?_)
 ·have hx:=S.ar.ld (i:=j) (by omega) (by omega);have hy:=S.ar.ld (i:=i) (by omega) (by omega);rw[BI (by omega) (by omega),BI (by omega) (by omega)];simp only[hx,hy,AA];refine GX S OB (by omega) (i:=j) (j:=i) (by omega) (by omega) (by omega) (by omega) λW3 S3=>?_;refine⟨by simp only[and_self],trivial,?_⟩;simp only[AK,Am,AA,Oo];rw[wrap64 (x:=i+1) (by omega) (by omega),wrap64 (x:=j-1) (by omega) (by omega)];exact⟨(j-1-(i+1)+2).toNat,by omega,trivial,⟨_,S3⟩,by simp only[AG,AJ,Nat.reduceEqDiff,↓reduceIte,h0],i+1,j-1,by simp only[AG,Nat.reduceEqDiff,↓reduceIte],by simp only[AG,↓reduceIte],by omega,by omega,by omega,by omega,rfl⟩
 ·simp only[Er,M7,aar];exact Hw (by kernel_rfl) _ _ (.inl rfl) _ _ ⟨rfl,m,S,trivial⟩
theorem qU{dec:Int→ByteArray}(D:M3 dec){W:CW}{b n:Nat}{lo hi:Int}{l:List Int}(ht:Ai W)(hd:Ax dec W b l)(OK:l.length=n)(hn:n≤1000000)(OB:0≤lo)(L_:hi≤n)(mf:lo≤hi) :
  Ac prog Bs 129 [.slice (some ⟨b,0,none⟩) n n,.int .i64 lo,.int .i64 hi] W (SrX dec b lo hi l (Std lo hi) W):=by
 refine AAl ?_;rw[AAk];simp only[AK,AA];rw[wrap64 (by omega) (by omega)];generalize FI:AM prog Tryz.f129 (SrX dec b lo hi l (Std lo hi) W)=KK;refine CX (λk e ds W'=>ds=[]∧e 0=.slice (some ⟨b,0,none⟩) n n∧e 1=.int .i64 lo∧e 2=.int .i64 hi∧∃(i:Int) (m:List Int),e 6=.int .i64 i∧lo<i∧i≤hi+1∧Sx dec W W' b lo hi l m∧Std lo i m∧(hi+1-i).toNat=k) (hi+1-(lo+1)).toNat ⟨rfl,rfl,rfl,rfl,lo+1,l,rfl,by omega,by omega,.start ht hd,λx y hx MY hy=>by omega,rfl⟩ ?_;rintro k e ds W' ⟨rfl,h0,h1,h2,i,m,h6,i0,i1,S,FJ,hk⟩;rw[so,h2,h6];simp only[AP,AA];refine Rt (λAd=>?_) (λGZ=>?_)
 rotate_left
 ·simp only[Er,M7,aar];rw[←FI];exact Hw (by kernel_rfl) _ _ (.inl rfl) _ _ ⟨rfl,m,S,λx y hx MY hy=>FJ x y hx MY (by omega)⟩
 refine CX (λk e ds W'=>ds=[]∧e 0=.slice (some ⟨b,0,none⟩) n n∧e 1=.int .i64 lo∧e 2=.int .i64 hi∧e 6=.int .i64 i∧∃(j:Int) (m:List Int),e 7=.int .i64 j∧lo≤j∧j≤i∧Sx dec W W' b lo hi l m∧mJ lo i j m∧j.toNat=k) i.toNat ?_ ?_
 ·exact⟨rfl,by simp only[AG,AJ,Nat.reduceEqDiff,↓reduceIte,h0],by simp only[AG,AJ,Nat.reduceEqDiff,↓reduceIte,h1],by simp only[AG,AJ,Nat.reduceEqDiff,↓reduceIte,h2],by simp only[AG,AJ,Nat.reduceEqDiff,↓reduceIte,h6],i,m,by simp only[AG,↓reduceIte],by omega,by omega,S,λx y hx MY hy D3=>FJ x y hx MY (by omega),rfl⟩
 rintro k' e ds W' ⟨rfl,h0,h1,h2,h6,j,m,h7,j0,j1,S,hI,hk'⟩;have M9:=S.len OK;rw[ACK,h0,h1,h7];simp only[Ae,AA]
 have k5:∀(e2:Env) (q:Bool),e2 30=.bool q→e2 0=.slice (some ⟨b,0,none⟩) n n→e2 1=.int .i64 lo→e2 2=.int .i64 hi→e2 6=.int .i64 i→e2 7=.int .i64 j→(q=true→lo<j∧at_ m j<at_ m (j-1))→(q=false→j=lo∨at_ m (j-1)≤at_ m j)→(YC none (EB (λk e ds W'=>ds=[]∧e 0=.slice (some ⟨b,0,none⟩) n n∧e 1=.int .i64 lo∧e 2=.int .i64 hi∧e 6=.int .i64 i∧∃(j:Int) (m:List Int),e 7=.int .i64 j∧lo≤j∧j≤i∧Sx dec W W' b lo hi l m∧mJ lo i j m∧j.toNat=k) k' (CB 2 (CB 1 (iO none (EB (λk e ds W'=>ds=[]∧e 0=.slice (some ⟨b,0,none⟩) n n∧e 1=.int .i64 lo∧e 2=.int .i64 hi∧∃(i:Int) (m:List Int),e 6=.int .i64 i∧lo<i∧i≤hi+1∧Sx dec W W' b lo hi l m∧Std lo i m∧(hi+1-i).toNat=k) k (CB 0 KK))))))) .normal e2 [] W':=by
  intro e2 q g30 g0 g1 g2 g6 g7 hq dS;simp only[YC,Aj,g30]
  refine AF (λhb=>?_) (λhb=>?_)
  ·obtain⟨hj,bt⟩:=hq hb;simp only[eX,Aj,g0,g7,Am,AA];rw[wrap64 (by omega) (by omega)];have hx:=S.ar.ld (i:=j-1) (by omega) (by omega);have hy:=S.ar.ld (i:=j) (by omega) (by omega);rw[BI (by omega) (by omega),BI (by omega) (by omega)];simp only[hx,hy,AA];refine GX S OB (by omega) (i:=j-1) (j:=j) (by omega) (by omega) (by omega) (by omega) λW3 S3=>?_;refine⟨by simp only[and_self],trivial,?_⟩;simp only[eW,Aj,Oo];simp only[AG,AJ,Nat.reduceEqDiff,↓reduceIte,g7,Am,AA];rw[wrap64 (by omega) (by omega)];exact⟨(j-1).toNat,by omega,trivial,by simp only[g0],by simp only[g1],by simp only[g2],by simp only[g6],j-1,_,by simp only[AG],by omega,by omega,S3,hI.step OB hj j1 (by omega) bt,rfl⟩
  ·simp only[eX,eW,vq,Er,wy,LM,Aj,M7,Oo,aar,g6,AK,AA];rw[wrap64 (by omega) (by omega)];exact⟨(hi+1-(i+1)).toNat,by omega,trivial,by simp only[AG,AJ,Nat.reduceEqDiff,↓reduceIte,g0],by simp only[AG,AJ,Nat.reduceEqDiff,↓reduceIte,g1],by simp only[AG,AJ,Nat.reduceEqDiff,↓reduceIte,g2],i+1,m,by simp only[AG,↓reduceIte],by omega,by omega,S,hI.done j0 (dS hb) (by omega),rfl⟩
 refine aR (λOa=>?_) (λhle=>?_)
 ·have hx:=S.ar.ld (i:=j) (by omega) (by omega);have hy:=S.ar.ld (i:=j-1) (by omega) (by omega);rw[BI (by omega) (by omega)];simp only[hx,AA,Am];rw[wrap64 (by omega) (by omega),BI (by omega) (by omega)];simp only[hy,AA];refine As (Df D _ _ W') ?_;refine⟨by simp only[and_self],trivial,?_⟩;exact k5 _ (decide (at_ m j<at_ m (j-1))) (by simp only[AG,↓reduceIte]) (by simp only[AG,AJ,Nat.reduceEqDiff,↓reduceIte,h0]) (by simp only[AG,AJ,Nat.reduceEqDiff,↓reduceIte,h1]) (by simp only[AG,AJ,Nat.reduceEqDiff,↓reduceIte,h2]) (by simp only[AG,AJ,Nat.reduceEqDiff,↓reduceIte,h6]) (by simp only[AG,AJ,Nat.reduceEqDiff,↓reduceIte,h7]) (λh=>⟨Oa,of_decide_eq_true h⟩) λh=>.inr (by have:=of_decide_eq_false h;omega)
 ·refine⟨trivial,trivial,?_⟩;exact k5 _ false (by simp only[AG,↓reduceIte]) (by simp only[AG,AJ,Nat.reduceEqDiff,↓reduceIte,h0]) (by simp only[AG,AJ,Nat.reduceEqDiff,↓reduceIte,h1]) (by simp only[AG,AJ,Nat.reduceEqDiff,↓reduceIte,h2]) (by simp only[AG,AJ,Nat.reduceEqDiff,↓reduceIte,h6]) (by simp only[AG,AJ,Nat.reduceEqDiff,↓reduceIte,h7]) (λh=>(by cases h)) λ_=>.inl (by omega)
def PXo(dec:Int→ByteArray)(W:CW)(b n:Nat)(lo hi:Int)(l:List Int)(k:Nat)(e:Env)(ds:List Deferred)(W':CW):Prop:=ds=[]∧e 0=.slice (some ⟨b,0,none⟩) n n∧e 1=.int .i64 lo∧e 2=.int .i64 hi∧∃(i s:Int) (m:List Int),e 7=.int .i64 i∧e 8=.int .i64 s∧lo<i∧i≤hi∧0≤s∧s≤5∧Sx dec W W' b lo hi l m∧Std lo i m∧(5-s).toNat=k
def PXi(dec:Int→ByteArray)(W:CW)(b n:Nat)(lo hi:Int)(l:List Int)(s:Int)(m:List Int)(k:Nat)(e:Env)(ds:List Deferred)(W':CW):Prop:=ds=[]∧e 0=.slice (some ⟨b,0,none⟩) n n∧e 1=.int .i64 lo∧e 2=.int .i64 hi∧∃i:Int,e 7=.int .i64 i∧e 8=.int .i64 s∧lo<i∧i≤hi∧Sx dec W W' b lo hi l m∧Std lo i m∧(hi+1-i).toNat=k
def PXl(dec:Int→ByteArray)(W:CW)(b n:Nat)(lo hi:Int)(l:List Int)(s i:Int)(k:Nat)(e:Env)(ds:List Deferred)(W':CW):Prop:=ds=[]∧e 0=.slice (some ⟨b,0,none⟩) n n∧e 1=.int .i64 lo∧e 2=.int .i64 hi∧e 7=.int .i64 i∧e 8=.int .i64 s∧∃(j:Int) (m:List Int),e 9=.int .i64 j∧lo≤j∧j≤i-1∧Sx dec W W' b lo hi l m∧mJ lo (i-1) j m∧j.toNat=k
def PXr(dec:Int→ByteArray)(W:CW)(b n:Nat)(lo hi:Int)(l:List Int)(s i:Int)(k:Nat)(e:Env)(ds:List Deferred)(W':CW):Prop:=ds=[]∧e 0=.slice (some ⟨b,0,none⟩) n n∧e 1=.int .i64 lo∧e 2=.int .i64 hi∧e 7=.int .i64 i∧e 8=.int .i64 s∧∃(j:Int) (m:List Int),e 10=.int .i64 j∧i<j∧j≤hi∧Sx dec W W' b lo hi l m∧Std lo i m∧(hi-j).toNat=k
theorem AAn{dec:Int→ByteArray}(D:M3 dec){W:CW}{b n:Nat}{lo hi:Int}{l:List Int}(ht:Ai W)(hd:Ax dec W b l)(OK:l.length=n)(hn:n≤1000000)(OB:0≤lo)(L_:hi≤n)(mf:lo<hi)(A5:0<lo→∀x,lo≤x→x<hi→at_ l (lo-1)≤at_ l x) :
  Ac prog Bs 134 [.slice (some ⟨b,0,none⟩) n n,.int .i64 lo,.int .i64 hi] W (λen W'=>∃q m,en=.returned (.bool q)∧Sx dec W W' b lo hi l m∧(q=true→Std lo hi m)):=by
 refine AGM ?_;rw[AGL];generalize FI:AM prog Tryz.f134 (λen W'=>∃q m,en=.returned (.bool q)∧Sx dec W W' b lo hi l m∧(q=true→Std lo hi m))=KK
 have Gd:∀(e:Env) q W' m,e 6=.bool q→Sx dec W W' b lo hi l m→(q=true→Std lo hi m)→KK .ret e [] W':=by
  intro e q W' m h6 S hq;rw[←FI,qL,h6];exact⟨q,m,rfl,S,hq⟩
 have AKF:∀{W' m},Sx dec W W' b lo hi l m→0<lo→∀x,lo≤x→x<hi→at_ m (lo-1)≤at_ m x:=by
  intro W' m S h0 x hx Wd;rw[S.sw.out OB (by omega) (by omega) (.inl (by omega))];exact S.sw.all (P:=λv=>at_ l (lo-1)≤v) OB (by omega) (A5 h0) x hx Wd
 simp only[AK,AA];rw[wrap64 (by omega) (by omega)];refine CX (PXo dec W b n lo hi l) 5 ⟨rfl,rfl,rfl,rfl,lo+1,0,l,rfl,rfl,by omega,by omega,by omega,by omega,.start ht hd,λx y hx MY hy=>by omega,rfl⟩ ?_;rintro k e ds W1 ⟨rfl,h0,h1,h2,i,s,m,h7,h8,i0,i1,s0,s1,S,FJ,hk⟩;rw[ACQ,h8];simp only[AP,AA];refine Rt (λAd=>?_) (λGZ=>?_)
 rotate_left
 ·simp only[Er,M7,aar,Jd,Aj];exact Gd _ false _ m (by simp only[AG,↓reduceIte]) S λh=>(by cases h)
 have k1:∀(e2:Env) W2 i m,e2 0=.slice (some ⟨b,0,none⟩) n n→e2 1=.int .i64 lo→e2 2=.int .i64 hi→e2 7=.int .i64 i→e2 8=.int .i64 s→lo<i→i≤hi→Sx dec W W2 b lo hi l m→Std lo i m→(Ky none (EB (PXo dec W b n lo hi l) k (CB 0 (Jd none KK)))) .normal e2 [] W2:=by
  intro e2 W2 i m g0 g1 g2 g7 g8 j0 j1 S2 UJ;simp only[Vp,Aj,Oo,g8,AK,AA];rw[wrap64 (by omega) (by omega)];exact⟨(5-(s+1)).toNat,by omega,rfl,by simp only[AG,AJ,Nat.reduceEqDiff,↓reduceIte,g0],by simp only[AG,AJ,Nat.reduceEqDiff,↓reduceIte,g1],by simp only[AG,AJ,Nat.reduceEqDiff,↓reduceIte,g2],i,s+1,m,by simp only[AG,AJ,Nat.reduceEqDiff,↓reduceIte,g7],by simp only[AG,↓reduceIte],j0,j1,by omega,by omega,S2,UJ,rfl⟩
 have k4:∀(e2:Env) W2 i m,e2 0=.slice (some ⟨b,0,none⟩) n n→e2 1=.int .i64 lo→e2 2=.int .i64 hi→e2 7=.int .i64 i→e2 8=.int .i64 s→lo<i→i≤hi→Sx dec W W2 b lo hi l m→Std lo i m→(Tz none (EB (PXo dec W b n lo hi l) k (CB 0 (Jd none KK)))) .normal e2 [] W2:=by
  intro e2 W2 i m g0 g1 g2 g7 g8 j0 j1 S2 UJ;simp only[wD,Aj,g2,g7,Am,Bt,AK,AA];rw[wrap64 (x:=hi-i) (by omega) (by omega)];refine Ru (λGZ=>?_) (λAd=>?_)
  rotate_left
  ·exact k1 _ W2 i m (by simp only[AG,AJ,Nat.reduceEqDiff,↓reduceIte,g0]) (by simp only[AG,AJ,Nat.reduceEqDiff,↓reduceIte,g1]) (by simp only[AG,AJ,Nat.reduceEqDiff,↓reduceIte,g2]) (by simp only[AG,AJ,Nat.reduceEqDiff,↓reduceIte,g7]) (by simp only[AG,AJ,Nat.reduceEqDiff,↓reduceIte,g8]) j0 j1 S2 UJ
  rw[wrap64 (x:=i+1) (by omega) (by omega)];refine CX (PXr dec W b n lo hi l s i) (hi-(i+1)).toNat ⟨rfl,by simp only[AG,AJ,Nat.reduceEqDiff,↓reduceIte,g0],by simp only[AG,AJ,Nat.reduceEqDiff,↓reduceIte,g1],by simp only[AG,AJ,Nat.reduceEqDiff,↓reduceIte,g2],by simp only[AG,AJ,Nat.reduceEqDiff,↓reduceIte,g7],by simp only[AG,AJ,Nat.reduceEqDiff,↓reduceIte,g8],i+1,m,by simp only[AG,↓reduceIte],by omega,by omega,S2,UJ,rfl⟩ ?_;clear g0 g1 g2 g7 g8 S2 UJ S FJ;rintro k' e3 ds W3 ⟨rfl,g0,g1,g2,g7,g8,j,m,bJ,jj0,jj1,S3,ug,hk'⟩;have M9:=S3.len OK
  have done:∀(e4:Env),e4 0=.slice (some ⟨b,0,none⟩) n n→e4 1=.int .i64 lo→e4 2=.int .i64 hi→e4 7=.int .i64 i→e4 8=.int .i64 s→(CB 6 (CB 1 (Ky none (EB (PXo dec W b n lo hi l) k (CB 0 (Jd none KK)))))) (.exit 6) e4 [] W3:=by
   intro e4 q0 q1 q2 q7 q8;simp only[Er,aar,wy];exact k1 e4 W3 i m q0 q1 q2 q7 q8 j0 j1 S3 ug
  rw[ACT,g0,g2,bJ];simp only[AP,AA];refine Rt (λMV=>?_) (λOF=>?_)
  rotate_left
  ·simp only[M7];exact done _ (by simp only[AG,AJ,Nat.reduceEqDiff,↓reduceIte,g0]) (by simp only[AG,AJ,Nat.reduceEqDiff,↓reduceIte,g1]) (by simp only[AG,AJ,Nat.reduceEqDiff,↓reduceIte,g2]) (by simp only[AG,AJ,Nat.reduceEqDiff,↓reduceIte,g7]) (by simp only[AG,AJ,Nat.reduceEqDiff,↓reduceIte,g8])
  have hx:=S3.ar.ld (i:=j) (by omega) (by omega);have hy:=S3.ar.ld (i:=j-1) (by omega) (by omega);rw[BI (by omega) (by omega)];simp only[hx,AA,Am];rw[wrap64 (x:=j-1) (by omega) (by omega),BI (by omega) (by omega)];simp only[hy,AA];refine As (Df D _ _ W3) ?_;simp only[AZ,AA];refine⟨by simp only[and_self],trivial,?_⟩
  refine AF (λ_=>?_) (λ_=>?_)
  ·simp only[aW,LM,M7];exact done _ (by simp only[AG,AJ,Nat.reduceEqDiff,↓reduceIte,g0]) (by simp only[AG,AJ,Nat.reduceEqDiff,↓reduceIte,g1]) (by simp only[AG,AJ,Nat.reduceEqDiff,↓reduceIte,g2]) (by simp only[AG,AJ,Nat.reduceEqDiff,↓reduceIte,g7]) (by simp only[AG,AJ,Nat.reduceEqDiff,↓reduceIte,g8])
  ·simp only[hx,hy,AA];refine GX S3 OB (by omega) (i:=j-1) (j:=j) (by omega) (by omega) (by omega) (by omega) λW4 S4=>?_;refine⟨by simp only[and_self],trivial,?_⟩;simp only[aW,Aj,Oo];simp only[AG,AJ,Nat.reduceEqDiff,↓reduceIte,bJ,AK,AA];rw[wrap64 (by omega) (by omega)];refine⟨(hi-(j+1)).toNat,by omega,rfl,by simp only[AG,AJ,Nat.reduceEqDiff,↓reduceIte,g0],by simp only[AG,AJ,Nat.reduceEqDiff,↓reduceIte,g1],by simp only[AG,AJ,Nat.reduceEqDiff,↓reduceIte,g2],by simp only[AG,AJ,Nat.reduceEqDiff,↓reduceIte,g7],by simp only[AG,AJ,Nat.reduceEqDiff,↓reduceIte,g8],j+1,_,(by first|rfl|simp only[AG,AJ,Lc,Nat.reduceEqDiff,↓reduceIte,Nb,bF,Kn,and_self]),by omega,by omega,S4,λx y hx MY hy=>?_,rfl⟩;have e:=λk (hk:0≤k)=>PB (l:=m) (i:=j-1) (j:=j) (k:=k) (by omega) (by omega) (by omega) (by omega) hk;rw[e x (by omega),e y (by omega),aad (by omega),aad (by omega),aad (by omega),aad (by omega)];exact ug x y hx MY hy
 refine CX (PXi dec W b n lo hi l s m) (hi+1-i).toNat ⟨rfl,by simp only[AG,AJ,Nat.reduceEqDiff,↓reduceIte,h0],by simp only[AG,AJ,Nat.reduceEqDiff,↓reduceIte,h1],by simp only[AG,AJ,Nat.reduceEqDiff,↓reduceIte,h2],i,by simp only[AG,AJ,Nat.reduceEqDiff,↓reduceIte,h7],by simp only[AG,AJ,Nat.reduceEqDiff,↓reduceIte,h8],i0,i1,S,FJ,rfl⟩ ?_;clear h0 h1 h2 h7 h8 FJ i0 i1 i S;rintro k' e2 ds W2 ⟨rfl,h0,h1,h2,i,h7,h8,i0,i1,S,FJ,hk'⟩;have M9:=S.len OK
 have k5:∀(e3:Env),e3 0=.slice (some ⟨b,0,none⟩) n n→e3 1=.int .i64 lo→e3 2=.int .i64 hi→e3 7=.int .i64 i→e3 8=.int .i64 s→(i<hi→at_ m i<at_ m (i-1))→(CB 2 (YF none (EB (PXo dec W b n lo hi l) k (CB 0 (Jd none KK))))) (.exit 2) e3 [] W2:=by
  intro e3 g0 g1 g2 g7 g8 bt;simp only[Er,aar,wE,Aj,g0,g1,g2,g7,BD,AA]
  refine AF (λhb=>?_) (λhb=>?_)
  ·have hb:i=hi:=eq_of_beq hb;subst hb;simp only[Vp,GL,Ib,Oo,kK,Jd];exact Gd _ true _ m (by simp only[AG,↓reduceIte]) S λ_=>FJ
  have hb:i≠hi:=by intro h;rw[h]at hb;simp at hb
  have bt:=bt (by omega);simp only[Am,AP,AA];rw[wrap64 (x:=hi-lo) (by omega) (by omega)]
  refine Rt (λ_=>?_) (λ_=>?_)
  ·simp only[Vp,GL,Ib,Oo,kK,Jd];exact Gd _ false _ m (by simp only[AG,↓reduceIte]) S λh=>(by cases h)
  rw[wrap64 (x:=i-1) (by omega) (by omega)];have hx:=S.ar.ld (i:=i) (by omega) (by omega);have hy:=S.ar.ld (i:=i-1) (by omega) (by omega);rw[BI (by omega) (by omega),BI (by omega) (by omega)];simp only[hx,hy,AA];refine GX S OB (by omega) (i:=i-1) (j:=i) (by omega) (by omega) (by omega) (by omega) λW4 S4=>?_;refine⟨by simp only[and_self],trivial,?_⟩;rw[wrap64 (x:=i-lo) (by omega) (by omega)];simp only[Bt,AA];have e:=λk (hk:0≤k)=>PB (l:=m) (i:=i-1) (j:=i) (k:=k) (by omega) (by omega) (by omega) (by omega) hk;refine Ru (λGZ=>?_) (λYu=>?_)
  rotate_left
  ·exact k4 _ W4 i _ (by simp only[AG,AJ,Nat.reduceEqDiff,↓reduceIte,g0]) (by simp only[AG,AJ,Nat.reduceEqDiff,↓reduceIte,g1]) (by simp only[AG,AJ,Nat.reduceEqDiff,↓reduceIte,g2]) (by simp only[AG,AJ,Nat.reduceEqDiff,↓reduceIte,g7]) (by simp only[AG,AJ,Nat.reduceEqDiff,↓reduceIte,g8]) i0 i1 S4 λx y hx MY hy=>by omega
  refine CX (PXl dec W b n lo hi l s i) (i-1).toNat ⟨rfl,by simp only[AG,AJ,Nat.reduceEqDiff,↓reduceIte,g0],by simp only[AG,AJ,Nat.reduceEqDiff,↓reduceIte,g1],by simp only[AG,AJ,Nat.reduceEqDiff,↓reduceIte,g2],by simp only[AG,AJ,Nat.reduceEqDiff,↓reduceIte,g7],by simp only[AG,AJ,Nat.reduceEqDiff,↓reduceIte,g8],i-1,_,by simp only[AG,↓reduceIte],by omega,by omega,S4,λx y hx MY hy D3=>?_,rfl⟩ ?_
  ·rw[e x (by omega),e y (by omega),aad (by omega),aad (by omega),aad (by omega),aad (by omega)];exact FJ x y hx MY (by omega)
  clear e hx hy S4 g0 g1 g2 g7 g8;rintro k2 e4 ds W5 ⟨rfl,g0,g1,g2,g7,g8,j,m5,g9,jj0,jj1,S5,hI,tS⟩;have hm5:=S5.len OK
  have done:∀(e6:Env),e6 0=.slice (some ⟨b,0,none⟩) n n→e6 1=.int .i64 lo→e6 2=.int .i64 hi→e6 7=.int .i64 i→e6 8=.int .i64 s→(j=lo∨at_ m5 (j-1)≤at_ m5 j)→(CB 4 (Tz none (EB (PXo dec W b n lo hi l) k (CB 0 (Jd none KK))))) (.exit 4) e6 [] W5:=by
   intro e6 q0 q1 q2 q7 q8 UX;simp only[Er,aar];refine k4 e6 W5 i m5 q0 q1 q2 q7 q8 i0 i1 S5 ?_;have:=hI.done jj0 UX (by omega)
   rwa[show i-1+1=i by omega]at this
  rw[ACS,g0,g9];simp only[Bt,AA];refine Ru (λmh=>?_) (λmh=>?_)
  rotate_left
  ·simp only[M7];exact done _ (by simp only[AG,AJ,Nat.reduceEqDiff,↓reduceIte,g0]) (by simp only[AG,AJ,Nat.reduceEqDiff,↓reduceIte,g1]) (by simp only[AG,AJ,Nat.reduceEqDiff,↓reduceIte,g2]) (by simp only[AG,AJ,Nat.reduceEqDiff,↓reduceIte,g7]) (by simp only[AG,AJ,Nat.reduceEqDiff,↓reduceIte,g8]) (.inl (by omega))
  have hx:=S5.ar.ld (i:=j) (by omega) (by omega);have hy:=S5.ar.ld (i:=j-1) (by omega) (by omega);rw[BI (by omega) (by omega)];simp only[hx,AA,Am];rw[wrap64 (x:=j-1) (by omega) (by omega),BI (by omega) (by omega)];simp only[hy,AA];refine As (Df D _ _ W5) ?_;simp only[AZ,AA];refine⟨by simp only[and_self],trivial,?_⟩
  refine AF (λhb=>?_) (λhb=>?_)
  ·simp only[T0,LM,M7];have hb:(!decide (at_ m5 j<at_ m5 (j-1)))=true:=hb;simp at hb;exact done _ (by simp only[AG,AJ,Nat.reduceEqDiff,↓reduceIte,g0]) (by simp only[AG,AJ,Nat.reduceEqDiff,↓reduceIte,g1]) (by simp only[AG,AJ,Nat.reduceEqDiff,↓reduceIte,g2]) (by simp only[AG,AJ,Nat.reduceEqDiff,↓reduceIte,g7]) (by simp only[AG,AJ,Nat.reduceEqDiff,↓reduceIte,g8]) (.inr hb)
  ·have hb:(!decide (at_ m5 j<at_ m5 (j-1)))=false:=hb;simp at hb
   have AMo:lo<j:=by
    rcases Int.lt_or_eq_of_le jj0 with h|h
    ·exact h
    ·have:=AKF S5 (by omega) j jj0 (by omega);rw[h]at this;omega
   simp only[hx,hy,AA];refine GX S5 OB (by omega) (i:=j-1) (j:=j) (by omega) (by omega) (by omega) (by omega) λW6 S6=>?_;refine⟨by simp only[and_self],trivial,?_⟩;simp only[T0,Aj,Oo];simp only[AG,AJ,Nat.reduceEqDiff,↓reduceIte,g9,Am,AA];rw[wrap64 (by omega) (by omega)];exact⟨(j-1).toNat,by omega,rfl,by simp only[AG,AJ,Nat.reduceEqDiff,↓reduceIte,g0],by simp only[AG,AJ,Nat.reduceEqDiff,↓reduceIte,g1],by simp only[AG,AJ,Nat.reduceEqDiff,↓reduceIte,g2],by simp only[AG,AJ,Nat.reduceEqDiff,↓reduceIte,g7],by simp only[AG,AJ,Nat.reduceEqDiff,↓reduceIte,g8],j-1,_,(by first|rfl|simp only[AG,AJ,Lc,Nat.reduceEqDiff,↓reduceIte,Nb,bF,Kn,and_self]),by omega,by omega,S6,hI.step OB AMo jj1 (by omega) hb,rfl⟩
 rw[ACR,h0,h2,h7];simp only[AP,AA]
 have k7:∀(e3:Env) (q:Bool),e3 32=.bool q→e3 0=.slice (some ⟨b,0,none⟩) n n→e3 1=.int .i64 lo→e3 2=.int .i64 hi→e3 7=.int .i64 i→e3 8=.int .i64 s→(q=true→i<hi∧at_ m (i-1)≤at_ m i)→(q=false→i<hi→at_ m i<at_ m (i-1))→(YH none (EB (PXi dec W b n lo hi l s m) k' (CB 2 (YF none (EB (PXo dec W b n lo hi l) k (CB 0 (Jd none KK))))))) .normal e3 [] W2:=by
  intro e3 q g32 g0 g1 g2 g7 g8 hq dS;simp only[YH,Aj,g32]
  refine AF (λhb=>?_) (λhb=>?_)
  ·obtain⟨hj,AMp⟩:=hq hb;simp only[eY,Aj,Oo,g7,AK,AA];rw[wrap64 (by omega) (by omega)];refine⟨(hi+1-(i+1)).toNat,by omega,rfl,by simp only[AG,AJ,Nat.reduceEqDiff,↓reduceIte,g0],by simp only[AG,AJ,Nat.reduceEqDiff,↓reduceIte,g1],by simp only[AG,AJ,Nat.reduceEqDiff,↓reduceIte,g2],i+1,by simp only[AG,↓reduceIte],by simp only[AG,AJ,Nat.reduceEqDiff,↓reduceIte,g8],by omega,by omega,S,λx y hx MY hy=>?_,rfl⟩
   by_cases e:y=i
   ·subst e
    by_cases e2:x=y-1
    ·rw[e2];exact AMp
    ·have:=FJ x (y-1) hx (by omega) (by omega);omega
   ·exact FJ x y hx MY (by omega)
  ·simp only[eY,LM,M7];exact k5 e3 g0 g1 g2 g7 g8 (dS hb)
 refine Rt (λOa=>?_) (λhle=>?_)
 ·have hx:=S.ar.ld (i:=i) (by omega) (by omega);have hy:=S.ar.ld (i:=i-1) (by omega) (by omega);rw[BI (by omega) (by omega)];simp only[hx,AA,Am];rw[wrap64 (by omega) (by omega),BI (by omega) (by omega)];simp only[hy,AA];refine As (Df D _ _ W2) ?_;simp only[AZ,AA];refine⟨by simp only[and_self],trivial,?_⟩;exact k7 _ (!decide (at_ m i<at_ m (i-1))) (by simp only[AG,↓reduceIte]) (by simp only[AG,AJ,Nat.reduceEqDiff,↓reduceIte,h0]) (by simp only[AG,AJ,Nat.reduceEqDiff,↓reduceIte,h1]) (by simp only[AG,AJ,Nat.reduceEqDiff,↓reduceIte,h2]) (by simp only[AG,AJ,Nat.reduceEqDiff,↓reduceIte,h7]) (by simp only[AG,AJ,Nat.reduceEqDiff,↓reduceIte,h8]) (λh=>⟨Oa,by have h:(!decide (at_ m i<at_ m (i-1)))=true:=h;simp at h;exact h⟩) λh _=>by have h:(!decide (at_ m i<at_ m (i-1)))=false:=h;simp at h;exact h
 ·refine⟨trivial,trivial,?_⟩;exact k7 _ false (by simp only[AG,↓reduceIte]) (by simp only[AG,AJ,Nat.reduceEqDiff,↓reduceIte,h0]) (by simp only[AG,AJ,Nat.reduceEqDiff,↓reduceIte,h1]) (by simp only[AG,AJ,Nat.reduceEqDiff,↓reduceIte,h2]) (by simp only[AG,AJ,Nat.reduceEqDiff,↓reduceIte,h7]) (by simp only[AG,AJ,Nat.reduceEqDiff,↓reduceIte,h8]) (λh=>(by cases h)) λ_ h=>by omega
theorem ADJ{dec:Int→ByteArray}(D:M3 dec){W:CW}{b n:Nat}{lo hi first:Int}{l:List Int}(ht:Ai W)(hd:Ax dec W b l)(OK:l.length=n)(hn:n≤1000000)(OB:0≤lo)(hl9:lo≤n)(hf:0≤first)(L_:first+hi≤n)(h0i:0≤hi)(hH:HP l first (lo+1) hi) :
  Ac prog Bs 150 [.slice (some ⟨b,0,none⟩) n n,.int .i64 lo,.int .i64 hi,.int .i64 first] W (SrX dec b first (first+hi) l (λm=>HP m first lo hi) W):=by
 refine AGU ?_;rw[AGT];generalize FI:AM prog Tryz.f150 (SrX dec b first (first+hi) l (λm=>HP m first lo hi) W)=KK
 have DU:∀(x:Exit) (hx:x=.normal∨x=.ret) (e:Env) W' m,Sx dec W W' b first (first+hi) l m→HP m first lo hi→KK x e [] W':=by
  intro x hx e W' m S h;rw[←FI];exact Hw (by kernel_rfl) _ _ hx _ _ ⟨rfl,m,S,h⟩
 refine CX (λk e ds W'=>ds=[]∧e 0=.slice (some ⟨b,0,none⟩) n n∧e 2=.int .i64 hi∧e 3=.int .i64 first∧∃(r:Int) (m:List Int),e 8=.int .i64 r∧lo≤r∧r≤n∧Sx dec W W' b first (first+hi) l m∧SiP m first lo hi r∧(n-r).toNat=k) ((n:Int)-lo).toNat ⟨rfl,rfl,rfl,rfl,lo,l,rfl,abD _,hl9,.start ht hd,⟨λc p hp D3=>hH c p (by omega),λc p hp Ad=>by omega⟩,rfl⟩ ?_;rintro k e ds W' ⟨rfl,h0,h2,h3,r,m,h8,r0,r1,S,hS,hk⟩;have M9:=S.len OK;rw[ACc,h0,h2,h3,h8];simp only[Oq,AK,Bt,AA];rw[wrap64 (x:=2*r) (by omega) (by omega),wrap64 (x:=2*r+1) (by omega) (by omega)]
 refine Ru (λGZ=>?_) (λAd=>?_)
 ·simp only[Er,M7,aar];refine DU _ (.inl rfl) _ _ m S λc p hp pO hc hcp=>?_
  by_cases OG:p=r
  ·omega
  ·exact hS.1 c p hp OG pO hc hcp
 have k4:∀(e2:Env) (c:Int),e2 0=.slice (some ⟨b,0,none⟩) n n→e2 2=.int .i64 hi→e2 3=.int .i64 first→e2 8=.int .i64 r→e2 9=.int .i64 c→(c=2*r+1∨c=2*r+2)→c<hi→(∀x,r<x→x<hi→(x=2*r+1∨x=2*r+2)→at_ m (first+x)≤at_ m (first+c))→(T' none (EB (λk e ds W'=>ds=[]∧e 0=.slice (some ⟨b,0,none⟩) n n∧e 2=.int .i64 hi∧e 3=.int .i64 first∧∃(r:Int) (m:List Int),e 8=.int .i64 r∧lo≤r∧r≤n∧Sx dec W W' b first (first+hi) l m∧SiP m first lo hi r∧(n-r).toNat=k) k (CB 0 KK))) .normal e2 [] W':=by
  intro e2 c g0 g2 g3 g8 g9 hrc Jt nH;simp only[wJ,Aj,Ib,Oo,kK,g0,g3,g8,g9,AK,AA];rw[wrap64 (x:=first+r) (by omega) (by omega),wrap64 (x:=first+c) (by omega) (by omega)];have hx:=S.ar.ld (i:=first+r) (by omega) (by omega);have hy:=S.ar.ld (i:=first+c) (by omega) (by omega);rw[BI (by omega) (by omega),BI (by omega) (by omega)];simp only[hx,hy,AA];refine As (Df D _ _ W') ?_;simp only[AZ,AA];refine⟨by simp only[and_self],trivial,?_⟩
  refine AF (λhb=>?_) (λhb=>?_)
  ·refine DU _ (.inr rfl) _ _ m S λx p hp hpx Wd sH=>?_
   by_cases OG:p=r
   ·subst OG;have h1:=nH x hpx Wd sH;have:¬at_ m (first+p)<at_ m (first+c):=by simpa using hb
    omega
   ·exact hS.1 x p hp OG hpx Wd sH
  ·have hb:at_ m (first+r)<at_ m (first+c):=by simpa using hb
   simp only[hx,hy,AA];refine GX S hf (by omega) (i:=first+c) (j:=first+r) (by omega) (by omega) (by omega) (by omega) λW3 S3=>?_;refine⟨by simp only[and_self],trivial,?_⟩;exact⟨(n-c).toNat,by omega,trivial,by simp only[AG,AJ,Nat.reduceEqDiff,↓reduceIte,g0],by simp only[AG,AJ,Nat.reduceEqDiff,↓reduceIte,g2],by simp only[AG,AJ,Nat.reduceEqDiff,↓reduceIte,g3],c,_,by simp only[AG,↓reduceIte],by omega,by omega,S3,hS.step OB r0 hf (by omega) hrc Jt hb nH,rfl⟩
 have k5:∀(e2:Env) (q:Bool),e2 36=.bool q→e2 0=.slice (some ⟨b,0,none⟩) n n→e2 2=.int .i64 hi→e2 3=.int .i64 first→e2 8=.int .i64 r→e2 9=.int .i64 (2*r+1)→(q=true→2*r+1+1<hi∧at_ m (first+(2*r+1))<at_ m (first+(2*r+1)+1))→(q=false→2*r+1+1<hi→at_ m (first+(2*r+1)+1)≤at_ m (first+(2*r+1)))→(YK none (EB (λk e ds W'=>ds=[]∧e 0=.slice (some ⟨b,0,none⟩) n n∧e 2=.int .i64 hi∧e 3=.int .i64 first∧∃(r:Int) (m:List Int),e 8=.int .i64 r∧lo≤r∧r≤n∧Sx dec W W' b first (first+hi) l m∧SiP m first lo hi r∧(n-r).toNat=k) k (CB 0 KK))) .normal e2 [] W':=by
  intro e2 q g36 g0 g2 g3 g8 g9 hq dS;simp only[wK,Aj,g36];have e1:first+(2*r+1)+1=first+(2*r+2):=by omega
  rw[e1]at hq dS
  refine AF (λhb=>?_) (λhb=>?_)
  ·obtain⟨hq1,wk⟩:=hq hb;simp only[g9,AK,AA];rw[wrap64 (by omega) (by omega)];refine k4 _ (2*r+1+1) (by simp only[AG,AJ,Nat.reduceEqDiff,↓reduceIte,g0]) (by simp only[AG,AJ,Nat.reduceEqDiff,↓reduceIte,g2]) (by simp only[AG,AJ,Nat.reduceEqDiff,↓reduceIte,g3]) (by simp only[AG,AJ,Nat.reduceEqDiff,↓reduceIte,g8]) (by simp only[AG,↓reduceIte]) (by omega) (by omega) λx NK bT hx3=>?_;have e2:first+(2*r+1+1)=first+(2*r+2):=by omega
   rw[e2]
   rcases hx3 with rfl|rfl
   ·exact Int.le_of_lt wk
   ·exact abD _
  ·refine k4 e2 (2*r+1) g0 g2 g3 g8 g9 (by omega) (by omega) λx NK bT hx3=>?_
   rcases hx3 with rfl|rfl
   ·exact abD _
   ·exact dS hb (by omega)
 rw[wrap64 (x:=2*r+1+1) (by omega) (by omega)];simp only[AP,AA]
 refine Rt (λMV=>?_) (λMV=>?_)
 ·rw[wrap64 (x:=first+(2*r+1)) (by omega) (by omega),wrap64 (x:=first+(2*r+1)+1) (by omega) (by omega)];have hx:=S.ar.ld (i:=first+(2*r+1)) (by omega) (by omega);have hy:=S.ar.ld (i:=first+(2*r+1)+1) (by omega) (by omega);rw[BI (by omega) (by omega),BI (by omega) (by omega)];simp only[hx,hy,AA];refine As (Df D _ _ W') ?_;refine⟨by simp only[and_self],trivial,?_⟩;exact k5 _ (decide (at_ m (first+(2*r+1))<at_ m (first+(2*r+1)+1))) (by simp only[AG,↓reduceIte]) (by simp only[AG,AJ,Nat.reduceEqDiff,↓reduceIte,h0]) (by simp only[AG,AJ,Nat.reduceEqDiff,↓reduceIte,h2]) (by simp only[AG,AJ,Nat.reduceEqDiff,↓reduceIte,h3]) (by simp only[AG,AJ,Nat.reduceEqDiff,↓reduceIte,h8]) (by simp only[AG,Nat.reduceEqDiff,↓reduceIte]) (λh=>⟨MV,of_decide_eq_true h⟩) λh _=>by have:=of_decide_eq_false h;omega
 ·refine⟨trivial,trivial,?_⟩;exact k5 _ false (by simp only[AG,↓reduceIte]) (by simp only[AG,AJ,Nat.reduceEqDiff,↓reduceIte,h0]) (by simp only[AG,AJ,Nat.reduceEqDiff,↓reduceIte,h2]) (by simp only[AG,AJ,Nat.reduceEqDiff,↓reduceIte,h3]) (by simp only[AG,AJ,Nat.reduceEqDiff,↓reduceIte,h8]) (by simp only[AG,Nat.reduceEqDiff,↓reduceIte]) (λh=>(by cases h)) λ_ h=>by omega
theorem AKG{dec:Int→ByteArray}(D:M3 dec){W:CW}{b n:Nat}{lo hi:Int}{l:List Int}(ht:Ai W)(hd:Ax dec W b l)(OK:l.length=n)(hn:n≤1000000)(OB:0≤lo)(L_:hi≤n)(mf:lo<hi) :
  Ac prog Bs 130 [.slice (some ⟨b,0,none⟩) n n,.int .i64 lo,.int .i64 hi] W (SrX dec b lo hi l (Std lo hi) W):=by
 refine AGE ?_;rw[AGD];generalize FI:AM prog Tryz.f130 (SrX dec b lo hi l (Std lo hi) W)=KK;simp only[Am,AA];rw[wrap64 (x:=hi-lo) (by omega) (by omega),wrap64 (by omega) (by omega),AAe (by omega) (by omega) (by omega)];simp only[AA];have ehi:lo+(hi-lo)=hi:=by omega
 refine CX (λk e ds W'=>ds=[]∧e 0=.slice (some ⟨b,0,none⟩) n n∧e 6=.int .i64 lo∧e 7=.int .i64 0∧e 8=.int .i64 (hi-lo)∧∃(i:Int) (m:List Int),e 9=.int .i64 i∧-1≤i∧i<hi-lo∧Sx dec W W' b lo hi l m∧HP m lo (i+1) (hi-lo)∧(i+1).toNat=k) ((hi-lo-1)/2+1).toNat ⟨rfl,rfl,rfl,rfl,rfl,(hi-lo-1)/2,l,rfl,by omega,by omega,.start ht hd,λc p hp pO hc hcp=>by omega,rfl⟩ ?_;rintro k e ds W' ⟨rfl,h0,h6,h7,h8,i,m,h9,i0,i1,S,hH,hk⟩;have M9:=S.len OK;rw[ACL,h0,h6,h8,h9];simp only[Bt,AA]
 refine Ru (λGZ=>?_) (λAd=>?_)
 ·refine(ADJ D S.top S.ar M9 hn GZ (by omega) OB (by omega) (by omega) hH).mono λen W2 ⟨he,m2,S2,hH2⟩=>?_;subst he;rw[ehi]at S2;refine AL ?_;simp only[vz,Aj,Oo];simp only[AG,AJ,Nat.reduceEqDiff,↓reduceIte,h9,Am,AA];rw[wrap64 (by omega) (by omega)];exact⟨(i-1+1).toNat,by omega,trivial,by simp only[h0],by simp only[h6],by simp only[h7],by simp only[h8],i-1,m2,by simp only[AG],by omega,by omega,S.trans S2,by rw[show i-1+1=i by omega];exact hH2,rfl⟩
 have hH0:HP m lo 0 (hi-lo):=by rw[show i+1=0 by omega]at hH;exact hH
 simp only[Er,M7,aar,vu,Aj];simp only[AG,AJ,Nat.reduceEqDiff,↓reduceIte,h8,Am,AA];rw[wrap64 (by omega) (by omega)]
 refine CX (λk e ds W'=>ds=[]∧e 0=.slice (some ⟨b,0,none⟩) n n∧e 6=.int .i64 lo∧e 7=.int .i64 0∧∃(i:Int) (m:List Int),e 10=.int .i64 i∧-1≤i∧i<hi-lo∧Sx dec W W' b lo hi l m∧HP m lo 0 (i+1)∧Std (lo+i+1) hi m∧(∀x y,0≤x→x≤i→lo+i<y→y<hi→at_ m (lo+x)≤at_ m y)∧(i+1).toNat=k) (hi-lo-1+1).toNat ?_ ?_
 ·exact⟨rfl,by simp only[AG,AJ,Nat.reduceEqDiff,↓reduceIte,h0],by simp only[AG,AJ,Nat.reduceEqDiff,↓reduceIte,h6],by simp only[AG,AJ,Nat.reduceEqDiff,↓reduceIte,h7],hi-lo-1,m,by simp only[AG,↓reduceIte],by omega,by omega,S,by rw[show hi-lo-1+1=hi-lo by omega];exact hH0,λx y hx MY hy=>by omega,λx y hx0 NK qy hy1=>by omega,rfl⟩
 clear hH hH0 S M9 m;rintro k e ds W' ⟨rfl,h0,h6,h7,i,m,OI,i0,i1,S,hH,FJ,hcr,hk⟩;have M9:=S.len OK;rw[ACN,h0,h6,h7,OI];simp only[Bt,AA]
 refine Ru (λGZ=>?_) (λAd=>?_)
 ·simp only[AK,AA];rw[wrap64 (by omega) (by omega)];have hx:=S.ar.ld (i:=lo+i) (by omega) (by omega);have hy:=S.ar.ld (i:=lo) (by omega) (by omega);rw[BI (by omega) (by omega),BI (by omega) (by omega)];simp only[hx,hy,AA];refine GX S OB (by omega) (i:=lo+i) (j:=lo) (by omega) (by omega) (by omega) (by omega) λW3 S3=>?_;refine⟨by simp only[and_self],trivial,?_⟩;have e:=λk (hk:0≤k)=>PB (l:=m) (i:=lo+i) (j:=lo) (k:=k) (by omega) (by omega) (by omega) (by omega) hk;have wj:=S3.len OK
  have ADK:∀x,0≤x→x≤i→at_ m (lo+x)≤at_ m lo:=λx hx0 NK=>by
   have:=hH.root x.toNat x rfl hx0 (by omega);rw[Int.add_zero]at this;exact this
  have C3:∀V,at_ m lo≤V→∀k,lo≤k→k<lo+i→at_ (mI m (lo+i) lo) k≤V:=λV hV k nR bD=>by
   rw[e k (by omega),aad (by omega)]
   split
   ·have:=ADK i GZ (abD _);omega
   ·have:=ADK (k-lo) (by omega) (by omega);rw[show lo+(k-lo)=k by omega]at this;omega
  refine(ADJ D S3.top S3.ar wj hn (by omega) (by omega) OB (by omega) GZ (λc p hp pO hc hcp=>?_)).mono λen W4 ⟨he,m4,S4,hH4⟩=>?_
  ·rw[e (lo+c) (by omega),e (lo+p) (by omega),aad (by omega),aad (by omega),aad (by omega),aad (by omega)];exact hH c p (by omega) pO (by omega) hcp
  subst he;refine AL ?_;simp only[v5,Aj,Oo];simp only[AG,AJ,Nat.reduceEqDiff,↓reduceIte,OI,Am,AA];rw[wrap64 (by omega) (by omega)]
  have GJ:∀y,lo+i≤y→y<hi→at_ m4 y=if y=lo+i then at_ m lo else at_ m y:=λy qy hy1=>by
   rw[S4.sw.out OB (by rw[wj];omega) (by omega) (.inr qy),e y (by omega)]
   split
   ·rfl
   ·rw[aad (by omega)]
  refine⟨(i-1+1).toNat,by omega,trivial,by simp only[h0],by simp only[h6],by simp only[h7],i-1,m4,by simp only[AG],by omega,by omega,S3.trans (S4.mono (abD _) (by omega)),by rw[show i-1+1=i by omega];exact hH4,λx y hx0 MY hy=>?_,λx y hx0 NK qy hy1=>?_,rfl⟩
  ·rw[GJ x (by omega) (by omega),GJ y (by omega) hy,aad (show¬y=lo+i by omega)]
   split
   ·have:=hcr 0 y (abD _) GZ (by omega) hy;rw[Int.add_zero]at this;exact this
   ·exact FJ x y (by omega) MY hy
  ·rw[GJ y (by omega) hy1];refine S4.sw.all OB (by rw[wj];omega) (P:=λv=>v≤if y=lo+i then at_ m lo else at_ m y) (λk nR bD=>?_) (lo+x) (by omega) (by omega)
   split
   ·exact C3 _ (abD _) k nR bD
   ·refine C3 _ ?_ k nR bD;have:=hcr 0 y (abD _) GZ (by omega) hy1;rw[Int.add_zero]at this;exact this
 ·simp only[Er,M7,aar];rw[←FI];have iq:i=-1:=by omega
  subst iq;exact Hw (by kernel_rfl) _ _ (.inl rfl) _ _ ⟨rfl,m,S,λx y hx MY hy=>FJ x y (by omega) MY hy⟩
theorem AAo{dec:Int→ByteArray}(D:M3 dec){W:CW}{K:AD}{e:Env}{b n:Nat}{a:Int}{m:List Int}{i0 j:Int}(hd:Ax dec W b m)(OK:m.length=n)(hn:n≤1000000)(oC:0≤a)(DS:a<n)(h0i:0≤i0)(hjn:j<n)(E:PE e b n 10 11 a i0 j)
  (OT:i0≤n+5) (Wh:-5≤j) (Ef:∀e' i,PE e' b n 10 11 a i j→i0≤i→(i≤j+1∨i=i0)→(∀x,i0≤x→x<i→at_ m x<at_ m a)→(i≤j→¬(at_ m i<at_ m a))→K (.exit 0) e' [] W) :
  FX prog Bs none 137 168 (.loop (D6 prog 137 0)) e [] W K:=by
 refine CX (λk e ds W2=>ds=[]∧W2=W∧∃i:Int,PE e b n 10 11 a i j∧i0≤i∧(i≤j+1∨i=i0)∧(∀x,i0≤x→x<i→at_ m x<at_ m a)∧(j+1-i).toNat=k) (j+1-i0).toNat ⟨rfl,rfl,i0,E,by omega,.inr rfl,λx h1 h2=>by omega,rfl⟩ ?_;rintro k e ds W' ⟨rfl,rfl,i,E,Fj,iq,hC,hk⟩;rw[ACX,E.e0,E.e1,E.ei,E.ej];simp only[Dc,AA]
 have kt:∀(e2:Env) (q:Bool),e2 43=.bool q→PE e2 b n 10 11 a i j→(q=true→i≤j∧at_ m i<at_ m a)→(q=false→i≤j→¬(at_ m i<at_ m a))→(T4 none (EB (λk e ds W2=>ds=[]∧W2=W'∧∃i:Int,PE e b n 10 11 a i j∧i0≤i∧(i≤j+1∨i=i0)∧(∀x,i0≤x→x<i→at_ m x<at_ m a)∧(j+1-i).toNat=k) k K)) .normal e2 [] W':=by
  intro e2 q g E2 hq dS;simp only[T4,Aj,g]
  refine AF (λhb=>?_) (λhb=>?_)
  ·obtain⟨hij,hc⟩:=hq hb;simp only[PH,Aj,Oo,E2.ei,AK,AA];rw[wrap64 (by omega) (by omega)];exact⟨(j+1-(i+1)).toNat,by omega,trivial,trivial,i+1,⟨by simp only[AG,AJ,Nat.reduceEqDiff,↓reduceIte,E2.e0],by simp only[AG,AJ,Nat.reduceEqDiff,↓reduceIte,E2.e1],by simp only[AG,↓reduceIte],by simp only[AG,AJ,Nat.reduceEqDiff,↓reduceIte,E2.ej]⟩,by omega,.inl (by omega),λx h1 h2=>if e:x=i then(by rw[e];exact hc)else hC x h1 (by omega),rfl⟩
  ·simp only[PH,LM,M7];exact Ef e2 i E2 Fj iq hC (dS hb)
 refine Nq (λhle=>?_) (λOa=>?_)
 ·have hx:=hd.ld (i:=i) (by omega) (by omega);have hy:=hd.ld (i:=a) (by omega) (by omega);rw[BI (by omega) (by omega),BI (by omega) (by omega)];simp only[hx,hy,AA];refine As (Df D _ _ W') ?_;refine⟨by simp only[and_self],trivial,?_⟩;exact kt _ (decide (at_ m i<at_ m a)) (by simp only[AG,↓reduceIte]) ⟨by simp only[AG,AJ,Nat.reduceEqDiff,↓reduceIte,E.e0],by simp only[AG,AJ,Nat.reduceEqDiff,↓reduceIte,E.e1],by simp only[AG,AJ,Nat.reduceEqDiff,↓reduceIte,E.ei],by simp only[AG,AJ,Nat.reduceEqDiff,↓reduceIte,E.ej]⟩ (λh=>⟨hle,of_decide_eq_true h⟩) λh _=>of_decide_eq_false h
 ·refine⟨trivial,trivial,?_⟩;exact kt _ false (by simp only[AG,↓reduceIte]) ⟨by simp only[AG,AJ,Nat.reduceEqDiff,↓reduceIte,E.e0],by simp only[AG,AJ,Nat.reduceEqDiff,↓reduceIte,E.e1],by simp only[AG,AJ,Nat.reduceEqDiff,↓reduceIte,E.ei],by simp only[AG,AJ,Nat.reduceEqDiff,↓reduceIte,E.ej]⟩ (λh=>(by cases h)) λ_ h=>by omega
theorem AAp{dec:Int→ByteArray}(D:M3 dec){W:CW}{K:AD}{e:Env}{b n:Nat}{a:Int}{m:List Int}{i j0:Int}(hd:Ax dec W b m)(OK:m.length=n)(hn:n≤1000000)(oC:0≤a)(DS:a<n)(h0i:0≤i)(hjn:j0<n)(E:PE e b n 10 11 a i j0)
  (OT:i≤n+5) (Wh:-5≤j0) (Ef:∀e' j,PE e' b n 10 11 a i j→j≤j0→(i≤j+1∨j=j0)→(∀x,j<x→x≤j0→¬at_ m x<at_ m a)→(i≤j→¬(¬at_ m j<at_ m a))→K (.exit 2) e' [] W) :
  FX prog Bs none 137 168 (.loop (D6 prog 137 1)) e [] W K:=by
 refine CX (λk e ds W2=>ds=[]∧W2=W∧∃j:Int,PE e b n 10 11 a i j∧j≤j0∧(i≤j+1∨j=j0)∧(∀x,j<x→x≤j0→¬at_ m x<at_ m a)∧(j+1-i).toNat=k) (j0+1-i).toNat ⟨rfl,rfl,j0,E,by omega,.inr rfl,λx h1 h2=>by omega,rfl⟩ ?_;rintro k e ds W' ⟨rfl,rfl,j,E,Fj,iq,hC,hk⟩;rw[ACY,E.e0,E.e1,E.ei,E.ej];simp only[Dc,AA]
 have kt:∀(e2:Env) (q:Bool),e2 60=.bool q→PE e2 b n 10 11 a i j→(q=true→i≤j∧¬at_ m j<at_ m a)→(q=false→i≤j→¬(¬at_ m j<at_ m a))→(T5 none (EB (λk e ds W2=>ds=[]∧W2=W'∧∃j:Int,PE e b n 10 11 a i j∧j≤j0∧(i≤j+1∨j=j0)∧(∀x,j<x→x≤j0→¬at_ m x<at_ m a)∧(j+1-i).toNat=k) k K)) .normal e2 [] W':=by
  intro e2 q g E2 hq dS;simp only[T5,Aj,g]
  refine AF (λhb=>?_) (λhb=>?_)
  ·obtain⟨hij,hc⟩:=hq hb;simp only[PI,Aj,Oo,E2.ej,Am,AA];rw[wrap64 (by omega) (by omega)];exact⟨(j-1+1-i).toNat,by omega,trivial,trivial,j-1,⟨by simp only[AG,AJ,Nat.reduceEqDiff,↓reduceIte,E2.e0],by simp only[AG,AJ,Nat.reduceEqDiff,↓reduceIte,E2.e1],by simp only[AG,AJ,Nat.reduceEqDiff,↓reduceIte,E2.ei],by simp only[AG,↓reduceIte]⟩,by omega,.inl (by omega),λx h1 h2=>if e:x=j then(by rw[e];exact hc)else hC x (by omega) h2,rfl⟩
  ·simp only[PI,LM,M7];exact Ef e2 j E2 Fj iq hC (dS hb)
 refine Nq (λhle=>?_) (λOa=>?_)
 ·have hx:=hd.ld (i:=j) (by omega) (by omega);have hy:=hd.ld (i:=a) (by omega) (by omega);rw[BI (by omega) (by omega),BI (by omega) (by omega)];simp only[hx,hy,AA];refine As (Df D _ _ W') ?_;simp only[AZ,AA];refine⟨by simp only[and_self],trivial,?_⟩;exact kt _ (!decide (at_ m j<at_ m a)) (by simp only[AG,↓reduceIte]) ⟨by simp only[AG,AJ,Nat.reduceEqDiff,↓reduceIte,E.e0],by simp only[AG,AJ,Nat.reduceEqDiff,↓reduceIte,E.e1],by simp only[AG,AJ,Nat.reduceEqDiff,↓reduceIte,E.ei],by simp only[AG,AJ,Nat.reduceEqDiff,↓reduceIte,E.ej]⟩ (λh=>⟨hle,by have h:(!decide (at_ m j<at_ m a))=true:=h;simpa using h⟩) λh _ hh=>hh (by have h:(!decide (at_ m j<at_ m a))=false:=h;simpa using h)
 ·refine⟨trivial,trivial,?_⟩;exact kt _ false (by simp only[AG,↓reduceIte]) ⟨by simp only[AG,AJ,Nat.reduceEqDiff,↓reduceIte,E.e0],by simp only[AG,AJ,Nat.reduceEqDiff,↓reduceIte,E.e1],by simp only[AG,AJ,Nat.reduceEqDiff,↓reduceIte,E.ei],by simp only[AG,AJ,Nat.reduceEqDiff,↓reduceIte,E.ej]⟩ (λh=>(by cases h)) λ_ h=>by omega
theorem AAq{dec:Int→ByteArray}(D:M3 dec){W:CW}{K:AD}{e:Env}{b n:Nat}{a:Int}{m:List Int}{i0 j:Int}(hd:Ax dec W b m)(OK:m.length=n)(hn:n≤1000000)(oC:0≤a)(DS:a<n)(h0i:0≤i0)(hjn:j<n)(E:PE e b n 10 11 a i0 j)
  (OT:i0≤n+5) (Wh:-5≤j) (Ef:∀e' i,PE e' b n 10 11 a i j→i0≤i→(i≤j+1∨i=i0)→(∀x,i0≤x→x<i→at_ m x<at_ m a)→(i≤j→¬(at_ m i<at_ m a))→K (.exit 6) e' [] W) :
  FX prog Bs none 137 168 (.loop (D6 prog 137 3)) e [] W K:=by
 refine CX (λk e ds W2=>ds=[]∧W2=W∧∃i:Int,PE e b n 10 11 a i j∧i0≤i∧(i≤j+1∨i=i0)∧(∀x,i0≤x→x<i→at_ m x<at_ m a)∧(j+1-i).toNat=k) (j+1-i0).toNat ⟨rfl,rfl,i0,E,by omega,.inr rfl,λx h1 h2=>by omega,rfl⟩ ?_;rintro k e ds W' ⟨rfl,rfl,i,E,Fj,iq,hC,hk⟩;rw[ACa,E.e0,E.e1,E.ei,E.ej];simp only[Dc,AA]
 have kt:∀(e2:Env) (q:Bool),e2 112=.bool q→PE e2 b n 10 11 a i j→(q=true→i≤j∧at_ m i<at_ m a)→(q=false→i≤j→¬(at_ m i<at_ m a))→(T7 none (EB (λk e ds W2=>ds=[]∧W2=W'∧∃i:Int,PE e b n 10 11 a i j∧i0≤i∧(i≤j+1∨i=i0)∧(∀x,i0≤x→x<i→at_ m x<at_ m a)∧(j+1-i).toNat=k) k K)) .normal e2 [] W':=by
  intro e2 q g E2 hq dS;simp only[T7,Aj,g]
  refine AF (λhb=>?_) (λhb=>?_)
  ·obtain⟨hij,hc⟩:=hq hb;simp only[aX,Aj,Oo,E2.ei,AK,AA];rw[wrap64 (by omega) (by omega)];exact⟨(j+1-(i+1)).toNat,by omega,trivial,trivial,i+1,⟨by simp only[AG,AJ,Nat.reduceEqDiff,↓reduceIte,E2.e0],by simp only[AG,AJ,Nat.reduceEqDiff,↓reduceIte,E2.e1],by simp only[AG,↓reduceIte],by simp only[AG,AJ,Nat.reduceEqDiff,↓reduceIte,E2.ej]⟩,by omega,.inl (by omega),λx h1 h2=>if e:x=i then(by rw[e];exact hc)else hC x h1 (by omega),rfl⟩
  ·simp only[aX,LM,M7];exact Ef e2 i E2 Fj iq hC (dS hb)
 refine Nq (λhle=>?_) (λOa=>?_)
 ·have hx:=hd.ld (i:=i) (by omega) (by omega);have hy:=hd.ld (i:=a) (by omega) (by omega);rw[BI (by omega) (by omega),BI (by omega) (by omega)];simp only[hx,hy,AA];refine As (Df D _ _ W') ?_;refine⟨by simp only[and_self],trivial,?_⟩;exact kt _ (decide (at_ m i<at_ m a)) (by simp only[AG,↓reduceIte]) ⟨by simp only[AG,AJ,Nat.reduceEqDiff,↓reduceIte,E.e0],by simp only[AG,AJ,Nat.reduceEqDiff,↓reduceIte,E.e1],by simp only[AG,AJ,Nat.reduceEqDiff,↓reduceIte,E.ei],by simp only[AG,AJ,Nat.reduceEqDiff,↓reduceIte,E.ej]⟩ (λh=>⟨hle,of_decide_eq_true h⟩) λh _=>of_decide_eq_false h
 ·refine⟨trivial,trivial,?_⟩;exact kt _ false (by simp only[AG,↓reduceIte]) ⟨by simp only[AG,AJ,Nat.reduceEqDiff,↓reduceIte,E.e0],by simp only[AG,AJ,Nat.reduceEqDiff,↓reduceIte,E.e1],by simp only[AG,AJ,Nat.reduceEqDiff,↓reduceIte,E.ei],by simp only[AG,AJ,Nat.reduceEqDiff,↓reduceIte,E.ej]⟩ (λh=>(by cases h)) λ_ h=>by omega
theorem AAr{dec:Int→ByteArray}(D:M3 dec){W:CW}{K:AD}{e:Env}{b n:Nat}{a:Int}{m:List Int}{i j0:Int}(hd:Ax dec W b m)(OK:m.length=n)(hn:n≤1000000)(oC:0≤a)(DS:a<n)(h0i:0≤i)(hjn:j0<n)(E:PE e b n 10 11 a i j0)
  (OT:i≤n+5) (Wh:-5≤j0) (Ef:∀e' j,PE e' b n 10 11 a i j→j≤j0→(i≤j+1∨j=j0)→(∀x,j<x→x≤j0→¬at_ m x<at_ m a)→(i≤j→¬(¬at_ m j<at_ m a))→K (.exit 8) e' [] W) :
  FX prog Bs none 137 168 (.loop (D6 prog 137 4)) e [] W K:=by
 refine CX (λk e ds W2=>ds=[]∧W2=W∧∃j:Int,PE e b n 10 11 a i j∧j≤j0∧(i≤j+1∨j=j0)∧(∀x,j<x→x≤j0→¬at_ m x<at_ m a)∧(j+1-i).toNat=k) (j0+1-i).toNat ⟨rfl,rfl,j0,E,by omega,.inr rfl,λx h1 h2=>by omega,rfl⟩ ?_;rintro k e ds W' ⟨rfl,rfl,j,E,Fj,iq,hC,hk⟩;rw[ACb,E.e0,E.e1,E.ei,E.ej];simp only[Dc,AA]
 have kt:∀(e2:Env) (q:Bool),e2 129=.bool q→PE e2 b n 10 11 a i j→(q=true→i≤j∧¬at_ m j<at_ m a)→(q=false→i≤j→¬(¬at_ m j<at_ m a))→(T9 none (EB (λk e ds W2=>ds=[]∧W2=W'∧∃j:Int,PE e b n 10 11 a i j∧j≤j0∧(i≤j+1∨j=j0)∧(∀x,j<x→x≤j0→¬at_ m x<at_ m a)∧(j+1-i).toNat=k) k K)) .normal e2 [] W':=by
  intro e2 q g E2 hq dS;simp only[T9,Aj,g]
  refine AF (λhb=>?_) (λhb=>?_)
  ·obtain⟨hij,hc⟩:=hq hb;simp only[aY,Aj,Oo,E2.ej,Am,AA];rw[wrap64 (by omega) (by omega)];exact⟨(j-1+1-i).toNat,by omega,trivial,trivial,j-1,⟨by simp only[AG,AJ,Nat.reduceEqDiff,↓reduceIte,E2.e0],by simp only[AG,AJ,Nat.reduceEqDiff,↓reduceIte,E2.e1],by simp only[AG,AJ,Nat.reduceEqDiff,↓reduceIte,E2.ei],by simp only[AG,↓reduceIte]⟩,by omega,.inl (by omega),λx h1 h2=>if e:x=j then(by rw[e];exact hc)else hC x (by omega) h2,rfl⟩
  ·simp only[aY,LM,M7];exact Ef e2 j E2 Fj iq hC (dS hb)
 refine Nq (λhle=>?_) (λOa=>?_)
 ·have hx:=hd.ld (i:=j) (by omega) (by omega);have hy:=hd.ld (i:=a) (by omega) (by omega);rw[BI (by omega) (by omega),BI (by omega) (by omega)];simp only[hx,hy,AA];refine As (Df D _ _ W') ?_;simp only[AZ,AA];refine⟨by simp only[and_self],trivial,?_⟩;exact kt _ (!decide (at_ m j<at_ m a)) (by simp only[AG,↓reduceIte]) ⟨by simp only[AG,AJ,Nat.reduceEqDiff,↓reduceIte,E.e0],by simp only[AG,AJ,Nat.reduceEqDiff,↓reduceIte,E.e1],by simp only[AG,AJ,Nat.reduceEqDiff,↓reduceIte,E.ei],by simp only[AG,AJ,Nat.reduceEqDiff,↓reduceIte,E.ej]⟩ (λh=>⟨hle,by have h:(!decide (at_ m j<at_ m a))=true:=h;simpa using h⟩) λh _ hh=>hh (by have h:(!decide (at_ m j<at_ m a))=false:=h;simpa using h)
 ·refine⟨trivial,trivial,?_⟩;exact kt _ false (by simp only[AG,↓reduceIte]) ⟨by simp only[AG,AJ,Nat.reduceEqDiff,↓reduceIte,E.e0],by simp only[AG,AJ,Nat.reduceEqDiff,↓reduceIte,E.e1],by simp only[AG,AJ,Nat.reduceEqDiff,↓reduceIte,E.ei],by simp only[AG,AJ,Nat.reduceEqDiff,↓reduceIte,E.ej]⟩ (λh=>(by cases h)) λ_ h=>by omega
theorem AAs{dec:Int→ByteArray}(D:M3 dec){W:CW}{K:AD}{e:Env}{b n:Nat}{a:Int}{m:List Int}{i0 j:Int}(hd:Ax dec W b m)(OK:m.length=n)(hn:n≤1000000)(oC:0≤a)(DS:a<n)(h0i:0≤i0)(hjn:j<n)(E:PE e b n 9 10 a i0 j)
  (OT:i0≤n+5) (Wh:-5≤j) (Ef:∀e' i,PE e' b n 9 10 a i j→i0≤i→(i≤j+1∨i=i0)→(∀x,i0≤x→x<i→¬at_ m a<at_ m x)→(i≤j→¬(¬at_ m a<at_ m i))→K (.exit 2) e' [] W) :
  FX prog Bs none 136 84 (.loop (D6 prog 136 1)) e [] W K:=by
 refine CX (λk e ds W2=>ds=[]∧W2=W∧∃i:Int,PE e b n 9 10 a i j∧i0≤i∧(i≤j+1∨i=i0)∧(∀x,i0≤x→x<i→¬at_ m a<at_ m x)∧(j+1-i).toNat=k) (j+1-i0).toNat ⟨rfl,rfl,i0,E,by omega,.inr rfl,λx h1 h2=>by omega,rfl⟩ ?_;rintro k e ds W' ⟨rfl,rfl,i,E,Fj,iq,hC,hk⟩;rw[ACV,E.e0,E.e1,E.ei,E.ej];simp only[Dc,AA]
 have kt:∀(e2:Env) (q:Bool),e2 43=.bool q→PE e2 b n 9 10 a i j→(q=true→i≤j∧¬at_ m a<at_ m i)→(q=false→i≤j→¬(¬at_ m a<at_ m i))→(YJ none (EB (λk e ds W2=>ds=[]∧W2=W'∧∃i:Int,PE e b n 9 10 a i j∧i0≤i∧(i≤j+1∨i=i0)∧(∀x,i0≤x→x<i→¬at_ m a<at_ m x)∧(j+1-i).toNat=k) k K)) .normal e2 [] W':=by
  intro e2 q g E2 hq dS;simp only[YJ,Aj,g]
  refine AF (λhb=>?_) (λhb=>?_)
  ·obtain⟨hij,hc⟩:=hq hb;simp only[eZ,Aj,Oo,E2.ei,AK,AA];rw[wrap64 (by omega) (by omega)];exact⟨(j+1-(i+1)).toNat,by omega,trivial,trivial,i+1,⟨by simp only[AG,AJ,Nat.reduceEqDiff,↓reduceIte,E2.e0],by simp only[AG,AJ,Nat.reduceEqDiff,↓reduceIte,E2.e1],by simp only[AG,↓reduceIte],by simp only[AG,AJ,Nat.reduceEqDiff,↓reduceIte,E2.ej]⟩,by omega,.inl (by omega),λx h1 h2=>if e:x=i then(by rw[e];exact hc)else hC x h1 (by omega),rfl⟩
  ·simp only[eZ,LM,M7];exact Ef e2 i E2 Fj iq hC (dS hb)
 refine Nq (λhle=>?_) (λOa=>?_)
 ·have hx:=hd.ld (i:=i) (by omega) (by omega);have hy:=hd.ld (i:=a) (by omega) (by omega);rw[BI (by omega) (by omega),BI (by omega) (by omega)];simp only[hx,hy,AA];refine As (Df D _ _ W') ?_;simp only[AZ,AA];refine⟨by simp only[and_self],trivial,?_⟩;exact kt _ (!decide (at_ m a<at_ m i)) (by simp only[AG,↓reduceIte]) ⟨by simp only[AG,AJ,Nat.reduceEqDiff,↓reduceIte,E.e0],by simp only[AG,AJ,Nat.reduceEqDiff,↓reduceIte,E.e1],by simp only[AG,AJ,Nat.reduceEqDiff,↓reduceIte,E.ei],by simp only[AG,AJ,Nat.reduceEqDiff,↓reduceIte,E.ej]⟩ (λh=>⟨hle,by have h:(!decide (at_ m a<at_ m i))=true:=h;simpa using h⟩) λh _ hh=>hh (by have h:(!decide (at_ m a<at_ m i))=false:=h;simpa using h)
 ·refine⟨trivial,trivial,?_⟩;exact kt _ false (by simp only[AG,↓reduceIte]) ⟨by simp only[AG,AJ,Nat.reduceEqDiff,↓reduceIte,E.e0],by simp only[AG,AJ,Nat.reduceEqDiff,↓reduceIte,E.e1],by simp only[AG,AJ,Nat.reduceEqDiff,↓reduceIte,E.ei],by simp only[AG,AJ,Nat.reduceEqDiff,↓reduceIte,E.ej]⟩ (λh=>(by cases h)) λ_ h=>by omega
theorem AAt{dec:Int→ByteArray}(D:M3 dec){W:CW}{K:AD}{e:Env}{b n:Nat}{a:Int}{m:List Int}{i j0:Int}(hd:Ax dec W b m)(OK:m.length=n)(hn:n≤1000000)(oC:0≤a)(DS:a<n)(h0i:0≤i)(hjn:j0<n)(E:PE e b n 9 10 a i j0)
  (OT:i≤n+5) (Wh:-5≤j0) (Ef:∀e' j,PE e' b n 9 10 a i j→j≤j0→(i≤j+1∨j=j0)→(∀x,j<x→x≤j0→at_ m a<at_ m x)→(i≤j→¬(at_ m a<at_ m j))→K (.exit 4) e' [] W) :
  FX prog Bs none 136 84 (.loop (D6 prog 136 2)) e [] W K:=by
 refine CX (λk e ds W2=>ds=[]∧W2=W∧∃j:Int,PE e b n 9 10 a i j∧j≤j0∧(i≤j+1∨j=j0)∧(∀x,j<x→x≤j0→at_ m a<at_ m x)∧(j+1-i).toNat=k) (j0+1-i).toNat ⟨rfl,rfl,j0,E,by omega,.inr rfl,λx h1 h2=>by omega,rfl⟩ ?_;rintro k e ds W' ⟨rfl,rfl,j,E,Fj,iq,hC,hk⟩;rw[ACW,E.e0,E.e1,E.ei,E.ej];simp only[Dc,AA]
 have kt:∀(e2:Env) (q:Bool),e2 59=.bool q→PE e2 b n 9 10 a i j→(q=true→i≤j∧at_ m a<at_ m j)→(q=false→i≤j→¬(at_ m a<at_ m j))→(T3 none (EB (λk e ds W2=>ds=[]∧W2=W'∧∃j:Int,PE e b n 9 10 a i j∧j≤j0∧(i≤j+1∨j=j0)∧(∀x,j<x→x≤j0→at_ m a<at_ m x)∧(j+1-i).toNat=k) k K)) .normal e2 [] W':=by
  intro e2 q g E2 hq dS;simp only[T3,Aj,g]
  refine AF (λhb=>?_) (λhb=>?_)
  ·obtain⟨hij,hc⟩:=hq hb;simp only[PG,Aj,Oo,E2.ej,Am,AA];rw[wrap64 (by omega) (by omega)];exact⟨(j-1+1-i).toNat,by omega,trivial,trivial,j-1,⟨by simp only[AG,AJ,Nat.reduceEqDiff,↓reduceIte,E2.e0],by simp only[AG,AJ,Nat.reduceEqDiff,↓reduceIte,E2.e1],by simp only[AG,AJ,Nat.reduceEqDiff,↓reduceIte,E2.ei],by simp only[AG,↓reduceIte]⟩,by omega,.inl (by omega),λx h1 h2=>if e:x=j then(by rw[e];exact hc)else hC x (by omega) h2,rfl⟩
  ·simp only[PG,LM,M7];exact Ef e2 j E2 Fj iq hC (dS hb)
 refine Nq (λhle=>?_) (λOa=>?_)
 ·have hx:=hd.ld (i:=j) (by omega) (by omega);have hy:=hd.ld (i:=a) (by omega) (by omega);rw[BI (by omega) (by omega),BI (by omega) (by omega)];simp only[hx,hy,AA];refine As (Df D _ _ W') ?_;refine⟨by simp only[and_self],trivial,?_⟩;exact kt _ (decide (at_ m a<at_ m j)) (by simp only[AG,↓reduceIte]) ⟨by simp only[AG,AJ,Nat.reduceEqDiff,↓reduceIte,E.e0],by simp only[AG,AJ,Nat.reduceEqDiff,↓reduceIte,E.e1],by simp only[AG,AJ,Nat.reduceEqDiff,↓reduceIte,E.ei],by simp only[AG,AJ,Nat.reduceEqDiff,↓reduceIte,E.ej]⟩ (λh=>⟨hle,of_decide_eq_true h⟩) λh _=>of_decide_eq_false h
 ·refine⟨trivial,trivial,?_⟩;exact kt _ false (by simp only[AG,↓reduceIte]) ⟨by simp only[AG,AJ,Nat.reduceEqDiff,↓reduceIte,E.e0],by simp only[AG,AJ,Nat.reduceEqDiff,↓reduceIte,E.e1],by simp only[AG,AJ,Nat.reduceEqDiff,↓reduceIte,E.ei],by simp only[AG,AJ,Nat.reduceEqDiff,↓reduceIte,E.ej]⟩ (λh=>(by cases h)) λ_ h=>by omega
theorem ACd{n:Nat}(h:1≤n):2^Ip n≤2*n:=by
 unfold Ip;rw[aad (by omega),Nat.pow_succ];have:=acT (n:=n) (by omega);omega
theorem ACe{n k:Nat}(h1:2^k≤n)(h2:n<2^(k+1)):Nat.log2 n=k:=by
 have hn:n≠0:=by have:1≤2^k:=acI;omega
 have a1:2^Nat.log2 n≤n:=acT hn;have a2:n<2^(Nat.log2 n+1):=Nat.lt_log2_self
 rcases Nat.lt_trichotomy (Nat.log2 n) k with h|h|h
 ·have:=aby (n:=2) (by omega) (show Nat.log2 n+1≤k by omega);omega
 ·exact h
 ·have:=aby (n:=2) (by omega) (show k+1≤Nat.log2 n by omega);omega
theorem mQ{n k:Nat}(h:2^k≤n):Ip n=k+Ip (n/2^k):=by
 have h1:1≤2^k:=acI;have hd:1≤n/2^k:=(Nat.one_le_div_iff (by omega)).2 h;unfold Ip;rw[aad (by omega),aad (by omega)];have a1:2^Nat.log2 (n/2^k)≤n/2^k:=acT (by omega);have a2:n/2^k<2^(Nat.log2 (n/2^k)+1):=Nat.lt_log2_self
 have e:Nat.log2 n=k+Nat.log2 (n/2^k):=by
  refine ACe ?_ ?_
  ·rw[acK,ace];exact(Nat.le_div_iff_mul_le (by omega)).1 a1
  ·rw[show k+Nat.log2 (n/2^k)+1=(Nat.log2 (n/2^k)+1)+k by omega,acK];exact(Nat.div_lt_iff_lt_mul (by omega)).1 a2
 omega
noncomputable def s7(n:Nat):Bool:=match idx prog 9 (.string ⟨#[0,1,2,2,3,3,3,3,4,4,4,4,4,4,4,4,5,5,5,5,5,5,5,5,5,5,5,5,5,5,5,5,6,6,6,6,6,6,6,6,6,6,6,6,6,6,6,6,6,6,6,6,6,6,6,6,6,6,6,6,6,6,6,6,7,7,7,7,7,7,7,7,7,7,7,7,7,7,7,7,7,7,7,7,7,7,7,7,7,7,7,7,7,7,7,7,7,7,7,7,7,7,7,7,7,7,7,7,7,7,7,7,7,7,7,7,7,7,7,7,7,7,7,7,7,7,7,7,8,8,8,8,8,8,8,8,8,8,8,8,8,8,8,8,8,8,8,8,8,8,8,8,8,8,8,8,8,8,8,8,8,8,8,8,8,8,8,8,8,8,8,8,8,8,8,8,8,8,8,8,8,8,8,8,8,8,8,8,8,8,8,8,8,8,8,8,8,8,8,8,8,8,8,8,8,8,8,8,8,8,8,8,8,8,8,8,8,8,8,8,8,8,8,8,8,8,8,8,8,8,8,8,8,8,8,8,8,8,8,8,8,8,8,8,8,8,8,8,8,8,8,8,8,8,8,8]⟩) (.int .u8 (n:Int))with
 |some (.int .u8 x)=>decide (x=(Ip n:Int))&&decide (Ip n≤8)
 |_=>false
theorem ACf:(List.range 256).all s7=true:=by kernel_rfl
theorem AAu{n:Nat}(hn:n<256):idx prog 9 (.string ⟨#[0,1,2,2,3,3,3,3,4,4,4,4,4,4,4,4,5,5,5,5,5,5,5,5,5,5,5,5,5,5,5,5,6,6,6,6,6,6,6,6,6,6,6,6,6,6,6,6,6,6,6,6,6,6,6,6,6,6,6,6,6,6,6,6,7,7,7,7,7,7,7,7,7,7,7,7,7,7,7,7,7,7,7,7,7,7,7,7,7,7,7,7,7,7,7,7,7,7,7,7,7,7,7,7,7,7,7,7,7,7,7,7,7,7,7,7,7,7,7,7,7,7,7,7,7,7,7,7,8,8,8,8,8,8,8,8,8,8,8,8,8,8,8,8,8,8,8,8,8,8,8,8,8,8,8,8,8,8,8,8,8,8,8,8,8,8,8,8,8,8,8,8,8,8,8,8,8,8,8,8,8,8,8,8,8,8,8,8,8,8,8,8,8,8,8,8,8,8,8,8,8,8,8,8,8,8,8,8,8,8,8,8,8,8,8,8,8,8,8,8,8,8,8,8,8,8,8,8,8,8,8,8,8,8,8,8,8,8,8,8,8,8,8,8,8,8,8,8,8,8,8,8,8,8,8,8]⟩) (.int .u8 (n:Int))=some (.int .u8 (Ip n:Int))∧Ip n≤8:=by
 have h:=aax.1 ACf n (aaT.2 hn);unfold s7 at h
 split at h
 ·rename_i x hx;simp only[aab,decide_eq_true_eq]at h;rw[hx,h.1];exact⟨rfl,h.2⟩
 ·cases h
theorem AAv{n k:Nat}(hk:k≤63):DL prog .shr 197 true (.int .u64 (n:Int)) (.int .u64 (k:Int))=some (.int .u64 ((n/2^k:Nat):Int)):=by
 have h1:DL prog .shr 197 true (.int .u64 (n:Int)) (.int .u64 (k:Int))=cond (decide ((k:Int)<0)) none (some (.int .u64 ((n:Int).fdiv (2^(min (k:Int).toNat IntKind.u64.bits))))):=rfl;rw[h1,decide_eq_false (by omega)];have h2:min (k:Int).toNat IntKind.u64.bits=k:=by rw[abT];show min k 64=k;omega
 rw[h2]
 have h3:(n:Int).fdiv (2^k)=((n/2^k:Nat):Int):=by
  rw[Int.fdiv_eq_ediv_of_nonneg _ (Int.pow_nonneg (by decide))];simp
 rw[h3];rfl
theorem iS{n:Nat}(hn:n≤1000000)(W:CW):Ac prog Bs 116 [.int .u64 (n:Int)] W (FY (.int .i64 (Ip n:Int)) W):=by
 have AMq:Ac prog Bs 139 [.int .u64 (n:Int)] W (FY (.int .i64 (Ip n:Int)) W):=by
  refine AF8 ?_;rw[AF7];generalize FI:AM prog Tryz.f139 (FY (.int .i64 (Ip n:Int)) W)=KK
  have k0:∀(e:Env) (m r:Nat),m<256→r≤100→Ip n=r+Ip m→e 0=.int .u64 m→e 2=.int .i64 r→(X_ none KK) .normal e [] W:=by
   intro e m r hm hr hl h0 h2;obtain⟨h1,h8⟩:=AAu hm;simp only[vj,Aj,h0,AGB,AA];rw[AIa (by omega) (by omega),h1];simp only[AA,AKB,AK,h2];rw[wrap64 (x:=(Ip m:Int)) (by omega) (by omega),wrap64 (by omega) (by omega),←FI,qB];refine⟨?_,rfl⟩;simp only[AG,↓reduceIte];congr 2;omega
  have k1:∀(e:Env) (m r:Nat),m<65536→r≤50→Ip n=r+Ip m→e 0=.int .u64 m→e 2=.int .i64 r→(YA none KK) .normal e [] W:=by
   intro e m r hm hr hl h0 h2;simp only[vk,Aj,h0,Bt,AA]
   refine AF (λhg=>?_) (λhg=>?_)
   ·have hg:256≤m:=by have:=of_decide_eq_true hg;omega
    have:=AAv (n:=m) (k:=8) (by omega);rw[show((8:Nat):Int)=8 from rfl]at this;rw[this];simp only[AA,h2,AK];rw[wrap64 (by omega) (by omega)];refine k0 _ (m/2^8) (r+8) (by omega) (by omega) ?_ (by simp only[AG,Nat.reduceEqDiff,↓reduceIte]) (by simp only[AG,↓reduceIte];rfl);rw[hl,mQ (k:=8) (by omega)];omega
   ·have hg:m<256:=by have:=of_decide_eq_false hg;omega
    exact k0 _ m r hg (by omega) hl (by simp only[AG,AJ,Nat.reduceEqDiff,↓reduceIte,h0]) (by simp only[AG,AJ,Nat.reduceEqDiff,↓reduceIte,h2])
  simp only[Bt,AA];rw[decide_eq_false (by omega)];simp only[AT,vn,Aj];simp only[AG,AJ,Lc,Nat.reduceEqDiff,↓reduceIte,Nb,Kn,Bt,AA]
  refine AF (λhg=>?_) (λhg=>?_)
  ·have hg:65536≤n:=by have:=of_decide_eq_true hg;omega
   have:=AAv (n:=n) (k:=16) (by omega);rw[show((16:Nat):Int)=16 from rfl]at this;rw[this];simp only[AA,AK];rw[wrap64 (by omega) (by omega)];exact k1 _ (n/2^16) 16 (by omega) (by omega) (mQ (k:=16) (by omega)) (by simp only[AG,Nat.reduceEqDiff,↓reduceIte]) (by simp only[AG,↓reduceIte];rfl)
  ·have hg:n<65536:=by have:=of_decide_eq_false hg;omega
   exact k1 _ n 0 hg (by omega) (by omega) (by simp only[AG,AJ,Lc,Nat.reduceEqDiff,↓reduceIte,Nb,Kn]) (by simp only[AG,AJ,Nat.reduceEqDiff,↓reduceIte];rfl)
 refine AF6 ?_;rw[AF5];refine As AMq ?_;rw[qA];exact⟨rfl,rfl⟩
theorem qV{n:Nat}(hn:n≤1000000):Ip n≤20:=by
 unfold Ip
 split
 ·omega
 ·rename_i h;have a1:2^Nat.log2 n≤n:=acT h;refine abY λhh=>?_;have:=aby (n:=2) (by omega) (show 20≤Nat.log2 n by omega);omega
theorem AMr{t:Nat}(h:t≤20):DL prog .shl 164 true (.int .u64 1) (.int .i64 (t:Int))=some (.int .u64 ((2^t:Nat):Int)):=by
 have h1:DL prog .shl 164 true (.int .u64 1) (.int .i64 (t:Int))=cond (decide ((t:Int)<0)) none (some (.int .u64 (IntKind.u64.wrap (1*2^(min (t:Int).toNat IntKind.u64.bits))))):=rfl;rw[h1,decide_eq_false (by omega)];have h2:min (t:Int).toNat IntKind.u64.bits=t:=by rw[abT];show min t 64=t;omega
 have h3:2^t≤2^20:=aby (by omega) h;have h4:(1:Int)*2^t=((2^t:Nat):Int):=by simp
 rw[h2,h4,eV (Int.natCast_nonneg _) (by clear h4 h1;generalize 2^t=q at*;omega)];rfl
theorem ACg{n:Nat}(hn:n≤1000000)(W:CW):Ac prog Bs 151 [.int .i64 (n:Int)] W (FY (.int .u64 ((2^Ip n:Nat):Int)) W):=by
 refine AF' ?_;rw[AF9,AAf];simp only[AA];rw[eV (by omega) (by omega)];refine As (iS hn W) ?_;rw[AMr (qV hn)];simp only[AA];rw[qC];exact⟨rfl,rfl⟩
theorem AMs(x:Int){m:Nat}(hm:m≤10000000):∃w:Nat,DL prog .and 164 false (.int .u64 x) (.int .u64 (m:Int))=some (.int .u64 (w:Int))∧w≤m:=by
 have h:DL prog .and 164 false (.int .u64 x) (.int .u64 (m:Int))=some (.int .u64 (IntKind.u64.wrap ((BitVec.ofInt 64 x&&&BitVec.ofInt 64 (m:Int)).toNat))):=by simp only[DL,P',decide_true,cond_true];rfl
 have hle:(BitVec.ofInt 64 x&&&BitVec.ofInt 64 (m:Int)).toNat≤m:=by
  rw[BitVec.toNat_and];refine aa5 Nat.and_le_right ?_;rw[BitVec.toNat_ofInt];omega
 exact⟨_,by rw[h,eV (by omega) (by omega)],hle⟩
theorem qW{dec:Int→ByteArray}(D:M3 dec){W:CW}{b n:Nat}{a hi p:Int}{l:List Int}(ht:Ai W)(hd:Ax dec W b l)(OK:l.length=n)(hn:n≤1000000)(ha:0≤a)(L_:hi≤n)(sj:a<hi)(YL:a≤p)(TZ:p<hi) :
  Ac prog Bs 137 [.slice (some ⟨b,0,none⟩) n n,.int .i64 a,.int .i64 hi,.int .i64 p] W (λen W'=>∃FU q m,en=.returned (.tuple #[.int .i64 FU,.bool q])∧a≤FU∧FU<hi∧Sx dec W W' b a hi l m∧N7 a hi FU m):=by
 refine AGS ?_;rw[AGR];generalize FI:AM prog Tryz.f137 (λen W'=>∃FU q m,en=.returned (.tuple #[.int .i64 FU,.bool q])∧a≤FU∧FU<hi∧Sx dec W W' b a hi l m∧N7 a hi FU m)=KK
 have Gd:∀(e:Env) W' FU q m,Sx dec W W' b a hi l m→e 8=.int .i64 FU→e 9=.bool q→a≤FU→FU<hi→N7 a hi FU m→KK .ret e [] W':=by
  intro e W' FU q m S h8 h9 h1 h2 hP;rw[←FI,qP,h8,h9];exact⟨FU,q,m,rfl,h1,h2,S,hP⟩
 have hx:=hd.ld (i:=p) (by omega) (by omega);have hy:=hd.ld (i:=a) (by omega) (by omega);rw[BI (by omega) (by omega),BI (by omega) (by omega)];simp only[hx,hy,AA];refine GX (Sx.start (lo:=a) (hi:=hi) ht hd) ha (by omega) (i:=p) (j:=a) YL TZ (abD _) sj λW3 S3=>?_;refine⟨by simp only[and_self],trivial,?_⟩;have Ry:=S3.len OK;generalize mI l p a=m1 at S3 Ry;simp only[AK,Am,AA];rw[wrap64 (x:=a+1) (by omega) (by omega),wrap64 (x:=hi-1) (by omega) (by omega)];refine AAo D S3.ar Ry hn ha (by omega) (by omega) (by omega) ⟨rfl,rfl,rfl,rfl⟩ (by omega) (by omega) λe1 i1 E1 iq AN3 hL1 bU=>?_;simp only[Er,aar,mL,Aj];refine AAp D S3.ar Ry hn ha (by omega) (by omega) (by omega) E1 (by omega) (by omega) λe2 j1 E2 mh AN4 hR1 UJ=>?_;simp only[Er,aar,wH,Aj,E2.e0,E2.e1,E2.ei,E2.ej,Ae,AA]
 refine aR (λOa=>?_) (λhle=>?_)
 ·have hx:=S3.ar.ld (i:=a) (by omega) (by omega);have hy:=S3.ar.ld (i:=j1) (by omega) (by omega);rw[BI (by omega) (by omega),BI (by omega) (by omega)];simp only[hx,hy,AA];refine GX S3 ha (by omega) (i:=a) (j:=j1) (by omega) (by omega) (by omega) (by omega) λW5 S5=>?_;refine⟨by simp only[and_self],trivial,?_⟩;exact Gd _ W5 j1 true _ S5 (by simp only[AG,Nat.reduceEqDiff,↓reduceIte]) (by simp only[AG,↓reduceIte]) (by omega) (by omega) (mK Ry ha (by omega) (by omega) L_ (λx h1 h2=>hL1 x h1 (by omega)) hR1)
 have g1:=bU (by omega);have g2:at_ m1 j1<at_ m1 a:=abY λh=>UJ hle h;have D3:i1≠j1:=λh=>g1 (by rw[h];exact g2);have hx:=S3.ar.ld (i:=j1) (by omega) (by omega);have hy:=S3.ar.ld (i:=i1) (by omega) (by omega);rw[BI (by omega) (by omega),BI (by omega) (by omega)];simp only[hx,hy,AA];refine GX S3 ha (by omega) (i:=j1) (j:=i1) (by omega) (by omega) (by omega) (by omega) λW5 S5=>?_;refine⟨by simp only[and_self],trivial,?_⟩;have e:=λk (hk:0≤k)=>aS (m:=m1) (i:=j1) (j:=i1) (k:=k) Ry (by omega) (by omega) (by omega) (by omega) hk;simp only[AK,Am,AA];rw[wrap64 (x:=i1+1) (by omega) (by omega),wrap64 (x:=j1-1) (by omega) (by omega)]
 refine CX (λk e ds W'=>ds=[]∧∃(i j:Int) (m:List Int),PE e b n 10 11 a i j∧Sx dec W W' b a hi l m∧a<i∧i≤j+1∧j<hi∧(∀x,a+1≤x→x<i→at_ m x<at_ m a)∧(∀x,j<x→x≤hi-1→¬at_ m x<at_ m a)∧(j+1-i).toNat=k) (j1-1+1-(i1+1)).toNat ?_ ?_
 ·refine⟨rfl,i1+1,j1-1,_,⟨by simp only[AG,AJ,Nat.reduceEqDiff,↓reduceIte,E2.e0],by simp only[AG,AJ,Nat.reduceEqDiff,↓reduceIte,E2.e1],by simp only[AG,Nat.reduceEqDiff,↓reduceIte],by simp only[AG,↓reduceIte]⟩,S5,by omega,by omega,by omega,λx h1 h2=>?_,λx h1 h2=>?_,rfl⟩
  ·rw[e x (by omega),e a (by omega),aad (show¬x=j1 by omega),aad (show¬a=j1 by omega),aad (show¬a=i1 by omega)]
   split
   ·exact g2
   ·exact hL1 x h1 (by omega)
  ·rw[e x (by omega),e a (by omega),aad (show¬a=j1 by omega),aad (show¬a=i1 by omega)]
   split
   ·exact g1
   ·rw[aad (by omega)];exact hR1 x (by omega) h2
 clear e hx hy;rintro k e3 ds W6 ⟨rfl,i,j,m,E3,S,i0,i9,j9,hL,hR,hk⟩;have M9:=S.len OK;rw[ACZ];refine AAq D S.ar M9 hn ha (by omega) (by omega) (by omega) E3 (by omega) (by omega) λe4 i2 E4 hi2 AMt hL2 ug=>?_;simp only[Er,aar,mN,Aj];refine AAr D S.ar M9 hn ha (by omega) (by omega) (by omega) E4 (by omega) (by omega) λe5 j2 E5 rA AMu hR2 fY=>?_;simp only[Er,aar,qO,Aj,E5.e0,E5.ei,E5.ej,Ae,AA]
 have hLL:∀x,a+1≤x→x<i2→at_ m x<at_ m a:=λx h1 h2=>by
  by_cases hx:x<i
  ·exact hL x h1 hx
  ·exact hL2 x (by omega) h2
 have hRR:∀x,j2<x→x≤hi-1→¬at_ m x<at_ m a:=λx h1 h2=>by
  by_cases hx:j<x
  ·exact hR x hx h2
  ·exact hR2 x h1 (by omega)
 refine aR (λOa=>?_) (λhle=>?_)
 ·simp only[M7,Er,aar,wG,Aj];simp only[AG,AJ,Nat.reduceEqDiff,↓reduceIte,E5.e0,E5.e1,E5.ej];have hx:=S.ar.ld (i:=a) (by omega) (by omega);have hy:=S.ar.ld (i:=j2) (by omega) (by omega);rw[BI (by omega) (by omega),BI (by omega) (by omega)];simp only[hx,hy,AA];refine GX S ha (by omega) (i:=a) (j:=j2) (by omega) (by omega) (by omega) (by omega) λW8 S8=>?_;refine⟨by simp only[and_self],trivial,?_⟩;exact Gd _ W8 j2 false _ S8 (by simp only[AG,Nat.reduceEqDiff,↓reduceIte]) (by simp only[AG,↓reduceIte]) (by omega) (by omega) (mK M9 ha (by omega) (by omega) L_ (λx h1 h2=>hLL x h1 (by omega)) hRR)
 ·have g1:=ug (by omega);have g2:at_ m j2<at_ m a:=abY λh=>fY hle h;have D3:i2≠j2:=λh=>g1 (by rw[h];exact g2);have hx:=S.ar.ld (i:=j2) (by omega) (by omega);have hy:=S.ar.ld (i:=i2) (by omega) (by omega);rw[BI (by omega) (by omega),BI (by omega) (by omega)];simp only[hx,hy,AA];refine GX S ha (by omega) (i:=j2) (j:=i2) (by omega) (by omega) (by omega) (by omega) λW8 S8=>?_;refine⟨by simp only[and_self],trivial,?_⟩;have e:=λk (hk:0≤k)=>aS (m:=m) (i:=j2) (j:=i2) (k:=k) M9 (by omega) (by omega) (by omega) (by omega) hk;simp only[AK,Am,AA,Oo];rw[wrap64 (x:=i2+1) (by omega) (by omega),wrap64 (x:=j2-1) (by omega) (by omega)]
  refine⟨(j2-1+1-(i2+1)).toNat,by omega,trivial,i2+1,j2-1,_,⟨by simp only[AG,AJ,Nat.reduceEqDiff,↓reduceIte,E5.e0],by simp only[AG,AJ,Nat.reduceEqDiff,↓reduceIte,E5.e1],by simp only[AG,Nat.reduceEqDiff,↓reduceIte],by simp only[AG,↓reduceIte]⟩,S8,by omega,by omega,by omega,λx h1 h2=>?_,λx h1 h2=>?_,rfl⟩
  ·rw[e x (by omega),e a (by omega),aad (show¬x=j2 by omega),aad (show¬a=j2 by omega),aad (show¬a=i2 by omega)]
   split
   ·exact g2
   ·exact hLL x h1 (by omega)
  ·rw[e x (by omega),e a (by omega),aad (show¬a=j2 by omega),aad (show¬a=i2 by omega)]
   split
   ·exact g1
   ·rw[aad (by omega)];exact hRR x (by omega) h2
theorem AGd{dec:Int→ByteArray}(D:M3 dec){W:CW}{b n:Nat}{a hi p:Int}{l:List Int}(ht:Ai W)(hd:Ax dec W b l)(OK:l.length=n)(hn:n≤1000000)(ha:0≤a)(L_:hi≤n)(sj:a<hi)(YL:a≤p)(TZ:p<hi) :
  Ac prog Bs 136 [.slice (some ⟨b,0,none⟩) n n,.int .i64 a,.int .i64 hi,.int .i64 p] W (λen W'=>∃FU m,en=.returned (.int .i64 FU)∧a<FU∧FU≤hi∧Sx dec W W' b a hi l m∧(∀x,a≤x→x<FU→at_ m x≤at_ l p)∧∀x,FU≤x→x<hi→at_ l p<at_ m x):=by
 refine AGQ ?_;rw[AGP];have hx:=hd.ld (i:=p) (by omega) (by omega);have hy:=hd.ld (i:=a) (by omega) (by omega);rw[BI (by omega) (by omega),BI (by omega) (by omega)];simp only[hx,hy,AA];refine GX (Sx.start (lo:=a) (hi:=hi) ht hd) ha (by omega) (i:=p) (j:=a) YL TZ (abD _) sj λW3 S3=>?_;refine⟨by simp only[and_self],trivial,?_⟩
 have hpv:at_ (mI l p a) a=at_ l p:=by
  rw[aS OK (by omega) (by omega) (by omega) (by omega) ha]
  split
  ·rename_i h;rw[h]
  ·rw[aae rfl]
 generalize mI l p a=m1 at S3 hpv;simp only[AK,Am,AA];rw[wrap64 (x:=a+1) (by omega) (by omega),wrap64 (x:=hi-1) (by omega) (by omega)];refine CX (λk e ds W'=>ds=[]∧∃(i j:Int) (m:List Int),PE e b n 9 10 a i j∧Sx dec W W' b a hi l m∧a<i∧i≤j+1∧j<hi∧at_ m a=at_ l p∧(∀x,a+1≤x→x<i→¬at_ m a<at_ m x)∧(∀x,j<x→x≤hi-1→at_ m a<at_ m x)∧(j+1-i).toNat=k) (hi-1+1-(a+1)).toNat ⟨rfl,a+1,hi-1,m1,⟨rfl,rfl,rfl,rfl⟩,S3,by omega,by omega,by omega,hpv,λx h1 h2=>by omega,λx h1 h2=>by omega,rfl⟩ ?_;rintro k e3 ds W6 ⟨rfl,i,j,m,E3,S,i0,i9,j9,hma,hL,hR,hk⟩;have M9:=S.len OK;rw[ACU];refine AAs D S.ar M9 hn ha (by omega) (by omega) (by omega) E3 (by omega) (by omega) λe4 i2 E4 hi2 AMt hL2 ug=>?_;simp only[Er,aar,sv,Aj];refine AAt D S.ar M9 hn ha (by omega) (by omega) (by omega) E4 (by omega) (by omega) λe5 j2 E5 rA AMu hR2 fY=>?_;simp only[Er,aar,wF,Aj,E5.e0,E5.ei,E5.ej,Ae,AA]
 have hLL:∀x,a+1≤x→x<i2→¬at_ m a<at_ m x:=λx h1 h2=>by
  by_cases hx:x<i
  ·exact hL x h1 hx
  ·exact hL2 x (by omega) h2
 have hRR:∀x,j2<x→x≤hi-1→at_ m a<at_ m x:=λx h1 h2=>by
  by_cases hx:j<x
  ·exact hR x hx h2
  ·exact hR2 x h1 (by omega)
 refine aR (λOa=>?_) (λhle=>?_)
 ·simp only[M7,Er,aar,ss,Aj];rw[qN]
  refine⟨i2,m,?_,by omega,by omega,S,λx h1 h2=>?_,λx h1 h2=>?_⟩
  ·simp only[AG,AJ,Nat.reduceEqDiff,↓reduceIte,E5.ei]
  ·by_cases sG:x=a
   ·rw[sG,hma];exact abD _
   ·have:=hLL x (by omega) h2;omega
  ·have:=hRR x (by omega) (by omega);omega
 ·have g1:at_ m a<at_ m i2:=abY λh=>ug (by omega) h;have g2:=fY hle;have D3:i2≠j2:=λh=>g2 (by rw[←h];exact g1);have hx:=S.ar.ld (i:=j2) (by omega) (by omega);have hy:=S.ar.ld (i:=i2) (by omega) (by omega);rw[BI (by omega) (by omega),BI (by omega) (by omega)];simp only[hx,hy,AA];refine GX S ha (by omega) (i:=j2) (j:=i2) (by omega) (by omega) (by omega) (by omega) λW8 S8=>?_;refine⟨by simp only[and_self],trivial,?_⟩;have e:=λk (hk:0≤k)=>aS (m:=m) (i:=j2) (j:=i2) (k:=k) M9 (by omega) (by omega) (by omega) (by omega) hk;simp only[AK,Am,AA,Oo];rw[wrap64 (x:=i2+1) (by omega) (by omega),wrap64 (x:=j2-1) (by omega) (by omega)]
  refine⟨(j2-1+1-(i2+1)).toNat,by omega,trivial,i2+1,j2-1,_,⟨by simp only[AG,AJ,Nat.reduceEqDiff,↓reduceIte,E5.e0],by simp only[AG,AJ,Nat.reduceEqDiff,↓reduceIte,E5.e1],by simp only[AG,Nat.reduceEqDiff,↓reduceIte],by simp only[AG,↓reduceIte]⟩,S8,by omega,by omega,by omega,?_,λx h1 h2=>?_,λx h1 h2=>?_,rfl⟩
  ·rw[e a (by omega),aad (show¬a=j2 by omega),aad (show¬a=i2 by omega)];exact hma
  ·rw[e x (by omega),e a (by omega),aad (show¬x=j2 by omega),aad (show¬a=j2 by omega),aad (show¬a=i2 by omega)]
   split
   ·exact g2
   ·exact hLL x h1 (by omega)
  ·rw[e x (by omega),e a (by omega),aad (show¬a=j2 by omega),aad (show¬a=i2 by omega)]
   split
   ·exact g1
   ·rw[aad (by omega)];exact hRR x (by omega) h2
theorem AGe{dec:Int→ByteArray}{W:CW}{b n:Nat}{lo hi:Int}{l0:List Int}(ht:Ai W)(hd:Ax dec W b l0)(OK:l0.length=n)(hn:n≤1000000)(OB:0≤lo)(L_:hi≤n)(h8:8≤hi-lo) :
  Ac prog Bs 131 [.slice (some ⟨b,0,none⟩) n n,.int .i64 lo,.int .i64 hi] W (SrX dec b lo hi l0 (λ_=>True) W):=by
 refine AGG ?_;rw[AGF];generalize FI:AM prog Tryz.f131 (SrX dec b lo hi l0 (λ_=>True) W)=KK;obtain⟨l,hl⟩:∃l:Nat,hi-lo=(l:Int):=⟨(hi-lo).toNat,by omega⟩
 have AN5:2^Ip l≤2*l:=ACd (by omega);simp only[Am,AA];rw[wrap64 (by omega) (by omega),hl];simp only[Bt,AA];rw[decide_eq_true (show(l:Int)≥8 by omega),Af,AKC];simp only[AA];refine LL AMm AAg ht λW0 k0 t0 z0 Zd=>?_;have Zd:A0 W0 W.sz 205 [.int .u64 0]:=Zd;refine Ar AAg (a:=⟨W.sz,0,none⟩) (v:=.int .u64 (IntKind.u64.wrap (l:Int))) rfl Zd (by simp) λW1 cR Rz=>?_;have cR:Ep W.sz W0 W1:=cR;have Rz:A0 W1 W.sz 205 [.int .u64 (IntKind.u64.wrap (l:Int))]:=Rz;have t1:=t0.Ba (Zd.lt t0) cR;have k1:Kp W W1:=k0.Ba (aag _) cR;have kY:b<W.sz:=hd.lt ht;have D3:b≠W.sz:=by omega
 refine As (ACg (n:=l) (by omega) W1) ?_;rw[AAe (by omega) (by omega) (by omega)];simp only[Oq,AK,Am,AA];rw[wrap64 (x:=(l:Int)/4*2) (by omega) (by omega),wrap64 (x:=lo+(l:Int)/4*2) (by omega) (by omega),wrap64 (x:=lo+(l:Int)/4*2-1) (by omega) (by omega)];refine CX (λk e ds W'=>ds=[]∧(∃m,Sx dec W W' b lo hi l0 m)∧(∃c,A0 W' W.sz 205 [.int .u64 c])∧e 0=.slice (some ⟨b,0,none⟩) n n∧e 1=.int .i64 lo∧e 6=.int .i64 (l:Int)∧e 7=.pointer (some ⟨W.sz,0,none⟩)∧e 8=.int .u64 ((2^Ip l:Nat):Int)∧∃i:Int,e 9=.int .i64 i∧lo+(l:Int)/4*2-1≤i∧i≤lo+(l:Int)/4*2+2∧(lo+(l:Int)/4*2+2-i).toNat=k) 3 ⟨rfl,⟨l0,(Sx.start ht hd).kp k1 t1⟩,⟨_,Rz⟩,rfl,rfl,rfl,rfl,rfl,_,rfl,by omega,by omega,by omega⟩ ?_;rintro k e ds W2 ⟨rfl,⟨m,S⟩,⟨c,hc⟩,e0,e1,e6,e7,e8,i,e9,i0,i1,hk⟩;rw[ACO,e1,e6,e7,e8,e9,AAe (by omega) (by omega) (by omega)];simp only[Oq,AK,AA];rw[wrap64 (x:=(l:Int)/4*2) (by omega) (by omega),wrap64 (x:=lo+(l:Int)/4*2) (by omega) (by omega),wrap64 (x:=lo+(l:Int)/4*2+1) (by omega) (by omega)];simp only[Dc,AA];refine Nq (λhle=>?_) (λOa=>?_)
 rotate_left
 ·simp only[Er,M7,aar];rw[←FI];exact Hw (by kernel_rfl) _ _ (.inl rfl) _ _ ⟨rfl,m,S,trivial⟩
 refine(qF S.top hc).mono λen W3 ⟨c3,t3,k',IG,he⟩=>?_;subst he;refine AL ?_;have hd3:Ax dec W3 b m:=c3.Fk S.top D3 S.ar;have S3:Sx dec W W3 b lo hi l0 m:=⟨S.Dk.then c3 λj hj he=>by omega,t3,hd3,S.sw⟩
 have M9:=S.len OK;have TZ:1≤2^Ip l:=acI;have hp2:2^Ip l≤2000000:=by omega
 simp only[Am,AA];rw[eV (by omega) (by omega),show((2^Ip l:Nat):Int)-1=((2^Ip l-1:Nat):Int) by omega];obtain⟨w,hw,hwm⟩:=AMs k' (m:=2^Ip l-1) (by omega);rw[hw];simp only[AA,AKD,Bt];rw[wrap64 (by omega) (by omega)]
 have k9:∀(e2:Env) (o:Int),0≤o→o<l→e2 0=.slice (some ⟨b,0,none⟩) n n→e2 1=.int .i64 lo→e2 6=.int .i64 (l:Int)→e2 7=.pointer (some ⟨W.sz,0,none⟩)→e2 8=.int .u64 ((2^Ip l:Nat):Int)→e2 9=.int .i64 i→e2 10=.int .i64 o→(YE none (EB (λk e ds W'=>ds=[]∧(∃m,Sx dec W W' b lo hi l0 m)∧(∃c,A0 W' W.sz 205 [.int .u64 c])∧e 0=.slice (some ⟨b,0,none⟩) n n∧e 1=.int .i64 lo∧e 6=.int .i64 (l:Int)∧e 7=.pointer (some ⟨W.sz,0,none⟩)∧e 8=.int .u64 ((2^Ip l:Nat):Int)∧∃i:Int,e 9=.int .i64 i∧lo+(l:Int)/4*2-1≤i∧i≤lo+(l:Int)/4*2+2∧(lo+(l:Int)/4*2+2-i).toNat=k) k (CB 0 KK))) .normal e2 [] W3:=by
  intro e2 o o0 o1 g0 g1 g6 g7 g8 g9 bJ;simp only[wA,Aj,g0,g1,g9,bJ,AK,AA];rw[wrap64 (by omega) (by omega)];have hx:=S3.ar.ld (i:=lo+o) (by omega) (by omega);have hy:=S3.ar.ld (i:=i) (by omega) (by omega);rw[BI (by omega) (by omega),BI (by omega) (by omega)];simp only[hx,hy,AA];refine mO S3 OB (by omega) (i:=lo+o) (j:=i) (by omega) (by omega) (by omega) (by omega) λW5 WE S5=>?_;refine⟨by simp only[and_self],trivial,?_⟩;simp only[v_,Aj,Oo];simp only[AG,AJ,Nat.reduceEqDiff,↓reduceIte,g9,AK,AA];rw[wrap64 (by omega) (by omega)];exact⟨(lo+(l:Int)/4*2+2-(i+1)).toNat,by omega,trivial,⟨_,S5⟩,⟨k',IG.congr (WE _ (λe=>D3 e.symm))⟩,by simp only[g0],by simp only[g1],by simp only[g6],by simp only[g7],by simp only[g8],i+1,by simp only[AG],by omega,by omega,rfl⟩
 refine Ru (λGZ=>?_) (λAd=>?_)
 ·simp only[Am,AA];rw[wrap64 (by omega) (by omega)];exact k9 _ ((w:Int)-l) (by omega) (by omega) (by simp only[AG,AJ,Nat.reduceEqDiff,↓reduceIte,e0]) (by simp only[AG,AJ,Nat.reduceEqDiff,↓reduceIte,e1]) (by simp only[AG,AJ,Nat.reduceEqDiff,↓reduceIte,e6]) (by simp only[AG,AJ,Nat.reduceEqDiff,↓reduceIte,e7]) (by simp only[AG,AJ,Nat.reduceEqDiff,↓reduceIte,e8]) (by simp only[AG,AJ,Nat.reduceEqDiff,↓reduceIte,e9]) (by simp only[AG,↓reduceIte])
 ·exact k9 _ (w:Int) (by omega) (by omega) (by simp only[AG,AJ,Nat.reduceEqDiff,↓reduceIte,e0]) (by simp only[AG,AJ,Nat.reduceEqDiff,↓reduceIte,e1]) (by simp only[AG,AJ,Nat.reduceEqDiff,↓reduceIte,e6]) (by simp only[AG,AJ,Nat.reduceEqDiff,↓reduceIte,e7]) (by simp only[AG,AJ,Nat.reduceEqDiff,↓reduceIte,e8]) (by simp only[AG,AJ,Nat.reduceEqDiff,↓reduceIte,e9]) (by simp only[AG,Nat.reduceEqDiff,↓reduceIte])
def QX(dec:Int→ByteArray)(W:CW)(b n:Nat)(a0 Fj:Int)(l:List Int)(k:Nat)(e:Env)(ds:List Deferred)(W':CW):Prop:=ds=[]∧∃a hi Ld wb wp m,QE e b n a hi Ld wb wp∧Sx dec W W' b a0 Fj l m∧QI a0 Fj a hi m∧a0≤a∧a≤hi∧hi≤Fj∧(hi-a).toNat=k
theorem AMv{dec:Int→ByteArray}(D:M3 dec){b n:Nat}(hn:n≤1000000):∀(B:Nat) {W:CW} {a hi Ld:Int} {l:List Int},Ai W→Ax dec W b l→l.length=n→0≤a→a≤hi→hi≤n→hi-a≤B→(0<a→∀x,a≤x→x<hi→at_ l (a-1)≤at_ l x)→Ac prog Bs 115 [.slice (some ⟨b,0,none⟩) n n,.int .i64 a,.int .i64 hi,.int .i64 Ld] W (SrX dec b a hi l (Std a hi) W):=by
 intro B
 induction B using Nat.strongRecOn with
 |ind B ih=>
 intro W a0 Fj AMw l ht hd OK oC AMx AN6 tJ A5;refine AAj ?_;rw[AAi];generalize FI:AM prog Tryz.f115 (SrX dec b a0 Fj l (Std a0 Fj) W)=KK
 have DU:∀(x:Exit) (hx:x=.normal∨x=.ret) (e:Env) W' m,Sx dec W W' b a0 Fj l m→Std a0 Fj m→KK x e [] W':=by
  intro x hx e W' m S hs;rw[←FI];exact Hw (by kernel_rfl) _ _ hx _ _ ⟨rfl,m,S,hs⟩
 refine CX (QX dec W b n a0 Fj l) (Fj-a0).toNat ⟨rfl,a0,Fj,AMw,true,true,l,⟨rfl,rfl,rfl,rfl,rfl,rfl⟩,.start ht hd,⟨λx y hx MY hy=>by omega,λx y hx MY hy=>by omega,λx y hx sG hy qG=>by omega,λx y hx Wd hy qG=>by omega,A5⟩,abD _,AMx,abD _,rfl⟩ ?_;rintro k e ds W1 ⟨rfl,a,hi,Ld,wb,wp,m,E,S,I,ha,sj,L_,hk⟩;have M9:=S.len OK;have part:∀{W2:CW} {m2:List Int},Sx dec W1 W2 b a hi m m2→Sx dec W W2 b a0 Fj l m2∧QI a0 Fj a hi m2:=λ{W2 m2} S2=>⟨S.trans (S2.mono ha L_),I.sw oC ha L_ (by omega) S2.sw sj⟩
 rw[sm,E.e0,E.e1,E.e2,E.e3,E.e8];simp only[Am,AA];rw[wrap64 (by omega) (by omega)];simp only[Dc,AA]
 refine Nq (λdf=>?_) (λdf=>?_)
 ·refine(qU D S.top S.ar M9 (by omega) (by omega) (by omega) sj).mono λen W2 ⟨he,m2,S2,hs⟩=>?_;subst he;refine AL ?_;simp only[Ib,kK];obtain⟨g1,g2⟩:=part S2;exact DU _ (.inr rfl) _ _ m2 g1 (g2.done hs)
 simp only[BD,AA]
 refine AF (λ_=>?_) (λ_=>?_)
 ·refine(AKG D S.top S.ar M9 (by omega) (by omega) (by omega) (by omega)).mono λen W2 ⟨he,m2,S2,hs⟩=>?_;subst he;refine AL ?_;simp only[Ib,kK];obtain⟨g1,g2⟩:=part S2;exact DU _ (.inr rfl) _ _ m2 g1 (g2.done hs)
 have gh:∀(e2:Env) W2 Ld wb wp p m2,Sx dec W W2 b a0 Fj l m2→QI a0 Fj a hi m2→QE e2 b n a hi Ld wb wp→e2 10=.int .i64 (hi-a)→e2 11=.int .i64 p→a≤p→p<hi→(M1 none (EB (QX dec W b n a0 Fj l) k (CB 0 KK))) .normal e2 [] W2:=by
  intro e2 W2 Ld wb wp p m2 S2 I2 E2 OI Xu YL TZ;have CU:=S2.len OK;simp only[aT,Aj,mq,Oo,tKp,E2.e0,E2.e1,E2.e2,E2.e3,OI,Xu];refine(qW D S2.top S2.ar CU (by omega) (by omega) (by omega) (by omega) YL TZ).mono λen W3 ⟨FU,q,m3,he,q1,q2,S3,hP⟩=>?_;subst he;refine AL ?_;refine Ap (CN _ _) ?_;refine Ap (CO _ _) ?_;simp only[Am,AA];rw[wrap64 (x:=FU-a) (by omega) (by omega),wrap64 (x:=hi-FU) (by omega) (by omega),AAe (by omega) (by omega) (by omega)];simp only[AP,Bt,AA];have S23:=S2.trans (S3.mono ha L_);have wj:=S23.len OK;have I3:=I2.sw oC ha L_ (by omega) S3.sw sj
  refine AF (λ_=>?_) (λ_=>?_)
  ·refine(ih (FU-a).toNat (by omega) S3.top S3.ar wj (by omega) q1 (by omega) (by omega) (λh0 x hx Wd=>I3.pre h0 x hx (by omega))).mono λen W4 ⟨he,m4,S4,fY⟩=>?_;subst he;refine AL ?_;simp only[AK,AA];rw[wrap64 (by omega) (by omega)];have I4:=I3.sw oC ha L_ (by omega) (S4.sw.mono (abD _) (by omega:FU≤hi)) sj;have hP4:=hP.swl (by omega) q1 q2 (by omega) S4.sw;exact⟨(hi-(FU+1)).toNat,by omega,rfl,FU+1,hi,Ld,_,q,m4,⟨by simp only[AG,AJ,Nat.reduceEqDiff,↓reduceIte,E2.e0],by simp only[AG,↓reduceIte],by simp only[AG,AJ,Nat.reduceEqDiff,↓reduceIte,E2.e2],by simp only[AG,AJ,Nat.reduceEqDiff,↓reduceIte,E2.e3],(by simp only[AG,Nat.reduceEqDiff,↓reduceIte];rfl),by simp only[AG,Nat.reduceEqDiff,↓reduceIte]⟩,S23.trans (S4.mono ha (by omega)),I4.left ha q1 q2 L_ hP4 fY,by omega,by omega,by omega,rfl⟩
  ·simp only[AK,AA];rw[wrap64 (by omega) (by omega)];refine(ih (hi-(FU+1)).toNat (by omega) S3.top S3.ar wj (by omega) (by omega) (by omega) (by omega) (λh0 x hx Wd=>by rw[show FU+1-1=FU by omega];exact hP.2 x (by omega) Wd)).mono λen W4 ⟨he,m4,S4,fY⟩=>?_;subst he;refine AL ?_;have I4:=I3.sw oC ha L_ (by omega) (S4.sw.mono (by omega:a≤FU+1) (abD _)) sj;have hP4:=hP.swr (by omega) q1 q2 (by omega) S4.sw;exact⟨(FU-a).toNat,by omega,rfl,a,FU,Ld,_,q,m4,⟨by simp only[AG,AJ,Nat.reduceEqDiff,↓reduceIte,E2.e0],by simp only[AG,AJ,Nat.reduceEqDiff,↓reduceIte,E2.e1],by simp only[AG,↓reduceIte],by simp only[AG,AJ,Nat.reduceEqDiff,↓reduceIte,E2.e3],(by simp only[AG,Nat.reduceEqDiff,↓reduceIte];rfl),by simp only[AG,Nat.reduceEqDiff,↓reduceIte]⟩,S23.trans (S4.mono (by omega) L_),I4.right ha q1 q2 L_ hP4 fY,by omega,by omega,by omega,rfl⟩
 have k15:∀(e2:Env) W2 Ld wb wp p q m2,Sx dec W W2 b a0 Fj l m2→QI a0 Fj a hi m2→QE e2 b n a hi Ld wb wp→e2 10=.int .i64 (hi-a)→e2 11=.int .i64 p→e2 87=.bool q→(q=true→0<a∧at_ m2 p≤at_ m2 (a-1))→a≤p→p<hi→(Tx none (EB (QX dec W b n a0 Fj l) k (CB 0 KK))) .normal e2 [] W2:=by
  intro e2 W2 Ld wb wp p q m2 S2 I2 E2 OI Xu h87 hq YL TZ;have CU:=S2.len OK;simp only[qH,Aj,h87]
  refine AF (λhb=>?_) (λ_=>?_)
  ·obtain⟨hap,Wk⟩:=hq hb;rw[E2.e0,E2.e1,E2.e2,Xu];refine(AGd D S2.top S2.ar CU (by omega) (by omega) (by omega) (by omega) YL TZ).mono λen W3 ⟨FU,m3,he,q1,q2,S3,hL,hR⟩=>?_;subst he;refine AL ?_;have I3:=I2.sw oC ha L_ (by omega) S3.sw sj;have GZ:=S3.sw.all (P:=λv=>at_ m2 p≤v) (by omega) (by omega) (λx hx Wd=>by have:=I2.pre hap x hx Wd;omega);simp only[aT,LM,Er,aar,Oo];exact⟨(hi-FU).toNat,by omega,rfl,FU,hi,Ld,wb,wp,m3,⟨by simp only[AG,AJ,Nat.reduceEqDiff,↓reduceIte,E2.e0],by simp only[AG,↓reduceIte],by simp only[AG,AJ,Nat.reduceEqDiff,↓reduceIte,E2.e2],by simp only[AG,AJ,Nat.reduceEqDiff,↓reduceIte,E2.e3],by simp only[AG,AJ,Nat.reduceEqDiff,↓reduceIte,E2.e8],by simp only[AG,AJ,Nat.reduceEqDiff,↓reduceIte,E2.e9]⟩,S2.trans (S3.mono ha L_),I3.equal ha q1 q2 L_ GZ hL hR,by omega,by omega,by omega,rfl⟩
  ·exact gh e2 W2 Ld wb wp p m2 S2 I2 E2 OI Xu YL TZ
 have k18:∀(e2:Env) W2 Ld wb wp p m2,Sx dec W W2 b a0 Fj l m2→QI a0 Fj a hi m2→QE e2 b n a hi Ld wb wp→e2 10=.int .i64 (hi-a)→e2 11=.int .i64 p→a≤p→p<hi→(LR none (EB (QX dec W b n a0 Fj l) k (CB 0 KK))) .normal e2 [] W2:=by
  intro e2 W2 Ld wb wp p m2 S2 I2 E2 OI Xu YL TZ;have CU:=S2.len OK;simp only[aU,Aj,E2.e0,E2.e1,Xu,Ae,AA]
  refine aR (λhg=>?_) (λhl=>?_)
  ·simp only[Am,AA];rw[wrap64 (by omega) (by omega)];have hx:=S2.ar.ld (i:=a-1) (by omega) (by omega);have hy:=S2.ar.ld (i:=p) (by omega) (by omega);rw[BI (by omega) (by omega),BI (by omega) (by omega)];simp only[hx,hy,AA];refine As (Df D _ _ W2) ?_;simp only[AZ,AA];refine⟨by simp only[and_self],trivial,?_⟩;exact k15 _ W2 Ld wb wp p (!decide (at_ m2 (a-1)<at_ m2 p)) m2 S2 I2 ⟨by simp only[AG,AJ,Nat.reduceEqDiff,↓reduceIte,E2.e0],by simp only[AG,AJ,Nat.reduceEqDiff,↓reduceIte,E2.e1],by simp only[AG,AJ,Nat.reduceEqDiff,↓reduceIte,E2.e2],by simp only[AG,AJ,Nat.reduceEqDiff,↓reduceIte,E2.e3],by simp only[AG,AJ,Nat.reduceEqDiff,↓reduceIte,E2.e8],by simp only[AG,AJ,Nat.reduceEqDiff,↓reduceIte,E2.e9]⟩ (by simp only[AG,AJ,Nat.reduceEqDiff,↓reduceIte,OI]) (by simp only[AG,AJ,Nat.reduceEqDiff,↓reduceIte,Xu]) (by simp only[AG,↓reduceIte]) (λh=>⟨hg,by have h:(!decide (at_ m2 (a-1)<at_ m2 p))=true:=h;simp at h;exact h⟩) YL TZ
  ·refine⟨trivial,trivial,?_⟩;exact k15 _ W2 Ld wb wp p false m2 S2 I2 ⟨by simp only[AG,AJ,Nat.reduceEqDiff,↓reduceIte,E2.e0],by simp only[AG,AJ,Nat.reduceEqDiff,↓reduceIte,E2.e1],by simp only[AG,AJ,Nat.reduceEqDiff,↓reduceIte,E2.e2],by simp only[AG,AJ,Nat.reduceEqDiff,↓reduceIte,E2.e3],by simp only[AG,AJ,Nat.reduceEqDiff,↓reduceIte,E2.e8],by simp only[AG,AJ,Nat.reduceEqDiff,↓reduceIte,E2.e9]⟩ (by simp only[AG,AJ,Nat.reduceEqDiff,↓reduceIte,OI]) (by simp only[AG,AJ,Nat.reduceEqDiff,↓reduceIte,Xu]) (by simp only[AG,↓reduceIte]) (λh=>(by cases h)) YL TZ
 have k21:∀(e2:Env) W2 Ld wb wp p q m2,Sx dec W W2 b a0 Fj l m2→QI a0 Fj a hi m2→QE e2 b n a hi Ld wb wp→e2 10=.int .i64 (hi-a)→e2 11=.int .i64 p→e2 68=.bool q→a≤p→p<hi→(PC none (EB (QX dec W b n a0 Fj l) k (CB 0 KK))) .normal e2 [] W2:=by
  intro e2 W2 Ld wb wp p q m2 S2 I2 E2 OI Xu h68 YL TZ;have CU:=S2.len OK;simp only[qI,Aj,h68]
  refine AF (λ_=>?_) (λ_=>?_)
  ·rw[E2.e0,E2.e1,E2.e2];refine(AAn D S2.top S2.ar CU (by omega) (by omega) (by omega) (by omega) I2.pre).mono λen W3 ⟨q,m3,he,S3,hq⟩=>?_;subst he;refine AL ?_;have S23:=S2.trans (S3.mono ha L_);have I3:=I2.sw oC ha L_ (by omega) S3.sw sj
   refine AF (λhb=>?_) (λ_=>?_)
   ·simp only[aU,GL,Ib,kK];exact DU _ (.inr rfl) _ _ m3 S23 (I3.done (hq hb))
   ·exact k18 _ W3 Ld wb wp p m3 S23 I3 ⟨by simp only[AG,AJ,Nat.reduceEqDiff,↓reduceIte,E2.e0],by simp only[AG,AJ,Nat.reduceEqDiff,↓reduceIte,E2.e1],by simp only[AG,AJ,Nat.reduceEqDiff,↓reduceIte,E2.e2],by simp only[AG,AJ,Nat.reduceEqDiff,↓reduceIte,E2.e3],by simp only[AG,AJ,Nat.reduceEqDiff,↓reduceIte,E2.e8],by simp only[AG,AJ,Nat.reduceEqDiff,↓reduceIte,E2.e9]⟩ (by simp only[AG,AJ,Nat.reduceEqDiff,↓reduceIte,OI]) (by simp only[AG,AJ,Nat.reduceEqDiff,↓reduceIte,Xu]) YL TZ
  ·exact k18 e2 W2 Ld wb wp p m2 S2 I2 E2 OI Xu YL TZ
 have k22:∀(e2:Env) W2 Ld wb wp p h m2,Sx dec W W2 b a0 Fj l m2→QI a0 Fj a hi m2→QE e2 b n a hi Ld wb wp→e2 10=.int .i64 (hi-a)→e2 11=.int .i64 p→e2 12=.int .i64 h→a≤p→p<hi→(PD none (EB (QX dec W b n a0 Fj l) k (CB 0 KK))) .normal e2 [] W2:=by
  intro e2 W2 Ld wb wp p h m2 S2 I2 E2 OI Xu AMy YL TZ;simp only[qJ,Aj,E2.e8,E2.e9,AMy,BD,AA]
  refine AF (λ_=>?_) (λ_=>?_)
  ·refine AF (λ_=>?_) (λ_=>?_)
   ·exact k21 _ W2 Ld wb wp p _ m2 S2 I2 ⟨by simp only[AG,AJ,Nat.reduceEqDiff,↓reduceIte,E2.e0],by simp only[AG,AJ,Nat.reduceEqDiff,↓reduceIte,E2.e1],by simp only[AG,AJ,Nat.reduceEqDiff,↓reduceIte,E2.e2],by simp only[AG,AJ,Nat.reduceEqDiff,↓reduceIte,E2.e3],by simp only[AG,AJ,Nat.reduceEqDiff,↓reduceIte,E2.e8],by simp only[AG,AJ,Nat.reduceEqDiff,↓reduceIte,E2.e9]⟩ (by simp only[AG,AJ,Nat.reduceEqDiff,↓reduceIte,OI]) (by simp only[AG,AJ,Nat.reduceEqDiff,↓reduceIte,Xu]) (by simp only[AG,↓reduceIte];rfl) YL TZ
   ·exact k21 _ W2 Ld wb wp p false m2 S2 I2 ⟨by simp only[AG,AJ,Nat.reduceEqDiff,↓reduceIte,E2.e0],by simp only[AG,AJ,Nat.reduceEqDiff,↓reduceIte,E2.e1],by simp only[AG,AJ,Nat.reduceEqDiff,↓reduceIte,E2.e2],by simp only[AG,AJ,Nat.reduceEqDiff,↓reduceIte,E2.e3],by simp only[AG,AJ,Nat.reduceEqDiff,↓reduceIte,E2.e8],by simp only[AG,AJ,Nat.reduceEqDiff,↓reduceIte,E2.e9]⟩ (by simp only[AG,AJ,Nat.reduceEqDiff,↓reduceIte,OI]) (by simp only[AG,AJ,Nat.reduceEqDiff,↓reduceIte,Xu]) (by simp only[AG,↓reduceIte]) YL TZ
  ·exact k21 _ W2 Ld wb wp p false m2 S2 I2 ⟨by simp only[AG,AJ,Nat.reduceEqDiff,↓reduceIte,E2.e0],by simp only[AG,AJ,Nat.reduceEqDiff,↓reduceIte,E2.e1],by simp only[AG,AJ,Nat.reduceEqDiff,↓reduceIte,E2.e2],by simp only[AG,AJ,Nat.reduceEqDiff,↓reduceIte,E2.e3],by simp only[AG,AJ,Nat.reduceEqDiff,↓reduceIte,E2.e8],by simp only[AG,AJ,Nat.reduceEqDiff,↓reduceIte,E2.e9]⟩ (by simp only[AG,AJ,Nat.reduceEqDiff,↓reduceIte,OI]) (by simp only[AG,AJ,Nat.reduceEqDiff,↓reduceIte,Xu]) (by simp only[AG,↓reduceIte]) YL TZ
 have k25:∀(e2:Env) W2 Ld wb wp m2,Sx dec W W2 b a0 Fj l m2→QI a0 Fj a hi m2→QE e2 b n a hi Ld wb wp→e2 10=.int .i64 (hi-a)→(PF none (EB (QX dec W b n a0 Fj l) k (CB 0 KK))) .normal e2 [] W2:=by
  intro e2 W2 Ld wb wp m2 S2 I2 E2 OI;have CU:=S2.len OK;have hda:Dx dec W2 b n:=by rw[←CU];exact S2.ar.da
  simp only[qK,Aj,mq,tKp,E2.e0,E2.e1,E2.e2];refine(mP D S2.top hda (by omega) (by omega) (by omega) (by omega)).mono λen W3 ⟨k3,t3,p,h,he,YL,TZ⟩=>?_;subst he;have S3:=S2.kp k3 t3;refine AL ?_;refine Ap (CN _ _) ?_;refine Ap (CO _ _) ?_;simp only[BD,AA]
  refine AF (λ_=>?_) (λ_=>?_)
  ·refine(AAm S3.top S3.ar CU (by omega) (by omega) (by omega) sj).mono λen W4 ⟨he,m4,S4,_⟩=>?_;subst he;refine AL ?_;simp only[Am,AA];rw[wrap64 (x:=hi-1) (by omega) (by omega),wrap64 (x:=p-a) (by omega) (by omega),wrap64 (x:=hi-1-(p-a)) (by omega) (by omega)];exact k22 _ W4 Ld wb wp (hi-1-(p-a)) 1 m4 (S3.trans (S4.mono ha L_)) (I2.sw oC ha L_ (by omega) S4.sw sj) ⟨by simp only[AG,AJ,Nat.reduceEqDiff,↓reduceIte,E2.e0],by simp only[AG,AJ,Nat.reduceEqDiff,↓reduceIte,E2.e1],by simp only[AG,AJ,Nat.reduceEqDiff,↓reduceIte,E2.e2],by simp only[AG,AJ,Nat.reduceEqDiff,↓reduceIte,E2.e3],by simp only[AG,AJ,Nat.reduceEqDiff,↓reduceIte,E2.e8],by simp only[AG,AJ,Nat.reduceEqDiff,↓reduceIte,E2.e9]⟩ (by simp only[AG,AJ,Nat.reduceEqDiff,↓reduceIte,OI]) (by simp only[AG,Nat.reduceEqDiff,↓reduceIte]) (by simp only[AG,↓reduceIte]) (by omega) (by omega)
  ·exact k22 _ W3 Ld wb wp p h m2 S3 I2 ⟨by simp only[AG,AJ,Nat.reduceEqDiff,↓reduceIte,E2.e0],by simp only[AG,AJ,Nat.reduceEqDiff,↓reduceIte,E2.e1],by simp only[AG,AJ,Nat.reduceEqDiff,↓reduceIte,E2.e2],by simp only[AG,AJ,Nat.reduceEqDiff,↓reduceIte,E2.e3],by simp only[AG,AJ,Nat.reduceEqDiff,↓reduceIte,E2.e8],by simp only[AG,AJ,Nat.reduceEqDiff,↓reduceIte,E2.e9]⟩ (by simp only[AG,AJ,Nat.reduceEqDiff,↓reduceIte,OI]) (by simp only[AG,Nat.reduceEqDiff,↓reduceIte]) (by simp only[AG,Nat.reduceEqDiff,↓reduceIte]) YL TZ
 simp only[AZ,AA]
 refine AF (λ_=>?_) (λ_=>?_)
 ·refine(AGe S.top S.ar M9 hn (by omega) (by omega) (by omega)).mono λen W2 ⟨he,m2,S2,_⟩=>?_;subst he;refine AL ?_;obtain⟨g1,g2⟩:=part S2;exact k25 _ W2 _ wb wp m2 g1 g2 ⟨by simp only[AG,AJ,Nat.reduceEqDiff,↓reduceIte,E.e0],by simp only[AG,AJ,Nat.reduceEqDiff,↓reduceIte,E.e1],by simp only[AG,AJ,Nat.reduceEqDiff,↓reduceIte,E.e2],by simp only[AG,↓reduceIte];rfl,by simp only[AG,AJ,Nat.reduceEqDiff,↓reduceIte,E.e8],by simp only[AG,AJ,Nat.reduceEqDiff,↓reduceIte,E.e9]⟩ (by simp only[AG,Nat.reduceEqDiff,↓reduceIte])
 ·exact k25 _ W1 Ld wb wp m S I ⟨by simp only[AG,AJ,Nat.reduceEqDiff,↓reduceIte,E.e0],by simp only[AG,AJ,Nat.reduceEqDiff,↓reduceIte,E.e1],by simp only[AG,AJ,Nat.reduceEqDiff,↓reduceIte,E.e2],by simp only[AG,AJ,Nat.reduceEqDiff,↓reduceIte,E.e3],by simp only[AG,AJ,Nat.reduceEqDiff,↓reduceIte,E.e8],by simp only[AG,AJ,Nat.reduceEqDiff,↓reduceIte,E.e9]⟩ (by simp only[AG,Nat.reduceEqDiff,↓reduceIte])
def FG(ro:Option Nat)(K:AD):AD:=AU (λe ds W=>K .ret e ds W) K
def UA(ro:Option Nat)(K:AD):AD:=AU (λa b c=>let d:=D4 51 (BO a) 50 (Ag a) 49 (BA a);KG 19 a (Ag a) (BO a) c (λc f=>Dn c λg=>Dp c λh=>jy c 2 λi=>let c:=DT 59 (BO a) 58 (Ag a) 57 (BA a) (BL 11 i 10 h 9 g 55 i (D0 54 h 53 g 48 c 52 d));KG 29 a (Ag a) (BO a) f (λd f=>Dn d λj=>Dp d λk=>jy d 2 λl=>let c:=Bq 68 (BO a) 67 (B7 a) 66 (Ag a) 65 a (BL 14 l 13 k 12 j 63 l (D0 62 k 61 j 56 d 60 c));Me 30 (BA a) (Ag a) (B7 a) (BO a) f (λd f=>Dn d λm=>Dp d λn=>jy d 2 λo=>let c:=Bq 77 (BO a) 76 (B7 a) 75 (Ag a) 74 a (BL 17 o 16 n 15 m 72 o (D0 71 n 70 m 64 d 69 c));Me 31 (BA a) (Ag a) (B7 a) (BO a) f (λd f=>Dn d λp=>Dp d λq=>jy d 2 λr=>let c:=eC 83 (BO a) (BL 20 r 19 q 18 p 81 r (D0 80 q 79 p 73 d 78 c));DF 32 (BO a) f (λd f=>Dn d λs=>Dp d λt=>let c:=DT 88 (BO a) 22 t 21 s (D0 86 t 85 s 82 d 84 c);DF 33 (BO a) f (λd f=>Dn d λu=>Dp d λv=>let c:=BL 94 (BO a) 93 (BA a) 24 v 23 u (D0 91 v 90 u 87 d 89 c);KF 25 a (BO a) f (λd f=>Dn d λw=>Dp d λy=>let c:=BL 100 (BO a) 99 (BA a) 26 y 25 w (D0 97 y 96 w 92 d 95 c);KF 34 a (BO a) f (λd f=>Dn d λz=>Dp d λa0=>let c:=F5 28 a0 27 z (D0 103 a0 102 z 98 d 101 c);jx 16 [] f (λd f=>let a1:=eC 105 Bl (BQ 107 j 105 106 g (Dh 105 d 104 c));C1 d (F7 24 g j f (λc d=>let f:=EW 110 c 109 108 c a1;C1 c (Db .eql h k λc=>let f:=Dh 115 c 114 (IX 113 c 110 112 k 110 111 h f);C1 c (Oj 30 i l λc=>let f:=Dh 120 c 119 (IX 118 c 115 117 l 115 116 i f);let g:=eC 120 Bl (BQ 122 p 120 121 m f);C1 c (F7 24 m p d (λc d=>let f:=EW 125 c 124 123 c g;C1 c (Db .eql n q λc=>let f:=Dh 130 c 129 (IX 128 c 125 127 q 125 126 n f);C1 c (Oj 30 o r λc=>let f:=Dh 135 c 134 (IX 133 c 130 132 r 130 131 o f);let g:=eC 135 Bl (BQ 137 u 135 136 s f);C1 c (F7 35 s u d (λc d=>let f:=EW 140 c 139 138 c g;C1 c (Oj 30 t v λc=>let f:=Dh 145 c 144 (IX 143 c 140 142 v 140 141 t f);let g:=eC 145 Bl (BQ 147 z 145 146 w f);C1 c (F7 35 w z d (λc d=>let f:=EW 150 c 149 148 c g;C1 c (Oj 30 y a0 λc=>D1 (FG ro K) a 8 c 154 (IX 153 c 150 152 a0 150 151 y f) b d) (FG ro K) a (BG 8 154 153 150 152 151 f) b d) λc d=>Bh (FG ro K) c a g b d) (FG ro K) a (BG 8 154 153 150 152 151 (BG 150 149 148 145 147 146 f)) b d) (FG ro K) a (BG 8 154 153 150 152 151 (BG 150 149 148 145 147 146 (BG 145 144 143 140 142 141 f))) b d) λc d=>Bh (FG ro K) c a g b d) (FG ro K) a (BG 8 154 153 150 152 151 (BG 150 149 148 145 147 146 (BG 145 144 143 140 142 141 (BG 140 139 138 135 137 136 f)))) b d) (FG ro K) a (BG 8 154 153 150 152 151 (BG 150 149 148 145 147 146 (BG 145 144 143 140 142 141 (BG 140 139 138 135 137 136 (BG 135 134 133 130 132 131 f))))) b d) (FG ro K) a (BG 8 154 153 150 152 151 (BG 150 149 148 145 147 146 (BG 145 144 143 140 142 141 (BG 140 139 138 135 137 136 (BG 135 134 133 130 132 131 (BG 130 129 128 125 127 126 f)))))) b d) λc d=>Bh (FG ro K) c a g b d) (FG ro K) a (BG 8 154 153 150 152 151 (BG 150 149 148 145 147 146 (BG 145 144 143 140 142 141 (BG 140 139 138 135 137 136 (BG 135 134 133 130 132 131 (BG 130 129 128 125 127 126 (BG 125 124 123 120 122 121 f))))))) b d) (FG ro K) a (BG 8 154 153 150 152 151 (BG 150 149 148 145 147 146 (BG 145 144 143 140 142 141 (BG 140 139 138 135 137 136 (BG 135 134 133 130 132 131 (BG 130 129 128 125 127 126 (BG 125 124 123 120 122 121 (BG 120 119 118 115 117 116 f)))))))) b d) (FG ro K) a (BG 8 154 153 150 152 151 (BG 150 149 148 145 147 146 (BG 145 144 143 140 142 141 (BG 140 139 138 135 137 136 (BG 135 134 133 130 132 131 (BG 130 129 128 125 127 126 (BG 125 124 123 120 122 121 (BG 120 119 118 115 117 116 (BG 115 114 113 110 112 111 f))))))))) b d) λc d=>Bh (FG ro K) c a a1 b d) (FG ro K) a (BG 8 154 153 150 152 151 (BG 150 149 148 145 147 146 (BG 145 144 143 140 142 141 (BG 140 139 138 135 137 136 (BG 135 134 133 130 132 131 (BG 130 129 128 125 127 126 (BG 125 124 123 120 122 121 (BG 120 119 118 115 117 116 (BG 115 114 113 110 112 111 (BG 110 109 108 105 107 106 (Dh 105 d 104 c))))))))))) b f) λd f=>Bh (FG ro K) d a c b f) λd f=>Bh K d a c b f) λd f=>Bh K d a c b f) λd f=>Bh K d a c b f) λd f=>Bh K d a c b f) λd f=>Bh K d a c b f) λd f=>Bh K d a c b f) λd f=>Bh K d a c b f) λc f=>Bh K c a d b f) K
def ec:=by
 have h:=@UA.eq_1;dsimp at h;exact h
def Je(ro:Option Nat)(K:AD):AD:=AU (λa b c=>Qz a 46 (jx 16 [] c (λc d=>J6 (UA ro K) a (Dh 8 c 47 []) b d) λc d=>cg (UA ro K) c a b d) (UA ro K) a b c) (UA ro K)
def ed:=by
 have h:=@Je.eq_1;dsimp at h;exact h
def AKH(v0 v1 v2 v3:Value)(K:AD)(W:CW):=by
 have h:RN 10 155 (Gc v0 v1 v2 v3) W K=DF 13 v0 W (λa b=>D2 a λc=>let a:=EW 32 c 31 30 a (G7 29 v0 8);let d:=eC 32 Az (HA 33 v1 32 a);Ds c (Je none K) (Gc v0 v1 v2 v3) 46 (El 45 42 44 43 (H8 42 true 41 40 undef 37 39 37 38 (H8 37 true 36 35 undef 32 34 32 33 a))) [] b (DF 14 v1 b (λa b=>D2 a λc=>let a:=eC 37 c (Bc 36 c 35 32 Az 34 a d);let d:=eC 37 Az (HA 38 v2 37 a);Ds c (Je none K) (Gc v0 v1 v2 v3) 46 (El 45 42 44 43 (H8 42 true 41 40 undef 37 39 37 38 a)) [] b (DF 15 v2 b (λa b=>D2 a λc=>let a:=eC 42 c (Bc 41 c 40 37 Az 39 a d);let d:=eC 42 Az (HA 43 v3 42 a);Ds c (Je none K) (Gc v0 v1 v2 v3) 46 (El 45 42 44 43 a) [] b (DF 28 v3 b (λa b=>D2 a λc=>K4 (Je none K) (Gc v0 v1 v2 v3) (Bc 46 c 45 42 Az 44 a d) [] b) λa b=>Mh (Je none K) a v0 v1 v2 v3 d b)) λa b=>Mh (Je none K) a v0 v1 v2 v3 d b)) λa b=>Mh (Je none K) a v0 v1 v2 v3 d b)) λa b=>Mh (Je none K) a v0 v1 v2 v3 (G7 29 v0 8) b:=by kernel_rfl
 dsimp at h;exact h
theorem wL(Q:Ending→CW→Prop)(e:Env)(W:CW):AM prog Tryz.f10 Q .ret e [] W=Q (.returned (e 8)) W:=by kernel_rfl
def AKI{Q v0 v1 v2 v3 W}:=FM 10 155 [v0,v1,v2,v3] Tryz.f10 Q W Tryz.func10 (by kernel_rfl)
def AAw(ro:Option Nat)(K:AD):AD:=AU (λa b c=>DF 82 (BM a) c (λc d=>J6 K a (eC 5 At (CC 4 (BM a) 52 (BM a) 51 c 50 a 10)) b d) λc d=>Bh K c a (Ma 50 (BM a)) b d) K
def AAx:=by
 have h:=@AAw.eq_1;dsimp at h;exact h
def AKJ(v0 v1:Value)(K:AD)(W:CW):=by
 have h:E9 25 53 v0 v1 W K=(let a:=cX 16 v0 5 At 4 none 0 0 [];DF 47 v0 W (λb c=>Dn b λd=>Dp b λf=>DB 78 c λc g=>CL 78 c d g λg=>D2 f λh=>let a:=BL 21 h 20 f 7 f 6 c (D0 19 f 18 d 15 b 17 a);HV h K (JN v0 v1) (Sq 5 (RM 210) 4 none 0 0 a) g (DF 32 v1 g (λb c=>Dn b λd=>Dp b λf=>Q1 30 f 0 λg=>let a:=eC 28 g (Bc 27 f 9 8 d 26 f (BL 25 d 22 b 24 b 23 v1 a));HV g K (JN v0 v1) (DT 5 f 4 (.slice none 0 0) 29 f a) c (D7 51 d c λb=>Iz 25 53 v0 v1 (BL 32 At 31 b 30 d 10 (.slice none 0 0) a) c (AAw none K))) λb c=>H6 K b v0 v1 (eC 23 v1 a) c)) λb c=>H6 K b v0 v1 a c):=by kernel_rfl
 dsimp at h;exact h
def qX(ro:Option Nat)(K:AD):AD:=AU (λa b c=>BP a 32 λd=>D1 K a 32 d 49 [] b c) K
def mR:=by
 have h:=@qX.eq_1;dsimp at h;exact h
def AGf(ro:Option Nat)(e:Env)(ds:List Deferred)(K:AD)(W:CW):=by
 have h:CV ro 25 53 e ds W K=Lq e 32 e 31 λa=>I0 a (Nz e 30 32 λb=>Ak b W λc=>Lb 78 e 6 0 λd=>BH 75 d W λf=>Gp 75 f c true W λg=>Dn g λh=>Dp g λi=>DB 48 W λj k=>CL 48 j h k λk=>D2 i λl=>let a:=DT 44 l 43 i 14 i (BL 13 j 42 i 41 h 36 g (BL 40 g 39 c 38 f 37 d (BN 12 c 35 c 34 b 33 a)));C1 l (I9 51 1 [(0,c)] k λb d=>IZ 51 (BM e) b d λd f=>Ay (qX ro K) e 10 d (FL 48 d 47 b 46 c 45 e 10 a) ds f) (qX ro K) e a ds k) K 0 e 33 a ds W:=by kernel_rfl
 dsimp at h;exact h
theorem wM(Q:Ending→CW→Prop)(e:Env)(W:CW):AM prog Tryz.f25 Q .ret e [] W=Q (.returned (.tuple #[e 4,e 5])) W:=by kernel_rfl
def AKK{Q v0 v1 W}:=FM 25 53 [v0,v1] Tryz.f25 Q W Tryz.func25 (by kernel_rfl)
def AKL(v0:Value)(K:AD)(W:CW):=by
 have h:GQ 82 11 v0 W K=D7 51 v0 W λa=>wV (jn prog 3 164 a) λb=>let c:=DT 8 b 7 a 6 a (BN 5 v0 2 a 4 a 3 v0);DF 116 b W (λb d=>Me 115 v0 At a b d (λa d=>K4 K (CQ v0) (F5 10 a 9 b c) [] d) λa d=>LF K a (CQ v0) (eC 9 b c) d) λa b=>LF K a (CQ v0) c b:=by kernel_rfl
 dsimp at h;exact h
def AKM{Q v0 W}:=FM 82 11 [v0] Tryz.f82 Q W Tryz.func82 (by kernel_rfl)
theorem UB{a b:List UInt8}(h:HH a b=true):HH b a=false:=by
 cases hq:HH b a with
 |false=>rfl
 |true=>have:=G5 a b a h hq;rw[Nm]at this;cases this
theorem YM:∀a b:List UInt8,HH a b=true∨a=b∨HH b a=true
 |[],[]=>.inr (.inl rfl)
 |[],_::_=>.inl rfl
 |_::_,[]=>.inr (.inr rfl)
 | a::x,b::y=>by
  simp only[HH,aaU,aab]
  rcases Nat.lt_trichotomy a.toNat b.toNat with h|h|h
  ·exact .inl (.inl (aak h))
  ·have e:a=b:=UInt8.toNat_inj.1 h;subst e
   rcases YM x y with q|q|q
   ·exact .inl (.inr ⟨abu _,q⟩)
   ·exact .inr (.inl (by rw[q]))
   ·exact .inr (.inr (.inr ⟨abu _,q⟩))
  ·exact .inr (.inr (.inl (aak h)))
theorem mS:∀a b:Nat,HH (List.replicate a 0++[1]) (List.replicate b 0++[1])=decide (b<a)
 |0,0=>rfl
 |0,b+1=>by
  rw[abE];rfl
 |a+1,0=>by
  rw[abE];rfl
 |a+1,b+1=>by
  rw[abE,abE,acB,acB,HH,mS a b]
  by_cases h:b<a
  ·rw[decide_eq_true h,decide_eq_true (by omega)];rfl
  ·rw[decide_eq_false h,decide_eq_false (by omega)];rfl
theorem eh:∀a b:Nat,HH (List.replicate a 0) (List.replicate b 0)=decide (a<b)
 |0,0=>rfl
 |0,b+1=>by
  rw[abE];rfl
 |a+1,0=>by
  rw[abE];rfl
 |a+1,b+1=>by
  rw[abE,abE,HH,eh a b]
  by_cases h:a<b
  ·rw[decide_eq_true h,decide_eq_true (by omega)];rfl
  ·rw[decide_eq_false h,decide_eq_false (by omega)];rfl
def ACh(x:Int):ByteArray:=if x<0 then⟨(1::(List.replicate (-x).toNat 0++[1])).toArray⟩else⟨(255::List.replicate x.toNat 0).toArray⟩
theorem AKN:M3 ACh:=⟨λx y=>by
 unfold ACh
 by_cases hx:x<0<;>by_cases hy:y<0
 ·rw[aae hx,aae hy];show HH (1::_) (1::_)=_;rw[HH,mS]
  by_cases h:x<y
  ·rw[decide_eq_true h,decide_eq_true (by omega)];rfl
  ·rw[decide_eq_false h,decide_eq_false (by omega)];rfl
 ·rw[aae hx,aad hy,decide_eq_true (by omega)];rfl
 ·rw[aad hx,aae hy,decide_eq_false (by omega)];rfl
 ·rw[aad hx,aad hy];show HH (255::_) (255::_)=_;rw[HH,eh]
  by_cases h:x<y
  ·rw[decide_eq_true h,decide_eq_true (by omega)];rfl
  ·rw[decide_eq_false h,decide_eq_false (by omega)];rfl⟩
def Good(s:ByteArray):Prop:=∃x r,sb s=x::r∧2≤x.toNat∧x.toNat≤254
structure ACi(dec:Int→ByteArray):Prop where
 ord:M3 dec
 low:∀s,Good s→∃x,HH (sb (dec x)) (sb s)=true
 high:∀s,Good s→∃x,HH (sb s) (sb (dec x))=true
theorem AKO:ACi ACh:=⟨AKN,λs ⟨x,r,h,h1,h2⟩=>⟨-1,by
  rw[h];show HH (1::_) (x::r)=true;rw[HH,show Nat.blt (1:UInt8).toNat x.toNat=true from aak h1]
  rfl⟩,λs ⟨x,r,h,h1,h2⟩=>⟨0,by
  rw[h];show HH (x::r) (255::_)=true;rw[HH,show Nat.blt x.toNat (255:UInt8).toNat=true from aak (by show x.toNat+1≤255;omega)]
  rfl⟩⟩
theorem s8(P:Int→Bool):∀(n:Nat) (x:Int),P x=true→P (x+n)=false→∃z,P z=true∧P (z+1)=false
 |0,x,h1,h2=>by rw[show x+((0:Nat):Int)=x by omega,h1]at h2;cases h2
 |n+1,x,h1,h2=>by
  cases h:P (x+1)with
  |false=>exact⟨x,h1,h⟩
  |true=>exact s8 P n (x+1) h (by rw[show x+1+(n:Int)=x+((n+1:Nat):Int) by omega];exact h2)
theorem AAy{a b:ByteArray}(h:sb a=sb b):a=b:=by
 have:bA (sb a) (sb b)=true:=by rw[h];exact Ou _
 exact MR this
theorem AAz{dec:Int→ByteArray}(D:ACi dec){s:ByteArray}(hs:Good s):∃AA0,ACi AA0∧(∃x,AA0 x=s)∧∀x,∃y,AA0 y=dec x:=by
 obtain⟨x0,h0⟩:=D.low s hs;obtain⟨y0,h1⟩:=D.high s hs
 have Ad:x0<y0:=by
  have:=G5 _ _ _ h0 h1;rw[D.ord.lt]at this;exact of_decide_eq_true this
 obtain⟨z,hz1,hz2⟩:=s8 (λx=>HH (sb (dec x)) (sb s)) (y0-x0).toNat x0 h0 (by
  show HH (sb (dec (x0+((y0-x0).toNat:Int)))) (sb s)=false;rw[show x0+((y0-x0).toNat:Int)=y0 by omega]
  exact UB h1)
 have hz1:HH (sb (dec z)) (sb s)=true:=hz1;have hz2:HH (sb (dec (z+1))) (sb s)=false:=hz2
 rcases YM (sb (dec (z+1))) (sb s)with q|q|q
 ·rw[hz2]at q;cases q
 ·exact⟨dec,D,⟨z+1,AAy q⟩,λx=>⟨x,rfl⟩⟩
 ·have lo:∀y,y≤z→HH (sb (dec y)) (sb s)=true:=λy hy=>by
   by_cases e:y=z
   ·rw[e];exact hz1
   ·exact G5 _ _ _ (by rw[D.ord.lt];exact decide_eq_true (by omega)) hz1
  have hi:∀y,z<y→HH (sb s) (sb (dec y))=true:=λy hy=>by
   by_cases e:y=z+1
   ·rw[e];exact q
   ·exact G5 _ _ _ q (by rw[D.ord.lt];exact decide_eq_true (by omega))
  let d:Int→ByteArray:=λy=>if y≤z then dec y else if y=z+1 then s else dec (y-1)
  have d1:∀{y},y≤z→d y=dec y:=λh=>aae h;have d2:d (z+1)=s:=by show(if _ then _ else _)=_;rw[aad (by omega),aae rfl]
  have d3:∀{y},z+1<y→d y=dec (y-1):=λ{y} h=>by show(if _ then _ else _)=_;rw[aad (by omega),aad (by omega)]
  have hr:∀x,∃y,d y=dec x:=λx=>by
   by_cases h:x≤z
   ·exact⟨x,d1 h⟩
   ·exact⟨x+1,by rw[d3 (by omega),show x+1-1=x by omega]⟩
  refine⟨d,⟨⟨λx y=>?_⟩,λt ht=>?_,λt ht=>?_⟩,⟨z+1,d2⟩,hr⟩
  ·rcases Int.lt_trichotomy x (z+1)with hx|hx|hx<;>rcases Int.lt_trichotomy y (z+1)with hy|hy|hy
   ·rw[d1 (by omega),d1 (by omega),D.ord.lt]
   ·subst hy;rw[d1 (by omega),d2,lo _ (by omega),decide_eq_true (by omega)]
   ·rw[d1 (by omega),d3 hy,D.ord.lt]
    by_cases h:x<y
    ·rw[decide_eq_true h,decide_eq_true (by omega)]
    ·omega
   ·subst hx;rw[d2,d1 (by omega),UB (lo _ (by omega)),decide_eq_false (by omega)]
   ·subst hx;subst hy;rw[d2,Nm,decide_eq_false (by omega)]
   ·subst hx;rw[d2,d3 hy,hi _ (by omega),decide_eq_true (by omega)]
   ·rw[d3 hx,d1 (by omega),D.ord.lt,decide_eq_false (by omega),decide_eq_false (by omega)]
   ·subst hy;rw[d3 hx,d2,UB (hi _ (by omega)),decide_eq_false (by omega)]
   ·rw[d3 hx,d3 hy,D.ord.lt]
    by_cases h:x<y
    ·rw[decide_eq_true h,decide_eq_true (by omega)]
    ·rw[decide_eq_false h,decide_eq_false (by omega)]
  ·obtain⟨x,hx⟩:=D.low t ht;obtain⟨y,hy⟩:=hr x;exact⟨y,by rw[hy];exact hx⟩
  ·obtain⟨x,hx⟩:=D.high t ht;obtain⟨y,hy⟩:=hr x;exact⟨y,by rw[hy];exact hx⟩
theorem s_:∀os:List ByteArray,(∀s,s∈os→Good s)→∃dec,ACi dec∧∀s,s∈os→∃x,dec x=s
 |[],_=>⟨ACh,AKO,λs h=>by cases h⟩
 |s::os,h=>by
  obtain⟨dec,D,hd⟩:=s_ os λt ht=>h t (by simp[ht]);obtain⟨AA0,D',h1,h2⟩:=AAz D (h s (by simp));refine⟨AA0,D',λt ht=>?_⟩
  rcases aaJ.1 ht with rfl|ht
  ·exact h1
  ·obtain⟨x,rfl⟩:=hd t ht;exact h2 x
theorem mT{dec:Int→ByteArray}:∀os:List ByteArray,(∀s,s∈os→∃x,dec x=s)→∃cs:List Int,cs.map dec=os
 |[],_=>⟨[],rfl⟩
 |s::os,h=>by
  obtain⟨x,hx⟩:=h s (by simp);obtain⟨cs,hc⟩:=mT os λt ht=>h t (by simp[ht]);exact⟨x::cs,by rw[abW,hx,hc]⟩
theorem tB(dec:Int→ByteArray)(cs:List Int):sx dec cs=strs (cs.map dec):=by simp[sx,strs]
def Asc(l:List ByteArray):Prop:=l.Pairwise λa b=>HH (sb b) (sb a)=false
theorem AA1{W:CW}:Ac prog Bs 129 [.slice none 0 0,.int .i64 0,.int .i64 0] W (FY (.tuple #[]) W):=by
 refine AAl ?_;rw[AAk];simp only[AK,AA];rw[wrap64 (by omega) (by omega)];refine CX (λk e ds W'=>ds=[]∧W'=W∧e 2=.int .i64 0∧e 6=.int .i64 (0+1)) 0 ⟨rfl,rfl,rfl,rfl⟩ ?_;rintro k e ds W' ⟨rfl,rfl,h2,h6⟩;rw[so,h2,h6];simp only[AP,AA];rw[decide_eq_false (by omega),AT];simp only[Er,M7,aar];exact Hw (by kernel_rfl) _ _ (.inl rfl) _ _ ⟨rfl,rfl⟩
theorem AA2{W:CW}{Ld:Int}:Ac prog Bs 115 [.slice none 0 0,.int .i64 0,.int .i64 0,.int .i64 Ld] W (FY (.tuple #[]) W):=by
 refine AAj ?_;rw[AAi];refine CX (λk e ds W'=>ds=[]∧W'=W∧e 0=.slice none 0 0∧e 1=.int .i64 0∧e 2=.int .i64 0) 0 ⟨rfl,rfl,rfl,rfl,rfl⟩ ?_;rintro k e ds W' ⟨rfl,rfl,h0,h1,h2⟩;rw[sm,h0,h1,h2];simp only[Am,AA];rw[wrap64 (by omega) (by omega)];simp only[Dc,AA];rw[decide_eq_true (by omega),Af];refine As AA1 ?_;simp only[Ib,kK];exact Hw (by kernel_rfl) _ _ (.inr rfl) _ _ ⟨rfl,rfl⟩
theorem wN{W:CW}{vo:Value}{os:List ByteArray}(ht:Ai W)(ho:Bu W 9 1 vo (strs os))(hn:os.length≤1000000)(hg:∀s,s∈os→Good s) :
  Ac prog Bs 82 [vo] W (λen W'=>en=.returned (.tuple #[])∧Bw (FA vo) W W'∧Ai W'∧∃l:List ByteArray,l.Perm os∧Asc l∧Bu W' 9 1 vo (strs l)):=by
 refine AKM ?_;rw[AKL];obtain⟨dec,D,hd⟩:=s_ os hg;obtain⟨cs,rfl⟩:=mT os hd;have hl:=EY (cs.map dec);rw[←tB]at ho hl;rw[aaq]at hl hn;generalize UZ:sx dec cs=vs at ho hl
 cases ho with
 |nil=>
  have:cs=[]:=aaG.1 hl.symm;subst this;rw[AQ LW];simp only[AA,AAf];rw[eV (by omega) (by omega)];refine As (iS (n:=0) (by omega) W) ?_;refine As AA2 ?_;refine Hw (by kernel_rfl) _ _ (.inl rfl) _ _ ⟨rfl,.refl _ _,ht,[],acO _,List.Pairwise.nil,Bu.nil⟩
 | @some b len _ hB V6=>
  have:len=cs.length:=by omega
  subst this;have hA:Ax dec W b cs:=by unfold Ax;rw[UZ];exact hB
  rw[AQ LW];simp only[AA,AAf];rw[eV (by omega) (by omega)];refine As (iS hn W) ?_;refine(AMv D.ord hn cs.length ht hA rfl (by omega) (by omega) (by omega) (by omega) (λh=>by omega)).mono λen W1 ⟨he,m,S,FJ⟩=>?_;subst he;refine AL ?_;have M9:=S.sw.len
  refine Hw (by kernel_rfl) _ _ (.inl rfl) _ _ ⟨rfl,⟨S.Dk.sz,λi hi hS=>S.Dk.obj i hi λe=>hS ⟨_,_,_,rfl,e.symm⟩⟩,S.top,m.map dec,(S.sw.perm (by omega) (by omega)).map dec,?_,?_⟩
  ·refine List.Pairwise.map _ (R:=λa b=>a≤b) (λa b h=>by rw[D.ord.lt];exact decide_eq_false (by omega)) ?_;rw[acA];intro i j hi hj hij;have h1:=FJ i j (by omega) (by omega) (by omega);unfold at_ at h1;rw[abT,abT,ck hi,ck hj]at h1;exact h1
  ·rw[←tB];exact Bu.some S.ar (by rw[iR];omega)
def AGg(_:ByteArray):Option Int:=none
theorem ACj(A:CW):sT A (.func (.func 93) #[] #[]) AGg:=by
 intro s W K KP kA ht G_ MK;refine Na Tryz.func93 (by kernel_rfl) ?_;refine AH3 (v0:=.string s) ?_;rw[AH2];exact Hw (by kernel_rfl) _ _ (.inl rfl) _ _ (G_ rfl _ W (.refl _) ht)
theorem ADL:∀ts:List ByteArray,IC AGg ts=none
 |[]=>rfl
 |t::ts=>by unfold IC;exact ADL ts
def HG(b:List UInt8):List ByteArray×Int:=if 100000<b.length then([],2)else match(Au b).2 with
 |some _=>((Au b).1,0)
 |none=>([],4)
theorem AKP(b:List UInt8):Gt b AGg 0=match(Au b).2 with
 |some a=>.ok ((Au b).1,a)
 |none=>.error 4:=by rw[head_eq,ADL]<;>rfl
def Ns(r:List ByteArray×Int)(W:CW):Ending→CW→Prop:=λen W'=>Kp W W'∧Ai W'∧∃v,en=.returned (.tuple #[v,.int .i64 r.2])∧Bu W' 9 1 v (strs r.1)∧Aw W.sz v
theorem mU{P:Program}{fn:Func}{Q:Ending→CW→Prop}{e:Env}{W:CW}{s t:Tmp}{ty:TypeId}{p:Addr}{v:Value}(hr:fn.results.toList=[.cell s ty,.tmp t])(he:e s=.pointer (some p))(hv:ld P ty (.pointer (some p)) W=some v)(hq:Q (.returned (.tuple #[v,e t])) W):AM P fn Q .ret e [] W:=by
 have hv:MO P ty p W=some v:=hv;simp only[AM,Da,hr,Lo,tu,he,hv];exact hq
theorem mV:Tryz.f32.results.toList=[.cell 2 51,.tmp 3]:=by kernel_rfl
theorem ae{vb:Value}{b:List UInt8}{W:CW}(ht:Ai W)(hb:Ts W vb b):Ac prog Bs 32 [vb] W (Ns (HG b) W):=by
 refine AHl ?_;rw[AHk];refine LL z51 s51 ht λT k8 tT zT hB=>?_;have hB:A0 T W.sz 51 [.slice none 0 0]:=hB;have hbT:=hb.kp ht k8;obtain⟨a,cap,N1,OR,TK⟩:=hbT.sl;rw[N1];simp only[AA]
 refine(Z1 (Q:=λen W'=>Kp W W'∧Ai W'∧∃x v ts,en=.returned (.int .i64 x)∧A0 W' W.sz 51 [v]∧Bu W' 9 1 v (strs ts)∧Aw W.sz v∧HG b=(ts,x)) tT (λLX W' k t=>⟨k8.trans k,t,2,.slice none 0 0,[],rfl,hB.ext tT k,Bu.nil,Aw.nil _ _ _,by unfold HG;rw[aae LX]⟩) (λN_ W0 k t hz hBe vB=>?_)).mono λen W' ⟨kk,tt,x,v,ts,Hx,hB',hO,hN,hP⟩=>?_
 ·have hP:HG b=match(Au b).2 with
   |some _=>((Au b).1,0)
   |none=>([],4):=by unfold HG;rw[aad (by omega)]<;>rfl
  have I:QG T (.slice a b.length cap) b:=⟨tT,⟨a,cap,rfl,OR,TK⟩,N_⟩
  have R:Rd T W0 (T.sz+1) (.slice a b.length cap) 0:=⟨k,t,by omega,vB⟩
  have Zd:=hB.ext tT k;have hWT:W.sz<T.sz:=by omega
  refine Na Tryz.func91 (by kernel_rfl) ?_;refine AH1 (v0:=.pointer (some ⟨T.sz+1,0,none⟩)) (v1:=.pointer (some ⟨W.sz,0,none⟩)) ?_;rw[AH0];refine(sU I R (aa1 _) (ACj T)).mono λen W1 ⟨c1,t1,hp⟩=>?_;rw[AKP]at hp;have ACk:A0 W1 T.sz 30 [.int .i64 0]:=c1.Fk t (λh=>by have:T.sz=T.sz+1:=h;omega) hBe;have Rz:A0 W1 W.sz 51 [.slice none 0 0]:=c1.Fk t (λh=>by have:W.sz=T.sz+1:=h;omega) Zd
  have ACH:∀W',u5 T.sz W1 W'→Ai W'→Kp W W':=λW' hu t'=>⟨by have:=k8.sz;have:=k.sz;have:=c1.sz;have:=hu.sz;omega,λj hj=>by
   rw[hu.obj j (by have:=c1.sz;omega) (by omega),c1.obj j (by omega) (λh=>by have:j=T.sz+1:=h;omega),(k8.trans k).obj j hj]⟩
  cases hq:(Au b).2 with
  |none=>
   rw[hq]at hp hP;have hp:en=.panicked (D5 4):=hp;subst hp;refine Ev ?_;exact⟨4,rfl,t1,ACk,λW' hu t'=>⟨ACH W' hu t',t',4,.slice none 0 0,[],rfl,Rz.congr (hu.obj _ (Rz.lt t1) (by omega)),Bu.nil,Aw.nil _ _ _,hP⟩⟩
  | some a2=>
   rw[hq]at hp hP;obtain⟨v,rfl,⟨hO,hN⟩,_⟩:=hp;refine AL ?_;refine Ar s51 (a:=⟨W.sz,0,none⟩) (v:=v) (Za hO) Rz (by simp) λW2 hu HD=>?_;have hu:Ep W.sz W1 W2:=hu;have HD:A0 W2 W.sz 51 [v]:=HD;have hWl:=Rz.lt t1;have hzt:=ACk.lt t1;have t2:=t1.Ba hWl hu
   have gq:Bu W2 9 1 v (strs (Au b).1):=N6 hO λj hj=>hu.obj j λe=>by
    subst e;have:=BE (CR hO hj) Rz
    cases this
   refine Hw (by kernel_rfl) _ _ (.inl rfl) _ _ ?_
   refine⟨t2,ACk.congr (hu.obj _ (by omega)),λW' YT t'=>⟨⟨by have:=k8.sz;have:=k.sz;have:=c1.sz;have:=YT.sz;have:=hu.sz;omega,λj hj=>?_⟩,t',0,v,(Au b).1,rfl,HD.congr (YT.obj _ (HD.lt t2) (by omega)),?_,λb' l' c' e=>by have:=hN b' l' c' e;have:=k8.sz;have:=k.sz;omega,hP⟩⟩
   ·rw[YT.obj j (by rw[hu.sz];have:=c1.sz;omega) (by omega),hu.obj j (by omega),c1.obj j (by omega) (λh=>by have:j=T.sz+1:=h;omega),(k8.trans k).obj j hj]
   ·refine N6 gq λj hj=>YT.obj j ?_ λe=>?_
    ·exact Zc t2 gq hj
    ·subst e;have:=BE (CR gq hj) (ACk.congr (hu.obj _ (by omega)))
     cases this
 ·subst Hx;refine AL ?_;have l51:ld prog 51 (.pointer (some ⟨W.sz,0,none⟩)) W'=some v:=AH a51 (a:=⟨W.sz,0,none⟩) (hB'.cell rfl);rw[l51];simp only[AA];refine Ar s51 (a:=⟨W.sz,0,none⟩) (v:=v) (Za hO) hB' (by simp) λW2 hu HD=>?_;have hu:Ep W.sz W' W2:=hu;have HD:A0 W2 W.sz 51 [v]:=HD
  have gq:Bu W2 9 1 v (strs ts):=N6 hO λj hj=>hu.obj j λe=>by
   subst e;have:=BE (CR hO hj) hB'
   cases this
  refine mU mV (p:=⟨W.sz,0,none⟩) (v:=v) (by simp only[AG,Nat.reduceEqDiff,↓reduceIte]) (AH a51 (a:=⟨W.sz,0,none⟩) (HD.cell rfl)) ?_;rw[hP];exact⟨kk.Ba (aag _) hu,tt.Ba (hB'.lt tt) hu,v,by simp only[AG,↓reduceIte],gq,hN⟩
theorem ag{vb:Value}{b:List UInt8}{W:CW}(ht:Ai W)(hb:Ts W vb b)(hE:J8 W 5 vb):Ac prog Bs 33 [vb] W (Ns (HG b) W):=by
 refine AHn ?_;rw[AHm];generalize FI:AM prog Tryz.f33 (Ns (HG b) W)=KK
 have DU:∀(e:Env) W' v ts x,Kp W W'→Ai W'→e 2=v→e 3=.int .i64 x→Bu W' 9 1 v (strs ts)→Aw W.sz v→HG b=(ts,x)→KK .ret e [] W':=by
  intro e W' v ts x k t h2 h3 hO hN hP;rw[←FI,uD,h2,h3,hP];exact⟨k,t,v,rfl,hO,hN⟩
 obtain⟨a,cap,N1,OR,TK⟩:=hb.sl;rw[N1,AQ LS];simp only[AA,Ae]
 refine AF (λLX=>?_) (λLX=>?_)
 ·have LX:=of_decide_eq_true LX;exact DU _ W _ [] 2 (.refl _) ht (by simp only[AG,Nat.reduceEqDiff,↓reduceIte]) (by simp only[AG,↓reduceIte]) Bu.nil (Aw.nil _ _ _) (by unfold HG;rw[aae (by omega)])
 have LX:=of_decide_eq_false LX
 have hP:HG b=match(Au b).2 with
  |some _=>((Au b).1,0)
  |none=>([],4):=by unfold HG;rw[aad (by omega)]<;>rfl
 refine Ap (se _ _ _) ?_;refine G8 AJV ht λW2 k2 t2 z2 vB=>?_;have vB:A0 W2 W.sz 145 [.slice a b.length cap,.int .i64 (0:Nat),.bool false]:=vB;rw[←N1]at vB ⊢;have I:QG W vb b:=⟨ht,⟨a,cap,N1,OR,TK⟩,by omega⟩
 have R:RR W W2 W.sz vb 0 false:=⟨k2,t2,aag _,vB⟩
 refine(Z0 I hE R).mono λen W3 ⟨c3,tv,Hx,M5,hN,MW⟩=>?_;subst Hx;refine AL ?_
 cases hq:(Au b).2 with
 |none=>
  rw[hq]at MW hP;obtain⟨at3,_,R3⟩:=MW;simp only[By,CF,AA,R3.ik,Af];exact DU _ W3 _ [] 4 R3.kp R3.top (by simp only[AG,Nat.reduceEqDiff,↓reduceIte]) (by simp only[AG,↓reduceIte]) Bu.nil (Aw.nil _ _ _) hP
 |some a3=>
  rw[hq]at MW hP;obtain⟨_,R3⟩:=MW;simp only[By,CF,AA,R3.ik,AT];exact DU _ W3 tv _ 0 R3.kp R3.top (by simp only[AG,Nat.reduceEqDiff,↓reduceIte]) (by simp only[AG,↓reduceIte]) M5 (λb' l' c' e=>by have:=hN b' l' c' e;omega) hP
theorem PK{W:CW}{va vc:Value}{l:List ByteArray}(ha:Ab 1 (kZ W) va l)(hc:Ab 1 (kZ W) vc l)(hl:l.length<1000000):Ac prog Bs 35 [va,vc] W (FY (.bool true) W):=by
 refine AHr ?_;rw[AHq];generalize FI:AM prog Tryz.f35 (FY (.bool true) W)=KK;obtain⟨a,ca,rfl,hac⟩:=id ha;obtain⟨d,cd,rfl,hdc⟩:=id hc;rw[AQ LW,AQ LW];simp only[AA,BX,bne_self_eq_false,AT];refine C2 (λi e ds W'=>ds=[]∧W'=W∧e 0=.slice a l.length ca∧e 1=.slice d l.length cd∧e 5=.int .i64 i) l.length ⟨rfl,rfl,rfl,rfl,rfl⟩ ?_;rintro i e ds W' hi ⟨rfl,rfl,h0,h1,h5⟩;rw[ADy,h0,h1,h5,AQ LW];simp only[AA,AP]
 refine Eh (λAd=>?_) (λGZ=>?_)
 ·have hx:=ck Ad;obtain⟨p,rfl,hp⟩:=hac i _ hx;obtain⟨q,rfl,hq⟩:=hdc i _ hx;rw[AY LW s9 Ad,AY LW s9 Ad];have lp:ld prog 9 (.pointer (some ⟨p.block,p.off+i*1,none⟩)) W'=some (.string l[i]):=AH a9 (a:=⟨p.block,p.off+i*1,none⟩) hp;have lq:ld prog 9 (.pointer (some ⟨q.block,q.off+i*1,none⟩)) W'=some (.string l[i]):=AH a9 (a:=⟨q.block,q.off+i*1,none⟩) hq;simp only[AA,lp,lq,K6,Ou,aav,AT];refine⟨by simp only[and_self],trivial,?_⟩;simp only[yc,Aj,FH];simp only[AG,AJ,Nat.reduceEqDiff,↓reduceIte,h5,AK,AA];exact⟨Ad,trivial,trivial,by simp only[h0],by simp only[h1],by rw[CE (by omega)]⟩
 ·simp only[Er,Jp,aar,yb,Aj];rw[←FI,uG];exact⟨by simp only[AG,↓reduceIte],rfl⟩
def UC(s:ByteArray):List ByteArray→List ByteArray
 |[]=>[s]
 |x::r=>if HH (sb x) (sb s)=true then x::UC s r else s::x::r
def PL(c:List Aq)(ts:List ByteArray):List ByteArray:=ts.foldl (λout s=>if(A3 c s).isSome then out else UC s out) []
def Iq(c:List Aq)(b:List UInt8):List ByteArray×Int:=if Bk c=false then([],210)else if(HG b).2≠0 then([],(HG b).2)else(PL c (HG b).1,0)
theorem Vr(s:ByteArray):∀l:List ByteArray,(UC s l).Perm (s::l)
 |[]=>acO _
 |x::r=>by
  unfold UC
  split
  ·exact((Vr s r).cons x).trans (List.Perm.swap s x r)
  ·exact acO _
theorem mW{s:ByteArray}:∀{l:List ByteArray},Asc l→Asc (UC s l)
 |[],_=>abM _ _
 | x::r,h=>by
  obtain⟨h1,h2⟩:=acj.1 h;unfold UC
  split
  ·rename_i hx;refine acj.2 ⟨λy hy=>?_,mW h2⟩
   rcases aaJ.1 ((Vr s r).mem_iff.1 hy)with rfl|hy
   ·exact UB hx
   ·exact h1 y hy
  ·rename_i hx;have hx:HH (sb x) (sb s)=false:=by simpa using hx
   refine acj.2 ⟨λy hy=>?_,h⟩
   rcases aaJ.1 hy with rfl|hy
   ·exact hx
   ·cases hq:HH (sb y) (sb s)with
    |false=>rfl
    |true=>
     rcases YM (sb x) (sb y)with q|q|q
     ·have:=G5 _ _ _ q hq;rw[hx]at this;cases this
     ·rw[←q,hx]at hq;cases hq
     ·rw[h1 y hy]at q;cases q
theorem tC{s:ByteArray}:∀{l:List ByteArray} {k:Nat},k≤l.length→(∀j x,j<k→l[j]?=some x→HH (sb x) (sb s)=true)→(∀x,l[k]?=some x→HH (sb x) (sb s)=false)→UC s l=l.take k++s::l.drop k
 |[],k,hk,_,_=>by
  have:k=0:=by simpa using hk
  subst this;rfl
 |x::r,0,_,_,h=>by
  unfold UC;rw[aad (by rw[h x rfl];simp)];rfl
 |x::r,k+1,hk,h1,h2=>by
  unfold UC;rw[aae (h1 0 x (by omega) rfl),tC (by simp at hk;omega) (λj y hj hy=>h1 (j+1) y (by omega) hy) (λy hy=>h2 y hy)];rfl
theorem AGh{l m:List ByteArray}(hp:l.Perm m)(hl:Asc l)(hm:Asc m):l=m:=by
 refine hp.eq_of_pairwise (le:=λa b=>HH (sb b) (sb a)=false) (λa b _ _ h1 h2=>?_) hl hm
 rcases YM (sb a) (sb b)with q|q|q
 ·rw[h2]at q;cases q
 ·exact AAy q
 ·rw[h1]at q;cases q
theorem iT(c:List Aq)(ts:List ByteArray):(PL c ts).Perm (ts.filter λs=>!(A3 c s).isSome)∧Asc (PL c ts):=by
 have key:∀(ts out acc:List ByteArray),out.Perm acc→Asc out→(ts.foldl (λout s=>if(A3 c s).isSome then out else UC s out) out).Perm (acc++ts.filter λs=>!(A3 c s).isSome)∧Asc (ts.foldl (λout s=>if(A3 c s).isSome then out else UC s out) out):=by
  intro ts
  induction ts with
  |nil=>intro out acc h1 h2;simpa using⟨h1,h2⟩
  | cons s ts ih=>
   intro out acc h1 h2;rw[acm]
   cases hs:(A3 c s).isSome with
   |true=>
    simp only[aar];have:=ih out acc h1 h2;rw[List.filter_cons_of_neg (by rw[hs];simp)];exact this
   |false=>
    simp only[aaD,abf];have:=ih (UC s out) (acc++[s]) (((Vr s out).trans (h1.cons s)).trans (List.perm_append_singleton s acc).symm) (mW h2);rw[List.filter_cons_of_pos (by rw[hs];simp)];rw[abb]at this;exact this
 have:=key ts [] [] (acO _) List.Pairwise.nil;rw[abi]at this;exact this
theorem AA3{s:ByteArray}(h:Dt s=true):Good s:=by
 unfold Dt at h;simp only[aab,decide_eq_true_eq,aaK]at h;obtain⟨⟨h1,_⟩,h3⟩:=h;have hl:(sb s).length=s.size:=K8 s
 cases hs:sb s with
 |nil=>rw[hs]at hl;simp at hl;omega
 |cons x r=>
  refine⟨x,r,hs,?_⟩;rw[hs]at h3;simp only[List.any_cons,aaF,GV,decide_eq_false_iff_not]at h3;omega
theorem qY{b:List UInt8}:∀s,s∈(Au b).1→Dt s=true:=by
 have key:∀(k at_:Nat) (out:List ByteArray),(∀s,s∈out→Dt s=true)→∀s,s∈(D9 b k at_ out).1→Dt s=true:=by
  intro k
  induction k with
  |zero=>intro at_ out h;exact h
  | succ k ih=>
   intro at_ out h;rw[D9]
   split
   ·exact h
   ·split
    ·rename_i hc;refine ih _ _ λt ht=>?_
     rcases aaB.1 ht with ht|ht
     ·exact h t ht
     ·rw[dy.1 ht];exact hc.1
    ·exact h
 unfold Au
 split
 ·intro s hs;cases hs
 ·split
  ·split
   ·intro s hs;cases hs
   ·split
    ·exact key _ _ _ λs hs=>by cases hs
    ·intro s hs;cases hs
  ·intro s hs;cases hs
theorem aj{b:List UInt8}:(∀s,s∈(HG b).1→Dt s=true)∧(HG b).1.length≤100:=by
 unfold HG
 split
 ·exact⟨λs hs=>(by cases hs),by simp⟩
 ·split
  ·exact⟨qY,aP⟩
  ·exact⟨λs hs=>(by cases hs),by simp⟩
theorem iU{W:CW}{b:Nat}{vs:List Value}(h:A0 W b 9 vs):M_ W (some ⟨b,0,none⟩) 9=true:=by
 obtain⟨c,n,z,ho,_⟩:=h;unfold M_;simp only[ho];rfl
theorem AGi{v:Value}{l:List Value}{W W':CW}(h:Bu W 9 1 v l){k:Nat}(hk:k≤l.length):∃v',N' prog 51 v none (some (.int .i64 k)) (some (.int .i64 k)) W'=some v'∧((∃b,v=.slice (some ⟨b,0,none⟩) l.length l.length∧v'=.slice (some ⟨b,0,none⟩) k k)∨(l=[]∧v'=.slice none 0 0)):=by
 have PM:∀n y d:Nat,n≤y→bound (some (.int .i64 (n:Int))) d y=some n:=by
  intro n y d h;simp only[bound];rw[show(decide ((0:Int)≤(n:Int))&&decide ((n:Int)≤(y:Int)))=true by simp;omega];simp
 have cC:bound none 0 k=some 0:=rfl
 cases h with
 |nil=>
  have:k=0:=by simpa using hk
  subst this;exact⟨_,by unfold N';rw[LW];simp only[JD,LW,DI,s9,PM 0 0 0 (aag _),cC];rfl,.inr ⟨rfl,rfl⟩⟩
 | @some b len _ hB hl=>
  have:len=l.length:=by omega
  subst this;refine⟨.slice (some ⟨b,0,none⟩) k k,?_,.inl ⟨b,rfl,rfl⟩⟩;unfold N';rw[LW];simp only[JD,LW,DI,s9,PM k l.length l.length hk,PM k k l.length (aag _),cC];rw[show Nat.ble k k=true from aak (aag _)]
  cases Nat.beq k 0<;>rfl
theorem AGj{v:Value}{l:List Value}{W:CW}(h:Bu W 9 1 v l){k:Nat}(hk:k≤l.length):∃a cap,N' prog 51 v (some (.int .i64 k)) none none W=some (.slice a (l.length-k) cap)∧(0<l.length-k→∃p,a=some p∧Cells W p.block p.off (l.drop k)):=by
 have PM:∀n y d:Nat,n≤y→bound (some (.int .i64 (n:Int))) d y=some n:=by
  intro n y d h;simp only[bound];rw[show(decide ((0:Int)≤(n:Int))&&decide ((n:Int)≤(y:Int)))=true by simp;omega];simp
 cases h with
 |nil=>
  have:k=0:=by simpa using hk
  subst this;refine⟨none,0,?_,λh=>by simp at h⟩;have hb:∀x:Nat,bound none x x=some x:=λ_=>rfl;unfold N';rw[LW];simp only[JD,LW,DI,s9,PM 0 0 0 (aag _),hb];rfl
 | @some b len _ hB hl=>
  have:len=l.length:=by omega
  subst this;have hb:∀x:Nat,bound none x x=some x:=λ_=>rfl;have NG:=iU hB
  refine⟨cond (Nat.beq l.length k) (some ⟨b,0,none⟩) (some ⟨b,0+k*1,none⟩),l.length-k,?_,λh=>?_⟩
  ·unfold N';rw[LW];simp only[JD,LW,DI,s9,hb,PM k l.length 0 hk,NG];rw[show Nat.ble l.length l.length=true from aak (aag _)];rfl
  ·have hq:Nat.beq l.length k=false:=by
    cases hq:Nat.beq l.length k with
    |false=>rfl
    |true=>have:=aac hq;omega
   rw[hq];refine⟨_,rfl,λj w hj=>?_⟩;rw[abq]at hj;show W.cell b (0+k*1+j)=_;rw[show 0+k*1+j=k+j by omega];exact hB.cell hj
theorem AGk{v a b:Value}{W W':CW}:N' prog 51 v none (some a) (some b) W=N' prog 51 v none (some a) (some b) W':=by
 unfold N';rw[LW];simp only[JD,ack,Bool.true_or]
theorem AGl{v:Value}{l:List Value}{W W':CW}(h:Bu W 9 1 v l)(h':Bu W' 9 1 v l){k:Nat}(hk:k≤l.length):N' prog 51 v (some (.int .i64 k)) none none W'=N' prog 51 v (some (.int .i64 k)) none none W:=by
 cases h with
 |nil=>
  unfold N';rw[LW];rfl
 | @some b len _ hB hl=>
  have e1:=iU hB
  have e2:M_ W' (some ⟨b,0,none⟩) 9=true:=by
   cases h' with
   |some hB' _=>exact iU hB'
  unfold N';rw[LW];simp only[JD,LW,e1,e2]
theorem AGm{W:CW}(ht:Ai W){b k m cap:Nat}{cs news:List Value}{q:Option Addr}{ts:List TypeId}(hB:A0 W b 9 cs)(hk:k≤cs.length)(hm:0<m)(U9:∃p,q=some p∧Cells W p.block p.off news)(h1:news.all BJ=true)(LU:news.length=m)(N_:cs.length+m≤900000){K:Value→CW→Prop}
  (nQ:∀W1,Bw (·=b) W W1→Ai W1→Bu W1 9 1 (.slice (some ⟨W.sz,0,none⟩) (k+m) (k+m)) (cs.take k++news)→W1.sz=W.sz+1→K (.slice (some ⟨W.sz,0,none⟩) (k+m) (k+m)) W1):KE (app prog (51::51::ts) (.slice (some ⟨b,0,none⟩) k k) (.slice q m cap) W) K:=by
 obtain⟨p,rfl,Hp⟩:=U9;have hu:II prog 51=true:=by kernel_rfl
 have od:((prog.info? 9).map (·.bytes)|>.getD 2000)=16:=by kernel_rfl
 obtain⟨c,n,z,ho,hn,Ah⟩:=hB
 have wg:HI (.slice (some p) m cap) m 1 W=some news:=by
  show FV (some p) (m*1) W=some news;rw[abR,←LU];exact K7 Hp
 have gi:(cs.take k).length=k:=by rw[aaE];omega
 have J5:Bj c z (k*1) 0=cs.take k:=by
  have h:=Ia (c:=c) (z:=z) (vs:=cs.take k) (k:=0) λj w hj=>by
   rw[aaL];rw[aaW]at hj
   split at hj
   ·exact Ah j w hj
   ·cases hj
  rw[gi]at h;rw[abR];exact h
 have hc:Fy prog 51 (.slice (some ⟨b,0,none⟩) k k) (.slice (some p) m cap) W=some (.slice (some ⟨W.sz,0,none⟩) (k+m) (k+m),(W.Ba b .dead).new (.cells (Tr.nil.AW 0 (cs.take k++news)) ((k+m)*1) #[] 9)):=by
  unfold Fy;simp only[LW,bL,DI,s9,z9,wg,h1,LU,od,abR,abu,aa4,abC];rw[show Nat.blt 0 1=true from rfl,show Nat.ble (k+m) 1000000=true from aak (by omega)];rw[show Nat.ble (k+m) k=false from by cases h:Nat.ble (k+m) k with|false=>rfl|true=>have:=aaj h;omega];have AB7:Bj c z k 0=cs.take k:=by rwa[abR]at J5
  have hkn:Nat.ble (0+k) n=true:=aak (by omega);simp only[abA,ho,abu,abC,AB7,hkn];rfl
 unfold app;simp only[hu,cond_true];refine F8 hc (nQ _ ⟨by rw[HC,ZO];omega,λi hi D3=>by rw[Bd,aad (by rw[ZO];omega),Gz,aad D3]⟩ (Ai.new (ht.Ba (ht _ _ ho) (Ep.of _ _ _)) _) (Bu.some ⟨_,_,_,by rw[Bd,aae (by rw[ZO])],by rw[aas,gi,LU];omega,λj w hw=>?_⟩ (by rw[aas,gi,LU];omega)) rfl);rw[C6 _ _ _ (dx.1 hw).1,aah,hw];rfl
def qZ(ro:Option Nat)(K:AD):AD:=AU (λe ds W=>wV (ld prog 56 (e 8) W) λv45=>wV (M6 prog 56 (e 6) v45 W) λW6=>K .ret (Env.of e [(45,v45)]) ds W6) K
def AKQ(v0 v1 v2:Value)(K:AD)(W:CW):=by
 have h:HQ 90 46 v0 v1 v2 W K=HU 56 v1 W λa b=>DB 56 b λb c=>Ej a 0 λd=>Ak d c λf=>let b:=eC 13 f (BN 12 d 11 v0 6 b 4 a);F7 69 v0 f c (λc d=>Ej a 0 λa=>Ak a d λf=>Ok prog 56 [(0,f)] λg=>DB 56 d λd h=>CL 56 d g h λh=>Fu 90 46 (Eg v0 v1 v2) (DT 9 At 8 d 17 g (D0 16 f 15 a 7 c 14 b)) h (qZ none K)) λa c=>H7 K a v0 v1 v2 b c:=by kernel_rfl
 dsimp at h;exact h
def qc(ro:Option Nat)(K:AD):AD:=AU (λa b c=>BP a 9 λd=>Ay K a 9 d (Bo 24 d 23 a 9) b c) K
def AA4:=by
 have h:=@qc.eq_1;dsimp at h;exact h
def UD(ro:Option Nat)(K:AD):AD:=Ek (λa b c=>HT a 8 λd=>C4 d c λf=>I9 40 1 [(0,BM a)] c λc g=>IZ 40 f c g λg h=>HT a 8 λi=>CL 40 i g h λh=>K4 (qc ro K) a (F5 44 i 43 g (BN 42 c 41 (BM a) 40 f 39 d)) b h) (qc ro K)
def wO:=by
 have h:=@UD.eq_1;dsimp at h;exact h
def AGn(ro:Option Nat)(e:Env)(ds:List Deferred)(K:AD)(W:CW):=by
 have h:CV ro 90 46 e ds W K=HT e 4 λa=>C4 a W λb=>Ft b W λc=>C' e 9 c λd=>let a:=eC 22 d (CC 21 c 20 b 19 a 18 e 9);FQ d (HT e 4 λb=>C4 b W λc=>ET 40 c (B5 e) λd=>DQ d W λf=>let a:=eC 32 (B5 e) (D0 31 (BW e) 30 (BA e) 10 f 29 (BL 28 d 27 (B5 e) 26 c 25 b a));KG 70 e (BW e) (B5 e) W (λb c=>IU 5 b 2 λd=>C1 d (N0 40 e 2 f λg=>DQ g c λh=>Ay (UD ro K) e 10 h (F5 38 h 37 g (BL 36 f 35 (B7 e) 34 d 33 b a)) ds c) (UD ro K) e (F5 34 d 33 b a) ds c) λb c=>Bh (UD ro K) b e a ds c) K 0 e a ds W:=by kernel_rfl
 dsimp at h;exact h
def AKR{Q v0 v1 v2 W}:=FM 90 46 [v0,v1,v2] Tryz.f90 Q W Tryz.func90 (by kernel_rfl)
theorem ACl{W:CW}{el n:Nat}{v:Value}{cs:List Value}(h:Bu W el n v cs):∃a m k,v=.slice a m k:=by cases h<;>exact⟨_,_,_,rfl⟩
theorem ACm{W2:CW}{vo:Value}{out:List ByteArray}{s:ByteArray}{k i tl ct:Nat}{p:Addr}{e3:Env}{K:AD}(t':Ai W2)(hO:Bu W2 9 1 vo (strs out))(Q6:∀W,Kp W2 W→ld prog 9 (.pointer (some ⟨p.block,p.off+i*1,none⟩)) W=some (.string s))(JT:UK prog 51 (.slice (some p) tl ct) (.int .i64 i)=some (.pointer (some ⟨p.block,p.off+i*1,none⟩)))
  (O2:k≤out.length) (WK:out.length≤100) (q7:e3 7=.slice (some p) tl ct) (q8:e3 8=vo) (q9:e3 9=.int .i64 i) (w8:e3 10=.int .i64 k)
  (DU:∀e4 v67 bE,Bw (FA vo) W2 bE→Ai bE→Bu bE 9 1 v67 (strs (out.take k++s::out.drop k))→Aw W2.sz v67→e4 8=v67→A9 [0,7,9] e3 e4→(Uy none K) .normal e4 [] bE):(ft none K) .normal e3 [] W2:=by
 simp only[uE,Aj,q7,q8,q9,w8];have hsl:=EY out;obtain⟨v57,s57,h57⟩:=AGi (W':=W2) hO (k:=k) (by omega);have AKS:∀W3,N' prog 51 vo none (some (.int .i64 k)) (some (.int .i64 k)) W3=some v57:=λW3=>by rw[AGk (W':=W2)];exact s57
 simp only[s57,AA,JT,Q6 W2 (.refl _)];refine F8 (sK s W2) ?_;have kn:Kp W2 (W2.new (.cells (Tr.nil.AW 0 [.string s]) [Value.string s].length #[] 9)):=.new _;have tn:=t'.new (.cells (Tr.nil.AW 0 [.string s]) [Value.string s].length #[] 9)
 have hBs:A0 (W2.new (.cells (Tr.nil.AW 0 [.string s]) [Value.string s].length #[] 9)) W2.sz 9 [.string s]:=⟨_,_,_,by rw[Bd,aae rfl],rfl,λj w hw=>by
  rw[C6 _ _ _ (dx.1 hw).1,aah,hw];rfl⟩
 have zn:(W2.new (.cells (Tr.nil.AW 0 [.string s]) [Value.string s].length #[] 9)).sz=W2.sz+1:=rfl;generalize W2.new (.cells (Tr.nil.AW 0 [.string s]) [Value.string s].length #[] 9)=W8 at kn tn hBs zn;have hO8:=hO.kp t' kn;obtain⟨a65,c65,s65,h65⟩:=AGj hO8 (k:=k) (by omega);have e65:N' prog 51 vo (some (.int .i64 k)) none none W2=some (.slice a65 ((strs out).length-k) c65):=by rw[←AGl hO hO8 (k:=k) (by omega)];exact s65
 rw[s65];simp only[AA];have Jz:∀l:List ByteArray,(strs l).all BJ=true:=λl=>by simp[strs,BJ]
 have OY:(strs out).drop k=strs (out.drop k):=by unfold strs;rw[acY]
 have gi:(strs out).take k=strs (out.take k):=by unfold strs;rw[List.map_take]
 have Iw:strs [s]++strs (out.drop k)=strs (s::out.drop k):=by simp[strs]
 refine Xt (cs:=strs [s]) (news:=strs (out.drop k)) LW (by kernel_rfl) s9 z9 rfl (by omega) by9 (by omega) tn (Bu.some hBs rfl) (by rw[←OY];exact h65) (Jz _) (by rw[EY,abm,hsl];omega) (by rw[EY,hsl];simp;omega) λv66 W9 hp9 t9 o9 _=>?_;have c89:Bw (·=W2.sz) W8 W9:=⟨hp9.sz,λj hj D3=>hp9.obj j hj λb' l' c' e=>by cases e;exact D3⟩
 have k29:Kp W2 W9:=Bw.kp kn c89 λj hj=>by omega
 have hO9:=hO.kp t' k29;have z29:=k29.sz
 have h89:∀W3,(W3=W8∨W3=W2∨W3=W9)→ld prog 9 (.pointer (some ⟨p.block,p.off+i*1,none⟩)) W3=some (.string s):=λW3 h=>by
  rcases h with rfl|rfl|rfl
  ·exact Q6 _ kn
  ·exact Q6 _ (.refl _)
  ·exact Q6 _ k29
 have l2:=Q6 W2 (.refl _);obtain⟨a66,m66,n66,rfl⟩:=iM o9;rw[Iw]at o9
 have AMz:m66=1+(out.length-k):=by
  generalize UZ:strs (s::out.drop k)=cs at o9
  cases o9 with
  |nil=>simp[strs]at UZ
  |some hB hl=>
   rw[←UZ]at hl;simp[strs]at hl;omega
 have U9:∃p,a66=some p∧Cells W9 p.block p.off (strs (s::out.drop k)):=by
  generalize UZ:strs (s::out.drop k)=cs at o9
  cases o9 with
  |nil=>simp[strs]at UZ
  |some hB hl=>exact⟨_,rfl,hB.cells⟩
 have AGo:strs (out.take k++s::out.drop k)=strs (out.take k)++strs (s::out.drop k):=by simp[strs]
 rcases h57 with⟨b57,AKT,rfl⟩|⟨GY,rfl⟩
 ·have hB9:A0 W9 b57 9 (strs out):=by
   rw[AKT]at hO9;generalize UZ:strs out=cs at hO9
   cases hO9 with
   |some hB hl=>exact hB
  refine AGm t9 hB9 (k:=k) (m:=m66) (news:=strs (s::out.drop k)) (by omega) (by omega) U9 (Jz _) (by rw[EY,aaw,abm];omega) (by omega) λbE c10 t10 o10 z10=>?_;rw[gi,←AGo]at o10;refine⟨by simp only[e65,AKS,and_self],trivial,?_⟩;exact DU _ _ bE ((Bw.HY k29).then c10 λj hj e=>⟨⟨b57,0,none⟩,_,_,AKT,e.symm⟩) t10 o10 (λb' l' c' e=>by cases e;exact z29) (by simp only[AG,↓reduceIte]) (.put rfl)
 ·have GJ:out=[]:=by
   have:(strs out).length=0:=by rw[GY];rfl
   rw[hsl]at this;exact aaG.1 this
  subst GJ;have nR:k=0:=by simpa using O2
  subst nR;refine Xt (cs:=[]) (news:=strs (s::([]:List ByteArray).drop 0)) LW (by kernel_rfl) s9 z9 rfl (by omega) by9 (by omega) t9 Bu.nil (λ_=>U9) (Jz _) (by rw[AMz];rfl) (by simp;omega) λv67 bE AKU t10 o10 AM0=>?_;have k10:Kp W9 bE:=⟨AKU.sz,λj hj=>AKU.obj j hj λb' l' c' e=>by cases e⟩
  refine⟨by simp only[e65,AKS,and_self],trivial,?_⟩;refine DU _ _ bE (Bw.HY (k29.trans k10)) t10 o10 (λb' l' c' e=>?_) (by simp only[AG,↓reduceIte]) (.put rfl)
  rcases AM0 b'.block ⟨b',l',c',e,rfl⟩with⟨_,_,_,e1,_⟩|h
  ·cases e1
  ·omega
theorem qd{W:CW}{vo:Value}{out:List ByteArray}{s:ByteArray}{i tl ct:Nat}{p:Addr}{e:Env}{K:AD}(hO:Bu W 9 1 vo (strs out))(Q6:ld prog 9 (.pointer (some ⟨p.block,p.off+i*1,none⟩)) W=some (.string s))(JT:UK prog 51 (.slice (some p) tl ct) (.int .i64 i)=some (.pointer (some ⟨p.block,p.off+i*1,none⟩)))
  (WK:out.length≤100) (q7:e 7=.slice (some p) tl ct) (q8:e 8=vo) (q9:e 9=.int .i64 i) (w8:e 10=.int .i64 0)
  (Ef:∀e4 (k:Nat),A9 [0,7,8,9] e e4→e4 10=.int .i64 k→k≤out.length→(∀j x,j<k→out[j]?=some x→HH (sb x) (sb s)=true)→(∀x,out[k]?=some x→HH (sb x) (sb s)=false)→K (.exit 2) e4 [] W) :
  FX prog Bs none 34 69 (.loop (D6 prog 34 1)) e [] W K:=by
 refine C2 (λk e' ds W2=>ds=[]∧W2=W∧A9 [0,7,8,9] e e'∧e' 10=.int .i64 k∧k≤out.length∧∀j x,j<k→out[j]?=some x→HH (sb x) (sb s)=true) out.length ⟨rfl,rfl,.refl _ _,w8,aa1 _,λj x hj=>by omega⟩ ?_;rintro k e2 ds W2 hk ⟨rfl,rfl,hA,bJ,O2,A5⟩;have AGp:It prog 51 vo W2=some (.int .i64 out.length):=Hu (m:=out.length) LW hO (by omega) (by rw[EY];omega);have g7:=(hA 7 (by decide)).trans q7;have g8:=(hA 8 (by decide)).trans q8;have g9:=(hA 9 (by decide)).trans q9;rw[ADx,g7,g8,g9,bJ];simp only[AGp,AA,AP]
 refine Eh (λACn=>?_) (λAM1=>?_)
 ·have hy:=ck ACn;obtain⟨ao,co,hvo,hoc⟩:=id (Jc hO);obtain⟨q,rfl,hq⟩:=hoc k _ hy;have AKV:UK prog 51 vo (.int .i64 k)=some (.pointer (some ⟨q.block,q.off+k*1,none⟩)):=by rw[hvo];exact AY (i:=k) LW s9 ACn
  have AM2:ld prog 9 (.pointer (some ⟨q.block,q.off+k*1,none⟩)) W2=some (.string out[k]):=AH a9 (a:=⟨q.block,q.off+k*1,none⟩) hq;simp only[AKV,AA,AM2,JT,Q6,dN];refine⟨by simp only[and_self],trivial,?_⟩;simp only[XN,Aj];simp only[AG,↓reduceIte]
  refine AF (λhb=>?_) (λhb=>?_)
  ·simp only[Uz,Aj];simp only[AG,AJ,Nat.reduceEqDiff,↓reduceIte,bJ,AK,AA,FH];rw[CE (by omega)];refine⟨ACn,trivial,trivial,hA.trans ((A9.put rfl).trans (A9.put rfl)),(by first|rfl|simp only[AG,AJ,Lc,Nat.reduceEqDiff,↓reduceIte,Nb,bF,Kn,and_self]),ACn,λj x hj hjx=>?_⟩
   rcases aap.1 hj with h|rfl
   ·exact A5 j x h hjx
   ·rw[hy]at hjx;cases hjx;exact hb
  ·simp only[Uz,LM,Jp];exact Ef _ k (hA.trans (.put rfl)) (by simp only[AG,AJ,Nat.reduceEqDiff,↓reduceIte,bJ]) O2 A5 λx hx=>by rw[hy]at hx;cases hx;exact hb
 ·refine⟨by simp only[and_self],trivial,?_⟩;simp only[XN,Aj];simp only[AG,↓reduceIte,AT];simp only[Uz,LM,Jp];exact Ef _ k (hA.trans (.put rfl)) (by simp only[AG,AJ,Nat.reduceEqDiff,↓reduceIte,bJ]) O2 A5 λx hx=>by rw[aa0 AM1]at hx;cases hx
theorem qe{v0 vb:Value}{c:List Aq}{b:List UInt8}{W:CW}(ht:Ai W)(hc:Ab 5 (EI W) v0 c)(hC:QD c)(hb:Ts W vb b)(hE:J8 W 5 vb):Ac prog Bs 34 [v0,vb] W (Ns (Iq c b) W):=by
 refine AHp ?_;rw[AHo];generalize FI:AM prog Tryz.f34 (Ns (Iq c b) W)=KK
 have DU:∀(e:Env) W' v ts x,Kp W W'→Ai W'→e 4=v→e 5=.int .i64 x→Bu W' 9 1 v (strs ts)→Aw W.sz v→Iq c b=(ts,x)→KK .ret e [] W':=by
  intro e W' v ts x k t h4 h5 hO hN hP;rw[←FI,uF,h4,h5,hP];exact⟨k,t,v,rfl,hO,hN⟩
 refine JA (kh ht hc hC) λW1 k1 t1=>?_;simp only[BX,AA]
 cases Al:Bk c with
 |false=>
  simp only[aaD,abf];rw[show((210:Int) !=0)=true from rfl,Af];exact DU _ W1 _ [] 210 k1 t1 (by simp only[AG,Nat.reduceEqDiff,↓reduceIte]) (by simp only[AG,↓reduceIte]) Bu.nil (Aw.nil _ _ _) (by unfold Iq;rw[aae Al])
 | true=>
  simp only[aar];rw[show((0:Int) !=0)=false from rfl,AT];have hP:Iq c b=if(HG b).2≠0 then([],(HG b).2)else(PL c (HG b).1,0):=by unfold Iq;rw[aad (by rw[Al];simp)]
  refine(ag t1 (hb.kp ht k1) (hE.kp ht k1)).mono λen A ⟨kA,tA,tv,Hx,M5,_⟩=>?_;subst Hx;refine AL ?_;refine Ap (CN _ _) ?_;refine Ap (CO _ _) ?_;have k1A:=k1.trans kA;simp only[BX,AA]
  refine AF (λhe=>?_) (λhe=>?_)
  ·have he:(HG b).2≠0:=by simpa using he
   exact DU _ A _ [] (HG b).2 k1A tA (by simp only[AG,Nat.reduceEqDiff,↓reduceIte]) (by simp only[AG,↓reduceIte]) Bu.nil (Aw.nil _ _ _) (by rw[hP,aae he])
  have he:(HG b).2=0:=by simpa using he
  rw[aad (by omega)]at hP;obtain⟨vJ,AA5⟩:=aj (b:=b);generalize (HG b).1=ts at M5 hP vJ AA5;have hcA:Ab 5 (EI A) v0 c:=hc.imp λ_ _ _ hr=>hr.kp ht k1A
  have ABo:∀i,i≤ts.length→PL c ts=(ts.drop i).foldl (λout s=>if(A3 c s).isSome then out else UC s out) (PL c (ts.take i)):=by
   intro i _;unfold PL;rw[←List.foldl_append,ab6]
  refine C2 (λi e ds W'=>ds=[]∧Kp A W'∧Ai W'∧e 0=v0∧e 7=tv∧e 9=.int .i64 i∧∃vo,e 8=vo∧Bu W' 9 1 vo (strs (PL c (ts.take i)))∧Aw A.sz vo) ts.length ⟨rfl,.refl _,tA,by simp only[AG,AJ,Lc,Nat.reduceEqDiff,↓reduceIte,Nb,Kn],by simp only[AG,Nat.reduceEqDiff,↓reduceIte],by simp only[AG,↓reduceIte];rfl,_,by simp only[AG,Nat.reduceEqDiff,↓reduceIte],Bu.nil,Aw.nil _ _ _⟩ ?_;rintro i e ds W' hi ⟨rfl,VQ,t',h0,h7,h9,vo,h8,hO,hN⟩;have AM3:=M5.kp tA VQ;have htw:Ab 1 (kZ W') tv ts:=Jc AM3;obtain⟨at_,ct,hv7,y_⟩:=id htw;rw[ADw,h0,h7,h9,hv7,AQ LW];simp only[AA,AP];refine Eh (λAd=>?_) (λGZ=>?_)
  rotate_left
  ·have:i=ts.length:=by omega
   subst this;simp only[Er,Jp,aar,ya,Aj];rw[aa_]at hO;exact DU _ W' vo _ 0 (k1A.trans VQ) t' (by simp only[AG,AJ,Nat.reduceEqDiff,↓reduceIte,h8]) (by simp only[AG,AJ,Nat.reduceEqDiff,↓reduceIte]) hO (λb' l' c' e=>by have:=hN b' l' c' e;have:=k1A.sz;omega) hP
  have hx:=ck Ad;obtain⟨p,rfl,hp⟩:=y_ i _ hx;have JT:UK prog 51 (.slice (some p) ts.length ct) (.int .i64 i)=some (.pointer (some ⟨p.block,p.off+i*1,none⟩)):=AY (i:=i) LW s9 Ad;have Q6:∀W2,Kp W' W2→ld prog 9 (.pointer (some ⟨p.block,p.off+i*1,none⟩)) W2=some (.string ts[i]):=λW2 k=>AH a9 (a:=⟨p.block,p.off+i*1,none⟩) (k.cell t' hp)
  have KO:PL c (ts.take (i+1))=if(A3 c ts[i]).isSome then PL c (ts.take i)else UC ts[i] (PL c (ts.take i)):=by
   rw[aaP,hx];unfold PL;rw[aa9,List.foldl_append];rfl
  generalize ts[i]=s at hx hp Q6 KO
  have WK:(PL c (ts.take i)).length≤100:=by
   rw[(iT c (ts.take i)).1.length_eq];refine aa5 (ab5 _ _) ?_;rw[aaE];omega
  rw[JT];simp only[AA,Q6 W' (.refl _)];refine As (Ks (s:=s) (hcA.imp λ_ _ _ hr=>hr.kp tA VQ) (by have:=hC.len;omega)) ?_;simp only[Bt,AA]
  have mw:HW c s=match A3 c s with
   |some i=>(i:Int)
   |none=>-1:=rfl
  cases pH:A3 c s with
  |some ix=>
   rw[pH]at mw KO;simp only[ack,aar]at mw KO;rw[show decide (HW c s≥0)=true by rw[mw];exact decide_eq_true (by omega),Af];simp only[j7,Aj];simp only[AG,AJ,Nat.reduceEqDiff,↓reduceIte,h9,AK,AA,FH];rw[CE (by omega)];refine⟨Ad,trivial,VQ,t',by simp only[h0],by simp only[h7,hv7],(by first|rfl|simp only[AG,AJ,Lc,Nat.reduceEqDiff,↓reduceIte,Nb,bF,Kn,and_self]),vo,by simp only[h8],?_,hN⟩;rw[KO];exact hO
  |none=>
   rw[pH]at mw KO;simp only[abA,aaD,abf]at mw KO;rw[show decide (HW c s≥0)=false by rw[mw];exact decide_eq_false (by omega),AT];generalize PL c (ts.take i)=out at hO KO WK;refine qd (s:=s) (i:=i) (p:=p) (tl:=ts.length) (ct:=ct) hO (Q6 W' (.refl _)) JT WK (by simp only[AG,AJ,Nat.reduceEqDiff,↓reduceIte,h7,hv7]) (by simp only[AG,AJ,Nat.reduceEqDiff,↓reduceIte,h8]) (by simp only[AG,AJ,Nat.reduceEqDiff,↓reduceIte,h9]) (by simp only[AG,↓reduceIte]) λe3 k hA3 w8 O2 A5 sP=>?_;have q0:e3 0=v0:=(hA3 0 (by decide)).trans (by simp only[AG,AJ,Nat.reduceEqDiff,↓reduceIte,h0]);have q7:e3 7=.slice (some p) ts.length ct:=(hA3 7 (by decide)).trans (by simp only[AG,AJ,Nat.reduceEqDiff,↓reduceIte,h7,hv7]);have q8:e3 8=vo:=(hA3 8 (by decide)).trans (by simp only[AG,AJ,Nat.reduceEqDiff,↓reduceIte,h8]);have q9:e3 9=.int .i64 i:=(hA3 9 (by decide)).trans (by simp only[AG,AJ,Nat.reduceEqDiff,↓reduceIte,h9]);have AM4:=tC O2 A5 sP;simp only[Er,aar];refine ACm t' hO Q6 JT O2 WK q7 q8 q9 w8 λe4 v67 bE c10 t10 o10 n10 r8 hA=>?_;have zA:=VQ.sz;simp only[j7,Aj];rw[hA 9 (by decide),q9];simp only[AK,AA,FH];rw[CE (by omega)]
   refine⟨Ad,trivial,Bw.kp VQ c10 λj hj=>hN.in hj,t10,?_,?_,by simp only[AG,↓reduceIte],v67,by simp only[AG,AJ,Nat.reduceEqDiff,↓reduceIte,r8],?_,λb' l' c' e=>by have:=n10 b' l' c' e;omega⟩
   ·simp only[AG,AJ,Nat.reduceEqDiff,↓reduceIte];rw[hA 0 (by decide),q0]
   ·simp only[AG,AJ,Nat.reduceEqDiff,↓reduceIte];rw[hA 7 (by decide),q7]
   ·rw[KO,AM4];exact o10
theorem qg{v0 vb:Value}{c:List Aq}{b:List UInt8}{W:CW}(ht:Ai W)(hc:Ab 5 (EI W) v0 c)(hC:QD c)(hb:Ts W vb b):Ac prog Bs 25 [v0,vb] W (Ns (Iq c b) W):=by
 refine AKK ?_;rw[AKJ];generalize FI:AM prog Tryz.f25 (Ns (Iq c b) W)=KK
 have DU:∀(e:Env) W' v ts x,Kp W W'→Ai W'→e 4=v→e 5=.int .i64 x→Bu W' 9 1 v (strs ts)→Aw W.sz v→Iq c b=(ts,x)→KK .ret e [] W':=by
  intro e W' v ts x k t h4 h5 hO hN hP;rw[←FI,wM,h4,h5,hP];exact⟨k,t,v,rfl,hO,hN⟩
 refine(Zs ht hc hC).mono λen W1 ⟨k1,t1,r1,r2,Hx,MU,P2,Iw⟩=>?_;subst Hx;refine AL ?_;refine Ap (CN _ _) ?_;refine Ap (CO _ _) ?_;unfold QF;refine EH (ws:=[.map (some r1),.map (some r2)]) z78 k_ rfl rfl rfl t1 λW3 k3 t3 z3 Mu=>?_;have im:=k1.trans k3;simp only[AZ,AA]
 cases Al:Bk c with
 |false=>
  simp only[aa6,Af];exact DU _ W3 _ [] 210 im t3 (by simp only[AG,Nat.reduceEqDiff,↓reduceIte]) (by simp only[AG,↓reduceIte]) Bu.nil (Aw.nil _ _ _) (by unfold Iq;rw[aae Al])
 | true=>
  simp only[aav,AT];have WU:=(Iw Al).kp t1 k3;have hP:Iq c b=if(HG b).2≠0 then([],(HG b).2)else(PL c (HG b).1,0):=by unfold Iq;rw[aad (by rw[Al];simp)]
  refine(ae t3 (hb.kp ht im)).mono λen A ⟨kA,tA,tv,Hx,M5,_⟩=>?_;subst Hx;refine AL ?_;refine Ap (CN _ _) ?_;refine Ap (CO _ _) ?_;have Z8:=im.trans kA;simp only[BX,AA]
  refine AF (λhe=>?_) (λhe=>?_)
  ·have he:(HG b).2≠0:=by simpa using he
   exact DU _ A _ [] (HG b).2 Z8 tA (by simp only[AG,Nat.reduceEqDiff,↓reduceIte]) (by simp only[AG,↓reduceIte]) Bu.nil (Aw.nil _ _ _) (by rw[hP,aae he])
  have he:(HG b).2=0:=by simpa using he
  rw[aad (by omega)]at hP;obtain⟨vJ,AA5⟩:=aj (b:=b);generalize (HG b).1=ts at M5 hP vJ AA5;have sW:=WU.kp t3 kA;have AM5:=Mu.ext t3 kA;rw[Hu (m:=ts.length) LW M5 (by omega) (by rw[EY];omega)];simp only[AA];refine C2 (λi e ds W'=>ds=[]∧Kp A W'∧Ai W'∧e 6=.pointer (some ⟨W1.sz,0,none⟩)∧e 30=tv∧e 31=.int .i64 ts.length∧e 32=.int .i64 i∧∃vo,e 10=vo∧Bu W' 9 1 vo (strs ((ts.take i).filter λs=>!(A3 c s).isSome))∧Aw A.sz vo) ts.length ⟨rfl,.refl _,tA,by simp only[AG,Nat.reduceEqDiff,↓reduceIte],by simp only[AG,Nat.reduceEqDiff,↓reduceIte],by simp only[AG,Nat.reduceEqDiff,↓reduceIte],by simp only[AG,↓reduceIte];rfl,_,by simp only[AG,Nat.reduceEqDiff,↓reduceIte],Bu.nil,Aw.nil _ _ _⟩ ?_;rintro i e ds W' hi ⟨rfl,VQ,t',h6,h30,h31,h32,vo,OI,hO,hN⟩;rw[AGf,h6,h30,h31,h32];simp only[AP,AA]
  have Ny:((ts.take i).filter λs=>!(A3 c s).isSome).length≤100:=by
   refine aa5 (ab5 _ _) ?_;rw[aaE];omega
  refine Eh (λAd=>?_) (λGZ=>?_)
  rotate_left
  ·have:i=ts.length:=by omega
   subst this;simp only[Er,Jp,aar,AAx,Aj];rw[aa_]at hO Ny;simp only[AG,AJ,Nat.reduceEqDiff,↓reduceIte,OI];refine(wN t' hO (by omega) (λs hs=>AA3 (vJ s ((aco.1 hs).1)))).mono λen W2 ⟨Hx,c2,t2,l,hp,ha,gq⟩=>?_;subst Hx;refine AL ?_
   have hl:l=PL c ts:=by
    obtain⟨q1,q2⟩:=iT c ts;exact AGh (hp.trans q1.symm) ha q2
   rw[hl]at gq;have zA:=Z8.sz;exact DU _ W2 vo _ 0 (Z8.trans (Bw.kp VQ c2 λj hj=>hN.in hj)) t2 (by simp only[AG,Nat.reduceEqDiff,↓reduceIte]) (by simp only[AG,↓reduceIte]) gq (λb' l' c' e=>by have:=hN b' l' c' e;omega) hP
  obtain⟨at_,ct,hv,y_⟩:=id (Jc (M5.kp tA VQ));have hx:=ck Ad;obtain⟨p,rfl,hp⟩:=y_ i _ hx;have JT:UK prog 51 tv (.int .i64 i)=some (.pointer (some ⟨p.block,p.off+i*1,none⟩)):=by rw[hv];exact AY (i:=i) LW s9 Ad
  have Q6:ld prog 9 (.pointer (some ⟨p.block,p.off+i*1,none⟩)) W'=some (.string ts[i]):=AH a9 (a:=⟨p.block,p.off+i*1,none⟩) hp
  have KO:(ts.take (i+1)).filter (λs=>!(A3 c s).isSome)=(ts.take i).filter (λs=>!(A3 c s).isSome)++if(A3 c ts[i]).isSome then[]else[ts[i]]:=by
   rw[aaP,hx,aa9,List.filter_append];congr 1
   cases hq:(A3 c ts[i]).isSome with
   |true=>rw[List.filter_cons_of_neg (by rw[hq];simp),aae rfl];rfl
   |false=>rw[List.filter_cons_of_pos (by rw[hq];simp),aad (by simp)];rfl
  generalize ts[i]=s at hx hp Q6 KO;rw[JT];simp only[AA,Q6,Jb];rw[AH a75 (a:=⟨W1.sz,0,none⟩) ((AM5.ext tA VQ).cell rfl)];simp only[AA];obtain⟨ws,XE,hwl,hwo,_⟩:=Zv (sW.kp tA VQ).sh s;rw[XE];simp only[AA,CN,CO];refine EH (ws:=ws) AJj AJk rfl hwo hwl t' λW2 k2 t2 z2 hB=>?_;have WX:=VQ.trans k2;have gq:=hO.kp t' k2;simp only[AZ,AA]
  cases pH:(A3 c s).isSome with
  |true=>
   rw[pH]at KO;simp only[aar,abl]at KO;simp only[aav,AT,mR,Aj];simp only[AG,AJ,Nat.reduceEqDiff,↓reduceIte,h32,AK,AA,FH];rw[CE (by omega)];refine⟨Ad,trivial,WX,t2,by simp only[h6],by simp only[h30],by simp only[h31],(by first|rfl|simp only[AG,AJ,Lc,Nat.reduceEqDiff,↓reduceIte,Nb,bF,Kn,and_self]),vo,by simp only[OI],?_,hN⟩;rw[KO];exact gq
  |false=>
   rw[pH]at KO;simp only[aaD,abf]at KO;simp only[aa6,Af];rw[OI];refine Ig LW s9 z9 rfl (by omega) by9 (by omega) (sK _) rfl rfl t2 gq (by rw[EY];omega) λu Wa V7 W7 ka ta IF t7 o7 n7=>?_;have zA:=WX.sz;simp only[mR,Aj];simp only[AG,AJ,Nat.reduceEqDiff,↓reduceIte,h32,AK,AA,FH];rw[CE (by omega)];refine⟨Ad,trivial,IF.kp WX hN,t7,by simp only[h6],by simp only[h30],by simp only[h31],(by first|rfl|simp only[AG,AJ,Lc,Nat.reduceEqDiff,↓reduceIte,Nb,bF,Kn,and_self]),V7,by simp only[AG],?_,n7 _ zA⟩;rw[KO,Zk];exact o7
theorem qh{vb:Value}{b:List UInt8}{W:CW}(hb:Ts W vb b):Ac prog Bs 28 [vb] W (λen W'=>W'=W∧∃q,en=.returned (.bool q)∧(q=true→b.length≤100005)):=by
 refine AHd ?_;rw[AHc];obtain⟨a,cap,N1,_,_⟩:=hb.sl;rw[N1,AQ LS];simp only[AA,Dc,Ae]
 refine AF (λh=>?_) (λh=>AF (λh2=>?_) (λh2=>?_))
 ·have h:=of_decide_eq_true h;simp only[Uv,Aj,Uw];exact⟨trivial,true,by simp only[AG,↓reduceIte],λ_=>by omega⟩
 ·simp only[Uv,Aj,Uw];exact⟨trivial,_,by simp only[AG,↓reduceIte];rfl,λh=>by have:=of_decide_eq_true h;omega⟩
 ·simp only[Uv,Aj,Uw];exact⟨trivial,false,by simp only[AG,↓reduceIte],λh=>by cases h⟩
structure LIn(A L:CW)(B1 b6 bK r1 r2 b0:Nat)(v v2:Value)(c:List Aq)(h:List CD)(qs rF:List (CD×Value)):Prop where
 tA:Ai A
 kAL:Kp A L
 tL:Ai L
 b6:A0 A b6 24 [v2]
 bK:A0 A bK 78 [.map (some r1),.map (some r2)]
 cat:IB A r1 r2 c
 Al:Bk c=true
 hC:QD c
 hv:∃a cap,v2=.slice a h.length cap
 qok:∀q,q∈qs→BC c q.1 qs.length=true
 sl:∀q,q∈qs→∃bv,q.2=.slice (some ⟨bv,0,none⟩) q.1.AO.length q.1.AO.length∧A.sz≤bv∧bv<B1
 vb:∀j,FA v j→j<B1
 lB:B1≤L.sz
 AB:A.sz≤B1
 dj:∀(i j:Nat) q q' b b' m m',qs[i]?=some q→qs[j]?=some q'→q.2=.slice (some ⟨b,0,none⟩) m m→q'.2=.slice (some ⟨b',0,none⟩) m' m'→i≠j→b≠b'
 len:h.length+qs.length≤1000
 p0:rF.length=h.length
 pn:∀p,p∈rF→Aw B1 p.2
def qi(c:List Aq)(n:Nat)(q:CD×Value):CD×Value:=(Io c n q.1,q.2)
structure SI(A W:CW)(B1:Nat)(v vo:Value)(c:List Aq)(n:Nat)(qs rF:List (CD×Value))(i:Nat):Prop where
 k:Kp A W
 t:Ai W
 z:B1≤W.sz
 own:Bu W 56 2 v (qs.flatMap DV)
 Fk:∀(j:Nat) q bv m,qs[j]?=some q→q.2=.slice (some ⟨bv,0,none⟩) m m→A0 W bv 3 (DA (if j<i then(Io c n q.1).AO else q.1.AO))
 out:Bu W 56 2 vo ((rF++(qs.take i).map (qi c n)).flatMap DV)
 new:Aw B1 vo
 pv:∀p,p∈rF→Bu W 3 1 p.2 (DA p.1.AO)
section
variable {A L:CW}{B1 b6 bK r1 r2 b0:Nat}{v v2:Value}{c:List Aq}{h:List CD}{qs rF:List (CD×Value)}
theorem mX{bv n k:Nat}(hk:k<n):UK prog 40 (.slice (some ⟨bv,0,none⟩) n n) (.int .i64 k)=some (.pointer (some ⟨bv,0+k*1,none⟩)):=AY J9 s3 hk
theorem AA6{l:List Int}{k:Nat}{x:Int}(h:l[k]?=some x):(DA l)[k]?=some (.int .i64 x):=by
 unfold DA;rw[aaz,h];rfl
theorem wP(I:LIn A L B1 b6 bK r1 r2 b0 v v2 c h qs rF){K:AD}{EE:Value→Value→Value→Env}{KP:Value→Value→List PanicEntry→CW→Prop}{ds:List Deferred}{W:CW}{b22 bv ix m:Nat}{q:CD}{s:Aq}{r:Int}(kA:Kp A W)(ht:Ai W)(hEE:∀x y z,IE (EE x y z) b6 bK v r∧EE x y z 22=.pointer (some ⟨b22,0,none⟩)∧EE x y z 85=z)
  (B22:A0 W b22 56 [.string q.type,.slice (some ⟨bv,0,none⟩) q.AO.length q.AO.length]) (AN7:A.sz≤b22) (hbv:A.sz≤bv) (Bv:A0 W bv 3 (DA q.AO)) (Q:dh c q m ix s) (hm:m≤1000)
  (Al:∀x y z W' rm,Bw (·=bv) W W'→Ai W'→W'.obj rm=some .deferred→W.sz≤rm→A0 W' bv 3 (DA (Io c h.length q).AO)→K .normal (EE x y z) (mark rm::ds) W') :
  wV (ld prog 78 (.pointer (some ⟨bK,0,none⟩)) W) λv83=>wV (ld prog 56 (.pointer (some ⟨b22,0,none⟩)) W) λv84=>Ac prog Bs 62 [v83,v84] W (Di (λv85 W29=>FX prog Bs none 30 120 (.rangeFunc (.tmp 85) #[86,87] (rfA prog 30 0) (rfB prog 30 0)) (EE v83 v84 v85) ds W29 K) (KP v83 v84)):=by
 rw[DC (vs:=[.map (some r1),.map (some r2)]) (a:=⟨bK,0,none⟩) a78 k_ rfl (by omega) (I.bK.ext I.tA kA).cells,DC (vs:=[.string q.type,.slice (some ⟨bv,0,none⟩) q.AO.length q.AO.length]) (a:=⟨b22,0,none⟩) bG IH rfl (by omega) B22.cells];simp only[AA];refine(Zw (r1:=r1) (r2:=r2) (ty:=q.type) (vx:=.slice (some ⟨bv,0,none⟩) q.AO.length q.AO.length) ht).mono λen W3 ⟨k3,t3,bk,bx,Hx,wh,hbx,hBk,sQ⟩=>?_;subst Hx;refine AL ?_;have w_:=kA.trans k3;have zA:=kA.sz;have z3:=k3.sz;have AN8:=Bv.lt ht;have AN9:=B22.lt ht;have M9:=Xw I.hC Q.many;have Mt:elemAt c ix=0→q.AO.length≤(AX c ix).length:=λhe=>by rw[TM Q.si he Q.many];exact aag _
 have WU:=I.cat.kp I.tA w_
 have D3:b22≠bv:=by
  rintro rfl;have:=BE B22 Bv
  cases this
 have Bv3:=Bv.ext ht k3;have AM6:=B22.ext ht k3
 have hint:(Io c h.length q).AO=Tu c ix h.length q.AO q.AO.length:=by
  rw[AAZ];unfold Io;rw[Q.ti]
 obtain⟨a2,Wx,OH⟩:=I.hv;obtain⟨E,e22,e85⟩:=hEE (.agg [.map (some r1),.map (some r2)].toArray) (.agg [.string q.type,.slice (some ⟨bv,0,none⟩) q.AO.length q.AO.length].toArray) (.func (.func 108) #[] #[.pointer (some ⟨bk,0,none⟩),.pointer (some ⟨bx,0,none⟩)])
 refine sO (bk:=bk) (bx:=bx) (r1:=r1) (r2:=r2) (n:=q.AO.length) (ix:=ix) (c:=c) (ty:=q.type) (a1:=23) (a2:=24) t3 e85 Q.ti (by omega) Mt (λro e0 ds K W=>by rw[AFs]) (by decide)
  (λj W'=>Bw (·=bv) W3 W'∧Ai W'∧W'.obj W3.sz=some .deferred∧W3.sz+1<W'.sz∧A0 W' bv 3 (DA (Tu c ix h.length q.AO j)))
  (λ_ _=>False)
  (λj W' hh=>⟨hh.1.cell t3 (by omega) (hBk.cell rfl),hh.1.cell t3 (by omega) (hBk.cell rfl),I.cat.kp I.tA (Bw.kp w_ hh.1 λj hj=>by omega),hh.1.cell t3 (by omega) (sQ.cell rfl),_,_,hh.1.cell t3 (by omega) (sQ.cell rfl)⟩)
  (λj W1 W2 ⟨h1,h2,h3,h4,h5⟩ hu _=>⟨h1.then hu.Dk λi hi he=>by omega,h2.Ba h4 hu,by rw[hu.obj _ (by omega)];exact h3,by rw[hu.sz];exact h4,h5.congr (hu.obj _ (by omega))⟩)
  (λ_ _ _ hh _ _=>hh.elim)
  (λW2 k t z hd=>⟨Bw.HY k,t,hd,by omega,by rw[vY];exact Bv3.ext t3 k⟩)
  (λj W1 Kb E' hE hE1 hE2 hj ⟨Jt,t1,hd,hl,hB⟩ OB hn _ _=>?_) (λW' ⟨Jt,t',hd,hl,hB⟩=>?_) (λ_ _ hh=>hh.elim)
 ·have g:∀t v,t≠86→t≠87→t≠23→t≠24→EE (.agg [.map (some r1),.map (some r2)].toArray) (.agg [.string q.type,.slice (some ⟨bv,0,none⟩) q.AO.length q.AO.length].toArray) (.func (.func 108) #[] #[.pointer (some ⟨bk,0,none⟩),.pointer (some ⟨bx,0,none⟩)]) t=v→E' t=v:=λt v n1 n2 n3 n4 hv=>by
   rw[hE t n1 n2 n3 n4,←hv]
  have g6:=g 6 _ (by decide) (by decide) (by decide) (by decide) E.e6;have g22:=g 22 _ (by decide) (by decide) (by decide) (by decide) e22;have hx:=ck hj;generalize q.AO[j]=x at hx;have nH:(Tu c ix h.length q.AO j)[j]?=some x:=by rw[M0,hx];simp
  have l22:ld prog 40 (.pointer (some ⟨b22,0+1,none⟩)) W1=some (.slice (some ⟨bv,0,none⟩) q.AO.length q.AO.length):=AH Ww (a:=⟨b22,0+1,none⟩) (Jt.cell t3 D3 (AM6.cell rfl))
  have lx:ld prog 3 (.pointer (some ⟨bv,0+j*1,none⟩)) W1=some (.int .i64 x):=AH a3 (a:=⟨bv,0+j*1,none⟩) (by
   show W1.cell bv (0+j*1)=_;rw[show 0+j*1=j by omega]
   exact hB.cell (AA6 nH))
  have l6:ld prog 24 (.pointer (some ⟨b6,0,none⟩)) W1=some (.slice a2 h.length Wx):=by
   rw[←OH];exact AH a24 (a:=⟨b6,0,none⟩) ((Bw.kp w_ Jt λj hj=>by omega).cell I.tA (I.b6.cell rfl))
  have k32:∀(e2:Env) (b:Bool),e2 97=.bool b→e2 6=.pointer (some ⟨b6,0,none⟩)→e2 22=.pointer (some ⟨b22,0,none⟩)→e2 23=.int .i64 j→(b=true↔(BR c ix j=2∧0<x))→(X9 (some (W3.sz+1)) Kb) .normal e2 [] W1:=by
   intro e2 b h97 h6 vO h23 hb;simp only[vV,Aj,h97]
   refine AF (λTK=>?_) (λmy=>?_)
   ·obtain⟨hk,hx0⟩:=hb.1 TK
    have hxm:x≤1000:=by
     rcases O6 I.Al Q hx with q|q
     ·omega
     ·rw[q.1]at hk;cases hk
    have hh1:=I.len;rw[h6,vO,h23];simp only[EF,l22,mX hj,lx,l6,AQ M',AK,AA];rw[wrap64 (by omega) (by omega)];refine Ar s3 (a:=⟨bv,0+j*1,none⟩) (v:=.int .i64 (x+(h.length:Int))) rfl hB (by rw[Ij,Tv];show 0+j*1<_;omega) λW2 hu HD=>?_;have hu:Ep bv W1 W2:=hu;have HD:A0 W2 bv 3 (putAt (DA (Tu c ix h.length q.AO j)) (0+j*1) [.int .i64 (x+(h.length:Int))]):=HD;rw[gz (by rw[Tv];exact hj)]at HD;have UJ:Vo c ix h.length j x=x+(h.length:Int):=aae ⟨hk,hx0⟩;rw[←UJ,←eU hx]at HD;refine⟨by simp only[and_self],trivial,?_⟩;have kY:=hB.lt t1;exact hn _ _ W2 (hu.obj _ (by omega)) ⟨Jt.then hu.Dk λ_ _ h=>h,t1.Ba kY hu,by rw[hu.obj _ (by omega)];exact hd,by rw[hu.sz];exact hl,HD⟩
   ·have G_:¬(BR c ix j=2∧0<x):=λhh=>by
     have:=hb.2 hh;rw[this]at my
     cases my
    refine hn _ _ W1 rfl ⟨Jt,t1,hd,hl,?_⟩;rw[vZ hx (aad G_)];exact hB
  rw[AFt,g22,hE1,hE2];simp only[BD,AA]
  refine AF (λhk=>?_) (λhk=>?_)
  ·have hk:BR c ix j=2:=by simpa using hk
   simp only[EF,l22,mX hj,lx,Ae,AA];refine k32 _ (decide (x>0)) (by simp only[AG,↓reduceIte]) (by simp only[AG,AJ,Nat.reduceEqDiff,↓reduceIte,g6]) (by simp only[AG,AJ,Nat.reduceEqDiff,↓reduceIte,g22]) (by simp only[AG,AJ,Nat.reduceEqDiff,↓reduceIte,hE1]) ⟨λhh=>⟨hk,of_decide_eq_true hh⟩,λhh=>decide_eq_true hh.2⟩
  ·have hk:¬BR c ix j=2:=by simpa using hk
   exact k32 _ false (by simp only[AG,↓reduceIte]) (by simp only[AG,AJ,Nat.reduceEqDiff,↓reduceIte,g6]) (by simp only[AG,AJ,Nat.reduceEqDiff,↓reduceIte,g22]) (by simp only[AG,AJ,Nat.reduceEqDiff,↓reduceIte,hE1]) ⟨λhh=>(by cases hh),λhh=>(hk hh.1).elim⟩
 ·exact Al _ _ _ W' W3.sz ((Bw.HY k3).then Jt λ_ _ h=>h) t' hd z3 (by rw[hint];exact hB)
theorem wQ(I:LIn A L B1 b6 bK r1 r2 b0 v v2 c h qs rF){K:AD}{e:Env}{vo:Value}{r:Int}(S:SI A L B1 v vo c h.length qs rF 0)(E:IE e b6 bK v r)(h77:e 77=v)(h78:e 78=.int .i64 qs.length)(h79:e 79=.int .i64 0)(h18:e 18=vo)
  (Ef:∀e' EK W' vo',SI A W' B1 v vo' c h.length qs rF qs.length→Marks A.sz W' EK→IE e' b6 bK v r→e' 18=vo'→K (.exit 2) e' EK W') :
  FX prog Bs none 30 120 (.loop (D6 prog 30 1)) e [] L K:=by
 have OK:=I.len;refine C2 (λi e' EK W'=>Marks A.sz W' EK∧IE e' b6 bK v r∧e' 77=v∧e' 78=.int .i64 qs.length∧e' 79=.int .i64 i∧∃vo,e' 18=vo∧SI A W' B1 v vo c h.length qs rF i) qs.length ⟨.nil _ _,E,h77,h78,h79,_,h18,S⟩ ?_;rintro i e ds W hi ⟨hm,E,h77,h78,h79,vo,h18,S⟩;rw[AFr,h77,h78,h79,E.lI];simp only[AA,AP];refine Eh (λAd=>?_) (λGZ=>?_)
 rotate_left
 ·have:i=qs.length:=by omega
  subst this;simp only[Jp];exact Ef _ ds W vo S hm ⟨by simp only[AG,AJ,Nat.reduceEqDiff,↓reduceIte,E.e6],by simp only[AG,AJ,Nat.reduceEqDiff,↓reduceIte,E.lI],by simp only[AG,AJ,Nat.reduceEqDiff,↓reduceIte,E.e15],by simp only[AG,AJ,Nat.reduceEqDiff,↓reduceIte,E.e16]⟩ (by simp only[AG,AJ,Nat.reduceEqDiff,↓reduceIte,h18])
 have hq:=ck Ad;generalize hqe:qs[i]=q at hq;have vi:=aan hq;obtain⟨ix,s,Q⟩:=LP (I.qok q vi);obtain⟨bv,hv,hbA,hbB⟩:=I.sl q vi;have Hp:=DE qs
 obtain⟨bs,hvs⟩:∃bs,v=.slice (some ⟨bs,0,none⟩) qs.length qs.length:=by
  have hO:=S.own;generalize qs.flatMap DV=cs at hO Hp
  cases hO with
  |nil=>simp at Hp;omega
  | @some b0 len _ hB hl=>
   have:len=qs.length:=by omega
   subst this;exact⟨b0,rfl⟩
 have hbs:=CR S.own (⟨_,_,_,hvs,rfl⟩:FA v bs)
 have Ah:Cells W bs (0+i*2) (DV q):=λj w hj=>by
  have rA:j<2:=by have:=(dx.1 hj).1;simpa[DV]using this
  refine hbs.cell ?_;rw[Im,show(0+i*2+j)/2=i by omega,show(0+i*2+j)%2=j by omega,hq];exact hj
 have hia:UK prog 24 v (.int .i64 i)=some (.pointer (some ⟨bs,0+i*2,none⟩)):=by rw[hvs];exact AY M' IH Ad
 rw[hia];simp only[AA];rw[DC (vs:=DV q) (a:=⟨bs,0+i*2,none⟩) bG IH rfl (by omega) Ah];simp only[AA];have Jz:(DV q).all BJ=true:=by unfold DV;rw[hv];rfl
 refine EH (ws:=DV q) m0 IH rfl Jz rfl S.t λW2 k2 t2 z2 AGq=>?_;have WX:=S.k.trans k2;have hqv:DV q=[.string q.1.type,.slice (some ⟨bv,0,none⟩) q.1.AO.length q.1.AO.length]:=by unfold DV;rw[hv]
 rw[hqv]at AGq;have Bv:=(S.Fk i q bv q.1.AO.length hq hv).ext S.t k2;rw[aad (Nat.lt_irrefl i)]at Bv;have zA:=S.k.sz;have zq:=I.len;have kY:=Bv.lt t2;have AN':=(S.Fk i q bv q.1.AO.length hq hv).lt S.t;refine wP I (q:=q.1) (r:=r) (b22:=W.sz) (bv:=bv) WX t2 (λx y z=>⟨⟨by simp only[AG,AJ,Nat.reduceEqDiff,↓reduceIte,E.e6],by simp only[AG,AJ,Nat.reduceEqDiff,↓reduceIte,E.lI],by simp only[AG,AJ,Nat.reduceEqDiff,↓reduceIte,E.e15],by simp only[AG,AJ,Nat.reduceEqDiff,↓reduceIte,E.e16]⟩,by simp only[AG,Nat.reduceEqDiff,↓reduceIte],by simp only[AG,↓reduceIte]⟩) AGq zA hbA Bv Q (by omega) (λx y z W5 rm Jt t5 hd hrm VO=>?_);simp only[Aj,wy,vU];have AKW:=Jt.Fk t2 (by omega) AGq;simp only[AG,AJ,Nat.reduceEqDiff,↓reduceIte,h18];rw[DC (vs:=[.string q.1.type,.slice (some ⟨bv,0,none⟩) q.1.AO.length q.1.AO.length]) (a:=⟨W.sz,0,none⟩) bG IH rfl (by omega) AKW.cells];simp only[AA];have kX:Bw (·=bv) W W5:=(Bw.HY k2).then Jt λ_ _ h=>h
 have AKX:∀j,FA vo j→j≠bv:=by
  rintro j hj rfl;obtain⟨b,l,c',e1,e2⟩:=hj;have:=S.new b l c' e1;omega
 have m8:=kX.own S.t S.out AKX;have AM7:=DE (rF++(qs.take i).map (qi c h.length))
 have MV:(rF++(qs.take i).map (qi c h.length)).length≤1000:=by
  rw[aas,aaq,aaE,I.p0];omega
 have AM8:Kp A W5:=Bw.kp S.k kX λj hj=>by omega
 refine Ig M' IH m0 rfl (by omega) pV (by omega) (aN _ _ _ _) rfl rfl t5 m8 (by rw[AM7];omega) λu Wa v1 W6 ka ta IF t6 o6 n6=>?_;simp only[vT,Aj,FH];simp only[AG,AJ,Nat.reduceEqDiff,↓reduceIte,h79,AK,AA];rw[CE (by omega)];have nA:Aw A.sz vo:=λb l c' e1=>by have:=S.new b l c' e1;have:=I.AB;omega
 have zL:=Jt.sz
 have WE:∀j o,W.obj j=some o→j≠bv→¬FA vo j→W6.obj j=some o:=λj o hj D3 G_=>by
  rw[IF.Dk.obj j (by have:=S.t _ _ hj;omega) G_,kX.obj j (S.t _ _ hj) D3];exact hj
 have AM9:B1≤W5.sz:=by
  have h1:=S.z;have h3:=k2.sz;omega
 have AM':∀j,FA v j→j≠bv:=by
  rintro j hj rfl;have:=BE (CR S.own hj) (S.Fk i q j q.1.AO.length hq hv)
  cases this
 refine⟨Ad,?_,⟨by simp only[AG,AJ,Nat.reduceEqDiff,↓reduceIte,E.e6],by simp only[AG,AJ,Nat.reduceEqDiff,↓reduceIte,E.lI],by simp only[AG,AJ,Nat.reduceEqDiff,↓reduceIte,E.e15],by simp only[AG,AJ,Nat.reduceEqDiff,↓reduceIte,E.e16]⟩,by simp only[h77],by simp only[h78],by simp only[AG],v1,by simp only[AG],⟨IF.kp AM8 nA,t6,by have:=IF.sz;omega,?_,λj q' bq m' hj wk=>?_,?_,n6 _ AM9,λp hp=>?_⟩⟩
 ·refine(hm.more S.t (W':=W6) (r:=rm) (λj hj hB=>WE j _ hj ?_ λhi=>?_) ?_ (by omega) (by omega))
  ·rintro rfl;obtain⟨x,y,z,ho,_⟩:=S.Fk i q j q.1.AO.length hq hv;rw[ho]at hj;cases hj
  ·obtain⟨x,y,z,ho,_⟩:=CR S.out hi;rw[ho]at hj;cases hj
  ·rw[IF.Dk.obj rm (t5 _ _ hd) λhi=>?_]
   ·exact hd
   ·obtain⟨x,y,z,ho,_⟩:=CR m8 hi;rw[ho]at hd;cases hd
 ·have h5:=kX.own S.t S.own AM'
  exact IF.Dk.own t5 h5 λj hj hi=>by
   obtain⟨b,l,c',e1,e2⟩:=hi;have h1:=S.new b l c' e1;have h2:=I.vb j hj;omega
 ·by_cases e:j=i
  ·subst e;rw[hq]at hj
   cases hj
   rw[hv]at wk
   cases wk
   rw[aae (by omega)];refine IF.Dk.Fk t5 (λhi=>AKX _ hi rfl) VO
  ·have Zd:=S.Fk j q' bq m' hj wk;have AKY:bq≠bv:=I.dj j i q' q bq bv _ _ hj hq wk hv e
   have:=IF.Dk.Fk t5 (λhi=>by
    have h3:=CR m8 hi;have:=BE (kX.Fk S.t AKY Zd) h3
    cases this) (kX.Fk S.t AKY Zd)
   by_cases hji:j<i
   ·rw[aae hji]at this;rw[aae (by omega)];exact this
   ·rw[aad hji]at this;rw[aad (by omega)];exact this
 ·rw[aaP,hq,aa9,aaI,←abb,abd];have Wy:(Io c h.length q.1).type=q.1.type:=by unfold Io;split<;>rfl
  have he:DV (qi c h.length q)=[.string q.1.type,.slice (some ⟨bv,0,none⟩) q.1.AO.length q.1.AO.length]:=by unfold DV qi;simp only[Wy,hv]
  simp only[abW,List.map_nil,aaO,acS,abl,he];exact o6
 ·have h5:=kX.own S.t (S.pv p hp) λj hj e=>by
   obtain⟨b,l,c',e1,e2⟩:=hj;have:=I.pn p hp b l c' e1;omega
  exact IF.Dk.own t5 h5 (Np h5 m8 (by decide))
end
end Go.Ce
