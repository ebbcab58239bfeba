/- A part of the proof: ShD, Qj, Qk, Ql, Qm, Qn, Qo, Qp, Qq, Qr, Qs, Ra, Rb, Rc, Re, Rf, Rg, Rh, Ri, Rj, Rk, Rl, Rm. -/
import Derived.Test.YtmknebebbbjdlaaGreatW02
import Derived.Test.YtmknebebbbjdlaaGreatW03
import Derived.Test.YtmknebebbbjdlaaGreatProg
set_option linter.unusedSectionVars false
set_option linter.unusedVariables false
set_option linter.unusedSimpArgs false
set_option linter.defProp false
set_option maxRecDepth 200000
namespace Go.Ce
open Go Go.Proofs Go.Proofs.Tryz
def dm(ro:Option Nat)(K:AB):AB:=Ab (λa b c=>DG 88 a 15 c λd=>DV d λf=>BA 97 f λg=>let d:=HY 98 g 97 f 96 d;Gc 55 g 1 c (λc f=>DG 88 a 15 f λg=>DV g λh=>BA 97 h λi=>DG 51 a 16 f λj=>DG 88 a 15 f λk=>DV k λl=>BA 97 l λm=>RR 57 #[m] #[] λn=>GD 56 i j n f (λo p=>let c:=F2 108 o 107 n (A_ 106 m 105 l 104 k 103 j (A_ 102 i 101 h 100 g 99 c d));GC ((MU 88 (a 15) f k)∧XL 51 (a 16) f j 88 (a 15) g) (TO 58 [] p (λd f=>Bp 108 f λf g=>Bj 108 f d g λg=>DG 88 a 15 g λh=>DV h λi=>BA 97 i λj=>DG 88 a 15 g λk=>DV k λl=>C0 97 l λm=>CQ 89 m g λn=>DV n λo=>BA 100 o λp=>C9 p g λq=>RR 60 #[] #[a 12,Et a,a 15,a 16,DW a,f] λr=>GD 59 j q r g (λs t=>GC (GS (MU 40 p g q) (MU 89 m g n) (Gd 88 (a 15) g k (a 15) h)) (DG 88 a 15 t λg=>DV g λu=>BA 97 u λv=>BA 95 v λw=>CQ 29 w t λy=>Gj K a (eC 9 Be (EY 8 y 126 125 w 124 v (A_ 123 u 122 g 121 s 120 r (A_ 119 q 118 p 117 o 116 n (A_ 115 m 114 l 113 k 112 j (A_ 111 i 110 h 22 f 109 d c)))))) b t)) λ_ _=>False) λd f=>CJ K d a c b f)) λ_ _=>False) λc f=>CJ K c a d b f) K
def rO:=by
 have h:=@dm.eq_1;dsimp at h;exact h
def AGt(v0 v1 v2 v3:Value)(K:AB)(W:CW):=by
 have h:HM 17 127 [v0,v1,v2,v3] W K=GH 24 v2 W λa b=>let c:=BK 24 v0 9 Be 8 (.slice none 0 0) 6 a;GJ 47 v0 b (λb d=>Db b λf=>Dc b λg=>Bp 78 d λd h=>Bj 78 d f h λh=>D3 g λi=>let b:=A_ 29 i 28 g 11 g 10 d (Dh 27 g 26 f 23 b 25 c);wI i (E9 K [v0,v1,v2,v3] (F2 9 (TN 210) 8 (.slice none 0 0) b) h) (CQ 78 d h λc=>ET 48 c v1 h (λf g=>Db f λh=>Dc f λi=>Bp 83 g λg j=>Bj 83 g h j λj=>D3 i λk=>let b:=F2 37 k 36 i (A_ 11 i 12 g 35 i 34 h (EY 30 f 33 32 v1 31 c b));wI k (E9 K [v0,v1,v2,v3] (F2 9 (TN 212) 8 (.slice none 0 0) b) j) (CQ 24 a j λc=>let b:=DB 41 v3 40 c 39 v0 b;GD 49 v0 c v3 j (λc f=>Db c λh=>Dc c λi=>Bp 78 f λf j=>Bj 78 f h j λj=>XI .neq 30 i 0 λk=>let b:=A_ 46 k 45 i 14 i 13 f (Dh 44 i 43 h 38 c 42 b);wI k (E9 K [v0,v1,v2,v3] (DB 9 i 8 (.slice none 0 0) 47 i b) j) (RR 51 #[] #[d,g,a] λa=>ET 50 v3 a (TQ j 1 #[.pointer none] 88) (λc f=>CQ 78 d f λg=>wV (ZT prog 97 [(1,c),(2,g)]) λh=>GH 97 h f λi k=>(true=true)∧Bj 88 (.pointer (some ⟨CW.sz j,0,none⟩)) i k λl=>GS (Ik (GG (Jx True 78 d f g 78 d (TQ j 1 #[.pointer none] 88) g))) (Ik (GG (GS (RQ (some ⟨CW.sz j,0,none⟩) (RT (TQ j 1 #[.pointer none] 88) j) k=true) (RQ (some ⟨CW.sz j,0,none⟩) (RT (TQ j 1 #[.pointer none] 88) j) f=true) (RQ (some ⟨CW.sz j,0,none⟩) (RT (TQ j 1 #[.pointer none] 88) j) (TQ j 1 #[.pointer none] 88)=true)))) (Bp 51 l λd f=>CQ 88 (.pointer (some ⟨CW.sz j,0,none⟩)) f λk=>DV k λl=>C0 97 l λm=>CQ 89 m f λn=>DV n λo=>BA 100 o λp=>C9 p f λq=>Fw q f λr=>EB 17 127 [v0,v1,v2,v3] (eC 62 Be (A_ 61 r 60 q 59 p 58 o (A_ 57 n 56 m 55 l 54 k (A_ 16 d 15 (.pointer (some ⟨CW.sz j,0,none⟩)) 53 i 52 h (A_ 51 g 50 c 49 a 48 v3 b))))) f (dm none K))) λ_ _=>False)) λa c=>Lb K a [v0,v1,v2,v3] b c)) λa d=>Lb K a [v0,v1,v2,v3] (F2 32 v1 31 c b) d)) λa b=>Lb K a [v0,v1,v2,v3] c b:=by kernel_rfl
 dsimp at h;exact h
def R8(ro:Option Nat)(K:AB):AB:=Ab (λa b c=>B_ a 62 λd=>Gt K a 62 d 95 b c) K
def T7:=by
 have h:=@R8.eq_1;dsimp at h;exact h
def ADP(ro:Option Nat)(e:Env)(ds:List Deferred)(K:AB)(W:CW):=by
 have h:Dd ro 17 127 e ds W K=FU e 62 61 λa=>Gs a (KZ 40 e 60 e 62 λb=>FT b W λc=>D9 83 e 12 λd=>CQ 81 d W λf=>DG 24 e 6 W λg=>Lh c 1 λh=>Gq 24 g h λi=>BA 56 i λj=>As j W λk=>EW 81 f k true W λl=>Db l λm=>Dc l λn=>Bp 58 W λo p=>let a:=FR 78 n 20 19 o (Dh 77 n 76 m 66 l 75 (A_ 74 k 73 j 72 i 71 h (A_ 70 c 69 g 68 f 67 d (BK 18 c 65 c 64 b 63 a))));Bj 58 o m p λb=>GC (GS (GS True (Sq prog 81 f k true p=some l) (Sq prog 81 f k true W=some l)) (Jx True 9 j p k 9 j W k) (Ow (Jx True 24 (Et e) p g 24 (Et e) W g) (Jx True 81 d p f 81 d W f))) (wI n (Gj (R8 ro K) e (F2 9 (TN 214) 8 (.slice none 0 0) a) ds b) (DG 83 e 12 b λd=>DG 24 e 6 b λf=>Lh c 1 λg=>Gq 24 f g λh=>CQ 56 h b λi=>ET 53 d i b (λj k=>wV (fld prog 56 j 0) λl=>GC ((MU 56 h b i)∧XL 24 (Et e) b f 83 (e 12) d) (DG 51 e 16 k λb=>let a:=DB 88 l 87 b 21 l (A_ 86 l 85 j 84 i 83 h (A_ 82 g 81 c 80 f 79 d a));ET 54 b l k (λb c=>D3 b λd=>Dm d (DG 51 e 16 c λf=>M8 prog 51 1 [(0,l)] c λc g=>Li prog [51,51] f c g λg h=>Bj 51 (e 16) g h λh=>TM (R8 ro K) e (F2 94 g 93 c (A_ 92 l 91 f 90 d 89 b a)) ds h) (R8 ro K) e (F2 90 d 89 b a) ds c) λb c=>CJ (R8 ro K) b e a ds c)) λ_ _=>False))) K 0 e 63 a ds W:=by kernel_rfl
 dsimp at h;exact h
theorem rP(Q:Ending→CW→Prop)(e:Env)(W:CW):AQ prog Tryz.f17 Q .ret e [] W=Q (.returned (.tuple #[e 8,e 9])) W:=by kernel_rfl
def AGu{Q v0 v1 v2 v3 W}:=F1 17 127 [v0,v1,v2,v3] Tryz.f17 Q W Tryz.func17 (by kernel_rfl)
def AGv(v0 v1 v2 v3:Value)(K:AB)(W:CW):=by
 have h:HM 51 15 [v0,v1,v2,v3] W K=CQ 78 v1 W λa=>CQ 83 v2 W λb=>CQ 24 v3 W λc=>Lh v0 1 λd=>Gq 24 c d λf=>CQ 56 f W λg=>ET 53 b g W (λh i=>ET 52 a h i (λj k=>GC (GS (NM 56 f W g) (NM 24 v3 W c) (gO 83 v2 W b (Jx True 78 v1 i a 78 v1 W a))) (E9 K [v0,v1,v2,v3] (FR 5 j 14 13 h (A_ 12 g 11 f 10 d 9 v0 (BK 8 c 7 b 6 a 5 (.slice none 0 0)))) k)) λ_ _=>False) λ_ _=>False:=by kernel_rfl
 dsimp at h;exact h
theorem rQ(Q:Ending→CW→Prop)(e:Env)(W:CW):AQ prog Tryz.f51 Q .ret e [] W=Q (.returned (e 5)) W:=by kernel_rfl
def AGw{Q v0 v1 v2 v3 W}:=F1 51 15 [v0,v1,v2,v3] Tryz.f51 Q W Tryz.func51 (by kernel_rfl)
def wh(ro:Option Nat)(K:AB):AB:=Ab (λe ds W=>wV (ld prog 56 (e 7) W) λv42=>wV (NK prog 56 (e 4) v42 W) λW8=>K .ret (Env.of e [(42,v42)]) ds W8) K
def AGx(v0 v1:Value)(K:AB)(W:CW):=by
 have h:Er 53 43 v0 v1 W K=GH 83 v0 W λa b=>GH 56 v1 b λb c=>Bp 56 c λc d=>BA 83 a λf=>CQ 81 f d λg=>BA 56 b λh=>As h d λi=>EW 81 g i true d λj=>Db j λk=>Dc j λl=>Bp 58 d λd m=>Bj 58 d k m λm=>D3 l λn=>let a:=DB 19 n 18 l 6 l (A_ 5 d 17 l 16 k 10 j (A_ 15 j 14 i 13 h 12 g (BK 11 f 4 c 3 b 2 a)));wI n (CQ 56 b m λb=>Bj 56 c b m λc=>Lj K v0 v1 (eC 20 b a) c) (C0 58 d λb=>As b m λc=>wV (ZT prog 56 [(0,c)]) λf=>Bp 56 m λg h=>Bj 56 g f h λh=>Nv 58 d 2 λd=>C9 d h λi=>Fw i h λj=>EB 53 43 [v0,v1] (A_ 27 Be 26 j 25 i 24 d (A_ 7 g 23 f 22 c 21 b a)) h (wh none K)):=by kernel_rfl
 dsimp at h;exact h
def og(ro:Option Nat)(K:AB):AB:=Ab (λa b c=>B_ a 27 λd=>Gt K a 27 d 41 b c) K
def rR:=by
 have h:=@og.eq_1;dsimp at h;exact h
def ADQ(ro:Option Nat)(e:Env)(ds:List Deferred)(K:AB)(W:CW):=by
 have h:Dd ro 53 43 e ds W K=FU e 27 26 λa=>Gs a (KZ 40 e 25 e 27 λb=>FT b W λc=>D9 56 e 7 λd=>C9 d W λf=>D9 56 e 3 λg=>C9 g W λh=>Gq 40 h c λi=>FT i W λj=>M8 prog 40 1 [(0,j)] W λk l=>Li prog [40,40] f k l λm n=>D9 56 e 7 λo=>Bj 40 o m n λn=>HA ((GG (NM 3 i W j))∧Ow (GG (NM 40 g W h)) (GG (Jx True 40 d l f 40 d W f))) (og ro K) e (F2 40 o 39 m (A_ 38 k 37 j 36 i 35 c (A_ 34 h 33 g 32 f 31 d (BK 9 c 30 c 29 b 28 a)))) ds n) K 0 e 28 a ds W:=by kernel_rfl
 dsimp at h;exact h
def AGy{Q v0 v1 W}:=F1 53 43 [v0,v1] Tryz.f53 Q W Tryz.func53 (by kernel_rfl)
def AGz(v0 v1:Value)(K:AB)(W:CW):=by
 have h:Er 54 9 v0 v1 W K=(let a:=eC 6 v1 (DD 5 v0 4 []);ET 61 v0 v1 W (λb c=>ED .geq b 0 λd=>Lj K v0 v1 (FR 4 d 8 7 b a) c) λb c=>HX K b v0 v1 a c):=by kernel_rfl
 dsimp at h;exact h
theorem rS(Q:Ending→CW→Prop)(e:Env)(W:CW):AQ prog Tryz.f54 Q .ret e [] W=Q (.returned (e 4)) W:=by kernel_rfl
def AG0{Q v0 v1 W}:=F1 54 9 [v0,v1] Tryz.f54 Q W Tryz.func54 (by kernel_rfl)
def wi(ro:Option Nat)(K:AB):AB:=Ab (λa b c=>DV (Ai a) λd=>BA 95 d λf=>CQ 29 f c λg=>wV (cl prog 3 5 (BN a)) λh=>M8 prog 29 1 [(0,h)] c λc i=>Li prog [29,29] g c i λi j=>DV (Ai a) λk=>BA 95 k λl=>Bj 29 l i j λj=>TM K a (DB 31 l 30 k 29 i (Gp 28 c 27 h 26 a 1 25 g (BK 24 f 23 d 22 (Ai a) 21 (Ai a)))) b j) K
def wj:=by
 have h:=@wi.eq_1;dsimp at h;exact h
def AG1(v0 v1:Value)(K:AB)(W:CW):=by
 have h:Er 55 32 v0 v1 W K=gN none 55 32 0 (M9 v0 v1) [] W 0 (wi none K):=by kernel_rfl
 dsimp at h;exact h
def wm(ro:Option Nat)(K:AB):AB:=Ab (λe ds W=>wV (CF prog .shr 3 true (e 1) (.int .u64 7)) λv7=>K .normal (Env.of e [(1,v7),(7,v7),(6,(e 1))]) ds W) K
def ADR(ro:Option Nat)(e:Env)(ds:List Deferred)(K:AB)(W:CW):=by
 have h:Dd ro 55 32 e ds W K=NL .geq 3 e 1 128 λa=>P6 a (DV (Ai e) λb=>BA 95 b λc=>CQ 29 c W λd=>NL .rem 3 e 1 128 λf=>Ju f 128 λg=>wV (cl prog 3 5 g) λh=>M8 prog 29 1 [(0,h)] W λi j=>Li prog [29,29] d i j λj k=>DV (Ai e) λl=>BA 95 l λm=>Bj 29 m j k λk=>TM (wm ro K) e (DB 20 m 19 l 18 j (A_ 17 i 16 h 15 g 14 f (A_ 13 (BN e) 12 d 11 c 10 b (BK 9 (Ai e) 8 (Ai e) 5 a 4 (BN e))))) ds k) K 0 e (Fu 5 a 4 (BN e)) ds W:=by kernel_rfl
 dsimp at h;exact h
def AG2{Q v0 v1 W}:=F1 55 32 [v0,v1] Tryz.f55 Q W Tryz.func55 (by kernel_rfl)
def AG3(v0 v1 v2:Value)(K:AB)(W:CW):=by
 have h:H5 56 22 v0 v1 v2 W K=Dl 51 v1 W λa=>let b:=HY 10 a 9 v1 8 v0;ET 55 v0 a W (λa c=>Dl 51 v1 c λd=>EB 56 22 [v0,v1,v2] (A_ 14 Be 13 d 12 v1 11 a b) c K) λa c=>H6 K a v0 v1 v2 b c:=by kernel_rfl
 dsimp at h;exact h
def mL(ro:Option Nat)(K:AB):AB:=Ab (λa b c=>B_ a 14 λd=>Gt K a 14 d 21 b c) K
def wo:=by
 have h:=@mL.eq_1;dsimp at h;exact h
def ADS(ro:Option Nat)(e:Env)(ds:List Deferred)(K:AB)(W:CW):=by
 have h:Dd ro 56 22 e ds W K=FU e 14 13 λa=>Gs a (KZ 51 e 12 e 14 λb=>As b W λc=>let a:=F2 19 c 18 (DE e) (BK 7 c 17 c 16 b 15 a);Dt prog Bf (DE e) [c] W (λb c=>GU (mL ro K) e 20 b a ds c) λb c=>CJ (mL ro K) b e a ds c) K 0 e 15 a ds W:=by kernel_rfl
 dsimp at h;exact h
def AG4{Q v0 v1 v2 W}:=F1 56 22 [v0,v1,v2] Tryz.f56 Q W Tryz.func56 (by kernel_rfl)
def AG5(v0 v1:Value)(K:AB)(W:CW):=by
 have h:Er 57 17 v0 v1 W K=Dl 9 v1 W λa=>let b:=HY 6 a 5 v1 4 v0;ET 55 v0 a W (λa c=>DV v0 λd=>BA 95 d λf=>CQ 29 f c λg=>Li prog [29,9] g v1 c λc h=>DV v0 λi=>BA 95 i λj=>Bj 29 j c h λh=>TM K (M9 v0 v1) (F2 16 j 15 i (A_ 14 c 13 v1 12 g 11 f (A_ 10 d 9 v0 8 v0 7 a b))) [] h) λa c=>HX K a v0 v1 b c:=by kernel_rfl
 dsimp at h;exact h
def AG6{Q v0 v1 W}:=F1 57 17 [v0,v1] Tryz.f57 Q W Tryz.func57 (by kernel_rfl)
def AG7(K:AB)(W:CW):=by
 have h:HM 58 2 [] W K=Bp 108 W λa b=>wV (ZT prog 108 [(1,.func (.func 106) #[] #[]),(2,.func (.func 107) #[] #[])]) λc=>Bj 108 a c b λb=>E9 K [] (Fu 1 c 0 a) b:=by kernel_rfl
 dsimp at h;exact h
def AG8{Q W}:=F1 58 2 [] Tryz.f58 Q W Tryz.func58 (by kernel_rfl)
def AG9(v0 v1 v2:Value)(K:AB)(W:CW):=by
 have h:H5 59 22 v0 v1 v2 W K=Fw v1 W λa=>let b:=HY 10 a 9 v1 8 v0;ET 55 v0 a W (λa c=>Fw v1 c λd=>EB 59 22 [v0,v1,v2] (A_ 14 Be 13 d 12 v1 11 a b) c K) λa c=>H6 K a v0 v1 v2 b c:=by kernel_rfl
 dsimp at h;exact h
def mM(ro:Option Nat)(K:AB):AB:=Ab (λa b c=>B_ a 14 λd=>Gt K a 14 d 21 b c) K
def wq:=by
 have h:=@mM.eq_1;dsimp at h;exact h
def ADT(ro:Option Nat)(e:Env)(ds:List Deferred)(K:AB)(W:CW):=by
 have h:Dd ro 59 22 e ds W K=FU e 14 13 λa=>Gs a (KZ 40 e 12 e 14 λb=>FT b W λc=>let a:=F2 19 c 18 (DE e) (BK 7 c 17 c 16 b 15 a);Dt prog Bf (DE e) [c] W (λb c=>GU (mM ro K) e 20 b a ds c) λb c=>CJ (mM ro K) b e a ds c) K 0 e 15 a ds W:=by kernel_rfl
 dsimp at h;exact h
def AG'{Q v0 v1 v2 W}:=F1 59 22 [v0,v1,v2] Tryz.f59 Q W Tryz.func59 (by kernel_rfl)
def dn(ro:Option Nat)(K:AB):AB:=Ab (λa b c=>DG 78 a 5 c λd=>DG 56 a 8 c λf=>ET 62 d f c (λc g=>Gi prog Bf ro 60 55 (.rangeFunc (.tmp 42) #[43,44] (rfA prog 60 0) (zn prog 60 0)) (Env.of a (HY 42 c 41 f 40 d)) b g (CX 0 K)) λc g=>CJ K c a (Fu 41 f 40 d) b g) K
def wu:=by
 have h:=@dn.eq_1;dsimp at h;exact h
def AG_(v0 v1 v2 v3 v4 v5 v6:Value)(K:AB)(W:CW):=by
 have h:HM 60 55 [v0,v1,v2,v3,v4,v5,v6] W K=CQ 83 v1 (Fx W) λa=>CQ 24 v2 (Fx W) λb=>Lh v0 1 λc=>Gq 24 b c λd=>CQ 56 d (Fx W) λf=>ET 53 a f (Fx W) (λg h=>(true=true)∧Bj 56 (.pointer (some ⟨CW.sz W,0,none⟩)) g h λi=>GS ((NM 56 d (Fx W) f)∧H7 24 v2 (Fx W) b 83 v1 (Fx W) a) (Ik (GS True (RQ (some ⟨CW.sz W,0,none⟩) (RT (Fx W) W) h=true) (RQ (some ⟨CW.sz W,0,none⟩) (RT (Fx W) W) (Fx W)=true))) (CQ 88 v3 i λh=>DV h λj=>BA 97 j λk=>CQ 51 v4 i λl=>BA 56 (.pointer (some ⟨CW.sz W,0,none⟩)) λm=>As m i λn=>ET 61 l n i (λo p=>ET 55 k o p (λq r=>GC ((NM 9 m i n)∧gO 51 v4 i l (Jx True 88 v3 p h 88 v3 i h)) (BA 78 v5 λi=>CQ 75 i r λp=>BA 56 (.pointer (some ⟨CW.sz W,0,none⟩)) λs=>As s r λt=>EW 75 p t false r λu=>wV (fld prog 48 u 3) λv=>HK .neq 5 v .u8 0 λw=>let a:=DB 32 w 31 v 30 u (A_ 29 t 28 s 27 p 26 i (A_ 25 q 24 o 23 n 22 m (A_ 21 l 20 k 19 j 18 h (A_ 8 (.pointer (some ⟨CW.sz W,0,none⟩)) 17 g 16 f 15 d (BK 14 c 13 v0 12 b 11 a)))));Dm w (CQ 88 v3 r λb=>DV b λc=>BA 97 c λd=>C0 56 (.pointer (some ⟨CW.sz W,0,none⟩)) λf=>C9 f r λg=>Fw g r λh=>ET 55 d h r (λi j=>HA ((GG (Es 40 g r h))∧XL 40 f r g 88 v3 b) (dn none K) (Env.args [v0,v1,v2,v3,v4,v5,v6]) (DB 39 i 38 h 37 g (A_ 36 f 35 d 34 c 33 b a)) [] j) λ_ _=>False) (dn none K) (Env.args [v0,v1,v2,v3,v4,v5,v6]) a [] r)) λ_ _=>False) λ_ _=>False)) λ_ _=>False:=by kernel_rfl
 dsimp at h;exact h
theorem ADU(ro:Option Nat)(e:Env)(ds:List Deferred)(K:AB)(W:CW):D8 prog Bf ro 60 55 (rfA prog 60 0) e ds W K=(K .normal (Env.of e [(10,(e 44)),(9,(e 43))]) ds W):=by kernel_rfl
def ADV(ro:Option Nat)(e:Env)(ds:List Deferred)(K:AB)(W:CW):=by
 have h:qZ ro 60 55 (zn prog 60 0) e ds W K=Gr 108 (Et e) e 10 λa=>CQ 107 a W λb=>DG 88 e 3 W λc=>D9 56 e 8 λd=>C9 d W λf=>Gr 40 f e 9 λg=>FT g W λh=>Dt prog Bf b [c,h] W (λi j=>HA (GS (MU 3 g W h) (MU 40 d W f) (XL 88 (Di e) W c 107 a b)) K e (F2 54 i 53 h (A_ 52 g 51 (DP e) 50 f 49 d (BK 48 c 47 b 46 a 45 (DW e)))) ds j) λ_ _=>False:=by kernel_rfl
 dsimp at h;exact h
def AHA{Q v0 v1 v2 v3 v4 v5 v6 W}:=F1 60 55 [v0,v1,v2,v3,v4,v5,v6] Tryz.f60 Q W Tryz.func60 (by kernel_rfl)
def mN(ro:Option Nat)(K:AB):AB:=Ab (λe ds W=>K .ret (Env.of e [(4,(.int .i64 (-1)))]) ds W) K
def AHB(v0 v1:Value)(K:AB)(W:CW):=by
 have h:Er 61 19 v0 v1 W K=Dl 51 v0 W λa=>EB 61 19 [v0,v1] (BK 8 Be 7 a 6 v0 4 Be) W (mN none K):=by kernel_rfl
 dsimp at h;exact h
def mO(ro:Option Nat)(K:AB):AB:=Ab (λa b c=>B_ a 8 λd=>Gt K a 8 d 18 b c) K
def iK:=by
 have h:=@mO.eq_1;dsimp at h;exact h
def ADW(ro:Option Nat)(e:Env)(ds:List Deferred)(K:AB)(W:CW):=by
 have h:Dd ro 61 19 e ds W K=FU e 8 7 λa=>Gs a (DH e 8 λb=>As b W λc=>H9 .eql 9 e 1 c λd=>let a:=eC 16 d (Bz 15 c 14 b 13 e 8 12 (E_ 11 (BN e) 5 (CY e) 10 e 8 9 a));Dm d (Gj (mO ro K) e (F2 4 (CY e) 17 (CY e) a) ds W) (mO ro K) e a ds W) K 0 e 9 a ds W:=by kernel_rfl
 dsimp at h;exact h
theorem a_(Q:Ending→CW→Prop)(e:Env)(W:CW):AQ prog Tryz.f61 Q .ret e [] W=Q (.returned (e 4)) W:=by kernel_rfl
def AHC{Q v0 v1 W}:=F1 61 19 [v0,v1] Tryz.f61 Q W Tryz.func61 (by kernel_rfl)
def ADX(v0 v1:Value)(K:AB)(W:CW):=by
 have h:Er 106 19 v0 v1 W K=ED .lss v1 0 λa=>wI a (DV v0 λb=>BA 97 b λc=>ZU .mul 3 true (TN (-2)) v1 λd=>Lh d 1 λf=>let a:=A_ 11 f 10 d 9 v1 8 c (BK 7 b 6 v0 5 a 4 v1);ET 55 c f W (λb c=>GU K (M9 v0 v1) 12 b a [] c) λb c=>HX K b v0 v1 a c) (DV v0 λb=>BA 97 b λc=>ZU .mul 3 true (TN 2) v1 λd=>let a:=DB 17 d 16 v1 15 c (BK 14 b 13 v0 5 a 4 v1);ET 55 c d W (λb c=>GU K (M9 v0 v1) 18 b a [] c) λb c=>HX K b v0 v1 a c):=by kernel_rfl
 dsimp at h;exact h
def ADY{Q v0 v1 W}:=F1 106 19 [v0,v1] Tryz.f106 Q W Tryz.func106 (by kernel_rfl)
def ADZ(v0 v1:Value)(K:AB)(W:CW):=by
 have h:Er 107 17 v0 v1 W K=DV v0 λa=>BA 97 a λb=>DV v0 λc=>C0 97 c λd=>CQ 89 d W λf=>DV f λg=>C0 100 g λh=>CQ 98 h W λi=>EW 98 i v1 false W λj=>ET 55 b j W (λk l=>HW ((GG (Sq prog 98 i v1 false W=some j))∧XL 98 h W i 89 d f) K (M9 v0 v1) 16 k (A_ 15 j 14 v1 13 i 12 h (A_ 11 g 10 f 9 d 8 c (BK 7 v0 6 b 5 a 4 v0))) [] l) λ_ _=>False:=by kernel_rfl
 dsimp at h;exact h
def ADa{Q v0 v1 W}:=F1 107 17 [v0,v1] Tryz.f107 Q W Tryz.func107 (by kernel_rfl)
def wx(n:Int):Value:=.int .i64 n
theorem oh(a b:Int):O1 (.int .i64) (wx a) (wx b)=some (decide (a=b)):=by
 show(if IntKind.i64=IntKind.i64 then some (a==b)else none)=_;rw[aad rfl];rfl
theorem u98:prog.underlying 98=some (.map 3 3):=by kernel_rfl
theorem u3:prog.underlying 3=some (.int .i64):=by kernel_rfl
theorem a98:agg? prog 98=some false:=by kernel_rfl
theorem R9(a:Addr):RL prog 100 (.pointer (some a)) 0=some (.pointer (some ⟨a.block,a.off,none⟩)):=by kernel_rfl
theorem X6(a:Addr):RL prog 100 (.pointer (some a)) 1=some (.pointer (some ⟨a.block,a.off+1,none⟩)):=by kernel_rfl
theorem C4(a:Addr):nck (.pointer (some a))=some (.pointer (some a)):=rfl
def j5(W:CW)(r:Nat)(o:List Int):Prop:=∃m:List (Int×Value),Ge wx W r m∧∀n,Me m n=if n∈o then some (.int .i64 (placeOf o n))else none
theorem j5.lt{W:CW}(ht:Ag W){r:Nat}{o:List Int}(h:j5 W r o):r<W.sz:=by
 obtain⟨m,h1,_⟩:=h;exact h1.lt ht
theorem j5.congr{W W':CW}{r:Nat}{o:List Int}(h:j5 W r o)(ho:W'.obj r=W.obj r):j5 W' r o:=by
 obtain⟨m,h1,h2⟩:=h;exact⟨m,h1.congr ho,h2⟩
theorem j5.look{W:CW}{r:Nat}{o:List Int}(h:j5 W r o)(n:Int):Sq prog 98 (.map (some r)) (.int .i64 n) false W=some (.int .i64 (placeOf o n)):=by
 obtain⟨m,h1,h2⟩:=h;have:=Mf u98 u3 rfl z3 oh h1 n false;rw[h2]at this
 by_cases hm:n∈o
 ·rw[aad hm]at this;exact this
 ·rw[aac hm]at this;rw[Jc hm];exact this
theorem j5.put{W:CW}{r:Nat}{o:List Int}{n:Int}(h:j5 W r o)(hn:n∉o){K:CW→Prop}(hK:∀W1,Dn r W W1→j5 W1 r (o++[n])→K W1):wV (jt prog 98 (.map (some r)) (.int .i64 n) (.int .i64 ((o.length+1:Nat):Int)) W) K:=by
 obtain⟨m,h1,h2⟩:=h;refine gh (enc:=wx) (s:=n) u98 u3 rfl oh h1 λW1 hu hm=>hK W1 hu ⟨_,hm,λu=>?_⟩;rw[Jn,h2,Ux hn]
 by_cases e:u=n
 ·rw[aad e,aad e,aad (by rw[e];simp)];rfl
 ·rw[aac e,aac e]
  by_cases hu:u∈o
  ·rw[aad hu,aad (ab6 _ hu)]
  ·rw[aac hu,aac (by simp[hu,e])]
theorem j5.ne{W:CW}{r b:Nat}{el:TypeId}{vs:List Value}{o:List Int}(h:j5 W r o)(hB:Aq W b el vs):b≠r:=by
 rintro rfl;obtain⟨m,⟨es,Ez,h1,_⟩,_⟩:=h;obtain⟨c,n,z,h2,_⟩:=hB;rw[h1]at h2;cases h2
structure T8(W:CW)(bw rp:Nat)(vo:Value)(o:List Int):Prop where
 w:Aq W bw 100 [vo,.map (some rp)]
 own:C' W 3 1 vo (DO o)
 p:j5 W rp o
def WkS(bw rp:Nat)(vo:Value)(j:Nat):Prop:=j=bw∨j=rp∨Bh vo j
def iL(bw rp:Nat)(vo:Value)(o:List Int)(W:CW):Ending→CW→Prop:=λe W'=>(∃v,e=.returned v)∧Bm (WkS bw rp vo) W W'∧Ag W'∧∃tU,T8 W' bw rp tU o∧∀j,Bh tU j→Bh vo j∨W.sz≤j
theorem iM{bw rp:Nat}{vo:Value}{o:List Int}{n:Int}{W:CW}(ht:Ag W)(hw:T8 W bw rp vo o)(hn:0≤n)(kT:o.length<100000) :
  AX prog Bf 105 [.pointer (some ⟨bw,0,none⟩),.int .i64 n] W (iL bw rp vo (visit o n) W):=by
 refine ACz ?_;rw[ACy];have q0:ld prog 40 (.pointer (some ⟨bw,0,none⟩)) W=some vo:=AD Uv (a:=⟨bw,0,none⟩) (hw.w.cell rfl);have q1:ld prog 98 (.pointer (some ⟨bw,0+1,none⟩)) W=some (.map (some rp)):=AD a98 (a:=⟨bw,0+1,none⟩) (hw.w.cell rfl)
 have leaf:∀(b:Bool) (e:Env),e 14=.bool b→e 0=.pointer (some ⟨bw,0,none⟩)→e 1=.int .i64 n→(b=true→visit o n=o)→(b=false→0<n∧n∉o)→(Vx none (AQ prog Tryz.f105 (iL bw rp vo (visit o n) W))) .normal e [] W:=by
  intro b e yz h0 h1 rE hbf;simp only[Vx,BI,yz]
  refine AH (λhb=>?_) (λhb=>?_)
  ·simp only[aX,NP];rw[rE hb,l6];exact⟨⟨_,rfl⟩,.refl _ _,ht,vo,hw,λj hj=>.inl hj⟩
  ·obtain⟨PW,AAK⟩:=hbf hb;have hv:visit o n=o++[n]:=by unfold visit;rw[aad ⟨PW,AAK⟩]
   rw[hv];simp only[aX,BI,h0,h1,C4,R9,X6,AA,q0];refine vW KB s3 z3 rfl (by omega) by3 (by omega) (vX _) rfl rfl ht hw.own (by rw[Lu];omega) λu v1 W1 Lz t1 o1 n1=>?_;rw[←gu]at o1;have Dg:=aM hw.own hw.w (by decide);have Eg:=Lz.IA ht hw.w Dg;refine Ac (vs:=[vo,.map (some rp)]) s40 (a:=⟨bw,0,none⟩) (Ml o1) Eg (by simp) λW2 hu Fq=>?_;have hu:Dn bw W1 W2:=hu;have Fq:Aq W2 bw 100 [v1,.map (some rp)]:=Fq;have ADb:=Eg.lt t1;have t2:Ag W2:=t1.A6 ADb hu;have NV:BZ W.sz v1:=n1 _ (aaf _);have hbw:=hw.w.lt ht;have o2:C' W2 3 1 v1 (DO (o++[n])):=Mk o1 hu λb l c e=>by have:=NV b l c e;omega
   have j3:=hw.p.lt ht;have AJZ:rp≠bw:=λe=>hw.p.ne hw.w e.symm
   have AJa:∀b l c,vo=.slice (some b) l c→rp≠b.block:=λb l c e hb=>by
    have ho:=hw.own;rw[e]at ho
    cases ho with
    |some hB hl=>exact hw.p.ne hB hb.symm
   have R':j5 W1 rp o:=hw.p.congr (Lz.obj rp j3 AJa);have hp2:j5 W2 rp o:=R'.congr (hu.obj rp AJZ);have PG:(DO (o++[n])).length=(o.length+1)*1:=by rw[Lu];simp
   have c1:ld prog 98 (.pointer (some ⟨bw,0+1,none⟩)) W2=some (.map (some rp)):=AD a98 (a:=⟨bw,0+1,none⟩) (Fq.cell rfl);have c2:ld prog 40 (.pointer (some ⟨bw,0,none⟩)) W2=some v1:=AD Uv (a:=⟨bw,0,none⟩) (Fq.cell rfl);have c3:Kw prog 40 v1 W2=some (.int .i64 ((o.length+1:Nat):Int)):=JG KB o2 (by omega) PG;simp only[c1,c2,c3,AA];refine hp2.put AAK λW3 Og hp3=>?_;have AJb:=hp2.lt t2;have t3:=t2.A6 AJb Og;refine⟨by simp only[and_self],trivial,?_⟩
   have hlv:∀(e:Env) (W:CW) (Q:Ending→CW→Prop),Q (.returned (.tuple #[])) W→AQ prog Tryz.f105 Q .normal e [] W:=λe W Q h=>by
    have hr:Tryz.f105.results.toList=[]:=by kernel_rfl
    simp only[AQ,CI,hr,Jt];exact h
   refine hlv _ _ _ ⟨⟨_,rfl⟩,?_,t3,v1,⟨Fq.congr (Og.obj _ (hp2.ne Fq)),Mk o2 Og λb l c e hb=>?_,hp3⟩,λj hj=>.inr (NV.in hj)⟩
   ·exact⟨by rw[Og.sz,hu.sz];exact Lz.sz,λj hj hS=>by
     rw[Og.obj j λe=>hS (.inr (.inl e)),hu.obj j λe=>hS (.inl e)]
     exact Lz.D4.obj j hj λh=>hS (.inr (.inr h))⟩
   ·have:=NV b l c e;omega
 simp only[BJ,AA]
 refine AH (λh0=>?_) (λh0=>?_)
 ·have h0:n=0:=by simpa using h0
  exact leaf true _ rfl rfl rfl (λ_=>by unfold visit;rw[aac (by omega)]) (λh=>by cases h)
 ·have h0:n≠0:=by simpa using h0
  simp only[C4,X6,AA,q1,hw.p.look,Bt]
  refine leaf _ _ rfl rfl rfl (λh=>?_) (λh=>?_)
  ·have h:=of_decide_eq_true h;unfold visit;rw[aac (λhh=>by rw[Jc hh.2]at h;omega)]
  ·have h:=of_decide_eq_false h;exact⟨by omega,λhm=>h (gp hm)⟩
theorem z40:Hr prog 40=some (.slice none 0 0):=by kernel_rfl
def X7(l:List Int)(W:CW):Ending→CW→Prop:=λe W'=>Kp W W'∧Ag W'∧∃vr,e=.returned vr∧C' W' 3 1 vr (DO l)∧BZ W.sz vr
theorem QL(c:List AV)(i:Nat)(vs:List Int):∀k,(Eu c i vs k).length≤k
 |0=>by simp[Eu]
 | k+1=>by
  have h:=QL c i vs k
  have h2:(if A0 c i k=2 then(vs[k]?).toList else[]).length≤1:=by
   split
   ·cases vs[k]? <;>simp
   ·simp
  rw[Eu,aah];omega
theorem AAR{c:List AV}{r1 r2 i:Nat}{y:BC}{vx:Value}{W:CW}(ht:Ag W)(Gk:FB W r1 r2 c)(hi:Ah c y.type=some i)(Oz:elemAt c i=0→y.AL.length≤(Al c i).length)(T6:At 1 (Eh W) vx y.AL)(hv:y.AL.length<100000) :
  AX prog Bf 52 [KH r1 r2,.agg #[.string y.type,vx]] W (X7 (refsOf c y) W):=by
 refine AGM ?_;rw[AGL];unfold KH;obtain⟨ax,cx,rfl,_⟩:=id T6;refine Fy U1 ht λW0 k0 t0 z0 Ey=>?_;have Ey:Aq W0 W.sz 78 [.map (some r1),.map (some r2)]:=Ey;refine Fy LD t0 λW1 k1 t1 z1 Fk=>?_;have Fk:Aq W1 W0.sz 56 [.string y.type,.slice ax y.AL.length cx]:=Fk;refine H' z40 s40 t1 λW2 k2 t2 z2 NR=>?_;have NR:Aq W2 W1.sz 40 [.slice none 0 0]:=NR;have AJc:=Ey.ext t0 (k1.trans k2);have AAS:=Fk.ext t1 k2;have k02:=(k0.trans k1).trans k2;have AJd:W.sz≤W1.sz:=(k0.trans k1).sz;have ADc:W0.sz≠W1.sz:=by omega
 rw[Bn (vs:=[.map (some r1),.map (some r2)]) a78 U1 rfl (by omega) AJc.cells,Bn (vs:=[.string y.type,.slice ax y.AL.length cx]) gY LD rfl (by omega) AAS.cells];simp only[AA];generalize rJ:W0.sz=b3 at AAS Fk ADc;generalize hb5:W1.sz=b5 at NR AJd ADc;refine(R7 (r1:=r1) (r2:=r2) (ty:=y.type) t2).mono λen W4 ⟨k4,t4,bk,bx,FN,qD,hbx,tR,tS⟩=>?_;subst FN;simp only[BO];have rN:=k02.trans k4;have a8:=Gk.kp ht rN;have hv4:At 1 (Eh W4) (.slice ax y.AL.length cx) y.AL:=T6.imp λ_ _ _ hr=>hr.kp ht rN;have AJe:=NR.ext t2 k4;have AJf:=AAS.ext t2 k4;have ALW:=NR.lt t2;have ALX:=AAS.lt t2;have ALY:=k4.sz;have hKs:∀W',Bm (·=b5) W4 W'→∀b k v,b≠b5→W4.cell b k=some v→W'.cell b k=some v:=λW' h b k v hb hc=>h.cell t4 hb hc
 have hKd:∀W',Bm (·=b5) W4 W'→rF W' bk bx r1 r2 c y.type y.AL.length:=λW' h=>by
  have h78:bk≠b5:=by omega
  have h56:bx≠b5:=by omega
  refine⟨hKs W' h _ _ _ h78 (tR.cell rfl),hKs W' h _ _ _ h78 (tR.cell rfl),?_,hKs W' h _ _ _ h56 (tS.cell rfl),_,_,hKs W' h _ _ _ h56 (tS.cell rfl)⟩;have hcW:=Gk;exact Gk.kp ht (Bm.kp rN h λj hj=>by omega)
 have Wz:∀(W':CW) (vo:Value) (e:Env),Bm (·=b5) W4 W'→Ag W'→W'.obj W4.sz=some .deferred→W4.sz<W'.sz→Aq W' b5 40 [vo]→C' W' 3 1 vo (DO (refsOf c y))→(∀j,Bh vo j→W4.sz+2≤j)→e 4=vo→
   AQ prog Tryz.f52 (X7 (refsOf c y) W) .ret e [mark W4.sz] W':=by
  intro W' vo e Ic t' hd hl hB ho hn h4;refine J9 hd ?_;have hu:Dn W4.sz W' (W'.A6 W4.sz .dead):=Dn.of _ _ _;rw[q',h4];have hW4:=rN.sz;exact⟨(Bm.kp rN Ic λj hj=>by omega).A6 hW4 hu,t'.A6 hl hu,vo,rfl,Mk ho hu λb l c e he=>by have:=hn b.block ⟨b,l,c,e,rfl⟩;omega,λb l c e=>by have:=hn b.block ⟨b,l,c,e,rfl⟩;omega⟩
 refine dj (bk:=bk) (bx:=bx) (r1:=r1) (r2:=r2) (n:=y.AL.length) (ix:=i) (c:=c) (ty:=y.type) (a1:=6) (a2:=7) t4 rfl hi hv Oz (λro e0 ds K W=>by rw[ACw]) (by decide)
  (λj W'=>Bm (·=b5) W4 W'∧Ag W'∧W'.obj W4.sz=some .deferred∧W4.sz+1<W'.sz∧∃vo,Aq W' b5 40 [vo]∧C' W' 3 1 vo (DO (Eu c i y.AL j))∧∀m,Bh vo m→W4.sz+2≤m)
  (λ_ _=>False) (λj W' h=>hKd W' h.1) (λj W1 W2 ⟨h1,h2,h3,h4,vo,h5,h6,h7⟩ hu hc=>?_) (λ_ _ _ h _ _=>h.elim) (λW3 k3 t3 z3 hd=>⟨Bm.Io k3,t3,hd,by omega,_,AJe.ext t4 k3,C'.nil,λm hm=>by obtain⟨b,l,c,e,_⟩:=hm;cases e⟩)
  (λj W1 Kb E hE hE1 hE2 hj ⟨Ic,tG,hd,hl,vo,wy,hov,yo⟩ M_ hn _ _=>?_) (λW' ⟨h1,h2,h3,h4,vo,h5,h6,h7⟩=>?_) (λ_ _ h=>h.elim)
 ·exact⟨h1.then hu.D4 λi hi he=>by omega,h2.A6 h4 hu,by rw[hu.obj _ (by omega)];exact h3,by rw[hu.sz];exact h4,vo,h5.congr (hu.obj _ (by omega)),Mk h6 hu λb l c e he=>by have:=h7 b.block ⟨b,l,c,e,rfl⟩;omega,h7⟩
 ·have ez:=ck hj;have g3:E 3=.pointer (some ⟨b3,0,none⟩):=(hE 3 (by decide) (by decide) (by decide) (by decide)).trans rfl;have g5:E 5=.pointer (some ⟨b5,0,none⟩):=(hE 5 (by decide) (by decide) (by decide) (by decide)).trans rfl;have Z1:Eu c i y.AL (j+1)=Eu c i y.AL j++(if A0 c i j=2 then[y.AL[j]]else[]):=gv ez;rw[ACx,g3,g5,hE1,hE2];simp only[BJ,AA]
  refine AH (λhk=>?_) (λhk=>?_)
  ·have hk:A0 c i j=2:=by simpa using hk
   have cV:At 1 (Eh W1) (.slice ax y.AL.length cx) y.AL:=by
    have:=T6.imp (S:=λb o x=>Eh W1 b o x) λ_ _ _ hr=>hr.kp ht (Bm.kp rN Ic λj hj=>by omega);exact this
   obtain⟨_,_,e3,hvc⟩:=cV
   cases e3
   obtain⟨q,rfl,hq⟩:=hvc j _ ez;have l5:∀W7,Kp W1 W7→ld prog 40 (.pointer (some ⟨b5,0,none⟩)) W7=some vo:=λW7 k7=>AD Uv (a:=⟨b5,0,none⟩) (k7.cell tG (wy.cell rfl));have l3:ld prog 40 (.pointer (some ⟨b3,0+1,none⟩)) W1=some (.slice (some q) y.AL.length cx):=AD Uv (a:=⟨b3,0+1,none⟩) (hKs W1 Ic _ _ _ ADc (AJf.cell rfl));simp only[l5 W1 (.refl _),FJ,AA,l3];rw[Ay KB s3 hj];simp only[AA];rw[AD a3 (a:=⟨q.block,q.off+j*1,none⟩) hq.1];simp only[AA];have Z7:=QL c i y.AL j;refine Mj KB s3 z3 rfl (by omega) by3 (by omega) (vX _) rfl rfl tG hov (by rw[Lu];omega) λu Wa v1 W7 ka ta Lz t7 o7 n7=>?_;rw[←gu]at o7;have Dg:=aM hov wy (by decide);have hB7:=Lz.IA tG wy Dg;refine Ac (vs:=[vo]) s40 (a:=⟨b5,0,none⟩) (Ml o7) hB7 (by simp) λW8 hu Sr=>?_;have hu:Dn b5 W7 W8:=hu;have wF:=Lz.sz;have hn7:BZ W1.sz v1:=n7 _ (aaf _);refine⟨by simp only[l5 Wa ka,and_self],trivial,?_⟩
   refine hn _ _ W8 ?_ ⟨(Ic.then Lz.D4 λm hm hi=>by have:=yo m hi;omega).then hu.D4 λm hm hi=>hi,t7.A6 (by omega) hu,?_,by rw[hu.sz];omega,v1,Sr,?_,λm hm=>by have:=hn7.in hm;omega⟩
   ·rw[hu.obj _ (by omega)];exact Lz.obj _ (by omega) λb l c e hb=>by have:=yo b.block ⟨b,l,c,e,rfl⟩;omega
   ·rw[hu.obj _ (by omega)];rw[Lz.obj _ (by omega) λb l c e hb=>by have:=yo b.block ⟨b,l,c,e,rfl⟩;omega];exact hd
   ·rw[Z1,aad hk];exact Mk o7 hu λb l c e=>by have:=hn7 b l c e;omega
  ·have hk:¬A0 c i j=2:=by simpa using hk
   refine hn _ _ W1 rfl ⟨Ic,tG,hd,hl,vo,wy,?_,yo⟩;rw[Z1,aac hk,aaR];exact hov
 ·simp only[BI,zw,ly];simp only[AG,Nat.reduceEqDiff,↓reduceIte];rw[AD Uv (a:=⟨b5,0,none⟩) (h5.cell rfl)];simp only[AA];have hro:refsOf c y=Eu c i y.AL y.AL.length:=by unfold refsOf;rw[hi]
  exact Wz W' vo _ h1 h2 h3 (by omega) h5 (by rw[hro];exact h6) h7 rfl
theorem iN:Tryz.f53.results.toList=[.cell 4 56]:=by kernel_rfl
theorem wz{e e1:Env}{A W:CW}{K:AB}{vm vx:Value}{b3 b7:Nat}{s:Bq}{x:BC}(hA:Ag A)(ht:Ag W)(hk:Kp A W)(j_:At 1 (Eh A) vm s.map)(he:DR [3,4,7,25,26] e e1)(h27:e1 27=.int .i64 0)(h25:e 25=vm)(h26:e 26=.int .i64 s.map.length)(h3:e 3=.pointer (some ⟨b3,0,none⟩))(h7:e 7=.pointer (some ⟨b7,0,none⟩))(rJ:A.cell b3 1=some vx)(T6:At 1 (Eh A) vx x.AL)(hb7:A.sz≤b7)(hB:Aq W b7 56 [.string s.to,.slice none 0 0])
  (hm:∀m,m∈s.map→0≤m∧m.toNat<x.AL.length) (hlen:s.map.length<100000)
  (hex:∀e' W' vo,Kp A W'→Ag W'→BZ A.sz vo→Aq W' b7 56 [.string s.to,vo]→C' W' 3 1 vo (DO (s.map.map (Ls x)))→DR [3,4,7] e e'→K (.exit 0) e' [] W') :
  Gi prog Bf none 53 43 (.loop (GB prog 53 0)) e1 [] W K:=by
 refine EZ (λm e' FG W'=>FG=[]∧Kp A W'∧Ag W'∧DR [3,4,7,25,26] e e'∧e' 27=.int .i64 m∧∃vo,Aq W' b7 56 [.string s.to,vo]∧C' W' 3 1 vo (DO ((s.map.take m).map (Ls x)))∧BZ A.sz vo) s.map.length ⟨rfl,hk,ht,he,h27,_,hB,C'.nil,BZ.nil _ _ _⟩ ?_;rintro m e' FG W' hm' ⟨rfl,k',t',R5,g27,vo,mP,ho,Wm⟩;have AJg:At 1 (Eh W') vm s.map:=j_.imp λ_ _ _ hr=>hr.kp hA k';have AJh:At 1 (Eh W') vx x.AL:=T6.imp λ_ _ _ hr=>hr.kp hA k';obtain⟨am,ALZ,rfl,hmc⟩:=AJg;obtain⟨ax,AHD,rfl,hxc⟩:=AJh;have g3:=(R5 3 (by decide)).trans h3;have g7:=(R5 7 (by decide)).trans h7;rw[ADQ,g27,g3,g7,(R5 25 (by decide)).trans h25,(R5 26 (by decide)).trans h26];simp only[Af,AA]
 refine Hx (λAo=>?_) (λJi=>?_)
 ·have hx:=ck Ao;obtain⟨q,rfl,hq⟩:=hmc m _ hx;obtain⟨nb,O3⟩:=hm _ (aaG Ao);have ym:=ck O3;obtain⟨qx,rfl,hqx⟩:=hxc _ _ ym;have q6:∀W7,Kp W' W7→ld prog 40 (.pointer (some ⟨b7,0+1,none⟩)) W7=some vo:=λW7 k7=>AD Uv (a:=⟨b7,0+1,none⟩) (k7.cell t' (mP.cell rfl));have q3:ld prog 40 (.pointer (some ⟨b3,0+1,none⟩)) W'=some (.slice (some qx) x.AL.length AHD):=AD Uv (a:=⟨b3,0+1,none⟩) (k'.cell hA rJ)
  have ex:lD prog 40 (.slice (some qx) x.AL.length AHD) (.int .i64 s.map[m])=some (.pointer (some ⟨qx.block,qx.off+s.map[m].toNat*1,none⟩)):=by
   have e1:(Value.int IntKind.i64 s.map[m])=.int .i64 ((s.map[m].toNat:Nat):Int):=by rw[Int.toNat_of_nonneg nb]
   rw[e1];exact Ay KB s3 O3
  have q1:ld prog 3 (.pointer (some ⟨q.block,q.off+m*1,none⟩)) W'=some (.int .i64 s.map[m]):=AD a3 (a:=⟨q.block,q.off+m*1,none⟩) hq.1;have q2:ld prog 3 (.pointer (some ⟨qx.block,qx.off+s.map[m].toNat*1,none⟩)) W'=some (.int .i64 x.AL[s.map[m].toNat]):=AD a3 (a:=⟨qx.block,qx.off+s.map[m].toNat*1,none⟩) hqx.1;rw[Ay KB s3 Ao];simp only[FJ,AA,q6 W' (.refl _),q3,q1,ex,q2];have NS:(DO ((s.map.take m).map (Ls x))).length<900000:=by rw[Lu,aau,aaI];omega
  refine Mj KB s3 z3 rfl (by omega) by3 (by omega) (vX _) rfl rfl t' ho NS λu Wa v1 W1 ka ta Lz t1 o1 n1=>?_;have Dg:=aM ho mP (by decide);have P_:=Lz.IA t' mP Dg;have NV:BZ W'.sz v1:=n1 _ (aaf _);refine Ac (vs:=[.string s.to,vo]) s40 (a:=⟨b7,0+1,none⟩) (Ml o1) P_ (by simp) λW2 hu Ey=>?_;have ALa:b7<W'.sz:=mP.lt t';have hu:Dn b7 W1 W2:=hu;have k1:Kp A W1:=Lz.kp k' Wm;have k2:Kp A W2:=k1.A6 hb7 hu;have t2:Ag W2:=t1.A6 (by have:=Lz.sz;omega) hu;refine⟨by simp only[q6 Wa ka,and_self],trivial,?_⟩;simp only[rR,BI,IW];simp only[AG,AN,Nat.reduceEqDiff,↓reduceIte,g27,AO,AA]
  refine⟨Ao,trivial,k2,t2,(R5.trans (.put rfl)).trans (.put rfl),by rw[Dy (by omega)],v1,Ey,?_,λb l c e=>?_⟩
  ·have:DO ((s.map.take (m+1)).map (Ls x))=DO ((s.map.take m).map (Ls x))++[.int .i64 x.AL[s.map[m].toNat]]:=by
    rw[aaX,hx];simp only[abw,aa5,abr,List.map_nil,DO,Ls,ym,aK]
   rw[this];exact Mk o1 hu λb l c e=>by have:=NV b l c e;omega
  ·have:=NV b l c e;have:=k'.sz;omega
 ·simp only[QV];have:s.map.take m=s.map:=aaS (by omega);rw[this]at ho;exact hex _ W' vo k' t' Wm mP ho (λt ht=>(DR.put rfl t (by exact ht)).trans (R5 t (by revert t;decide)))
theorem w4{w r:Nat}{vx:Value}{l:List Bq}{x:BC}{W:CW}(ht:Ag W)(hw:PM Bq.type W w l)(T6:At 1 (Eh W) vx x.AL)(hm:∀s,Ip l x.type=some s→∀m,m∈s.map→0≤m∧m.toNat<x.AL.length)(Jb:∀s,s∈l→s.map.length<100000) :
  AX prog Bf 53 [.agg #[.map (some w),.map (some r)],.agg #[.string x.type,vx]] W (vi vx (AM l x) W):=by
 refine AGy ?_;rw[AGx];obtain⟨ax,cx,rfl,_⟩:=id T6;refine Fy wR ht λW0 k0 t0 z0 Ey=>?_;have Ey:Aq W0 W.sz 83 [.map (some w),.map (some r)]:=Ey;refine Fy LD t0 λW1 k1 t1 z1 Fk=>?_;have Fk:Aq W1 W0.sz 56 [.string x.type,.slice ax x.AL.length cx]:=Fk;refine H' z56 LD t1 λA kA tA zA L4=>?_;have L4:Aq A W1.sz 56 [.string ⟨#[]⟩,.slice none 0 0]:=L4;have k:=(k0.trans k1).trans kA;have Fk:=Fk.ext t1 kA;have wU:W.sz≤W1.sz:=(k0.trans k1).sz;have hwA:=hw.kp ht k;have hvA:At 1 (Eh A) (.slice ax x.AL.length cx) x.AL:=T6.imp λ_ _ _ hr=>hr.kp ht k;have q3:∀W7,Kp A W7→ld prog 9 (.pointer (some ⟨W0.sz,0,none⟩)) W7=some (.string x.type):=λW7 k7=>AD a9 (a:=⟨W0.sz,0,none⟩) (k7.cell tA (Fk.cell rfl));simp only[V3,G6,AA];rw[AD a81 (a:=⟨W.sz,0,none⟩) ((Ey.ext t0 (k1.trans kA)).cell rfl)];simp only[AA,q3 A (.refl _)];generalize Hm:AQ prog Tryz.f53 (vi (.slice ax x.AL.length cx) (AM l x) W)=K
 have Ei:∀ZA vv,Kp A ZA→Ag ZA→BG vv=true→(vv=.slice ax x.AL.length cx∨BZ W.sz vv)→(∀W2,Dn W1.sz ZA W2→At 1 (Eh W2) vv (AM l x).AL)→∀{K':CW→Prop},(∀W2,(∀e',e' 4=.pointer (some ⟨W1.sz,0,none⟩)→K .ret e' [] W2)→K' W2)→
   wV (NK prog 56 (.pointer (some ⟨W1.sz,0,none⟩)) (.agg [.string (AM l x).type,vv].toArray) ZA) K':=by
  intro ZA vv zN tG Nb VY ZD K' hK';have hB:=L4.ext tA zN;refine Fg LD (a:=⟨W1.sz,0,none⟩) (by simp only[abp,List.all_nil,Nb,abT];rfl) rfl hB (by simp) λW2 hu Ey=>hK' W2 λe' h4'=>?_;have hu:Dn W1.sz ZA W2:=hu;rw[←Hm];have Ey:Aq W2 W1.sz 56 [.string (AM l x).type,vv]:=Ey;refine Mm iN (p:=⟨W1.sz,0,none⟩) h4' (Bn (vs:=[.string (AM l x).type,vv]) gY LD rfl (by omega) Ey.cells) ?_;have dS:=hB.lt tG;exact⟨(k.trans zN).A6 wU hu,tG.A6 dS hu,vv,rfl,ZD W2 hu,VY⟩
 cases I9:Ip l x.type with
 |none=>
  have Nn:AM l x=x:=by unfold AM;rw[I9]
  rw[hwA.none I9];simp only[AA,BV,BW];unfold AAJ;refine DM (ws:=[.string ⟨#[]⟩,.string ⟨#[]⟩,.slice none 0 0]) tP jy rfl rfl rfl tA λW4 k4 t4 z4 NR=>?_;simp only[AW,AA,aaY,BB];rw[Bn (vs:=[.string x.type,.slice ax x.AL.length cx]) gY LD rfl (by omega) (Fk.ext tA k4).cells];simp only[AA];have Tu:x.type=(AM l x).type:=by rw[Nn]
  rw[Tu];refine Ei W4 _ k4 t4 rfl (.inl rfl) (λW3 hu=>?_) λW3 hr=>hr _ rfl;rw[Nn];exact T6.imp λ_ _ _ hr=>hr.kp ht ((k.trans k4).A6 wU hu)
 | some s=>
  have Nn:AM l x=⟨s.to,s.map.map (Ls x)⟩:=by unfold AM;rw[I9]
  obtain⟨i,hi,ALb⟩:=Mp I9;obtain⟨u,hu,L⟩:=hwA.some I9;obtain⟨am,cm,rfl,hum⟩:=hu;rw[L];simp only[AA,BV,BW];refine DM (ws:=[.string s.type,.string s.to,.slice am s.map.length cm]) tP jy rfl rfl rfl tA λW4 k4 t4 z4 NR=>?_;simp only[AW,AA,aav,AZ,Oa,Rs];rw[AD a9 (a:=⟨A.sz,0+1,none⟩) (NR.cell rfl)];simp only[AA];rw[AGB];simp only[AA];refine DM z56 LD rfl rfl rfl t4 λW7 k7 t7 z7 hB7=>?_;rw[AD Uv (a:=⟨A.sz,0+2,none⟩) ((NR.ext t4 k7).cell rfl)];simp only[AA,Aj KB]
  refine wz (e:=Env.of (Env.args []) [(3,.pointer (some ⟨W0.sz,0,none⟩)),(4,.pointer (some ⟨W1.sz,0,none⟩)),(7,.pointer (some ⟨W4.sz,0,none⟩)),(25,.slice am s.map.length cm),(26,.int .i64 s.map.length)]) tA t7 (k4.trans k7) hum (λt ht=>by
   simp only[aaE,acU,or_false]at ht
   rcases ht with rfl|rfl|rfl|rfl|rfl<;>rfl) rfl rfl rfl rfl rfl (Fk.cell rfl) hvA (k4.sz) hB7 (hm s I9) (Jb s (aai hi)) λe' W2 vo k2 t2 Wm hBo ho R5=>?_
  have g4:e' 4=.pointer (some ⟨W1.sz,0,none⟩):=(R5 4 (by decide)).trans rfl;have g7:e' 7=.pointer (some ⟨W4.sz,0,none⟩):=(R5 7 (by decide)).trans rfl;simp only[BI,Oy,IJ,aaA,wh,g4,g7];rw[Bn (vs:=[.string s.to,vo]) gY LD rfl (by omega) hBo.cells];simp only[AA];have Tu:s.to=(AM l x).type:=by rw[Nn]
  rw[Tu]
  have Zm:∀y,y∈(AM l x).AL→-9223372036854775808≤y∧y≤9223372036854775807:=by
   rw[Nn];intro y hy;obtain⟨m,O3,rfl⟩:=aaU.1 hy;have Np:=(hm _ I9 m O3).2;obtain⟨ax',cx',_,hxc⟩:=T6;obtain⟨_,_,hxr⟩:=hxc _ _ (ck Np);unfold Ls;rw[ck Np];exact hxr.2
  refine Ei W2 vo k2 t2 (Ml ho) (.inr λb l' c e=>abh k.sz (Wm b l' c e)) (λW3 hu=>Eh.of ?_ Zm) λW3 hr=>?_
  ·have hwv:(AM l x).AL=s.map.map (Ls x):=by rw[Nn]
   rw[hwv];have yp:=L4.ext tA k2;exact JE (Mk ho hu (aM ho yp (by decide)))
  ·exact hr _ g4
theorem ADd(r:Nat):ZT prog 100 [(1,.map (some r))]=some (.agg #[.slice none 0 0,.map (some r)]):=by kernel_rfl
theorem AJi:De prog 100=some 2:=by kernel_rfl
theorem iO(root:Int):visit [] root=start root:=by
 unfold visit start
 by_cases h:root>0
 ·rw[aad h,aad ⟨h,by simp⟩];rfl
 ·rw[aac h,aac (λhh=>h hh.1)]
theorem T8.lt{W:CW}{bw rp:Nat}{vo:Value}{o:List Int}(h:T8 W bw rp vo o)(ht:Ag W):bw<W.sz∧rp<W.sz∧∀j,Bh vo j→j<W.sz:=⟨h.w.lt ht,h.p.lt ht,λj hj=>N5 ht h.own hj⟩
theorem T8.kp{W W':CW}{bw rp:Nat}{vo:Value}{o:List Int}(h:T8 W bw rp vo o)(ht:Ag W)(k:Kp W W'):T8 W' bw rp vo o:=⟨h.w.ext ht k,h.own.kp ht k,h.p.congr (k.obj _ (h.p.lt ht))⟩
def w5(o:List Int)(N:Nat)(W:CW):Ending→CW→Prop:=λe W'=>Kp W W'∧Ag W'∧∃bw rp vo,e=.returned (.pointer (some ⟨bw,0,none⟩))∧T8 W' bw rp vo o∧W.sz≤bw∧W.sz≤rp∧BZ W.sz vo∧Found o N
theorem rT{v1:Value}{root:Int}{N:Nat}{refs:Int→List Int}{W:CW}(ht:Ag W)(tV:0≤root)(KE:root≤N)(hN:N<100000)(M0:∀n:Int,0<n→n≤N→∀r,r∈refs n→0≤r∧r≤N)(Z7:∀n:Int,(refs n).length<100000)
  (hrefs:∀(n:Int) (W':CW),Kp W W'→Ag W'→0<n→n≤N→∀(K:Value→CW→Prop) KP,(∀vr tQ,Kp W' tQ→Ag tQ→C' tQ 3 1 vr (DO (refs n))→BZ W'.sz vr→K vr tQ)→Dt prog Bf v1 [.int .i64 n] W' K KP) :
  AX prog Bf 50 [.int .i64 root,v1] W (w5 (CN refs N (start root) 0) N W):=by
 refine AGK ?_;rw[AGJ];refine XX (enc:=wx) ht λW0 k0 t0 z0 hm=>?_;rw[ADd];simp only[AA];refine Fy AJi t0 λW1 k1 t1 z1 hB=>?_;have hB:Aq W1 W0.sz 100 [.slice none 0 0,.map (some W.sz)]:=hB;have hw0:T8 W1 W0.sz W.sz (.slice none 0 0) []:=⟨hB,C'.nil,⟨[],hm.kp t0 k1,λn=>by simp[Me]⟩⟩
 have k01:=k0.trans k1;have w6:W.sz≤W0.sz:=k0.sz;have AJj:W0.sz≠W.sz:=by omega
 generalize hbw:W0.sz=bw at hw0 w6 AJj;refine(iM t1 hw0 tV (by simp)).mono λen W2 ⟨⟨v,he⟩,c2,t2,vo,Fq,TB⟩=>?_;subst he;simp only[BO];rw[iO]at Fq;have LZ:∀j,¬Bh (.slice none 0 0) j:=λj ⟨b,l,c,e,_⟩=>by cases e
 have kS:∀{A:CW} {vo:Value},(∀j,Bh vo j→W.sz≤j)→∀j,WkS bw W.sz vo j→W.sz≤j:=λhv j hj=>by
  rcases hj with rfl|rfl|hj
  ·exact w6
  ·exact aaf _
  ·exact hv j hj
 have k2:Kp W W2:=Bm.kp k01 c2 λj hj=>by
  rcases hj with rfl|rfl|hj
  ·exact w6
  ·exact aaf _
  ·exact(LZ j hj).elim
 have Nd:BZ W.sz vo:=λb l c e=>by
  rcases TB _ ⟨b,l,c,e,rfl⟩with h|h
  ·exact(LZ _ h).elim
  ·have:=k01.sz;omega
 refine EZ (λi e ds W'=>ds=[]∧∃o vo,Kp W W'∧Ag W'∧e 1=v1∧e 5=.pointer (some ⟨bw,0,none⟩)∧e 6=.int .i64 i∧T8 W' bw W.sz vo o∧BZ W.sz vo∧Found o N∧CN refs (N-i) o i=CN refs N (start root) 0) N
  ⟨rfl,_,vo,k2,t2,rfl,rfl,rfl,Fq,Nd,.start KE,rfl⟩ ?_
 rintro i e ds W' hi ⟨rfl,o,vo,k',t',h1,h5,h6,hw,yo,hF,hR⟩;have kT:=hF.len;obtain⟨ADb,ALc,AJk⟩:=hw.lt t';have q0:ld prog 40 (.pointer (some ⟨bw,0,none⟩)) W'=some vo:=AD Uv (a:=⟨bw,0,none⟩) (hw.w.cell rfl);have AJl:(DO o).length=o.length*1:=by rw[Lu];omega
 rw[ACu,h1,h5,h6];simp only[C4,R9,AA,q0,JG KB hw.own (by omega) AJl,Af]
 refine Hx (λAo=>?_) (λJi=>?_)
 ·have hx:=ck Ao;obtain⟨ao,co,rfl,hoc⟩:=JE (f:=λk=>Value.int .i64 k) hw.own;obtain⟨po,rfl,hpo⟩:=hoc i _ hx;have AHE:=hF.low _ (aaG Ao);have ABg:=hF.high _ (aaG Ao);rw[Ay KB s3 Ao];simp only[AA];rw[AD a3 (a:=⟨po.block,po.off+i*1,none⟩) hpo];simp only[AA];refine hrefs o[i] W' k' t' AHE ABg _ _ λvr W6 k6 t6 qP hnr=>?_;have Z1:=M0 o[i] AHE ABg;have Z7:=Z7 o[i]
  have M1:CN refs (N-(i+1)) ((refs o[i]).foldl visit o) (i+1)=CN refs N (start root) 0:=by
   rw[←hR,show N-i=(N-(i+1))+1 by omega,gq hx]
  generalize refs o[i]=rs at qP Z1 Z7 M1;have AJm:(DO rs).length=rs.length*1:=by rw[Lu];omega
  rw[JG KB qP (by omega) AJm];simp only[AA];have hw6:=hw.kp t' k6;have ALd:=k6.sz
  have AJn:∀j,Bh vr j→¬WkS bw W.sz (.slice (some po) o.length co) j:=λj hj hS=>by
   have:=hnr.in hj
   rcases hS with rfl|rfl|hS
   ·omega
   ·omega
   ·have:=AJk j hS;omega
  refine EZ (λk e' FG W7=>FG=[]∧∃o' tU,Bm (WkS bw W.sz (.slice (some po) o.length co)) W6 W7∧Ag W7∧e' 1=v1∧e' 5=.pointer (some ⟨bw,0,none⟩)∧e' 6=.int .i64 i∧e' 32=vr∧e' 33=.int .i64 rs.length∧e' 34=.int .i64 k∧T8 W7 bw W.sz tU o'∧(∀j,Bh tU j→Bh (.slice (some po) o.length co) j∨W6.sz≤j)∧Found o' N∧o'=(rs.take k).foldl visit o) rs.length
   ⟨rfl,o,_,.refl _ _,t6,h1,h5,h6,rfl,rfl,rfl,hw6,λj hj=>.inl hj,hF,rfl⟩ ?_
  rintro k e' FG W7 hk ⟨rfl,o',tU,c7,t7,g1,g5,g6,g32,g33,g34,hw7,hv7,hF7,ho7⟩;rw[ACv,g5,g32,g33,g34];simp only[Af,AA]
  refine Hx (λNp=>?_) (λADH=>?_)
  ·have hxr:=ck Np;have AJo:=c7.own t6 qP AJn;obtain⟨ar,cr,rfl,hrc⟩:=JE (f:=λk=>Value.int .i64 k) AJo;obtain⟨pr,rfl,M3⟩:=hrc k _ hxr;rw[Ay KB s3 Np];simp only[AA];rw[AD a3 (a:=⟨pr.block,pr.off+k*1,none⟩) M3];simp only[AA];obtain⟨zJ,ek⟩:=Z1 _ (aaG Np);have:=hF7.len;refine(iM t7 hw7 zJ (by omega)).mono λen W9 ⟨⟨v,he⟩,c9,t9,vo9,hw9,hv9⟩=>?_;subst he;simp only[BO,v8,BI,IW];simp only[AG,AN,Nat.reduceEqDiff,↓reduceIte,g34,AO,AA];have ALe:=c7.sz
   refine⟨Np,trivial,_,vo9,c7.then c9 λj hj hS=>?_,t9,g1,g5,g6,g32,g33,by rw[Dy (by omega)],hw9,λj hj=>?_,hF7.visit ek,?_⟩
   ·rcases hS with h|h|h
    ·exact .inl h
    ·exact .inr (.inl h)
    ·rcases hv7 j h with h|h
     ·exact .inr (.inr h)
     ·omega
   ·rcases hv9 j hj with h|h
    ·exact hv7 j h
    ·exact .inr (by omega)
   ·rw[aaX,hxr,acL,←ho7];rfl
  ·have hkr:rs.take k=rs:=aaS (by omega);rw[hkr]at ho7;simp only[BI,Oy,zw,IJ,IW,QV,aaA,vz];simp only[AG,AN,Nat.reduceEqDiff,↓reduceIte,g6,AO,AA]
   refine⟨by omega,trivial,o',tU,Bm.kp (k'.trans k6) c7 λj hj=>?_,t7,g1,g5,by rw[Dy (by omega)],hw7,λb l c e=>?_,hF7,by rw[ho7];exact M1⟩
   ·rcases hj with rfl|rfl|hj
    ·exact w6
    ·exact aaf _
    ·exact yo.in hj
   ·rcases hv7 _ ⟨b,l,c,e,rfl⟩with h|h
    ·exact yo.in h
    ·have:=(k'.trans k6).sz;omega
 ·have hfo:o=CN refs N (start root) 0:=by rw[←hR,lW Ji]
  simp only[BI,Oy,IJ,QV,aaA,vu,q5];refine⟨k',t',bw,W.sz,vo,?_,hfo▸hw,w6,aaf _,yo,hfo▸hF⟩;simp only[AG,AN,Nat.reduceEqDiff,↓reduceIte,h5]
theorem oo{c:List AV}{l:List Bq}{h:List BC}(Aa:Az c=true)(hs:BL c l=true)(LP:∀x,x∈h→A8 c x h.length=true){n:Int}:∀r,r∈Gf c l h n→0≤r∧r≤h.length:=by
 intro r hr;unfold Gf at hr
 cases hx:h[(n-1).toNat]? with
 |none=>rw[hx]at hr;cases hr
 | some x=>
  rw[hx]at hr;simp only at hr;obtain⟨i,s,Y⟩:=FV (CR hs (LP x (aai hx)));generalize AM l x=y at hr Y;unfold refsOf at hr;rw[Y.ti]at hr;simp only at hr
  have:∀k,r∈Eu c i y.AL k→0≤r∧r≤h.length:=by
   intro k
   induction k with
   |zero=>intro h;cases h
   | succ k ih=>
    intro h;rw[Eu]at h
    rcases aaB.1 h with h|h
    ·exact ih h
    ·split at h
     ·rename_i hk
      cases hv:y.AL[k]? with
      |none=>rw[hv]at h;cases h
      |some v=>
       rw[hv]at h;have hrv:=dx.1 h;subst hrv
       rcases Lx Aa Y hv with h|h
       ·exact⟨h.2.1,h.2.2⟩
       ·omega
     ·cases h
  exact this _ hr
theorem w7{c:List AV}{l:List Bq}{h:List BC}(hC:Ru c)(hs:BL c l=true)(LP:∀x,x∈h→A8 c x h.length=true)(n:Int):(Gf c l h n).length<100000:=by
 unfold Gf
 cases hx:h[(n-1).toNat]? with
 |none=>simp
 |some x=>
  simp only;obtain⟨i,s,Y⟩:=FV (CR hs (LP x (aai hx)));have:=QL c i (AM l x).AL (AM l x).AL.length;have:=dV hC Y.many;unfold refsOf;rw[Y.ti];simp only;omega
structure X8(W:CW)(bk br bh r1 r2 w r:Nat)(c:List AV)(l:List Bq)(h:List BC):Prop where
 k:Cells W bk 0 [.map (some r1),.map (some r2)]
 rl:Cells W br 0 [.map (some w),.map (some r)]
 cat:FB W r1 r2 c
 sp:PM Bq.type W w l
 hs:∃vh,W.cell bh 0=some vh∧At 2 (JC W) vh h
theorem X8.kp{W W':CW}{bk br bh r1 r2 w r:Nat}{c:List AV}{l:List Bq}{h:List BC}(A:X8 W bk br bh r1 r2 w r c l h)(ht:Ag W)(k:Kp W W'):X8 W' bk br bh r1 r2 w r c l h:=by
 obtain⟨vh,h1,h2⟩:=A.hs;exact⟨A.k.ext ht k,A.rl.ext ht k,A.cat.kp ht k,A.sp.kp ht k,vh,k.cell ht h1,h2.imp λ_ _ _ hr=>hr.kp ht k⟩
theorem rU{bk br bh r1 r2 w r:Nat}{c:List AV}{l:List Bq}{h:List BC}{n:Int}{W:CW}(ht:Ag W)(A:X8 W bk br bh r1 r2 w r c l h)(hC:Ru c)(hs:BL c l=true)(LP:∀x,x∈h→A8 c x h.length=true)(Jb:∀s,s∈l→s.map.length<100000)(VI:0<n)(NV:n≤h.length)(hhl:h.length<100000) :
  AX prog Bf 51 [.int .i64 n,.pointer (some ⟨bk,0,none⟩),.pointer (some ⟨br,0,none⟩),.pointer (some ⟨bh,0,none⟩)] W (X7 (Gf c l h n) W):=by
 refine AGw ?_;rw[AGv];obtain⟨vh,hbh,hh⟩:=A.hs;obtain⟨i,hi⟩:∃i:Nat,n=((i+1:Nat):Int):=⟨(n-1).toNat,by omega⟩
 subst hi;have H2:i<h.length:=by omega
 have hx:=ck H2;obtain⟨ah,ch,rfl,hhc⟩:=id hh;obtain⟨p,rfl,hp⟩:=hhc i _ hx;have l78:∀W1,Kp W W1→ld prog 78 (.pointer (some ⟨bk,0,none⟩)) W1=some (.agg [.map (some r1),.map (some r2)].toArray):=λW1 k1=>Bn (vs:=[.map (some r1),.map (some r2)]) (a:=⟨bk,0,none⟩) a78 U1 rfl (by omega) (A.k.ext ht k1);have l83:ld prog 83 (.pointer (some ⟨br,0,none⟩)) W=some (.agg [.map (some w),.map (some r)].toArray):=Bn (vs:=[.map (some w),.map (some r)]) (a:=⟨br,0,none⟩) a83 wR rfl (by omega) A.rl;have y8:ld prog 24 (.pointer (some ⟨bh,0,none⟩)) W=some (.slice (some p) h.length ch):=AD yy (a:=⟨bh,0,none⟩) hbh;obtain⟨vx,hu,T6,AHF⟩:=lX ht (.refl _) hp;rw[l78 W (.refl _),l83,y8];simp only[AA,Ae];rw[show((i+1:Nat):Int)-1=(i:Nat) by omega,wrap64 (by omega) (by omega),Ay VT LD H2];simp only[AA,hu];have Tu:=LP _ (aaG H2);refine(w4 (r:=r) ht A.sp T6 (N6 hs Tu) Jb).mono λen W0 ⟨k0,t0,vv,FN,ZD,VY⟩=>?_;subst FN;simp only[BO];have hyt:=CR hs Tu;obtain⟨iy,sy,Y⟩:=FV hyt
 have j3:Gf c l h ((i+1:Nat):Int)=refsOf c (AM l h[i]):=by
  unfold Gf;rw[show(((i+1:Nat):Int)-1).toNat=i by omega,hx]
 have ALf:=dV hC Y.many;refine(AAR t0 (A.cat.kp ht k0) Y.ti (λhe=>by rw[Lt Y.si he Y.many];exact aaf _) ZD (by omega)).mono λen W2 ⟨k2,t2,vr,FN,qP,hnr⟩=>?_;subst FN;simp only[BO];refine⟨by simp only[l78 W0 k0,and_self],trivial,?_⟩;rw[rQ];refine⟨k0.trans k2,t2,vr,rfl,by rw[j3];exact qP,λb l c e=>abh k0.sz (hnr b l c e)⟩
theorem V5(a:Addr):RL prog 95 (.pointer (some a)) 0=some (.pointer (some ⟨a.block,a.off,none⟩)):=by kernel_rfl
theorem Je(a:Addr):RL prog 97 (.pointer (some a)) 0=some (.pointer (some ⟨a.block,a.off,none⟩)):=by kernel_rfl
theorem dp(a:Addr):RL prog 97 (.pointer (some a)) 1=some (.pointer (some ⟨a.block,a.off+1,none⟩)):=by kernel_rfl
theorem rV(n:Nat)(h:n<1000000000000000000):CF prog .shr 3 true (.int .i64 n) (.int .u64 7)=some (.int .i64 ((n/128:Nat):Int)):=by
 have h1:CF prog .shr 3 true (.int .i64 n) (.int .u64 7)=some (.int .i64 ((n:Int).fdiv (2^(min (7:Int).toNat 64)))):=by kernel_rfl
 rw[h1];congr 2;have:((2:Int)^(min (7:Int).toNat 64))=((128:Nat):Int):=by decide
 rw[this,Int.fdiv_eq_ediv_of_nonneg _ (by omega)];omega
structure L5(W:CW)(wb:Nat)(rest:List Value)(vb:Value)(bs:List Int):Prop where
 b:Aq W wb 97 (vb::rest)
 own:C' W 5 1 vb (BU bs)
def oq(wb:Nat)(vb:Value)(j:Nat):Prop:=j=wb∨Bh vb j
def N9(wb:Nat)(rest:List Value)(vb:Value)(bs:List Int)(W:CW):Ending→CW→Prop:=λe W'=>(∃v,e=.returned v)∧Bm (oq wb vb) W W'∧Ag W'∧∃Jf,L5 W' wb rest Jf bs∧∀j,Bh Jf j→Bh vb j∨W.sz≤j
theorem L5.ld{W:CW}{wb:Nat}{rest:List Value}{vb:Value}{bs:List Int}(h:L5 W wb rest vb bs):Go.Ce.ld prog 29 (.pointer (some ⟨wb,0,none⟩)) W=some vb:=AD a29 (a:=⟨wb,0,none⟩) (h.b.cell rfl)
theorem QM{wb:Nat}{rest:List Value}{vb tW vb2:Value}{bs:List Int}{W W1 W2:CW}(c1:Bm (oq wb vb) W W1)(n1:∀j,Bh tW j→Bh vb j∨W.sz≤j)(c2:Bm (oq wb tW) W1 W2)(n2:∀j,Bh vb2 j→Bh tW j∨W1.sz≤j):Bm (oq wb vb) W W2∧∀j,Bh vb2 j→Bh vb j∨W.sz≤j:=by
 have h1:=c1.sz
 refine⟨c1.then c2 λj hj hS=>?_,λj hj=>?_⟩
 ·rcases hS with h|h
  ·exact .inl h
  ·rcases n1 j h with h|h
   ·exact .inr h
   ·omega
 ·rcases n2 j hj with h|h
  ·exact n1 j h
  ·exact .inr (by omega)
theorem ot{W:CW}(ht:Ag W){wb:Nat}{rest:List Value}{vb:Value}{bs:List Int}(hb:L5 W wb rest vb bs){n:Int}(hl:bs.length<900000){K:Value→CW→Value→CW→CW→Prop}
  (hk:∀u Wa v1 W1 W2,Bm (oq wb vb) W W2→Ag W2→L5 W2 wb rest v1 (bs++[n])→(∀j,Bh v1 j→Bh vb j∨W.sz≤j)→K u Wa v1 W1 W2) :
  Iw (W_ prog 29 1 [(0,.int .u8 n)] W) λu Wa=>Iw (app prog [29,29] vb u Wa) λv1 W1=>wV (NK prog 29 (.pointer (some ⟨wb,0,none⟩)) v1 W1) λW2=>K u Wa v1 W1 W2:=by
 refine Mj VN s5 z5 rfl (by omega) by5 (by omega) (ABX _) rfl rfl ht hb.own (by rw[IM];omega) λu Wa v1 W1 ka ta Lz t1 o1 n1=>?_;have Dg:=aM hb.own hb.b (by decide);have ek:=Lz.IA ht hb.b Dg;refine Ac (vs:=vb::rest) s29 (a:=⟨wb,0,none⟩) (Ml o1) ek (by simp) λW2 hu O6=>?_;have hu:Dn wb W1 W2:=hu;have O6:Aq W2 wb 97 (v1::rest):=by simpa[putAt]using O6
 have NV:BZ W.sz v1:=n1 _ (aaf _);have aN:=hb.b.lt ht;have wF:=Lz.sz
 refine hk _ _ _ _ W2 ⟨by rw[hu.sz];omega,λj hj hS=>?_⟩ (t1.A6 (by omega) hu) ⟨O6,?_⟩ λj hj=>.inr (NV.in hj)
 ·rw[hu.obj j λe=>hS (.inl e)];exact Lz.D4.obj j hj λh=>hS (.inr h)
 ·rw[Xs];exact Mk o1 hu λb l c e=>by have:=NV b l c e;omega
theorem D0{fn:Func}(hr:fn.results.toList=[])(Q:Ending→CW→Prop)(x:Exit)(hx:x=.normal∨x=.ret)(e:Env)(W:CW)(h:Q (.returned (.tuple #[])) W):AQ prog fn Q x e [] W:=by
 rcases hx with rfl|rfl<;>simp only[AQ,CI,hr,Jt]<;>exact h
theorem V6{wb:Nat}{rest:List Value}{vb:Value}{bs:List Int}{n:Nat}{W:CW}(ht:Ag W)(hb:L5 W wb rest vb bs)(hn:n<100000000000000)(hl:bs.length<800000) :
  AX prog Bf 55 [.pointer (some ⟨wb,0,none⟩),.int .i64 n] W (N9 wb rest vb (bs++CD n) W):=by
 refine AG2 ?_;rw[AG1]
 refine DX (λk e ds W'=>ds=[]∧∃(m:Nat) (pre:List Int) (Jf:Value),k=m∧m≤n∧e 0=.pointer (some ⟨wb,0,none⟩)∧e 1=.int .i64 m∧Bm (oq wb vb) W W'∧Ag W'∧L5 W' wb rest Jf (bs++pre)∧(∀j,Bh Jf j→Bh vb j∨W.sz≤j)∧pre++CD m=CD n) n
  ⟨rfl,n,[],vb,rfl,aaf _,rfl,rfl,.refl _ _,ht,by simpa using hb,λj hj=>.inl hj,rfl⟩ ?_
 rintro k e ds W' ⟨rfl,m,pre,Jf,rfl,hmn,h0,h1,Ic,t',jm,ZF,Bw⟩;have kN:(pre++CD k).length≤8:=by rw[Bw];exact EG hn
 rw[aah]at kN;rw[ADR,h0,h1];simp only[CC,AA]
 refine AH (λhg=>?_) (λhg=>?_)
 ·have hg:¬k<128:=by have:=of_decide_eq_true hg;omega
  have hnk:CD k=((k%128+128:Nat):Int)::CD (k/128):=by rw[CD,aac hg]
  rw[XU _ _ _ (by omega)];have e1:(k:Int).tmod 128=((k%128:Nat):Int):=by rw[acy (by omega)];omega
  rw[e1];simp only[C4,V5,AA,jm.ld,AO];rw[wrap64 (by omega) (by omega),ABY,vZ (by omega) (by omega)];simp only[AA];refine ot t' jm (by rw[aah];omega) λu Wa v1 W1 W2 c2 t2 O6 n2=>?_;simp only[wm,BI,Uu];simp only[AG,AN,Nat.reduceEqDiff,↓reduceIte,h1];rw[rV k (by omega)];simp only[AA];obtain⟨c3,n3⟩:=QM (rest:=rest) (bs:=bs) Ic ZF c2 n2
  refine⟨k/128,by omega,trivial,k/128,pre++[((k%128+128:Nat):Int)],v1,rfl,by omega,?_,?_,c3,t2,?_,n3,?_⟩
  ·simp only[h0]
  ·rfl
  ·rw[←aaO];simpa using O6
  ·rw[aaO,List.singleton_append,←hnk,Bw]
 ·have hg:k<128:=by have:=of_decide_eq_false hg;omega
  have hnk:CD k=[(k:Int)]:=by rw[CD,aad hg]
  simp only[BI,Oy,IJ,VM,aaA,wj];simp only[AG,AN,Nat.reduceEqDiff,↓reduceIte,h0,h1];simp only[C4,V5,AA,jm.ld];rw[ABY,vZ (by omega) (by omega)];simp only[AA];refine ot t' jm (by rw[aah];omega) λu Wa v1 W1 W2 c2 t2 O6 n2=>?_;obtain⟨c3,n3⟩:=QM (rest:=rest) (bs:=bs) Ic ZF c2 n2;refine D0 (by kernel_rfl) _ _ (.inl rfl) _ _ ⟨⟨_,rfl⟩,c3,t2,v1,?_,n3⟩;rw[←Bw,hnk,←aaO];exact O6
theorem ADe:JH prog 9=true:=by kernel_rfl
theorem dq(s:ByteArray):C_ ((sb s).take s.size)=BU (JD s):=by
 rw[aaS (by rw[Lq];exact aaf _)];unfold C_ BU JD;rw[ada];rfl
theorem w8{wb:Nat}{rest:List Value}{vb:Value}{bs:List Int}{s:ByteArray}{W:CW}(ht:Ag W)(hb:L5 W wb rest vb bs)(VZ:0<s.size)(hs:s.size<1000)(hl:bs.length<700000) :
  AX prog Bf 57 [.pointer (some ⟨wb,0,none⟩),.string s] W (N9 wb rest vb (bs++Hi s) W):=by
 refine AG6 ?_;rw[AG5,N0 u9];simp only[AA];refine(V6 (n:=s.size) ht hb (by omega) (by omega)).mono λen W1 ⟨⟨v,he⟩,c1,t1,tW,ek,n1⟩=>?_;subst he;simp only[BO,C4,V5,AA,ek.ld];have h8:=EG (n:=s.size) (by omega);have dS:(JD s).length=s.size:=by unfold JD;rw[aau,Lq]
 refine oU (x:=.string s) (m:=s.size) (news:=BU (JD s)) VN ADe s5 z5 rfl (by omega) by5 (by omega) t1 ek.own rfl VZ ?_ (lY _) (by rw[IM,dS];omega) (by rw[IM,aah];omega) λW2 len hg hlen hB=>?_
 ·show cond (Nat.beq 1 1) (some (C_ ((sb s).take s.size))) none=_;rw[dq];rfl
 ·have Dg:=aM ek.own ek.b (by decide);have AJp:=ek.b.lt t1;have O6:Aq W2 wb 97 (tW::rest):=ek.b.congr (hg.obj wb AJp λb l c e=>(Dg b l c e).symm);refine Ac (vs:=tW::rest) s29 (a:=⟨wb,0,none⟩) rfl O6 (by simp) λW3 hu rJ=>?_;have hu:Dn wb W2 W3:=hu;have rJ:Aq W3 wb 97 (.slice (some ⟨W1.sz,0,none⟩) len len::rest):=by simpa[putAt]using rJ
  have Hs:=hg.sz;have ADb:=ek.b.lt t1
  have o3:C' W3 5 1 (.slice (some ⟨W1.sz,0,none⟩) len len) (BU (bs++Hi s)):=by
   have:BU (bs++Hi s)=BU (bs++CD s.size)++BU (JD s):=by
    unfold Hi;rw[←aaO,Xs]
   rw[this];exact C'.some (hB.congr (hu.obj _ (by omega))) hlen
  have c2:Bm (oq wb tW) W1 W3:=⟨by rw[hu.sz];omega,λj hj hS=>by
   rw[hu.obj j λe=>hS (.inl e)]
   exact hg.obj j hj λb l c e hbj=>hS (.inr ⟨b,l,c,e,hbj.symm⟩)⟩
  obtain⟨c3,n3⟩:=QM (vb2:=.slice (some ⟨W1.sz,0,none⟩) len len) (rest:=rest) (bs:=bs) c1 n1 c2 (λj hj=>.inr (by obtain⟨b,l,c,e,rfl⟩:=hj;cases e;exact aaf _));refine D0 (by kernel_rfl) _ _ (.inl rfl) _ _ ⟨⟨_,rfl⟩,c3,?_,_,⟨rJ,o3⟩,n3⟩;exact(hg.top t1).A6 (by omega) hu
theorem w9{wb:Nat}{rest:List Value}{vb:Value}{bs:List Int}{n:Int}{W:CW}(ht:Ag W)(hb:L5 W wb rest vb bs)(h1:-4000000000000≤n)(h2:n≤4000000000000)(hl:bs.length<700000) :
  AX prog Bf 106 [.pointer (some ⟨wb,0,none⟩),.int .i64 n] W (N9 wb rest vb (bs++CD (Lv n).toNat) W):=by
 refine ADY ?_;rw[ADX];simp only[Af,AA]
 have fin:∀(z:Nat),Lv n=(z:Int)→AX prog Bf 55 [.pointer (some ⟨wb,0,none⟩),.int .i64 z] W (N9 wb rest vb (bs++CD (Lv n).toNat) W):=λz hz=>by
  rw[hz,abg];refine V6 ht hb ?_ (by omega);unfold Lv at hz;split at hz<;>omega
 refine AH (λh=>?_) (λh=>?_)
 ·have h:n<0:=of_decide_eq_true h;simp only[C4,Je,AA,Lm,Ae];rw[wrap64 (x:=-2*n) (by omega) (by omega),wrap64 (x:=-2*n-1) (by omega) (by omega)];obtain⟨z,hz⟩:∃z:Nat,-2*n-1=(z:Int):=⟨(-2*n-1).toNat,by omega⟩
  rw[hz];refine(fin z (by unfold Lv;rw[aad h,hz])).mono λen W1 hp=>?_;obtain⟨v,rfl⟩:=hp.1;simp only[BO];exact D0 (by kernel_rfl) _ _ (.inl rfl) _ _ ⟨⟨_,rfl⟩,hp.2⟩
 ·have h:¬n<0:=of_decide_eq_false h;simp only[C4,Je,AA,Lm];rw[wrap64 (x:=2*n) (by omega) (by omega)];obtain⟨z,hz⟩:∃z:Nat,2*n=(z:Int):=⟨(2*n).toNat,by omega⟩
  rw[hz];refine(fin z (by unfold Lv;rw[aac h,hz])).mono λen W1 hp=>?_;obtain⟨v,rfl⟩:=hp.1;simp only[BO];exact D0 (by kernel_rfl) _ _ (.inl rfl) _ _ ⟨⟨_,rfl⟩,hp.2⟩
theorem a89:agg? prog 89=some false:=by kernel_rfl
theorem AAT{wb bw rp:Nat}{rest:List Value}{vb vo:Value}{bs o:List Int}{n:Int}{W:CW}(ht:Ag W)(hb:L5 W wb (.pointer (some ⟨bw,0,none⟩)::rest) vb bs)(hw:T8 W bw rp vo o)(kT:o.length<100000)(hl:bs.length<700000) :
  AX prog Bf 107 [.pointer (some ⟨wb,0,none⟩),.int .i64 n] W (N9 wb (.pointer (some ⟨bw,0,none⟩)::rest) vb (bs++CD (placeOf o n).toNat) W):=by
 refine ADa ?_;rw[ADZ];have q1:ld prog 89 (.pointer (some ⟨wb,0+1,none⟩)) W=some (.pointer (some ⟨bw,0,none⟩)):=AD a89 (a:=⟨wb,0+1,none⟩) (hb.b.cell rfl);have q2:ld prog 98 (.pointer (some ⟨bw,0+1,none⟩)) W=some (.map (some rp)):=AD a98 (a:=⟨bw,0+1,none⟩) (hw.w.cell rfl);have hp:=QF o n;obtain⟨z,hz⟩:∃z:Nat,placeOf o n=(z:Int):=⟨(placeOf o n).toNat,by omega⟩
 simp only[C4,Je,dp,AA,q1,X6,q2,hw.p.look];rw[hz,abg];refine(V6 (n:=z) ht hb (by omega) (by omega)).mono λen W1 hpp=>?_;obtain⟨v,rfl⟩:=hpp.1;simp only[BO];refine⟨by simp only[and_self],trivial,?_⟩;exact D0 (by kernel_rfl) _ _ (.inl rfl) _ _ ⟨⟨_,rfl⟩,hpp.2⟩
theorem X9{v:Value}{l:List ByteArray}{s:ByteArray}{W:CW}(hc:At 1 (ACo W) v l)(hlen:l.length<1000000):AX prog Bf 61 [v,.string s] W (H_ (.int .i64 (Jz l λx=>decide (x=s))) W):=by
 refine AHC ?_;rw[AHB];obtain⟨a,cap,rfl,A5⟩:=hc;simp only[Aj gX,AA];refine EZ (λi e ds W'=>W'=W∧ds=[]∧e 0=.slice a l.length cap∧e 1=.string s∧e 7=.int .i64 l.length∧e 8=.int .i64 i∧∀j x,j<i→l[j]?=some x→decide (x=s)=false) l.length ⟨rfl,rfl,rfl,rfl,rfl,rfl,by omega⟩ ?_;rintro i e ds W' hi ⟨rfl,rfl,h0,h1,h7,h8,Bw⟩;rw[ADW,h0,h1,h7,h8];simp only[Af,AA]
 refine Hx (λAo=>?_) (λJi=>?_)
 ·have hx:=ck Ao;obtain⟨p,rfl,hp⟩:=A5 i _ hx;rw[Ay gX s9 Ao];simp only[AA];rw[AD a9 (a:=⟨p.block,p.off+i*1,none⟩) hp];simp only[AA,Tn,RY]
  refine AH (λhq=>?_) (λhq=>?_)
  ·have hq:s=l[i]:=by simpa using hq
   simp only[iK,NP,Tm,IW,ey,mN,a_];refine⟨?_,rfl⟩;simp only[AG,↓reduceIte];rw[Lp Ao (by simp[hq]) Bw]
  ·have hq:¬s=l[i]:=by simpa using hq
   simp only[iK,BI,IW];simp only[AG,AN,Nat.reduceEqDiff,↓reduceIte,h0,h1,h7,h8,AO,AA];refine⟨Ao,trivial,trivial,trivial,trivial,trivial,by rw[Dy (by omega)],λj x hj Mh=>?_⟩
   rcases aaD.1 hj with h2|rfl
   ·exact Bw j x h2 Mh
   ·rw[hx]at Mh;cases Mh;exact decide_eq_false λe=>hq e.symm
 ·simp only[BI,Oy,IJ,QV,aaA,mN,a_];refine⟨?_,rfl⟩;simp only[AG,↓reduceIte];rw[Jo λj x hj hx=>Bw j x (by omega) hx]
theorem PO{v:Value}{l:List ByteArray}{s:ByteArray}{W:CW}(hc:At 1 (ACo W) v l)(hlen:l.length<1000000):AX prog Bf 54 [v,.string s] W (H_ (.bool (l.any λx=>decide (x=s))) W):=by
 refine AG0 ?_;rw[AGz];refine A4 (X9 hc hlen) ?_;simp only[CC,AA,rS];refine⟨?_,rfl⟩;simp only[AG,↓reduceIte];congr 2
 cases h:l.any λx=>decide (x=s)with
 |false=>exact decide_eq_false (by have:=gy.2 h;omega)
 |true=>
  refine decide_eq_true ?_;have:¬Jz l (λx=>decide (x=s))<0:=λhn=>by rw[gy.1 hn]at h;cases h
  omega
structure ZY where
 A:CW
 (bk br bh tX QN bd wb bw rp r1 r2 w r:Nat)
 (vt vo:Value)
 bdt:TypeId
 dvs:List Value
 c:List AV
 l:List Bq
 h:List BC
 o:List Int
 ts:List ByteArray
def ZY.rest(p:ZY):List Value:=[.pointer (some ⟨p.bw,0,none⟩),.map (some p.r1),.map (some p.r2)]
structure Dk(p:ZY)(W:CW)(vb:Value)(bs:List Int):Prop where
 kp:Kp p.A W
 top:Ag W
 tA:Ag p.A
 d:X8 p.A p.bk p.br p.bh p.r1 p.r2 p.w p.r p.c p.l p.h
 wk:T8 W p.bw p.rp p.vo p.o
 wv:Aq W p.tX 88 [.pointer (some ⟨p.wb,0,none⟩)]
 ty:Aq W p.QN 51 [p.vt]
 tys:C' W 9 1 p.vt (strs p.ts)
 dv:Aq W p.bd p.bdt p.dvs
 dvn:p.bdt≠97∧p.bdt≠5
 buf:L5 W p.wb p.rest vb bs
 ge:p.A.sz≤p.wb∧∀j,Bh vb j→p.A.sz≤j
def ZY.Has(p:ZY)(vb:Value)(i:Nat):Prop:=i=p.bw∨i=p.rp∨Bh p.vo i∨i=p.tX∨i=p.QN∨Bh p.vt i∨i=p.bd∨i=p.wb∨Bh vb i
theorem NA{W W':CW}{el n:Nat}{v:Value}{cs:List Value}(h:C' W el n v cs)(ho:∀i,Bh v i→W'.obj i=W.obj i):C' W' el n v cs:=by
 cases h with
 |nil=>exact C'.nil
 |some hB hl=>exact C'.some (hB.congr (ho _ ⟨_,_,_,rfl,rfl⟩)) hl
theorem Dk.of{p:ZY}{W W':CW}{vb:Value}{bs:List Int}(h:Dk p W vb bs)(hk:Kp p.A W')(ht:Ag W')(ho:∀i,p.Has vb i→W'.obj i=W.obj i):Dk p W' vb bs :=
 ⟨hk,ht,h.tA,h.d,⟨h.wk.w.congr (ho _ (.inl rfl)),NA h.wk.own λi hi=>ho i (.inr (.inr (.inl hi))),h.wk.p.congr (ho _ (.inr (.inl rfl)))⟩,h.wv.congr (ho _ (.inr (.inr (.inr (.inl rfl))))),h.ty.congr (ho _ (.inr (.inr (.inr (.inr (.inl rfl)))))),NA h.tys λi hi=>ho i (.inr (.inr (.inr (.inr (.inr (.inl hi)))))),h.dv.congr (ho _ (.inr (.inr (.inr (.inr (.inr (.inr (.inl rfl)))))))),h.dvn,⟨h.buf.b.congr (ho _ (.inr (.inr (.inr (.inr (.inr (.inr (.inr (.inl rfl))))))))),NA h.buf.own λi hi=>ho i (.inr (.inr (.inr (.inr (.inr (.inr (.inr (.inr hi))))))))⟩,h.ge⟩
theorem Dk.lt{p:ZY}{W:CW}{vb:Value}{bs:List Int}(h:Dk p W vb bs):∀i,p.Has vb i→i<W.sz:=by
 intro i hi
 rcases hi with rfl|rfl|hi|rfl|rfl|hi|rfl|rfl|hi
 ·exact h.wk.w.lt h.top
 ·exact h.wk.p.lt h.top
 ·exact N5 h.top h.wk.own hi
 ·exact h.wv.lt h.top
 ·exact h.ty.lt h.top
 ·exact N5 h.top h.tys hi
 ·exact h.dv.lt h.top
 ·exact h.buf.b.lt h.top
 ·exact N5 h.top h.buf.own hi
theorem Dk.VP{p:ZY}{W W':CW}{vb:Value}{bs:List Int}(h:Dk p W vb bs)(k:Kp W W')(ht:Ag W'):Dk p W' vb bs:=h.of (h.kp.trans k) ht λi hi=>k.obj i (h.lt i hi)
theorem Ba{W:CW}{b:Nat}{e1 e2:TypeId}{v1 v2:List Value}(h1:Aq W b e1 v1)(h2:Aq W b e2 v2):e1=e2:=by
 obtain⟨c,n,z,h,_⟩:=h1;obtain⟨c',n',z',h',_⟩:=h2;rw[h]at h';cases h';rfl
theorem Df{W:CW}{el n:Nat}{v:Value}{cs:List Value}(h:C' W el n v cs){j:Nat}(hj:Bh v j):Aq W j el cs:=by
 obtain⟨b,l,c,e,rfl⟩:=hj
 cases h with
 |nil=>cases e
 |some hB hl=>cases e;exact hB
theorem N'{p:ZY}{W:CW}{vb:Value}{bs:List Int}(h:Dk p W vb bs){i:Nat}{el:TypeId}{vs:List Value}(hB:Aq W i el vs)(h1:el≠97)(h2:el≠5):¬oq p.wb vb i:=by
 rintro(rfl|hi)
 ·exact h1 (Ba hB h.buf.b)
 ·exact h2 (Ba hB (Df h.buf.own hi))
theorem Dk.emit{p:ZY}{W W':CW}{vb Jf:Value}{bs ou:List Int}(h:Dk p W vb bs)(hc:Bm (oq p.wb vb) W W')(ht:Ag W')(hb:L5 W' p.wb p.rest Jf ou)(hn:∀j,Bh Jf j→Bh vb j∨W.sz≤j):Dk p W' Jf ou:=by
 have j3:¬oq p.wb vb p.rp:=by
  rintro(e|hi)
  ·exact(h.wk.p.ne h.buf.b) e.symm
  ·exact(h.wk.p.ne (Df h.buf.own hi)) rfl
 have Hs:=h.kp.sz
 refine⟨Bm.kp h.kp hc λj hj=>?_,ht,h.tA,h.d,⟨hc.IA h.top (N' h h.wk.w (by decide) (by decide)) h.wk.w,hc.own h.top h.wk.own λj hj=>N' h (Df h.wk.own hj) (by decide) (by decide),h.wk.p.congr (hc.obj _ (h.wk.p.lt h.top) j3)⟩,hc.IA h.top (N' h h.wv (by decide) (by decide)) h.wv,hc.IA h.top (N' h h.ty (by decide) (by decide)) h.ty,hc.own h.top h.tys λj hj=>N' h (Df h.tys hj) (by decide) (by decide),hc.IA h.top (N' h h.dv h.dvn.1 h.dvn.2) h.dv,h.dvn,hb,h.ge.1,λj hj=>?_⟩
 ·rcases hj with rfl|hj
  ·exact h.ge.1
  ·exact h.ge.2 j hj
 ·rcases hn j hj with h1|h1
  ·exact h.ge.2 j h1
  ·omega
theorem X'{p:ZY}{W W':CW}{vb:Value}{bs:List Int}(h:Dk p W vb bs)(hc:Bm (oq p.wb vb) W W'){b k:Nat}{n:Int}(A5:W.cell b k=some (.int .i64 n)):W'.cell b k=some (.int .i64 n):=by
 refine hc.cell h.top ?_ A5
 rintro(rfl|hi)
 ·have:=h.buf.b.J8 A5;unfold ZY.rest at this
  match k,this with
  |0,this=>
   have hv:=aa1 this;have ho:=h.buf.own;rw[hv]at ho
   cases ho
  |1,this=>cases this
  |2,this=>cases this
  |3,this=>cases this
 ·have:=(Df h.buf.own hi).J8 A5;unfold BU at this;rw[aaK]at this
  cases hx:bs[k]? with
  |none=>rw[hx]at this;cases this
  |some x=>rw[hx]at this;cases this
def R_(p:ZY)(bs:List Int):Ending→CW→Prop:=λe W'=>(∃v,e=.returned v)∧∃Jf,Dk p W' Jf bs
theorem Dk.num{p:ZY}{W:CW}{vb:Value}{bs:List Int}(h:Dk p W vb bs){n:Nat}(hn:n<100000000000000)(hl:bs.length<700000):AX prog Bf 55 [.pointer (some ⟨p.wb,0,none⟩),.int .i64 n] W λe W'=>(∃v,e=.returned v)∧Bm (oq p.wb vb) W W'∧∃Jf,Dk p W' Jf (bs++CD n)∧∀j,Bh Jf j→Bh vb j∨W.sz≤j :=
 (V6 h.top h.buf hn (by omega)).mono λen W1 ⟨hv,c,t,Jf,hb,hn⟩=>⟨hv,c,Jf,h.emit c t hb hn,hn⟩
theorem w_{p:ZY}{W:CW}{vb:Value}{bs:List Int}(h:Dk p W vb bs)(Hs:∀s,s∈p.ts→0<s.size∧s.size<1000)(Xq:p.ts.length≤100)(dS:bs.length≤100) :
  AX prog Bf 56 [.pointer (some ⟨p.wb,0,none⟩),p.vt,.func (.func 57) #[.pointer (some ⟨p.wb,0,none⟩)] #[]] W (R_ p (bs++CD p.ts.length++p.ts.flatMap Hi)):=by
 refine AG4 ?_;rw[AG3];have AHG:(strs p.ts).length=p.ts.length*1:=by rw[Iq];omega
 rw[JG gX h.tys (by omega) AHG];simp only[AA];refine(h.num (n:=p.ts.length) (by omega) (by omega)).mono λen W1 ⟨⟨v,he⟩,_,tW,h1,_⟩=>?_;subst he;simp only[BO];rw[JG gX h1.tys (by omega) AHG];simp only[AA];have h8:=EG (n:=p.ts.length) (by omega);refine EZ (λi e ds W'=>ds=[]∧∃Jf,Dk p W' Jf (bs++CD p.ts.length++(p.ts.take i).flatMap Hi)∧e 2=.func (.func 57) #[.pointer (some ⟨p.wb,0,none⟩)] #[]∧e 12=p.vt∧e 13=.int .i64 p.ts.length∧e 14=.int .i64 i) p.ts.length ⟨rfl,tW,by simpa using h1,rfl,rfl,rfl,rfl⟩ ?_;rintro i e ds W' hi ⟨rfl,Jf,h',g2,rX,g13,g14⟩;rw[ADS,g2,rX,g13,g14];simp only[Af,AA]
 refine Hx (λAo=>?_) (λJi=>?_)
 ·have hx:=ck Ao;obtain⟨a,cap,xA,hc⟩:=JE (f:=λs=>Value.string s) h'.tys;obtain⟨q,rfl,hq⟩:=hc i _ hx;rw[xA,Ay gX s9 Ao];simp only[AA];rw[AD a9 (a:=⟨q.block,q.off+i*1,none⟩) hq];simp only[AA];obtain⟨VZ,WY⟩:=Hs _ (aaG Ao);have fz:=Tw (p.ts.take i) λs hs=>(Hs s (abi hs)).2;have rH:(p.ts.take i).length*1008≤100*1008:=aaN _ (by rw[aaI];omega);refine G5 Tryz.func57 (by kernel_rfl) ((w8 h'.top h'.buf VZ WY (by rw[aah,aah];omega)).mono λen W2 ⟨⟨v,he⟩,c2,t2,vb2,O6,Nd⟩=>?_);subst he;simp only[BO,wo,BI,IW];simp only[AG,AN,Nat.reduceEqDiff,↓reduceIte,g14,AO,AA];refine⟨Ao,trivial,vb2,?_,g2,rX.trans (by rw[xA]),g13,by rw[Dy (by omega)]⟩;have:=h'.emit c2 t2 O6 Nd;rw[aaX,hx,aa4,←aaO]
  simpa using this
 ·have U0:p.ts.take i=p.ts:=aaS (by omega);rw[U0]at h';simp only[IJ,QV,aaA];exact D0 (by kernel_rfl) _ _ (.inl rfl) _ _ ⟨⟨_,rfl⟩,Jf,h'⟩
theorem iP:Tryz.f58.results.toList=[.cell 0 108]:=by kernel_rfl
theorem ADf:De prog 108=some 3:=by kernel_rfl
theorem AJq:agg? prog 108=some true:=by kernel_rfl
theorem AHH:Hr prog 108=some (.agg #[.nilFunc,.nilFunc,.nilFunc]):=by kernel_rfl
theorem ADg:ZT prog 108 [(1,(.func (.func 106) #[] #[])),(2,(.func (.func 107) #[] #[]))]=some (.agg [.nilFunc,.func (.func 106) #[] #[],.func (.func 107) #[] #[]].toArray):=by kernel_rfl
theorem rY{W:CW}(ht:Ag W):AX prog Bf 58 [] W (z_ (.agg [.nilFunc,.func (.func 106) #[] #[],.func (.func 107) #[] #[]].toArray) W):=by
 refine AG8 ?_;rw[AG7,ADg];simp only[AA];refine DM AHH ADf rfl rfl rfl ht λW1 k1 t1 z1 hB=>?_;refine Mm iP rfl (Bn (vs:=[.nilFunc,.func (.func 106) #[] #[],.func (.func 107) #[] #[]]) (a:=⟨W.sz,0,none⟩) AJq ADf rfl (by omega) hB.cells) ?_;exact⟨rfl,k1,t1⟩
theorem xB(b:Nat):lD prog 108 (.pointer (some ⟨b,0,none⟩)) (.int .u8 1)=some (.pointer (some ⟨b,1,none⟩)):=by kernel_rfl
theorem xC(b:Nat):lD prog 108 (.pointer (some ⟨b,0,none⟩)) (.int .u8 2)=some (.pointer (some ⟨b,2,none⟩)):=by kernel_rfl
theorem AHI:agg? prog 107=some false:=by kernel_rfl
theorem a88:agg? prog 88=some false:=by kernel_rfl
theorem a51:agg? prog 51=some false:=by kernel_rfl
theorem Oh{W W0:CW}{n:Nat}{z:Array Value}{e:TypeId}(h:W0.obj W.sz=some (.cells .nil n z e))(hz:G0 (some (.cells .nil n z e)) (some (.cells .nil n z e))=true):lH (.pointer (some ⟨W.sz,0,none⟩)) ((W.new (.cells .nil n z e)).obj W.sz) W0=true:=by
 show G0 (W0.obj W.sz) ((W.new (.cells .nil n z e)).obj W.sz)=true;rw[h,A7,aad rfl];exact hz
theorem rZ{p:ZY}{W:CW}{vb:Value}{bs:List Int}{n:Int}(h:Dk p W vb bs)(hC:Ru p.c)(Aa:Az p.c=true)(hs:BL p.c p.l=true)(LP:∀x,x∈p.h→A8 p.c x p.h.length=true)(Jb:∀s,s∈p.l→s.map.length<100000)(hhl:p.h.length<100000)(kT:p.o.length<100000)(Xq:p.ts.length<100000){i:Nat}(hn:n=((i+1:Nat):Int))(H2:i<p.h.length)
  (Tu:p.ts.any (λu=>decide (u=(AM p.l p.h[i]).type))=true) (dS:bs.length≤500000) (hdv:p.dvs=[.nilFunc,.func (.func 106) #[] #[],.func (.func 107) #[] #[]]) :
  AX prog Bf 60 [.int .i64 n,.pointer (some ⟨p.br,0,none⟩),.pointer (some ⟨p.bh,0,none⟩),.pointer (some ⟨p.tX,0,none⟩),.pointer (some ⟨p.QN,0,none⟩),.pointer (some ⟨p.bk,0,none⟩),.pointer (some ⟨p.bd,0,none⟩)] W (R_ p (bs++EF p.c p.ts p.o (AM p.l p.h[i]))):=by
 subst hn;refine AHA ?_;rw[AG_];have kn:Kp W (W.new (.cells .nil 2 #[.string ⟨#[]⟩,.slice none 0 0] 56)):=.new _;have tn:=h.top.new (.cells .nil 2 #[.string ⟨#[]⟩,.slice none 0 0] 56);have NT:(W.new (.cells .nil 2 #[.string ⟨#[]⟩,.slice none 0 0] 56)).obj W.sz=some (.cells .nil 2 #[.string ⟨#[]⟩,.slice none 0 0] 56):=by rw[A7,aad rfl]
 have tY:Aq (W.new (.cells .nil 2 #[.string ⟨#[]⟩,.slice none 0 0] 56)) W.sz 56 [.string ⟨#[]⟩,.slice none 0 0]:=⟨.nil,2,_,NT,rfl,λk v hk=>by
  match k,hk with
  |0,hk=>cases hk;rfl
  |1,hk=>cases hk;rfl⟩
 have iQ:(W.new (.cells .nil 2 #[.string ⟨#[]⟩,.slice none 0 0] 56)).sz=W.sz+1:=rfl;have M4:∀W0:CW,W0.obj W.sz=some (.cells .nil 2 #[.string ⟨#[]⟩,.slice none 0 0] 56)→lH (.pointer (some ⟨W.sz,0,none⟩)) ((W.new (.cells .nil 2 #[.string ⟨#[]⟩,.slice none 0 0] 56)).obj W.sz) W0=true:=λW0 h0=>Oh h0 rfl;have ZF:=h.VP kn tn;generalize hWn:W.new (.cells .nil 2 #[.string ⟨#[]⟩,.slice none 0 0] 56)=Wn at kn tn NT tY iQ M4 ZF ⊢;have D:=ZF.d.kp h.tA ZF.kp;obtain⟨vh,hbh,hh⟩:=D.hs;have hx:=ck H2;obtain⟨ah,ch,rfl,hhc⟩:=id hh;obtain⟨q,rfl,hq⟩:=hhc i _ hx;have l83:ld prog 83 (.pointer (some ⟨p.br,0,none⟩)) Wn=some (.agg [.map (some p.w),.map (some p.r)].toArray):=Bn (vs:=[.map (some p.w),.map (some p.r)]) (a:=⟨p.br,0,none⟩) a83 wR rfl (by omega) D.rl;have y8:ld prog 24 (.pointer (some ⟨p.bh,0,none⟩)) Wn=some (.slice (some q) p.h.length ch):=AD yy (a:=⟨p.bh,0,none⟩) hbh;obtain⟨vx,hu,T6,AHF⟩:=lX tn (.refl _) hq;rw[l83,y8];simp only[AA,Ae];rw[show((i+1:Nat):Int)-1=(i:Nat) by omega,wrap64 (by omega) (by omega),Ay VT LD H2];simp only[AA,hu];have AHJ:=LP _ (aaG H2);refine(w4 (r:=p.r) tn D.sp T6 (N6 hs AHJ) Jb).mono λen W0 ⟨k0,t0,vv,FN,ZD,VY⟩=>?_;subst FN;simp only[BO];have hyt:=CR hs AHJ;obtain⟨iy,sy,Y⟩:=FV hyt;generalize hy:AM p.l p.h[i]=y at ZD hyt Y Tu ⊢;obtain⟨av,cv,rfl,_⟩:=id ZD;have AJr:W.sz<Wn.sz:=by omega
 have QJ:=tY.ext tn k0;refine⟨trivial,?_⟩;refine Fg LD (a:=⟨W.sz,0,none⟩) (ws:=[.string y.type,.slice av y.AL.length cv]) rfl rfl QJ (by simp) λW2 KU Ey=>?_;have KU:Dn W.sz W0 W2:=KU;have Ey:Aq W2 W.sz 56 [.string y.type,.slice av y.AL.length cv]:=Ey;refine⟨by simp only[and_self],⟨⟨trivial,M4 W0 (by rw[k0.obj _ AJr];exact NT),M4 Wn NT⟩,trivial⟩,?_⟩;have hpA:=h.kp.sz;have Ao:=h.lt;have AJs:=QJ.lt t0;have E2:Dk p W2 vb bs:=(ZF.VP k0 t0).of ((ZF.kp.trans k0).A6 hpA KU) (t0.A6 AJs KU) λi hi=>KU.obj i (by have:=Ao i hi;omega)
 have TB:At 1 (Eh W2) (.slice av y.AL.length cv) y.AL:=ZD.imp λb o x hr=>⟨by
  by_cases hb:b=W.sz
  ·subst hb;have:=QJ.J8 hr.1
   match o,this with
   |0,this=>cases this
   |1,this=>cases this
  ·rw[KU.cell hb];exact hr.1,hr.2⟩
 have hkW:∀i,p.Has vb i→i<W.sz:=Ao;clear ZD QJ M4 VY tY NT;have y9:∀W' Jf ou,Dk p W' Jf ou→ld prog 88 (.pointer (some ⟨p.tX,0,none⟩)) W'=some (.pointer (some ⟨p.wb,0,none⟩)):=λW' Jf ou E=>AD a88 (a:=⟨p.tX,0,none⟩) (E.wv.cell rfl);have q51:∀W' Jf ou,Dk p W' Jf ou→ld prog 51 (.pointer (some ⟨p.QN,0,none⟩)) W'=some p.vt:=λW' Jf ou E=>AD a51 (a:=⟨p.QN,0,none⟩) (E.ty.cell rfl);have q9:∀W',Aq W' W.sz 56 [.string y.type,.slice av y.AL.length cv]→ld prog 9 (.pointer (some ⟨W.sz,0,none⟩)) W'=some (.string y.type):=λW' hB=>AD a9 (a:=⟨W.sz,0,none⟩) (hB.cell rfl);have q40:∀W',Aq W' W.sz 56 [.string y.type,.slice av y.AL.length cv]→ld prog 40 (.pointer (some ⟨W.sz,0+1,none⟩)) W'=some (.slice av y.AL.length cv):=λW' hB=>AD Uv (a:=⟨W.sz,0+1,none⟩) (hB.cell rfl);simp only[y9 W2 _ _ E2,q51 W2 _ _ E2,C4,Je,G6,AA,q9 W2 Ey];refine A4 (X9 (JE (f:=λs=>Value.string s) E2.tys) (by omega)) ?_
 obtain⟨z,hz,uT⟩:∃z:Nat,Jz p.ts (λx=>decide (x=y.type))=(z:Int)∧z<100000:=by
  unfold Jz
  cases hf:p.ts.findIdx? (λx=>decide (x=y.type))with
  |none=>
   rw[aaL]at hf;obtain⟨u,hu,UQ⟩:=aaH.1 Tu;rw[hf u hu]at UQ;cases UQ
  |some i=>
   have:=(aaq.1 hf).1;exact⟨i,rfl,by omega⟩
 rw[hz];refine(E2.num (n:=z) (by omega) (by omega)).mono λen W5 ⟨⟨ve,FN⟩,c5,vb5,E5,n5⟩=>?_;subst FN;simp only[BO];have NR:=c5.IA E2.top (N' E2 Ey (by decide) (by decide)) Ey;have hv5:At 1 (Eh W5) (.slice av y.AL.length cv) y.AL:=TB.imp λb o x hr=>⟨X' E2 c5 hr.1,hr.2⟩
 have D5:=E5.d.kp E5.tA E5.kp;refine⟨by simp only[true_and,and_true];exact y9 W2 _ _ E2,?_⟩;have Br:=gx Aa Y.si Y.many;have ALg:=EG (n:=z) (by omega);have AJt:=EG (n:=y.AL.length) (by omega);obtain⟨ea,eb,ef,eg,MJ⟩:=D5.cat.sh.elem Y.ti
 have LP:EF p.c p.ts p.o y=CD z++(if elemAt p.c iy≠0 then CD y.AL.length else[])++Fj p.c p.o iy y.AL y.AL.length:=by
  unfold EF;rw[Y.ti];simp only[hz,abg]
 rw[LP];generalize Hm:AQ prog Tryz.f60 (R_ p (bs++(CD z++(if elemAt p.c iy≠0 then CD y.AL.length else[])++Fj p.c p.o iy y.AL y.AL.length)))=KK
 have k9:∀(W6:CW) (vb6:Value) (e:Env),Dk p W6 vb6 (bs++CD z++(if elemAt p.c iy≠0 then CD y.AL.length else[]))→Aq W6 W.sz 56 [.string y.type,.slice av y.AL.length cv]→At 1 (Eh W6) (.slice av y.AL.length cv) y.AL→e 3=.pointer (some ⟨p.tX,0,none⟩)→e 5=.pointer (some ⟨p.bk,0,none⟩)→e 6=.pointer (some ⟨p.bd,0,none⟩)→e 8=.pointer (some ⟨W.sz,0,none⟩)→(dn none KK) .normal e [] W6:=by
  intro W6 vb6 e E6 Ms hv6 g3 g5 g6 g8;have D6:=E6.d.kp E6.tA E6.kp;simp only[wu,BI,g5,g8];rw[Bn (vs:=[.map (some p.r1),.map (some p.r2)]) (a:=⟨p.bk,0,none⟩) a78 U1 rfl (by omega) D6.k,Bn (vs:=[.string y.type,.slice av y.AL.length cv]) (a:=⟨W.sz,0,none⟩) gY LD rfl (by omega) Ms.cells];simp only[AA];refine(R7 (r1:=p.r1) (r2:=p.r2) (ty:=y.type) E6.top).mono λen W8 ⟨k8,t8,bk',bx,FN,qD,hbx,tR,tS⟩=>?_;subst FN;simp only[BO];have AJW:=tR.lt t8;have AJX:=tS.lt t8;have h68:=k8.sz;have ALh:=Ms.lt E6.top;have AJu:=E6.lt
  refine dj (bk:=bk') (bx:=bx) (r1:=p.r1) (r2:=p.r2) (n:=y.AL.length) (ix:=iy) (c:=p.c) (ty:=y.type) (a1:=9) (a2:=10) t8 rfl Y.ti (by omega) (λhe=>by
     have:=Lt Y.si he Y.many;omega) (λro e0 ds K W=>by rw[ADU]) (by decide)
    (λj W'=>∃Jf,Dk p W' Jf (bs++CD z++(if elemAt p.c iy≠0 then CD y.AL.length else[])++Fj p.c p.o iy y.AL j)∧Aq W' W.sz 56 [.string y.type,.slice av y.AL.length cv]∧Aq W' bk' 78 [.map (some p.r1),.map (some p.r2)]∧Aq W' bx 56 [.string y.type,.slice av y.AL.length cv]∧At 1 (Eh W') (.slice av y.AL.length cv) y.AL∧W'.obj W8.sz=some .deferred∧W8.sz+1<W'.sz∧∀i,p.Has Jf i→i≠W8.sz∧i≠W8.sz+1)
    (λ_ _=>False)
    (λj W' ⟨Jf,E,b1,b2,b3,v,d,z,n⟩=>⟨b2.cell rfl,b2.cell rfl,(E.d.kp E.tA E.kp).cat,b3.cell rfl,_,_,b3.cell rfl⟩) (λj W1 W2 ⟨Jf,E,b1,b2,b3,v,d,z,n⟩ hu hc=>?_) (λ_ _ _ hf=>hf.elim) (λW2 k2 t2 z2 hd=>?_) (λj W1 Kb E hE hE1 hE2 hj ⟨Jf,E',b1,b2,b3,v,d,zl,n⟩ M_ hn hr hx=>?_) (λW' ⟨Jf,E,b1,b2,b3,v,d,zl,n⟩=>?_) (λ_ _ hf=>hf.elim)
  ·have h1:=E.kp.sz;have hpw:p.A.sz≤W8.sz+1:=by have:=E6.kp.sz;omega
   exact⟨Jf,E.of (E.kp.A6 hpw hu) (E.top.A6 z hu) (λi hi=>hu.obj i (n i hi).2),b1.congr (hu.obj _ (by omega)),b2.congr (hu.obj _ (by omega)),b3.congr (hu.obj _ (by omega)),v.imp λb o x hr=>⟨hc _ _ _ hr.1,hr.2⟩,by rw[hu.obj _ (by omega)];exact d,by rw[hu.sz];exact z,n⟩
  ·have k62:=k8.trans k2
   refine⟨vb6,?_,Ms.ext E6.top k62,tR.ext t8 k2,tS.ext t8 k2,hv6.imp λb o x hr=>hr.kp E6.top k62,hd,by omega,λi hi=>?_⟩
   ·have:=E6.VP k62 t2
    simpa[Fj]using this
   ·have:=AJu i hi;omega
  ·have ez:=ck hj;obtain⟨_,_,e3,hvc⟩:=id v
   cases e3
   obtain⟨q,rfl,hq⟩:=hvc j _ ez;have gg3:=(hE 3 (by decide) (by decide) (by decide) (by decide)).trans g3;have gg6:=(hE 6 (by decide) (by decide) (by decide) (by decide)).trans g6;have gg8:=(hE 8 (by decide) (by decide) (by decide) (by decide)).trans g8;have l3:ld prog 3 (.pointer (some ⟨q.block,q.off+j*1,none⟩)) W1=some (.int .i64 y.AL[j]):=AD a3 (a:=⟨q.block,q.off+j*1,none⟩) hq.1
   have mQ:=QD (c:=p.c) (o:=p.o) (i:=iy) (vs:=y.AL) kT (λk n hx hk=>by
    rcases Lx Aa Y hx with h|h
    ·exact(hk h.1).elim
    ·exact h.2) j
   have Sh:(if elemAt p.c iy≠0 then CD y.AL.length else[]).length≤8:=by split<;>simp[AJt]
   have S9:(bs++CD z++(if elemAt p.c iy≠0 then CD y.AL.length else[])++Fj p.c p.o iy y.AL j).length<700000:=by
    rw[aah,aah,aah];omega
   have ov:∀(e':Env) (FG:List Deferred) (W3:CW) (vb3:Value),Bm (oq p.wb Jf) W1 W3→Ag W3→L5 W3 p.wb p.rest vb3 (bs++CD z++(if elemAt p.c iy≠0 then CD y.AL.length else[])++Fj p.c p.o iy y.AL j++Tv p.o (A0 p.c iy j) y.AL[j])→(∀i,Bh vb3 i→Bh Jf i∨W1.sz≤i)→Kb .normal e' FG W3:=by
    intro e' FG W3 vb3 c3 t3 rJ ak
    have H0:∀i,oq p.wb Jf i→i≠W8.sz∧i≠W8.sz+1:=by
     rintro i (rfl|hi)
     ·exact n _ (.inr (.inr (.inr (.inr (.inr (.inr (.inr (.inl rfl))))))))
     ·exact n _ (.inr (.inr (.inr (.inr (.inr (.inr (.inr (.inr hi))))))))
    refine hn e' FG W3 (c3.obj _ (by omega) λhs=>(H0 _ hs).2 rfl) ⟨vb3,?_,c3.IA E'.top (N' E' b1 (by decide) (by decide)) b1,c3.IA E'.top (N' E' b2 (by decide) (by decide)) b2,c3.IA E'.top (N' E' b3 (by decide) (by decide)) b3,v.imp λb o x hr=>⟨X' E' c3 hr.1,hr.2⟩,by rw[c3.obj _ (by omega) λhs=>(H0 _ hs).1 rfl];exact d,by have:=c3.sz;omega,λi hi=>?_⟩
    ·have:=E'.emit c3 t3 rJ ak;unfold Fj;rw[ez]
     simpa using this
    ·rcases hi with hi|hi|hi|hi|hi|hi|hi|hi|hi
     ·exact n _ (.inl hi)
     ·exact n _ (.inr (.inl hi))
     ·exact n _ (.inr (.inr (.inl hi)))
     ·exact n _ (.inr (.inr (.inr (.inl hi))))
     ·exact n _ (.inr (.inr (.inr (.inr (.inl hi)))))
     ·exact n _ (.inr (.inr (.inr (.inr (.inr (.inl hi))))))
     ·exact n _ (.inr (.inr (.inr (.inr (.inr (.inr (.inl hi)))))))
     ·exact n _ (.inr (.inr (.inr (.inr (.inr (.inr (.inr (.inl hi))))))))
     ·rcases ak i hi with hi|hi
      ·exact n _ (.inr (.inr (.inr (.inr (.inr (.inr (.inr (.inr hi))))))))
      ·omega
   rw[ADV,gg3,gg6,gg8,hE1,hE2]
   rcases Lx Aa Y ez with hk|hk
   ·have ADh:ld prog 107 (.pointer (some ⟨p.bd,2,none⟩)) W1=some (.func (.func 107) #[] #[]):=AD AHI (a:=⟨p.bd,2,none⟩) (E'.dv.cell (by rw[hdv];rfl));rw[hk.1]at ov ⊢;simp only[xC,ADh,y9 W1 _ _ E',FJ,AA,q40 W1 b1,Ay KB s3 hj,l3];refine G5 Tryz.func107 (by kernel_rfl) ((AAT E'.top E'.buf E'.wk kT S9).mono λen W3 ⟨⟨v3,he3⟩,c3,t3,vb3,rJ,ak⟩=>?_);subst he3;refine⟨by simp only[and_self],?_⟩
    try refine⟨trivial,?_⟩
    exact ov _ _ W3 vb3 c3 t3 (by simpa[Tv,ZY.rest]using rJ) ak
   ·have ADh:ld prog 107 (.pointer (some ⟨p.bd,1,none⟩)) W1=some (.func (.func 106) #[] #[]):=AD AHI (a:=⟨p.bd,1,none⟩) (E'.dv.cell (by rw[hdv];rfl));rw[hk.1]at ov ⊢;simp only[xB,ADh,y9 W1 _ _ E',FJ,AA,q40 W1 b1,Ay KB s3 hj,l3];refine G5 Tryz.func106 (by kernel_rfl) ((w9 E'.top E'.buf (by omega) (by omega) S9).mono λen W3 ⟨⟨v3,he3⟩,c3,t3,vb3,rJ,ak⟩=>?_);subst he3;refine⟨by simp only[and_self],?_⟩
    try refine⟨trivial,?_⟩
    exact ov _ _ W3 vb3 c3 t3 (by simpa[Tv,ZY.rest]using rJ) ak
  ·simp only[zw];rw[←Hm];refine J9 d ?_;have KU:Dn W8.sz W' (W'.A6 W8.sz .dead):=Dn.of _ _ _;have hpw:p.A.sz≤W8.sz:=by have:=E6.kp.sz;omega
   refine D0 (by kernel_rfl) _ _ (.inl rfl) _ _ ⟨⟨_,rfl⟩,Jf,?_⟩;have:=E.of (E.kp.A6 hpw KU) (E.top.A6 (by omega) KU) (λi hi=>KU.obj i (n i hi).1)
   simpa using this
 have l75:ld prog 75 (.pointer (some ⟨p.bk,0,none⟩)) W5=some (.map (some p.r1)):=AD wC (a:=⟨p.bk,0,none⟩) (D5.k 0 _ rfl);simp only[Hl,AA,l75,q9 W5 NR,MJ,Oe,CM];refine⟨trivial,?_⟩
 refine AH (λhe=>?_) (λhe=>?_)
 ·have he:elemAt p.c iy≠0:=by simpa using he
  simp only[y9 W5 _ _ E5,C4,Je,FJ,AA,q40 W5 NR,Aj KB];refine(E5.num (n:=y.AL.length) (by omega) (by rw[aah];omega)).mono λen W6 ⟨⟨ve,FN⟩,c6,vb6,E6,n6⟩=>?_;subst FN;simp only[BO];refine⟨by simp only[and_self],?_⟩
  try refine⟨trivial,?_⟩
  refine k9 W6 vb6 _ (by rw[aad he];exact E6) (c6.IA E5.top (N' E5 NR (by decide) (by decide)) NR) (hv5.imp λb o x hr=>⟨X' E5 c6 hr.1,hr.2⟩) rfl rfl rfl rfl
 ·have he:¬elemAt p.c iy≠0:=by simpa using he
  refine k9 W5 vb5 _ (by rw[aac he,aaR];exact E5) NR hv5 rfl rfl rfl rfl
theorem xD{p:ZY}{W:CW}{vb:Value}{bs:List Int}(h:Dk p W vb bs)(hC:Ru p.c)(Aa:Az p.c=true)(hs:BL p.c p.l=true)(H:Hp p.c p.h p.o)(Jb:∀s,s∈p.l→s.map.length<100000)(aw:p.h.length≤1000)(ADi:((AJ p.h p.o).flatMap λx=>EF p.c p.ts p.o (AM p.l x)).length≤161600)(Xq:p.ts.length<100000)
  (Tu:∀x,x∈AJ p.h p.o→p.ts.any (λu=>decide (u=(AM p.l x).type))=true) (dS:bs.length≤200000) (hdv:p.dvs=[.nilFunc,.func (.func 106) #[] #[],.func (.func 107) #[] #[]]) :
  AX prog Bf 59 [.pointer (some ⟨p.wb,0,none⟩),p.vo,.func (.func 60) #[] #[.pointer (some ⟨p.br,0,none⟩),.pointer (some ⟨p.bh,0,none⟩),.pointer (some ⟨p.tX,0,none⟩),.pointer (some ⟨p.QN,0,none⟩),.pointer (some ⟨p.bk,0,none⟩),.pointer (some ⟨p.bd,0,none⟩)]] W
   (R_ p (bs++CD p.o.length++(AJ p.h p.o).flatMap λx=>EF p.c p.ts p.o (AM p.l x))):=by
 refine AG' ?_;rw[AG9];have kT:=H.found.len;have H2:(DO p.o).length=p.o.length*1:=by unfold DO;rw[aau];omega
 rw[JG KB h.wk.own (by omega) H2];simp only[AA];refine(h.num (n:=p.o.length) (by omega) (by omega)).mono λen W1 ⟨⟨v,he⟩,_,tW,h1,_⟩=>?_;subst he;simp only[BO];rw[JG KB h1.wk.own (by omega) H2];simp only[AA];have h8:=EG (n:=p.o.length) (by omega);refine EZ (λi e ds W'=>ds=[]∧∃Jf,Dk p W' Jf (bs++CD p.o.length++(AJ p.h (p.o.take i)).flatMap λx=>EF p.c p.ts p.o (AM p.l x))∧e 2=.func (.func 60) #[] #[.pointer (some ⟨p.br,0,none⟩),.pointer (some ⟨p.bh,0,none⟩),.pointer (some ⟨p.tX,0,none⟩),.pointer (some ⟨p.QN,0,none⟩),.pointer (some ⟨p.bk,0,none⟩),.pointer (some ⟨p.bd,0,none⟩)]∧e 12=p.vo∧e 13=.int .i64 p.o.length∧e 14=.int .i64 i) p.o.length ⟨rfl,tW,by simpa[AJ]using h1,rfl,rfl,rfl,rfl⟩ ?_;rintro i e ds W' hi ⟨rfl,Jf,h',g2,rX,g13,g14⟩;rw[ADT,g2,rX,g13,g14];simp only[Af,AA]
 refine Hx (λAo=>?_) (λJi=>?_)
 ·have hx:=ck Ao;obtain⟨w,hw,aN,_⟩:=H.at Ao;have U0:=LH H Ao hw aN;obtain⟨a,cap,xA,hc⟩:=JE (f:=λn=>Value.int .i64 n) h'.wk.own;obtain⟨q,rfl,hq⟩:=hc i _ hx;rw[xA,Ay KB s3 Ao];simp only[AA];rw[AD a3 (a:=⟨q.block,q.off+i*1,none⟩) hq];simp only[AA]
  have M0:p.h[w]∈AJ p.h p.o:=by
   have:p.h[w]∈AJ p.h (p.o.take (i+1)):=by rw[U0];simp
   unfold AJ at this ⊢;obtain⟨v,hv,hx⟩:=abo.1 this;exact abo.2 ⟨v,abi hv,hx⟩
  have ALi:((AJ p.h (p.o.take i)).flatMap λx=>EF p.c p.ts p.o (AM p.l x)).length≤161600:=by
   have e:AJ p.h p.o=AJ p.h (p.o.take i)++AJ p.h (p.o.drop i):=by
    unfold AJ;rw[←aa4,abn]
   rw[e,aa4,aah]at ADi;omega
  refine G5 Tryz.func60 (by kernel_rfl) ((rZ h' hC Aa hs H.ok Jb (by omega) (by omega) Xq hw aN (Tu _ M0) (by rw[aah,aah];omega) hdv).mono λen W2 ⟨⟨v,he⟩,vb2,h2⟩=>?_);subst he;simp only[BO,wq,BI,IW];simp only[AG,AN,Nat.reduceEqDiff,↓reduceIte,g14,AO,AA];refine⟨Ao,trivial,vb2,?_,g2,rX.trans (by rw[xA]),g13,by rw[Dy (by omega)]⟩;rw[U0,aa4,←aaO]
  simpa using h2
 ·have U0:p.o.take i=p.o:=aaS (by omega);rw[U0]at h';simp only[IJ,QV,aaA];exact D0 (by kernel_rfl) _ _ (.inl rfl) _ _ ⟨⟨_,rfl⟩,Jf,h'⟩
theorem bA{t:TypeId}{r:Nat}{k:Value}{ok:Bool}{W W':CW}(h:W'.obj r=W.obj r):Sq prog t (.map (some r)) k ok W'=Sq prog t (.map (some r)) k ok W:=by
 unfold Sq
 cases prog.underlying t with
 |none=>rfl
 |some d=>cases d<;>simp only[h]
theorem xE{l:List Bq}{s:ByteArray}:(l.find? λx=>decide (Bq.to x=s)).isSome=l.any λx=>decide (x.to=s):=by
 rw[abm,acM,aaH]
structure AHK(A:CW)(bk br bh r1 r2 w r:Nat)(c:List AV)(l:List Bq)(h:List BC)(o:List Int):Prop where
 top:Ag A
 d:X8 A bk br bh r1 r2 w r c l h
 to:PM Bq.to A r l
 sok:BL c l=true
 sm:∀s,s∈l→s.map.length<100000
 H:Hp c h o
theorem re{A W0:CW}{K:AB}{e:Env}{bk br bh r1 r2 w r QN:Nat}{vo:Value}{c:List AV}{l:List Bq}{h:List BC}{o:List Int}(I:AHK A bk br bh r1 r2 w r c l h o)(kA:Kp A W0)(t0:Ag W0)(QJ:Aq W0 QN 51 [.slice none 0 0])(iH:A.sz≤QN)(wN:C' W0 3 1 vo (DO o))
  (g6:e 6=.pointer (some ⟨bh,0,none⟩)) (rX:e 12=.pointer (some ⟨br,0,none⟩)) (g16:e 16=.pointer (some ⟨QN,0,none⟩)) (g60:e 60=vo) (g61:e 61=.int .i64 o.length) (g62:e 62=.int .i64 0)
  (df:PL l h o=true→∀e' W',Kp A W'→Ag W'→e' 8=.slice none 0 0→e' 9=.int .i64 214→K .ret e' [] W')
  (H0:PL l h o=false→∀e' W' vt,Bm (·=QN) W0 W'→Ag W'→DR [6,10,12,15,16] e e'→Aq W' QN 51 [vt]→C' W' 9 1 vt (strs (C3 l (AJ h o)))→BZ W0.sz vt→K (.exit 0) e' [] W') :
  Gi prog Bf none 17 127 (.loop (GB prog 17 0)) e [] W0 K:=by
 have kT:=I.H.found.len;have hhs:=I.H.small;have hsA:=kA.sz;have ALj:=QJ.lt t0
 refine EZ (λi e' FG W'=>FG=[]∧∃vt,Bm (·=QN) W0 W'∧Ag W'∧DR [6,10,12,15,16,60,61] e e'∧e' 62=.int .i64 i∧Aq W' QN 51 [vt]∧C' W' 9 1 vt (strs (Kq l h o i))∧BZ W0.sz vt∧((AJ h (o.take i)).any λx=>l.any λs=>decide (s.to=x.type))=false) o.length
  ⟨rfl,_,.refl _ _,t0,.refl _ _,g62,QJ,C'.nil,BZ.nil _ _ _,rfl⟩ ?_
 rintro i e' FG W' hi ⟨rfl,vt,Ic,t',R5,q62,hB,htv,Wm,Bw⟩;have q6:=(R5 6 (by decide)).trans g6;have q12:=(R5 12 (by decide)).trans rX;have q16:=(R5 16 (by decide)).trans g16;have q60:=(R5 60 (by decide)).trans g60;have q61:=(R5 61 (by decide)).trans g61;have k':Kp A W':=Bm.kp kA Ic λj hj=>by omega
 have D:=I.d.kp I.top k';have AJv:=Ic.own t0 wN λj hj he=>by subst he;have:=Ba QJ (Df wN hj);cases this
 obtain⟨ao,co,rfl,hoc⟩:=JE (f:=λn=>Value.int .i64 n) AJv;have jm:=hB.lt t';rw[ADP,q6,q12,q16,q60,q61,q62];simp only[Af,AA]
 refine Hx (λAo=>?_) (λJi=>?_)
 ·have hx:=ck Ao;obtain⟨w',hw,aN,_⟩:=I.H.at Ao;have U0:=LH I.H Ao hw aN;obtain⟨q,rfl,hq⟩:=hoc i _ hx;obtain⟨vh,hbh,hh⟩:=D.hs;have Ss:=ck aN;obtain⟨ah,ch,rfl,hhc⟩:=id hh;obtain⟨p,rfl,hp⟩:=hhc w' _ Ss;have l3:∀W1,Kp W' W1→ld prog 3 (.pointer (some ⟨q.block,q.off+i*1,none⟩)) W1=some (.int .i64 ((w'+1:Nat):Int)):=λW1 k1=>AD a3 (a:=⟨q.block,q.off+i*1,none⟩) (k1.cell t' (by rw[←hw];exact hq));have l81:∀W1,Kp W' W1→ld prog 81 (.pointer (some ⟨br,0+1,none⟩)) W1=some (.map (some r)):=λW1 k1=>AD a81 (a:=⟨br,0+1,none⟩) (k1.cell t' (D.rl 1 _ rfl));have y8:∀W1,Kp W' W1→ld prog 24 (.pointer (some ⟨bh,0,none⟩)) W1=some (.slice (some p) h.length ch):=λW1 k1=>AD yy (a:=⟨bh,0,none⟩) (k1.cell t' hbh);have l9:∀W1,Kp W' W1→ld prog 9 (.pointer (some ⟨p.block,p.off+w'*2,none⟩)) W1=some (.string h[w'].type):=λW1 k1=>AD a9 (a:=⟨p.block,p.off+w'*2,none⟩) (k1.cell t' hp.type)
  have AJw:CF prog .sub 3 true (.int .i64 ((w'+1:Nat):Int)) (.int .i64 1)=some (.int .i64 (w':Nat)):=by
   rw[Ae,show((w'+1:Nat):Int)-1=(w':Nat) by omega,wrap64 (by omega) (by omega)]
  have hto:PM Bq.to W' r l:=I.to.kp I.top k';obtain⟨ws,L,fo,Nb⟩:=dh hto h[w'].type;obtain⟨mto,AJx,_⟩:=id hto;have Z7:=AJx.lt t';rw[Ay KB s3 Ao];simp only[AA];rw[l3 W' (.refl _)];simp only[V4,AA];rw[l81 W' (.refl _),y8 W' (.refl _)];simp only[AA];rw[AJw];simp only[AA];rw[Ay VT LD aN];simp only[G6,AA];rw[l9 W' (.refl _)];simp only[AA];refine Ad L ?_;refine Ad (BV _ _) ?_;refine Ad (BW _ _) ?_;refine H' tP jy t' λW1 k1 t1 z1 P_=>?_;refine Fg jy (a:=⟨W'.sz,0,none⟩) Nb fo P_ (aaf 3) λW2 hu Ey=>?_;have hu:Dn W'.sz W1 W2:=hu;have k2:Kp W' W2:=k1.A6 (aaf _) hu;have t2:Ag W2:=t1.A6 (by rw[z1];exact acT _) hu;have hL1:Sq prog 81 (.map (some r)) (.string h[w'].type) true W1=some (.tuple #[.agg ws.toArray,.bool (l.find? λx=>decide (Bq.to x=h[w'].type)).isSome]):=by rw[←L];exact bA (k1.obj _ Z7)
  refine⟨by simp only[hL1,L,l9 W1 k1,l9 W' (.refl _),y8 W1 k1,y8 W' (.refl _),l81 W1 k1,l81 W' (.refl _),and_self],trivial,?_⟩;have X_:=k'.trans k2
  have M0:h[w']∈AJ h o:=by
   have:h[w']∈AJ h (o.take (i+1)):=by rw[U0];simp
   unfold AJ at this ⊢;obtain⟨v,hv,hx⟩:=abo.1 this;exact abo.2 ⟨v,abi hv,hx⟩
  rw[xE]
  refine AH (λHw=>?_) (λHw=>?_)
  ·simp only[T7,NP,IW,ey];refine df ?_ _ W2 X_ t2 rfl rfl;unfold PL;rw[aaH];exact⟨_,M0,Hw⟩
  ·have l83:ld prog 83 (.pointer (some ⟨br,0,none⟩)) W2=some (.agg [.map (some w),.map (some r)].toArray):=Bn (vs:=[.map (some w),.map (some r)]) (a:=⟨br,0,none⟩) a83 wR rfl (by omega) (D.rl.ext t' k2);obtain⟨vx,hux,T6,AHF⟩:=lX t' k2 hp;simp only[l83,y8 W2 k2,Ay VT LD aN,hux,AA];have JB:=aaG aN;have Tu:=I.H.ok _ JB;refine(w4 (r:=r) t2 (D.sp.kp t' k2) T6 (N6 I.sok Tu) I.sm).mono λen W3 ⟨k3,t3,vv,FN,ZD,VY⟩=>?_;subst FN;simp only[BO,AAB,AA];refine⟨by simp only[and_self],trivial,?_⟩;have k23:=k2.trans k3;have Fk:=hB.ext t' k23;have AAU:=htv.kp t' k23;have ALk:=g_ l h o i;have l51:∀W1,Kp W3 W1→ld prog 51 (.pointer (some ⟨QN,0,none⟩)) W1=some vt:=λW1 k1=>AD a51 (a:=⟨QN,0,none⟩) (k1.cell t3 (Fk.cell rfl));simp only[l51 W3 (.refl _),AA];refine A4 (PO (JE (f:=λs=>Value.string s) AAU) (by omega)) ?_;have ABh:=lZ (l:=l) I.H Ao hw aN
   have ow:((AJ h (o.take (i+1))).any λx=>l.any λs=>decide (s.to=x.type))=false:=by
    rw[U0,ac3,Bw];simp only[List.any_cons,Hw,List.any_nil,acS]
   have ADj:Bm (·=QN) W0 W3:=Ic.then (Bm.Io k23 (S:=(·=QN))) λ_ _ h=>h;simp only[AW,AA]
   cases hc:(Kq l h o i).any (λx=>decide (x=(AM l h[w']).type))with
   | false=>
    simp only[aaY,BB,l51 W3 (.refl _),AA];refine Mj gX s9 z9 rfl (by omega) by9 (by omega) (vk _) rfl rfl t3 AAU (by rw[Iq];omega) λu Wa jl W4 ka ta Lz t4 o4 n4=>?_;have Dg:¬Bh vt QN:=λhj=>by have:=Ba Fk (Df AAU hj);cases this
    have L4:=Lz.D4.IA t3 Dg Fk;refine Ac s51 (a:=⟨QN,0,none⟩) (v:=jl) (Ml o4) L4 (by simp) λW5 U4 NR=>?_;have U4:Dn QN W4 W5:=U4;have NR:Aq W5 QN 51 [jl]:=NR;have yp:=L4.lt t4;have hn4:=n4 W0.sz ADj.sz;simp only[T7,BI,IW];simp only[AG,AN,Nat.reduceEqDiff,↓reduceIte,q62,AO,AA]
    refine⟨Ao,trivial,jl,(ADj.then Lz.D4 λj hj hi=>?_).then U4.D4 λ_ _ h=>h,t4.A6 yp U4,(R5.trans (.put rfl)).trans (.put rfl),by rw[Dy (by omega)],NR,?_,hn4,ow⟩
    ·obtain⟨b,l',c',e1,e2⟩:=hi;have:=Wm b l' c' e1;omega
    ·have AJy:∀j,Bh jl j→¬j=QN:=λj hj he=>by subst he;have:=Ba L4 (Df o4 hj);cases this
     have:=U4.D4.own t4 o4 AJy;rw[ABh];unfold BS;rw[aac (by rw[hc];simp),Xt];exact this
   |true=>
    simp only[aav,AZ,T7,BI,IW];simp only[AG,AN,Nat.reduceEqDiff,↓reduceIte,q62,AO,AA];refine⟨Ao,trivial,vt,ADj,t3,(R5.trans (.put rfl)).trans (.put rfl),by rw[Dy (by omega)],Fk,?_,Wm,ow⟩;rw[ABh];unfold BS;rw[aad hc];exact AAU
 ·simp only[QV];have U0:o.take i=o:=aaS (by omega);rw[U0]at Bw;unfold Kq at htv;rw[U0]at htv;have AJz:=R5.trans (.put rfl:DR [6,10,12,15,16,60,61] e' (Env.of e' [(63,.bool (decide ((i:Int)<o.length)))]));refine H0 Bw _ W' vt Ic t' (λt ht=>AJz t ?_) hB htv Wm;simp only[aaE,acU,or_false]at ht ⊢;rcases ht with rfl|rfl|rfl|rfl|rfl<;>simp
theorem AAV{c:List AV}(Aa:Az c=true){s:ByteArray}{i:Nat}(h:Ah c s=some i):0<s.size:=by
 have H2:=DI h;obtain⟨h1,h2,_⟩:=aaq.1 h;unfold Az at Aa;simp only[dy,aaC]at Aa;have hb:=DS Aa.2.1 H2;unfold BP at hb;rw[ck H2]at hb;simp only[aaz,aa_]at hb;have:=hb.1.1;unfold Dj at this;simp only[dy,decide_eq_true_eq]at this;rw[←of_decide_eq_true h2];omega
theorem mR:CD 1=[1]:=by unfold CD;rfl
def xF(c:List AV)(l:List Bq)(h:List BC)(o:List Int):Prop:=h.length≤40∨((C3 l (AJ h o)).length≤100∧(EV c l h o).length≤3000)
theorem mS{p:ZY}{W:CW}{vb:Value}{K:AB}{e:Env}(h:Dk p W vb [])(Ig:p.ts=C3 p.l (AJ p.h p.o))(hC:Ru p.c)(Aa:Az p.c=true)(hs:BL p.c p.l=true)(H:Hp p.c p.h p.o)(Jb:∀s,s∈p.l→s.map.length<100000)(NB:p.h.length≤1000)(aw:xF p.c p.l p.h p.o)
  (g6:e 6=.pointer (some ⟨p.bh,0,none⟩)) (wE:e 10=.pointer (some ⟨p.bk,0,none⟩)) (rX:e 12=.pointer (some ⟨p.br,0,none⟩)) (g15:e 15=.pointer (some ⟨p.tX,0,none⟩)) (g16:e 16=.pointer (some ⟨p.QN,0,none⟩))
  (hK:∀e' W' v,Kp p.A W'→Ag W'→e' 8=v→e' 9=.int .i64 0→C' W' 5 1 v (BU (EV p.c p.l p.h p.o))→K .ret e' [] W'):(dm none K) .normal e [] W:=by
 have kT:=H.found.len
 have Hs:∀s,s∈p.ts→0<s.size∧s.size<1000:=λs Oq=>by
  rw[Ig]at Oq
  rcases QG p.l (AJ p.h p.o) [] Oq with h|⟨x,hx,rfl⟩
  ·cases h
  ·obtain⟨i,s,Y⟩:=FV (CR hs (H.ok _ (dX hx)));exact⟨AAV Aa Y.ti,vq hC Y.ti⟩
 have Xq:p.ts.length≤100:=by
  rcases aw with aw|aw
  ·have h1:=Lw p.l (AJ p.h p.o) [];have h2:=Hk p.h p.o;rw[Ig];unfold C3;simp only[aaP]at h1;omega
  ·rw[Ig];exact aw.1
 have ALl:(p.ts.flatMap Hi).length≤100*1008:=by
  have htx:=Tw p.ts λs hs=>(Hs s hs).2;have:p.ts.length*1008≤100*1008:=aaN _ Xq;omega
 have ADi:((AJ p.h p.o).flatMap λx=>EF p.c p.ts p.o (AM p.l x)).length≤161600:=by
  rcases aw with aw|aw
  ·have h1:=QH (l:=p.l) (t:=p.ts) (o:=p.o) (n:=p.h.length) Aa (by omega) (by omega) (AJ p.h p.o) λx hx=>CR hs (H.ok x (by
    unfold AJ at hx;obtain⟨v,_,hv⟩:=abo.1 hx
    cases hg:p.h[(v-1).toNat]? with
    |none=>rw[hg]at hv;cases hv
    |some y=>rw[hg]at hv;rw[dx.1 hv];exact aai hg))
   have h2:=Hk p.h p.o;have h3:(AJ p.h p.o).length*1616≤100*1616:=aaN _ (by omega);omega
  ·have:=aw.2;unfold EV at this;rw[Ig];simp only[aah]at this;omega
 have y9:∀(p':ZY) W' Jf ou,Dk p' W' Jf ou→ld prog 88 (.pointer (some ⟨p'.tX,0,none⟩)) W'=some (.pointer (some ⟨p'.wb,0,none⟩)):=λp' W' Jf ou E=>AD a88 (a:=⟨p'.tX,0,none⟩) (E.wv.cell rfl);have q51:∀W' Jf ou,Dk p W' Jf ou→ld prog 51 (.pointer (some ⟨p.QN,0,none⟩)) W'=some p.vt:=λW' Jf ou E=>AD a51 (a:=⟨p.QN,0,none⟩) (E.ty.cell rfl);simp only[rO,BI,g6,wE,rX,g15,g16];rw[y9 p W _ _ h];simp only[C4,Je,AA];refine(h.num (n:=1) (by omega) (by simp)).mono λen W1 ⟨⟨v,he⟩,_,tW,h1,_⟩=>?_;subst he;simp only[BO];rw[y9 p W1 _ _ h1,q51 W1 _ _ h1];simp only[C4,Je,AA];rw[mR]at h1;refine(w_ h1 Hs (by omega) (by simp)).mono λen W2 ⟨⟨v,he⟩,vb2,h2⟩=>?_;subst he;simp only[BO];refine⟨by simp only[and_self],trivial,?_⟩;refine Rt (rY h2.top) λW3 k3 t3=>?_;refine DM (ws:=[.nilFunc,.func (.func 106) #[] #[],.func (.func 107) #[] #[]]) AHH ADf rfl rfl rfl t3 λW4 k4 t4 z4 L4=>?_;have h4:=h2.VP (k3.trans k4) t4;have E4:Dk {p with bd:=W3.sz,bdt:=108,dvs:=[.nilFunc,.func (.func 106) #[] #[],.func (.func 107) #[] #[]]} W4 vb2 ([]++[1]++CD p.ts.length++p.ts.flatMap Hi):=⟨h4.kp,h4.top,h4.tA,h4.d,h4.wk,h4.wv,h4.ty,h4.tys,L4,⟨(by decide:(108:Nat)≠97),(by decide:(108:Nat)≠5)⟩,h4.buf,h4.ge⟩
 have l89:ld prog 89 (.pointer (some ⟨p.wb,0+1,none⟩)) W4=some (.pointer (some ⟨p.bw,0,none⟩)):=AD a89 (a:=⟨p.wb,0+1,none⟩) (h4.buf.b.cell rfl);have l40:ld prog 40 (.pointer (some ⟨p.bw,0,none⟩)) W4=some p.vo:=AD Uv (a:=⟨p.bw,0,none⟩) (h4.wk.w.cell rfl);rw[y9 p W4 _ _ h4];simp only[C4,Je,dp,AA];rw[l89];simp only[C4,R9,AA];rw[l40];simp only[AA];have hn8:=EG (n:=p.ts.length) (by omega)
 refine(xD E4 hC Aa hs H Jb NB ADi (by show p.ts.length<100000;omega) (λx hx=>by
  show p.ts.any _=true
  rw[Ig];exact aO p.l _ [] x hx) (by simp only[aah,aap,aaP];omega) rfl).mono λen W5 ⟨⟨v,he⟩,vb5,h5⟩=>?_
 subst he;simp only[BO];refine⟨by simp only[and_self],trivial,?_⟩;rw[y9 _ W5 _ _ h5];simp only[C4,Je,V5,AA];have l29:ld prog 29 (.pointer (some ⟨p.wb,0,none⟩)) W5=some vb5:=h5.buf.ld;rw[l29];simp only[AA];refine hK _ W5 vb5 h5.kp h5.top rfl rfl ?_;have:=h5.buf.own;unfold EV;rw[←Ig]
 simpa using this
theorem s97:De prog 97=some 4:=by kernel_rfl
theorem s88:De prog 88=some 1:=by kernel_rfl
theorem z51:Hr prog 51=some (.slice none 0 0):=by kernel_rfl
theorem AHL(a:Addr)(r1 r2:Nat):ZT prog 97 [(1,.pointer (some a)),(2,.agg [.map (some r1),.map (some r2)].toArray)]=some (.agg [.slice none 0 0,.pointer (some a),.map (some r1),.map (some r2)].toArray):=by kernel_rfl
theorem AP{K:Value→CW→Prop}{KP:List PanicEntry→CW→Prop}{v:Value}{W:CW}(h:K v W):BO K KP (.returned v) W:=h
theorem ri{c:List AV}{l:List Bq}{h:List BC}{root:Int}(hc:Az c=true)(hs:BL c l=true):Ja c l h root=Kt c h root:=by
 unfold Ja Kt PK;rw[hc,hs];rfl
theorem YA{v0 v1 v2:Value}{c:List AV}{l:List Bq}{h:List BC}{root:Int}{W:CW}(ht:Ag W)(hc:At 5 (JZ W) v0 c)(hC:Ru c)(hl:At 3 (XV W) v1 l)(nk:l.length<100000)(Jb:∀s,s∈l→s.map.length<100000)(hh:At 2 (JC W) v2 h)(hhl:h.length<100000)(AJ0:h.length≤40∨1000<h.length∨(Ja c l h root=0→PL l h (Au c l h root)=false→xF c l h (Au c l h root)))(hv:∀x,x∈h→x.AL.length<100000) :
  AX prog Bf 17 [v0,v1,v2,.int .i64 root] W (aP (Dz c l h root) W):=by
 refine AGu ?_;rw[AGt];obtain⟨ah,ch,rfl,_⟩:=id hh;refine Fy s24 ht λW0 k0 t0 z0 Ms=>?_;have Ms:Aq W0 W.sz 24 [.slice ah h.length ch]:=Ms;refine(N7 t0 (hc.imp λ_ _ _ hr=>hr.kp ht k0) hC).mono λen W1 ⟨k1,t1,r1,r2,FN,KE,Ty,Gk⟩=>?_;subst FN;refine AP ?_;refine Ad (BV _ _) ?_;refine Ad (BW _ _) ?_;unfold KH;refine DM (ws:=[.map (some r1),.map (some r2)]) z78 U1 rfl rfl rfl t1 λW4 k4 t4 z4 mT=>?_;have rN:=(k0.trans k1).trans k4;generalize Hm:AQ prog Tryz.f17 (aP (Dz c l h root) W)=KK
 have Ei:∀(e':Env) W' v n,Kp W W'→Ag W'→e' 8=v→e' 9=.int .i64 n→C' W' 5 1 v (BU (Dz c l h root).1)→(Dz c l h root).2=n→KK .ret e' [] W':=by
  intro e' W' v n k t h8 h9 ho hn;rw[←Hm,rP,h8,h9];exact⟨k,t,v,by rw[hn],ho⟩
 simp only[AW,AA]
 cases Aa:Az c with
 | false=>
  simp only[aaY,BB]
  have hw:Dz c l h root=([],210):=by
   unfold Dz Ja PK;rw[Aa];rfl
  exact Ei _ W4 _ 210 rN t4 rfl rfl (by rw[hw];exact C'.nil) (by rw[hw])
 | true=>
  simp only[aav,AZ];have a8:=(Gk Aa).kp t1 k4;rw[QK mT];simp only[AA];refine(iF t4 a8 hC (hl.imp λ_ _ _ hr=>hr.kp ht rN) nk Jb).mono λen W5 ⟨k5,t5,w,r,FN,I9⟩=>?_;subst FN;refine AP ?_;refine Ad (BV _ _) ?_;refine Ad (BW _ _) ?_;refine DM (ws:=[.map (some w),.map (some r)]) z83 wR rfl rfl rfl t5 λW8 k8 t8 z8 rj=>?_;have k48:=k5.trans k8;have k08:=rN.trans k48;simp only[AW,AA]
  cases hs:BL c l with
  | false=>
   simp only[aaY,BB]
   have hw:Dz c l h root=([],212):=by
    unfold Dz Ja PK;rw[Aa,hs];rfl
   exact Ei _ W8 _ 212 k08 t8 rfl rfl (by rw[hw];exact C'.nil) (by rw[hw])
  | true=>
   simp only[aav,AZ];have y8:ld prog 24 (.pointer (some ⟨W.sz,0,none⟩)) W8=some (.slice ah h.length ch):=AD yy (a:=⟨W.sz,0,none⟩) (((k1.trans k4).trans k48).cell t0 (Ms.cell rfl));rw[y8];simp only[AA];refine(rM t8 (hc.imp λ_ _ _ hr=>hr.kp ht k08) hC (hh.imp λ_ _ _ hr=>hr.kp ht k08) hv (by omega)).mono λen W9 ⟨k9,t9,r1',r2',FN,bB⟩=>?_;subst FN;refine AP ?_;refine Ad (BV _ _) ?_;refine Ad (BW _ _) ?_;unfold KH;refine DM (ws:=[.map (some r1'),.map (some r2')]) z78 U1 rfl rfl rfl t9 λA ZW tA z12 AJP=>?_;have k8A:=k9.trans ZW;have ox:=k08.trans k8A;have dr:=ri (h:=h) (root:=root) Aa hs;rw[←dr];simp only[CM,AA]
   by_cases hz:Ja c l h root=0
   ·obtain⟨_,_,mU,tV,KE⟩:=IP hz;obtain⟨NB,oy⟩:=IL mU;simp only[hz,bne_self_eq_false,AZ];obtain⟨hsw,zQ⟩:=I9 hs;have D:X8 A W1.sz W5.sz W.sz r1 r2 w r c l h:=⟨(mT.ext t4 (k48.trans k8A)).cells,(rj.ext t8 k8A).cells,a8.kp t4 (k48.trans k8A),hsw.kp t5 (k8.trans k8A),_,(((k1.trans k4).trans k48).trans k8A).cell t0 (Ms.cell rfl),hh.imp λ_ _ _ hr=>hr.kp ht ox⟩
    have hrA:PM Bq.to A r l:=zQ.kp t5 (k8.trans k8A);have kn:Kp A (A.new (.cells .nil 1 #[.pointer none] 88)):=.new _;have tn:=tA.new (.cells .nil 1 #[.pointer none] 88);have NT:(A.new (.cells .nil 1 #[.pointer none] 88)).obj A.sz=some (.cells .nil 1 #[.pointer none] 88):=by rw[A7,aad rfl]
    have tY:Aq (A.new (.cells .nil 1 #[.pointer none] 88)) A.sz 88 [.pointer none]:=⟨.nil,1,_,NT,rfl,λk v hk=>by
     match k,hk with
     |0,hk=>cases hk;rfl⟩
    have iQ:(A.new (.cells .nil 1 #[.pointer none] 88)).sz=A.sz+1:=rfl;have M4:∀W0:CW,W0.obj A.sz=some (.cells .nil 1 #[.pointer none] 88)→lH (.pointer (some ⟨A.sz,0,none⟩)) ((A.new (.cells .nil 1 #[.pointer none] 88)).obj A.sz) W0=true:=λW0 h0=>Oh h0 rfl;generalize hAn:A.new (.cells .nil 1 #[.pointer none] 88)=An at kn tn NT tY iQ M4 ⊢
    refine(rT (refs:=Gf c l h) (N:=h.length) tn tV KE hhl (λn _ _=>oo Aa hs oy) (λn=>w7 hC hs oy n) (λn W' k' t' VI NV K KP hk=>?_)).mono λen Vz ⟨wc,t13,bw,rp,vo,FN,xG,hbw,j3,AJ1,hF⟩=>?_
    ·refine G5 Tryz.func51 (by kernel_rfl) ((rU t' (D.kp tA (kn.trans k')) hC hs oy Jb VI NV hhl).mono λen W2 ⟨k2,t2,vr,FN,qP,hnr⟩=>?_);subst FN;exact hk vr W2 k2 t2 qP hnr
    subst FN;have hfo:CN (Gf c l h) h.length (start root) 0=Au c l h root:=rfl;rw[hfo]at xG hF;generalize ho:Au c l h root=o at xG hF;refine AP ?_;have ADk:=kn.trans wc;have lA:∀W',Kp A W'→ld prog 78 (.pointer (some ⟨W1.sz,0,none⟩)) W'=some (.agg [.map (some r1),.map (some r2)].toArray):=λW' k=>Bn (vs:=[.map (some r1),.map (some r2)]) (a:=⟨W1.sz,0,none⟩) a78 U1 rfl (by omega) (D.kp tA k).k;rw[lA Vz ADk];simp only[AA];refine Ad (AHL _ _ _) ?_;refine Fy s97 t13 λW15 wT t15 z15 hBb=>?_;have hBb:Aq W15 Vz.sz 97 [.slice none 0 0,.pointer (some ⟨bw,0,none⟩),.map (some r1),.map (some r2)]:=hBb;have ABi:=tY.ext tn (wc.trans wT);refine⟨trivial,?_⟩;refine Ac s88 (a:=⟨A.sz,0,none⟩) (v:=.pointer (some ⟨Vz.sz,0,none⟩)) rfl ABi (by simp) λT4 hu ADl=>?_;have hu:Dn A.sz W15 T4:=hu;have ADl:Aq T4 A.sz 88 [.pointer (some ⟨Vz.sz,0,none⟩)]:=ADl;have hAl:=ABi.lt t15;have ALm:A.sz<Vz.sz:=by have:=wc.sz;omega
    refine⟨by simp only[lA Vz ADk,lA An kn,and_self],?_⟩;refine⟨⟨⟨trivial,M4 W15 (by rw[(wc.trans wT).obj _ (by omega)];exact NT),M4 Vz (by rw[wc.obj _ (by omega)];exact NT),M4 An NT⟩,trivial⟩,?_⟩;have t16:=t15.A6 hAl hu;refine H' z51 s51 t16 λoz k17 t17 z17 ADm=>?_;have ADm:Aq oz T4.sz 51 [.slice none 0 0]:=ADm;have z16:T4.sz=Vz.sz+1:=by rw[hu.sz,z15]
    have AHM:Kp A oz:=((ADk.trans wT).A6 (aaf _) hu).trans k17;have BY:∀j,j<W15.sz→j≠A.sz→oz.obj j=W15.obj j:=λj hj Dg=>by rw[k17.obj j (by rw[hu.sz];exact hj),hu.obj j Dg]
    have mV:∀j,j<Vz.sz→j≠A.sz→oz.obj j=Vz.obj j:=λj hj Dg=>by rw[BY j (by omega) Dg,wT.obj j hj]
    have xH:C' oz 3 1 vo (DO o):=NA xG.own λj hj=>mV j (N5 t13 xG.own hj) (by obtain⟨b,l',c',e1,e2⟩:=hj;have:=AJ1 b l' c' e1;omega);have AHN:Aq oz bw 100 [vo,.map (some rp)]:=xG.w.congr (mV _ (xG.w.lt t13) (by omega));have AHO:Aq oz Vz.sz 97 [.slice none 0 0,.pointer (some ⟨bw,0,none⟩),.map (some r1),.map (some r2)]:=hBb.congr (BY _ (by omega) (by omega));have AJ2:j5 oz rp o:=xG.p.congr (mV _ (xG.p.lt t13) (by omega));have ADn:Aq oz A.sz 88 [.pointer (some ⟨Vz.sz,0,none⟩)]:=ADl.ext t16 k17;have l88:ld prog 88 (.pointer (some ⟨A.sz,0,none⟩)) oz=some (.pointer (some ⟨Vz.sz,0,none⟩)):=AD a88 (a:=⟨A.sz,0,none⟩) (ADn.cell rfl);have l89:ld prog 89 (.pointer (some ⟨Vz.sz,0+1,none⟩)) oz=some (.pointer (some ⟨bw,0,none⟩)):=AD a89 (a:=⟨Vz.sz,0+1,none⟩) (AHO.cell rfl);have l40:ld prog 40 (.pointer (some ⟨bw,0,none⟩)) oz=some vo:=AD Uv (a:=⟨bw,0,none⟩) (AHN.cell rfl);have kT:=hF.len;have H2:(DO o).length=o.length*1:=by unfold DO;rw[aau];omega
    rw[l88];simp only[C4,dp,AA];rw[l89];simp only[C4,R9,AA];rw[l40];simp only[AA];rw[JG KB xH (by omega) H2];simp only[AA];have hH:Hp c h o:=⟨hF,hhl,oy⟩
    have I:AHK A W1.sz W5.sz W.sz r1 r2 w r c l h o:=⟨tA,D,hrA,hs,Jb,hH⟩
    have ALD:Vz.sz≤T4.sz:=by omega
    refine re I AHM t17 ADm (by omega) xH rfl rfl rfl rfl rfl rfl (λhb e' W' k' t' q8 q9=>?_) (λhb e' W' vt Ic t' R5 hBt htv Wm=>?_)
    ·simp only[Tm]
     have hw:Dz c l h root=([],214):=by
      unfold Dz;rw[aac (by simp[hz]),ho,aad hb]
     exact Ei _ W' _ 214 (ox.trans k') t' q8 q9 (by rw[hw];exact C'.nil) (by rw[hw])
    ·simp only[IJ,aaA];have jm:¬PL l h o=true:=by rw[hb];simp
     have hw:Dz c l h root=(EV c l h o,0):=by
      unfold Dz;rw[aac (by simp[hz]),ho,aac jm]
     have eo:∀j,j<T4.sz→W'.obj j=oz.obj j:=λj hj=>Ic.obj j (by omega) (by omega)
     have E:Dk {A:=A,bk:=W1.sz,br:=W5.sz,bh:=W.sz,tX:=A.sz,QN:=T4.sz,bd:=A.sz,wb:=Vz.sz,bw:=bw,rp:=rp,r1:=r1,r2:=r2,w:=w,r:=r,vt:=vt,vo:=vo,bdt:=88,dvs:=[.pointer (some ⟨Vz.sz,0,none⟩)],c:=c,l:=l,h:=h,o:=o,ts:=C3 l (AJ h o)} W' (.slice none 0 0) [] :=
      ⟨Bm.kp AHM Ic λj hj=>by have hj:j=T4.sz:=hj;show A.sz≤j;omega,t',tA,D,⟨AHN.congr (eo _ (by have:=xG.w.lt t13;omega)),NA xH λj hj=>eo j (by have:=N5 t13 xG.own hj;omega),AJ2.congr (eo _ (by have:=xG.p.lt t13;omega))⟩,ADn.congr (eo _ (by omega)),hBt,htv,ADn.congr (eo _ (by omega)),⟨(by decide:(88:Nat)≠97),(by decide:(88:Nat)≠5)⟩,⟨AHO.congr (eo _ (by omega)),C'.nil⟩,by show A.sz≤Vz.sz;omega,λj hj=>by obtain⟨_,_,_,e1,_⟩:=hj;cases e1⟩
     refine mS E rfl hC Aa hs hH Jb NB (by
      rcases AJ0 with bC|bC|bC
      ·exact .inl bC
      ·omega
      ·rw[←ho];exact bC hz (by rw[ho];exact hb)) ((R5 6 (by decide)).trans rfl) ((R5 10 (by decide)).trans rfl) ((R5 12 (by decide)).trans rfl) ((R5 15 (by decide)).trans rfl) ((R5 16 (by decide)).trans rfl) λe2 W2 v k2 t2 h8 h9 hov=>?_
     exact Ei _ W2 v 0 (ox.trans k2) t2 h8 h9 (by rw[hw];exact hov) (by rw[hw])
   ·simp only[show(Ja c l h root !=0)=true from by simpa using hz,BB]
    have hw:Dz c l h root=([],Ja c l h root):=by
     unfold Dz;rw[aad hz]
    exact Ei _ A _ (Ja c l h root) ox tA rfl rfl (by rw[hw];exact C'.nil) (by rw[hw])
def DT(e:Int):List PanicEntry:=[{v:=.iface 167 (.agg #[.int .i64 e]),recovered:=false}]
theorem ADo(e:Int):ZT prog 167 [(0,.int .i64 e)]=some (.agg #[.int .i64 e]):=by kernel_rfl
theorem ADp(v:Value):mki prog 167 v=some (.iface 167 v):=by kernel_rfl
theorem AJ3:De prog 170=some 2:=by kernel_rfl
theorem iR(a:Addr):RL prog 170 (.pointer (some a)) 0=some (.pointer (some ⟨a.block,a.off,none⟩)):=by kernel_rfl
theorem iS(a:Addr):RL prog 170 (.pointer (some a)) 1=some (.pointer (some ⟨a.block,a.off+1,none⟩)):=by kernel_rfl
theorem a3':agg? prog 3=some false:=by kernel_rfl
theorem EH{K:Value→CW→Prop}{KP:List PanicEntry→CW→Prop}{ch:List PanicEntry}{W:CW}(h:KP ch W):BO K KP (.panicked ch) W:=h
theorem ADq(n:Int):cl prog 5 3 (.int .u8 n)=some (.int .i64 (IntKind.i64.wrap n)):=by kernel_rfl
theorem AHP(x:UInt8):cl prog 5 3 (.int .u8 x.toNat)=some (.int .i64 ((x.toNat:Nat):Int)):=by
 have:=x.toNat_lt;rw[ADq,wrap64 (by omega) (by omega)]
theorem Hn{b:Bool}{e:Int}{W:CW}{K:Value→CW→Prop}{KP:List PanicEntry→CW→Prop}(hk:b=true→K (.tuple #[]) W)(hp:b=false→KP (DT e) W):AX prog Bf 76 [.bool b,.int .i64 e] W (BO K KP):=by
 refine AF5 ?_;rw[AF4];simp only[AW,AA]
 cases b with
 |true=>
  simp only[aav,AZ];exact D0 (by kernel_rfl) _ _ (.inl rfl) _ _ (hk rfl)
 |false=>
  simp only[aaY,BB];refine Ad (ADo _) ?_;refine Ad (ADp _) ?_;exact hp rfl
structure dt(A:CW)(vb:Value)(b:List UInt8):Prop where
 top:Ag A
 sl:∃a cap,vb=.slice a b.length cap∧b.length≤cap∧∀i x,b[i]?=some x→∃p,a=some p∧Lo A p.block (p.off+i*1) x
 LQ:b.length≤100000
structure Rd(A W:CW)(rb:Nat)(vb:Value)(at_:Nat):Prop where
 kp:Kp A W
 top:Ag W
 hb:A.sz≤rb
 IA:Aq W rb 170 [vb,.int .i64 at_]
def ZZ(rb j:Nat):Prop:=j=rb
theorem Rd.ld0{A W:CW}{rb at_:Nat}{vb:Value}(h:Rd A W rb vb at_):ld prog 29 (.pointer (some ⟨rb,0,none⟩)) W=some vb:=AD a29 (a:=⟨rb,0,none⟩) (h.IA.cell rfl)
theorem Rd.ld1{A W:CW}{rb at_:Nat}{vb:Value}(h:Rd A W rb vb at_):ld prog 3 (.pointer (some ⟨rb,0+1,none⟩)) W=some (.int .i64 at_):=AD a3' (a:=⟨rb,0+1,none⟩) (h.IA.cell rfl)
theorem Rd.VP{A W W':CW}{rb at_:Nat}{vb:Value}(h:Rd A W rb vb at_)(k:Kp W W')(t:Ag W'):Rd A W' rb vb at_:=⟨h.kp.trans k,t,h.hb,h.IA.ext h.top k⟩
def HL(b:List UInt8)(at_ n:Nat):Except Int Nat:=if at_+n≤b.length then .ok (at_+n)else .error 4
def N_{α:Type}(A:CW)(rb:Nat)(vb:Value)(R:Value→α→CW→Prop)(r:Except Int (α×Nat))(W:CW):Ending→CW→Prop:=λen W'=>Bm (ZZ rb) W W'∧Ag W'∧match r with
 | .ok (x,Ej)=>∃v,en=.returned v∧R v x W'∧Rd A W' rb vb Ej
 | .error e=>en=.panicked (DT e)
theorem AHQ{a:Option Addr}{len cap lo hi:Nat}(h1:lo≤hi)(h2:hi≤cap)(W:CW):∃a',Sp prog 29 (.slice a len cap) (some (.int .i64 lo)) (some (.int .i64 hi)) (some (.int .i64 hi)) W=some (.slice a' (hi-lo) (hi-lo))∧(lo<hi→∀p,a=some p→∃p',a'=some p'∧p'.block=p.block∧p'.off=p.off+lo):=by
 refine⟨cond (Nat.beq hi lo) a (a.map λa=>⟨a.block,a.off+lo*1,none⟩),?_,λAo p hp=>?_⟩
 ·have Zm:∀n y d:Nat,n≤y→bound (some (.int .i64 (n:Int))) d y=some n:=by
   intro n y d h;simp only[bound];rw[show(decide ((0:Int)≤(n:Int))&&decide ((n:Int)≤(y:Int)))=true by simp;omega];simp
  unfold Sp;rw[VN];simp only[NX,VN,CS,s5,Zm hi cap cap h2,Zm hi hi len (aaf _),Zm lo hi 0 h1];rw[show Nat.ble hi hi=true from aan (by omega)];rfl
 ·have hb:Nat.beq hi lo=false:=by
   cases hq:Nat.beq hi lo with
   |false=>rfl
   |true=>have:=aab hq;omega
  subst hp;rw[hb];exact⟨_,rfl,rfl,by show p.off+lo*1=_;rw[ac2]⟩
theorem o5{A W:CW}{rb at_ n:Nat}{vb:Value}{b:List UInt8}(I:dt A vb b)(h:Rd A W rb vb at_)(ha:at_≤b.length)(hn:n≤100000) :
  AX prog Bf 121 [.pointer (some ⟨rb,0,none⟩),.int .i64 n] W (N_ A rb vb (λv x _=>At 1 (Lo A) v x) (match HL b at_ n with| .ok Ej=>.ok ((b.drop at_).take n,Ej)| .error e=>.error e) W):=by
 have To:=I.LQ;obtain⟨a,cap,ew,Ie,rE⟩:=I.sl;refine ACV ?_;rw[ACU];simp only[C4,iR,iS,AA,h.ld0,h.ld1];subst ew;rw[Aj VN];simp only[AA,Ae,CC];rw[wrap64 (by omega) (by omega)]
 have hd:decide ((b.length:Int)-(at_:Int)≥(n:Int))=decide (at_+n≤b.length):=by
  by_cases hq:at_+n≤b.length
  ·rw[decide_eq_true hq,decide_eq_true (by omega)]
  ·rw[decide_eq_false hq,decide_eq_false (by omega)]
 rw[hd]
 refine Hn (λhb=>?_) (λhb=>?_)
 ·have hle:=of_decide_eq_true hb;have U0:HL b at_ n=.ok (at_+n):=by unfold HL;rw[aad hle]
  refine⟨by simp,trivial,?_⟩;simp only[h.ld1,AO,AA];rw[wrap64 (by omega) (by omega)];refine Ac s3 (a:=⟨rb,0+1,none⟩) (v:=.int .i64 ((at_:Int)+(n:Int))) rfl h.IA (by simp) λW2 hu hB=>?_;have hu:Dn rb W W2:=hu
  have hB:Aq W2 rb 170 [.slice a b.length cap,.int .i64 ((at_+n:Nat):Int)]:=by
   have:((at_+n:Nat):Int)=(at_:Int)+(n:Int):=by omega
   rw[this]
   simpa[putAt]using hB
  have hW2:Rd A W2 rb (.slice a b.length cap) (at_+n):=⟨h.kp.A6 h.hb hu,h.top.A6 (h.IA.lt h.top) hu,h.hb,hB⟩
  simp only[hW2.ld0,hW2.ld1,AA,Ae];rw[show(((at_+n:Nat):Int)-(n:Int))=((at_:Nat):Int) by omega,wrap64 (by omega) (by omega)];obtain⟨a',hs,hp⟩:=AHQ (a:=a) (len:=b.length) (show at_≤at_+n by omega) (show at_+n≤cap by omega) W2;rw[hs];simp only[AA];refine⟨by simp,trivial,?_⟩;rw[lO,U0];refine⟨hu.D4,hW2.top,_,rfl,?_,hW2⟩;have hlen:((b.drop at_).take n).length=n:=by rw[aaI,abN];omega
  refine⟨a',n,by rw[hlen,show at_+n-at_=n by omega];rfl,λi x hx=>?_⟩;have hi:i<n:=by have:=(aaa.1 hx).1;omega
  rw[aaW,aad hi,abv]at hx;obtain⟨p,hpa,hr⟩:=rE _ x hx;obtain⟨p',R',hp2,hp3⟩:=hp (by omega) p hpa;refine⟨p',R',?_⟩;rw[hp2,hp3]
  rwa[show p.off+at_+i*1=p.off+(at_+i)*1 by omega]
 ·have hle:=of_decide_eq_false hb;have U0:HL b at_ n=.error 4:=by unfold HL;rw[aac hle]
  refine⟨by simp,?_⟩;rw[U0];exact⟨.refl _ _,h.top,rfl⟩
def Gw(b:List UInt8):Nat→Nat→Nat→Nat→Except Int (Nat×Nat)
 |0,_,_,_=>.error 4
 | f+1,at_,n,sh=>match b[at_]? with
  |none=>.error 4
  |some x=>if x.toNat<128 then(if 0<x.toNat∨sh=0 then .ok (n+x.toNat*2^sh,at_+1)else .error 4)
   else Gw b f (at_+1) (n+(x.toNat%128)*2^sh) (sh+7)
def D7(b:List UInt8)(at_:Nat)(most:Int):Except Int (Nat×Nat):=match Gw b 6 at_ 0 0 with
 | .error e=>.error e
 | .ok (n,Ej)=>if(n:Int)≤most then .ok (n,Ej)else .error 4
theorem xI(y sh:Nat)(hy:y<128)(hs:sh≤35):CF prog .shl 3 false (.int .i64 y) (.int .i64 sh)=some (.int .i64 ((y*2^sh:Nat):Int)):=by
 have h1:CF prog .shl 3 false (.int .i64 y) (.int .i64 sh)=cond (decide ((sh:Int)<0)) none (some (.int .i64 (IntKind.i64.wrap ((y:Int)*2^(min (sh:Int).toNat 64))))):=rfl;rw[h1,show decide ((sh:Int)<0)=false by simp];have h2:min (sh:Int).toNat 64=sh:=by rw[abg];omega
 rw[h2];have h3:2^sh≤2^35:=abR (by omega) hs;have h4:y*2^sh≤127*2^35:=adb (by omega) h3;have h5:(y:Int)*2^sh=((y*2^sh:Nat):Int):=by simp
 rw[h5];simp only[cond_false];rw[wrap64 (by omega) (by omega)]
theorem AAW(n y sh:Nat)(hn:n<2^sh)(hy:y<128)(hs:sh≤35):CF prog .or 3 false (.int .i64 n) (.int .i64 ((y*2^sh:Nat):Int))=some (.int .i64 ((n+y*2^sh:Nat):Int)):=by
 have h3:2^sh≤2^35:=abR (by omega) hs;have h4:y*2^sh≤127*2^35:=adb (by omega) h3;have h1:CF prog .or 3 false (.int .i64 n) (.int .i64 ((y*2^sh:Nat):Int))=some (.int .i64 (IntKind.i64.wrap ((BitVec.ofInt 64 (n:Int)|||BitVec.ofInt 64 ((y*2^sh:Nat):Int)).toNat))):=rfl;rw[h1]
 have h5:(BitVec.ofInt 64 (n:Int)|||BitVec.ofInt 64 ((y*2^sh:Nat):Int)).toNat=n+y*2^sh:=by
  rw[BitVec.toNat_or,BitVec.ofInt_natCast,BitVec.ofInt_natCast,BitVec.toNat_ofNat,BitVec.toNat_ofNat,acg (by omega),acg (by omega)];have:=Nat.shiftLeft_add_eq_or_of_lt hn y;rw[Nat.shiftLeft_eq]at this;rw[Nat.or_comm,←this,ac6]
 rw[h5,wrap64 (by omega) (by omega)]
theorem take_one{b:List UInt8}{at_:Nat}{x:UInt8}(hx:b[at_]?=some x):(b.drop at_).take 1=[x]:=by
 have Ao:=(aaa.1 hx).1;apply abq;intro i
 cases i with
 |zero=>rw[aaW,aad (by omega),abv];exact hx
 |succ i=>rw[aaW,aac (by omega)];rfl
theorem Ku{A W:CW}{rb at_:Nat}{most:Int}{vb:Value}{b:List UInt8}(I:dt A vb b)(h:Rd A W rb vb at_)(ha:at_≤b.length) :
  AX prog Bf 110 [.pointer (some ⟨rb,0,none⟩),.int .i64 most] W (N_ A rb vb (λv n _=>v=.int .i64 ((n:Nat):Int)) (D7 b at_ most) W):=by
 refine ACT ?_;rw[ACS];generalize Hm:AQ prog Tryz.f110 (N_ A rb vb (λv n _=>v=.int .i64 ((n:Nat):Int)) (D7 b at_ most) W)=KK
 have Hv:∀(e:Env) W',Bm (ZZ rb) W W'→Ag W'→D7 b at_ most=.error 4→KK (.panic (DT 4)) e [] W':=by
  intro e W' hc ht hn;rw[←Hm];show N_ A rb vb (λv n _=>v=.int .i64 ((n:Nat):Int)) (D7 b at_ most) W (.panicked (DT 4)) W';rw[hn];exact⟨hc,ht,rfl⟩
 have hgo:∀(e:Env) W' n Ej,Bm (ZZ rb) W W'→Rd A W' rb vb Ej→e 1=.int .i64 most→e 5=.int .i64 (n:Nat)→Gw b 6 at_ 0 0=.ok (n,Ej)→(Vm none KK) .normal e [] W':=by
  intro e W' n Ej hc hr h1 h5 hn;simp only[OX,BI,h1,h5,Dv,AA]
  refine Hn (λhb=>?_) (λhb=>?_)
  ·have hle:=of_decide_eq_true hb;rw[←Hm,lN];refine⟨hc,hr.top,?_⟩;have:D7 b at_ most=.ok (n,Ej):=by unfold D7;rw[hn];simp only;rw[aad (by omega)]
   rw[this];refine⟨_,rfl,?_,hr⟩;simp only[AG,↓reduceIte]
  ·have hle:=of_decide_eq_false hb;refine Hv _ W' hc hr.top ?_;unfold D7;rw[hn];simp only;rw[aac (by omega)]
 refine DX (λk e ds W'=>Bm (ZZ rb) W W'∧ds=[]∧1≤k∧k≤6∧∃Ej n sh:Nat,Rd A W' rb vb Ej∧Ej≤b.length∧e 0=.pointer (some ⟨rb,0,none⟩)∧e 1=.int .i64 most∧e 5=.int .i64 n∧e 6=.int .i64 sh∧sh=7*(6-k)∧n<2^sh∧Gw b 6 at_ 0 0=Gw b k Ej n sh) 6 ⟨.refl _ _,rfl,by omega,by omega,at_,0,0,h,ha,rfl,rfl,rfl,rfl,rfl,by omega,rfl⟩ ?_;rintro k e ds W' ⟨hc,rfl,fk,hk6,Ej,n,sh,hr,mW,h0,h1,h5,h6,hsh,hn,hG⟩;obtain⟨f,rfl⟩:∃f,k=f+1:=⟨k-1,by omega⟩
 rw[zs,h0];refine(o5 (n:=1) I hr mW (by omega)).mono λen W1 ⟨Up,t1,hp⟩=>?_;have cQ:Bm (ZZ rb) W W1:=hc.then Up λ_ _ h=>h
 cases hx:b[Ej]? with
 | none=>
  have Ji:b.length≤Ej:=by
   by_cases hq:b.length≤Ej
   ·exact hq
   ·rw[ck (by omega)]at hx;cases hx
  have U0:HL b Ej 1=.error 4:=by unfold HL;rw[aac (by omega)]
  rw[U0]at hp;have hp:en=.panicked (DT 4):=hp;subst hp;refine EH ?_;simp only[tKp,oO,OX,aH];refine Hv _ W1 cQ t1 ?_;unfold D7;rw[hG,Gw,hx]
 | some x=>
  have Ao:=(aaa.1 hx).1;have U0:HL b Ej 1=.ok (Ej+1):=by unfold HL;rw[aad (by omega)]
  rw[U0]at hp;obtain⟨v,rfl,hv,KE⟩:=hp;rw[take_one hx]at hv;obtain⟨a,cap,rfl,hv⟩:=hv;obtain⟨p,rfl,hbx⟩:=hv 0 x rfl;refine AP ?_;have iT:lD prog 29 (.slice (some p) [x].length cap) (.int .i64 0)=some (.pointer (some ⟨p.block,p.off+0*1,none⟩)):=Ay (i:=0) VN s5 (by simp);refine Ad iT ?_;have AJ4:W1.cell p.block (p.off+0*1)=some (.int .u8 x.toNat):=KE.kp.cell I.top hbx;refine Ad (AD a5 (a:=⟨p.block,p.off+0*1,none⟩) AJ4) ?_;have ALE:x.toNat<256:=x.toNat_lt;refine Ad (v:=.int .i64 ((x.toNat:Nat):Int)) (AHP x) ?_;refine Ad (XU _ _ _ (by decide)) ?_;rw[show((x.toNat:Int).tmod 128)=((x.toNat%128:Nat):Int) by rw[acy (by omega)];rfl];have hy:x.toNat%128<128:=Nat.mod_lt _ (by omega);have AHR:sh≤35:=by omega
  rw[h6,h5];refine Ad (xI _ _ hy AHR) ?_;refine Ad (AAW _ _ _ hn hy AHR) ?_;refine Ad (AO _ _ _) ?_;rw[wrap64 (by omega) (by omega)];refine Ad (Af _ _ _) ?_
  have ZF:n+x.toNat%128*2^sh<2^(sh+7):=by
   have h1:x.toNat%128*2^sh≤127*2^sh:=aaN _ (by omega);have h2:2^(sh+7)=128*2^sh:=by rw[ade,acF]
   omega
  have hGs:Gw b (f+1) Ej n sh=if x.toNat<128 then(if 0<x.toNat∨sh=0 then .ok (n+x.toNat*2^sh,Ej+1)else .error 4)else Gw b f (Ej+1) (n+(x.toNat%128)*2^sh) (sh+7):=by
   rw[Gw,hx]
  refine AH (λhb=>?_) (λhb=>?_)
  ·have hb:x.toNat<128:=by have:=of_decide_eq_true hb;omega
   have hm:x.toNat%128=x.toNat:=acg hb;rw[aad hb]at hGs
   have done:∀e1:Env,e1 1=.int .i64 most→e1 5=.int .i64 ((n+x.toNat%128*2^sh:Nat):Int)→(0<x.toNat∨sh=0)→(Mb none (EC (λk e ds W'=>Bm (ZZ rb) W W'∧ds=[]∧1≤k∧k≤6∧∃Ej n sh:Nat,Rd A W' rb vb Ej∧Ej≤b.length∧e 0=.pointer (some ⟨rb,0,none⟩)∧e 1=.int .i64 most∧e 5=.int .i64 n∧e 6=.int .i64 sh∧sh=7*(6-k)∧n<2^sh∧Gw b 6 at_ 0 0=Gw b k Ej n sh) (f+1) (CX 0 (Vm none KK)))) .normal e1 [] W1:=by
    intro e1 g1 g5 VY;simp only[Mb,BI,IJ,VM];simp only[aaA];refine hgo e1 W1 _ (Ej+1) cQ KE g1 g5 ?_;rw[hG,hGs,aad VY,hm]
   refine Ad (Bt _ _ _) ?_
   refine AH (λhq=>?_) (λhq=>?_)
   ·have hq:0<x.toNat:=by have:=of_decide_eq_true hq;omega
    refine Hn (λ_=>?_) (λhf=>by cases hf);exact done _ (by simp only[AG,AN,Nat.reduceEqDiff,↓reduceIte,h1]) (by simp only[AG,Nat.reduceEqDiff,↓reduceIte]) (.inl hq)
   ·have hq:¬0<x.toNat:=by have:=of_decide_eq_false hq;omega
    refine Ad (BJ _ _ _) ?_
    refine Hn (λhz=>?_) (λhz=>?_)
    ·have hz:sh=0:=by have:=eq_of_beq hz;omega
     exact done _ (by simp only[AG,AN,Nat.reduceEqDiff,↓reduceIte,h1]) (by simp only[AG,Nat.reduceEqDiff,↓reduceIte]) (.inr hz)
    ·have hz:¬sh=0:=by
      intro e;subst e;simp at hz
     simp only[Mb,aH,oO,tKp,OX];refine Hv _ W1 cQ t1 ?_;unfold D7;rw[hG,hGs,aac (by omega)]
  ·have hb:¬x.toNat<128:=by have:=of_decide_eq_false hb;omega
   rw[aac hb]at hGs;refine Ad (Bt _ _ _) ?_
   refine AH (λhq=>?_) (λhq=>?_)
   ·have hq:=of_decide_eq_true hq;have hf:f=0:=by omega
    refine Hn (λhf=>by cases hf) (λ_=>?_);simp only[tKp,oO,OX,aH];refine Hv _ W1 cQ t1 ?_;unfold D7;rw[hG,hGs,hf];rfl
   ·have hq:=of_decide_eq_false hq;simp only[Uu];exact⟨f,by omega,cQ,trivial,by omega,by omega,Ej+1,_,sh+7,KE,by omega,by simp only[AG,AN,Nat.reduceEqDiff,↓reduceIte,h0],by simp only[AG,AN,Nat.reduceEqDiff,↓reduceIte,h1],by simp only[AG,Nat.reduceEqDiff,↓reduceIte],by simp only[AG,Nat.reduceEqDiff,↓reduceIte];rfl,by omega,ZF,by rw[hG,hGs]⟩
def strOf(l:List UInt8):ByteArray:=⟨l.toArray⟩
theorem SA:∀l:List UInt8,GO (l.map λx=>Value.int .u8 (x.toNat:Int))=some l
 |[]=>rfl
 |x::l=>by
  simp only[abr,GO,SA l];congr 2;simp
theorem bD{W:CW}{v:Value}{l:List UInt8}(h:At 1 (Lo W) v l):zf prog 29 9 v W=some (.string (strOf l)):=by
 obtain⟨a,cap,rfl,hc⟩:=h;have h5:prog.underlying 5=some (.int .u8):=by kernel_rfl
 unfold zf;rw[VN,u9]
 have hf:FD a l.length W=some (l.map λx=>Value.int .u8 (x.toNat:Int)):=by
  cases l with
  |nil=>cases a<;>rfl
  | cons x l=>
   obtain⟨p,rfl,_⟩:=hc 0 x rfl
   have:=Ob (W:=W) (a:=p) (cs:=(x::l).map λx=>Value.int .u8 (x.toNat:Int)) λj v hj=>by
    rw[aaK,aaw]at hj;obtain⟨y,hy,rfl⟩:=hj;obtain⟨p',hp',hr⟩:=hc j y hy
    cases hp'
    rwa[show p.off+j=p.off+j*1 by omega]
   rwa[aau]at this
 simp only[j7,h5,hf,CS,SA];rfl
def o6(A:CW)(vf:Value)(ask:ByteArray→Option Int):Prop:=∀s W K KP,Kp A W→Ag W→(ask s=none→∀v W',Kp W W'→Ag W'→K v W')→(∀e,ask s=some e→∀W',Kp W W'→Ag W'→KP (DT e) W')→Dt prog Bf vf [.string s] W K KP
def FX(b:List UInt8)(ask:ByteArray→Option Int):Nat→Nat→List ByteArray→Except Int (List ByteArray×Nat)
 |0,at_,out=>.ok (out,at_)
 | k+1,at_,out=>match D7 b at_ 60 with
  | .error e=>.error e
  | .ok (n,a1)=>match HL b a1 n with
   | .error e=>.error e
   | .ok a2=>if Dj (strOf ((b.drop a1).take n))=true∧(out.any λx=>decide (x=strOf ((b.drop a1).take n)))=false then
     (match ask (strOf ((b.drop a1).take n))with
     |some e=>.error e
     |none=>FX b ask k a2 (out++[strOf ((b.drop a1).take n)]))
    else .error 4
def Ev(b:List UInt8)(ask:ByteArray→Option Int)(at_:Nat):Except Int (List ByteArray×Nat):=match D7 b at_ 128 with
 | .error e=>.error e
 | .ok (n,a1)=>if n=1 then(match D7 b a1 100 with
   | .error e=>.error e
   | .ok (k,a2)=>FX b ask k a2 [])
  else .error 4
theorem iU{b:List UInt8}{at_ n a:Nat}(h:HL b at_ n=.ok a):a=at_+n∧a≤b.length:=by
 unfold HL at h
 split at h
 ·cases h;exact⟨rfl,by assumption⟩
 ·cases h
theorem rk{b:List UInt8}{at_ n:Nat}{e:Int}(h:HL b at_ n=.error e):e=4:=by
 unfold HL at h
 split at h
 ·cases h
 ·cases h;rfl
theorem o_{b:List UInt8}:∀{f at_ n sh m a:Nat},Gw b f at_ n sh=.ok (m,a)→at_<a∧a≤b.length
 |0,_,_,_,_,_,h=>by cases h
 | f+1,at_,n,sh,m,a,h=>by
  unfold Gw at h
  split at h
  ·cases h
  ·rename_i x hx;have Ao:=(aaa.1 hx).1
   split at h
   ·split at h
    ·cases h;omega
    ·cases h
   ·have:=o_ h;omega
theorem GX{b:List UInt8}{at_ n a:Nat}{most:Int}(h:D7 b at_ most=.ok (n,a)):(n:Int)≤most∧at_<a∧a≤b.length:=by
 unfold D7 at h
 split at h
 ·cases h
 ·rename_i n' a' hg
  split at h
  ·cases h;exact⟨by assumption,o_ hg⟩
  ·cases h
theorem Bm.rd{rb:Nat}{A B C:CW}(h:Bm (ZZ rb) A B)(k:Bm (ZZ rb) B C):Bm (ZZ rb) A C:=h.then k λ_ _ h=>h
theorem Kp.rd{rb:Nat}{A B:CW}(h:Kp A B):Bm (ZZ rb) A B:=Bm.Io h
theorem Lo.kp{A W:CW}{v:Value}{x:List UInt8}(I:Ag A)(k:Kp A W)(h:At 1 (Lo A) v x):At 1 (Lo W) v x:=h.imp λ_ _ _ hr=>k.cell I hr
theorem pA{A W:CW}{rb at_:Nat}{vb vf:Value}{b:List UInt8}{ask:ByteArray→Option Int}(I:dt A vb b)(h:Rd A W rb vb at_)(ha:at_≤b.length)(dr:o6 A vf ask) :
  AX prog Bf 92 [.pointer (some ⟨rb,0,none⟩),vf] W (N_ A rb vb (λv l W'=>C' W' 9 1 v (strs l)∧BZ W.sz v) (Ev b ask at_) W):=by
 refine AF9 ?_;rw[AF8];generalize iV:N_ A rb vb (λv l W'=>C' W' 9 1 v (strs l)∧BZ W.sz v) (Ev b ask at_) W=xJ;generalize Hm:AQ prog Tryz.f92 xJ=KK
 have Hv:∀(e:Env) W' c,Bm (ZZ rb) W W'→Ag W'→Ev b ask at_=.error c→KK (.panic (DT c)) e [] W':=by
  intro e W' c hc ht hn;rw[←Hm];show xJ (.panicked (DT c)) W';rw[←iV];refine⟨hc,ht,?_⟩;rw[hn]
 refine(Ku (most:=128) I h ha).mono λen W1 ⟨Up,t1,hp⟩=>?_
 cases NV:D7 b at_ 128 with
 |error c=>
  rw[NV]at hp;have hp:en=.panicked (DT c):=hp;subst hp;exact EH (Hv _ W1 c Up t1 (by unfold Ev;rw[NV]))
 | ok r =>
  obtain⟨n,a1⟩:=r;rw[NV]at hp;obtain⟨v,rfl,rfl,KE⟩:=hp;refine AP ?_;refine Ad (BJ _ _ _) ?_;refine Hn (λhb=>?_) (λhb=>?_)
  rotate_left
  ·have hb:¬n=1:=by intro e;subst e;simp at hb
   exact Hv _ W1 4 Up t1 (by unfold Ev;rw[NV];simp only;rw[aac hb])
  have hb:n=1:=by have:=eq_of_beq hb;omega
  obtain⟨_,_,C8⟩:=GX NV;refine(Ku (most:=100) I KE C8).mono λen W2 ⟨ep,t2,hp⟩=>?_;have ep:=Up.rd ep
  cases Nd:D7 b a1 100 with
  |error c=>
   rw[Nd]at hp;have hp:en=.panicked (DT c):=hp;subst hp;refine EH ?_;simp only[MZ,aH];exact Hv _ W2 c ep t2 (by unfold Ev;rw[NV];simp only;rw[aad hb,Nd])
  | ok r =>
   obtain⟨m,a2⟩:=r;rw[Nd]at hp;obtain⟨v,rfl,rfl,Ty⟩:=hp;obtain⟨ALF,_,ju⟩:=GX Nd;refine AP ?_;have hH:Ev b ask at_=FX b ask m a2 []:=by unfold Ev;rw[NV];simp only;rw[aad hb,Nd]
   refine EZ (λi e ds W'=>ds=[]∧∃Ej out vo,Bm (ZZ rb) W W'∧Rd A W' rb vb Ej∧Ej≤b.length∧out.length=i∧e 0=.pointer (some ⟨rb,0,none⟩)∧e 1=vf∧e 5=vo∧e 12=.int .i64 m∧e 13=.int .i64 i∧C' W' 9 1 vo (strs out)∧BZ W.sz vo∧FX b ask m a2 []=FX b ask (m-i) Ej out) m
    ⟨rfl,a2,[],.slice none 0 0,ep,Ty,ju,rfl,rfl,rfl,rfl,rfl,rfl,C'.nil,BZ.nil _ _ _,rfl⟩ ?_
   rintro i e ds W' hi ⟨rfl,Ej,out,vo,hc,hr,mW,kT,h0,h1,h5,du,h13,hO,hN,hG⟩;rw[ACR,h0,h5,du,h13];simp only[Af,AA];refine Hx (λAo=>?_) (λJi=>?_)
   rotate_left
   ·have:i=m:=by omega
    subst this;simp only[BI,Oy,IJ,QV,IJ,aaA,MZ];rw[←Hm,qo,←iV];refine⟨hc,hr.top,?_⟩;rw[hH,hG,abB];exact⟨_,rfl,⟨by simp only[AG,AN,Nat.reduceEqDiff,↓reduceIte,h5];exact hO,by simp only[AG,AN,Nat.reduceEqDiff,↓reduceIte,h5];exact hN⟩,hr⟩
   ·obtain⟨f,hf⟩:∃f,m-i=f+1:=⟨m-i-1,by omega⟩
    rw[hf]at hG
    have M1:FX b ask (f+1) Ej out=match D7 b Ej 60 with
      | .error e=>.error e
      | .ok (n,a1)=>match HL b a1 n with
       | .error e=>.error e
       | .ok a2=>if Dj (strOf ((b.drop a1).take n))=true∧(out.any λx=>decide (x=strOf ((b.drop a1).take n)))=false then
         (match ask (strOf ((b.drop a1).take n))with
         |some e=>.error e
         |none=>FX b ask f a2 (out++[strOf ((b.drop a1).take n)]))
        else .error 4:=rfl
    rw[M1]at hG;have bad:∀(e:Env) W1 c,Bm (ZZ rb) W' W1→Ag W1→FX b ask m a2 []=.error c→KK (.panic (DT c)) e [] W1:=λe W1 c c1 t1 hh=>Hv e W1 c (hc.rd c1) t1 (by rw[hH,hh]);refine(Ku (most:=60) I hr mW).mono λen W3 ⟨hc3,t3,hp⟩=>?_
    cases ak:D7 b Ej 60 with
    |error c=>
     rw[ak]at hp hG;have hp:en=.panicked (DT c):=hp;subst hp;refine EH ?_;simp only[Ll,aH,oO,IW,zKp,MZ];exact bad _ W3 c hc3 t3 hG
    | ok r=>
     obtain⟨k,a3⟩:=r;rw[ak]at hp hG;obtain⟨v,rfl,rfl,hr3⟩:=hp;obtain⟨ALn,_,ha3⟩:=GX ak;refine AP ?_;simp only at hG;refine(o5 I hr3 ha3 (by omega)).mono λen W4 ⟨hc4,t4,hp⟩=>?_;have hc4:=hc3.rd hc4
     cases hn4:HL b a3 k with
     |error c=>
      rw[hn4]at hp hG;have hp:en=.panicked (DT c):=hp;subst hp;refine EH ?_;simp only[Ll,aH,oO,IW,zKp,MZ];exact bad _ W4 c hc4 t4 hG
     | ok a4=>
      rw[hn4]at hp hG;obtain⟨v,rfl,hv,hr4⟩:=hp;obtain⟨ha4,AJ5⟩:=iU hn4;simp only at hG;generalize hs:strOf ((b.drop a3).take k)=s at hG;refine AP ?_;refine Ad (v:=.string s) (by rw[←hs];exact bD (Lo.kp I.top hr4.kp hv)) ?_
      have ADB:s.size<1000000:=by
       rw[←hs];show((b.drop a3).take k).toArray.size<1000000;rw[acK,aaI];omega
      refine(N2 t4 ADB).mono λen W5 ⟨he,k5,t5⟩=>?_;subst he;refine AP ?_;have hc5:=hc4.rd (k5.rd (rb:=rb))
      have hO5:C' W5 9 1 vo (strs out):=(hc5).own hr.top hO λj hj e=>by
       have e:j=rb:=e;subst e;have:=Ba hr.IA (Df hO hj);cases this
      have hr5:=hr4.VP k5 t5;refine AH (λhsy=>?_) (λhsy=>?_)
      rotate_left
      ·refine Hn (λhf=>by cases hf) (λ_=>?_);simp only[TY,Ll,BI,aH,oO,IW,zKp,MZ];refine bad _ W5 4 hc5 t5 ?_;rw[hG,aac (by rw[hsy];simp)]
      obtain⟨ao,co,wN,hoc⟩:=JE (f:=λ(s:ByteArray)=>Value.string s) hO5;have AJ6:=PO (s:=s) (W:=W5) (v:=vo) (l:=out) ⟨ao,co,wN,hoc⟩ (by omega);refine A4 AJ6 ?_;refine Ad (AW _) ?_;refine Hn (λze=>?_) (λze=>?_)
      rotate_left
      ·simp only[TY,Ll,BI,aH,oO,IW,zKp,MZ];refine bad _ W5 4 hc5 t5 ?_;rw[hG,aac (by rintro⟨_,h2⟩;rw[h2]at ze;cases ze)]
      have ze:(out.any λx=>decide (x=s))=false:=by
       cases hq:out.any λx=>decide (x=s)with
       |false=>rfl
       |true=>rw[hq]at ze;cases ze
      rw[aad ⟨hsy,ze⟩]at hG;simp only[TY,BI];simp only[AG,AN,Nat.reduceEqDiff,↓reduceIte,h1,h5];refine dr s W5 _ _ hr5.kp t5 (λH0 v W6 k6 t6=>?_) (λc df W6 k6 t6=>?_)
      rotate_left
      ·rw[df]at hG;simp only[Ll,aH,oO,IW,zKp,MZ];exact bad _ W6 c (hc5.rd k6.rd) t6 hG
      ·rw[H0]at hG;have hO6:C' W6 9 1 vo (strs out):=(Bm.Io (S:=λ_=>False) k6).own t5 hO5 λj hj h=>h;refine Mj gX s9 z9 rfl (by omega) by9 (by omega) (vk _) rfl rfl t6 hO6 (by rw[Iq];omega) λu Wa jl W7 ka ta Lz t7 o7 n7=>?_;have hc6:Bm (ZZ rb) W' W6:=hc5.rd k6.rd;have hr6:=hr5.VP k6 t6;have Dg:¬Bh vo rb:=λhj=>by have:=Ba hr6.IA (Df hO6 hj);cases this
       have AJ7:W.sz≤W6.sz:=abh hc.sz hc6.sz
       have AJ8:Kp A W7:=Lz.kp hr6.kp λb' l' c' e=>by
        have:=hN b' l' c' e;have:=h.kp.sz;omega
       have hc7:Bm (ZZ rb) W W7:=(hc.rd hc6).then (Lz.D4) λj hj hi=>by
        obtain⟨b',l',c',e1,e2⟩:=hi;have:=hN b' l' c' e1;omega
       simp only[Ll,BI,IW];simp only[AG,AN,Nat.reduceEqDiff,↓reduceIte,h13,AO,AA]
       refine⟨Ao,trivial,a4,out++[s],jl,hc7,⟨AJ8,t7,hr.hb,Lz.IA t6 hr6.IA λb' l' c' e hb=>Dg ⟨b',l',c',e,hb⟩⟩,AJ5,by simp[kT],?_,?_,?_,?_,?_,by rw[Xt];exact o7,n7 _ AJ7,?_⟩
       ·simp only[h0]
       ·simp only[h1]
       ·first|rfl|(simp only[AG,AN,jv,Nat.reduceEqDiff,↓reduceIte,jw,vT,aK,and_self])
       ·simp only[du]
       ·rw[Dy (by omega)]
       ·rw[hG,show m-(i+1)=f by omega]
theorem mX{l bk bx r1 r2 n ix:Nat}{c:List AV}{ty:ByteArray}(U3:Ah c ty=some ix)(LO:n<100000)(hn:elemAt c ix=0→n≤(Al c ix).length)(J:Nat→CW→Prop)(Bad:List PanicEntry→CW→Prop)(hJ:∀i W,J i W→rF W bk bx r1 r2 c ty n)
  (mI:∀i W,i<n→J i W→Js prog Bf l [.int .i64 i,.int .u8 (A0 c ix i)] W λe W'=>(e=.returned (.bool true)∧J (i+1) W')∨∃ch,e=.panicked ch∧Bad ch W') {W:CW} (h0:J 0 W) :
  AX prog Bf 108 [.func (.yield l) #[] #[],.pointer (some ⟨bk,0,none⟩),.pointer (some ⟨bx,0,none⟩)] W λe W'=>(e=.returned (.tuple #[])∧J n W')∨∃ch,e=.panicked ch∧Bad ch W':=by
 refine wA ?_;rw[v_];have K0:=hJ 0 W h0;obtain⟨a0,AJT,RJ⟩:=K0.x1;obtain⟨ea,eb,ef,eg,MJ⟩:=K0.cat.sh.elem U3;simp only[Hl,G6,FJ,AA];rw[AD wC (a:=⟨bk,0,none⟩) K0.k0,AD a9 (a:=⟨bx,0,none⟩) K0.x0,AD Uv (a:=⟨bx,0+1,none⟩) RJ];simp only[AA,MJ,Oe,Aj KB];refine EZ (λi e ds W'=>ds=[]∧e 0=.func (.yield l) #[] #[]∧e 1=.pointer (some ⟨bk,0,none⟩)∧e 2=.pointer (some ⟨bx,0,none⟩)∧e 4=.int .u8 (elemAt c ix)∧e 15=.int .i64 n∧e 16=.int .i64 i∧J i W') n ⟨rfl,rfl,rfl,rfl,rfl,rfl,rfl,h0⟩ ?_;rintro i e ds W' hi ⟨rfl,h0,h1,h2,h4,h15,iH,hj⟩;rw[oW,h1,h2,h4,h15,iH];simp only[Af,AA]
 refine Hx (λAo=>?_) (λJi=>?_)
 ·have E8:∀(e1:Env),DR [0,1,2,4,15,16] e e1→e1 5=.int .i64 i→e1 6=.int .u8 (A0 c ix i)→
    (Rz none (N4 (λi e ds W'=>ds=[]∧e 0=.func (.yield l) #[] #[]∧e 1=.pointer (some ⟨bk,0,none⟩)∧e 2=.pointer (some ⟨bx,0,none⟩)∧e 4=.int .u8 (elemAt c ix)∧e 15=.int .i64 n∧e 16=.int .i64 i∧J i W') i n (CX 0 (AQ prog Tryz.f108 λe W'=>(e=.returned (.tuple #[])∧J n W')∨∃ch,e=.panicked ch∧Bad ch W')))) .normal e1 [] W':=by
   intro e1 hA h5 h6;have g0:=(hA 0 (by decide)).trans h0;have g16:=(hA 16 (by decide)).trans iH;simp only[aY,BI,g0,h5,h6];refine R6 ((mI i W' Ao hj).mono λen W1 hp=>?_)
   rcases hp with⟨rfl,nq⟩|⟨ch,rfl,D1⟩
   ·simp only[BO,AW,AA,aav,AZ,Od,BI,NP,Tm,IW,ey];simp only[AG,AN,Nat.reduceEqDiff,↓reduceIte,g16,AO,AA];exact⟨Ao,trivial,g0,(hA 1 (by decide)).trans h1,(hA 2 (by decide)).trans h2,(hA 4 (by decide)).trans h4,(hA 15 (by decide)).trans h15,by rw[Dy (by omega)],nq⟩
   ·simp only[BO,Od,aH,oO,IW,zKp];exact .inr ⟨ch,rfl,D1⟩
  simp only[BJ,AA]
  refine AH (λhe=>?_) (λhe=>?_)
  ·have he:elemAt c ix=0:=by simpa using he
   have Ki:=hJ i W' hj;have H2:=DI U3;have Z7:i<(Al c ix).length:=by have:=hn he;omega
   obtain⟨ar,cr,lr,yw⟩:=Ki.cat.rw.some U3;obtain⟨_,_,e3,hrc⟩:=yw
   cases e3
   obtain⟨pr,rfl,M3⟩:=hrc i _ (ck Z7);simp only[Ks,G6,AA];rw[AD a76 (a:=⟨bk,0+1,none⟩) Ki.k1,AD a9 (a:=⟨bx,0,none⟩) Ki.x0];simp only[AA,lr];rw[Ay VN s5 Z7];simp only[AA];rw[AD a5 (a:=⟨pr.block,pr.off+i*1,none⟩) M3];simp only[AA];refine E8 _ (.put rfl) rfl ?_;show Value.int .u8 (Al c ix)[i]=_;rw[J6 he H2,ck Z7];rfl
  ·have he:elemAt c ix≠0:=by simpa using he
   refine E8 _ (.put rfl) rfl ?_;show Value.int .u8 (elemAt c ix)=_;have H2:=DI U3;unfold A0;unfold elemAt at he ⊢;rw[ck H2]at he ⊢;simp only at he ⊢;rw[aad he]
 ·simp only[IJ,QV,aaA];have hi:i=n:=by omega
  exact N8 _ _ (.inl rfl) _ _ (.inl ⟨rfl,hi▸hj⟩)
theorem xK{fn:FuncId}{nt:Nat}{f:Operand}{p1 p2 a1 a2:Tmp}{A B:Code}{e:Env}{ds:List Deferred}{W:CW}{K:AB}{bk bx r1 r2 n ix:Nat}{c:List AV}{ty:ByteArray}(ht:Ag W)
  (hf:e.ev f=.func (.func 108) #[] #[.pointer (some ⟨bk,0,none⟩),.pointer (some ⟨bx,0,none⟩)]) (U3:Ah c ty=some ix) (LO:n<100000) (hn:elemAt c ix=0→n≤(Al c ix).length)
  (hA:∀ro e0 ds K W,D8 prog Bf ro fn nt A e0 ds W K=K .normal (Env.of e0 [(a2,e0 p2),(a1,e0 p1)]) ds W) (wa:p1≠p2∧a1≠a2)
  (J:Nat→CW→Prop) (Bad:List PanicEntry→CW→Prop) (hJ:∀i W,J i W→rF W bk bx r1 r2 c ty n)
  (hJl:∀i W1 W2,J i W1→Dn (W.sz+1) W1 W2→(∀b k v,W1.cell b k=some v→W2.cell b k=some v)→J i W2)
  (h0:∀W2,Kp W W2→Ag W2→W2.sz=W.sz+2→W2.obj W.sz=some .deferred→J 0 W2)
  (fy:∀(i:Nat) W1 (Kb:AB) (E:Env),(∀t,t≠p1→t≠p2→t≠a1→t≠a2→E t=e t)→E a1=.int .i64 i→E a2=.int .u8 (A0 c ix i)→i<n→J i W1→(∃o,W1.obj (W.sz+1)=some o∧∀a b c d,o≠.cells a b c d)→
   (∀e' FG W3,W3.obj (W.sz+1)=W1.obj (W.sz+1)→J (i+1) W3→Kb .normal e' FG W3)→(∀ch e' W3,W3.obj (W.sz+1)=W1.obj (W.sz+1)→Bad ch W3→Kb (.panic ch) e' [] W3)→
   D8 prog Bf (some (W.sz+1)) fn nt B E [] W1 Kb)
  (GR:∀W',J n W'→K .normal e (mark W.sz::ds) W') (Hv:∀ch W',Bad ch W'→K (.panic ch) e (mark W.sz::ds) W') :
  Gi prog Bf none fn nt (.rangeFunc f #[p1,p2] A B) e ds W K:=by
 have A5:∀{W1 W2:CW} {st Dr Vj e' gb gd A' B' d'},EE W1 (W.sz+1) st Dr Vj e' gb gd A' B' d'→Dn (W.sz+1) W1 W2→∀b k v,W1.cell b k=some v→W2.cell b k=some v:=by
  intro W1 W2 st Dr Vj e' gb gd A' B' d' hl hu b k v hc;obtain⟨T,ho,_⟩:=hl
  rw[hu.cell]
  ·exact hc
  ·rintro rfl;unfold CW.cell at hc;rw[ho]at hc;cases hc
 refine vV (g:=108) (args:=[.func (.yield (W.sz+1)) #[] #[],.pointer (some ⟨bk,0,none⟩),.pointer (some ⟨bx,0,none⟩)]) ht ?_ λW2 k2 t2 z2 hd hl=>?_
 ·rw[hf];rfl
 ·refine(mX (J:=λi W'=>J i W'∧EE W' (W.sz+1) .ready none fn e nt #[p1,p2] A B W.sz) (Bad:=Bad) U3 LO hn (λi W' h=>hJ i W' h.1) (λi W' hi h=>?_) ⟨h0 W2 k2 t2 z2 hd,hl⟩).mono λen W' hr=>?_
  ·obtain⟨hj,Y3⟩:=h;refine oR Y3 rfl ?_;rw[hA];refine⟨rfl,none,e,nt,#[p1,p2],A,B,W.sz,Y3,λW3 hu rH=>?_⟩;have hj3:=hJl i W' W3 hj hu (A5 Y3 hu);obtain⟨qJ,ue⟩:=wa
   refine fy i W3 _ _ (λt h1 h2 h3 h4=>by simp only[AG,AN,abj,ab7,Env.Fi,aac h1,aac h2,aac h3,aac h4]) (by simp only[AG,AN,abj,ab7,Env.Fi,aac qJ,aac ue,aaA]) (by simp only[AG,AN,abj,ab7,Env.Fi,aaA,aac (abW qJ)]) hi hj3 (by obtain⟨T,ho,_⟩:=rH;exact⟨_,ho,λ_ _ _ _ h=>by cases h⟩) (λe' FG W4 ho hj4=>?_) (λch e' W4 ho yp=>?_)
   ·refine⟨.busy,none,fn,e,nt,#[p1,p2],A,B,W.sz,rH.congr ho,λW5 U4 hl5=>.inl ⟨rfl,?_,hl5⟩⟩;exact hJl _ W4 W5 hj4 U4 (A5 (rH.congr ho) U4)
   ·exact⟨.busy,none,fn,e,nt,#[p1,p2],A,B,W.sz,rH.congr ho,rfl,.inr ⟨ch,rfl,yp⟩⟩
  ·rcases hr with⟨rfl,hj,Y3⟩|⟨ch,rfl,hb⟩
   ·refine⟨⟨_,rfl⟩,.ready,none,fn,e,nt,#[p1,p2],A,B,W.sz,Y3,(by intro h;cases h),λW5 U4=>GR W5 ?_⟩;exact hJl _ W' W5 hj U4 (A5 Y3 U4)
   ·exact Hv ch W' hb
def Zi(n:Nat):Int:=if n%2=1 then -((((n+1)/2:Nat)):Int)else((n/2:Nat):Int)
def GN(b:List UInt8)(c:List AV)(ix many:Nat):Nat→Nat→Nat→Nat→List Int→Except Int (List Int×Nat×Nat)
 |0,_,at_,fd,vs=>.ok (vs,fd,at_)
 | m+1,k,at_,fd,vs=>if A0 c ix k=2 then
   (match D7 b at_ ((min (fd+1) many:Nat):Int)with
   | .error e=>.error e
   | .ok (n,a)=>GN b c ix many m (k+1) a (max fd n) (vs++[(n:Int)]))
  else
   (match D7 b at_ 2000000000 with
   | .error e=>.error e
   | .ok (n,a)=>GN b c ix many m (k+1) a fd (vs++[Zi n]))
theorem pB(a b:Int)(W:CW):blt prog .min [3,3] [.int .i64 a,.int .i64 b] W=some (.int .i64 (min a b),W):=by
 have h:blt prog .min [3,3] [.int .i64 a,.int .i64 b] W=some (.int .i64 (cond (decide (b<a)) b a),W):=rfl;rw[h]
 by_cases hq:b<a
 ·rw[decide_eq_true hq,Int.min_eq_right (by omega)];rfl
 ·rw[decide_eq_false hq,Int.min_eq_left (by omega)];rfl
theorem AHS(a b:Int)(W:CW):blt prog .max [3,3] [.int .i64 a,.int .i64 b] W=some (.int .i64 (max a b),W):=by
 have h:blt prog .max [3,3] [.int .i64 a,.int .i64 b] W=some (.int .i64 (cond (decide (a<b)) b a),W):=rfl;rw[h]
 by_cases hq:a<b
 ·rw[decide_eq_true hq,Int.max_eq_right (by omega)];rfl
 ·rw[decide_eq_false hq,Int.max_eq_left (by omega)];rfl
theorem ADr:agg? prog 124=some false:=by kernel_rfl
def LK(n:Nat)(vs:List Int):List Value:=DO (vs++List.replicate (n-vs.length) 0)
theorem OA{n:Nat}{vs:List Int}(h:vs.length≤n):(LK n vs).length=n:=by
 unfold LK DO;rw[aau,aah,acs];omega
theorem xL{n:Nat}{vs:List Int}(h:vs.length<n)(x:Int):putAt (LK n vs) (0+vs.length*1) [.int .i64 x]=LK n (vs++[x]):=by
 have h1:0+vs.length*1=vs.length:=by omega
 have hl:=OA (Nat.le_of_lt h);have PG:=OA (n:=n) (vs:=vs++[x]) (by simp;omega);rw[h1];apply abq;intro j;rw[Jm (by rw[hl];simp;omega)];unfold LK DO;simp only[aaJ,aaK]
 by_cases e:vs.length≤j∧j<vs.length+1
 ·have:j=vs.length:=by omega
  subst this;rw[aad e,abB];rw[aat (by simp),aay (by omega),abB];rfl
 ·rw[aac e]
  by_cases hj:j<vs.length
  ·rw[aat hj,aat (by simp;omega),aat hj]
  ·rw[aay (by omega),aay (by simp;omega)];simp only[aah,aaJ,List.getElem?_replicate]
   by_cases h2:j-vs.length<n-vs.length
   ·rw[aad h2,aad (by omega)]
   ·rw[aac h2,aac (by omega)]
theorem rn{n:Nat}{vs:List Int}(h:vs.length<n)(x y:Int):putAt (LK n (vs++[x])) (0+vs.length*1) [.int .i64 y]=LK n (vs++[y]):=by
 have h1:0+vs.length*1=vs.length:=by omega
 have hl:=OA (n:=n) (vs:=vs++[x]) (by simp;omega);rw[h1];apply abq;intro j;rw[Jm (by rw[hl];simp;omega)];unfold LK DO;simp only[aaJ,aaK]
 by_cases e:vs.length≤j∧j<vs.length+1
 ·have:j=vs.length:=by omega
  subst this;rw[aad e,abB];rw[aat (by simp),aay (by omega),abB];rfl
 ·rw[aac e]
  by_cases hj:j<vs.length
  ·rw[aat (by simp;omega),aat hj,aat (by simp;omega),aat hj]
  ·rw[aay (by simp;omega),aay (by simp;omega)];simp only[aah,aaJ]
def S3(rb F3 bv j:Nat):Prop:=j=rb∨j=F3∨j=bv
structure VIn(A WI:CW)(rb b3 b8 F3 Y6 bv n many:Nat)(ty:ByteArray):Prop where
 top:Ag WI
 c3:Aq WI b3 124 [.pointer (some ⟨rb,0,none⟩)]
 c8:Aq WI b8 3 [.int .i64 many]
 x:Aq WI Y6 56 [.string ty,.slice (some ⟨bv,0,none⟩) n n]
 tO:A.sz≤rb∧A.sz≤F3∧A.sz≤bv
 ne:b8≠F3∧b8≠bv∧F3≠bv
 many:many≤1000
structure VJ(A WI:CW)(rb F3 bv n:Nat)(vb:Value)(W:CW)(at_ fd:Nat)(vs:List Int):Prop where
 D4:Bm (S3 rb F3 bv) WI W
 rd:Rd A W rb vb at_
 f:Aq W F3 3 [.int .i64 fd]
 v:Aq W bv 3 (LK n vs)
theorem dw{rb F3 bv:Nat}{WI:CW}{b:Nat}{el:TypeId}{vs x y z:List Value}(h:Aq WI b el vs)(hr:Aq WI rb 170 x)(hf:Aq WI F3 3 y)(hv:Aq WI bv 3 z)(h1:el≠170)(h2:el≠3):¬S3 rb F3 bv b:=by
 rintro(rfl|rfl|rfl)
 ·exact h1 (Ba h hr)
 ·exact h2 (Ba h hf)
 ·exact h2 (Ba h hv)
theorem xM{A WI W:CW}{K:AB}{E:Env}{rb b3 b8 F3 Y6 bv n many ix at_ fd i:Nat}{vb:Value}{b:List UInt8}{c:List AV}{ty:ByteArray}{vs:List Int}{ro:Option Nat}
  (I:dt A vb b) (V:VIn A WI rb b3 b8 F3 Y6 bv n many ty) {xr yf zv:List Value} (tV:Aq WI rb 170 xr) (hf0:Aq WI F3 3 yf) (tE:Aq WI bv 3 zv) (J:VJ A WI rb F3 bv n vb W at_ fd vs) (mW:at_≤b.length) (mQ:vs.length=i) (hi:i<n) (jj:fd≤1000)
  (q3:E 3=.pointer (some ⟨b3,0,none⟩)) (q8:E 8=.pointer (some ⟨b8,0,none⟩)) (q10:E 10=.pointer (some ⟨F3,0,none⟩)) (q14:E 14=.pointer (some ⟨Y6,0,none⟩)) (q16:E 16=.int .i64 i) (q17:E 17=.int .u8 (A0 c ix i)) {G:Except Int (List Int×Nat×Nat)} {m:Nat}
  (hG:G=GN b c ix many (m+1) i at_ fd vs)
  (Aa:∀e' W' Ej Gx vs',Bm (S3 rb F3 bv) W W'→VJ A WI rb F3 bv n vb W' Ej Gx vs'→Ej≤b.length→Gx≤1000→vs'.length=i+1→G=GN b c ix many m (i+1) Ej Gx vs'→K .normal e' [] W')
  (Hw:∀e' W' x,Bm (S3 rb F3 bv) W W'→Bm (S3 rb F3 bv) WI W'→Ag W'→G=.error x→K (.panic (DT x)) e' [] W') :
  D8 prog Bf ro 74 140 (zn prog 74 0) E [] W K:=by
 obtain⟨NV,Nd,ak⟩:=V.ne;have nb3:=dw V.c3 tV hf0 tE (by decide) (by decide);have nbx:=dw V.x tV hf0 tE (by decide) (by decide)
 have nb8:¬S3 rb F3 bv b8:=by
  rintro(e|e|e)
  ·have h8:=V.c8;rw[e]at h8;have:=Ba h8 tV;cases this
  ·exact NV e
  ·exact Nd e
 have iW:bv≠rb:=by
  rintro rfl;have:=Ba tE tV;cases this
 have mY:F3≠rb:=by
  rintro rfl;have:=Ba hf0 tV;cases this
 have atW:∀W',Bm (S3 rb F3 bv) WI W'→ld prog 124 (.pointer (some ⟨b3,0,none⟩)) W'=some (.pointer (some ⟨rb,0,none⟩))∧ld prog 3 (.pointer (some ⟨b8,0,none⟩)) W'=some (.int .i64 many)∧ld prog 40 (.pointer (some ⟨Y6,0+1,none⟩)) W'=some (.slice (some ⟨bv,0,none⟩) n n):=λW' h=>
  ⟨AD ADr (a:=⟨b3,0,none⟩) ((h.IA V.top nb3 V.c3).cell rfl),AD a3 (a:=⟨b8,0,none⟩) ((h.IA V.top nb8 V.c8).cell rfl),AD Uv (a:=⟨Y6,0+1,none⟩) ((h.IA V.top nbx V.x).cell rfl)⟩
 have kN:(LK n vs).length=n:=OA (by omega);have ABj:=V.many;obtain⟨l3,l8,lx⟩:=atW W J.D4;have l10:ld prog 3 (.pointer (some ⟨F3,0,none⟩)) W=some (.int .i64 fd):=AD a3 (a:=⟨F3,0,none⟩) (J.f.cell rfl);rw[GN]at hG
 have put:∀(W1:CW) (x:Int),Bm (S3 rb F3 bv) WI W1→Ag W1→Aq W1 bv 3 (LK n vs)→∀{Kx:CW→Prop},(∀W2,Dn bv W1 W2→Bm (S3 rb F3 bv) WI W2→Ag W2→Aq W2 bv 3 (LK n (vs++[x]))→Kx W2)→wV (NK prog 3 (.pointer (some ⟨bv,0+i*1,none⟩)) (.int .i64 x) W1) Kx:=by
  intro W1 x hc ht hB Kx hk;refine Ac s3 (a:=⟨bv,0+i*1,none⟩) (v:=.int .i64 x) rfl hB (by rw[kN];simp;omega) λW2 hu Ey=>?_;have hu:Dn bv W1 W2:=hu;refine hk W2 hu (hc.then hu.D4 λj _ h=>.inr (.inr h)) (ht.A6 (hB.lt ht) hu) ?_;have:=xL (n:=n) (vs:=vs) (by omega) x;rw[mQ]at this;rw[←this];exact Ey
 have iT:lD prog 40 (.slice (some ⟨bv,0,none⟩) n n) (.int .i64 i)=some (.pointer (some ⟨bv,0+i*1,none⟩)):=Ay (i:=i) KB s3 hi;rw[ACP,q17];simp only[BJ,AA]
 refine AH (λhk=>?_) (λhk=>?_)
 ·have hk:A0 c ix i=2:=by simpa using hk
  rw[aad hk]at hG;rw[q14,q3,q10,q8,q16];simp only[FJ,AA];rw[lx,l3,l10,l8];simp only[AO,AA];rw[show((fd:Int)+1)=((fd+1:Nat):Int) by omega,wrap64 (by omega) (by omega)];refine GL (pB _ _ W) ?_;rw[show min ((fd+1:Nat):Int) (many:Int)=((min (fd+1) many:Nat):Int) by omega];refine(Ku I J.rd mW).mono λen W1 ⟨Up,t1,hp⟩=>?_;have hC1:Bm (S3 rb F3 bv) WI W1:=J.D4.then Up λj _ h=>.inl h;obtain⟨l3',l8',lx'⟩:=atW W1 hC1
  cases hn:D7 b at_ ((min (fd+1) many:Nat):Int)with
  |error x=>
   rw[hn]at hp hG;have hp:en=.panicked (DT x):=hp;subst hp;refine EH ?_;exact⟨by simp only[l3,lx,and_self],Hw _ W1 x (Bm.refl (S3 rb F3 bv) W|>.then Up λj _ h=>.inl h) hC1 t1 hG⟩
  | ok r=>
   obtain⟨x,a1⟩:=r;rw[hn]at hp hG;obtain⟨v,rfl,rfl,KE⟩:=hp;obtain⟨RJ,_,C8⟩:=GX hn;refine AP ?_;rw[iT];simp only[AA];have cV:=Up.IA J.rd.top iW J.v;have zO:=Up.IA J.rd.top mY J.f;refine put W1 x hC1 t1 cV λW2 hu tZ t2 Ey=>?_;obtain⟨ADs,AJ9,ADt⟩:=atW W2 tZ;refine⟨by simp only[l3,lx,lx',and_self],trivial,?_⟩;have uJ:Aq W2 F3 3 [.int .i64 fd]:=zO.congr (hu.obj _ ak);have AJ':ld prog 3 (.pointer (some ⟨F3,0,none⟩)) W2=some (.int .i64 fd):=AD a3 (a:=⟨F3,0,none⟩) (uJ.cell rfl)
   have lv:ld prog 3 (.pointer (some ⟨bv,0+i*1,none⟩)) W2=some (.int .i64 x):=by
    refine AD a3 (a:=⟨bv,0+i*1,none⟩) (Ey.cell ?_);show(LK n (vs++[(x:Int)]))[0+i*1]?=_;unfold LK DO;rw[aaK,aat (by simp;omega),aay (by omega),show 0+i*1-vs.length=0 by omega];rfl
   rw[AJ',ADt];simp only[AA];rw[iT];simp only[AA];rw[lv];simp only[AA];refine GL (AHS _ _ W2) ?_;rw[show max (fd:Int) (x:Int)=((max fd x:Nat):Int) by omega];refine Ac s3 (a:=⟨F3,0,none⟩) (v:=.int .i64 ((max fd x:Nat):Int)) rfl uJ (by simp) λW3 Og Fk=>?_;have Og:Dn F3 W2 W3:=Og;have Fk:Aq W3 F3 3 [.int .i64 ((max fd x:Nat):Int)]:=Fk;have hC3:Bm (S3 rb F3 bv) WI W3:=tZ.then Og.D4 λj _ h=>.inr (.inl h);have t3:=t2.A6 (uJ.lt t2) Og;refine⟨by simp only[and_self],trivial,?_⟩;refine Aa _ W3 a1 (max fd x) (vs++[(x:Int)]) (((Bm.refl (S3 rb F3 bv) W|>.then Up λj _ h=>.inl h).then hu.D4 λj _ h=>.inr (.inr h)).then Og.D4 λj _ h=>.inr (.inl h)) ⟨hC3,⟨(KE.kp.A6 V.tO.2.2 hu).A6 V.tO.2.1 Og,t3,KE.hb,(KE.IA.congr (hu.obj _ (abW iW))).congr (Og.obj _ (abW mY))⟩,Fk,Ey.congr (Og.obj _ (abW ak))⟩ C8 (by omega) (by simp[mQ]) hG
 ·have hk:A0 c ix i≠2:=by simpa using hk
  rw[aac hk]at hG;rw[q14,q3,q16,l3];simp only[AA];refine(Ku (most:=2000000000) I J.rd mW).mono λen W1 ⟨Up,t1,hp⟩=>?_;have hC1:Bm (S3 rb F3 bv) WI W1:=J.D4.then Up λj _ h=>.inl h;obtain⟨l3',l8',lx'⟩:=atW W1 hC1
  cases hn:D7 b at_ 2000000000 with
  |error x=>
   rw[hn]at hp hG;have hp:en=.panicked (DT x):=hp;subst hp;refine EH ?_;exact Hw _ W1 x (Bm.refl (S3 rb F3 bv) W|>.then Up λj _ h=>.inl h) hC1 t1 hG
  | ok r=>
   obtain⟨x,a1⟩:=r;rw[hn]at hp hG;obtain⟨v,rfl,rfl,KE⟩:=hp;obtain⟨RJ,_,C8⟩:=GX hn;refine AP ?_;simp only[FJ,AA];rw[lx'];simp only[AA];refine Ad (XT _ _ _ (by decide)) ?_;rw[show((x:Int).tdiv 2)=((x/2:Nat):Int) by rw[acz (by omega)];omega,wrap64 (by omega) (by omega)];rw[iT];simp only[AA];have cV:=Up.IA J.rd.top iW J.v;have zO:=Up.IA J.rd.top mY J.f;refine put W1 _ hC1 t1 cV λW2 hu tZ t2 Ey=>?_;obtain⟨ADs,AJ9,ADt⟩:=atW W2 tZ;have uJ:Aq W2 F3 3 [.int .i64 fd]:=zO.congr (hu.obj _ ak);have Ty:Rd A W2 rb vb a1:=⟨KE.kp.A6 V.tO.2.2 hu,t2,KE.hb,KE.IA.congr (hu.obj _ (abW iW))⟩
   refine Ad (XU _ _ _ (by decide)) ?_;rw[show((x:Int).tmod 2)=((x%2:Nat):Int) by rw[acy (by omega)];rfl];refine Ad (BJ _ _ _) ?_
   refine AH (λho=>?_) (λho=>?_)
   ·have ho:x%2=1:=by have:=eq_of_beq ho;omega
    rw[ADt];simp only[AO,AA];rw[show((x:Int)+1)=((x+1:Nat):Int) by omega,wrap64 (by omega) (by omega)]
    refine Ad (v:=.int .i64 (-((x+1:Nat):Int))) (by
     show some (Value.int .i64 (IntKind.i64.wrap (0-((x+1:Nat):Int))))=_
     rw[wrap64 (by omega) (by omega),Int.zero_sub]) ?_
    refine Ad (XT _ _ _ (by decide)) ?_;rw[show((-((x+1:Nat):Int)).tdiv 2)=-(((x+1)/2:Nat):Int) by rw[Int.neg_tdiv,acz (by omega)];omega,wrap64 (by omega) (by omega)];rw[iT];simp only[AA];have PG:=OA (n:=n) (vs:=vs++[((x/2:Nat):Int)]) (by simp;omega);refine Ac s3 (a:=⟨bv,0+i*1,none⟩) (v:=.int .i64 (-(((x+1)/2:Nat):Int))) rfl Ey (by rw[PG];simp;omega) λW3 Og Fk=>?_;have Og:Dn bv W2 W3:=Og;have hov:=rn (n:=n) (vs:=vs) (by omega) ((x/2:Nat):Int) (-(((x+1)/2:Nat):Int));rw[mQ]at hov;have Fk:Aq W3 bv 3 (LK n (vs++[-(((x+1)/2:Nat):Int)])):=by rw[←hov];exact Fk
    have t3:=t2.A6 (Ey.lt t2) Og;have UQ:Zi x=-(((x+1)/2:Nat):Int):=by unfold Zi;rw[aad ho]
    refine Aa _ W3 a1 fd (vs++[-(((x+1)/2:Nat):Int)]) (((Bm.refl (S3 rb F3 bv) W|>.then Up λj _ h=>.inl h).then hu.D4 λj _ h=>.inr (.inr h)).then Og.D4 λj _ h=>.inr (.inr h)) ⟨tZ.then Og.D4 λj _ h=>.inr (.inr h),⟨Ty.kp.A6 V.tO.2.2 Og,t3,KE.hb,Ty.IA.congr (Og.obj _ (abW iW))⟩,uJ.congr (Og.obj _ ak),Fk⟩ C8 jj (by simp[mQ]) (by rw[hG];show GN b c ix many m (i+1) a1 fd (vs++[Zi x])=_;rw[UQ])
   ·have ho:¬x%2=1:=by
     intro e;rw[e]at ho;simp at ho
    have UQ:Zi x=((x/2:Nat):Int):=by unfold Zi;rw[aac ho]
    exact Aa _ W2 a1 fd (vs++[((x/2:Nat):Int)]) ((Bm.refl (S3 rb F3 bv) W|>.then Up λj _ h=>.inl h).then hu.D4 λj _ h=>.inr (.inr h)) ⟨tZ,Ty,uJ,Ey⟩ C8 jj (by simp[mQ]) (by rw[hG];show GN b c ix many m (i+1) a1 fd (vs++[Zi x])=_;rw[UQ])
def Marks(B:Nat)(W:CW)(ds:List Deferred):Prop:=∃rs:List Nat,ds=rs.map mark∧rs.Nodup∧∀r,r∈rs→W.obj r=some .deferred∧B≤r
theorem Marks.nil(B:Nat)(W:CW):Marks B W []:=⟨[],rfl,ack,λr h=>by cases h⟩
theorem U5{P:Program}{fn:Func}{Q:Ending→CW→Prop}{x:Exit}{e:Env}{B:Nat}{W:CW}(ht:Ag W){ds:List Deferred}(h:Marks B W ds)(hq:∀W',(∀j o,W.obj j=some o→o≠.deferred→W'.obj j=some o)→(∀j,j<B→W'.obj j=W.obj j)→W'.sz=W.sz→Ag W'→AQ P fn Q x e [] W'):AQ P fn Q x e ds W:=by
 obtain⟨rs,rfl,ZM,hr⟩:=h
 suffices key:∀(rs:List Nat) (W0:CW),Ag W0→rs.Nodup→(∀r,r∈rs→W0.obj r=some .deferred∧B≤r)→(∀W',(∀j o,W0.obj j=some o→o≠.deferred→W'.obj j=some o)→(∀j,j<B→W'.obj j=W0.obj j)→W'.sz=W0.sz→Ag W'→AQ P fn Q x e [] W')→AQ P fn Q x e (rs.map mark) W0 from key rs W ht ZM hr hq
 intro rs
 induction rs with
 |nil=>intro W0 ht _ _ hq;exact hq W0 (λj o h _=>h) (λj _=>rfl) rfl ht
 | cons r rs ih=>
  intro W0 ht ZM hr hq;obtain⟨KE,Ty⟩:=hr r (by simp);obtain⟨NV,Nd⟩:=ac4.1 ZM
  refine J9 KE (ih (W0.A6 r .dead) (ht.A6 (ht _ _ KE) (Dn.of _ _ _)) Nd (λr' h'=>?_) λW' h1 h2 h3 h4=>hq W' (λj o hj ho=>?_) (λj hj=>?_) h3 h4)
  ·obtain⟨a,b⟩:=hr r' (by simp[h']);exact⟨by rw[G4,aac (by rintro rfl;exact NV h')];exact a,b⟩
  ·refine h1 j o ?_ ho
   rw[G4,aac]
   ·exact hj
   ·rintro rfl;rw[KE]at hj;cases hj;exact ho rfl
  ·rw[h2 j hj,G4,aac (by omega)]
theorem Marks.D4{B:Nat}{W W':CW}{ds:List Deferred}(h:Marks B W ds)(ho:∀j,W.obj j=some .deferred→B≤j→W'.obj j=some .deferred):Marks B W' ds:=by
 obtain⟨rs,h1,h2,h3⟩:=h;exact⟨rs,h1,h2,λr hr=>⟨ho r (h3 r hr).1 (h3 r hr).2,(h3 r hr).2⟩⟩
theorem Marks.push{B:Nat}{W:CW}{ds:List Deferred}{r:Nat}(h:Marks B W ds)(hr:W.obj r=some .deferred)(hB:B≤r)(hn:mark r∉ds):Marks B W (mark r::ds):=by
 obtain⟨rs,rfl,h2,h3⟩:=h;refine⟨r::rs,rfl,ac4.2 ⟨λhm=>hn (aaU.2 ⟨r,hm,rfl⟩),h2⟩,λr' KM=>?_⟩
 rcases aaE.1 KM with rfl|hm
 ·exact⟨hr,hB⟩
 ·exact h3 r' hm
def Fm (b:List UInt8)(c:List AV)(ts:List ByteArray)(many:Nat):Nat→Nat→Nat→Nat→Nat→List BC→Except Int (List BC×Nat×Nat×Nat)
 |0,_,at_,used,fd,out=>.ok (out,used,fd,at_)
 | m+1,i,at_,used,fd,out=>if i<fd then
   (match D7 b at_ (min (used:Int) ((ts.length:Int)-1))with
   | .error e=>.error e
   | .ok (t,a1)=>match ts[t]? with
    |none=>.error 4
    | some ty=>match Ah c ty with
     |none=>.error 4
     | some ix=>match(if elemAt c ix≠0 then D7 b a1 200 else .ok ((Al c ix).length,a1))with
      | .error e=>.error e
      | .ok (n,a2)=>match GN b c ix many n 0 a2 fd []with
       | .error e=>.error e
       | .ok (vs,Gx,a3)=>Fm b c ts many m (i+1) a3 (if t=used then used+1 else used) Gx (out++[⟨ty,vs⟩]))
  else .error 4
def CA(b:List UInt8)(c:List AV)(ask:ByteArray→Option Int)(at_:Nat):Except Int (List BC×Nat):=match Ev b ask at_ with
 | .error e=>.error e
 | .ok (ts,a1)=>match D7 b a1 1000 with
  | .error e=>.error e
  | .ok (many,a2)=>match Fm b c ts many many 0 a2 0 (min many 1) []with
   | .error e=>.error e
   | .ok (out,used,fd,a3)=>if fd=many∧used=ts.length∧a3=b.length then .ok (out,a3)else .error 4
def Ho(p:BC×Value):List Value:=[.string p.1.type,p.2]
def AJ_(B:Nat)(W:CW)(ps:List (BC×Value)):Prop:=∀p,p∈ps→∃bv,p.2=.slice (some ⟨bv,0,none⟩) p.1.AL.length p.1.AL.length∧Aq W bv 3 (DO p.1.AL)∧B≤bv
structure Fo(B:Nat)(W:CW)(v:Value)(ps:List (BC×Value)):Prop where
 own:C' W 56 2 v (ps.flatMap Ho)
 new:BZ B v
 pv:AJ_ B W ps
 nd:(ps.map (·.2)).Nodup
theorem Fo.of{B:Nat}{W W':CW}{v:Value}{ps:List (BC×Value)}(h:Fo B W v ps)(ho:∀j o,B≤j→W.obj j=some o→o≠.deferred→W'.obj j=some o):Fo B W' v ps:=by
 refine⟨NA h.own λj hj=>?_,h.new,λp hp=>?_,h.nd⟩
 ·obtain⟨c,n,z,Wl,_⟩:=Df h.own hj;rw[Wl];exact ho j _ (h.new.in hj) Wl (by simp)
 ·obtain⟨bv,h1,hB,h3⟩:=h.pv p hp;refine⟨bv,h1,?_,h3⟩;obtain⟨c,n,z,Wl,hx⟩:=hB;exact⟨c,n,z,ho bv _ h3 Wl (by simp),hx⟩
structure TP where
 A:CW
 L:CW
 rb:Nat
 b3:Nat
 b4:Nat
 b8:Nat
 F3:Nat
 r1:Nat
 r2:Nat
 vb:Value
 vt:Value
 b:List UInt8
 c:List AV
 ts:List ByteArray
 many:Nat
 G:Except Int (List BC×Nat×Nat×Nat)
structure TIn(p:TP):Prop where
 rd:dt p.A p.vb p.b
 cat:FB p.A p.r1 p.r2 p.c
 ok:Az p.c=true
 C:Ru p.c
 top:Ag p.L
 kA:Kp p.A p.L
 c3:Aq p.L p.b3 124 [.pointer (some ⟨p.rb,0,none⟩)]
 c4:Aq p.L p.b4 78 [.map (some p.r1),.map (some p.r2)]
 c8:Aq p.L p.b8 3 [.int .i64 p.many]
 vt:C' p.L 9 1 p.vt (strs p.ts)
 tl:p.ts.length≤100
 known:∀s,s∈p.ts→(Ah p.c s).isSome=true
 xr:∃v,Aq p.L p.rb 170 v
 xf:∃v,Aq p.L p.F3 3 v
 tO:p.A.sz≤p.rb∧p.A.sz≤p.F3
 ne:p.b8≠p.F3
 many:p.many≤1000
def S2(rb F3 j:Nat):Prop:=j=rb∨j=F3
structure TJ(p:TP)(W:CW)(at_ fd:Nat)(vo:Value)(ps:List (BC×Value))(ds:List Deferred):Prop where
 D4:Bm (S2 p.rb p.F3) p.L W
 rd:Rd p.A W p.rb p.vb at_
 f:Aq W p.F3 3 [.int .i64 fd]
 heap:Fo p.L.sz W vo ps
 marks:Marks p.L.sz W ds
structure TE(p:TP)(e:Env)(i used:Nat)(vo:Value):Prop where
 e3:e 3=.pointer (some ⟨p.b3,0,none⟩)
 e4:e 4=.pointer (some ⟨p.b4,0,none⟩)
 e7:e 7=p.vt
 e8:e 8=.pointer (some ⟨p.b8,0,none⟩)
 e9:e 9=.int .i64 used
 xN:e 10=.pointer (some ⟨p.F3,0,none⟩)
 oc:e 11=vo
 e26:e 26=.int .i64 p.many
 e27:e 27=.int .i64 i
def TP.J(p:TP)(i:Nat)(e:Env)(ds:List Deferred)(W:CW):Prop:=∃at_ fd used vo ps,TJ p W at_ fd vo ps ds∧TE p e i used vo∧at_≤p.b.length∧fd≤1000∧used≤p.ts.length∧ps.length=i∧p.G=Fm p.b p.c p.ts p.many (p.many-i) i at_ used fd (ps.map (·.1))
section
variable {p:TP}(I:TIn p)
include I
theorem TIn.lts:p.rb<p.L.sz∧p.F3<p.L.sz:=by
 obtain⟨_,h1⟩:=I.xr;obtain⟨_,h2⟩:=I.xf;exact⟨h1.lt I.top,h2.lt I.top⟩
theorem TIn.rne:p.rb≠p.F3:=by
 obtain⟨_,h1⟩:=I.xr;obtain⟨_,h2⟩:=I.xf;intro e;rw[e]at h1;have:=Ba h1 h2;cases this
theorem TIn.ADu{b:Nat}{el:TypeId}{vs:List Value}(h:Aq p.L b el vs)(h1:el≠170)(h2:el≠3):¬S2 p.rb p.F3 b:=by
 obtain⟨_,k1⟩:=I.xr;obtain⟨_,k2⟩:=I.xf
 rintro(rfl|rfl)
 ·exact h1 (Ba h k1)
 ·exact h2 (Ba h k2)
theorem TIn.at{W:CW}(h:Bm (S2 p.rb p.F3) p.L W):ld prog 124 (.pointer (some ⟨p.b3,0,none⟩)) W=some (.pointer (some ⟨p.rb,0,none⟩))∧Aq W p.b4 78 [.map (some p.r1),.map (some p.r2)]∧Aq W p.b3 124 [.pointer (some ⟨p.rb,0,none⟩)]∧Aq W p.b8 3 [.int .i64 p.many]∧C' W 9 1 p.vt (strs p.ts):=by
 have h3:=h.IA I.top (I.ADu I.c3 (by decide) (by decide)) I.c3;refine⟨AD ADr (a:=⟨p.b3,0,none⟩) (h3.cell rfl),h.IA I.top (I.ADu I.c4 (by decide) (by decide)) I.c4,h3,h.IA I.top ?_ I.c8,h.own I.top I.vt λj hj=>I.ADu (Df I.vt hj) (by decide) (by decide)⟩
 rintro(e|e)
 ·obtain⟨_,k1⟩:=I.xr;have h8:=I.c8;rw[e]at h8;have:=Ba h8 k1;cases this
 ·exact I.ne e
theorem TJ.step{W W':CW}{at_ fd Ej:Nat}{vo:Value}{ps:List (BC×Value)}{ds:List Deferred}(J:TJ p W at_ fd vo ps ds)(hc:Bm (ZZ p.rb) W W')(hr:Rd p.A W' p.rb p.vb Ej):TJ p W' Ej fd vo ps ds:=by
 have hl:=I.lts;have hs:=J.D4.sz;have Wl:∀j o,W.obj j=some o→j≠p.rb→W'.obj j=some o:=λj o hj Dg=>by rw[hc.obj j (J.rd.top _ _ hj) Dg];exact hj
 exact⟨J.D4.then hc λj _ h=>.inl h,hr,J.f.congr (hc.obj _ (by omega) (abW I.rne)),J.heap.of λj o hB hj _=>Wl j o hj (by omega),J.marks.D4 λj hj hB=>Wl j _ hj (by omega)⟩
end
theorem AKA:(prog.info? 56).map (·.bytes)=some 40:=by kernel_rfl
theorem AHT(s:ByteArray)(a:Addr)(n m:Nat)(W:CW):W_ prog 24 1 [(0,.agg [.string s,.slice (some a) n m].toArray)] W=some (.slice (some ⟨W.sz,0,none⟩) 1 1,W.new (.cells (Tr.nil.AS 0 [.string s,.slice (some a) n m]) [Value.string s,.slice (some a) n m].length #[] 56)):=by kernel_rfl
theorem AKB:De prog 40=some 1:=by kernel_rfl
theorem xO(n:Nat):LK n []=List.replicate n (.int .i64 0):=by
 unfold LK DO;simp
theorem xP{n:Nat}{vs:List Int}(h:vs.length=n):LK n vs=DO vs:=by
 unfold LK;rw[h,abB];simp
theorem Ir:∀ps:List (BC×Value),(ps.flatMap Ho).length=ps.length*2
 |[]=>rfl
 |q::ps=>by
  have ih:=Ir ps;simp only[aas,aah,ih,aap,Ho,aaP];omega
theorem xQ{a b:Nat}(h:mark a=mark b):a=b:=by
 unfold mark at h
 injection h with h1 h2
 injection h1
theorem mZ{p:TP}(I:TIn p){K:AB}{W:CW}{e:Env}{ds:List Deferred}{i n ix Y6 at_ fd used m:Nat}{vo:Value}{ps:List (BC×Value)}{ty:ByteArray}(J:TJ p W at_ fd vo ps ds)(E:TE p e i used vo)
  (yz:e 14=.pointer (some ⟨Y6,0,none⟩)) (h15:e 15=.int .i64 n) (hx:Aq W Y6 56 [.string ty,.slice none 0 0]) (AAX:p.L.sz≤Y6) (Dg:∀j,Bh vo j→j≠Y6) (U3:Ah p.c ty=some ix) (Oz:elemAt p.c ix=0→n≤(Al p.c ix).length) (hn:n≤20100) (mW:at_≤p.b.length) (jj:fd≤1000) (hi:i<1000)
  (hlen:ps.length=i)
  (hG:p.G=match GN p.b p.c ix p.many n 0 at_ fd []with| .error e=>.error e| .ok (vs,Gx,a3)=>Fm p.b p.c p.ts p.many m (i+1) a3 used Gx (ps.map (·.1)++[⟨ty,vs⟩]))
  (Hv:∀e' FG W' x,Marks p.L.sz W' FG→Bm (S2 p.rb p.F3) p.L W'→Ag W'→p.G=.error x→K (.panic (DT x)) e' FG W')
  (Aa:∀e' FG W' Ej Gx tU q,TJ p W' Ej Gx tU (ps++[q]) FG→TE p e' (i+1) used tU→Ej≤p.b.length→Gx≤1000→p.G=Fm p.b p.c p.ts p.many m (i+1) Ej used Gx ((ps++[q]).map (·.1))→K .normal e' FG W') :
  (OW none K) .normal e ds W:=by
 obtain⟨fz,PG⟩:=I.lts;have hs:=J.D4.sz;simp only[aE,BI];rw[h15,yz];refine ABZ KB s3 z3 rfl by3 (by omega) (n:=n) (by omega) J.rd.top λW1 k1 t1 z1 wy=>?_;simp only[FJ,AA];have RJ:=hx.ext J.rd.top k1;refine Ac AKB (a:=⟨Y6,0+1,none⟩) (v:=.slice (some ⟨W.sz,0,none⟩) n n) rfl RJ (by simp) λW2 hu Ey=>?_;have hu:Dn Y6 W1 W2:=hu;have Ey:Aq W2 Y6 56 [.string ty,.slice (some ⟨W.sz,0,none⟩) n n]:=by simpa[putAt]using Ey
 have ALo:=hx.lt J.rd.top;have t2:=t1.A6 (RJ.lt t1) hu;have KU:∀j,j<W.sz→j≠Y6→W2.obj j=W.obj j:=λj hj Dg=>by rw[hu.obj j Dg,k1.obj j hj]
 have tZ:Bm (S2 p.rb p.F3) p.L W2:=⟨by rw[hu.sz];have:=k1.sz;omega,λj hj hS=>by rw[KU j (by omega) (by omega)];exact J.D4.obj j hj hS⟩
 have Ty:Rd p.A W2 p.rb p.vb at_:=⟨(J.rd.kp.trans k1).A6 (by have:=I.kA.sz;omega) hu,t2,J.rd.hb,J.rd.IA.congr (KU _ (by omega) (by omega))⟩
 have AKC:Aq W2 W.sz 3 (LK n []):=by
  rw[xO];exact wy.congr (hu.obj _ (by omega))
 have J2:TJ p W2 at_ fd vo ps ds:=by
  refine⟨tZ,Ty,J.f.congr (KU _ (by omega) (by omega)),⟨NA J.heap.own λj hj=>KU j (N5 J.rd.top J.heap.own hj) (Dg j hj),J.heap.new,λq hq=>?_,J.heap.nd⟩,J.marks.D4 λj hj hB=>?_⟩
  ·obtain⟨bv,h1,h2,h3⟩:=J.heap.pv q hq;exact⟨bv,h1,h2.congr (KU _ (h2.lt J.rd.top) (by rintro rfl;have:=Ba h2 hx;cases this)),h3⟩
  ·rw[KU j (J.rd.top _ _ hj) (by
    rintro rfl;obtain⟨c,nn,z,ho,_⟩:=hx
    rw[ho]at hj;cases hj)]
   exact hj
 obtain⟨l3,B4,B3,B8,BT⟩:=I.at tZ;rw[E.e4,QK B4,Bn (vs:=[.string ty,.slice (some ⟨W.sz,0,none⟩) n n]) (a:=⟨Y6,0,none⟩) gY LD rfl (by omega) Ey.cells];simp only[AA];refine(R7 (r1:=p.r1) (r2:=p.r2) (ty:=ty) (vx:=.slice (some ⟨W.sz,0,none⟩) n n) t2).mono λen W3 ⟨k3,t3,bk,bx,FN,qD,hbx,tR,tS⟩=>?_;subst FN;refine AP ?_;have z2:W.sz<W2.sz:=by rw[hu.sz,z1];omega
 have rC:=k3.sz;have J3:TJ p W3 at_ fd vo ps ds:=J2.step I k3.rd (Ty.VP k3 t3);have hC3:=J3.D4;obtain⟨l3',B4',B3',B8',BT'⟩:=I.at hC3;have AHU:Aq W3 Y6 56 [.string ty,.slice (some ⟨W.sz,0,none⟩) n n]:=Ey.ext t2 k3;have AAY:Aq W3 W.sz 3 (LK n []):=AKC.ext t2 k3;have V:VIn p.A W3 p.rb p.b3 p.b8 p.F3 Y6 W.sz n p.many ty:=⟨t3,B3',B8',AHU,⟨I.tO.1,I.tO.2,by have:=I.kA.sz;omega⟩,⟨I.ne,by have:=I.c8.lt I.top;omega,by omega⟩,I.many⟩
 have nS:∀j,W3.sz≤j→¬S3 p.rb p.F3 W.sz j:=by
  rintro j hj (rfl|rfl|rfl)<;>omega
 have mk:∀W',Bm (S3 p.rb p.F3 W.sz) W3 W'→W'.obj W3.sz=some .deferred→(∀j o,W.obj j=some o→p.L.sz≤j→j≠Y6→W'.obj j=some o)∧Marks p.L.sz W' (mark W3.sz::ds)∧Bm (S2 p.rb p.F3) p.L W':=by
  intro W' hc hd
  have Wl:∀j o,W.obj j=some o→p.L.sz≤j→j≠Y6→W'.obj j=some o:=by
   intro j o hj hB AKD;have Y4:=J.rd.top _ _ hj;rw[hc.obj j (by omega) (by rintro(rfl|rfl|rfl)<;>omega),k3.obj j (by omega),KU j Y4 AKD];exact hj
  refine⟨Wl,Marks.push (J.marks.D4 λj hj hB=>?_) hd (by omega) λhm=>?_,⟨by have:=hc.sz;omega,λj hj hS=>by rw[hc.obj j (by omega) (by rintro(e|e|e);exact hS (.inl e);exact hS (.inr e);omega)];exact hC3.obj j hj hS⟩⟩
  ·exact Wl j _ hj hB (by
    rintro rfl;obtain⟨c,nn,z,ho,_⟩:=hx
    rw[ho]at hj;cases hj)
  ·obtain⟨rs,Z1,_,hr⟩:=J.marks;rw[Z1]at hm;obtain⟨r,KE,Ty⟩:=aaU.1 hm;have:=xQ Ty;subst this;have:=J.rd.top _ _ (hr _ KE).1;omega
 have fin:∀(W':CW) Ej Gx vs,VJ p.A W3 p.rb p.F3 W.sz n p.vb W' Ej Gx vs→W'.obj W3.sz=some .deferred→vs.length=n→TJ p W' Ej Gx vo ps (mark W3.sz::ds)∧Aq W' W.sz 3 (DO vs)∧Aq W' Y6 56 [.string ty,.slice (some ⟨W.sz,0,none⟩) n n]:=by
  intro W' Ej Gx vs hv hd mQ;obtain⟨Wl,za,hcL⟩:=mk W' hv.D4 hd
  refine⟨⟨hcL,hv.rd,hv.f,⟨NA J.heap.own λj hj=>?_,J.heap.new,λq hq=>?_,J.heap.nd⟩,za⟩,?_,?_⟩
  ·obtain⟨c,nn,z,ho,_⟩:=Df J.heap.own hj;rw[ho];exact Wl j _ ho (J.heap.new.in hj) (Dg j hj)
  ·obtain⟨bv,h1,h2,h3⟩:=J.heap.pv q hq;refine⟨bv,h1,?_,h3⟩;obtain⟨c,nn,z,ho,Mh⟩:=h2
   exact⟨c,nn,z,Wl bv _ ho h3 (by
    rintro rfl
    have:=Ba (⟨c,nn,z,ho,Mh⟩:Aq W bv 3 _) hx;cases this),Mh⟩
  ·rw[←xP mQ];exact hv.v
  ·refine AHU.congr (hv.D4.obj _ (by omega) ?_);rintro(e|e|e)<;>omega
 have xr3:=J3.rd.IA;have xf3:=J3.f
 refine xK (bk:=bk) (bx:=bx) (r1:=p.r1) (r2:=p.r2) (n:=n) (ix:=ix) (c:=p.c) (ty:=ty) t3 rfl U3 (by omega) Oz (λro e0 ds K W=>ACO ro e0 ds K W) ⟨by decide,by decide⟩
  (λj W'=>W'.obj W3.sz=some .deferred∧W3.sz+2≤W'.sz∧∃Ej Gx vs,VJ p.A W3 p.rb p.F3 W.sz n p.vb W' Ej Gx vs∧Ej≤p.b.length∧Gx≤1000∧vs.length=j∧GN p.b p.c ix p.many n 0 at_ fd []=GN p.b p.c ix p.many (n-j) j Ej Gx vs)
  (λch W'=>W'.obj W3.sz=some .deferred∧∃x,ch=DT x∧Bm (S3 p.rb p.F3 W.sz) W3 W'∧Ag W'∧GN p.b p.c ix p.many n 0 at_ fd []=.error x)
  ?_ ?_ ?_ ?_ ?_ ?_
 ·rintro j W' ⟨_,_,Ej,Gx,vs,hv,_⟩;have hk:=hv.D4.IA t3 (dw tR xr3 xf3 AAY (by decide) (by decide)) tR;have ym:=hv.D4.IA t3 (dw tS xr3 xf3 AAY (by decide) (by decide)) tS;exact⟨hk.cell rfl,hk.cell rfl,I.cat.kp I.rd.top hv.rd.kp,ym.cell rfl,_,_,ym.cell rfl⟩
 ·rintro j ZA W2' ⟨hd,Hs,Ej,Gx,vs,hv,h1,h2,h3,h4⟩ hul _;refine⟨by rw[hul.obj _ (by omega)];exact hd,by rw[hul.sz];exact Hs,Ej,Gx,vs,⟨⟨by rw[hul.sz];exact hv.D4.sz,λj hj hS=>by rw[hul.obj j (by omega)];exact hv.D4.obj j hj hS⟩,⟨hv.rd.kp.A6 (by have:=I.kA.sz;omega) hul,hv.rd.top.A6 (by omega) hul,hv.rd.hb,hv.rd.IA.congr (hul.obj _ (by omega))⟩,hv.f.congr (hul.obj _ (by omega)),hv.v.congr (hul.obj _ (by omega))⟩,h1,h2,h3,h4⟩
 ·rintro W4 k4 t4 z4 hd4;exact⟨hd4,by omega,at_,fd,[],⟨Bm.Io k4,J3.rd.VP k4 t4,xf3.ext t3 k4,AAY.ext t3 k4⟩,mW,jj,rfl,rfl⟩
 ·rintro j W1 Kb E' hE C8 ju hj ⟨hd,Hs,Ej,Gx,vs,hv,AAZ,AAa,mQ,TB⟩ M_ AHV AHW
  refine xM (m:=n-j-1) (G:=GN p.b p.c ix p.many n 0 at_ fd []) I.rd V xr3 xf3 AAY hv AAZ mQ hj AAa ((hE 3 (by decide) (by decide) (by decide) (by decide)).trans (by simp only[AG,AN,Nat.reduceEqDiff,↓reduceIte,E.e3])) ((hE 8 (by decide) (by decide) (by decide) (by decide)).trans (by simp only[AG,AN,Nat.reduceEqDiff,↓reduceIte,E.e8])) ((hE 10 (by decide) (by decide) (by decide) (by decide)).trans (by simp only[AG,AN,Nat.reduceEqDiff,↓reduceIte,E.xN])) ((hE 14 (by decide) (by decide) (by decide) (by decide)).trans (by simp only[AG,AN,Nat.reduceEqDiff,↓reduceIte,yz])) C8 ju (by rw[TB,Nat.sub_add_cancel (show 1≤n-j by omega)]) (λe' W' AKE AKF AKG hcw Iu AKH AKI AKJ AKK=>?_) (λe' W' x hcw cQ ht' Mh=>?_)
  ·have:=hcw.sz;exact AHV e' [] W' (hcw.obj _ (by omega) (nS _ (by omega))) ⟨by rw[hcw.obj _ (by omega) (nS _ (by omega))];exact hd,by omega,AKE,AKF,AKG,Iu,AKH,AKI,AKJ,by rw[AKK,show n-j-1=n-(j+1) by omega]⟩
  ·exact AHW _ e' W' (hcw.obj _ (by omega) (nS _ (by omega))) ⟨by rw[hcw.obj _ (by omega) (nS _ (by omega))];exact hd,x,rfl,cQ,ht',Mh⟩
 ·rintro W' ⟨hd,Hs,Ej,Gx,vs,hv,AAZ,AAa,mQ,TB⟩;rw[abB]at TB;obtain⟨JF,xR,AKL⟩:=fin W' Ej Gx vs hv hd mQ;have TB:GN p.b p.c ix p.many n 0 at_ fd []=.ok (vs,Gx,Ej):=TB;rw[TB]at hG;simp only[aD,BI,zw];simp only[AG,AN,Nat.reduceEqDiff,↓reduceIte,yz,E.oc];rw[Bn (vs:=[.string ty,.slice (some ⟨W.sz,0,none⟩) n n]) (a:=⟨Y6,0,none⟩) gY LD rfl (by omega) AKL.cells];simp only[AA];have OS:=Ir ps;refine Mj VT LD z56 rfl (by omega) AKA (by omega) (AHT _ _ _ _) rfl rfl hv.rd.top JF.heap.own (by rw[OS];omega) λu Wa jl W10 ka ta Lz t10 o10 n10=>?_;have ALp:=Lz.sz;have hzv:=hv.D4.sz;have hpo:∀j o,W'.obj j=some o→¬Bh vo j→W10.obj j=some o:=λj o hj hS=>by rw[Lz.D4.obj j (hv.rd.top _ _ hj) hS];exact hj
  have hnS:∀j,j<p.L.sz→¬Bh vo j:=λj hj hi=>by have:=J.heap.new.in hi;omega
  have hnB:∀{j:Nat} {el:TypeId} {ws:List Value},Aq W' j el ws→el≠56→¬Bh vo j:=λhB he hi=>he (Ba hB (Df JF.heap.own hi))
  have xS:∀{j:Nat} {ws:List Value},Aq W' j 3 ws→Aq W10 j 3 ws:=λ{j ws} hB=>by
   obtain⟨c,nn,z,ho,Mh⟩:=hB;exact⟨c,nn,z,hpo j _ ho (hnB (⟨c,nn,z,ho,Mh⟩:Aq W' j 3 ws) (by decide)),Mh⟩
  simp only[Lk,BI];simp only[AG,AN,Nat.reduceEqDiff,↓reduceIte,E.e27,AO,AA]
  refine Aa _ _ W10 Ej Gx jl (⟨ty,vs⟩,.slice (some ⟨W.sz,0,none⟩) n n) ⟨?_,⟨?_,t10,hv.rd.hb,?_⟩,xS hv.f,⟨?_,n10 _ (by omega),λq hq=>?_,?_⟩,JF.marks.D4 λj hj hB=>?_⟩ ⟨?_,?_,?_,?_,?_,?_,?_,?_,?_⟩ AAZ AAa ?_
  ·exact JF.D4.then Lz.D4 λj hj hi=>(hnS j hj hi).elim
  ·exact Lz.kp hv.rd.kp λb' l' c' e'=>by have:=J.heap.new b' l' c' e';have:=I.kA.sz;omega
  ·exact hv.rd.IA.congr (Lz.D4.obj _ (by omega) (hnS _ fz))
  ·rw[aa4]
   simpa[Ho]using o10
  ·rcases aaB.1 hq with hq|hq
   ·obtain⟨bv,h1,h2,h3⟩:=JF.heap.pv q hq;exact⟨bv,h1,xS h2,h3⟩
   ·cases dx.1 hq
    exact⟨W.sz,by rw[←mQ],xS xR,by omega⟩
  ·rw[aa5,acv];refine⟨JF.heap.nd,abt _ _,λx hx y hy=>?_⟩;rw[dx.1 hy];rintro rfl;obtain⟨q,hq,he⟩:=aaU.1 hx;obtain⟨bv,h1,h2,_⟩:=J.heap.pv q hq;have h3:=h2.lt J.rd.top;rw[h1]at he
   cases he
   omega
  ·refine hpo j _ hj λhi=>?_;obtain⟨c,nn,z,ho,_⟩:=Df JF.heap.own hi;rw[ho]at hj;cases hj
  ·simp only[AG,AN,Nat.reduceEqDiff,↓reduceIte,E.e3]
  ·simp only[AG,AN,Nat.reduceEqDiff,↓reduceIte,E.e4]
  ·simp only[AG,AN,Nat.reduceEqDiff,↓reduceIte,E.e7]
  ·simp only[AG,AN,Nat.reduceEqDiff,↓reduceIte,E.e8]
  ·simp only[AG,AN,Nat.reduceEqDiff,↓reduceIte,E.e9]
  ·simp only[AG,AN,Nat.reduceEqDiff,↓reduceIte,E.xN]
  ·first|rfl|(simp only[AG,AN,jv,Nat.reduceEqDiff,↓reduceIte,jw,vT,aK,and_self])
  ·simp only[AG,AN,Nat.reduceEqDiff,↓reduceIte,E.e26]
  ·rw[Dy (by omega)];rfl
  ·rw[hG,aa5];rfl
 ·rintro ch W' ⟨hd,x,rfl,hc,ht',Mh⟩;obtain⟨_,za,hcL⟩:=mk W' hc hd;simp only[aD,Lk,BI,aH,oO];exact Hv _ _ W' x za hcL ht' (by rw[hG,Mh])
theorem ADv(s:ByteArray):ZT prog 56 [(0,.string s)]=some (.agg [.string s,.slice none 0 0].toArray):=by kernel_rfl
theorem AKM:De prog 124=some 1:=by kernel_rfl
theorem pC{c:List AV}(C:Ru c)(i:Nat):(Al c i).length≤20100:=by
 unfold Al;rw[aau];exact N3 C.len C.fields i
theorem bE{b:List UInt8}{ask:ByteArray→Option Int}:∀{k at_:Nat} {out ts:List ByteArray} {a:Nat},FX b ask k at_ out=.ok (ts,a)→at_≤b.length→(∀s,s∈ts→s∈out∨ask s=none)∧ts.length=k+out.length∧a≤b.length
 |0,at_,out,ts,a,h,ha=>by cases h;exact⟨λs hs=>.inl hs,by omega,ha⟩
 | k+1,at_,out,ts,a,h,ha=>by
  unfold FX at h
  split at h
  ·cases h
  ·rename_i n a1 hn
   split at h
   ·cases h
   ·rename_i a2 ht
    split at h
    ·split at h
     ·cases h
     ·rename_i dr;obtain⟨h1,h2,h3⟩:=bE h (iU ht).2;refine⟨λs hs=>?_,by rw[h2];simp;omega,h3⟩
      rcases h1 s hs with h|h
      ·rcases aaB.1 h with h|h
       ·exact .inl h
       ·rw[dx.1 h];exact .inr dr
      ·exact .inr h
    ·cases h
theorem rq{b:List UInt8}{ask:ByteArray→Option Int}{at_:Nat}{ts:List ByteArray}{a:Nat}(h:Ev b ask at_=.ok (ts,a)):(∀s,s∈ts→ask s=none)∧ts.length≤100∧a≤b.length:=by
 unfold Ev at h
 split at h
 ·cases h
 ·split at h
  ·split at h
   ·cases h
   ·rename_i k a2 hn;obtain⟨h1,h2,h3⟩:=GX hn;obtain⟨h4,h5,h6⟩:=bE h h3;refine⟨λs hs=>?_,by simp at h5;omega,h6⟩
    rcases h4 s hs with h|h
    ·cases h
    ·exact h
  ·cases h
theorem xT{p:TP}(I:TIn p){K:AB}{e:Env}{W:CW}(h0:p.J 0 e [] W)
  (Hv:∀e' FG W' x,Marks p.L.sz W' FG→Bm (S2 p.rb p.F3) p.L W'→Ag W'→p.G=.error x→K (.panic (DT x)) e' FG W')
  (GR:∀e' FG W',p.J p.many e' FG W'→K (.exit 0) e' FG W'):Gi prog Bf none 74 140 (.loop (GB prog 74 0)) e [] W K:=by
 obtain⟨fz,PG⟩:=I.lts;have ABj:=I.many;refine EZ p.J p.many h0 ?_;rintro i e ds W hi ⟨at_,fd,used,vo,ps,J,E,mW,jj,hus,hlen,hG⟩;rw[ACN,E.e27,E.e26];simp only[Af,AA];refine Hx (λAo=>?_) (λJi=>?_)
 rotate_left
 ·have:i=p.many:=by omega
  subst this;simp only[QV];exact GR _ ds W ⟨at_,fd,used,vo,ps,J,⟨by simp only[AG,AN,Nat.reduceEqDiff,↓reduceIte,E.e3],by simp only[AG,AN,Nat.reduceEqDiff,↓reduceIte,E.e4],by simp only[AG,AN,Nat.reduceEqDiff,↓reduceIte,E.e7],by simp only[AG,AN,Nat.reduceEqDiff,↓reduceIte,E.e8],by simp only[AG,AN,Nat.reduceEqDiff,↓reduceIte,E.e9],by simp only[AG,AN,Nat.reduceEqDiff,↓reduceIte,E.xN],by simp only[AG,AN,Nat.reduceEqDiff,↓reduceIte,E.oc],by simp only[AG,AN,Nat.reduceEqDiff,↓reduceIte,E.e26],by simp only[AG,AN,Nat.reduceEqDiff,↓reduceIte,E.e27]⟩,mW,jj,hus,hlen,hG⟩
 ·obtain⟨m,hm⟩:∃m,p.many-i=m+1:=⟨p.many-i-1,by omega⟩
  rw[hm,Fm]at hG;have pan:∀e' W' x,Marks p.L.sz W' ds→Bm (S2 p.rb p.F3) p.L W'→Ag W'→p.G=.error x→(N4 p.J i p.many K) (.panic (DT x)) e' ds W':=λe' W' x h1 h2 h3 h4=>Hv e' ds W' x h1 h2 h3 h4;obtain⟨l3,B4,B3,B8,BT⟩:=I.at J.D4;have l10:ld prog 3 (.pointer (some ⟨p.F3,0,none⟩)) W=some (.int .i64 fd):=AD a3 (a:=⟨p.F3,0,none⟩) (J.f.cell rfl);rw[E.xN,l10];simp only[Af,AA];refine Hn (λhb=>?_) (λhb=>?_)
  rotate_left
  ·have hb:¬i<fd:=by have:=of_decide_eq_false hb;omega
   rw[aac hb]at hG;simp only[Lk,aH,IW,zKp];exact Hv _ ds W 4 J.marks J.D4 J.rd.top hG
  have hb:i<fd:=by have:=of_decide_eq_true hb;omega
  rw[aad hb]at hG;rw[E.e3,l3,E.e7,gj gX BT,Iq];simp only[Ae,AA];have Xq:=I.tl;rw[wrap64 (by omega) (by omega),E.e9];refine GL (pB _ _ W) ?_;refine(Ku I.rd J.rd mW).mono λen W1 ⟨Up,t1,hp⟩=>?_
  cases hn:D7 p.b at_ (min (used:Int) ((p.ts.length:Int)-1))with
  |error x=>
   rw[hn]at hp hG;have hp:en=.panicked (DT x):=hp;subst hp;refine EH ?_;simp only[Lk,aH,IW,zKp];refine Hv _ ds W1 x (J.marks.D4 λj hj hB=>?_) (J.D4.then Up λj _ h=>.inl h) t1 hG;rw[Up.obj j (J.rd.top _ _ hj) (λh=>by have h:j=p.rb:=h;omega)];exact hj
  | ok r=>
   obtain⟨t,a1⟩:=r;rw[hn]at hp hG;obtain⟨v,rfl,rfl,KE⟩:=hp;obtain⟨htm,_,C8⟩:=GX hn;have ADw:t<p.ts.length:=by omega
   have Zr:t≤used:=by omega
   refine AP ?_;have J1:TJ p W1 a1 fd vo ps ds:=J.step I Up KE;obtain⟨l3',B4',B3',B8',BT'⟩:=I.at J1.D4;simp only at hG;have Tu:=ck ADw;rw[Tu]at hG;simp only at hG;obtain⟨ix,U3⟩:=aa8.1 (I.known _ (aaG ADw));rw[U3]at hG;simp only at hG;generalize ZN:p.ts[t]=ty at hG U3
   have k36:∀(e1:Env) (L6:Nat),TE p e1 i L6 vo→e1 13=.int .i64 t→L6=(if t=used then used+1 else used)→(Vl none (N4 p.J i p.many K)) .normal e1 ds W1:=by
    intro e1 L6 E1 h13 UQ;rw[←UQ]at hG;have AHX:L6≤p.ts.length:=by rw[UQ];split<;>omega
    simp only[qj,BI];obtain⟨ao,co,xA,hoc⟩:=JE (f:=λ(s:ByteArray)=>Value.string s) BT';obtain⟨q,rfl,hq⟩:=hoc t _ Tu;rw[ZN]at hq;rw[E1.e7,h13,xA,Ay gX s9 ADw];simp only[AA];rw[AD a9 (a:=⟨q.block,q.off+t*1,none⟩) hq];simp only[AA];refine Ad (ADv _) ?_;refine DM (ws:=[.string ty,.slice none 0 0]) z56 LD rfl rfl rfl t1 λW2 k2 t2 z2 AAX=>?_;have Ty:=KE.VP k2 t2;have J2:TJ p W2 a1 fd vo ps ds:=J1.step I k2.rd Ty;obtain⟨ADs,AHY,ALq,ALr,ALs⟩:=I.at J2.D4;have AHZ:=I.cat.kp I.rd.top Ty.kp;obtain⟨ea,eb,ef,eg,MJ⟩:=AHZ.sh.elem U3;obtain⟨ar,cr,lr,yw⟩:=AHZ.rw.some U3;have l9:ld prog 9 (.pointer (some ⟨W1.sz,0,none⟩)) W2=some (.string ty):=AD a9 (a:=⟨W1.sz,0,none⟩) (AAX.cell rfl);have l76:ld prog 76 (.pointer (some ⟨p.b4,0+1,none⟩)) W2=some (.map (some p.r2)):=AD a76 (a:=⟨p.b4,0+1,none⟩) (AHY.cell rfl);have l75:ld prog 75 (.pointer (some ⟨p.b4,0,none⟩)) W2=some (.map (some p.r1)):=AD wC (a:=⟨p.b4,0,none⟩) (AHY.cell rfl);rw[E1.e4];simp only[Ks,Hl,G6,AA,l76,l75,l9,lr,MJ,Aj VN,Oe,CM];have AHa:∀j,Bh vo j→j≠W1.sz:=λj hj e=>by have:=N5 t1 J1.heap.own hj;omega
    have AKN:p.L.sz≤W1.sz:=J1.D4.sz
    have go:∀(e2:Env) (W3:CW) (a2 n:Nat),TJ p W3 a2 fd vo ps ds→TE p e2 i L6 vo→e2 14=.pointer (some ⟨W1.sz,0,none⟩)→e2 15=.int .i64 n→Aq W3 W1.sz 56 [.string ty,.slice none 0 0]→a2≤p.b.length→(elemAt p.c ix=0→n≤(Al p.c ix).length)→n≤20100→
      (if elemAt p.c ix≠0 then D7 p.b a1 200 else .ok ((Al p.c ix).length,a1))=.ok (n,a2)→(OW none (N4 p.J i p.many K)) .normal e2 ds W3:=by
     intro e2 W3 a2 n J3 E2 yz h15 Fk ju Oz AKO AKP;rw[AKP]at hG;refine mZ I (m:=m) J3 E2 yz h15 Fk AKN AHa U3 Oz AKO ju jj (by omega) hlen hG (λe' FG W' x h1 h2 h3 h4=>Hv e' FG W' x h1 h2 h3 h4) (λe' FG W' Ej Gx tU q hJ' hE' ha' jq hG'=>?_);refine⟨Ao,Ej,Gx,L6,tU,ps++[q],hJ',hE',ha',jq,AHX,by simp[hlen],?_⟩;rw[hG',show p.many-(i+1)=m by omega]
    refine AH (λdz=>?_) (λdz=>?_)
    ·have dz:elemAt p.c ix≠0:=by simpa using dz
     rw[E1.e3,ADs];simp only[AA];refine(Ku (most:=200) I.rd Ty C8).mono λen W3 ⟨hc3,t3,hp⟩=>?_
     cases Nd:D7 p.b a1 200 with
     |error x=>
      rw[Nd]at hp;have hp:en=.panicked (DT x):=hp;subst hp;rw[aad dz,Nd]at hG;refine EH ?_;simp only[aE,Lk,aH,oO,IW,zKp];refine Hv _ ds W3 x (J2.marks.D4 λj hj hB=>?_) (J2.D4.then hc3 λj _ h=>.inl h) t3 hG;rw[hc3.obj j (t2 _ _ hj) (λh=>by have h:j=p.rb:=h;omega)];exact hj
     |ok r=>
      obtain⟨n,a2⟩:=r;rw[Nd]at hp;obtain⟨v,rfl,rfl,hr3⟩:=hp;obtain⟨ALG,_,ju⟩:=GX Nd;refine AP ?_;refine go _ W3 a2 n (J2.step I hc3 hr3) ⟨by simp only[AG,AN,Nat.reduceEqDiff,↓reduceIte,E1.e3],by simp only[AG,AN,Nat.reduceEqDiff,↓reduceIte,E1.e4],by simp only[AG,AN,Nat.reduceEqDiff,↓reduceIte,E1.e7],by simp only[AG,AN,Nat.reduceEqDiff,↓reduceIte,E1.e8],by simp only[AG,AN,Nat.reduceEqDiff,↓reduceIte,E1.e9],by simp only[AG,AN,Nat.reduceEqDiff,↓reduceIte,E1.xN],by simp only[AG,AN,Nat.reduceEqDiff,↓reduceIte,E1.oc],by simp only[AG,AN,Nat.reduceEqDiff,↓reduceIte,E1.e26],by simp only[AG,AN,Nat.reduceEqDiff,↓reduceIte,E1.e27]⟩ (by simp only[AG,Nat.reduceEqDiff,↓reduceIte]) (by simp only[AG,↓reduceIte]) (AAX.congr (hc3.obj _ (by omega) (λh=>by have h:W1.sz=p.rb:=h;omega))) ju (λh=>(dz h).elim) (by omega) (by rw[aad dz,Nd])
    ·have dz:elemAt p.c ix=0:=by simpa using dz
     refine go _ W2 a1 _ J2 ⟨by simp only[AG,AN,Nat.reduceEqDiff,↓reduceIte,E1.e3],by simp only[AG,AN,Nat.reduceEqDiff,↓reduceIte,E1.e4],by simp only[AG,AN,Nat.reduceEqDiff,↓reduceIte,E1.e7],by simp only[AG,AN,Nat.reduceEqDiff,↓reduceIte,E1.e8],by simp only[AG,AN,Nat.reduceEqDiff,↓reduceIte,E1.e9],by simp only[AG,AN,Nat.reduceEqDiff,↓reduceIte,E1.xN],by simp only[AG,AN,Nat.reduceEqDiff,↓reduceIte,E1.oc],by simp only[AG,AN,Nat.reduceEqDiff,↓reduceIte,E1.e26],by simp only[AG,AN,Nat.reduceEqDiff,↓reduceIte,E1.e27]⟩ (by simp only[AG,Nat.reduceEqDiff,↓reduceIte]) (by simp only[AG,Nat.reduceEqDiff,↓reduceIte]) AAX C8 (λ_=>aaf _) (pC I.C ix) (by rw[aac (by simp[dz])])
   refine Ad (BJ _ _ _) ?_
   refine AH (λhq=>?_) (λhq=>?_)
   ·have hq:t=used:=by have:=eq_of_beq hq;omega
    simp only[AO,AA];refine k36 _ (used+1) ⟨by simp only[AG,AN,Nat.reduceEqDiff,↓reduceIte,E.e3],by simp only[AG,AN,Nat.reduceEqDiff,↓reduceIte,E.e4],by simp only[AG,AN,Nat.reduceEqDiff,↓reduceIte,E.e7],by simp only[AG,AN,Nat.reduceEqDiff,↓reduceIte,E.e8],?_,by simp only[AG,AN,Nat.reduceEqDiff,↓reduceIte,E.xN],by simp only[AG,AN,Nat.reduceEqDiff,↓reduceIte,E.oc],by simp only[AG,AN,Nat.reduceEqDiff,↓reduceIte,E.e26],by simp only[AG,AN,Nat.reduceEqDiff,↓reduceIte,E.e27]⟩ (by simp only[AG,Nat.reduceEqDiff,↓reduceIte]) (by rw[aad hq]);rw[Dy (by omega)];rfl
   ·have hq:¬t=used:=by rintro rfl;simp at hq
    exact k36 _ used ⟨by simp only[AG,AN,Nat.reduceEqDiff,↓reduceIte,E.e3],by simp only[AG,AN,Nat.reduceEqDiff,↓reduceIte,E.e4],by simp only[AG,AN,Nat.reduceEqDiff,↓reduceIte,E.e7],by simp only[AG,AN,Nat.reduceEqDiff,↓reduceIte,E.e8],by simp only[AG,AN,Nat.reduceEqDiff,↓reduceIte,E.e9],by simp only[AG,AN,Nat.reduceEqDiff,↓reduceIte,E.xN],by simp only[AG,AN,Nat.reduceEqDiff,↓reduceIte,E.oc],by simp only[AG,AN,Nat.reduceEqDiff,↓reduceIte,E.e26],by simp only[AG,AN,Nat.reduceEqDiff,↓reduceIte,E.e27]⟩ (by simp only[AG,Nat.reduceEqDiff,↓reduceIte]) (by rw[aac hq])
theorem Oi{W W':CW}{v:Value}{ts:List ByteArray}(h:C' W 9 1 v (strs ts)):Kw prog 51 v W'=some (.int .i64 ts.length):=by
 rw[gj gX h,Iq]
theorem iX{A W:CW}{rb at_ r1 r2:Nat}{vb vf:Value}{b:List UInt8}{c:List AV}{ask:ByteArray→Option Int}(I:dt A vb b)(h:Rd A W rb vb at_)(ha:at_≤b.length)(dr:o6 A vf ask)(hak:∀s,ask s=none→(Ah c s).isSome=true)(Gk:FB A r1 r2 c)(Aa:Az c=true)(hC:Ru c) :
  AX prog Bf 74 [.pointer (some ⟨rb,0,none⟩),KH r1 r2,vf] W (N_ A rb vb (λv xs W'=>∃ps,ps.map (·.1)=xs∧Fo W.sz W' v ps) (CA b c ask at_) W):=by
 refine AF1 ?_;rw[AF0];generalize iV:N_ A rb vb (λv xs W'=>∃ps,ps.map (·.1)=xs∧Fo W.sz W' v ps) (CA b c ask at_) W=xJ;generalize Hm:AQ prog Tryz.f74 xJ=KK;have ALt:=h.IA.lt h.top
 have Hv:∀(e:Env) (ds:List Deferred) W' x,Marks W.sz W' ds→Bm (ZZ rb) W W'→Ag W'→CA b c ask at_=.error x→KK (.panic (DT x)) e ds W':=by
  intro e ds W' x hm hc ht hn;rw[←Hm];refine U5 ht hm λW2 h1 h2 h3 t2=>?_;show xJ (.panicked (DT x)) W2;rw[←iV];refine⟨⟨by rw[h3];exact hc.sz,λj hj hS=>by rw[h2 j hj];exact hc.obj j hj hS⟩,t2,?_⟩;rw[hn]
 unfold KH;refine Fy AKM h.top λW0 k0 t0 z0 Fk=>?_;have Fk:Aq W0 W.sz 124 [.pointer (some ⟨rb,0,none⟩)]:=Fk;refine Fy U1 t0 λW1 k1 t1 z1 L4=>?_;have L4:Aq W1 W0.sz 78 [.map (some r1),.map (some r2)]:=L4;have KE:=(h.VP k0 t0).VP k1 t1;have Fk:=Fk.ext t0 k1;have l3:∀W',W'.obj W.sz=W1.obj W.sz→ld prog 124 (.pointer (some ⟨W.sz,0,none⟩)) W'=some (.pointer (some ⟨rb,0,none⟩)):=λW' ho=>AD ADr (a:=⟨W.sz,0,none⟩) ((Fk.congr ho).cell rfl);rw[l3 W1 rfl];simp only[AA];have Up:Bm (ZZ rb) W W1:=(k0.trans k1).rd;refine(pA I KE ha dr).mono λen W2 ⟨ep,t2,hp⟩=>?_;have tZ:=Up.rd ep
 cases hh:Ev b ask at_ with
 |error x=>
  rw[hh]at hp;have hp:en=.panicked (DT x):=hp;subst hp;refine EH ?_;exact Hv _ [] W2 x (.nil _ _) tZ t2 (by unfold CA;rw[hh])
 | ok r =>
  obtain⟨ts,a1⟩:=r;rw[hh]at hp;obtain⟨vt,rfl,⟨xA,NI⟩,Ty⟩:=hp;obtain⟨Ig,Xq,C8⟩:=rq hh;refine AP ?_;have du:∀j,j<W1.sz→j≠rb→W2.obj j=W1.obj j:=λj hj Dg=>ep.obj j hj Dg;rw[l3 W2 (du _ (by omega) (by omega))];simp only[AA];refine(Ku (most:=1000) I Ty C8).mono λen W4 ⟨hc4,t4,hp⟩=>?_;have hC4:=tZ.rd hc4
  cases hn:D7 b a1 1000 with
  |error x=>
   rw[hn]at hp;have hp:en=.panicked (DT x):=hp;subst hp;refine EH ?_;exact Hv _ [] W4 x (.nil _ _) hC4 t4 (by unfold CA;rw[hh];simp only;rw[hn])
  | ok r=>
   obtain⟨many,a2⟩:=r;rw[hn]at hp;obtain⟨v,rfl,rfl,hr4⟩:=hp;obtain⟨ABj,_,ju⟩:=GX hn;have WY:W.sz<W1.sz:=by omega
   have Ul:=ep.sz;have cU:=hc4.sz;refine AP ?_;refine H' z3 s3 t4 λW6 k6 t6 z6 Sr=>?_;have Sr:Aq W6 W4.sz 3 [.int .i64 0]:=Sr;refine Ac s3 (a:=⟨W4.sz,0,none⟩) (v:=.int .i64 many) rfl Sr (by simp) λW7 hu7 Sr=>?_;have hu7:Dn W4.sz W6 W7:=hu7;have Sr:Aq W7 W4.sz 3 [.int .i64 many]:=Sr;have t7:=t6.A6 (by omega) hu7;have z7:W7.sz=W4.sz+1:=by rw[hu7.sz,z6]
   have kn:Kp W7 (W7.new (.cells .nil 1 #[.int .i64 0] 3)):=.new _;have tn:=t7.new (.cells .nil 1 #[.int .i64 0] 3);have NT:(W7.new (.cells .nil 1 #[.int .i64 0] 3)).obj W7.sz=some (.cells .nil 1 #[.int .i64 0] 3):=by rw[A7,aad rfl]
   have tY:Aq (W7.new (.cells .nil 1 #[.int .i64 0] 3)) W7.sz 3 [.int .i64 0]:=⟨.nil,1,_,NT,rfl,λk v hk=>by
    match k,hk with
    |0,hk=>cases hk;rfl⟩
   have iQ:(W7.new (.cells .nil 1 #[.int .i64 0] 3)).sz=W7.sz+1:=rfl;have M4:lH (.pointer (some ⟨W7.sz,0,none⟩)) ((W7.new (.cells .nil 1 #[.int .i64 0] 3)).obj W7.sz) (W7.new (.cells .nil 1 #[.int .i64 0] 3))=true:=Oh NT rfl;generalize hAn:W7.new (.cells .nil 1 #[.int .i64 0] 3)=An at kn tn NT tY iQ M4 ⊢;have l8:∀W',W'.obj W4.sz=W7.obj W4.sz→ld prog 3 (.pointer (some ⟨W4.sz,0,none⟩)) W'=some (.int .i64 many):=λW' ho=>AD a3 (a:=⟨W4.sz,0,none⟩) ((Sr.congr ho).cell rfl);have ho8:=kn.obj W4.sz (by omega);rw[l8 An ho8];simp only[AA];refine GL (pB _ _ An) ?_;rw[show min (many:Int) 1=((min many 1:Nat):Int) by omega];refine⟨trivial,?_⟩;refine Ac s3 (a:=⟨W7.sz,0,none⟩) (v:=.int .i64 ((min many 1:Nat):Int)) rfl tY (by simp) λL xU mT=>?_;have xU:Dn W7.sz An L:=xU;have mT:Aq L W7.sz 3 [.int .i64 ((min many 1:Nat):Int)]:=mT;refine⟨by simp only[l8 An ho8,and_self],by simp only[M4,and_self],?_⟩;have hoL:∀j,j<W7.sz→L.obj j=W7.obj j:=λj hj=>by rw[xU.obj j (by omega),kn.obj j hj]
   rw[l8 L (hoL _ (by omega))];simp only[AA];have tL:=tn.A6 (by omega) xU;have zL:L.sz=W7.sz+1:=by rw[xU.sz,iQ]
   have ho4:∀j,j<W4.sz→L.obj j=W4.obj j:=λj hj=>by rw[hoL j (by omega),hu7.obj j (by omega),k6.obj j hj]
   have k4L:Kp W4 L:=⟨by omega,ho4⟩
   have hCL:Bm (ZZ rb) W L:=hC4.rd k4L.rd;have hrL:=hr4.VP k4L tL;have yz:∀j,j<W1.sz→j≠rb→L.obj j=W1.obj j:=λj hj Dg=>by rw[ho4 j (by omega),hc4.obj j (by omega) Dg,du j hj Dg]
   have AKQ:C' L 9 1 vt (strs ts):=NA xA λj hj=>by
    have:=N5 t2 xA hj;have Dg:j≠rb:=by rintro rfl;have:=Ba Ty.IA (Df xA hj);cases this
    rw[ho4 j (by omega),hc4.obj j this Dg]
   let p:TP:={A:=A,L:=L,rb:=rb,b3:=W.sz,b4:=W0.sz,b8:=W4.sz,F3:=W7.sz,r1:=r1,r2:=r2,vb:=vb,vt:=vt,b:=b,c:=c,ts:=ts,many:=many,G:=Fm b c ts many many 0 a2 0 (min many 1) []}
   have hAW:=h.kp.sz;have IN:TIn p:=⟨I,Gk,Aa,hC,tL,hrL.kp,Fk.congr (yz _ (by omega) (by omega)),L4.congr (yz _ (by omega) (by omega)),Sr.congr (hoL _ (by omega)),AKQ,Xq,λs hs=>hak s (Ig s hs),⟨_,hrL.IA⟩,⟨_,mT⟩,⟨h.hb,by show A.sz≤W7.sz;omega⟩,by show W4.sz≠W7.sz;omega,by show many≤1000;omega⟩
   have J0:TJ p L a2 (min many 1) (.slice none 0 0) [] []:=⟨.refl _ _,hrL,mT,⟨C'.nil,BZ.nil _ _ _,λq hq=>(by cases hq),ack⟩,.nil _ _⟩
   have hcW:∀W',Bm (S2 p.rb p.F3) p.L W'→Bm (ZZ rb) W W':=λW' hc=>⟨by have:=hc.sz;have:L.sz≤W'.sz:=this;omega,λj hj hS=>by
    rw[hc.obj j (show j<L.sz by omega) (by
     rintro(e|e)
     ·exact hS e
     ·have e:j=W7.sz:=e
      omega),]
    exact hCL.obj j hj hS⟩
   have hmW:∀W' ds,Marks p.L.sz W' ds→Marks W.sz W' ds:=λW' ds ⟨rs,h1,h2,h3⟩=>⟨rs,h1,h2,λr hr=>⟨(h3 r hr).1,by have:L.sz≤r:=(h3 r hr).2;omega⟩⟩
   have hR:CA b c ask at_=match p.G with| .error e=>.error e| .ok (out,used,fd,a3)=>if fd=many∧used=ts.length∧a3=b.length then .ok (out,a3)else .error 4:=by
    unfold CA;rw[hh];simp only;rw[hn]<;>rfl
   refine xT IN ⟨a2,min many 1,0,.slice none 0 0,[],J0,⟨rfl,rfl,rfl,rfl,rfl,rfl,rfl,rfl,rfl⟩,ju,by omega,aa7 _,rfl,rfl⟩ (λe' FG W' x h1 h2 h3 h4=>?_) (λe' FG W' hj=>?_)
   ·simp only[oO,aC,aH];exact Hv e' FG W' x (hmW _ _ h1) (hcW _ h2) h3 (by rw[hR,h4])
   ·obtain⟨Ej,Gx,L6,vo,ps,J,E,AAZ,AAa,AHX,kN,hG⟩:=hj;have hG:p.G=Fm b c ts many (many-many) many Ej L6 Gx (ps.map (·.1)):=hG;rw[abB]at hG;have hG:p.G=.ok (ps.map (·.1),L6,Gx,Ej):=hG;rw[hG]at hR;have hR:CA b c ask at_=if Gx=many∧L6=ts.length∧Ej=b.length then .ok (ps.map (·.1),Ej)else .error 4:=hR;obtain⟨q3,Q4,Q3,Q8,QT⟩:=IN.at J.D4;have q10:ld prog 3 (.pointer (some ⟨W7.sz,0,none⟩)) W'=some (.int .i64 Gx):=AD a3 (a:=⟨W7.sz,0,none⟩) (J.f.cell rfl);have q8:ld prog 3 (.pointer (some ⟨W4.sz,0,none⟩)) W'=some (.int .i64 many):=AD a3 (a:=⟨W4.sz,0,none⟩) (Q8.cell rfl);have q3:ld prog 124 (.pointer (some ⟨W.sz,0,none⟩)) W'=some (.pointer (some ⟨rb,0,none⟩)):=q3;have e3:e' 3=.pointer (some ⟨W.sz,0,none⟩):=E.e3;have e7:e' 7=vt:=E.e7;have e8:e' 8=.pointer (some ⟨W4.sz,0,none⟩):=E.e8;have xN:e' 10=.pointer (some ⟨W7.sz,0,none⟩):=E.xN;have qT:Kw prog 51 vt W'=some (.int .i64 ts.length):=Oi QT;simp only[IJ,aaA,aC,BI,e3,e7,e8,xN,E.e9,q10,q8,BJ,AA]
    have bad:∀e2,¬(Gx=many∧L6=ts.length∧Ej=b.length)→(JY none KK) (.panic (DT 4)) e2 FG W':=by
     intro e2 H0;simp only[JY,aH];exact Hv _ FG W' 4 (hmW _ _ J.marks) (hcW _ J.D4) J.rd.top (by rw[hR,aac H0])
    refine AH (λh1=>?_) (λh1=>?_)
    ·have h1:Gx=many:=by have:=eq_of_beq h1;omega
     simp only[qT,AA,BJ]
     refine AH (λh2=>?_) (λh2=>?_)
     ·have h2:L6=ts.length:=by have:=eq_of_beq h2;omega
      obtain⟨av,cv,ew,_,_⟩:=I.sl;have lb:Kw prog 29 vb W'=some (.int .i64 b.length):=by rw[ew];exact Aj VN _ _ _ _
      have AKR:ld prog 29 (.pointer (some ⟨rb,0,none⟩)) W'=some vb:=J.rd.ld0;have AKS:ld prog 3 (.pointer (some ⟨rb,0+1,none⟩)) W'=some (.int .i64 Ej):=J.rd.ld1;simp only[q3,C4,iR,iS,AA,AKR,AKS,lb,BJ]
      refine Hn (λh3=>?_) (λh3=>?_)
      ·have h3:Ej=b.length:=by have:=eq_of_beq h3;omega
       refine⟨by simp only[and_self],trivial,?_⟩;simp only[JY,BI];rw[←Hm];refine U5 J.rd.top (hmW _ _ J.marks) λW2 g1 g2 g3 t2'=>?_;rw[ql,←iV];have AHb:=hcW _ J.D4;refine⟨⟨by rw[g3];exact AHb.sz,λj hj hS=>by rw[g2 j hj];exact AHb.obj j hj hS⟩,t2',?_⟩;rw[hR,aad ⟨h1,h2,h3⟩];have hz:p.L.sz=L.sz:=rfl
       refine⟨_,rfl,⟨ps,rfl,?_⟩,⟨⟨by rw[g3];exact J.rd.kp.sz,λj hj=>by rw[g2 j (by omega)];exact J.rd.kp.obj j hj⟩,t2',h.hb,?_⟩⟩
       ·have hH:=J.heap.of λj o hB hj ho=>g1 j o hj ho;simp only[AG,AN,Nat.reduceEqDiff,↓reduceIte,E.oc]
        refine⟨hH.own,λb' l' c' e=>?_,λq hq=>?_,hH.nd⟩
        ·have:=hH.new b' l' c' e;omega
        ·obtain⟨bv,k1,k2,k3⟩:=hH.pv q hq;exact⟨bv,k1,k2,by omega⟩
       ·obtain⟨cc,nn,zz,ho,hx⟩:=J.rd.IA;exact⟨cc,nn,zz,g1 _ _ ho (by simp),hx⟩
      ·have h3:¬Ej=b.length:=by rintro rfl;simp at h3
       exact⟨by simp only[and_self],bad _ λhh=>h3 hh.2.2⟩
     ·have h2:¬L6=ts.length:=by rintro rfl;simp at h2
      refine Hn (λhf=>by cases hf) (λ_=>?_);exact⟨by simp only[and_self],bad _ λhh=>h2 hh.2.1⟩
    ·have h1:¬Gx=many:=by rintro rfl;simp at h1
     refine Hn (λhf=>by cases hf) (λ_=>?_);exact⟨by simp only[and_self],bad _ λhh=>h1 hh.1⟩
theorem ADx(v:Value):CF prog .neq 20 true (.iface 167 v) .nilIface=some (.bool true):=by kernel_rfl
theorem ADy:CF prog .neq 20 true .nilIface .nilIface=some (.bool false):=by kernel_rfl
theorem ADz(v:Value):tas prog 167 (.iface 167 v) true=some (.tuple #[v,.bool true]):=by kernel_rfl
theorem AKT:Hr prog 167=some (.agg #[.int .i64 0]):=by kernel_rfl
theorem AKU:De prog 167=some 1:=by kernel_rfl
theorem AD0(a:Addr):RL prog 167 (.pointer (some a)) 0=some (.pointer (some ⟨a.block,a.off,none⟩)):=by kernel_rfl
theorem a30:agg? prog 30=some false:=by kernel_rfl
theorem s30:De prog 30=some 1:=by kernel_rfl
theorem z30:Hr prog 30=some (.int .i64 0):=by kernel_rfl
theorem AD1(v:Value)(a:Option Addr)(n m:Nat)(h:v=.slice a n m):ZT prog 170 [(0,v)]=some (.agg [v,.int .i64 0].toArray):=by subst h;kernel_rfl
theorem SB:Tryz.f109.results.toList=[]:=by kernel_rfl
theorem iY:∃ty,Tryz.f72.results.toList=[.cell 4 ty]∧ty=30:=⟨30,by kernel_rfl,rfl⟩
theorem AHc(x:Int)(K:Value→FrameMode→Prop):vI (.panicking (DT x)) K=K (.iface 167 (.agg #[.int .i64 x])) (.panicking [{v:=.iface 167 (.agg #[.int .i64 x]),recovered:=true}]):=rfl
theorem AHd(K:Value→FrameMode→Prop):vI .returning K=K .nilIface .returning:=rfl
structure rz(b:Nat)(W W':CW):Prop where
 sz:W.sz≤W'.sz
 obj:∀j,j<W.sz→j≠b→W'.obj j=W.obj j
theorem AD2{W:CW}{b:Nat}{x y:Int}(ht:Ag W)(hB:Aq W b 30 [.int .i64 y]){Q:FrameMode→CW→Prop}(hq:∀W',rz b W W'→Ag W'→Aq W' b 30 [.int .i64 x]→Q (.panicking [{v:=.iface 167 (.agg #[.int .i64 x]),recovered:=true}]) W'):Nz prog Bf 109 [.pointer (some ⟨b,0,none⟩)] (.panicking (DT x)) W Q:=by
 refine aB (fn:=Tryz.f109) (c:=G_ prog 109) (by kernel_rfl) Tryz.func109 (by kernel_rfl) (by kernel_rfl) ?_;have:=vQ (.pointer (some ⟨b,0,none⟩)) (.panicking (DT x)) (λx e u W=>(x=.normal∨x=.ret)∧(∃v,CI prog Tryz.f109.results.toList e W=some v)∧Q u W) W;refine this.mpr ?_;rw[AHc];refine Ad (ADx _) ?_;simp only[BB];refine Ad (ADz _) ?_;refine Ad (BV _ _) ?_;refine Ad (BW _ _) ?_;refine DM (ws:=[.int .i64 x]) AKT AKU rfl rfl rfl ht λW2 k2 t2 z2 Ey=>?_;simp only[AW,AA,aav,AZ,AD0];refine⟨by first|rfl|trivial,?_⟩;rw[AD a30 (a:=⟨W.sz,0,none⟩) (Ey.cell rfl)];simp only[AA];have hb:=hB.lt ht;have mP:=hB.ext ht k2;refine Ac s30 (a:=⟨b,0,none⟩) (v:=.int .i64 x) rfl mP (by simp) λW3 hu Fk=>?_;have hu:Dn b W2 W3:=hu;refine⟨.inl (by first|rfl|trivial),⟨.tuple #[],by simp only[CI,SB,Jt]⟩,hq W3 ⟨by rw[hu.sz];exact k2.sz,λj hj Dg=>by rw[hu.obj j Dg,k2.obj j hj]⟩ (t2.A6 (mP.lt t2) hu) Fk⟩
theorem AAb{W:CW}{b:Nat}{Q:FrameMode→CW→Prop}(hq:Q .returning W):Nz prog Bf 109 [.pointer (some ⟨b,0,none⟩)] .returning W Q:=by
 refine aB (fn:=Tryz.f109) (c:=G_ prog 109) (by kernel_rfl) Tryz.func109 (by kernel_rfl) (by kernel_rfl) ?_;have:=vQ (.pointer (some ⟨b,0,none⟩)) .returning (λx e u W=>(x=.normal∨x=.ret)∧(∃v,CI prog Tryz.f109.results.toList e W=some v)∧Q u W) W;refine this.mpr ?_;rw[AHd];refine Ad ADy ?_;simp only[AZ];exact⟨by first|rfl|trivial,.inl (by first|rfl|trivial),⟨.tuple #[],by simp only[CI,SB,Jt]⟩,hq⟩
theorem YB{W:CW}{a:Option Addr}{n cap:Nat}{vf:Value}(ht:Ag W){Q:Ending→CW→Prop}
  (S9:100000<n→∀W',Kp W W'→Ag W'→Q (.returned (.int .i64 2)) W')
  (hdo:n≤100000→∀W0,Kp W W0→Ag W0→W0.sz=W.sz+2→Aq W0 W.sz 30 [.int .i64 0]→Aq W0 (W.sz+1) 170 [.slice a n cap,.int .i64 0]→Dt prog Bf vf [.pointer (some ⟨W.sz+1,0,none⟩)] W0
   (λ_ W3=>Ag W3∧Aq W3 W.sz 30 [.int .i64 0]∧∀W',rz W.sz W3 W'→Ag W'→Q (.returned (.int .i64 0)) W')
   (λch W4=>∃x,ch=DT x∧Ag W4∧Aq W4 W.sz 30 [.int .i64 0]∧∀W',rz W.sz W4 W'→Ag W'→Q (.returned (.int .i64 x)) W')) :
  AX prog Bf 72 [.slice a n cap,vf] W Q:=by
 obtain⟨ty,Wz,rfl⟩:=iY;refine vP (fn:=Tryz.f72) (c:=G_ prog 72) (by kernel_rfl) (by kernel_rfl) (by kernel_rfl) Tryz.func72 (by kernel_rfl) (by kernel_rfl) ?_;refine(AFx (.slice a n cap) vf _ W).mpr ?_
 have ret:∀(e:Env) W' x,e 4=.pointer (some ⟨W.sz,0,none⟩)→Aq W' W.sz 30 [.int .i64 x]→Q (.returned (.int .i64 x)) W'→vO prog Bf Tryz.f72 Q e [] .returning W':=by
  intro e W' x h4 hB hq;have hv:LS prog 30 ⟨W.sz,0,none⟩ W'=some (.int .i64 x):=AD a30 (a:=⟨W.sz,0,none⟩) (hB.cell rfl);simp only[vO,CI,Wz,Jt,qX,h4,hv,AA];exact hq
 refine H' z30 s30 ht λW1 k1 t1 z1 hB=>?_;have hB:Aq W1 W.sz 30 [.int .i64 0]:=hB;rw[Aj VN];simp only[Bt,AA]
 refine AH (λhb=>?_) (λhb=>?_)
 ·have hb:100000<n:=by have:=of_decide_eq_true hb;omega
  refine Ac s30 (a:=⟨W.sz,0,none⟩) (v:=.int .i64 2) rfl hB (by simp) λW2 hu Ey=>?_;have hu:Dn W.sz W1 W2:=hu;exact ret _ W2 2 rfl Ey (S9 hb W2 (k1.A6 (aaf _) hu) (t1.A6 (hB.lt t1) hu))
 ·have hb:n≤100000:=by have:=of_decide_eq_false hb;omega
  refine Ad (AD1 _ a n cap rfl) ?_;refine Fy AJ3 t1 λW2 k2 t2 z2 pD=>?_;rw[z1]at pD z2 ⊢;have pD:Aq W2 (W.sz+1) 170 [.slice a n cap,.int .i64 0]:=pD;have Ey:=hB.ext t1 k2
  have Ie:∀(d:Deferred) (l:List Value) (m:FrameMode) W' Q',d=({target:=.fn (.func 109) #[.pointer (some ⟨W.sz,0,none⟩)],args:=#[]}:Deferred)→Nz prog Bf 109 [.pointer (some ⟨W.sz,0,none⟩)] m W' Q'→Nz prog Bf 109 (d.args.toList++[Value.pointer (some ⟨W.sz,0,none⟩)]) m W' Q':=by
   intro d l m W' Q' hd h;subst hd;exact h
  have E8:=hdo hb W2 (k1.trans k2) t2 (by rw[z2]) Ey pD;unfold Dt at E8 ⊢
  have AD3:∀(v:Value) (W3:CW),(Ag W3∧Aq W3 W.sz 30 [.int .i64 0]∧∀W',rz W.sz W3 W'→Ag W'→Q (.returned (.int .i64 0)) W')→∀(e:Env),e 4=.pointer (some ⟨W.sz,0,none⟩)→wV (NK prog 30 (.pointer (some ⟨W.sz,0,none⟩)) (.int .i64 0) W3) λW5=>vO prog Bf Tryz.f72 Q e [({target:=.fn (.func 109) #[.pointer (some ⟨W.sz,0,none⟩)],args:=#[]}:Deferred)] .returning W5:=by
   rintro v W3 ⟨t3,Fk,hq⟩ e h4;refine Ac s30 (a:=⟨W.sz,0,none⟩) (v:=.int .i64 0) rfl Fk (by simp) λW5 hu NR=>?_;have hu:Dn W.sz W3 W5:=hu;show Nz _ _ _ _ _ _ _;refine AAb ?_;exact ret e W5 0 h4 NR (hq W5 ⟨by rw[hu.sz];exact aaf _,λj hj Dg=>hu.obj j Dg⟩ (t3.A6 (Fk.lt t3) hu))
  have bad:∀ch W4,(∃x,ch=DT x∧Ag W4∧Aq W4 W.sz 30 [.int .i64 0]∧∀W',rz W.sz W4 W'→Ag W'→Q (.returned (.int .i64 x)) W')→∀(e:Env),e 4=.pointer (some ⟨W.sz,0,none⟩)→vO prog Bf Tryz.f72 Q e [({target:=.fn (.func 109) #[.pointer (some ⟨W.sz,0,none⟩)],args:=#[]}:Deferred)] (.panicking ch) W4:=by
   rintro ch W4 ⟨x,rfl,t4,L4,hq⟩ e h4;show Nz _ _ _ _ _ _ _;refine AD2 t4 L4 λW' hu t' mP=>?_;exact ret e W' x h4 mP (hq W' hu t')
  have AHe:∀{f:FuncId} {xs:List Value} {K K':Value→CW→Prop} {KP KP':List PanicEntry→CW→Prop},AX prog Bf f xs W2 (BO K KP)→(∀v W,K v W→K' v W)→(∀v W,KP v W→KP' v W)→AX prog Bf f xs W2 (BO K' KP'):=λh h1 h2=>h.mono λen W' he=>by
   cases en with
   |returned v=>exact h1 _ _ he
   |panicked ch=>exact h2 _ _ he
   |outgrown=>exact he
  have AD4:∀{f:Nat} {xs:List Value} {K K':Value→CW→Prop} {KP KP':List PanicEntry→CW→Prop},Js prog Bf f xs W2 (BO K KP)→(∀v W,K v W→K' v W)→(∀v W,KP v W→KP' v W)→Js prog Bf f xs W2 (BO K' KP'):=λh h1 h2=>h.mono λen W' he=>by
   cases en with
   |returned v=>exact h1 _ _ he
   |panicked ch=>exact h2 _ _ he
   |outgrown=>exact he
  split at E8
  ·split at E8
   ·exact AD3 (.bool false) _ E8 _ rfl
   ·exact AHe E8 (λv W h=>AD3 v W h _ rfl) (λch W h=>⟨λk n m hh=>(by cases hh),bad ch W h _ rfl⟩)
  ·exact AD4 E8 (λv W h=>AD3 v W h _ rfl) (λch W h=>⟨λk n m hh=>(by cases hh),bad ch W h _ rfl⟩)
  ·exact E8.elim
def YC(l:List Bq)(s:ByteArray):Option Bq:=l.find? λx=>decide (x.to=s)
def Gg(mp vs z:List Int):Nat→List Int
 |0=>z
 |n+1=>(Gg mp vs z n).set ((mp[n]?).getD 0).toNat ((vs[n]?).getD 0)
def Bb(c:List AV)(l:List Bq)(x:BC):BC:=match YC l x.type with
 |none=>x
 |some s=>match Ah c s.type with
  |none=>x
  |some t=>⟨s.type,Gg s.map x.AL (List.replicate (Al c t).length 0) s.map.length⟩
theorem L7(mp vs z:List Int):∀n,(Gg mp vs z n).length=z.length
 |0=>rfl
 |n+1=>by rw[Gg,abX,L7 mp vs z n]
theorem iZ:∃ty,Tryz.f77.results.toList=[.cell 6 ty]∧ty=56:=⟨56,by kernel_rfl,rfl⟩
theorem AD5(s:ByteArray)(a:Addr)(n m:Nat):ZT prog 56 [(0,.string s),(1,.slice (some a) n m)]=some (.agg [.string s,.slice (some a) n m].toArray):=by kernel_rfl
def ia(vx:Value)(x y:BC)(W:CW):Ending→CW→Prop:=λe W'=>Kp W W'∧Ag W'∧∃vv,e=.returned (.agg #[.string y.type,vv])∧((vv=vx∧y.AL=x.AL)∨∃bv,vv=.slice (some ⟨bv,0,none⟩) y.AL.length y.AL.length∧Aq W' bv 3 (DO y.AL)∧W.sz≤bv)
theorem AAc{z:List Int}{k:Nat}(hk:k<z.length)(x:Int):putAt (DO z) (0+k*1) [.int .i64 x]=DO (z.set k x):=by
 apply abq;intro j;have hl:(DO z).length=z.length:=by simp[DO]
 rw[Jm (by rw[hl];simp;omega)];unfold DO;simp only[aaJ,aaK,abG]
 by_cases e:k=j
 ·subst e;rw[aad ⟨by omega,by omega⟩,aad rfl,aad hk];simp
 ·rw[aac (by omega),aac e]
theorem r6{w r r1 r2:Nat}{vx:Value}{c:List AV}{l:List Bq}{x:BC}{W:CW}(ht:Ag W)(hr:PM Bq.to W r l)(Gk:FB W r1 r2 c)(hC:Ru c)(T6:At 1 (Eh W) vx x.AL)
  (hm:∀s,YC l x.type=some s→s.map.length≤x.AL.length∧∃t,Ah c s.type=some t∧∀m,m∈s.map→0≤m∧m.toNat<(Al c t).length) (Jb:∀s,s∈l→s.map.length<100000) :
  AX prog Bf 77 [.agg #[.map (some w),.map (some r)],KH r1 r2,.agg #[.string x.type,vx]] W (ia vx x (Bb c l x) W):=by
 obtain⟨ty,Wz,rfl⟩:=iZ;refine AF7 ?_;rw[AF6];unfold KH;obtain⟨ax,cx,rfl,hxc⟩:=id T6;refine Fy wR ht λW0 k0 t0 z0 Fk=>?_;have Fk:Aq W0 W.sz 83 [.map (some w),.map (some r)]:=Fk;refine Fy U1 t0 λW1 k1 t1 z1 L4=>?_;have L4:Aq W1 W0.sz 78 [.map (some r1),.map (some r2)]:=L4;refine Fy LD t1 λW2 k2 t2 z2 NR=>?_;have NR:Aq W2 W1.sz 56 [.string x.type,.slice ax x.AL.length cx]:=NR;refine H' z56 LD t2 λA kA tA zA Ms=>?_;have Ms:Aq A W2.sz 56 [.string ⟨#[]⟩,.slice none 0 0]:=Ms;have k:=((k0.trans k1).trans k2).trans kA;have Fk:=Fk.ext t0 ((k1.trans k2).trans kA);have L4:=L4.ext t1 (k2.trans kA);have NR:=NR.ext t2 kA;have AAQ:W.sz≤W2.sz:=((k0.trans k1).trans k2).sz;have hrA:=hr.kp ht k;have ib:=Gk.kp ht k;simp only[V4,G6,AA];rw[AD a81 (a:=⟨W.sz,0+1,none⟩) (Fk.cell rfl),AD a9 (a:=⟨W1.sz,0,none⟩) (NR.cell rfl)];simp only[AA];generalize Hm:AQ prog Tryz.f77 (ia (.slice ax x.AL.length cx) x (Bb c l x) W)=K
 have Ei:∀ZA vv,Kp A ZA→Ag ZA→BG vv=true→(∀W3,Dn W2.sz ZA W3→(vv=.slice ax x.AL.length cx∧(Bb c l x).AL=x.AL)∨∃bv,vv=.slice (some ⟨bv,0,none⟩) (Bb c l x).AL.length (Bb c l x).AL.length∧Aq W3 bv 3 (DO (Bb c l x).AL)∧W.sz≤bv)→∀{K':CW→Prop},(∀W3,(∀e',e' 6=.pointer (some ⟨W2.sz,0,none⟩)→K .ret e' [] W3)→K' W3)→
   wV (NK prog 56 (.pointer (some ⟨W2.sz,0,none⟩)) (.agg [.string (Bb c l x).type,vv].toArray) ZA) K':=by
  intro ZA vv zN tG Nb VY K' hK';have hB:=Ms.ext tA zN;refine Fg LD (a:=⟨W2.sz,0,none⟩) (by simp only[abp,List.all_nil,Nb,abT];rfl) rfl hB (by simp) λW3 hu Fk=>hK' W3 λe' h6'=>?_;have hu:Dn W2.sz ZA W3:=hu;rw[←Hm];have Fk:Aq W3 W2.sz 56 [.string (Bb c l x).type,vv]:=Fk;refine Mm Wz (p:=⟨W2.sz,0,none⟩) h6' (Bn (vs:=[.string (Bb c l x).type,vv]) gY LD rfl (by omega) Fk.cells) ?_;exact⟨(k.trans zN).A6 AAQ hu,tG.A6 (hB.lt tG) hu,vv,rfl,VY W3 hu⟩
 cases I9:YC l x.type with
 |none=>
  have Nn:Bb c l x=x:=by unfold Bb;rw[I9]
  rw[hrA.none I9];simp only[AA,BV,BW];unfold AAJ;refine DM (ws:=[.string ⟨#[]⟩,.string ⟨#[]⟩,.slice none 0 0]) tP jy rfl rfl rfl tA λW4 k4 t4 z4 hB7=>?_;simp only[AW,AA,aaY,BB];rw[Bn (vs:=[.string x.type,.slice ax x.AL.length cx]) gY LD rfl (by omega) (NR.ext tA k4).cells];simp only[AA];have Tu:x.type=(Bb c l x).type:=by rw[Nn]
  rw[Tu];refine Ei W4 _ k4 t4 rfl (λW3 hu=>.inl ⟨rfl,by rw[Nn]⟩) λW3 hr=>hr _ rfl
 | some s=>
  obtain⟨hsl,t,D1,Sh⟩:=hm s I9;have Nn:Bb c l x=⟨s.type,Gg s.map x.AL (List.replicate (Al c t).length 0) s.map.length⟩:=by unfold Bb;rw[I9];simp only;rw[D1]
  have aw:=Jb s (ab3 I9);have Z7:=pC hC t;obtain⟨u,hu,L⟩:=hrA.some I9;obtain⟨am,cm,rfl,hum⟩:=hu;rw[L];simp only[AA,BV,BW];refine DM (ws:=[.string s.type,.string s.to,.slice am s.map.length cm]) tP jy rfl rfl rfl tA λW5 k5 t5 z5 hB7=>?_;simp only[AW,AA,aav,AZ,Rr,Rs,Ks];obtain⟨ar,cr,lr,_⟩:=ib.rw.some D1;obtain⟨mr,hmr,_⟩:=ib.rw;have kn:Kp W5 (W5.new (.cells .nil 2 #[.string ⟨#[]⟩,.slice none 0 0] 56)):=.new _;have tn:=t5.new (.cells .nil 2 #[.string ⟨#[]⟩,.slice none 0 0] 56);have NT:(W5.new (.cells .nil 2 #[.string ⟨#[]⟩,.slice none 0 0] 56)).obj W5.sz=some (.cells .nil 2 #[.string ⟨#[]⟩,.slice none 0 0] 56):=by rw[A7,aad rfl]
  have tY:Aq (W5.new (.cells .nil 2 #[.string ⟨#[]⟩,.slice none 0 0] 56)) W5.sz 56 [.string ⟨#[]⟩,.slice none 0 0]:=⟨.nil,2,_,NT,rfl,λk v hk=>by
   match k,hk with
   |0,hk=>cases hk;rfl
   |1,hk=>cases hk;rfl⟩
  have iQ:(W5.new (.cells .nil 2 #[.string ⟨#[]⟩,.slice none 0 0] 56)).sz=W5.sz+1:=rfl;have M4:∀W0:CW,W0.obj W5.sz=some (.cells .nil 2 #[.string ⟨#[]⟩,.slice none 0 0] 56)→lH (.pointer (some ⟨W5.sz,0,none⟩)) ((W5.new (.cells .nil 2 #[.string ⟨#[]⟩,.slice none 0 0] 56)).obj W5.sz) W0=true:=λW0 h0=>Oh h0 (by rfl);generalize hAn:W5.new (.cells .nil 2 #[.string ⟨#[]⟩,.slice none 0 0] 56)=An at kn tn NT tY iQ M4 ⊢;have kAn:=k5.trans kn;have l9:∀W',Kp An W'→ld prog 9 (.pointer (some ⟨A.sz,0,none⟩)) W'=some (.string s.type):=λW' k'=>AD a9 (a:=⟨A.sz,0,none⟩) ((hB7.ext t5 (kn.trans k')).cell rfl);have l76:ld prog 76 (.pointer (some ⟨W0.sz,0+1,none⟩)) An=some (.map (some r2)):=AD a76 (a:=⟨W0.sz,0+1,none⟩) ((L4.ext tA kAn).cell rfl)
  have lrn:Sq prog 76 (.map (some r2)) (.string s.type) false An=some (.slice ar (Al c t).length cr):=by
   rw[bA (kAn.obj _ (hmr.lt tA))];exact lr
  rw[l9 An (.refl _),l76];simp only[AA,lrn,Aj VN];refine ABZ KB s3 z3 rfl by3 (by omega) (n:=(Al c t).length) (by omega) tn λW7 k7 t7 z7 wy=>?_;refine Ad (AD5 _ _ _ _) ?_;refine⟨trivial,?_⟩;have AKV:=tY.ext tn k7;refine Fg LD (a:=⟨W5.sz,0,none⟩) (ws:=[.string s.type,.slice (some ⟨An.sz,0,none⟩) (Al c t).length (Al c t).length]) rfl rfl AKV (by simp) λW8 hu8 hBo=>?_;have hu8:Dn W5.sz W7 W8:=hu8;have hBo:Aq W8 W5.sz 56 [.string s.type,.slice (some ⟨An.sz,0,none⟩) (Al c t).length (Al c t).length]:=hBo;refine⟨by simp only[l9 An (.refl _),l9 W7 k7,and_self],by simp only[M4 An NT,M4 W7 (by rw[k7.obj _ (by omega)];exact NT),and_self],?_⟩;have h5l:W5.sz<W7.sz:=by rw[z7];omega
  have t8:=t7.A6 h5l hu8;have hzA:A.sz≤W5.sz:=by rw[z5];omega
  have k58:Kp W5 W8:=(kn.trans k7).A6 (aaf _) hu8;have xV:Kp A W8:=k5.trans k58;rw[AD Uv (a:=⟨A.sz,0+2,none⟩) ((hB7.ext t5 k58).cell rfl)];simp only[AA,Aj KB]
  have AKW:Aq W8 An.sz 3 (DO (Gg s.map x.AL (List.replicate (Al c t).length 0) 0)):=by
   have:DO (Gg s.map x.AL (List.replicate (Al c t).length 0) 0)=List.replicate (Al c t).length (.int .i64 0):=by simp[Gg,DO]
   rw[this];exact wy.congr (hu8.obj _ (by omega))
  refine EZ (λn e ds W'=>ds=[]∧Kp A W'∧Ag W'∧Aq W' W5.sz 56 [.string s.type,.slice (some ⟨An.sz,0,none⟩) (Al c t).length (Al c t).length]∧Aq W' An.sz 3 (DO (Gg s.map x.AL (List.replicate (Al c t).length 0) n))∧e 5=.pointer (some ⟨W1.sz,0,none⟩)∧e 6=.pointer (some ⟨W2.sz,0,none⟩)∧e 9=.pointer (some ⟨W5.sz,0,none⟩)∧e 34=.slice am s.map.length cm∧e 35=.int .i64 s.map.length∧e 36=.int .i64 n) s.map.length
   ⟨rfl,xV,t8,hBo,AKW,rfl,rfl,rfl,rfl,rfl,rfl⟩ ?_
  rintro n e ds W' hn ⟨rfl,pE,t',xW,xR,h5,h6,h9,h34,h35,h36⟩;rw[ACQ,h34,h35,h36];simp only[Af,AA]
  refine Hx (λAo=>?_) (λJi=>?_)
  ·obtain⟨_,_,he,hmc⟩:=hum
   cases he
   have hmn:=ck Ao;obtain⟨q,rfl,hq⟩:=hmc n _ hmn;rw[Ay KB s3 Ao];simp only[AA];have hqc:=pE.cell tA hq.1;rw[AD a3 (a:=⟨q.block,q.off+n*1,none⟩) hqc,h9,h5];simp only[AA,FJ];have hxl:n<x.AL.length:=by omega
   have hxn:=ck hxl;obtain⟨p,rfl,hp⟩:=hxc n _ hxn;have AHf:=NR.ext tA pE;rw[AD Uv (a:=⟨W5.sz,0+1,none⟩) (xW.cell rfl),AD Uv (a:=⟨W1.sz,0+1,none⟩) (AHf.cell rfl)];simp only[AA];rw[Ay KB s3 hxl];simp only[AA];have we:=(k.trans pE).cell ht hp.1;rw[AD a3 (a:=⟨p.block,p.off+n*1,none⟩) we];simp only[AA];obtain⟨nb,O3⟩:=Sh _ (aaG Ao);have hmi:(s.map[n]:Int)=((s.map[n].toNat:Nat):Int):=by omega
   rw[hmi,Ay KB s3 O3];simp only[AA];have dS:(Gg s.map x.AL (List.replicate (Al c t).length 0) n).length=(Al c t).length:=by rw[L7];simp
   refine Ac s3 (a:=⟨An.sz,0+s.map[n].toNat*1,none⟩) (v:=.int .i64 x.AL[n]) rfl xR (by simp only[DO,aau,dS];omega) λW9 xU AD6=>?_;have xU:Dn An.sz W' W9:=xU
   have AD6:Aq W9 An.sz 3 (DO (Gg s.map x.AL (List.replicate (Al c t).length 0) (n+1))):=by
    rw[Gg,hmn,hxn,aK,aK,←AAc (by rw[dS];exact O3)];exact AD6
   have ALu:ld prog 40 (.pointer (some ⟨W5.sz,0+1,none⟩)) W'=some (.slice (some ⟨An.sz,0,none⟩) (Al c t).length (Al c t).length):=AD Uv (a:=⟨W5.sz,0+1,none⟩) (xW.cell rfl);refine⟨by simp only[AD Uv (a:=⟨W5.sz,0+1,none⟩) (xW.cell rfl),AD Uv (a:=⟨W1.sz,0+1,none⟩) (AHf.cell rfl),AD a3 (a:=⟨p.block,p.off+n*1,none⟩) we,and_self],trivial,?_⟩;simp only[qn,BI,IW];simp only[AG,AN,Nat.reduceEqDiff,↓reduceIte,h36,AO,AA]
   refine⟨Ao,trivial,pE.A6 (by omega) xU,t'.A6 (xR.lt t') xU,xW.congr (xU.obj _ (by omega)),AD6,?_,?_,?_,?_,?_,?_⟩
   ·simp only[h5]
   ·simp only[h6]
   ·simp only[h9]
   ·simp only[h34]
   ·simp only[h35]
   ·rw[Dy (by omega)]
  ·have ZF:n=s.map.length:=by omega
   subst ZF;simp only[BI,Oy,IJ,QV,IJ,aaA,oL];simp only[AG,AN,Nat.reduceEqDiff,↓reduceIte,h6,h9];rw[Bn (vs:=[.string s.type,.slice (some ⟨An.sz,0,none⟩) (Al c t).length (Al c t).length]) (a:=⟨W5.sz,0,none⟩) gY LD rfl (by omega) xW.cells];simp only[AA];have Tu:s.type=(Bb c l x).type:=by rw[Nn]
   have mQ:(Al c t).length=(Bb c l x).AL.length:=by rw[Nn];simp only[L7,acs]
   rw[Tu];refine Ei W' _ pE t' rfl (λW3 hu=>.inr ⟨An.sz,by rw[mQ],?_,by have:=k.sz;omega⟩) λW3 hr=>hr _ (by simp only[AG,AN,Nat.reduceEqDiff,↓reduceIte,h6]);have:(Bb c l x).AL=Gg s.map x.AL (List.replicate (Al c t).length 0) s.map.length:=by rw[Nn]
   rw[this];exact xR.congr (hu.obj _ (by have:=zA;omega))
end Go.Ce
