/- A part of the proof: ShT, Tc, Ue, Ve, ShL5, Ff, ShR, Ra, Rb, Rc, Re, Rf, Rg, Rh, Ri, Rj, Rk, Rl, Rm, Rn, Ro, Rp, Sa, Sb, Sc, Sd, Sf, Sg, Si, ShL4, Ed, Qt, ShE, Qu, Qv, Qw, Qx, Se, Sj, Sk, Ta, Td, Te, Tf, Uf, Vf, ShU, ShT1, ShL6, Sl, Sm, Sn, So, Tg, Tb, Th, Vg, ShV3, Ti, Ug, Uh. -/
import Derived.Test.YtmknebebbbjdlaaGreatW01
import Derived.Test.YtmknebebbbjdlaaGreatW02
import Derived.Test.YtmknebebbbjdlaaGreatW04
import Derived.Test.YtmknebebbbjdlaaGreatProg
set_option linter.unusedSectionVars false
set_option linter.unusedVariables false
set_option linter.unusedSimpArgs false
set_option linter.defProp false
set_option maxRecDepth 200000
namespace Go.Ce
open Go Go.Proofs Go.Proofs.Tryz
def cg (ro:Option Nat) (K:AB):AB:=AW (fun e ds W=>wV (Mf prog 4 (e 10) (.bool true) W) fun W22=>wV (Mf prog 30 (e 11) (.int .i64 0) W22) fun W23=>K .ret e ds W23) K
def AF9 (v0 v1 v2 v3 v4:Value) (K:AB) (W:CW):=by
 have h:PH 20 147 (F' v0 v1 v2 v3 v4) W K=CI 4 W fun a b=>CI 30 b fun b c=>let d:=eC 28 v2 (BO 27 v1 26 v0 11 b 10 a); Ic 49 v0 v1 v2 c (fun c f=>CX c fun g=>CY c fun h=>CI 78 f fun f i=>I9 f g i fun i=>NV 30 h 0 fun j=>let c:=Bh 33 j 32 h 13 h 12 f (Da 31 h 30 g 25 c 29 d); let d:=DO 38 v4 37 v3 36 v0 c; wI j (Dw 4 a DX i fun a=>Dw 30 b h a fun a=>Jm K (F' v0 v1 v2 v3 v4) (eC 34 h c) a) (Ic 49 v0 v3 v4 i (fun c g=>CX c fun h=>CY c fun i=>CI 78 g fun g j=>I9 g h j fun j=>NV 30 i 0 fun k=>let c:=Bh 43 k 42 i 15 i 14 g (Da 41 i 40 h 35 c 39 d); wI k (Dw 4 a DX j fun a=>Dw 30 b i a fun a=>Jm K (F' v0 v1 v2 v3 v4) (eC 44 i c) a) (BI 78 f (GQ (GQ j)) fun d=>LW prog 131 [(0,d),(1,v1)] fun g=>DZ 78 g v2 (GQ (GQ j)) (fun h i=>BI 78 f i fun k=>LW prog 131 [(0,k),(1,v3)] fun l=>DZ 78 l v4 i (fun m n=>Es (true=true) (true=true) (fE 89 (some ⟨CW.sz j,0,none⟩) h n fun o=>fE 89 (some ⟨Ou j,0,none⟩) m o fun o=>Es (KQ (GZ True (Js True 78 f i k 78 f (GQ (GQ j)) k)) (GZ True (NS 78 f (GQ (GQ j)) d))) (KQ (GZ True (Es (Ow ⟨CW.sz j,0,none⟩ (CW.obj (GQ j) (CW.sz j)) n true) (Ow ⟨CW.sz j,0,none⟩ (CW.obj (GQ j) (CW.sz j)) i true) (Ow ⟨CW.sz j,0,none⟩ (CW.obj (GQ j) (CW.sz j)) (GQ (GQ j)) true))) (GZ True (Es (Ow ⟨Ou j,0,none⟩ (CW.obj (GQ (GQ j)) (Ou j)) n true) (Ow ⟨Ou j,0,none⟩ (CW.obj (GQ (GQ j)) (Ou j)) i true) (Ow ⟨Ou j,0,none⟩ (CW.obj (GQ (GQ j)) (Ou j)) (GQ (GQ j)) true)))) (BI 89 (.pointer (some ⟨CW.sz j,0,none⟩)) o fun f=>EV f fun i=>I0 i 0 fun n=>Bb n o fun p=>CP p o fun q=>BI 89 (.pointer (some ⟨Ou j,0,none⟩)) o fun r=>EV r fun s=>I0 s 0 fun t=>Bb t o fun u=>CP u o fun v=>HZ 3 q v fun w=>let c:=DO 65 w 64 v 63 u (Bh 62 t 61 s 60 r 59 q (Bh 58 p 57 n 56 i 55 f (Bh 17 (.pointer (some ⟨Ou j,0,none⟩)) 16 (.pointer (some ⟨CW.sz j,0,none⟩)) 54 m 53 v4 (Bh 52 l 51 v3 50 k 49 h (Bh 48 v2 47 g 46 v1 45 d c))))); GZ (QZ (H2 40 u o v) 40 t o u (Es (Mq 89 (.pointer (some ⟨Ou j,0,none⟩)) o r) (H2 40 p o q) (HN 40 n o p 89 (.pointer (some ⟨CW.sz j,0,none⟩)) o f))) (wI w (Dw 4 a DX o fun a=>Dw 30 b A5 a fun a=>Jm K (F' v0 v1 v2 v3 v4) c a) (BI 89 (.pointer (some ⟨CW.sz j,0,none⟩)) o fun a=>EV a fun b=>I0 b 0 fun d=>Bb d o fun f=>CP f o fun g=>GS 20 147 (F' v0 v1 v2 v3 v4) (EC 71 A5 70 g (Bh 69 f 68 d 67 b 66 a c)) o (cg none K)))))) fun _ _=>False) fun _ _=>False)) fun a b=>Ib K a (F' v0 v1 v2 v3 v4) d b)) fun a b=>Ib K a (F' v0 v1 v2 v3 v4) d b:=by kernel_rfl
 dsimp at h; exact h
def Vo (ro:Option Nat) (K:AB):AB:=AW (fun a b c=>Bc a 71 fun d=>D8 K a 71 d 146 [] b c) K
def TG:=by
 have h:=@Vo.eq_1; dsimp at h; exact h
def Rv (ro:Option Nat) (K:AB):AB:=GR (fun a b c=>EJ 78 a 12 c fun d=>EJ 56 a 20 c fun f=>DZ 62 d f c (fun c g=>Fk prog Br ro 20 147 (.rangeFunc (.tmp 108) #[109,110] (AM prog 20 0) (AN prog 20 0)) (Env.of a (Gt 108 c 107 f 106 d)) b g (CL 2 (CL 1 (Vo ro K)))) fun c g=>CM (Vo ro K) c a (EC 107 f 106 d []) b g) (Vo ro K)
def Z3:=by
 have h:=@Rv.eq_1; dsimp at h; exact h
def Vp (ro:Option Nat) (K:AB):AB:=AW (fun e ds W=>wI (e 105) (wV (Mf prog 4 (e 10) (.bool false) W) fun W31=>wV (Mf prog 30 (e 11) (.int .i64 0) W31) fun W32=>(Rv ro K) .ret e ds W32) ((Rv ro K) .normal e ds W)) (Rv ro K)
def ACq (ro:Option Nat) (e:Env) (ds:List Deferred) (K:AB) (W:CW):=by
 have h:C9 ro 20 147 e ds W K=HM 3 e 71 70 fun a=>Di a (LS e 69 71 fun b=>Aj b W fun c=>KU c 1 fun d=>Iy 24 e 1 d fun f=>BI 56 f (Kq W) fun g=>EJ 89 e 17 (Kq W) fun h=>EV h fun i=>I0 i 0 fun j=>Bb j (Kq W) fun k=>EZ k (e 71) fun l=>Aj l (Kq W) fun m=>KU m 1 fun n=>Iy 24 e 3 n fun o=>BI 56 o (Kq W) fun p=>Es (true=true) (true=true) (fE 56 (some ⟨CW.sz W,0,none⟩) g (Kq W) fun q=>fE 56 (some ⟨CW.sz (Ie W),0,none⟩) p q fun r=>Es ((Js True 56 o q p 56 o (Kq W) p)∧Es (Js True 3 l q m 3 l (Kq W) m) (Js True 40 j q k 40 j (Kq W) k) (Oq (Js True 89 (e 17) q h 89 (e 17) (Kq W) h) 56 f (Kq W) g)) (KQ (GZ True (Ow ⟨CW.sz W,0,none⟩ (CW.obj (Ie W) (CW.sz W)) (Kq W) true)) (GZ True (Ow ⟨CW.sz (Ie W),0,none⟩ (CW.obj (Kq W) (CW.sz (Ie W))) (Kq W) true))) (Dr (.pointer (some ⟨CW.sz W,0,none⟩)) 0 fun q=>BA q r fun s=>Dr (.pointer (some ⟨CW.sz (Ie W),0,none⟩)) 0 fun t=>BA t r fun u=>HZ 9 s u fun v=>let a:=Db 97 v 96 (Bh 95 u 94 t 93 s 92 q (Bh 21 (.pointer (some ⟨CW.sz (Ie W),0,none⟩)) 20 (.pointer (some ⟨CW.sz W,0,none⟩)) 91 p 90 o (Bh 89 n 88 m 87 l 86 (e 71) (Bh 85 k 84 j 83 i 82 h (Bh 81 (Ef e) 80 g 79 f 78 d (Bh 77 c 76 (BE e) 19 c 18 (e 71) (NR 75 c 74 b 73 e 71 72 a))))))); EW v (Vp ro K) e 105 (EK 104 97 103 102 (A_ 101 97 100 99 98 a)) ds r (Dr (.pointer (some ⟨CW.sz W,0,none⟩)) 1 fun b=>Bb b r fun c=>CP c r fun d=>Dr (.pointer (some ⟨CW.sz (Ie W),0,none⟩)) 1 fun f=>Bb f r fun g=>CP g r fun h=>HZ 3 d h fun i=>Dh (Vp ro K) e 105 i (Ds 104 i 97 103 h 102 g (BJ 101 f 97 100 d (BJ 99 c 97 98 b a))) ds r)))) K e (F_ 72 a) ds W:=by kernel_rfl
 dsimp at h; exact h
theorem ACr (ro:Option Nat) (e:Env) (ds:List Deferred) (K:AB) (W:CW):Ft prog Br ro 20 147 (AM prog 20 0) e ds W K=(K .normal (Env.of e [(23,(e 110)),(22,(e 109))]) ds W):=by kernel_rfl
def Vq (ro:Option Nat) (K:AB):AB:=Wk (fun a b c=>EJ 134 a 24 c fun d=>J9 134 a 24 0 fun f=>Aj f c fun g=>J9 134 a 24 0 fun h=>Aj h c fun i=>LW prog 134 [(0,g),(1,i)] fun j=>HZ 134 d j fun k=>let d:=DO 145 k 144 j 143 i (BO 142 h 141 g 140 f 139 d); CB k (Dw 4 (D2 a) DX c fun c=>Dw 30 (Dq a) A5 c fun c=>G_ K a d b c) K a d b c) 3 K
def qA:=by
 have h:=@Vq.eq_1; dsimp at h; exact h
def ACs (ro:Option Nat) (e:Env) (ds:List Deferred) (K:AB) (W:CW):=by
 have h:jL ro 20 147 (AN prog 20 0) e ds W K=Ih e 20 fun a=>Bb a W fun b=>EZ b (e 22) fun c=>Aj c W fun d=>Ih e 21 fun f=>Bb f W fun g=>EZ g (e 22) fun h=>Aj h W fun i=>LW prog 134 [(0,d),(1,i)] fun j=>CI 134 W fun k l=>Dw 134 k j l fun m=>GZ (Es (Js True 3 h l i 3 h W i) (Js True 40 f l g 40 f W g) (KQ (Js True 3 c l d 3 c W d) (Js True 40 a l b 40 a W b))) (HL 5 (e 23) 2 fun l=>let a:=NQ 123 l 122 e 23 (Bh 24 k 121 j 120 i 119 h (Bh 118 (e 22) 117 g 116 f 115 d (BO 114 c 113 (e 22) 112 b 111 a))); CB l (EJ 89 e 16 m fun b=>EV b fun c=>I0 c 1 fun d=>BI 98 d m fun f=>JH 134 k 0 fun g=>Aj g m fun h=>GU 98 f h false m fun i=>EJ 89 e 17 m fun j=>EV j fun l=>I0 l 1 fun n=>BI 98 n m fun o=>JH 134 k 1 fun p=>Aj p m fun q=>GU 98 o q false m fun r=>LW prog 134 [(0,i),(1,r)] fun s=>Dw 134 k s m fun k=>SV (Es (Ko (YB prog 98 o q false m=some r)) (KR 3 p m q) (Es (KR 98 n m o) (KR 89 (e 17) m j) (Es (Ko (YB prog 98 f h false m=some i)) (KR 3 g m h) (Gp 98 d m f 89 (e 16) m b)))) (Vq ro K) e (DO 138 s 137 r 136 q (Bh 135 p 134 o 133 n 132 l (Bh 131 j 130 i 129 h 128 g (Bh 127 f 126 d 125 c 124 b a)))) ds k) (Vq ro K) e a ds m):=by kernel_rfl
 dsimp at h; exact h
def AF' {Q v0 v1 v2 v3 v4 W}:=Eo 20 147 [v0,v1,v2,v3,v4] Tryz.f20 Q W Tryz.func20 (by kernel_rfl)
def AF_ (v0 v1:Value) (K:AB) (W:CW):=by
 have h:Dp 27 22 v0 v1 W K=(let a:=Gt 10 v0 5 A5 4 A5; DR 47 v0 W (fun b c=>CX b fun d=>CY b fun f=>CI 78 c fun c g=>I9 c d g fun g=>D1 f fun h=>let a:=Bh 15 h 14 f 7 f 6 c (Da 13 f 12 d 9 b 11 a); Jq h K v0 v1 (EC 5 (Jk 210) 4 A5 a) g (BI 78 c g fun b=>DZ 84 b v1 g (fun c d=>Mi c 0 fun f=>let a:=EC 20 f 19 c (FA 8 c 18 17 v1 16 b a); Jq f K v0 v1 (DO 5 (Jk 211) 4 c 21 c a) d (LX K v0 v1 (EC 5 A5 4 A5 a) d)) fun c d=>Fv K c v0 v1 (EC 17 v1 16 b a) d)) fun b c=>Fv K b v0 v1 a c):=by kernel_rfl
 dsimp at h; exact h
theorem TH (Q:Ending→CW→Prop) (e:Env) (W:CW):AJ prog Tryz.f27 Q .ret e [] W=Q (.returned (.tuple #[e 4,e 5])) W:=by kernel_rfl
def AGA {Q v0 v1 W}:=Eo 27 22 [v0,v1] Tryz.f27 Q W Tryz.func27 (by kernel_rfl)
def AGB (v0 v1:Value) (K:AB) (W:CW):=by
 have h:Dp 78 8 v0 v1 W K=Hj 131 v0 W fun a b=>wV (some (.func (.func 111) #[] #[a])) fun c=>let a:=BO 6 c 5 v1 4 (.pointer none) 2 a; DZ 50 v1 c b (fun b c=>LX K v0 v1 (Db 4 b 7 a) c) fun b c=>Fv K b v0 v1 a c:=by kernel_rfl
 dsimp at h; exact h
theorem qB (Q:Ending→CW→Prop) (e:Env) (W:CW):AJ prog Tryz.f78 Q .ret e [] W=Q (.returned (e 4)) W:=by kernel_rfl
def AGC {Q v0 v1 W}:=Eo 78 8 [v0,v1] Tryz.f78 Q W Tryz.func78 (by kernel_rfl)
def ACt (v0 v1:Value) (K:AB) (W:CW):=by
 have h:Dp 111 13 v0 v1 W K=JH 131 v1 0 fun a=>BI 78 a W fun b=>JH 131 v1 1 fun c=>BI 24 c W fun d=>KU v0 1 fun f=>Mh 24 d f fun g=>BI 56 g W fun h=>DZ 52 b h W (fun i j=>GZ ((KR 56 g W h)∧Gp 24 c W d 78 a W b) (LX K v0 v1 (D9 3 i 12 11 h (Bh 10 g 9 f 8 v0 7 d (UE 6 c 5 b 4 a 3 none 0 0))) j)) fun _ _=>False:=by kernel_rfl
 dsimp at h; exact h
theorem lH (Q:Ending→CW→Prop) (e:Env) (W:CW):AJ prog Tryz.f111 Q .ret e [] W=Q (.returned (e 3)) W:=by kernel_rfl
def ACu {Q v0 v1 W}:=Eo 111 13 [v0,v1] Tryz.f111 Q W Tryz.func111 (by kernel_rfl)
end Go.Ce
namespace Go.Ce
open Go Go.Proofs Go.Proofs.Tryz
theorem AIK:D_ prog 131=some 3:=by kernel_rfl
theorem vE (a:Addr):R' prog 131 (.pointer (some a)) 0=some (.pointer (some ⟨a.block,a.off,none⟩)):=by kernel_rfl
theorem vF (a:Addr):R' prog 131 (.pointer (some a)) 1=some (.pointer (some ⟨a.block,a.off+2,none⟩)):=by kernel_rfl
theorem gO {P:Program} {fn:Func} {Q:Ending→CW→Prop} {e:Env} {W:CW} {s s':Tmp} {ty ty':TypeId} {p p':Addr} {v v':Value} (hr:fn.results.toList=[.cell s ty,.cell s' ty']) (he:e s=.pointer (some p)) (NG:e s'=.pointer (some p')) (hv:ld P ty (.pointer (some p)) W=some v) (HD:ld P ty' (.pointer (some p')) W=some v') (hq:Q (.returned (.tuple #[v,v'])) W):AJ P fn Q .ret e [] W:=by
 have hv:LI P ty p W=some v:=hv; have HD:LI P ty' p' W=some v':=HD; simp only [AJ,FR,hr,Mg,s8,he,NG,hv,HD]; exact hq
theorem cj {A:CW} (hA:Ag A) {v1:Value} {h:List B9} (hh:AV 2 (Ek A) v1 h) {i:Nat} {x:B9} (hx:h[i]?=some x):∃ a vx,ew prog 24 v1 (.int .i64 i)=some (.pointer (some a))∧(∀ W,Kp A W→ld prog 56 (.pointer (some a)) W=some (.agg #[.string x.type,vx]))∧AV 1 (Dx A) vx x.AH:=by
 obtain ⟨ah,ch,rfl,hhc⟩:=id hh; obtain ⟨p,rfl,hp⟩:=hhc i _ hx; obtain ⟨v,h1,h2⟩:=hp.AH; refine ⟨_,v,Ad P3 MN (List.getElem?_eq_some_iff.1 hx).1,fun W k=>?_,h2⟩; refine CG (vs:=[.string x.type,v]) (a:=⟨p.block,p.off+i*2,none⟩) m5 MN rfl (by omega) fun j w hj=>?_
 match j,hj with
 | 0,hj=>cases hj; exact k.cell hA hp.type
 | 1,hj=>cases hj; exact k.cell hA h1
theorem lI {A:CW} (hA:Ag A) {vx:Value} {l:List Int} (hh:AV 1 (Dx A) vx l) {i:Nat} {x:Int} (hx:l[i]?=some x):∃ a,ew prog 40 vx (.int .i64 i)=some (.pointer (some a))∧∀ W,Kp A W→ld prog 3 (.pointer (some a)) W=some (.int .i64 x):=by
 obtain ⟨ah,ch,rfl,hhc⟩:=id hh; obtain ⟨p,rfl,hp⟩:=hhc i _ hx; exact ⟨_,Ad FJ s3 (List.getElem?_eq_some_iff.1 hx).1,fun W k=>AF a3 (a:=⟨p.block,p.off+i*1,none⟩) (k.cell hA hp.1)⟩
theorem TI {A:CW} (hA:Ag A) {vx:Value} {l:List Int} (hh:CD A 3 1 vx (Bm l)) {i:Nat} {x:Int} (hx:l[i]?=some x):∃ a,ew prog 40 vx (.int .i64 i)=some (.pointer (some a))∧∀ W,Kp A W→ld prog 3 (.pointer (some a)) W=some (.int .i64 x):=by
 obtain ⟨ah,ch,rfl,hhc⟩:=LA (f:=fun k:Int=>Value.int .i64 k) hh; obtain ⟨p,rfl,hp⟩:=hhc i _ hx; exact ⟨_,Ad FJ s3 (List.getElem?_eq_some_iff.1 hx).1,fun W k=>AF a3 (a:=⟨p.block,p.off+i*1,none⟩) (k.cell hA hp)⟩
theorem Xq {c:List Al}:Bl c []=true:=rfl
theorem vG {c:List Al} {h:List B9} (Ai:BM c=true) (JC:∀ x,x ∈ h→Ao c x h.length=true) (n:Int):∀ r,r ∈ Gw c [] h n→0≤r∧r≤h.length:=nV Ai Xq JC
theorem OF {c:List Al} {r1 r2:Nat} {h:List B9} {root:Int} {v1:Value} {W:CW} (ht:Ag W) (FZ:FE W r1 r2 c) (Ai:BM c=true) (hC:Ng c) (hh:AV 2 (Ek W) v1 h) (JC:∀ x,x ∈ h→Ao c x h.length=true) (hhl:h.length<100000) (wN:0≤root) (SJ:root≤h.length) :
  AX prog Br 78 [.agg #[.map (some r1),.map (some r2),v1],.int .i64 root] W (gJ (Ax c [] h root) h.length W):=by
 refine AGC ?_; rw [AGB]; obtain ⟨a,cap,rfl,_⟩:=id hh; refine Hn AIK ht fun W0 k0 t0 z0 hB=>?_; have hB:BX W0 W.sz 131 [.map (some r1),.map (some r2),.slice a h.length cap]:=hB; simp only [AA]
 refine (p6 (refs:=Gw c [] h) (N:=h.length) t0 wN SJ hhl (fun n _ _=>vG Ai JC n) (fun n=>uv hC Xq JC n) (fun n W' k' t' V6 dS K KP hk=>?_)).mono fun en W1 ⟨k1,t1,bw,rp,vo,E9,hw,h1,h2,h3,hF⟩=>?_
 ·refine VD Tryz.func111 (by kernel_rfl) ?_
  have key:AX prog Br 111 [.int .i64 n,.pointer (some ⟨W.sz,0,none⟩)] W' (fun en W2=>Kp W' W2∧Ag W2∧∃ vr,en=.returned vr∧CD W2 3 1 vr (Bm (Gw c [] h n))∧BF W'.sz vr):=by
   refine ACu ?_; rw [ACt]; have rF:=hB.ext t0 k'
   have l78:ld prog 78 (.pointer (some ⟨W.sz,0,none⟩)) W'=some (.agg [.map (some r1),.map (some r2)].toArray):=CG (vs:=[.map (some r1),.map (some r2)]) (a:=⟨W.sz,0,none⟩) rG OC rfl (by omega) fun j w hj=>by
    match j,hj with
    | 0,hj=>cases hj; exact rF.cell rfl
    | 1,hj=>cases hj; exact rF.cell rfl
   have l24:∀ W2,Kp W' W2→ld prog 24 (.pointer (some ⟨W.sz,0+2,none⟩)) W2=some (.slice a h.length cap):=fun W2 k2=>AF a24 (a:=⟨W.sz,0+2,none⟩) (k2.cell t' (rF.cell rfl))
   have AIL:∀ W2,Kp W' W2→ld prog 78 (.pointer (some ⟨W.sz,0,none⟩)) W2=some (.agg [.map (some r1),.map (some r2)].toArray):=fun W2 k2=>CG (vs:=[.map (some r1),.map (some r2)]) (a:=⟨W.sz,0,none⟩) rG OC rfl (by omega) fun j w hj=>by
    match j,hj with
    | 0,hj=>cases hj; exact k2.cell t' (rF.cell rfl)
    | 1,hj=>cases hj; exact k2.cell t' (rF.cell rfl)
   obtain ⟨i,hi⟩:∃ i:Nat,n=((i+1:Nat):Int):=⟨(n-1).toNat,by omega⟩
   subst hi; have IX:i<h.length:=by omega
   have hx:=List.getElem?_eq_getElem IX; have k0W:=k0.trans k'; obtain ⟨ad,vx,a1,a2,p9⟩:=cj t' (hh.imp fun _ _ _ hr=>hr.kp ht k0W) hx; have Uk:=JC _ (List.getElem_mem IX); generalize h[i]=x at hx a2 p9 Uk; simp only [vE,vF,AA,l78,l24 W' (.refl _),Ak]; rw [show ((i+1:Nat):Int)-1=(i:Nat) by omega,wrap64 (by omega) (by omega),a1]; simp only [AA,a2 W' (.refl _)]; obtain ⟨iy,sy,Y⟩:=C_ Uk
   have t_:Gw c [] h ((i+1:Nat):Int)=refsOf c x:=by
    unfold Gw; rw [show (((i+1:Nat):Int)-1).toNat=i by omega,hx]; rfl
   have AJT:=N' hC Y.many; refine (yS t' (FZ.kp ht k0W) Y.ti (fun he=>by rw [Hr Y.si he Y.many]; exact Nat.le_refl _) p9 (by omega)).mono fun en W2 ⟨k2,t2,vr,E9,jA,zo⟩=>?_; subst E9; refine AP ?_; refine ⟨by simp only [a2 W2 k2,l24 W2 k2,AIL W2 k2,and_self],trivial,?_⟩; rw [lH]; exact ⟨k2,t2,vr,rfl,by rw [t_]; exact jA,zo⟩
  refine key.mono fun en W2 ⟨k2,t2,vr,E9,jA,zo⟩=>?_; subst E9; exact hk vr W2 k2 t2 jA zo
 ·subst E9; refine AP ?_; rw [qB]; have hz:=k0.sz; exact ⟨k0.trans k1,t1,bw,rp,vo,rfl,hw,by omega,by omega,fun b l c e=>by have:=h3 b l c e; omega,hF⟩
end Go.Ce
namespace Go.Ce
open Go Go.Proofs Go.Proofs.Tryz
structure QE (e:Env) (b n:Nat) (a hi Ma:Int) (wb wp:Bool):Prop where
 e0:e 0=.slice (some ⟨b,0,none⟩) n n
 e1:e 1=.int .i64 a
 e2:e 2=.int .i64 hi
 e3:e 3=.int .i64 Ma
 e8:e 8=.bool wb
 e9:e 9=.bool wp
end Go.Ce
namespace Go.Ce
open Go Go.Proofs Go.Proofs.Tryz
structure QI (a0 E0 a hi:Int) (m:List Int):Prop where
 l:Std a0 a m
 r:Std hi E0 m
 lx:∀ x y,a0≤x→x<a→a≤y→y<E0→at_ m x≤at_ m y
 xr:∀ x y,a0≤x→x<hi→hi≤y→y<E0→at_ m x≤at_ m y
 pre:0<a→∀ x,a≤x→x<hi→at_ m (a-1)≤at_ m x
section
variable {a0 E0 a hi Ep:Int} {m m2:List Int}
theorem QI.sw (h:QI a0 E0 a hi m) (h0:0≤a0) (h1:a0≤a) (h2:hi≤E0) (hl:E0≤m.length) (s:SW a hi m m2) (kL:a≤hi):QI a0 E0 a hi m2:=by
 have out:=fun k (hk:0≤k) (sC:k<a∨hi≤k)=>s.out (by omega) (by omega) hk sC; have all:=fun (P:Int→Prop) hp=>s.all (P:=P) (by omega) (by omega) hp
 refine ⟨fun x y hx LF hy=>?_,fun x y hx LF hy=>?_,fun x y hx nJ hy lJ=>?_,fun x y hx Vn hy lJ=>?_,fun ha x hx Vn=>?_⟩
 ·rw [out x (by omega) (by omega),out y (by omega) (by omega)]; exact h.l x y hx LF hy
 ·rw [out x (by omega) (by omega),out y (by omega) (by omega)]; exact h.r x y hx LF hy
 ·rw [out x (by omega) (by omega)]
  by_cases hh:hi≤y
  ·rw [out y (by omega) (by omega)]; exact h.lx x y hx nJ hy lJ
  ·exact all (fun v=>at_ m x≤v) (fun k k0 k1=>h.lx x k hx nJ k0 (by omega)) y hy (by omega)
 ·rw [out y (by omega) (by omega)]
  by_cases hh:x<a
  ·rw [out x (by omega) (by omega)]; exact h.xr x y hx Vn hy lJ
  ·exact all (fun v=>v≤at_ m y) (fun k k0 k1=>h.xr k y (by omega) k1 hy lJ) x (by omega) Vn
 ·rw [out (a-1) (by omega) (by omega)]; exact all (fun v=>at_ m (a-1)≤v) (fun k k0 k1=>h.pre ha k k0 k1) x hx Vn
theorem QI.done (h:QI a0 E0 a hi m) (hs:Std a hi m):Std a0 E0 m:=by
 intro x y hx LF hy
 by_cases h1:y<a
 ·exact h.l x y hx LF h1
 ·by_cases h2:x<a
  ·exact h.lx x y hx h2 (by omega) hy
  ·by_cases h3:y<hi
   ·exact hs x y (by omega) LF h3
   ·by_cases h4:x<hi
    ·exact h.xr x y hx h4 (by omega) hy
    ·exact h.r x y (by omega) LF hy
theorem QI.left (h:QI a0 E0 a hi m) (h1:a0≤a) (QD:a≤Ep) (B3:Ep<hi) (h2:hi≤E0) (hP:Mn a hi Ep m) (hs:Std a Ep m):QI a0 E0 (Ep+1) hi m:=by
 refine ⟨fun x y hx LF hy=>?_,h.r,fun x y hx nJ hy lJ=>?_,h.xr,fun ha x hx Vn=>?_⟩
 ·by_cases g1:y<a
  ·exact h.l x y hx LF g1
  ·by_cases g2:x<a
   ·exact h.lx x y hx g2 (by omega) (by omega)
   ·by_cases g3:y=Ep
    ·rw [g3]; exact Int.le_of_lt (hP.1 x (by omega) (by omega))
    ·exact hs x y (by omega) LF (by omega)
 ·by_cases g1:x<a
  ·exact h.lx x y hx g1 (by omega) lJ
  ·by_cases g2:y<hi
   ·have:=hP.2 y (by omega) g2
    by_cases g3:x=Ep
    ·rw [g3]; exact this
    ·have:=hP.1 x (by omega) (by omega); omega
   ·exact h.xr x y hx (by omega) (by omega) lJ
 ·rw [show Ep+1-1=Ep by omega]; exact hP.2 x (by omega) Vn
theorem QI.right (h:QI a0 E0 a hi m) (h1:a0≤a) (QD:a≤Ep) (B3:Ep<hi) (h2:hi≤E0) (hP:Mn a hi Ep m) (hs:Std (Ep+1) hi m):QI a0 E0 a Ep m:=by
 refine ⟨h.l,fun x y hx LF hy=>?_,h.lx,fun x y hx Vn hy lJ=>?_,fun ha x hx Vn=>h.pre ha x hx (by omega)⟩
 ·by_cases g1:y<hi
  ·by_cases g2:x=Ep
   ·rw [g2]; exact hP.2 y (by omega) g1
   ·exact hs x y (by omega) LF g1
  ·by_cases g2:x<hi
   ·exact h.xr x y (by omega) g2 (by omega) hy
   ·exact h.r x y (by omega) LF hy
 ·by_cases g1:x<a
  ·exact h.lx x y hx g1 (by omega) lJ
  ·by_cases g2:y<hi
   ·have:=hP.1 x (by omega) Vn
    by_cases g3:y=Ep
    ·rw [g3]; omega
    ·have:=hP.2 y (by omega) g2; omega
   ·exact h.xr x y hx (by omega) (by omega) lJ
theorem QI.equal (h:QI a0 E0 a hi m) {v:Int} (h1:a0≤a) (QD:a<Ep) (B3:Ep≤hi) (h2:hi≤E0) (HQ:∀ x,a≤x→x<hi→v≤at_ m x) (hL:∀ x,a≤x→x<Ep→at_ m x≤v) (hR:∀ x,Ep≤x→x<hi→v<at_ m x):QI a0 E0 Ep hi m:=by
 refine ⟨fun x y hx LF hy=>?_,h.r,fun x y hx nJ hy lJ=>?_,h.xr,fun ha x hx Vn=>?_⟩
 ·by_cases g1:y<a
  ·exact h.l x y hx LF g1
  ·by_cases g2:x<a
   ·exact h.lx x y hx g2 (by omega) (by omega)
   ·have:=hL x (by omega) (by omega); have:=HQ y (by omega) (by omega); omega
 ·by_cases g1:x<a
  ·exact h.lx x y hx g1 (by omega) lJ
  ·by_cases g2:y<hi
   ·have:=hL x (by omega) nJ; have:=hR y hy g2; omega
   ·exact h.xr x y hx (by omega) (by omega) lJ
 ·have:=hL (Ep-1) (by omega) (by omega); have:=hR x hx Vn; omega
theorem Mn.swl (hP:Mn a hi Ep m) (h0:0≤a) (QD:a≤Ep) (B3:Ep<hi) (hl:hi≤m.length) (s:SW a Ep m m2):Mn a hi Ep m2:=by
 have out:=fun k (hk:0≤k) (sC:k<a∨Ep≤k)=>s.out (by omega) (by omega) hk sC
 refine ⟨fun x hx zs=>?_,fun x hx Vn=>?_⟩
 ·rw [out Ep (by omega) (by omega)]; exact s.all (P:=fun v=>v<at_ m Ep) (by omega) (by omega) (fun k k0 k1=>hP.1 k k0 k1) x hx zs
 ·rw [out Ep (by omega) (by omega),out x (by omega) (by omega)]; exact hP.2 x hx Vn
theorem Mn.swr (hP:Mn a hi Ep m) (h0:0≤a) (QD:a≤Ep) (B3:Ep<hi) (hl:hi≤m.length) (s:SW (Ep+1) hi m m2):Mn a hi Ep m2:=by
 have out:=fun k (hk:0≤k) (sC:k<Ep+1∨hi≤k)=>s.out (by omega) (by omega) hk sC
 refine ⟨fun x hx zs=>?_,fun x hx Vn=>?_⟩
 ·rw [out Ep (by omega) (by omega),out x (by omega) (by omega)]; exact hP.1 x hx zs
 ·rw [out Ep (by omega) (by omega)]; exact s.all (P:=fun v=>at_ m Ep≤v) (by omega) (by omega) (fun k k0 k1=>hP.2 k (by omega) k1) x (by omega) Vn
end
def QV (W:CW) (b n:Nat) (a0 E0:Int) (l:List Int) (k:Nat) (e:Env) (ds:List Deferred) (W':CW):Prop:=ds=[]∧∃ a hi Ma wb wp m,QE e b n a hi Ma wb wp∧SS W W' b a0 E0 l m∧QI a0 E0 a hi m∧a0≤a∧a≤hi∧hi≤E0∧(hi-a).toNat=k
theorem AIM {b n:Nat} (hn:n<50):∀ (B:Nat) {W:CW} {a hi Ma:Int} {l:List Int},Ag W→Ar W b l→l.length=n→0≤a→a≤hi→hi≤n→hi-a≤B→(0<a→∀ x,a≤x→x<hi→at_ l (a-1)≤at_ l x)→AX prog Br 128 [.slice (some ⟨b,0,none⟩) n n,.int .i64 a,.int .i64 hi,.int .i64 Ma] W (Un b a hi l (Std a hi) W):=by
 intro B
 induction B using Nat.strongRecOn with
 | ind B ih =>
 intro W a0 E0 AIN l ht hd Mx Uz AIO AJU nu A0; refine tT ?_; rw [tS]; generalize GD:AJ prog Tryz.f128 (Un b a0 E0 l (Std a0 E0) W)=KK
 have Ik:∀ (x:Exit) (hx:x=.normal∨x=.ret) (e:Env) W' m,SS W W' b a0 E0 l m→Std a0 E0 m→KK x e [] W':=by
  intro x hx e W' m S hs; rw [←GD]; exact J1 (by kernel_rfl) _ _ hx _ _ ⟨rfl,m,S,hs⟩
 refine DK (QV W b n a0 E0 l) (E0-a0).toNat ⟨rfl,a0,E0,AIN,true,true,l,⟨rfl,rfl,rfl,rfl,rfl,rfl⟩,.start ht hd,⟨fun x y hx LF hy=>by omega,fun x y hx LF hy=>by omega,fun x y hx nJ hy lJ=>by omega,fun x y hx Vn hy lJ=>by omega,A0⟩,Int.le_refl _,AIO,Int.le_refl _,rfl⟩ ?_; rintro k e ds W1 ⟨rfl,a,hi,Ma,wb,wp,m,E,S,I,ha,kL,L5,hk⟩; have My:=S.len Mx; have part:∀ {W2:CW} {m2:List Int},SS W1 W2 b a hi m m2→SS W W2 b a0 E0 l m2∧QI a0 E0 a hi m2:=fun {W2 m2} S2=>⟨S.trans (S2.mono ha L5),I.sw Uz ha L5 (by omega) S2.sw kL⟩
 rw [mm,E.e0,E.e1,E.e2,E.e3,E.e8]; simp only [Ak,AA]; rw [wrap64 (by omega) (by omega)]; simp only [DY,AA]
 refine MZ (fun cG=>?_) (fun cG=>?_)
 ·refine (lF S.top S.ar My (by omega) (by omega) (by omega) kL).mono fun en W2 ⟨he,m2,S2,hs⟩=>?_; subst he; refine AP ?_; simp only [JI,tf]; obtain ⟨g1,g2⟩:=part S2; exact Ik _ (.inr rfl) _ _ m2 g1 (g2.done hs)
 simp only [BK,AA]
 refine AD (fun _=>?_) (fun _=>?_)
 ·refine (AF7 S.top S.ar My (by omega) (by omega) (by omega) (by omega)).mono fun en W2 ⟨he,m2,S2,hs⟩=>?_; subst he; refine AP ?_; simp only [JI,tf]; obtain ⟨g1,g2⟩:=part S2; exact Ik _ (.inr rfl) _ _ m2 g1 (g2.done hs)
 have Xf:∀ (e2:Env) W2 Ma wb wp p m2,SS W W2 b a0 E0 l m2→QI a0 E0 a hi m2→QE e2 b n a hi Ma wb wp→e2 10=.int .i64 (hi-a)→e2 11=.int .i64 p→a≤p→p<hi→(LZ none (FD (QV W b n a0 E0 l) k (CL 0 KK))) .normal e2 [] W2:=by
  intro e2 W2 Ma wb wp p m2 S2 I2 E2 KC Mr Vm O1; have B3:=S2.len Mx; simp only [Wo,Ay,bKp,St,tKp,E2.e0,E2.e1,E2.e2,E2.e3,KC,Mr]; refine (lG S2.top S2.ar B3 (by omega) (by omega) (by omega) (by omega) Vm O1).mono fun en W3 ⟨Ep,q,m3,he,q1,q2,S3,hP⟩=>?_; subst he; refine AP ?_; refine As (BU _ _) ?_; refine As (BV _ _) ?_; simp only [Ak,AA]; rw [wrap64 (x:=Ep-a) (by omega) (by omega),wrap64 (x:=hi-Ep) (by omega) (by omega),uw (by omega) (by omega) (by omega)]; simp only [AS,CZ,AA]; have S23:=S2.trans (S3.mono ha L5); have qy:=S23.len Mx; have I3:=I2.sw Uz ha L5 (by omega) S3.sw kL
  refine AD (fun _=>?_) (fun _=>?_)
  ·refine (ih (Ep-a).toNat (by omega) S3.top S3.ar qy (by omega) q1 (by omega) (by omega) (fun h0 x hx Vn=>I3.pre h0 x hx (by omega))).mono fun en W4 ⟨he,m4,S4,dX⟩=>?_; subst he; refine AP ?_; simp only [AO,AA]; rw [wrap64 (by omega) (by omega)]; have I4:=I3.sw Uz ha L5 (by omega) (S4.sw.mono (Int.le_refl _) (by omega:Ep≤hi)) kL; have hP4:=hP.swl (by omega) q1 q2 (by omega) S4.sw; exact ⟨(hi-(Ep+1)).toNat,by omega,rfl,Ep+1,hi,Ma,_,q,m4,⟨by simp only [AI,AQ,Nat.reduceEqDiff,↓reduceIte,E2.e0],by simp only [AI,↓reduceIte],by simp only [AI,AQ,Nat.reduceEqDiff,↓reduceIte,E2.e2],by simp only [AI,AQ,Nat.reduceEqDiff,↓reduceIte,E2.e3],(by simp only [AI,Nat.reduceEqDiff,↓reduceIte]; rfl),by simp only [AI,Nat.reduceEqDiff,↓reduceIte]⟩,S23.trans (S4.mono ha (by omega)),I4.left ha q1 q2 L5 hP4 dX,by omega,by omega,by omega,rfl⟩
  ·simp only [AO,AA]; rw [wrap64 (by omega) (by omega)]; refine (ih (hi-(Ep+1)).toNat (by omega) S3.top S3.ar qy (by omega) (by omega) (by omega) (by omega) (fun h0 x hx Vn=>by rw [show Ep+1-1=Ep by omega]; exact hP.2 x (by omega) Vn)).mono fun en W4 ⟨he,m4,S4,dX⟩=>?_; subst he; refine AP ?_; have I4:=I3.sw Uz ha L5 (by omega) (S4.sw.mono (by omega:a≤Ep+1) (Int.le_refl _)) kL; have hP4:=hP.swr (by omega) q1 q2 (by omega) S4.sw; exact ⟨(Ep-a).toNat,by omega,rfl,a,Ep,Ma,_,q,m4,⟨by simp only [AI,AQ,Nat.reduceEqDiff,↓reduceIte,E2.e0],by simp only [AI,AQ,Nat.reduceEqDiff,↓reduceIte,E2.e1],by simp only [AI,↓reduceIte],by simp only [AI,AQ,Nat.reduceEqDiff,↓reduceIte,E2.e3],(by simp only [AI,Nat.reduceEqDiff,↓reduceIte]; rfl),by simp only [AI,Nat.reduceEqDiff,↓reduceIte]⟩,S23.trans (S4.mono (by omega) L5),I4.right ha q1 q2 L5 hP4 dX,by omega,by omega,by omega,rfl⟩
 have nQ:∀ (e2:Env) W2 Ma wb wp p q m2,SS W W2 b a0 E0 l m2→QI a0 E0 a hi m2→QE e2 b n a hi Ma wb wp→e2 10=.int .i64 (hi-a)→e2 11=.int .i64 p→e2 87=.bool q→(q=true→0<a∧at_ m2 p≤at_ m2 (a-1))→a≤p→p<hi→(Q2 none (FD (QV W b n a0 E0 l) k (CL 0 KK))) .normal e2 [] W2:=by
  intro e2 W2 Ma wb wp p q m2 S2 I2 E2 KC Mr h87 hq Vm O1; have B3:=S2.len Mx; simp only [jX,Ay,h87]
  refine AD (fun hb=>?_) (fun _=>?_)
  ·obtain ⟨hap,qq⟩:=hq hb; rw [E2.e0,E2.e1,E2.e2,Mr]; refine (ACo S2.top S2.ar B3 (by omega) (by omega) (by omega) (by omega) Vm O1).mono fun en W3 ⟨Ep,m3,he,q1,q2,S3,hL,hR⟩=>?_; subst he; refine AP ?_; have I3:=I2.sw Uz ha L5 (by omega) S3.sw kL; have HQ:=S3.sw.all (P:=fun v=>at_ m2 p≤v) (by omega) (by omega) (fun x hx Vn=>by have:=I2.pre hap x hx Vn; omega); simp only [Wo,Mk,Gc,if_true,St]; exact ⟨(hi-Ep).toNat,by omega,rfl,Ep,hi,Ma,wb,wp,m3,⟨by simp only [AI,AQ,Nat.reduceEqDiff,↓reduceIte,E2.e0],by simp only [AI,↓reduceIte],by simp only [AI,AQ,Nat.reduceEqDiff,↓reduceIte,E2.e2],by simp only [AI,AQ,Nat.reduceEqDiff,↓reduceIte,E2.e3],by simp only [AI,AQ,Nat.reduceEqDiff,↓reduceIte,E2.e8],by simp only [AI,AQ,Nat.reduceEqDiff,↓reduceIte,E2.e9]⟩,S2.trans (S3.mono ha L5),I3.equal ha q1 q2 L5 HQ hL hR,by omega,by omega,by omega,rfl⟩
  ·exact Xf e2 W2 Ma wb wp p m2 S2 I2 E2 KC Mr Vm O1
 have k18:∀ (e2:Env) W2 Ma wb wp p m2,SS W W2 b a0 E0 l m2→QI a0 E0 a hi m2→QE e2 b n a hi Ma wb wp→e2 10=.int .i64 (hi-a)→e2 11=.int .i64 p→a≤p→p<hi→(Ju none (FD (QV W b n a0 E0 l) k (CL 0 KK))) .normal e2 [] W2:=by
  intro e2 W2 Ma wb wp p m2 S2 I2 E2 KC Mr Vm O1; have B3:=S2.len Mx; simp only [Wp,Ay,E2.e0,E2.e1,Mr,Av,AA]
  refine Xo (fun hg=>?_) (fun hl=>?_)
  ·simp only [Ak,AA]; rw [wrap64 (by omega) (by omega)]; have hx:=S2.ar.ld (i:=a-1) (by omega) (by omega); have hy:=S2.ar.ld (i:=p) (by omega) (by omega); rw [CA (by omega) (by omega),CA (by omega) (by omega)]; simp only [hx,hy,AA]; refine At (De _ _ W2) ?_; simp only [Ac,AA]; refine ⟨by simp only [and_self],trivial,?_⟩; exact nQ _ W2 Ma wb wp p (!decide (at_ m2 (a-1)<at_ m2 p)) m2 S2 I2 ⟨by simp only [AI,AQ,Nat.reduceEqDiff,↓reduceIte,E2.e0],by simp only [AI,AQ,Nat.reduceEqDiff,↓reduceIte,E2.e1],by simp only [AI,AQ,Nat.reduceEqDiff,↓reduceIte,E2.e2],by simp only [AI,AQ,Nat.reduceEqDiff,↓reduceIte,E2.e3],by simp only [AI,AQ,Nat.reduceEqDiff,↓reduceIte,E2.e8],by simp only [AI,AQ,Nat.reduceEqDiff,↓reduceIte,E2.e9]⟩ (by simp only [AI,AQ,Nat.reduceEqDiff,↓reduceIte,KC]) (by simp only [AI,AQ,Nat.reduceEqDiff,↓reduceIte,Mr]) (by simp only [AI,↓reduceIte]) (fun h=>⟨hg,by have h:(!decide (at_ m2 (a-1)<at_ m2 p))=true:=h; simp at h; exact h⟩) Vm O1
  ·refine ⟨trivial,trivial,?_⟩; exact nQ _ W2 Ma wb wp p false m2 S2 I2 ⟨by simp only [AI,AQ,Nat.reduceEqDiff,↓reduceIte,E2.e0],by simp only [AI,AQ,Nat.reduceEqDiff,↓reduceIte,E2.e1],by simp only [AI,AQ,Nat.reduceEqDiff,↓reduceIte,E2.e2],by simp only [AI,AQ,Nat.reduceEqDiff,↓reduceIte,E2.e3],by simp only [AI,AQ,Nat.reduceEqDiff,↓reduceIte,E2.e8],by simp only [AI,AQ,Nat.reduceEqDiff,↓reduceIte,E2.e9]⟩ (by simp only [AI,AQ,Nat.reduceEqDiff,↓reduceIte,KC]) (by simp only [AI,AQ,Nat.reduceEqDiff,↓reduceIte,Mr]) (by simp only [AI,↓reduceIte]) (fun h=>(by cases h)) Vm O1
 have k21:∀ (e2:Env) W2 Ma wb wp p q m2,SS W W2 b a0 E0 l m2→QI a0 E0 a hi m2→QE e2 b n a hi Ma wb wp→e2 10=.int .i64 (hi-a)→e2 11=.int .i64 p→e2 68=.bool q→a≤p→p<hi→(NY none (FD (QV W b n a0 E0 l) k (CL 0 KK))) .normal e2 [] W2:=by
  intro e2 W2 Ma wb wp p q m2 S2 I2 E2 KC Mr h68 Vm O1; have B3:=S2.len Mx; simp only [jY,Ay,h68]
  refine AD (fun _=>?_) (fun _=>?_)
  ·rw [E2.e0,E2.e1,E2.e2]; refine (u6 S2.top S2.ar B3 (by omega) (by omega) (by omega) (by omega) (by omega)).mono fun en W3 ⟨hW,q,he,hq⟩=>?_; subst he; subst hW; refine AP ?_
   refine AD (fun hb=>?_) (fun _=>?_)
   ·simp only [Wp,G4,JI,tf]; exact Ik _ (.inr rfl) _ _ m2 S2 (I2.done (hq hb))
   ·exact k18 _ W3 Ma wb wp p m2 S2 I2 ⟨by simp only [AI,AQ,Nat.reduceEqDiff,↓reduceIte,E2.e0],by simp only [AI,AQ,Nat.reduceEqDiff,↓reduceIte,E2.e1],by simp only [AI,AQ,Nat.reduceEqDiff,↓reduceIte,E2.e2],by simp only [AI,AQ,Nat.reduceEqDiff,↓reduceIte,E2.e3],by simp only [AI,AQ,Nat.reduceEqDiff,↓reduceIte,E2.e8],by simp only [AI,AQ,Nat.reduceEqDiff,↓reduceIte,E2.e9]⟩ (by simp only [AI,AQ,Nat.reduceEqDiff,↓reduceIte,KC]) (by simp only [AI,AQ,Nat.reduceEqDiff,↓reduceIte,Mr]) Vm O1
  ·exact k18 e2 W2 Ma wb wp p m2 S2 I2 E2 KC Mr Vm O1
 have k22:∀ (e2:Env) W2 Ma wb wp p h m2,SS W W2 b a0 E0 l m2→QI a0 E0 a hi m2→QE e2 b n a hi Ma wb wp→e2 10=.int .i64 (hi-a)→e2 11=.int .i64 p→e2 12=.int .i64 h→a≤p→p<hi→(NZ none (FD (QV W b n a0 E0 l) k (CL 0 KK))) .normal e2 [] W2:=by
  intro e2 W2 Ma wb wp p h m2 S2 I2 E2 KC Mr AIP Vm O1; simp only [jZ,Ay,E2.e8,E2.e9,AIP,BK,AA]
  refine AD (fun _=>?_) (fun _=>?_)
  ·refine AD (fun _=>?_) (fun _=>?_)
   ·exact k21 _ W2 Ma wb wp p _ m2 S2 I2 ⟨by simp only [AI,AQ,Nat.reduceEqDiff,↓reduceIte,E2.e0],by simp only [AI,AQ,Nat.reduceEqDiff,↓reduceIte,E2.e1],by simp only [AI,AQ,Nat.reduceEqDiff,↓reduceIte,E2.e2],by simp only [AI,AQ,Nat.reduceEqDiff,↓reduceIte,E2.e3],by simp only [AI,AQ,Nat.reduceEqDiff,↓reduceIte,E2.e8],by simp only [AI,AQ,Nat.reduceEqDiff,↓reduceIte,E2.e9]⟩ (by simp only [AI,AQ,Nat.reduceEqDiff,↓reduceIte,KC]) (by simp only [AI,AQ,Nat.reduceEqDiff,↓reduceIte,Mr]) (by simp only [AI,↓reduceIte]; rfl) Vm O1
   ·exact k21 _ W2 Ma wb wp p false m2 S2 I2 ⟨by simp only [AI,AQ,Nat.reduceEqDiff,↓reduceIte,E2.e0],by simp only [AI,AQ,Nat.reduceEqDiff,↓reduceIte,E2.e1],by simp only [AI,AQ,Nat.reduceEqDiff,↓reduceIte,E2.e2],by simp only [AI,AQ,Nat.reduceEqDiff,↓reduceIte,E2.e3],by simp only [AI,AQ,Nat.reduceEqDiff,↓reduceIte,E2.e8],by simp only [AI,AQ,Nat.reduceEqDiff,↓reduceIte,E2.e9]⟩ (by simp only [AI,AQ,Nat.reduceEqDiff,↓reduceIte,KC]) (by simp only [AI,AQ,Nat.reduceEqDiff,↓reduceIte,Mr]) (by simp only [AI,↓reduceIte]) Vm O1
  ·exact k21 _ W2 Ma wb wp p false m2 S2 I2 ⟨by simp only [AI,AQ,Nat.reduceEqDiff,↓reduceIte,E2.e0],by simp only [AI,AQ,Nat.reduceEqDiff,↓reduceIte,E2.e1],by simp only [AI,AQ,Nat.reduceEqDiff,↓reduceIte,E2.e2],by simp only [AI,AQ,Nat.reduceEqDiff,↓reduceIte,E2.e3],by simp only [AI,AQ,Nat.reduceEqDiff,↓reduceIte,E2.e8],by simp only [AI,AQ,Nat.reduceEqDiff,↓reduceIte,E2.e9]⟩ (by simp only [AI,AQ,Nat.reduceEqDiff,↓reduceIte,KC]) (by simp only [AI,AQ,Nat.reduceEqDiff,↓reduceIte,Mr]) (by simp only [AI,↓reduceIte]) Vm O1
 have k25:∀ (e2:Env) W2 Ma wb wp m2,SS W W2 b a0 E0 l m2→QI a0 E0 a hi m2→QE e2 b n a hi Ma wb wp→e2 10=.int .i64 (hi-a)→(Na none (FD (QV W b n a0 E0 l) k (CL 0 KK))) .normal e2 [] W2:=by
  intro e2 W2 Ma wb wp m2 S2 I2 E2 KC; have B3:=S2.len Mx; have hda:DA W2 b n:=by rw [←B3]; exact S2.ar.da
  simp only [ja,Ay,bKp,tKp,E2.e0,E2.e1,E2.e2]; refine (gK S2.top hda (by omega) (by omega) (by omega) (by omega) (by omega)).mono fun en W3 ⟨k3,t3,p,h,he,Vm,O1⟩=>?_; subst he; have S3:=S2.kp k3 t3; refine AP ?_; refine As (BU _ _) ?_; refine As (BV _ _) ?_; simp only [BK,AA]
  refine AD (fun _=>?_) (fun _=>?_)
  ·refine (u5 S3.top S3.ar B3 (by omega) (by omega) (by omega) kL).mono fun en W4 ⟨he,m4,S4,_⟩=>?_; subst he; refine AP ?_; simp only [Ak,AA]; rw [wrap64 (x:=hi-1) (by omega) (by omega),wrap64 (x:=p-a) (by omega) (by omega),wrap64 (x:=hi-1-(p-a)) (by omega) (by omega)]; exact k22 _ W4 Ma wb wp (hi-1-(p-a)) 1 m4 (S3.trans (S4.mono ha L5)) (I2.sw Uz ha L5 (by omega) S4.sw kL) ⟨by simp only [AI,AQ,Nat.reduceEqDiff,↓reduceIte,E2.e0],by simp only [AI,AQ,Nat.reduceEqDiff,↓reduceIte,E2.e1],by simp only [AI,AQ,Nat.reduceEqDiff,↓reduceIte,E2.e2],by simp only [AI,AQ,Nat.reduceEqDiff,↓reduceIte,E2.e3],by simp only [AI,AQ,Nat.reduceEqDiff,↓reduceIte,E2.e8],by simp only [AI,AQ,Nat.reduceEqDiff,↓reduceIte,E2.e9]⟩ (by simp only [AI,AQ,Nat.reduceEqDiff,↓reduceIte,KC]) (by simp only [AI,Nat.reduceEqDiff,↓reduceIte]) (by simp only [AI,↓reduceIte]) (by omega) (by omega)
  ·exact k22 _ W3 Ma wb wp p h m2 S3 I2 ⟨by simp only [AI,AQ,Nat.reduceEqDiff,↓reduceIte,E2.e0],by simp only [AI,AQ,Nat.reduceEqDiff,↓reduceIte,E2.e1],by simp only [AI,AQ,Nat.reduceEqDiff,↓reduceIte,E2.e2],by simp only [AI,AQ,Nat.reduceEqDiff,↓reduceIte,E2.e3],by simp only [AI,AQ,Nat.reduceEqDiff,↓reduceIte,E2.e8],by simp only [AI,AQ,Nat.reduceEqDiff,↓reduceIte,E2.e9]⟩ (by simp only [AI,AQ,Nat.reduceEqDiff,↓reduceIte,KC]) (by simp only [AI,Nat.reduceEqDiff,↓reduceIte]) (by simp only [AI,Nat.reduceEqDiff,↓reduceIte]) Vm O1
 simp only [Ac,AA]
 refine AD (fun _=>?_) (fun _=>?_)
 ·refine (ACp S.top S.ar My hn (by omega) (by omega) (by omega)).mono fun en W2 ⟨he,m2,S2,_⟩=>?_; subst he; refine AP ?_; obtain ⟨g1,g2⟩:=part S2; exact k25 _ W2 _ wb wp m2 g1 g2 ⟨by simp only [AI,AQ,Nat.reduceEqDiff,↓reduceIte,E.e0],by simp only [AI,AQ,Nat.reduceEqDiff,↓reduceIte,E.e1],by simp only [AI,AQ,Nat.reduceEqDiff,↓reduceIte,E.e2],by simp only [AI,↓reduceIte]; rfl,by simp only [AI,AQ,Nat.reduceEqDiff,↓reduceIte,E.e8],by simp only [AI,AQ,Nat.reduceEqDiff,↓reduceIte,E.e9]⟩ (by simp only [AI,Nat.reduceEqDiff,↓reduceIte])
 ·exact k25 _ W1 Ma wb wp m S I ⟨by simp only [AI,AQ,Nat.reduceEqDiff,↓reduceIte,E.e0],by simp only [AI,AQ,Nat.reduceEqDiff,↓reduceIte,E.e1],by simp only [AI,AQ,Nat.reduceEqDiff,↓reduceIte,E.e2],by simp only [AI,AQ,Nat.reduceEqDiff,↓reduceIte,E.e3],by simp only [AI,AQ,Nat.reduceEqDiff,↓reduceIte,E.e8],by simp only [AI,AQ,Nat.reduceEqDiff,↓reduceIte,E.e9]⟩ (by simp only [AI,Nat.reduceEqDiff,↓reduceIte])
end Go.Ce
namespace Go.Ce
open Go Go.Proofs Go.Proofs.Tryz
def vH (v0 v1:Value) (K:AB) (W:CW):=by
 have h:Dp 26 31 v0 v1 W K=(let a:=Gt 11 v0 5 A5 4 (.slice none 0 0); DR 47 v0 W (fun b c=>CX b fun d=>CY b fun f=>CI 78 c fun c g=>I9 c d g fun g=>D1 f fun h=>let a:=Bh 16 h 15 f 7 f 6 c (Da 14 f 13 d 10 b 12 a); Jq h K v0 v1 (EC 5 (Jk 210) 4 (.slice none 0 0) a) g (JH 78 c 0 fun b=>BI 75 b g fun d=>GU 75 d v1 true g fun f=>CX f fun h=>CY f fun i=>CI 48 g fun g j=>Dw 48 g h j fun j=>D1 i fun k=>let a:=DO 25 k 24 i 9 i (Bh 8 g 23 i 22 h 17 f (Bh 21 f 20 v1 19 d 18 b a)); Jq k K v0 v1 (EC 5 (Jk 213) 4 (.slice none 0 0) a) j (JH 78 c 1 fun b=>BI 76 b j fun c=>GU 76 c v1 false j fun d=>let a:=Bh 29 d 28 v1 27 c 26 b a; DR 83 d j (fun b c=>LX K v0 v1 (DO 5 A5 4 b 30 b a) c) fun b c=>Fv K b v0 v1 a c))) fun b c=>Fv K b v0 v1 a c):=by kernel_rfl
 dsimp at h; exact h
theorem TJ (Q:Ending→CW→Prop) (e:Env) (W:CW):AJ prog Tryz.f26 Q .ret e [] W=Q (.returned (.tuple #[e 4,e 5])) W:=by kernel_rfl
def vI {Q v0 v1 W}:=Eo 26 31 [v0,v1] Tryz.f26 Q W Tryz.func26 (by kernel_rfl)
end Go.Ce
namespace Go.Ce
section
variable (P:Program) (L:List FuncId)
end
section
variable {P:Program} {L:List FuncId} {R:C6} {ops:Array Oper}
end
end Go.Ce
namespace Go.Ce
open Go Go.Proofs Go.Proofs.Tryz
end Go.Ce
namespace Go.Ce
open Go Go.Proofs Go.Proofs.Tryz
theorem p9:agg? prog 3=some false:=by kernel_rfl
structure AIQ (A:CW) (vb:Value) (b:List UInt8):Prop where
 top:Ag A
 sl:∃ a cap,vb=.slice a b.length cap∧b.length≤cap∧∀ i x,b[i]?=some x→∃ p,a=some p∧fT A p.block (p.off+i*1) x
 Ma:b.length≤100000
end Go.Ce
namespace Go.Ce
open Go Go.Proofs Go.Proofs.Tryz
end Go.Ce
namespace Go.Ce
open Go Go.Proofs Go.Proofs.Tryz
end Go.Ce
namespace Go.Ce
open Go Go.Proofs Go.Proofs.Tryz
end Go.Ce
namespace Go.Ce
open Go Go.Proofs Go.Proofs.Tryz
theorem AGD (a b:Int) (W:CW):blt prog .min [3,3] [.int .i64 a,.int .i64 b] W=some (.int .i64 (min a b),W):=by
 have h:blt prog .min [3,3] [.int .i64 a,.int .i64 b] W=some (.int .i64 (cond (decide (b<a)) b a),W):=rfl; rw [h]
 by_cases hq:b<a
 ·rw [decide_eq_true hq,Int.min_eq_right (by omega)]; rfl
 ·rw [decide_eq_false hq,Int.min_eq_left (by omega)]; rfl
end Go.Ce
namespace Go.Ce
open Go Go.Proofs Go.Proofs.Tryz
def Marks (B:Nat) (W:CW) (ds:List Deferred):Prop:=∃ rs:List Nat,ds=rs.map mark∧rs.Nodup∧∀ r,r ∈ rs→W.obj r=some .deferred∧B≤r
theorem Marks.nil (B:Nat) (W:CW):Marks B W []:=⟨[],rfl,List.nodup_nil,fun r h=>by cases h⟩
theorem UO {P:Program} {fn:Func} {Q:Ending→CW→Prop} {x:Exit} {e:Env} {B:Nat} {W:CW} (ht:Ag W) {ds:List Deferred} (h:Marks B W ds) (hq:∀ W',(∀ j o,W.obj j=some o→o≠.deferred→W'.obj j=some o)→(∀ j,j<B→W'.obj j=W.obj j)→W'.sz=W.sz→Ag W'→AJ P fn Q x e [] W'):AJ P fn Q x e ds W:=by
 obtain ⟨rs,rfl,a7,hr⟩:=h
 suffices key:∀ (rs:List Nat) (W0:CW),Ag W0→rs.Nodup→(∀ r,r ∈ rs→W0.obj r=some .deferred∧B≤r)→(∀ W',(∀ j o,W0.obj j=some o→o≠.deferred→W'.obj j=some o)→(∀ j,j<B→W'.obj j=W0.obj j)→W'.sz=W0.sz→Ag W'→AJ P fn Q x e [] W')→AJ P fn Q x e (rs.map mark) W0 from key rs W ht a7 hr hq
 intro rs
 induction rs with
 | nil=>intro W0 ht _ _ hq; exact hq W0 (fun j o h _=>h) (fun j _=>rfl) rfl ht
 | cons r rs ih =>
  intro W0 ht a7 hr hq; obtain ⟨SJ,fh⟩:=hr r (by simp); obtain ⟨dS,mJ⟩:=List.nodup_cons.1 a7
  refine J0 SJ (ih (W0.BB r .dead) (ht.BB (ht _ _ SJ) (ED.of _ _ _)) mJ (fun r' h'=>?_) fun W' h1 h2 h3 h4=>hq W' (fun j o hj ho=>?_) (fun j hj=>?_) h3 h4)
  ·obtain ⟨a,b⟩:=hr r' (by simp [h']); exact ⟨by rw [G3,if_neg (by rintro rfl; exact dS h')]; exact a,b⟩
  ·refine h1 j o ?_ ho
   rw [G3,if_neg]
   ·exact hj
   ·rintro rfl; rw [SJ] at hj; cases hj; exact ho rfl
  ·rw [h2 j hj,G3,if_neg (by omega)]
theorem Marks.IF {B:Nat} {W W':CW} {ds:List Deferred} (h:Marks B W ds) (ho:∀ j,W.obj j=some .deferred→B≤j→W'.obj j=some .deferred):Marks B W' ds:=by
 obtain ⟨rs,h1,h2,h3⟩:=h; exact ⟨rs,h1,h2,fun r hr=>⟨ho r (h3 r hr).1 (h3 r hr).2,(h3 r hr).2⟩⟩
theorem Marks.push {B:Nat} {W:CW} {ds:List Deferred} {r:Nat} (h:Marks B W ds) (hr:W.obj r=some .deferred) (hB:B≤r) (hn:mark r ∉ ds):Marks B W (mark r::ds):=by
 obtain ⟨rs,rfl,h2,h3⟩:=h; refine ⟨r::rs,rfl,List.nodup_cons.2 ⟨fun hm=>hn (List.mem_map.2 ⟨r,hm,rfl⟩),h2⟩,fun r' Iq=>?_⟩
 rcases List.mem_cons.1 Iq with rfl | hm
 ·exact ⟨hr,hB⟩
 ·exact h3 r' hm
def Xr (p:B9 × Value):List Value:=[.string p.1.type,p.2]
end Go.Ce
namespace Go.Ce
open Go Go.Proofs Go.Proofs.Tryz
structure TP where
 A:CW
 L:CW
 rb:Nat
 b3:Nat
 b4:Nat
 b8:Nat
 JQ:Nat
 r1:Nat
 r2:Nat
 vb:Value
 vt:Value
 b:List UInt8
 c:List Al
 ts:List ByteArray
 many:Nat
 G:Except Int (List B9 × Nat × Nat × Nat)
structure TIn (p:TP):Prop where
 rd:AIQ p.A p.vb p.b
 cat:FE p.A p.r1 p.r2 p.c
 ok:BM p.c=true
 C:Ng p.c
 top:Ag p.L
 kA:Kp p.A p.L
 c3:BX p.L p.b3 124 [.pointer (some ⟨p.rb,0,none⟩)]
 c4:BX p.L p.b4 78 [.map (some p.r1),.map (some p.r2)]
 c8:BX p.L p.b8 3 [.int .i64 p.many]
 vt:CD p.L 9 1 p.vt (strs p.ts)
 tl:p.ts.length≤100
 known:∀ s,s ∈ p.ts→(BL p.c s).isSome=true
 xr:∃ v,BX p.L p.rb 170 v
 xf:∃ v,BX p.L p.JQ 3 v
 xx:p.A.sz≤p.rb∧p.A.sz≤p.JQ
 ne:p.b8≠p.JQ
 many:p.many≤1000
section
variable {p:TP} (I:TIn p)
include I
end
end Go.Ce
namespace Go.Ce
open Go Go.Proofs Go.Proofs.Tryz
theorem AGE:(prog.info? 56).map (·.bytes)=some 40:=by kernel_rfl
theorem Rw:∀ ps:List (B9 × Value),(ps.flatMap Xr).length=ps.length*2
 | []=>rfl
 | q::ps=>by
  have ih:=Rw ps; simp only [List.flatMap_cons,List.length_append,ih,List.length_cons,Xr,List.length_nil]; omega
theorem vJ {a b:Nat} (h:mark a=mark b):a=b:=by
 unfold mark at h
 injection h with h1 h2
 injection h1
end Go.Ce
namespace Go.Ce
open Go Go.Proofs Go.Proofs.Tryz
theorem ACv (s:ByteArray):wE prog 56 [(0,.string s)]=some (.agg [.string s,.slice none 0 0].toArray):=by kernel_rfl
end Go.Ce
namespace Go.Ce
open Go Go.Proofs Go.Proofs.Tryz
end Go.Ce
namespace Go.Ce
open Go Go.Proofs Go.Proofs.Tryz
theorem s30:D_ prog 30=some 1:=by kernel_rfl
theorem z30:Hz prog 30=some (.int .i64 0):=by kernel_rfl
end Go.Ce
namespace Go.Ce
open Go Go.Proofs Go.Proofs.Tryz
def lK (l:List C5) (s:ByteArray):Option C5:=l.find? fun x=>decide (x.to=s)
def Nn (mp vs z:List Int):Nat→List Int
 | 0=>z
 | n+1=>(Nn mp vs z n).set ((mp[n]?).getD 0).toNat ((vs[n]?).getD 0)
def Fg (c:List Al) (l:List C5) (x:B9):B9:=match lK l x.type with
 | none=>x
 | some s=>match BL c s.type with
  | none=>x
  | some t=>⟨s.type,Nn s.map x.AH (List.replicate (Ap c t).length 0) s.map.length⟩
theorem TK (mp vs z:List Int):∀ n,(Nn mp vs z n).length=z.length
 | 0=>rfl
 | n+1=>by rw [Nn,List.length_set,TK mp vs z n]
theorem yV {z:List Int} {k:Nat} (hk:k<z.length) (x:Int):putAt (Bm z) (0+k*1) [.int .i64 x]=Bm (z.set k x):=by
 apply List.ext_getElem?; intro j; have hl:(Bm z).length=z.length:=by simp [Bm]
 rw [N2 (by rw [hl]; simp; omega)]; unfold Bm; simp only [List.length_singleton,List.getElem?_map,List.getElem?_set]
 by_cases e:k=j
 ·subst e; rw [if_pos ⟨by omega,by omega⟩,if_pos rfl,if_pos hk]; simp
 ·rw [if_neg (by omega),if_neg e]
end Go.Ce
namespace Go.Ce
open Go Go.Proofs Go.Proofs.Tryz
def qC (c:List Al) (l:List C5) (s:ByteArray):Option Int:=if (BL c s).isSome then (if (l.find? fun x=>decide (x.type=s)).isSome then some 214 else none) else some 213
theorem AGF:Hz prog 48=some yF:=by kernel_rfl
theorem AGG:D_ prog 48=some 5:=by kernel_rfl
theorem qD {c:List Al} {l:List C5} {s:ByteArray} (h:qC c l s=none):(BL c s).isSome=true∧(l.find? fun x=>decide (x.type=s))=none:=by
 unfold qC at h
 split at h
 ·rename_i h1
  split at h
  ·cases h
  ·rename_i h2; exact ⟨h1,by simpa using h2⟩
 ·cases h
end Go.Ce
namespace Go.Ce
open Go Go.Proofs Go.Proofs.Tryz
def BdT (x:B9):Prop:=∀ v,v ∈ x.AH→-9223372036854775808≤v∧v≤9223372036854775807
theorem gP:∀ (l:List (B9 × Value)) (k:Nat),(l.flatMap Xr)[k]?=(l[k / 2]?).bind fun q=>(Xr q)[k % 2]?
 | [],k=>by simp
 | q::l,0=>rfl
 | q::l,1=>rfl
 | q::l,k+2=>by
  have h:((q::l).flatMap Xr)[k+2]?=(l.flatMap Xr)[k]?:=by
   simp only [List.flatMap_cons]; rfl
  rw [h,gP l k,show (k+2) / 2=k / 2+1 by omega,show (k+2) % 2=k % 2 by omega]; rfl
end Go.Ce
namespace Go.Ce
open Go Go.Proofs Go.Proofs.Tryz
end Go.Ce
namespace Go.Ce
open Go Go.Proofs Go.Proofs.Tryz
inductive Lt (c:List Al) (ix many:Nat):Nat→Nat→List Int→Nat→Prop
 | nil (k fd:Nat):Lt c ix many k fd [] fd
 | ref {k fd v:Nat} {vs:List Int} {Z4:Nat} (hk:A4 c ix k=2) (hv:v≤min (fd+1) many) (h:Lt c ix many (k+1) (max fd v) vs Z4):Lt c ix many k fd ((v:Int)::vs) Z4
 | word {k fd:Nat} {v:Int} {vs:List Int} {Z4:Nat} (hk:A4 c ix k≠2) (h1:-1000000000≤v) (h2:v≤1000000000) (h:Lt c ix many (k+1) fd vs Z4):Lt c ix many k fd (v::vs) Z4
def lL (c:List Al) (ix:Nat):Nat→List Int→List Int
 | _,[]=>[]
 | k,v::vs=>(if A4 c ix k=2 then RN v.toNat else RN (zb v).toNat)++lL c ix (k+1) vs
end Go.Ce
namespace Go.Ce
open Go Go.Proofs Go.Proofs.Tryz
inductive Ht (c:List Al) (ts:List ByteArray) (many:Nat):Nat→Nat→Nat→List B9→Nat→Nat→Prop
 | nil (i u f:Nat):Ht c ts many i u f [] u f
 | cons {i u f:Nat} {x:B9} {xs:List B9} {t ix f1 u' f':Nat} (hi:i<f) (ht:ts[t]?=some x.type) (iQ:t≤u) (hx:BL c x.type=some ix) (hn:if elemAt c ix≠0 then x.AH.length≤200 else x.AH.length=(Ap c ix).length) (hv:Lt c ix many 0 f x.AH f1) (h:Ht c ts many (i+1) (if t=u then u+1 else u) f1 xs u' f'):Ht c ts many i u f (x::xs) u' f'
def Z5 (c:List Al) (ts:List ByteArray) (x:B9):List Int:=match BL c x.type with
 | some i=>RN (RJ ts fun y=>decide (y=x.type)).toNat++(if elemAt c i≠0 then RN x.AH.length else [])++lL c i 0 x.AH
 | none=>[]
structure Canon (c:List Al) (ask:ByteArray→Option Int) (ts:List ByteArray) (xs:List B9):Prop where
 tsl:ts.length≤100
 sym:∀ s,s ∈ ts→Gu s=true∧ask s=none
 nodup:ts.Nodup
 len:xs.length≤1000
 scan:Ht c ts xs.length 0 0 (min xs.length 1) xs ts.length xs.length
def cl (c:List Al) (ts:List ByteArray) (xs:List B9):List Int:=[1]++RN ts.length++ts.flatMap zQ++RN xs.length++xs.flatMap (Z5 c ts)
end Go.Ce
namespace Go.Ce
open Go Go.Proofs Go.Proofs.Tryz
theorem Z6 {c:List Al} {l:List C5} (h:Bl c l=true) {i:Nat} {s:C5} (hs:l[i]?=some s):Fx l s i=false∧∀ k,k<l.length→EL l s i k=false:=by
 unfold Bl at h; simp only [Bool.and_eq_true,Bool.not_eq_true'] at h; have hb:=Ew h.2 (List.getElem?_eq_some_iff.1 hs).1; unfold Gd at hb; rw [hs] at hb; simp only at hb
 split at hb
 ·simp only [Bool.or_eq_false_iff] at hb; exact ⟨hb.1.2,fun k hk=>Ew hb.2.1 hk⟩
 ·cases hb
theorem vK {c:List Al} {l:List C5} (h:Bl c l=true):∀ (k j:Nat) (x y:C5),j<k→l[j]?=some x→l[k]?=some y→SA (sb x.type) (sb y.type)=true:=by
 intro k
 induction k with
 | zero=>intro j x y hj; omega
 | succ k ih =>
  intro j x y hj hx hy; have hp:=(Z6 h hy).1; unfold Fx at hp; have YD:k<l.length:=by have:=(List.getElem?_eq_some_iff.1 hy).1; omega
  have hz:=List.getElem?_eq_getElem YD; simp only [hz,Bool.not_eq_false'] at hp
  rcases Nat.lt_succ_iff_lt_or_eq.1 hj with h1 | rfl
  ·exact OA _ _ _ (ih j x _ h1 hx hz) hp
  ·rw [hx] at hz; cases hz; exact hp
theorem qE {c:List Al} {l:List C5} (h:Bl c l=true) {s:C5} (hs:s ∈ l):H8 l s.type=some s:=by
 obtain ⟨i,hi,he⟩:=List.mem_iff_getElem.1 hs; have IT:=List.getElem?_eq_getElem hi; rw [he] at IT
 have:=fj (l:=l) (s:=s.type) hi (by rw [he]; simp) (fun j hj=>by
  have YF:j<l.length:=by omega
  have hj':=List.getElem?_eq_getElem YF; rw [hj']; have Ae:=vK h i j _ _ hj hj' IT; simp only [Option.map_some,Option.some.injEq,decide_eq_false_iff_not]; intro e
  rw [e,Rd] at Ae; cases Ae)
 rw [this,he]
theorem zt {c:List Al} {l:List C5} (h:Bl c l=true) {s x:C5} (hs:s ∈ l) (hx:x ∈ l):x.type≠s.to:=by
 obtain ⟨i,hi,he⟩:=List.mem_iff_getElem.1 hs; obtain ⟨k,hk,hke⟩:=List.mem_iff_getElem.1 hx; have IT:=List.getElem?_eq_getElem hi; rw [he] at IT; have:=(Z6 h IT).2 k hk; unfold EL at this; rw [List.getElem?_eq_getElem hk,hke] at this; simp only [Bool.or_eq_false_iff,decide_eq_false_iff_not] at this; exact this.1
theorem qF {l:List C5} {s:ByteArray} {x:C5} (h:lK l s=some x):x ∈ l∧x.to=s:=⟨List.mem_of_find?_eq_some h,by simpa using List.find?_some h⟩
theorem qG {mp:List Int} {k:Nat} {n:Int} (h:LB mp k n=false) {j:Nat} (hj:j<k):mp[j]?≠some n:=by
 have:=Ew h hj
 simpa using this
theorem Xs {mp vs z:List Int} (OZ:∀ (k:Nat) m,mp[k]?=some m→0≤m∧m.toNat<z.length) (hd:∀ (k j:Nat) m,j<k→mp[k]?=some m→mp[j]?≠some m):∀ n,n≤mp.length→∀ (j:Nat) m,j<n→mp[j]?=some m→(Nn mp vs z n)[m.toNat]?=some ((vs[j]?).getD 0)
 | 0,_,j,m,hj,_=>by omega
 | n+1,hn,j,m,hj,hm=>by
  have K2:n<mp.length:=by omega
  have hx:=List.getElem?_eq_getElem K2; have hb:=OZ n _ hx; have P1:=OZ j _ hm; rw [Nn,hx,Option.getD_some,List.getElem?_set]
  by_cases e:n=j
  ·subst e; rw [hx] at hm
   cases hm
   rw [if_pos rfl,if_pos (by rw [TK]; exact hb.2)]
  ·have zr:j<n:=by omega
   have D0:mp[n]≠m:=fun e'=>hd n j m zr (by rw [hx,e']) hm; rw [if_neg (by omega)]; exact Xs OZ hd n (by omega) j m zr hm
theorem Z7 {mp vs z:List Int} (OZ:∀ (k:Nat) m,mp[k]?=some m→0≤m) {i:Nat} (hi:∀ m,m ∈ mp→m.toNat≠i):∀ n,n≤mp.length→(Nn mp vs z n)[i]?=z[i]?
 | 0,_=>rfl
 | n+1,hn=>by
  have K2:n<mp.length:=by omega
  have hx:=List.getElem?_eq_getElem K2; rw [Nn,hx,Option.getD_some,List.getElem?_set,if_neg (hi _ (List.mem_of_getElem? hx))]; exact Z7 OZ hi n (by omega)
structure WIs (c:List Al) (l:List C5) (x:B9) (many ix:Nat):Prop where
 ti:BL c x.type=some ix
 ask:H8 l x.type=none
 n:if elemAt c ix≠0 then x.AH.length≤200 else x.AH.length=(Ap c ix).length
 val:∀ (k:Nat) v,x.AH[k]?=some v→C1 (A4 c ix k) v many=true
theorem yW {c:List Al} {s:C5} {t a:Nat} (S:zX c s t a):(∀ (k:Nat) m,s.map[k]?=some m→0≤m∧m.toNat<(Ap c t).length)∧∀ (k j:Nat) m,j<k→s.map[k]?=some m→s.map[j]?≠some m:=by
 constructor
 ·intro k m hk; obtain ⟨n,h1,h2,h3,_⟩:=S.map k (by rw [←S.len]; exact (List.getElem?_eq_some_iff.1 hk).1); rw [hk] at h1; cases h1; omega
 ·intro k j m hj hk; obtain ⟨n,h1,_,_,_,h5⟩:=S.map k (by rw [←S.len]; exact (List.getElem?_eq_some_iff.1 hk).1); rw [hk] at h1; cases h1; exact qG h5 hj
theorem WIs.back {c:List Al} {l:List C5} {x:B9} {many ix:Nat} (h:WIs c l x many ix) (hs:Bl c l=true):AY l (Fg c l x)=x∧Ao c (Fg c l x) many=true∧lK l (Fg c l x).type=none:=by
 have IX:=Dm h.ti
 cases hto:lK l x.type with
 | none =>
  have hb:Fg c l x=x:=by unfold Fg; rw [hto]
  rw [hb]; refine ⟨by unfold AY; rw [h.ask],?_,hto⟩; refine XS (i:=ix) (s:=c[ix]) ⟨h.ti,List.getElem?_eq_getElem IX,?_,h.val⟩; have hn:=h.n; unfold elemAt at hn; rw [List.getElem?_eq_getElem IX] at hn; unfold Dd; simp only at hn
  split
  ·rename_i he; rw [if_pos he] at hn; simpa using hn
  ·rename_i he; rw [if_neg he] at hn; simpa using hn
 | some s =>
  obtain ⟨yI,EB⟩:=qF hto; obtain ⟨j,hj⟩:=List.getElem?_of_mem yI; obtain ⟨t,a,S⟩:=kG hs hj; have YE:a=ix:=by have h1:=S.ai; rw [EB,h.ti] at h1; exact (Option.some.inj h1).symm
  subst YE; obtain ⟨OZ,hd⟩:=yW S; have hn:=h.n; rw [if_neg (by rw [S.ea]; simp)] at hn; have kB:=Dm S.ti
  have hb:Fg c l x=⟨s.type,Nn s.map x.AH (List.replicate (Ap c t).length 0) s.map.length⟩:=by
   unfold Fg; rw [hto]; simp only; rw [S.ti]
  rw [hb]; have AGH:∀ (k:Nat) m,s.map[k]?=some m→0≤m∧m.toNat<(List.replicate (Ap c t).length (0:Int)).length:=fun k m hk=>by rw [List.length_replicate]; exact OZ k m hk
  have hlen:s.map.length=x.AH.length:=by rw [S.len,hn]
  refine ⟨?_,?_,?_⟩
  ·unfold AY; show (match H8 l s.type with | some s=>_ | none=>_)=x; rw [qE hs yI]
   cases x with
   | mk ty vs =>
    simp only at EB hlen ⊢; rw [EB]; congr 1; apply List.ext_getElem?; intro k; rw [List.getElem?_map]
    cases hk:s.map[k]? with
    | none =>
     have:=List.getElem?_eq_none_iff.1 hk; rw [List.getElem?_eq_none (by omega)]; rfl
    | some m =>
     have YD:=(List.getElem?_eq_some_iff.1 hk).1; show some (Lk _ m)=_; unfold Lk; rw [Xs AGH hd s.map.length (Nat.le_refl _) k m YD hk,List.getElem?_eq_getElem (by omega)]; rfl
  ·refine XS (i:=t) (s:=c[t]) ⟨S.ti,List.getElem?_eq_getElem kB,?_,fun k v hk=>?_⟩
   ·have het:=S.et; unfold elemAt at het; rw [List.getElem?_eq_getElem kB] at het; unfold Dd; rw [if_neg (by simpa using het)]; refine decide_eq_true ?_; show (Nn _ _ _ _).length=_; rw [TK,List.length_replicate]
   ·have hk:(Nn s.map x.AH (List.replicate (Ap c t).length 0) s.map.length)[k]?=some v:=hk
    by_cases hq:∃ m,m ∈ s.map∧m.toNat=k
    ·obtain ⟨m,hm,hmk⟩:=hq; obtain ⟨j,UQ⟩:=List.getElem?_of_mem hm; have YF:=(List.getElem?_eq_some_iff.1 UQ).1; have:=Xs (vs:=x.AH) AGH hd s.map.length (Nat.le_refl _) j m YF UQ; rw [hmk,hk,List.getElem?_eq_getElem (by omega)] at this
     cases this
     have hv:=h.val j _ (List.getElem?_eq_getElem (by omega)); obtain ⟨n,h1,_,_,h4,_⟩:=S.map j (by rw [←S.len]; exact YF); rw [UQ] at h1; cases h1; rw [Ll S.ea IX] at hv; rw [Ll S.et kB,←hmk,h4]; exact hv
    ·rw [Z7 (fun k m hk=>(OZ k m hk).1) (fun m hm e=>hq ⟨m,hm,e⟩) _ (Nat.le_refl _)] at hk
     have:v=0:=by
      have:=List.mem_of_getElem? hk; exact List.eq_of_mem_replicate this
     subst this; unfold C1; simp
  ·show lK l s.type=none; unfold lK; rw [List.find?_eq_none]; intro y hy; have:=zt hs hy yI
   simpa using fun e=>this e.symm
end Go.Ce
namespace Go.Ce
open Go Go.Proofs Go.Proofs.Tryz
def iota (n:Nat):List Int:=(List.range n).map fun k=>((k:Nat):Int)+1
theorem Lu (n:Nat):(iota n).length=n:=by simp [iota]
theorem TL (n:Nat):iota (n+1)=iota n++[((n:Nat):Int)+1]:=by simp [iota,List.range_succ]
theorem Rx {n k:Nat} (h:k<n):(iota n)[k]?=some (((k:Nat):Int)+1):=by simp [iota,h]
theorem Ry {n:Nat} {v:Int}:v ∈ iota n↔1≤v∧v≤n:=by
 unfold iota; rw [List.mem_map]
 constructor
 ·rintro ⟨k,hk,rfl⟩; have:=List.mem_range.1 hk; omega
 ·rintro ⟨h1,h2⟩; exact ⟨(v-1).toNat,List.mem_range.2 (by omega),by omega⟩
theorem lN {n:Nat} {v:Nat} (h:v≤n):placeOf (iota n) v=v:=by
 rcases Nat.eq_zero_or_pos v with rfl | hp
 ·exact FN fun hm=>by have:=Ry.1 hm; omega
 ·have hf:(iota n).findIdx? (fun x=>decide (x=(v:Int)))=some (v-1):=by
   rw [List.findIdx?_eq_some_iff_getElem]
   have hg:∀ k (hk:k<(iota n).length),(iota n)[k]=((k:Nat):Int)+1:=fun k hk=>by
    have:=Rx (n:=n) (k:=k) (by rw [←Lu n]; exact hk); rw [List.getElem?_eq_getElem hk] at this; exact Option.some.inj this
   refine ⟨by rw [Lu]; omega,by rw [hg]; simp; omega,fun j hj=>?_⟩; rw [hg]; simp; omega
  unfold placeOf; rw [hf]; simp only; omega
theorem lP {f v:Nat} (h:v≤f+1):visit (iota f) v=iota (max f v):=by
 unfold visit
 by_cases h0:v=0
 ·subst h0; rw [if_neg (by omega),Nat.max_eq_left (by omega)]
 ·by_cases hv:v=f+1
  ·subst hv; rw [if_pos ⟨by omega,fun hm=>by have:=Ry.1 hm; omega⟩,Nat.max_eq_right (by omega),TL]; simp
  ·rw [if_neg (fun h=>h.2 (Ry.2 (by omega))),Nat.max_eq_left (by omega)]
def Eh (g:Nat→Int→List Int):Nat→List Int→List Int
 | _,[]=>[]
 | k,v::vs=>g k v++Eh g (k+1) vs
theorem Xt (g:Nat→Int→List Int) (v:Int):∀ (vs:List Int) (k:Nat),Eh g k (vs++[v])=Eh g k vs++g (k+vs.length) v
 | [],k=>by simp [Eh]
 | u::vs,k=>by
  rw [List.cons_append,Eh,Xt g v vs (k+1),Eh,List.append_assoc,List.length_cons]; congr 2; congr 1; omega
theorem cn {g:Nat→Int→List Int} {vs:List Int} {T:Nat→List Int} (h0:T 0=[]) (h1:∀ n v,vs[n]?=some v→T (n+1)=T n++g n v):∀ n,n≤vs.length→T n=Eh g 0 (vs.take n)
 | 0,_=>by rw [h0,List.take_zero]; rfl
 | n+1,hn=>by
  have hx:=List.getElem?_eq_getElem (show n<vs.length by omega); rw [h1 n _ hx,cn h0 h1 n (by omega),List.take_add_one,hx,Option.toList_some,Xt,List.length_take,Nat.min_eq_left (by omega),Nat.zero_add]
def PV (c:List Al) (ix k:Nat) (v:Int):List Int:=if A4 c ix k=2 then [v] else []
theorem Z8 (c:List Al) (i:Nat) (vs:List Int):FM c i vs vs.length=Eh (PV c i) 0 vs:=by
 rw [cn (T:=FM c i vs) (g:=PV c i) rfl (fun n v hv=>by rw [FM,hv]; rfl) vs.length (Nat.le_refl _),List.take_length]
theorem Z9 (c:List Al) (o:List Int) (i:Nat) (vs:List Int):XX c o i vs vs.length=Eh (fun k v=>fo o (A4 c i k) v) 0 vs:=by
 rw [cn (T:=XX c o i vs) (g:=fun k v=>fo o (A4 c i k) v) rfl (fun n v hv=>by rw [XX,hv]) vs.length (Nat.le_refl _),List.take_length]
theorem Lt.fold {c:List Al} {ix many k fd Z4:Nat} {vs:List Int} (h:Lt c ix many k fd vs Z4):(Eh (PV c ix) k vs).foldl visit (iota fd)=iota Z4∧fd≤Z4∧(fd≤many→Z4≤many):=by
 induction h with
 | nil=>exact ⟨rfl,Nat.le_refl _,id⟩
 | @ref k fd v vs Z4 hk hv h ih =>
  obtain ⟨h1,h2,h3⟩:=ih; refine ⟨?_,by omega,fun hf=>h3 (by omega)⟩; rw [Eh,List.foldl_append,PV,if_pos hk]; show (Eh _ _ _).foldl visit (visit (iota fd) (v:Int))=_; rw [lP (by omega)]; exact h1
 | @word k fd v vs Z4 hk dY gy h ih =>
  obtain ⟨h1,h2,h3⟩:=ih; refine ⟨?_,h2,h3⟩; rw [Eh,PV,if_neg hk]; exact h1
theorem Lt.val {c:List Al} {ix many k fd Z4:Nat} {vs:List Int} (h:Lt c ix many k fd vs Z4):∀ (j:Nat) v,vs[j]?=some v→C1 (A4 c ix (k+j)) v many=true:=by
 induction h with
 | nil=>intro j v hv; simp at hv
 | @ref k fd v vs Z4 hk hv h ih =>
  intro j w hw
  cases j with
  | zero =>
   cases hw
   unfold C1; rw [Nat.add_zero,hk]; simp; omega
  | succ j =>
   have:=ih j w hw; rw [show k+(j+1)=k+1+j by omega]; exact this
 | @word k fd v vs Z4 hk dY gy h ih =>
  intro j w hw
  cases j with
  | zero =>
   cases hw
   unfold C1; rw [Nat.add_zero]; simp [hk]; omega
  | succ j =>
   have:=ih j w hw; rw [show k+(j+1)=k+1+j by omega]; exact this
theorem Lt.enc {c:List Al} {ix many k fd Z4:Nat} {vs:List Int} (h:Lt c ix many k fd vs Z4):Eh (fun k v=>fo (iota many) (A4 c ix k) v) k vs=lL c ix k vs:=by
 induction h with
 | nil=>rfl
 | @ref k fd v vs Z4 hk hv h ih =>
  rw [Eh,lL,ih,fo,if_pos hk,if_pos hk,lN (by omega),Int.toNat_natCast]
 | @word k fd v vs Z4 hk dY gy h ih =>
  rw [Eh,lL,ih,fo,if_neg hk,if_neg hk]
theorem Ht.search {c:List Al} {ts:List ByteArray} {many i u f u' f':Nat} {xs:List B9} {refs:Int→List Int} (h:Ht c ts many i u f xs u' f') (hr:∀ (j:Nat) x,xs[j]?=some x→refs (((i+j:Nat):Int)+1)=refsOf c x):C2 refs xs.length (iota f) i=iota f':=by
 induction h with
 | nil=>rfl
 | @cons i u f x xs t ix f1 u' f' hi ht iQ hx hn hv h ih =>
  rw [List.length_cons,C2,Rx hi]; simp only; have h0:=hr 0 x rfl; rw [Nat.add_zero] at h0; rw [h0]
  have:refsOf c x=Eh (PV c ix) 0 x.AH:=by
   unfold refsOf; rw [hx]; exact Z8 c ix x.AH
  rw [this,hv.fold.1]
  exact ih fun j y hy=>by
   have:=hr (j+1) y hy; rw [show i+1+j=i+(j+1) by omega]; exact this
theorem Ht.types {c:List Al} {ts:List ByteArray} (a7:ts.Nodup) {many i u f u' f':Nat} {xs:List B9} (h:Ht c ts many i u f xs u' f'):xs.foldl (fun t x=>CS t x.type) (ts.take u)=ts.take u':=by
 induction h with
 | nil=>rfl
 | @cons i u f x xs t ix f1 u' f' hi ht iQ hx hn hv h ih =>
  rw [List.foldl_cons]; obtain ⟨kB,hte⟩:=List.getElem?_eq_some_iff.1 ht
  have:CS (ts.take u) x.type=ts.take (if t=u then u+1 else u):=by
   unfold CS
   by_cases e:t=u
   ·subst e
    rw [if_pos rfl,if_neg,List.take_add_one,ht]
    ·rfl
    ·intro ha; obtain ⟨y,hy,hye⟩:=List.any_eq_true.1 ha; have hye:y=x.type:=of_decide_eq_true hye; subst hye; obtain ⟨j,hj⟩:=List.getElem?_of_mem hy; rw [List.getElem?_take] at hj
     split at hj
     ·rename_i hjt; obtain ⟨YF,hje⟩:=List.getElem?_eq_some_iff.1 hj; have:=(List.getElem_inj a7).1 (hje.trans hte.symm); omega
     ·cases hj
   ·rw [if_neg e,if_pos]; refine List.any_eq_true.2 ⟨x.type,List.mem_of_getElem? (i:=t) ?_,by simp⟩; rw [List.getElem?_take,if_pos (by omega),ht]
  rw [this]; exact ih
theorem Ht.wis {c:List Al} {l:List C5} {ts:List ByteArray} (AIR:∀ s,s ∈ ts→qC c l s=none) {many i u f u' f':Nat} {xs:List B9} (h:Ht c ts many i u f xs u' f'):∀ x,x ∈ xs→∃ ix,WIs c l x many ix∧S7 c ts (iota many) x=Z5 c ts x:=by
 induction h with
 | nil=>intro x hx; cases hx
 | @cons i u f x xs t ix f1 u' f' hi ht iQ hx hn hv h ih =>
  intro y hy
  rcases List.mem_cons.1 hy with rfl | hy
  ·refine ⟨ix,⟨hx,(qD (AIR _ (List.mem_of_getElem? ht))).2,hn,fun k v hk=>?_⟩,?_⟩
   ·have:=hv.val k v hk; rw [Nat.zero_add] at this; exact this
   ·unfold S7 Z5; rw [hx]; simp only; rw [Z9,hv.enc]
  ·exact ih y hy
theorem gQ (h:List B9):A9 h (iota h.length)=h:=by
 have key:∀ n,n≤h.length→A9 h (iota n)=h.take n:=by
  intro n
  induction n with
  | zero=>intro _; rfl
  | succ n ih =>
   intro hn
   have e:A9 h (iota (n+1))=A9 h (iota n)++A9 h [((n:Nat):Int)+1]:=by
    unfold A9; rw [TL,List.flatMap_append]
   rw [e,ih (by omega),List.take_add_one]; congr 1; unfold A9; simp
 rw [key _ (Nat.le_refl _),List.take_length]
structure ACw (c:List Al) (l:List C5) (ts:List ByteArray) (xs:List B9):Prop where
 ask:HR c l (xs.map (Fg c l)) (min (xs.length:Int) 1)=0
 found:Ax c l (xs.map (Fg c l)) (min (xs.length:Int) 1)=iota xs.length
 bad:zc l (xs.map (Fg c l)) (iota xs.length)=false
 types:IH l (A9 (xs.map (Fg c l)) (iota xs.length))=ts
 bytes:cP c l (xs.map (Fg c l)) (iota xs.length)=cl c ts xs
theorem gR {c:List Al} {l:List C5} {ts:List ByteArray} {xs:List B9} (Ai:BM c=true) (hs:Bl c l=true) (h:Canon c (qC c l) ts xs):ACw c l ts xs:=by
 have hw:=h.scan.wis (l:=l) fun s hs=>(h.sym s hs).2; have hlen:(xs.map (Fg c l)).length=xs.length:=List.length_map _
 have JC:A9 (xs.map (Fg c l)) (iota xs.length)=xs.map (Fg c l):=by
  rw [←hlen]; exact gQ _
 have vM:∀ x,x ∈ xs→AY l (Fg c l x)=x:=fun x hx=>by
  obtain ⟨ix,hi,_⟩:=hw x hx; exact (hi.back hs).1
 have Uk:IH l (xs.map (Fg c l))=ts:=by
  have h1:=h.scan.types h.nodup; rw [List.take_length,List.take_zero] at h1; unfold IH; rw [List.foldl_map]
  have key:∀ (ys:List B9) (t:List ByteArray),(∀ x,x ∈ ys→x ∈ xs)→ys.foldl (fun t x=>CS t (AY l (Fg c l x)).type) t=ys.foldl (fun t x=>CS t x.type) t:=by
   intro ys
   induction ys with
   | nil=>intro t _; rfl
   | cons y ys ih =>
    intro t hy; rw [List.foldl_cons,List.foldl_cons,vM y (hy y (by simp)),ih _ fun x hx=>hy x (by simp [hx])]
  rw [key xs [] fun x hx=>hx]; exact h1
 have OZ:DT c (xs.map (Fg c l))<0:=by
  unfold DT; have:=h.len; rw [if_neg (by rw [hlen]; omega)]
  have hf:(xs.map (Fg c l)).findIdx? (fun x=>!Ao c x (xs.map (Fg c l)).length)=none:=by
   rw [List.findIdx?_eq_none_iff]; intro y hy; obtain ⟨x,hx,rfl⟩:=List.mem_map.1 hy; obtain ⟨ix,hi,_⟩:=hw x hx; have h1:=(hi.back hs).2.1; rw [hlen,h1]; rfl
  unfold RJ; rw [hf]; simp
 refine ⟨?_,?_,?_,?_,?_⟩
 ·unfold HR Lj; rw [Ai,hs]; simp only [if_true]; rw [if_neg (by simp),if_neg (by omega),if_neg]; rw [hlen]; omega
 ·unfold Ax
  have EB:start (min (xs.length:Int) 1)=iota (min xs.length 1):=by
   unfold start
   by_cases h0:xs.length=0
   ·rw [h0]; rfl
   ·rw [if_pos (by omega),show min (xs.length:Int) 1=1 by omega,show min xs.length 1=1 by omega]; rfl
  rw [EB,hlen]; refine h.scan.search fun j x hx=>?_; unfold Gw; rw [show (((0+j:Nat):Int)+1-1).toNat=j by omega,List.getElem?_map,hx]; simp only [Option.map_some]; rw [vM x (List.mem_of_getElem? hx)]
 ·unfold zc; rw [JC]; refine List.any_eq_false.2 fun y hy=>?_; obtain ⟨x,hx,rfl⟩:=List.mem_map.1 hy; obtain ⟨ix,hi,_⟩:=hw x hx; have h1:=(hi.back hs).2.2; unfold lK at h1; rw [List.find?_eq_none] at h1; have:(l.any fun s=>decide (s.to=(Fg c l x).type))=false:=List.any_eq_false.2 fun s O'=>h1 s O'; rw [this]; simp
 ·rw [JC,Uk]
 ·unfold cP cl; rw [JC,Uk,Lu]; congr 1; rw [List.flatMap_map]
  have key:∀ (ys:List B9),(∀ x,x ∈ ys→x ∈ xs)→ys.flatMap (fun x=>S7 c ts (iota xs.length) (AY l (Fg c l x)))=ys.flatMap (Z5 c ts):=by
   intro ys
   induction ys with
   | nil=>intro _; rfl
   | cons y ys ih =>
    intro hy; obtain ⟨ix,_,he⟩:=hw y (hy y (by simp)); rw [List.flatMap_cons,List.flatMap_cons,vM y (hy y (by simp)),he,ih fun x hx=>hy x (by simp [hx])]
  exact key xs fun x hx=>hx
end Go.Ce
namespace Go.Ce
open Go Go.Proofs Go.Proofs.Tryz
theorem qH (o:List Int) (v:Int):o <+: visit o v:=by
 unfold visit
 split
 ·exact List.prefix_append _ _
 ·exact List.prefix_refl _
theorem Xu:∀ (vs o:List Int),o <+: vs.foldl visit o
 | [],o=>List.prefix_refl _
 | v::vs,o=>(qH o v).trans (Xu vs _)
theorem Mb (refs:Int→List Int):∀ (m:Nat) (o:List Int) (n:Nat),o <+: C2 refs m o n
 | 0,o,_=>List.prefix_refl _
 | m+1,o,n=>by
  unfold C2
  split
  ·exact List.prefix_refl _
  ·exact (Xu _ _).trans (Mb refs m _ _)
theorem Xv {n:Nat}:∀ (vs o:List Int),Found o n→(∀ v,v ∈ vs→v≤n)→Found (vs.foldl visit o) n
 | [],o,h,_=>h
 | v::vs,o,h,hv=>Xv vs _ (h.visit (hv v (by simp))) fun w hw=>hv w (by simp [hw])
theorem Rz {refs:Int→List Int} {n:Nat} (hr:∀ v w,w ∈ refs v→w≤n):∀ (m:Nat) (o:List Int) (k:Nat),Found o n→Found (C2 refs m o k) n
 | 0,o,_,h=>h
 | m+1,o,k,h=>by
  unfold C2
  split
  ·exact h
  ·exact Rz hr m _ _ (Xv _ _ h fun w hw=>hr _ w hw)
theorem TM {o O:List Int} (h:o <+: O) {v:Int} (hv:v ∈ o):placeOf O v=placeOf o v:=by
 obtain ⟨r,rfl⟩:=h; unfold placeOf; rw [List.findIdx?_append]
 cases hf:o.findIdx? (fun x=>decide (x=v)) with
 | some i=>rfl
 | none =>
  rw [List.findIdx?_eq_none_iff] at hf; have:=hf v hv; simp at this
theorem lQ {o:List Int} {v:Int}:placeOf o v≤o.length:=(XY o v).2
def KE (c:List Al) (ix:Nat) (O:List Int):Nat→List Int→List Int
 | _,[]=>[]
 | k,v::vs=>(if A4 c ix k=2 then placeOf O v else v)::KE c ix O (k+1) vs
theorem Lv {c:List Al} {ix:Nat} {O:List Int}:∀ (vs:List Int) (k:Nat),(KE c ix O k vs).length=vs.length
 | [],_=>rfl
 | v::vs,k=>by rw [KE,List.length_cons,List.length_cons,Lv vs]
theorem Lw {c:List Al} {ix:Nat} {O:List Int}:∀ (vs:List Int) (k j:Nat),(KE c ix O k vs)[j]?=(vs[j]?).map fun v=>if A4 c ix (k+j)=2 then placeOf O v else v
 | [],_,_=>rfl
 | v::vs,k,0=>by rw [KE]; rfl
 | v::vs,k,j+1=>by
  rw [KE,List.getElem?_cons_succ,List.getElem?_cons_succ,Lw vs (k+1) j,show k+1+j=k+(j+1) by omega]
theorem gS {c:List Al} {ix:Nat} {O:List Int}:∀ (vs:List Int) (k:Nat),Eh (fun k v=>fo O (A4 c ix k) v) k vs=lL c ix k (KE c ix O k vs)
 | [],_=>rfl
 | v::vs,k=>by
  rw [Eh,KE,lL,gS vs (k+1),fo]
  by_cases hk:A4 c ix k=2
  ·simp only [if_pos hk]
  ·simp only [if_neg hk]
theorem PW {c:List Al} {ix:Nat} {O:List Int} (h0:(0:Int) ∉ O):∀ (vs:List Int) (k:Nat) (o:List Int),(∀ (j:Nat) v,vs[j]?=some v→A4 c ix (k+j)=2→0≤v)→(∀ (j:Nat) v,vs[j]?=some v→A4 c ix (k+j)≠2→-1000000000≤v∧v≤1000000000)→(Eh (PV c ix) k vs).foldl visit o <+: O→Lt c ix O.length k o.length (KE c ix O k vs) ((Eh (PV c ix) k vs).foldl visit o).length
 | [],k,o,_,_,_=>.nil _ _
 | v::vs,k,o,h1,h2,hp=>by
  have n1:∀ (j:Nat) w,vs[j]?=some w→A4 c ix (k+1+j)=2→0≤w:=fun j w hw hk=>h1 (j+1) w hw (by rw [show k+(j+1)=k+1+j by omega]; exact hk); have n2:∀ (j:Nat) w,vs[j]?=some w→A4 c ix (k+1+j)≠2→-1000000000≤w∧w≤1000000000:=fun j w hw hk=>h2 (j+1) w hw (by rw [show k+(j+1)=k+1+j by omega]; exact hk)
  by_cases hk:A4 c ix k=2
  ·have hs:(Eh (PV c ix) k (v::vs)).foldl visit o=(Eh (PV c ix) (k+1) vs).foldl visit (visit o v):=by
    rw [Eh,PV,if_pos hk,List.foldl_append]; rfl
   rw [hs] at hp ⊢; have ih:=PW h0 vs (k+1) (visit o v) n1 n2 hp; have wP:visit o v <+: O:=(Xu _ _).trans hp; have ACx:=wP.length_le; have zC:=h1 0 v rfl hk; rw [KE,if_pos hk]; have hnn:=(XY O v).1; have AGI:placeOf O v=((placeOf O v).toNat:Int):=by omega
   rw [AGI]
   by_cases hn:0<v∧v ∉ o
   ·have ACy:visit o v=o++[v]:=by unfold visit; rw [if_pos hn]
    rw [ACy] at wP ih ACx ⊢
    have qq:placeOf O v=o.length+1:=by
     rw [TM wP (by simp),Nj hn.2,if_pos rfl]
    rw [List.length_append,List.length_singleton] at ih ACx; refine .ref hk (by omega) ?_; rw [show max o.length (placeOf O v).toNat=o.length+1 by omega]; exact ih
   ·have ACy:visit o v=o:=by unfold visit; rw [if_neg hn]
    rw [ACy] at wP ih ACx ⊢
    have qq:placeOf O v≤o.length:=by
     by_cases kH:v ∈ o
     ·rw [TM wP kH]; exact lQ
     ·have:v=0:=by
       by_cases hz:0<v
       ·exact (hn ⟨hz,kH⟩).elim
       ·omega
      subst this; rw [FN h0]; omega
    refine .ref hk (by omega) ?_; rw [show max o.length (placeOf O v).toNat=o.length by omega]; exact ih
  ·have hs:(Eh (PV c ix) k (v::vs)).foldl visit o=(Eh (PV c ix) (k+1) vs).foldl visit o:=by
    rw [Eh,PV,if_neg hk]; rfl
   rw [hs] at hp ⊢; obtain ⟨b1,b2⟩:=h2 0 v rfl hk; rw [KE,if_neg hk]; exact .word hk b1 b2 (PW h0 vs (k+1) o n1 n2 hp)
end Go.Ce
namespace Go.Ce
open Go Go.Proofs Go.Proofs.Tryz
theorem gT (t:List ByteArray) (s:ByteArray):t <+: CS t s:=by
 unfold CS
 split
 ·exact List.prefix_refl _
 ·exact List.prefix_append _ _
theorem R0 {α:Type} (f:α→ByteArray):∀ (xs:List α) (t:List ByteArray),t <+: xs.foldl (fun t x=>CS t (f x)) t
 | [],t=>List.prefix_refl _
 | x::xs,t=>(gT t (f x)).trans (R0 f xs _)
theorem O2 {t:List ByteArray} (h:t.Nodup) (s:ByteArray):(CS t s).Nodup:=by
 unfold CS
 split
 ·exact h
 ·rename_i hn; rw [List.nodup_append]; refine ⟨h,List.pairwise_singleton _ _,fun x hx y hy=>?_⟩; rw [List.mem_singleton.1 hy]; rintro rfl; exact hn (List.any_eq_true.2 ⟨x,hx,by simp⟩)
theorem No {α:Type} (f:α→ByteArray):∀ (xs:List α) (t:List ByteArray),t.Nodup→(xs.foldl (fun t x=>CS t (f x)) t).Nodup
 | [],t,h=>h
 | x::xs,t,h=>No f xs _ (O2 h _)
theorem cq {α:Type} {a b:List α} (h:a <+: b) {i:Nat} {x:α} (hx:a[i]?=some x):b[i]?=some x:=by
 obtain ⟨r,rfl⟩:=h; rw [List.getElem?_append_left (List.getElem?_eq_some_iff.1 hx).1]; exact hx
def TN (c:List Al) (O:List Int) (y:B9):B9:=match BL c y.type with
 | some ix=>⟨y.type,KE c ix O 0 y.AH⟩
 | none=>y
def By (c:List Al) (l:List C5) (h:List B9) (O:List Int):List B9:=(A9 h O).map fun x=>TN c O (AY l x)
theorem ACz {c:List Al} {y:B9} {n i:Nat} {s:Al} (Y:UI c y n i s):if elemAt c i≠0 then y.AH.length≤200 else y.AH.length=(Ap c i).length:=by
 have hm:=Y.many; unfold Dd at hm; have he:elemAt c i=s.elem:=by unfold elemAt; rw [Y.si]
 rw [he]
 split
 ·rename_i h; rw [if_pos h] at hm; simpa using hm
 ·rename_i h; rw [if_neg h] at hm; simpa using hm
theorem Np {h:List B9} {v:Int} {x:B9} (hx:h[(v-1).toNat]?=some x) (r:List Int):A9 h (v::r)=x::A9 h r:=by
 unfold A9; rw [List.flatMap_cons,hx]; rfl
theorem Xw {h:List B9} {O:List Int} (hO:Found O h.length) {v:Int} (hv:v ∈ O):∃ x,h[(v-1).toNat]?=some x:=by
 have h1:=hO.low v hv; have h2:=hO.high v hv; exact ⟨_,List.getElem?_eq_getElem (by omega)⟩
theorem GF {h:List B9} {N:Nat} (hN:N=h.length):∀ {O:List Int},(∀ v,v ∈ O→0<v∧v≤N)→(A9 h O).length=O.length
 | [],_=>rfl
 | v::O,hO=>by
  have hv:=hO v (by simp); have hx:=List.getElem?_eq_getElem (show (v-1).toNat<h.length by omega); rw [Np hx,List.length_cons,List.length_cons,GF hN fun w hw=>hO w (by simp [hw])]
theorem O3 {c:List Al} {l:List C5} {h:List B9} {O:List Int} {ts:List ByteArray} (Ai:BM c=true) (hs:Bl c l=true) (JC:∀ x,x ∈ h→Ao c x h.length=true) (hO:Found O h.length):∀ (m n:Nat) (o:List Int) (T:List ByteArray),n+m=h.length→T.Nodup→C2 (Gw c l h) m o n=O→(A9 h (O.drop n)).foldl (fun t x=>CS t (AY l x).type) T=ts→Ht c ts O.length n T.length o.length ((A9 h (O.drop n)).map fun x=>TN c O (AY l x)) ts.length O.length
 | 0,n,o,T,hn,hT,j7,M'=>by
  have j7:o=O:=j7; subst j7; have:=hO.len; rw [List.drop_of_length_le (by omega)] at M' ⊢; have M':T=ts:=M'; subst M'; exact .nil _ _ _
 | m+1,n,o,T,hn,hT,j7,M'=>by
  have A0:=Mb (Gw c l h) (m+1) o n; rw [j7] at A0
  cases vN:o[n]? with
  | none =>
   rw [C2,vN] at j7; have j7:o=O:=j7; subst j7; rw [List.drop_of_length_le (List.getElem?_eq_none_iff.1 vN)] at M' ⊢; have M':T=ts:=M'; subst M'; exact .nil _ _ _
  | some v =>
   rw [C2,vN] at j7; simp only at j7; have K2:=(List.getElem?_eq_some_iff.1 vN).1; have hOn:=cq A0 vN; obtain ⟨hOl,hOe⟩:=List.getElem?_eq_some_iff.1 hOn; have hvO:v ∈ O:=List.mem_of_getElem? hOn; obtain ⟨x,hx⟩:=Xw hO hvO; have V_:O.drop n=v::O.drop (n+1):=by rw [List.drop_eq_getElem_cons hOl,hOe]
   rw [V_,Np hx] at M' ⊢; rw [List.foldl_cons] at M'; rw [List.map_cons]; obtain ⟨ix,s,Y⟩:=C_ (Fh hs (JC x (List.mem_of_getElem? hx)))
   have hrefs:Gw c l h v=Eh (PV c ix) 0 (AY l x).AH:=by
    unfold Gw; rw [hx]; simp only; unfold refsOf; rw [Y.ti]; exact Z8 c ix _
   have zu:=Mb (Gw c l h) m ((Gw c l h v).foldl visit o) (n+1); rw [j7] at zu
   have hV:=PW (c:=c) (ix:=ix) (O:=O) (fun hz=>by have:=hO.low 0 hz; omega) (AY l x).AH 0 o
    (fun j w hw hk=>by
     rw [Nat.zero_add] at hk
     rcases Nl Ai Y hw with h1 | h1
     ·exact h1.2.1
     ·rw [h1.1] at hk; cases hk)
    (fun j w hw hk=>by
     rw [Nat.zero_add] at hk
     rcases Nl Ai Y hw with h1 | h1
     ·exact (hk h1.1).elim
     ·exact h1.2)
    (by rw [←hrefs]; exact zu)
   rw [←hrefs] at hV; have ih:=O3 Ai hs JC hO m (n+1) ((Gw c l h v).foldl visit o) (CS T (AY l x).type) (by omega) (O2 hT _) j7 M'; have yX:CS T (AY l x).type <+: ts:=by rw [←M']; exact R0 _ _ _
   have CR:TN c O (AY l x)=⟨(AY l x).type,KE c ix O 0 (AY l x).AH⟩:=by unfold TN; rw [Y.ti]
   rw [CR]; have hmn:=ACz Y; have yv:if elemAt c ix≠0 then (KE c ix O 0 (AY l x).AH).length≤200 else (KE c ix O 0 (AY l x).AH).length=(Ap c ix).length:=by rw [Lv]; exact hmn
   by_cases ha:T.any (fun y=>decide (y=(AY l x).type))=true
   ·have AC0:CS T (AY l x).type=T:=by unfold CS; rw [if_pos ha]
    rw [AC0] at ih yX; obtain ⟨y,hy,hye⟩:=List.any_eq_true.1 ha; have hye:y=(AY l x).type:=of_decide_eq_true hye; obtain ⟨t,ht⟩:=List.getElem?_of_mem hy; have kB:=(List.getElem?_eq_some_iff.1 ht).1; refine .cons (t:=t) (ix:=ix) K2 (by show ts[t]?=some _; rw [cq yX ht,hye]) (by omega) Y.ti yv hV ?_; rw [if_neg (by omega)]; exact ih
   ·have AC0:CS T (AY l x).type=T++[(AY l x).type]:=by unfold CS; rw [if_neg ha]
    rw [AC0] at ih yX; rw [List.length_append,List.length_singleton] at ih; refine .cons (t:=T.length) (ix:=ix) K2 (by show ts[T.length]?=some _; exact cq yX (by simp)) (Nat.le_refl _) Y.ti yv hV ?_; rw [if_pos rfl]; exact ih
theorem AC1 {c:List Al} (Ai:BM c=true) {s:ByteArray} {i:Nat} (h:BL c s=some i):Gu s=true:=by
 have IX:=Dm h; obtain ⟨h1,h2,_⟩:=List.findIdx?_eq_some_iff_getElem.1 h; unfold BM at Ai; simp only [Bool.and_eq_true,Bool.not_eq_true'] at Ai; have hb:=Ew Ai.2.1 IX; unfold A8 at hb; rw [List.getElem?_eq_getElem IX] at hb; simp only [Bool.or_eq_false_iff,Bool.not_eq_false'] at hb; rw [←of_decide_eq_true h2]; exact hb.1.1
theorem gU {c:List Al} {l:List C5} (hs:Bl c l=true) {x:B9}:H8 l (AY l x).type=none:=by
 unfold AY
 cases Je:H8 l x.type with
 | none=>exact Je
 | some s =>
  show H8 l s.to=none; unfold H8; rw [List.find?_eq_none]; intro y hy
  have yI:s ∈ l:=by
   obtain ⟨i,hi,_⟩:=PR Je; exact List.mem_of_getElem? hi
  have:=zt hs yI hy
  simpa using this
theorem HO {c:List Al} {l:List C5} {h:List B9} {root:Int} (hz:HR c l h root=0) (YI:h.length≤40):Canon c (qC c l) (IH l (A9 h (Ax c l h root))) (By c l h (Ax c l h root))∧cP c l h (Ax c l h root)=cl c (IH l (A9 h (Ax c l h root))) (By c l h (Ax c l h root))∧Found (Ax c l h root) h.length∧start root <+: Ax c l h root:=by
 obtain ⟨Ai,hs,Uo,wN,SJ⟩:=GL hz; obtain ⟨Lx,JC⟩:=D5 Uo; have hF:Found (Ax c l h root) h.length:=Rz (fun v w hw=>(nV Ai hs JC w hw).2) _ _ _ (Found.start SJ); have A0:start root <+: Ax c l h root:=Mb _ _ _ _; have yq:Ax c l h root=C2 (Gw c l h) h.length (start root) 0:=rfl; generalize hO:Ax c l h root=O at hF A0 yq ⊢; have hlen:=GF rfl fun v hv=>⟨hF.low v hv,hF.high v hv⟩
 have hol:=hF.len
 have AGJ:∀ x,x ∈ A9 h O→Ao c x h.length=true:=fun x hx=>by
  unfold A9 at hx; obtain ⟨v,_,hv⟩:=List.mem_flatMap.1 hx
  cases hg:h[(v-1).toNat]? with
  | none=>rw [hg] at hv; cases hv
  | some y=>rw [hg] at hv; rw [List.mem_singleton.1 hv]; exact JC _ (List.mem_of_getElem? hg)
 have a7:(IH l (A9 h O)).Nodup:=No _ _ _ List.nodup_nil
 refine ⟨⟨?_,fun s O'=>?_,a7,?_,?_⟩,?_,hF,A0⟩
 ·have h1:=Zj l (A9 h O) []; unfold IH; simp only [List.length_nil] at h1; omega
 ·rcases XZ l (A9 h O) [] O' with h' | ⟨x,hx,rfl⟩
  ·cases h'
  ·obtain ⟨i,s,Y⟩:=C_ (Fh hs (AGJ x hx)); refine ⟨AC1 Ai Y.ti,?_⟩; have:=gU hs (x:=x); unfold H8 at this; unfold qC; rw [Y.ti,this]; rfl
 ·unfold By; rw [List.length_map]; omega
 ·have:=O3 (ts:=IH l (A9 h O)) Ai hs JC hF h.length 0 (start root) [] (by omega) List.nodup_nil yq.symm (by rw [List.drop_zero]; rfl); rw [List.drop_zero] at this; have e1:(By c l h O).length=O.length:=by unfold By; rw [List.length_map,hlen]
  have e2:(start root).length=min O.length 1:=by
   have hle:=A0.length_le
   by_cases h0:root>0
   ·have:(start root).length=1:=by unfold start; rw [if_pos h0]; rfl
    omega
   ·have EB:start root=[]:=by unfold start; rw [if_neg h0]
    rw [EB] at yq
    have:O=[]:=by
     rw [yq]
     cases h.length with
     | zero=>rfl
     | succ m=>rfl
    rw [EB,this]; rfl
  rw [e1,←e2]; exact this
 ·unfold cP cl; have e1:(By c l h O).length=O.length:=by unfold By; rw [List.length_map,hlen]
  rw [e1]; congr 1; unfold By; rw [List.flatMap_map]
  have key:∀ (ys:List B9),(∀ x,x ∈ ys→x ∈ A9 h O)→ys.flatMap (fun x=>S7 c (IH l (A9 h O)) O (AY l x))=ys.flatMap (fun x=>Z5 c (IH l (A9 h O)) (TN c O (AY l x))):=by
   intro ys
   induction ys with
   | nil=>intro _; rfl
   | cons y ys ih =>
    intro hy; rw [List.flatMap_cons,List.flatMap_cons,ih fun x hx=>hy x (by simp [hx])]; congr 1; obtain ⟨i,s,Y⟩:=C_ (Fh hs (AGJ y (hy y (by simp)))); unfold TN; rw [Y.ti]; unfold S7 Z5; simp only; rw [Y.ti]; simp only; rw [Z9,gS,Lv]
  exact key _ fun x hx=>hx
end Go.Ce
namespace Go.Ce
open Go Go.Proofs Go.Proofs.Tryz
end Go.Ce
namespace Go.Ce
open Go Go.Proofs Go.Proofs.Tryz
end Go.Ce
namespace Go.Ce
section
variable {P:Program}
def P4 (P:Program) (W:CW) (t:TypeId) (v:Value):Prop:=∃ m,CT P m t W [v]
theorem P4.int {W:CW} {t:TypeId} {k:IntKind} {v:Value} (ht:P.underlying t=some (.int k)) (h:P4 P W t v):∃ x,v=.int k x∧(Lit.int k x).wf=true:=by
 obtain ⟨m,h⟩:=h
 cases m with
 | zero=>exact h.elim
 | succ m =>
  simp only [CT,ht] at h; obtain ⟨x,hx,hw⟩:=h
  cases hx
  exact ⟨x,rfl,hw⟩
theorem P4.string {W:CW} {t:TypeId} {v:Value} (ht:P.underlying t=some .string) (h:P4 P W t v):∃ x:ByteArray,v=.string x∧x.size≤maxLen:=by
 obtain ⟨m,h⟩:=h
 cases m with
 | zero=>exact h.elim
 | succ m =>
  simp only [CT,ht] at h; obtain ⟨x,hx,hw⟩:=h
  cases hx
  exact ⟨x,rfl,hw⟩
theorem P4.slice {W:CW} {t e:TypeId} {v:Value} (ht:P.underlying t=some (.slice e)) (h:P4 P W t v):v=.slice none 0 0∨v=.slice (some ⟨0,0,some 0⟩) 0 0∨∃ k len cap f m,v=.slice (some ⟨k,0,none⟩) len cap∧0<cap∧len≤cap∧cap≤maxLen ∧
  W.obj k=some (.fixed f (len*P.cellsOf e) e)∧∀ i,i<len→CT P m e W (FF f (P.cellsOf e) (i*P.cellsOf e)):=by
 obtain ⟨m,h⟩:=h
 cases m with
 | zero=>exact h.elim
 | succ m =>
  simp only [CT,ht] at h
  rcases h with h | h | ⟨k,len,cap,f,h1,h2,h3,h4,h5,h6⟩
  ·cases h; exact .inl rfl
  ·cases h; exact .inr (.inl rfl)
  ·cases h1; exact .inr (.inr ⟨k,len,cap,f,m,rfl,h2,h3,h4,h5,h6⟩)
theorem wU.cons {W:CW} {t:TypeId} {ts:List TypeId} {vs:List Value} (h:wU P (t::ts) W vs):∃ cs vs',vs=O4 P t cs::vs'∧CT P 20 t W cs∧wU P ts W vs':=by
 cases vs with
 | nil=>exact h.elim
 | cons v vs =>
  obtain ⟨⟨cs,rfl,hc⟩,h2⟩:=h; exact ⟨cs,vs,rfl,hc,h2⟩
theorem wU.nil {W:CW} {vs:List Value} (h:wU P [] W vs):vs=[]:=by
 cases vs with
 | nil=>rfl
 | cons=>exact h.elim
end
end Go.Ce
namespace Go.Ce
open Go Go.Proofs Go.Proofs.Tryz
def Vr (P:Program) (t:TypeId):List (TypeId × Nat):=match P.underlying t with
 | some (.struct fs)=>fs.toList.map fun f=>(f.type,f.offset)
 | _=>[]
theorem Ly {P:Program} {m:Nat} {t ty:TypeId} {off n:Nat} {W:CW} {cs:List Value} (hm:(Vr P t).any (fun x=>Nat.beq x.1 ty && Nat.beq x.2 off)=true) (hn:P.cellsOf t=n) (h1:P.cellsOf ty=1) (ho:off<n) (h:CT P m t W cs):∃ v,cs[off]?=some v∧P4 P W ty v:=by
 cases m with
 | zero=>exact h.elim
 | succ m =>
  unfold Vr at hm; simp only [CT] at h
  split at hm
  ·rename_i fs hu; rw [hu] at h; obtain ⟨hl,hf⟩:=h; obtain ⟨x,hx,he⟩:=List.any_eq_true.1 hm; obtain ⟨f,hfm,rfl⟩:=List.mem_map.1 hx; simp only [Bool.and_eq_true] at he; have e1:f.type=ty:=Nat.eq_of_beq_eq_true he.1; have e2:f.offset=off:=Nat.eq_of_beq_eq_true he.2; have:=hf f hfm; rw [e1,e2,h1] at this; have Ae:off<cs.length:=by omega
   refine ⟨cs[off],List.getElem?_eq_getElem Ae,m,?_⟩; rw [List.drop_eq_getElem_cons Ae,List.take_succ_cons,List.take_zero] at this; exact this
  ·cases hm
theorem Xx (f:Nat→Value):∀ (m k j:Nat),j<m→(FF f m k)[j]?=some (f (k+j))
 | 0,k,j,h=>by omega
 | m+1,k,0,h=>rfl
 | m+1,k,j+1,h=>by
  unfold FF; rw [List.getElem?_cons_succ,Xx f m (k+1) j (by omega)]; congr 2; omega
theorem nX {α:Type} {Q:Nat→α→Prop}:∀ n:Nat,(∀ i,i<n→∃ x,Q i x)→∃ l:List α,l.length=n∧∀ i x,l[i]?=some x→Q i x
 | 0,_=>⟨[],rfl,fun i x h=>by simp at h⟩
 | n+1,h=>by
  obtain ⟨l,hl,hq⟩:=nX n fun i hi=>h i (by omega); obtain ⟨x,hx⟩:=h n (by omega); refine ⟨l++[x],by simp [hl],fun i y hy=>?_⟩
  by_cases hi:i<l.length
  ·rw [List.getElem?_append_left hi] at hy; exact hq i y hy
  ·rw [List.getElem?_append_right (by omega)] at hy
   have h0:i-l.length=0:=by
    cases hd:i-l.length with
    | zero=>rfl
    | succ k=>rw [hd] at hy; simp at hy
   rw [h0] at hy
   cases hy
   have:i=n:=by omega
   subst this; exact hx
theorem R3 {P:Program} {α:Type} {R:Nat→Nat→α→Prop} {t e:TypeId} {n:Nat} (ht:P.underlying t=some (.slice e)) (hn:P.cellsOf e=n) {W:CW} {v:Value} (h:P4 P W t v)
  (UR:∀ m cs k off,CT P m e W cs→(∀ j,j<n→W.cell k (off+j)=cs[j]?)→∃ x,R k off x):∃ l,AV n R v l∧OO W e v∧l.length≤maxLen:=by
 rcases h.slice ht with rfl | rfl | ⟨k,len,cap,f,m,rfl,h1,h2,h3,h4,h5⟩
 ·exact ⟨[],⟨none,0,rfl,fun i x hx=>by simp at hx⟩,fun a l c hv=>by cases hv; exact ⟨rfl,Nat.le_refl _⟩,Nat.zero_le _⟩
 ·exact ⟨[],⟨_,0,rfl,fun i x hx=>by simp at hx⟩,fun a l c hv=>by cases hv; exact ⟨rfl,Nat.le_refl _⟩,Nat.zero_le _⟩
 ·rw [hn] at h4 h5
  obtain ⟨l,hl,hq⟩:=nX (Q:=fun i x=>R k (i*n) x) len fun i hi=>UR m _ k (i*n) (h5 i hi) fun j hj=>by
   rw [Xx f n (i*n) j hj]; unfold CW.cell; rw [h4]
   have:i*n+j<len*n:=by
    have:(i+1)*n≤len*n:=Nat.mul_le_mul_right _ hi; rw [Nat.succ_mul] at this; omega
   simp only [if_pos this]
  refine ⟨l,⟨_,cap,by rw [hl],fun i x hx=>⟨_,rfl,by simpa using hq i x hx⟩⟩,fun a l c hv=>?_,by omega⟩
  cases hv
  refine ⟨?_,h2⟩; simp [Vt,h4]
theorem wf_i64 {x:Int} (h:(Lit.int .i64 x).wf=true):-9223372036854775808≤x∧x≤9223372036854775807:=by
 simp only [Lit.wf,Bool.and_eq_true,decide_eq_true_eq] at h; have h1:IntKind.i64.min=-9223372036854775808:=by rfl
 have h2:IntKind.i64.max=9223372036854775807:=by rfl
 omega
theorem wf_u8 {x:Int} (h:(Lit.int .u8 x).wf=true):0≤x∧x<256:=by
 simp only [Lit.wf,Bool.and_eq_true,decide_eq_true_eq] at h; have h1:IntKind.u8.min=0:=by rfl
 have h2:IntKind.u8.max=255:=by rfl
 omega
section
variable {W:CW} {m:Nat} {cs:List Value} {k off:Nat}
theorem u46:∃ e,prog.underlying 46=some (.slice e):=⟨match prog.underlying 46 with | some (.slice e)=>e | _=>0,by kernel_rfl⟩
theorem c3:prog.cellsOf 3=1:=by kernel_rfl
theorem c5:prog.cellsOf 5=1:=by kernel_rfl
theorem c9:prog.cellsOf 9=1:=by kernel_rfl
theorem c40:prog.cellsOf 40=1:=by kernel_rfl
theorem c45:prog.cellsOf 45=1:=by kernel_rfl
theorem c46:prog.cellsOf 46=1:=by kernel_rfl
theorem c48:prog.cellsOf 48=5:=by kernel_rfl
theorem c56:prog.cellsOf 56=2:=by kernel_rfl
theorem c58:prog.cellsOf 58=3:=by kernel_rfl
theorem c72:prog.cellsOf 72=2:=by kernel_rfl
theorem ut3:prog.underlying 3=some (.int .i64):=by kernel_rfl
theorem ut5:prog.underlying 5=some (.int .u8):=by kernel_rfl
theorem gV {v:Value} (h:P4 prog W 40 v):∃ l,AV 1 (Dx W) v l∧OO W 3 v∧l.length≤maxLen :=
 R3 FJ c3 h fun m cs k off hc hj=>by
  cases m with
  | zero=>exact hc.elim
  | succ m =>
   simp only [CT,ut3] at hc; obtain ⟨x,rfl,hw⟩:=hc; exact ⟨x,by have:=hj 0 (by omega); simpa using this,wf_i64 hw⟩
theorem TO {n:Nat} {t:TypeId} {o:Nat} (hm:(Vr prog t).any (fun x=>Nat.beq x.1 9 && Nat.beq x.2 o)=true) (hn:prog.cellsOf t=n) (ho:o<n) (hc:CT prog m t W cs) (hj:∀ j,j<n→W.cell k (off+j)=cs[j]?):∃ s:ByteArray,W.cell k (off+o)=some (.string s):=by
 obtain ⟨v,hv,hl⟩:=Ly hm hn c9 ho hc; obtain ⟨s,rfl,_⟩:=hl.string u9; exact ⟨s,(hj o ho).trans hv⟩
theorem zv {n:Nat} {t:TypeId} {o:Nat} (hm:(Vr prog t).any (fun x=>Nat.beq x.1 5 && Nat.beq x.2 o)=true) (hn:prog.cellsOf t=n) (ho:o<n) (hc:CT prog m t W cs) (hj:∀ j,j<n→W.cell k (off+j)=cs[j]?):∃ x:Int,W.cell k (off+o)=some (.int .u8 x)∧0≤x∧x<256:=by
 obtain ⟨v,hv,hl⟩:=Ly hm hn c5 ho hc; obtain ⟨x,rfl,hw⟩:=hl.int ut5; exact ⟨x,(hj o ho).trans hv,wf_u8 hw⟩
theorem vO {v:Value} (h:P4 prog W 45 v):∃ l,AV 2 (Su W) v l∧OO W 72 v∧l.length≤maxLen :=
 R3 Yd c72 h fun m cs k off hc hj=>by
  obtain ⟨s,h0⟩:=TO (o:=0) (by kernel_rfl) c72 (by omega) hc hj; obtain ⟨x,h1,h2,h3⟩:=zv (o:=1) (by kernel_rfl) c72 (by omega) hc hj; exact ⟨⟨s,x⟩,h0,h1,h2,h3⟩
theorem rL {v:Value} (h:P4 prog W 22 v):∃ l,AV 5 (Dc W) v l∧OO W 48 v∧l.length≤maxLen :=
 R3 R_ c48 h fun m cs k off hc hj=>by
  obtain ⟨s,h0⟩:=TO (o:=0) (by kernel_rfl) c48 (by omega) hc hj; obtain ⟨s2,h1⟩:=TO (o:=1) (by kernel_rfl) c48 (by omega) hc hj; obtain ⟨v2,gy,NI⟩:=Ly (ty:=45) (off:=2) (by kernel_rfl) c48 c45 (by omega) hc; obtain ⟨fs,rE,_⟩:=vO NI; obtain ⟨x,h3,h4,h5⟩:=zv (o:=3) (by kernel_rfl) c48 (by omega) hc hj; obtain ⟨v4,hv4,hl4⟩:=Ly (ty:=46) (off:=4) (by kernel_rfl) c48 c46 (by omega) hc; obtain ⟨e,he⟩:=u46
  have hb:∃ a l k,v4=.slice a l k:=by
   rcases hl4.slice he with rfl | rfl | ⟨k,len,cap,f,m,rfl,_⟩ <;> exact ⟨_,_,_,rfl⟩
  obtain ⟨a,l,c,rfl⟩:=hb; exact ⟨⟨s,s2,fs,x⟩,h0,h1,⟨v2,(hj 2 (by omega)).trans gy,rE⟩,h3,⟨a,l,c,(hj 4 (by omega)).trans hv4⟩,h4,h5⟩
theorem rM {v:Value} (h:P4 prog W 23 v):∃ l,AV 3 (Ho W) v l∧OO W 58 v∧l.length≤maxLen :=
 R3 Uq c58 h fun m cs k off hc hj=>by
  obtain ⟨s,h0⟩:=TO (o:=0) (by kernel_rfl) c58 (by omega) hc hj; obtain ⟨s2,h1⟩:=TO (o:=1) (by kernel_rfl) c58 (by omega) hc hj; obtain ⟨v2,gy,NI⟩:=Ly (ty:=40) (off:=2) (by kernel_rfl) c58 c40 (by omega) hc; obtain ⟨fs,rE,Ai,_⟩:=gV NI; exact ⟨⟨s,s2,fs⟩,h0,h1,⟨v2,(hj 2 (by omega)).trans gy,rE,Ai⟩⟩
theorem de {v:Value} (h:P4 prog W 24 v):∃ l,AV 2 (Ek W) v l∧OO W 56 v∧l.length≤maxLen :=
 R3 P3 c56 h fun m cs k off hc hj=>by
  obtain ⟨s,h0⟩:=TO (o:=0) (by kernel_rfl) c56 (by omega) hc hj; obtain ⟨v2,gy,NI⟩:=Ly (ty:=40) (off:=1) (by kernel_rfl) c56 c40 (by omega) hc; obtain ⟨fs,rE,_⟩:=gV NI; exact ⟨⟨s,fs⟩,h0,⟨v2,(hj 1 (by omega)).trans gy,rE⟩⟩
end
end Go.Ce
namespace Go.Ce
open Go Go.Proofs Go.Proofs.Tryz
def TQ (ro:Option Nat) (K:AB):AB:=AW (fun e ds W=>K .ret e ds W) K
def ct (ro:Option Nat) (K:AB):AB:=AW (fun a b c=>HK 22 a c fun d=>HY .leq d 12 fun f=>let d:=BO 73 f 72 f 71 d 70 (BS a); EW f (TQ ro K) a 2 (Wi 82 true 81 undef (Ix 73 Bs 80 79 78 (A_ 77 73 76 75 74 d))) b c (HK 22 a c fun f=>DF f 100 fun g=>let d:=jK 77 g 73 false 76 (KY 75 f 73 74 a d); CB g (HK 22 a c fun f=>HY .leq f 102 fun g=>D8 (TQ ro K) a 2 g 82 (bN 81 g 73 false 80 g 77 true (Bo 79 f 77 78 (BS a) d)) b c) (TQ ro K) a (Hy 2 DX 82 (BG 81 73 80 77 79 78 d)) b c)) K
def Xy:=by
 have h:=@ct.eq_1; dsimp at h; exact h
def AGK (v0:Value) (K:AB) (W:CW):=by
 have h:GO 13 83 v0 W K=GS 13 83 (Dg v0) (Gr 3 A5 2) W (ct none K):=by kernel_rfl
 dsimp at h; exact h
def lR (ro:Option Nat) (K:AB):AB:=AW (fun a b c=>Bc a 3 fun d=>CQ K a 3 d 14 13 b c) K
def Xz:=by
 have h:=@lR.eq_1; dsimp at h; exact h
def cu (ro:Option Nat) (K:AB):AB:=GR (fun a b c=>Gl ro 13 83 1 a (F_ 4 A5) b c 2 (CL 1 (lR ro K))) (lR ro K)
def gW:=by
 have h:=@cu.eq_1; dsimp at h; exact h
def TR (ro:Option Nat) (K:AB):AB:=AW (fun e ds W=>wI (e 48) ((cu ro K) .ret (Env.of e [(2,(.bool false))]) ds W) ((cu ro K) .normal e ds W)) (cu ro K)
def cw (ro:Option Nat) (K:AB):AB:=AW (fun a b c=>Fy 22 a 0 3 fun d=>CO d 0 fun f=>BA f c fun g=>DD 9 g c fun h=>DF h 70 fun i=>let d:=FA 22 i 21 20 h 19 g (BQ 18 f 17 d 16 a 3 15 []); EW i (TR ro K) a 48 (EK 47 40 46 45 (A_ 44 40 43 42 41 (Gq 40 true 39 38 undef 31 37 31 36 (A_ 35 31 34 33 32 (Gq 31 true 30 29 undef 22 28 22 27 (A_ 26 22 25 24 23 d)))))) b c (Fy 22 a 0 3 fun f=>CO f 1 fun g=>BA g c fun h=>DD 9 h c fun i=>DF i 70 fun j=>let d:=Db 31 j 30 (Ds 29 j 22 28 i 27 h (BJ 26 g 22 25 f (KY 24 (Ef a) 22 23 a d))); EW j (TR ro K) a 48 (EK 47 40 46 45 (A_ 44 40 43 42 41 (Gq 40 true 39 38 undef 31 37 31 36 (A_ 35 31 34 33 32 d)))) b c (Fy 22 a 0 3 fun f=>CO f 2 fun g=>BI 45 g c fun h=>DD 45 h c fun i=>DF i 24 fun j=>let d:=Db 40 j 39 (Ds 38 j 31 37 i 36 h (BJ 35 g 31 34 f (KY 33 (Ef a) 31 32 a d))); EW j (TR ro K) a 48 (EK 47 40 46 45 (A_ 44 40 43 42 41 d)) b c (Fy 22 a 0 3 fun f=>CO f 4 fun g=>BI 46 g c fun h=>DD 46 h c fun i=>DF i 20 fun j=>Dh (TR ro K) a 48 j (Ds 47 j 40 46 i 45 h (BJ 44 g 40 43 f (KY 42 (Ef a) 40 41 a d))) b c)))) K
def X0:=by
 have h:=@cw.eq_1; dsimp at h; exact h
def cy (ro:Option Nat) (K:AB):AB:=AW (fun e ds W=>wI (e 12) ((cw ro K) .normal e ds W) ((cw ro K) (.exit 0) e ds W)) (cw ro K)
def AC2 (ro:Option Nat) (e:Env) (ds:List Deferred) (K:AB) (W:CW):=by
 have h:C9 ro 13 83 e ds W K=HK 22 e W fun a=>FU e 3 a fun b=>let a:=eC 9 b (DG 8 b 7 a 6 e 0 5 3); CB b (NN .lss 3 e 3 103 fun b=>Dh (cy ro K) e 12 b (Bo 11 b 9 10 (Ef e) a) ds W) (cy ro K) e (EU 12 (Ia 11 9 10 a)) ds W:=by kernel_rfl
 dsimp at h; exact h
def lS (ro:Option Nat) (K:AB):AB:=AW (fun a b c=>Bc a 4 fun d=>CQ K a 4 d 58 57 b c) K
def gX:=by
 have h:=@lS.eq_1; dsimp at h; exact h
def AC3 (ro:Option Nat) (e:Env) (ds:List Deferred) (K:AB) (W:CW):=by
 have h:Fu ro 13 83 1 e ds W K=Fy 22 e 0 3 fun a=>CO a 2 fun b=>BI 45 b W fun c=>DD 45 c W fun d=>FU e 4 d fun f=>let a:=Bh 56 f 55 d 54 c 53 b (DG 52 a 51 (Ef e) 50 e 0 49 4); ON f (Fy 22 e 0 3 fun b=>CO b 2 fun c=>BI 45 c W fun d=>Mh 45 d (H4 e) fun f=>JH 72 f 0 fun g=>BA g W fun h=>DD 9 h W fun i=>DF i 70 fun j=>let a:=DO 69 j 68 i 67 h (Dl 66 g 65 f 64 e 4 63 d (BQ 62 c 61 b 60 e 3 59 a)); CB j (G_ (lS ro K) e (EU 2 a) ds W) (lS ro K) e a ds W) K 2 e a ds W:=by kernel_rfl
 dsimp at h; exact h
theorem qI (Q:Ending→CW→Prop) (e:Env) (W:CW):AJ prog Tryz.f13 Q .ret e [] W=Q (.returned (e 2)) W:=by kernel_rfl
def AGL {Q v0 W}:=Eo 13 83 [v0] Tryz.f13 Q W Tryz.func13 (by kernel_rfl)
def cz (ro:Option Nat) (K:AB):AB:=AW (fun a b c=>HK 23 a c fun d=>HY .leq d 22 fun f=>G_ K a (BO 2 f 41 f 40 d 39 (BS a)) b c) K
def vP:=by
 have h:=@cz.eq_1; dsimp at h; exact h
def AGM (v0:Value) (K:AB) (W:CW):=by
 have h:GO 14 42 v0 W K=GS 14 42 (Dg v0) (Gr 3 A5 2) W (cz none K):=by kernel_rfl
 dsimp at h; exact h
def c_ (ro:Option Nat) (K:AB):AB:=AW (fun a b c=>Bc a 3 fun d=>CQ K a 3 d 13 12 b c) K
def X1:=by
 have h:=@c_.eq_1; dsimp at h; exact h
def TS (ro:Option Nat) (K:AB):AB:=AW (fun e ds W=>wI (e 38) ((c_ ro K) .ret (Env.of e [(2,(.bool false))]) ds W) ((c_ ro K) .normal e ds W)) (CL 1 (c_ ro K))
def dA (ro:Option Nat) (K:AB):AB:=AW (fun a b c=>Hk a 0 3 fun d=>Et d 0 fun f=>BA f c fun g=>DD 9 g c fun h=>DF h 70 fun i=>let d:=FA 21 i 20 19 h 18 g (BQ 17 f 16 d 15 a 3 14 []); EW i (TS ro K) a 38 (EK 37 30 36 35 (A_ 34 30 33 32 31 (Gq 30 true 29 28 undef 21 27 21 26 (A_ 25 21 24 23 22 d)))) b c (Hk a 0 3 fun f=>Et f 1 fun g=>BA g c fun h=>DD 9 h c fun i=>DF i 70 fun j=>let d:=Db 30 j 29 (Ds 28 j 21 27 i 26 h (BJ 25 g 21 24 f (KY 23 (Ef a) 21 22 a d))); EW j (TS ro K) a 38 (EK 37 30 36 35 (A_ 34 30 33 32 31 d)) b c (Hk a 0 3 fun f=>Et f 2 fun g=>Bb g c fun h=>CP h c fun i=>DF i 70 fun j=>Dh (TS ro K) a 38 j (Ds 37 j 30 36 i 35 h (BJ 34 g 30 33 f (KY 32 (Ef a) 30 31 a d))) b c))) K
def X2:=by
 have h:=@dA.eq_1; dsimp at h; exact h
def dB (ro:Option Nat) (K:AB):AB:=AW (fun e ds W=>wI (e 11) ((dA ro K) .normal e ds W) ((dA ro K) (.exit 0) e ds W)) (dA ro K)
def AC4 (ro:Option Nat) (e:Env) (ds:List Deferred) (K:AB) (W:CW):=by
 have h:C9 ro 14 42 e ds W K=HK 23 e W fun a=>FU e 3 a fun b=>let a:=eC 8 b (DG 7 b 6 a 5 e 0 4 3); CB b (NN .lss 3 e 3 22 fun b=>Dh (dB ro K) e 11 b (Bo 10 b 8 9 (Ef e) a) ds W) (dB ro K) e (EU 11 (Ia 10 8 9 a)) ds W:=by kernel_rfl
 dsimp at h; exact h
theorem qJ (Q:Ending→CW→Prop) (e:Env) (W:CW):AJ prog Tryz.f14 Q .ret e [] W=Q (.returned (e 2)) W:=by kernel_rfl
def AGN {Q v0 W}:=Eo 14 42 [v0] Tryz.f14 Q W Tryz.func14 (by kernel_rfl)
def TU (ro:Option Nat) (K:AB):AB:=AW (fun e ds W=>K .ret e ds W) K
def lT (ro:Option Nat) (K:AB):AB:=AW (fun a b c=>HK 24 a c fun d=>HY .leq d 40 fun f=>let d:=BO 47 f 46 f 45 d 44 (BS a); EW f (TU ro K) a 2 (Wi 56 true 55 undef (Ix 47 Bs 54 53 52 (A_ 51 47 50 49 48 d))) b c (HK 24 a c fun f=>DF f 1000 fun g=>let d:=jK 51 g 47 false 50 (KY 49 f 47 48 a d); CB g (HK 24 a c fun f=>HY .leq f 1002 fun g=>D8 (TU ro K) a 2 g 56 (bN 55 g 47 false 54 g 51 true (Bo 53 f 51 52 (BS a) d)) b c) (TU ro K) a (Hy 2 DX 56 (BG 55 47 54 51 53 52 d)) b c)) K
def gY:=by
 have h:=@lT.eq_1; dsimp at h; exact h
def AGO (v0:Value) (K:AB) (W:CW):=by
 have h:GO 15 57 v0 W K=GS 15 57 (Dg v0) (Gr 3 A5 2) W (lT none K):=by kernel_rfl
 dsimp at h; exact h
def dC (ro:Option Nat) (K:AB):AB:=AW (fun a b c=>Bc a 3 fun d=>CQ K a 3 d 9 8 b c) K
def gZ:=by
 have h:=@dC.eq_1; dsimp at h; exact h
def TV (ro:Option Nat) (K:AB):AB:=AW (fun e ds W=>wI (e 43) ((dC ro K) .ret (Env.of e [(2,(.bool false))]) ds W) ((dC ro K) .normal e ds W)) (CL 1 (dC ro K))
def AC5 (ro:Option Nat) (e:Env) (ds:List Deferred) (K:AB) (W:CW):=by
 have h:C9 ro 15 57 e ds W K=HK 24 e W fun a=>FU e 3 a fun b=>let a:=DG 7 b 6 a 5 e 0 4 3; Di b (Fy 24 e 0 3 fun b=>Dr b 0 fun c=>BA c W fun d=>DD 9 d W fun f=>DF f 70 fun g=>let a:=FA 17 g 16 15 f 14 d (BQ 13 c 12 b 11 e 3 10 a); UB g (TV ro K) e (Wi 43 true 42 undef (Wl 35 41 40 (Wl 35 39 38 (Wl 35 37 36 (Gk 35 Bs 35 (Wi 34 true 33 undef (Ix 17 Bs 32 31 30 (LU 29 28 27 26 (A_ 25 17 24 23 22 (A_ 21 17 20 19 18 a)))))))))) ds W (Fy 24 e 0 3 fun b=>Dr b 1 fun c=>Bb c W fun d=>CP d W fun f=>DF f 70 fun g=>let a:=jK 25 g 17 false 24 (BJ 23 f 17 22 d (BJ 21 c 17 20 b (KY 19 (Ef e) 17 18 e a))); wI g (Fy 24 e 0 3 fun b=>Dr b 1 fun c=>Bb c W fun d=>CP d W fun f=>HY .leq f 200 fun g=>let a:=Db 35 g 34 (bN 33 g 17 false 32 g 25 true (Bo 31 f 25 30 d (Bo 29 c 25 28 b (GA 27 e 3 25 26 a)))); EW g (TV ro K) e 43 (EK 42 35 41 40 (A_ 39 35 38 37 36 a)) ds W (Fy 24 e 0 3 fun b=>Dr b 1 fun c=>Bb c W fun d=>CP d W fun f=>DF f 203 fun g=>Dh (TV ro K) e 43 g (Ds 42 g 35 41 f 40 d (BJ 39 c 35 38 b (KY 37 (Ef e) 35 36 e a))) ds W)) (Fy 24 e 0 3 fun b=>Dr b 1 fun c=>Bb c W fun d=>CP d W fun f=>DF f 203 fun g=>Dh (TV ro K) e 43 g (BJ 42 g 35 41 f (BJ 40 d 35 39 c (BJ 38 b 35 37 (Ef e) (WZ 36 (BS e) 35 false 35 DX 34 (BG 33 17 32 25 31 30 (CC 29 25 28 27 26 a)))))) ds W))) K e a ds W:=by kernel_rfl
 dsimp at h; exact h
theorem qK (Q:Ending→CW→Prop) (e:Env) (W:CW):AJ prog Tryz.f15 Q .ret e [] W=Q (.returned (e 2)) W:=by kernel_rfl
def AGP {Q v0 W}:=Eo 15 57 [v0] Tryz.f15 Q W Tryz.func15 (by kernel_rfl)
end Go.Ce
namespace Go.Ce
open Go Go.Proofs Go.Proofs.Tryz
def JZ (A:Prop) (W:CW):Ending→CW→Prop:=fun e W'=>W'=W∧∃ b,e=.returned (.bool b)∧(b=true→A)
theorem Yi {v0:Value} {l:List C5} {W:CW} (hl:AV 3 (Ho W) v0 l) :
  AX prog Br 14 [v0] W (JZ (l.length≤22∧∀ s,s ∈ l→s.map.length≤70) W):=by
 refine AGN ?_; rw [AGM]; obtain ⟨a,cap,rfl,hc⟩:=hl; generalize GD:AJ prog Tryz.f14 (JZ (l.length≤22∧∀ s,s ∈ l→s.map.length≤70) W)=KK
 have Fl:∀ (e:Env) (b:Bool),e 2=.bool b→(b=true→l.length≤22∧∀ s,s ∈ l→s.map.length≤70)→KK .ret e [] W:=by
  intro e b h2 hb; rw [←GD,qJ]; exact ⟨rfl,b,by rw [h2],hb⟩
 refine DI (fun i e ds W'=>ds=[]∧W'=W∧e 0=.slice a l.length cap∧e 3=.int .i64 i∧∀ j x,j<i→l[j]?=some x→x.map.length≤70) (min l.length 22) ⟨rfl,rfl,rfl,rfl,by omega⟩ ?_; rintro i e ds W' hi ⟨rfl,rfl,h0,h3,A0⟩; rw [AC4,h0,h3]; simp only [AU Uq,AA,AS]
 have ER:∀ e1:Env,e1 0=.slice a l.length cap→(l.length≤22→i=l.length)→(cz none KK) .normal e1 [] W':=by
  intro e1 g0 IX; simp only [vP,Ay,g0,AU Uq,AA,DY]; refine Fl _ _ rfl fun hb=>?_; have hb:l.length≤22:=by have:=of_decide_eq_true hb; omega
  have hi2:=IX hb; refine ⟨hb,fun s hs=>?_⟩; obtain ⟨j,hj,rfl⟩:=List.getElem_of_mem hs; exact A0 j _ (by omega) (List.getElem?_eq_getElem hj)
 refine FW (fun Ae=>?_) (fun HQ=>?_)
 ·simp only [dB,Ay]; simp only [AI,↓reduceIte]
  refine AD (fun vQ=>?_) (fun vQ=>?_)
  ·have vQ:i<22:=by have:=of_decide_eq_true vQ; omega
   have hx:=List.getElem?_eq_getElem Ae; obtain ⟨p,rfl,hp⟩:=hc i _ hx; obtain ⟨vm,X_,hm,_⟩:=hp.map; obtain ⟨am,cm,rfl,_⟩:=hm; simp only [X2,Ay]; simp only [AI,AQ,Nat.reduceEqDiff,↓reduceIte,h0,h3]; rw [Ad Uq bq Ae]; simp only [AA,JJ,JK,Kt]; rw [AF a9 (a:=⟨p.block,p.off+i*3,none⟩) hp.type,AF a9 (a:=⟨p.block,p.off+i*3+1,none⟩) hp.to,AF Nb (a:=⟨p.block,p.off+i*3+2,none⟩) X_]; simp only [AA,Ii u9,AU FJ,Av]
   have bad:∀ e1:Env,e1 38=.bool true→(TS none (J_ (fun i e ds Zg=>ds=[]∧Zg=W'∧e 0=.slice (some p) l.length cap∧e 3=.int .i64 i∧∀ j x,j<i→l[j]?=some x→x.map.length≤70) i (min l.length 22) (CL 0 (cz none KK)))) .normal e1 [] W':=by
    intro e1 zM; simp only [TS,Ay,G4,JI,Fz,Ml,zM,A3,X1]; exact Fl _ false rfl nofun
   refine AD (fun _=>bad _ rfl) (fun _=>?_); refine AD (fun _=>bad _ rfl) (fun _=>?_); simp only [TS,Ay]; simp only [AI,↓reduceIte]
   refine AD (fun _=>?_) (fun AIS=>?_)
   ·simp only [X1,G4,JI,Fz,Ml]; exact Fl _ false rfl nofun
   ·simp only [X1,Ay,Fz]; simp only [AI,AQ,Nat.reduceEqDiff,↓reduceIte,h0,h3,AO,AA]; refine ⟨by omega,trivial,trivial,trivial,by rw [C4 (by omega)],fun j x hj J'=>?_⟩
    rcases Nat.lt_succ_iff_lt_or_eq.1 hj with h2 | rfl
    ·exact A0 j x h2 J'
    ·rw [hx] at J'; cases J'; have:=of_decide_eq_false AIS; omega
  ·have vQ:¬i<22:=by have:=of_decide_eq_false vQ; omega
   simp only [X2,Mk,Gc,KA,if_true]; exact ER _ h0 (by omega)
 ·simp only [dB,Ay]; simp only [AI,↓reduceIte,Ab]; simp only [X2,Mk,Gc,KA,if_true]; exact ER _ h0 (by omega)
end Go.Ce
namespace Go.Ce
open Go Go.Proofs Go.Proofs.Tryz
theorem AC6 {i:Nat} (h:i<9223372036854775807):IntKind.i64.wrap ((i:Int)+1)=((i+1:Nat):Int):=by rw [wrap64 (by omega) (by omega)]; rfl
theorem UP {v0:Value} {l:List B9} {W:CW} (hl:AV 2 (Ek W) v0 l) (qp:l.length≤maxLen) :
  AX prog Br 15 [v0] W (JZ ((l.length≤40∨1000<l.length)∧l.length≤1002∧∀ x,x ∈ l→x.AH.length≤203) W):=by
 refine AGP ?_; rw [AGO]; have AJV:maxLen=9223372036854775807:=rfl; obtain ⟨a,cap,rfl,hc⟩:=hl; generalize GD:AJ prog Tryz.f15 (JZ ((l.length≤40∨1000<l.length)∧l.length≤1002∧∀ x,x ∈ l→x.AH.length≤203) W)=KK
 have Fl:∀ (e:Env) (b:Bool),e 2=.bool b→(b=true→(l.length≤40∨1000<l.length)∧l.length≤1002∧∀ x,x ∈ l→x.AH.length≤203)→KK .ret e [] W:=by
  intro e b h2 hb; rw [←GD,qK]; exact ⟨rfl,b,by rw [h2],hb⟩
 refine DI (fun i e ds W'=>ds=[]∧W'=W∧e 0=.slice a l.length cap∧e 3=.int .i64 i∧∀ j x,j<i→l[j]?=some x→x.AH.length≤203) l.length ⟨rfl,rfl,rfl,rfl,by omega⟩ ?_; rintro i e ds W' hi ⟨rfl,rfl,h0,h3,A0⟩; rw [AC5,h0,h3]; simp only [AU P3,AA,AS]
 refine FW (fun Ae=>?_) (fun HQ=>?_)
 ·have hx:=List.getElem?_eq_getElem Ae; obtain ⟨p,rfl,hp⟩:=hc i _ hx; obtain ⟨vm,X_,hm⟩:=hp.AH; obtain ⟨am,cm,rfl,_⟩:=hm; rw [Ad P3 MN Ae]; simp only [AA,IP,FL]; rw [AF a9 (a:=⟨p.block,p.off+i*2,none⟩) hp.type,AF Nb (a:=⟨p.block,p.off+i*2+1,none⟩) X_]; simp only [AA,Ii u9,AU FJ,Av,DY]
  have fin:∀ (e1:Env) (b:Bool),e1 43=.bool b→e1 0=.slice (some p) l.length cap→e1 3=.int .i64 i→(b=false→l[i].AH.length≤203)→(TV none (J_ (fun i e ds Zg=>ds=[]∧Zg=W'∧e 0=.slice (some p) l.length cap∧e 3=.int .i64 i∧∀ j x,j<i→l[j]?=some x→x.AH.length≤203) i l.length (CL 0 (lT none KK)))) .normal e1 [] W':=by
   intro e1 b h43 g0 g3 hb; simp only [TV,Ay,h43]
   refine AD (fun pN=>?_) (fun j6=>?_)
   ·simp only [gZ,G4,JI,Fz,Ml,gY]; exact Fl _ false rfl nofun
   ·simp only [gZ,Ay,Fz]; simp only [AI,AQ,Nat.reduceEqDiff,↓reduceIte,g0,g3,AO,AA]; refine ⟨Ae,trivial,trivial,trivial,by rw [AC6 (by omega)],fun j x hj J'=>?_⟩
    rcases Nat.lt_succ_iff_lt_or_eq.1 hj with h2 | rfl
    ·exact A0 j x h2 J'
    ·rw [hx] at J'; cases J'; exact hb j6
  refine AD (fun _=>fin _ true rfl (by exact h0) (by exact h3) nofun) (fun _=>?_)
  refine AD (fun wL=>?_) (fun wL=>?_)
  ·refine AD (fun AIT=>fin _ true rfl (by exact h0) (by exact h3) nofun) (fun AIT=>?_); refine fin _ _ rfl (by exact h0) (by exact h3) fun hb=>?_; have:=of_decide_eq_false hb; omega
  ·refine fin _ _ rfl (by exact h0) (by exact h3) fun hb=>?_; have:=of_decide_eq_false wL; omega
 ·have IX:i=l.length:=by omega
  simp only [Ay,Mk,Gc,KA,if_true,gY]; simp only [AI,AQ,Nat.reduceEqDiff,↓reduceIte,h0,AU P3,AA,DY,Av]
  have CJ:∀ x,x ∈ l→x.AH.length≤203:=fun s hs=>by
   obtain ⟨j,hj,rfl⟩:=List.getElem_of_mem hs; exact A0 j _ (by omega) (List.getElem?_eq_getElem hj)
  refine AD (fun YI=>?_) (fun YI=>?_)
  ·simp only [TU,Ay]; have:=of_decide_eq_true YI; exact Fl _ true rfl fun _=>⟨.inl (by omega),by omega,CJ⟩
  ·refine AD (fun Lx=>?_) (fun Lx=>?_)
   ·simp only [TU,Ay]; have Lx:=of_decide_eq_true Lx; refine Fl _ _ rfl fun hb=>?_; have:=of_decide_eq_true hb; exact ⟨.inr (by omega),by omega,CJ⟩
   ·simp only [TU,Ay]; exact Fl _ false rfl nofun
end Go.Ce
namespace Go.Ce
open Go Go.Proofs Go.Proofs.Tryz
theorem a46:agg? prog 46=some false:=by kernel_rfl
theorem yY (a:Addr):R' prog 48 (.pointer (some a)) 4=some (.pointer (some ⟨a.block,a.off+4,none⟩)):=by kernel_rfl
def lU (x:Al):Prop:=x.name.size≤70∧x.BR.size≤70∧x.fields.length≤24∧∀ f,f ∈ x.fields→f.name.size≤70
theorem ga {v0:Value} {l:List Al} {W:CW} (hl:AV 5 (Dc W) v0 l) :
  AX prog Br 13 [v0] W (JZ (l.length≤102∧∀ x,x ∈ l→lU x) W):=by
 refine AGL ?_; rw [AGK]; obtain ⟨a,cap,rfl,hc⟩:=hl; generalize GD:AJ prog Tryz.f13 (JZ (l.length≤102∧∀ x,x ∈ l→lU x) W)=KK
 have Fl:∀ (e:Env) (b:Bool),e 2=.bool b→(b=true→l.length≤102∧∀ x,x ∈ l→lU x)→KK .ret e [] W:=by
  intro e b h2 hb; rw [←GD,qI]; exact ⟨rfl,b,by rw [h2],hb⟩
 refine DI (fun i e ds W'=>ds=[]∧W'=W∧e 0=.slice a l.length cap∧e 3=.int .i64 i∧∀ j x,j<i→l[j]?=some x→lU x) (min l.length 103) ⟨rfl,rfl,rfl,rfl,by omega⟩ ?_; rintro i e ds W' hi ⟨rfl,rfl,h0,h3,A0⟩; rw [AC2,h0,h3]; simp only [AU R_,AA,AS]
 have ER:∀ e1:Env,e1 0=.slice a l.length cap→(l.length≤102→i=l.length)→(ct none KK) .normal e1 [] W':=by
  intro e1 g0 IX
  have CJ:l.length≤102→∀ x,x ∈ l→lU x:=fun h s hs=>by
   have:=IX h; obtain ⟨j,hj,rfl⟩:=List.getElem_of_mem hs; exact A0 j _ (by omega) (List.getElem?_eq_getElem hj)
  simp only [Xy,Ay,g0,AU R_,AA,DY,Av]
  refine AD (fun cG=>?_) (fun cG=>?_)
  ·simp only [TQ,Ay]; have:=of_decide_eq_true cG; exact Fl _ true rfl fun _=>⟨by omega,CJ (by omega)⟩
  ·refine AD (fun AIU=>?_) (fun AIU=>?_)
   ·simp only [TQ,Ay]; refine Fl _ _ rfl fun hb=>?_; have:=of_decide_eq_true hb; exact ⟨by omega,CJ (by omega)⟩
   ·simp only [TQ,Ay]; exact Fl _ false rfl nofun
 refine FW (fun Ae=>?_) (fun HQ=>?_)
 ·simp only [cy,Ay]; simp only [AI,↓reduceIte]
  refine AD (fun vQ=>?_) (fun vQ=>?_)
  ·have vQ:i<103:=by have:=of_decide_eq_true vQ; omega
   have hx:=List.getElem?_eq_getElem Ae; obtain ⟨p,rfl,hp⟩:=hc i _ hx; obtain ⟨vf,hvf,hf⟩:=hp.fields; obtain ⟨af,cf,rfl,hfc⟩:=hf; obtain ⟨ab,lb,cb,KB⟩:=hp.binds; have q9:ld prog 9 (.pointer (some ⟨p.block,p.off+i*5,none⟩)) W'=some (.string l[i].name):=AF a9 (a:=⟨p.block,p.off+i*5,none⟩) hp.name; have q9':ld prog 9 (.pointer (some ⟨p.block,p.off+i*5+1,none⟩)) W'=some (.string l[i].BR):=AF a9 (a:=⟨p.block,p.off+i*5+1,none⟩) hp.BR; have q45:ld prog 45 (.pointer (some ⟨p.block,p.off+i*5+2,none⟩)) W'=some (.slice af l[i].fields.length cf):=AF a45 (a:=⟨p.block,p.off+i*5+2,none⟩) hvf; have q46:ld prog 46 (.pointer (some ⟨p.block,p.off+i*5+4,none⟩)) W'=some (.slice ab lb cb):=AF a46 (a:=⟨p.block,p.off+i*5+4,none⟩) KB; obtain ⟨eb,heb⟩:=u46; simp only [X0,Ay]; simp only [AI,AQ,Nat.reduceEqDiff,↓reduceIte,h0,h3]; rw [Ad R_ Ui Ae]; simp only [AA,Kr,RH,MO,yY,q9,q9',q45,q46,Ii u9,AU Yd,AU heb,Av]
   have fin:∀ (e1:Env) (b:Bool),e1 48=.bool b→e1 0=.slice (some p) l.length cap→e1 3=.int .i64 i→(b=false→l[i].name.size≤70∧l[i].BR.size≤70∧l[i].fields.length≤24)→(TR none (J_ (fun i e ds Zg=>ds=[]∧Zg=W'∧e 0=.slice (some p) l.length cap∧e 3=.int .i64 i∧∀ j x,j<i→l[j]?=some x→lU x) i (min l.length 103) (CL 0 (ct none KK)))) .normal e1 [] W':=by
    intro e1 b h48 g0 g3 hb; simp only [TR,Ay,h48]
    refine AD (fun pN=>?_) (fun j6=>?_)
    ·simp only [gW,Xz,G4,JI,Fz,Ml,Xy]; exact Fl _ false rfl nofun
    ·obtain ⟨hn,yJ,WI⟩:=hb j6; simp only [gW,Ay]; refine DI (fun m e ds Zg=>ds=[]∧Zg=W'∧e 0=.slice (some p) l.length cap∧e 3=.int .i64 i∧e 4=.int .i64 m∧∀ j x,j<m→l[i].fields[j]?=some x→x.name.size≤70) l[i].fields.length ⟨rfl,rfl,by exact g0,by exact g3,rfl,by omega⟩ ?_; rintro m e2 ds2 W2 hm ⟨rfl,rfl,r0,r3,r4,Nh⟩; rw [AC3,r0,r3,r4,Ad R_ Ui Ae]; simp only [AA,MO,q45,AU Yd,AS]
     refine FW (fun AC7=>?_) (fun AJW=>?_)
     ·have zs:=List.getElem?_eq_getElem AC7; obtain ⟨q,rfl,hq⟩:=hfc m _ zs; rw [Ad Yd xg AC7]; simp only [AA,RI]; rw [AF a9 (a:=⟨q.block,q.off+m*2,none⟩) hq.name]; simp only [AA,Ii u9,Av]
      refine AD (fun wL=>?_) (fun wL=>?_)
      ·simp only [gX,Xz,G4,JI,Fz,Ml,Xy]; exact Fl _ false rfl nofun
      ·simp only [gX,Ay,Fz]; simp only [AI,AQ,Nat.reduceEqDiff,↓reduceIte,r0,r3,r4,AO,AA]; refine ⟨AC7,trivial,trivial,trivial,trivial,by rw [C4 (by omega)],fun j x hj J'=>?_⟩
       rcases Nat.lt_succ_iff_lt_or_eq.1 hj with h2 | rfl
       ·exact Nh j x h2 J'
       ·rw [zs] at J'; cases J'; have:=of_decide_eq_false wL; omega
     ·simp only [Ay,Mk,jr,Gc,Fz,KA,if_true,Xz]; simp only [AI,AQ,Nat.reduceEqDiff,↓reduceIte,r0,r3,AO,AA]; refine ⟨by omega,trivial,trivial,trivial,by rw [C4 (by omega)],fun j x hj J'=>?_⟩
      rcases Nat.lt_succ_iff_lt_or_eq.1 hj with h2 | rfl
      ·exact A0 j x h2 J'
      ·rw [hx] at J'; cases J'; refine ⟨hn,yJ,WI,fun f hf=>?_⟩; obtain ⟨j2,oJ,rfl⟩:=List.getElem_of_mem hf; exact Nh j2 _ (by omega) (List.getElem?_eq_getElem oJ)
   refine AD (fun _=>fin _ true rfl (by exact h0) (by exact h3) nofun) (fun h1=>?_); refine AD (fun _=>fin _ true rfl (by exact h0) (by exact h3) nofun) (fun h2=>?_); refine AD (fun _=>fin _ true rfl (by exact h0) (by exact h3) nofun) (fun h4=>?_); refine fin _ _ rfl (by exact h0) (by exact h3) fun _=>?_; have h1:=of_decide_eq_false h1; have h2:=of_decide_eq_false h2; have h4:=of_decide_eq_false h4; exact ⟨by omega,by omega,by omega⟩
  ·have vQ:¬i<103:=by have:=of_decide_eq_false vQ; omega
   simp only [X0,Mk,Gc,KA,if_true]; exact ER _ h0 (by omega)
 ·simp only [cy,Ay]; simp only [AI,↓reduceIte,Ab]; simp only [X0,Mk,Gc,KA,if_true]; exact ER _ h0 (by omega)
end Go.Ce
namespace Go.Ce
open Go Go.Proofs Go.Proofs.Tryz
def nY (l:List Int):List UInt8:=l.map fun k=>UInt8.ofNat k.toNat
theorem Mo:∀ l:List Int,H9 (Be l)=some (nY l)
 | []=>rfl
 | a::l=>by
  have:=Mo l; unfold Be nY at this ⊢; simp only [List.map_cons,H9,this]
theorem nZ {W:CW} {v:Value} {l:List Int} (h:CD W 5 1 v (Be l)):cvb prog 29 9 v W=some (.string ⟨(nY l).toArray⟩):=by
 have h5:prog.underlying 5=some (.int .u8):=by kernel_rfl
 unfold cvb; rw [Yc,u9]; have UU:=MW l; have hcb:=Mo l; generalize Be l=cs at h UU hcb
 cases h with
 | nil =>
  simp only [nj,h5,EO,DJ]; rw [show H9 []=some (nY l) from hcb]
 | @some b len _ hB hl =>
  obtain ⟨c,n,z,ho,hn,hc⟩:=hB; have K2:len=cs.length:=by omega
  have hf:EO (some ⟨b,0,none⟩) len W=some cs:=by
   simp only [EO,ho]
   cases hz:Nat.beq len 0 with
   | true =>
    have:=Nat.eq_of_beq_eq_true hz; have:cs=[]:=List.length_eq_zero_iff.1 (by omega); subst this; rfl
   | false =>
    have Yf:Nat.ble (0+len) n=true:=Nat.ble_eq_true_of_le (by omega); simp only [cond_false,Yf,cond_true]; rw [K2,Hl fun j v hj=>by rw [Nat.zero_add]; exact hc j v hj]
  simp only [nj,h5,hf,DJ,hcb]
theorem AC8 {c:List Al} (h1:c.length≤102) (h2:∀ x,x ∈ c→lU x):Ng c :=
 ⟨by omega,fun x hx=>by have:=(h2 x hx).2.2.1; omega,fun x hx=>by have:=(h2 x hx).1; omega,fun x hx=>by have:=(h2 x hx).2.1; omega,fun x hx f hf=>by have:=(h2 x hx).2.2.2 f hf; omega⟩
theorem zw:CE Br 16=true:=by kernel_rfl
theorem vR:CE Br (16+2000000)=true:=by kernel_rfl
def vS:Ending→CW→Prop:=fun e _=>e=.returned (.bool true)
end Go.Ce
namespace Go.Ce
open Go Go.Proofs Go.Proofs.Tryz
theorem dD (a b d:Value):ext (.tuple #[a,b,d]) 0=some a:=rfl
theorem dE (a b d:Value):ext (.tuple #[a,b,d]) 1=some b:=rfl
theorem dF (a b d:Value):ext (.tuple #[a,b,d]) 2=some d:=rfl
end Go.Ce
namespace Go.Ce
open Go Go.Proofs Go.Proofs.Tryz
theorem AC9 (W:CW):rB prog 29 0 [] W=some (.slice (some ⟨W.sz,0,none⟩) 0 0,W.new (.cells (Tr.nil.Aa 0 []) 0 #[] 5)):=by kernel_rfl
theorem AIV (a b:Bool):D6 prog .eql 4 false (.bool a) (.bool b)=some (.bool (a == b)):=by cases a <;> cases b <;> kernel_rfl
end Go.Ce
namespace Go.Ce
open Go Go.Proofs Go.Proofs.Tryz
end Go.Ce
namespace Go.Ce
open Go Go.Proofs Go.Proofs.Tryz
def lV (c:List Al) (O M:List Int) (p q:B9):Prop:=p.type=q.type∧p.AH.length=q.AH.length∧∀ (k ix:Nat) x y,BL c p.type=some ix→p.AH[k]?=some x→q.AH[k]?=some y→if A4 c ix k=2 then placeOf O x=placeOf M y else x=y
def TW (c:List Al) (h:List B9) (O:List Int) (k:List B9) (M:List Int):Prop:=O.length=M.length∧∀ (i:Nat) v w p q,O[i]?=some v→M[i]?=some w→h[(v-1).toNat]?=some p→k[(w-1).toNat]?=some q→lV c O M p q
section
variable {c:List Al} {A B:List B9} {f:Int→Int} {S:Int→Prop}
end
theorem X3 {h:List B9} {N:Nat} (hN:N=h.length):∀ {O:List Int},(∀ v,v ∈ O→0<v∧v≤N)→∀ (j:Nat) v,O[j]?=some v→(A9 h O)[j]?=h[(v-1).toNat]?
 | [],_,j,v,hj=>by simp at hj
 | u::O,hO,j,v,hj=>by
  have hu:=hO u (by simp); have hx:=List.getElem?_eq_getElem (show (u-1).toNat<h.length by omega); rw [Np hx]
  cases j with
  | zero=>cases hj; exact hx.symm
  | succ j=>exact X3 hN (fun w hw=>hO w (by simp [hw])) j v hj
end Go.Ce
namespace Go.Ce
open Go Go.Proofs Go.Proofs.Tryz
theorem AIW:agg? prog 134=some true:=by kernel_rfl
theorem yZ:D_ prog 134=some 2:=by kernel_rfl
theorem AIX:Hz prog 134=some (.agg #[.int .i64 0,.int .i64 0]):=by kernel_rfl
theorem lW (x y:Int):wE prog 134 [(0,.int .i64 x),(1,.int .i64 y)]=some (.agg [.int .i64 x,.int .i64 y].toArray):=by kernel_rfl
theorem gb (a:Addr):R' prog 134 (.pointer (some a)) 0=some (.pointer (some ⟨a.block,a.off,none⟩)):=by kernel_rfl
theorem vT (a:Addr):R' prog 134 (.pointer (some a)) 1=some (.pointer (some ⟨a.block,a.off+1,none⟩)):=by kernel_rfl
theorem AC' (x y:Int):D6 prog .neq 134 false (.agg [.int .i64 x,.int .i64 y].toArray) (.agg [.int .i64 x,.int .i64 x].toArray)=some (.bool (!(y == x))):=by
 have h:D6 prog .neq 134 false (.agg [.int .i64 x,.int .i64 y].toArray) (.agg [.int .i64 x,.int .i64 x].toArray)=((match (some (x == x):Option Bool) with | some true=>(match (some (y == x):Option Bool) with | some true=>some true | some false=>some false | none=>none) | some false=>some false | none=>none).map fun b=>Value.bool (!b)):=by kernel_rfl
 rw [h,beq_self_eq_true]
 cases y == x <;> rfl
structure zx (A:CW) (JQ Hu dG Z' YJ bl rl bm rm r1 r2:Nat) (vl vm v1 v3:Value) (c:List Al) (h k:List B9) (O M:List Int):Prop where
 top:Ag A
 JQ:BX A JQ 4 [.bool false]
 Hu:BX A Hu 30 [.int .i64 0]
 bk:BX A dG 78 [.map (some r1),.map (some r2)]
 p16:BX A Z' 89 [.pointer (some ⟨bl,0,none⟩)]
 p17:BX A YJ 89 [.pointer (some ⟨bm,0,none⟩)]
 wl:OR A bl rl vl O
 wm:OR A bm rm vm M
 cat:FE A r1 r2 c
 hh:AV 2 (Ek A) v1 h
 kk:AV 2 (Ek A) v3 k
 Ai:BM c=true
 hC:Ng c
 JC:∀ x,x ∈ h→Ao c x h.length=true
 ya:∀ x,x ∈ k→Ao c x k.length=true
 fO:Found O h.length
 fM:Found M k.length
 hl:h.length≤1000
 kl:k.length≤1000
 len:O.length=M.length
structure AEn (e:Env) (JQ Hu dG Z' YJ:Nat) (vl v1 v3:Value) (n i:Nat):Prop where
 e1:e 1=v1
 e3:e 3=v3
 qL:e 10=.pointer (some ⟨JQ,0,none⟩)
 Z1:e 11=.pointer (some ⟨Hu,0,none⟩)
 zy:e 12=.pointer (some ⟨dG,0,none⟩)
 e16:e 16=.pointer (some ⟨Z',0,none⟩)
 e17:e 17=.pointer (some ⟨YJ,0,none⟩)
 e69:e 69=vl
 e70:e 70=.int .i64 n
 e71:e 71=.int .i64 i
def vU (JQ Hu:Nat) (A W':CW):Prop:=D7 (fun j=>j=JQ∨j=Hu) A W'∧Ag W'∧W'.cell JQ 0=some (.bool false)∧W'.cell Hu 0=some (.int .i64 0)
section
variable {A:CW} {JQ Hu dG Z' YJ bl rl bm rm r1 r2:Nat} {vl vm v1 v3:Value} {c:List Al} {h k:List B9} {O M:List Int}
theorem zx.ne (I:zx A JQ Hu dG Z' YJ bl rl bm rm r1 r2 vl vm v1 v3 c h k O M):JQ≠Hu:=by
 rintro rfl; have:=Lq I.JQ I.Hu
 cases this
theorem vV (I:zx A JQ Hu dG Z' YJ bl rl bm rm r1 r2 vl vm v1 v3 c h k O M) {W:CW} (kA:Kp A W) (ht:Ag W) {K:CW→Prop} (hk:∀ W2,vU JQ Hu A W2→D7 (fun j=>j=JQ∨j=Hu) W W2→K W2):wV (Mf prog 4 (.pointer (some ⟨JQ,0,none⟩)) (.bool false) W) fun W1=>wV (Mf prog 30 (.pointer (some ⟨Hu,0,none⟩)) (.int .i64 0) W1) K:=by
 have D0:=I.ne; have dH:=I.JQ.ext I.top kA; have Rr:=I.Hu.ext I.top kA; refine An s4 (a:=⟨JQ,0,none⟩) rfl dH (by simp) fun W1 R9 y9=>?_; have R9:ED JQ W W1:=R9; have Z_:=Rr.congr (R9.obj _ (fun e=>D0 e.symm)); refine An s30 (a:=⟨Hu,0,none⟩) rfl Z_ (by simp) fun W2 Om sM=>?_; have Om:ED Hu W1 W2:=Om; have YY:=dH.lt ht; have NI:=Z_.lt (ht.BB YY R9); have hc:D7 (fun j=>j=JQ∨j=Hu) W W2:=⟨by rw [Om.sz,R9.sz]; exact Nat.le_refl _,fun j _ hj=>by rw [Om.obj j (fun e=>hj (.inr e)),R9.obj j (fun e=>hj (.inl e))]⟩
 exact hk W2 ⟨(D7.H7 kA).then hc fun _ _ h=>h,(ht.BB YY R9).BB NI Om,(y9.congr (Om.obj _ D0)).cell rfl,sM.cell rfl⟩ hc
end
theorem Marks.more {B:Nat} {W W':CW} {ds:List Deferred} {r:Nat} (ht:Ag W) (h:Marks B W ds) (ho:∀ j,W.obj j=some .deferred→B≤j→W'.obj j=some .deferred) (hr:W'.obj r=some .deferred) (hB:B≤r) (hl:W.sz≤r):Marks B W' (mark r::ds):=by
 refine Marks.push (h.IF ho) hr hB fun hm=>?_; obtain ⟨rs,Y2,_,Iq⟩:=h; rw [Y2] at hm; obtain ⟨r',SJ,fh⟩:=List.mem_map.1 hm; have:=vJ fh; subst this; have:=ht _ _ (Iq _ SJ).1; omega
def VEq (c:List Al) (O M:List Int) (ix:Nat) (xs ys:List Int) (m:Nat):Prop:=∀ x y,xs[m]?=some x→ys[m]?=some y→if A4 c ix m=2 then placeOf O x=placeOf M y else x=y
section
variable {A:CW} {JQ Hu dG Z' YJ bl rl bm rm r1 r2:Nat} {vl vm v1 v3:Value} {c:List Al} {h k:List B9} {O M:List Int}
theorem lX (I:zx A JQ Hu dG Z' YJ bl rl bm rm r1 r2 vl vm v1 v3 c h k O M) {K:AB} {e:Env} {ds:List Deferred} {W:CW} {n i b20 b21 ix:Nat} {p q:B9} {vp vq:Value} {s:Al} (kA:Kp A W) (ht:Ag W) (hm:Marks A.sz W ds) (E:AEn e JQ Hu dG Z' YJ vl v1 v3 n i)
  (e20:e 20=.pointer (some ⟨b20,0,none⟩)) (e21:e 21=.pointer (some ⟨b21,0,none⟩)) (B20:BX W b20 56 [.string p.type,vp]) (B21:BX W b21 56 [.string q.type,vq]) (hp:AV 1 (Dx W) vp p.AH) (hq:AV 1 (Dx W) vq q.AH) (P:UI c p h.length ix s) (hlen:p.AH.length=q.AH.length) (hi:i<100000)
  (Fl:∀ e' DC W',vU JQ Hu A W'→Marks A.sz W' DC→e' 10=.pointer (some ⟨JQ,0,none⟩)→e' 11=.pointer (some ⟨Hu,0,none⟩)→(∃ m,m<p.AH.length∧¬VEq c O M ix p.AH q.AH m)→K .ret e' DC W')
  (Ai:∀ e' DC W',Kp A W'→Ag W'→Marks A.sz W' DC→AEn e' JQ Hu dG Z' YJ vl v1 v3 n (i+1)→(∀ m,m<p.AH.length→VEq c O M ix p.AH q.AH m)→K .normal e' DC W') :
  (Rv none K) .normal e ds W:=by
 simp only [Z3,Ay]; obtain ⟨ap,cp,rfl,_⟩:=id hp; rw [E.zy,e20,CG (vs:=[.map (some r1),.map (some r2)]) (a:=⟨dG,0,none⟩) rG OC rfl (by omega) (I.bk.ext I.top kA).cells,CG (vs:=[.string p.type,.slice ap p.AH.length cp]) (a:=⟨b20,0,none⟩) m5 MN rfl (by omega) B20.cells]; simp only [AA]; refine (Rt (r1:=r1) (r2:=r2) (ty:=p.type) (vx:=.slice ap p.AH.length cp) ht).mono fun en W3 ⟨k3,t3,bk,bx,E9,oE,hbx,pn,pq⟩=>?_; subst E9; refine AP ?_; have dI:=kA.trans k3; have zA:=kA.sz; have z3:=k3.sz; have AJX:=I.JQ.lt I.top; have AJY:=I.Hu.lt I.top; have My:=N' I.hC P.many; have Um:elemAt c ix=0→p.AH.length≤(Ap c ix).length:=fun he=>by rw [Hr P.si he P.many]; exact Nat.le_refl _
 have JD:=I.cat.kp I.top dI
 have nd:∀ j,W.obj j=some .deferred→¬(j=JQ∨j=Hu):=by
  rintro j hj (rfl | rfl)
  ·obtain ⟨x,y,z,ho,_⟩:=I.JQ.ext I.top kA; rw [ho] at hj; cases hj
  ·obtain ⟨x,y,z,ho,_⟩:=I.Hu.ext I.top kA; rw [ho] at hj; cases hj
 refine Vl (bk:=bk) (bx:=bx) (r1:=r1) (r2:=r2) (n:=p.AH.length) (ix:=ix) (c:=c) (ty:=p.type) (a1:=22) (a2:=23) t3 rfl P.ti (by omega) Um (fun ro e0 ds K W=>by rw [ACr]) (by decide)
  (fun j W'=>Kp W3 W'∧Ag W'∧W'.obj W3.sz=some .deferred∧W3.sz+1<W'.sz∧∀ m,m<j→VEq c O M ix p.AH q.AH m)
  (fun x W'=>x=.ret∧D7 (fun j=>j=JQ∨j=Hu) W3 W'∧Ag W'∧W'.obj W3.sz=some .deferred∧W3.sz+1<W'.sz∧W'.cell JQ 0=some (.bool false)∧W'.cell Hu 0=some (.int .i64 0)∧∃ m,m<p.AH.length∧¬VEq c O M ix p.AH q.AH m)
  (fun j W' h=>⟨h.1.cell t3 (pn.cell rfl),h.1.cell t3 (pn.cell rfl),JD.kp t3 h.1,h.1.cell t3 (pq.cell rfl),_,_,h.1.cell t3 (pq.cell rfl)⟩)
  (fun j W1 W2 ⟨h1,h2,h3,h4,h5⟩ hu _=>⟨h1.BB (by omega) hu,h2.BB h4 hu,by rw [hu.obj _ (by omega)]; exact h3,by rw [hu.sz]; exact h4,h5⟩)
  (fun x W1 W2 ⟨h0,h1,h2,h3,h4,h5,h6,h7⟩ hu _=>⟨h0,h1.then hu.IF fun j hj he=>by omega,h2.BB h4 hu,by rw [hu.obj _ (by omega)]; exact h3,by rw [hu.sz]; exact h4,by rw [hu.cell (by omega)]; exact h5,by rw [hu.cell (by omega)]; exact h6,h7⟩)
  (fun W2 k t z hd=>⟨k,t,hd,by omega,fun m hm=>by omega⟩)
  (fun j W1 Kb E' hE hE1 hE2 hj ⟨k1,t1,hd,hl,hv⟩ TD hn hr _=>?_) (fun W' ⟨k',t',hd,hl,hv⟩=>?_) (fun x W' ⟨h0,h1,h2,h3,h4,h5,h6,h7⟩=>?_)
 ·have g:∀ t v,t≠109→t≠110→t≠22→t≠23→t≠106→t≠107→t≠108→e t=v→E' t=v:=fun t v n1 n2 n3 n4 n5 n6 n7 hv=>by
   rw [hE t n1 n2 n3 n4,←hv]; simp only [AI,AQ,if_neg n5,if_neg n6,if_neg n7]
  have Zi:=g 10 _ (by decide) (by decide) (by decide) (by decide) (by decide) (by decide) (by decide) E.qL; have kJ:=g 11 _ (by decide) (by decide) (by decide) (by decide) (by decide) (by decide) (by decide) E.Z1; have g16:=g 16 _ (by decide) (by decide) (by decide) (by decide) (by decide) (by decide) (by decide) E.e16; have g17:=g 17 _ (by decide) (by decide) (by decide) (by decide) (by decide) (by decide) (by decide) E.e17; have g20:=g 20 _ (by decide) (by decide) (by decide) (by decide) (by decide) (by decide) (by decide) e20; have g21:=g 21 _ (by decide) (by decide) (by decide) (by decide) (by decide) (by decide) (by decide) e21; have hx:=List.getElem?_eq_getElem hj; have hy:=List.getElem?_eq_getElem (show j<q.AH.length by omega); generalize p.AH[j]=x at hx; generalize q.AH[j]'(by omega)=y at hy; obtain ⟨ax,a1,a2⟩:=lI ht hp hx; obtain ⟨ay,c1,c2⟩:=lI ht hq hy; have qM:=k3.trans k1; have z_:=dI.trans k1; have l20:∀ W',Kp W W'→ld prog 40 (.pointer (some ⟨b20,0+1,none⟩)) W'=some (.slice ap p.AH.length cp):=fun W' kk=>AF Nb (a:=⟨b20,0+1,none⟩) (kk.cell ht (B20.cell rfl)); have l21:∀ W',Kp W W'→ld prog 40 (.pointer (some ⟨b21,0+1,none⟩)) W'=some vq:=fun W' kk=>AF Nb (a:=⟨b21,0+1,none⟩) (kk.cell ht (B21.cell rfl))
  have k38:∀ (e2:Env) (W6:CW) (x' y':Int),Kp W1 W6→Ag W6→BX W6 W1.sz 134 [.int .i64 x',.int .i64 y']→e2 24=.pointer (some ⟨W1.sz,0,none⟩)→e2 10=.pointer (some ⟨JQ,0,none⟩)→e2 11=.pointer (some ⟨Hu,0,none⟩)→(x'=y'↔VEq c O M ix p.AH q.AH j)→(Vq (some (W3.sz+1)) Kb) .normal e2 [] W6:=by
   intro e2 W6 x' y' k6 t6 It h24 KC Mr LF; simp only [qA,Ay]; rw [h24,CG (vs:=[.int .i64 x',.int .i64 y']) (a:=⟨W1.sz,0,none⟩) AIW yZ rfl (by omega) It.cells]; simp only [gb,AA]; rw [AF a3 (a:=⟨W1.sz,0,none⟩) (It.cell rfl)]; simp only [AA,lW,AC']; have z6:=k6.sz
   refine AD (fun hb=>?_) (fun hb=>?_)
   ·have hb:¬x'=y':=fun e=>by rw [e] at hb; simp at hb
    rw [KC,Mr]; refine vV I (z_.trans k6) t6 fun W7 hs hc=>?_; have hc3:D7 (fun j=>j=JQ∨j=Hu) W3 W7:=(D7.H7 (k1.trans k6)).then hc fun _ _ h=>h; have hz7:=hc.sz; refine hr _ _ W7 (by rw [hc.obj _ (by omega) (by omega),k6.obj _ (by omega)]) ⟨rfl,hc3,hs.2.1,by rw [hc.obj _ (by omega) (by omega),k6.obj _ (by omega)]; exact hd,by omega,hs.2.2.1,hs.2.2.2,j,hj,fun hve=>hb (LF.2 hve)⟩
   ·have hb:x'=y':=by
     simp only [Bool.not_eq_false',beq_iff_eq] at hb; exact hb.symm
    refine hn _ _ W6 (by rw [k6.obj _ (by omega)]) ⟨k1.trans k6,t6,by rw [k6.obj _ (by omega)]; exact hd,by omega,fun m hm=>?_⟩
    by_cases e:m=j
    ·subst e; exact LF.1 hb
    ·exact hv m (by omega)
  rw [ACs,g20,g21,hE1,hE2]; simp only [FL,AA,l20 W1 qM,l21 W1 qM,a1,a2 W1 qM,c1,c2 W1 qM,lW]; refine JB AIX yZ t1 fun W4 k4 t4 z4 AC_=>?_; have AC_:BX W4 W1.sz 134 [.int .i64 0,.int .i64 0]:=AC_; refine Eu yZ (a:=⟨W1.sz,0,none⟩) (ws:=[.int .i64 x,.int .i64 y]) rfl rfl AC_ (by simp) fun W5 OQ YH=>?_; have OQ:ED W1.sz W4 W5:=OQ; have YH:BX W5 W1.sz 134 [.int .i64 x,.int .i64 y]:=YH; have wQ:=qM.trans k4; refine ⟨by simp only [l20 W1 qM,l21 W1 qM,a2 W1 qM,c2 W1 qM,l20 W4 wQ,l21 W4 wQ,a2 W4 wQ,c2 W4 wQ,and_self],trivial,?_⟩; have nQ:Kp W1 W5:=k4.BB (Nat.le_refl _) OQ; have t5:=t4.BB (by omega) OQ; have wR:=z_.trans nQ; simp only [BK,AA]
  refine AD (fun hk=>?_) (fun hk=>?_)
  ·have hk:A4 c ix j=2:=by simpa using hk
   have wl5:=I.wl.kp I.top wR; have wm5:=I.wm.kp I.top wR; have l16:ld prog 89 (.pointer (some ⟨Z',0,none⟩)) W5=some (.pointer (some ⟨bl,0,none⟩)):=AF a89 (a:=⟨Z',0,none⟩) (wR.cell I.top (I.p16.cell rfl)); have l17:ld prog 89 (.pointer (some ⟨YJ,0,none⟩)) W5=some (.pointer (some ⟨bm,0,none⟩)):=AF a89 (a:=⟨YJ,0,none⟩) (wR.cell I.top (I.p17.cell rfl)); have lr:ld prog 98 (.pointer (some ⟨bl,0+1,none⟩)) W5=some (.map (some rl)):=AF a98 (a:=⟨bl,0+1,none⟩) (wl5.w.cell rfl); have lm:ld prog 98 (.pointer (some ⟨bm,0+1,none⟩)) W5=some (.map (some rm)):=AF a98 (a:=⟨bm,0+1,none⟩) (wm5.w.cell rfl); have lx:ld prog 3 (.pointer (some ⟨W1.sz,0,none⟩)) W5=some (.int .i64 x):=AF a3 (a:=⟨W1.sz,0,none⟩) (YH.cell rfl); have ly:ld prog 3 (.pointer (some ⟨W1.sz,0+1,none⟩)) W5=some (.int .i64 y):=AF a3 (a:=⟨W1.sz,0+1,none⟩) (YH.cell rfl); rw [g16,g17]; simp only [l16,l17,Hs,Ru,lr,lm,gb,vT,lx,ly,wl5.p.look,wm5.p.look,AA,lW]; refine Eu yZ (a:=⟨W1.sz,0,none⟩) (ws:=[.int .i64 (placeOf O x),.int .i64 (placeOf M y)]) rfl rfl YH (by simp) fun W6 Yj It=>?_; have Yj:ED W1.sz W5 W6:=Yj; have It:BX W6 W1.sz 134 [.int .i64 (placeOf O x),.int .i64 (placeOf M y)]:=It; refine ⟨by simp only [and_self],trivial,?_⟩
   refine k38 _ W6 _ _ (nQ.BB (Nat.le_refl _) Yj) (t5.BB (YH.lt t5) Yj) It (by simp only [AI,Nat.reduceEqDiff,↓reduceIte]) (by simp only [AI,AQ,Nat.reduceEqDiff,↓reduceIte,Zi]) (by simp only [AI,AQ,Nat.reduceEqDiff,↓reduceIte,kJ]) ⟨fun e x2 y2 PA mO=>?_,fun hve=>?_⟩
   ·rw [hx] at PA; cases PA; rw [hy] at mO; cases mO; rw [if_pos hk]; exact e
   ·have:=hve x y hx hy; rw [if_pos hk] at this; exact this
  ·have hk:¬A4 c ix j=2:=by simpa using hk
   refine k38 _ W5 x y nQ t5 YH (by simp only [AI,Nat.reduceEqDiff,↓reduceIte]) (by simp only [AI,AQ,Nat.reduceEqDiff,↓reduceIte,Zi]) (by simp only [AI,AQ,Nat.reduceEqDiff,↓reduceIte,kJ]) ⟨fun e x2 y2 PA mO=>?_,fun hve=>?_⟩
   ·rw [hx] at PA; cases PA; rw [hy] at mO; cases mO; rw [if_neg hk]; exact e
   ·have:=hve x y hx hy; rw [if_neg hk] at this; exact this
 ·simp only [Ay,jr,TG]; simp only [AI,AQ,Nat.reduceEqDiff,↓reduceIte,E.e71,AO,AA]; rw [C4 (by omega)]; refine Ai _ _ W' (dI.trans k') t' (hm.more ht (fun j hj _=>by rw [(k3.trans k').obj _ (ht _ _ hj)]; exact hj) hd (by omega) z3) ⟨by simp only [AI,AQ,Nat.reduceEqDiff,↓reduceIte,E.e1],by simp only [AI,AQ,Nat.reduceEqDiff,↓reduceIte,E.e3],by simp only [AI,AQ,Nat.reduceEqDiff,↓reduceIte,E.qL],by simp only [AI,AQ,Nat.reduceEqDiff,↓reduceIte,E.Z1],by simp only [AI,AQ,Nat.reduceEqDiff,↓reduceIte,E.zy],by simp only [AI,AQ,Nat.reduceEqDiff,↓reduceIte,E.e16],by simp only [AI,AQ,Nat.reduceEqDiff,↓reduceIte,E.e17],by simp only [AI,AQ,Nat.reduceEqDiff,↓reduceIte,E.e69],by simp only [AI,AQ,Nat.reduceEqDiff,↓reduceIte,E.e70],by simp only [AI,↓reduceIte]⟩ hv
 ·subst h0; simp only [G4,JI,TG]; refine Fl _ _ W' ⟨(D7.H7 dI).then h1 fun _ _ h=>h,h2,h5,h6⟩ (hm.more ht (fun j hj _=>?_) h3 (by omega) z3) (by simp only [AI,AQ,Nat.reduceEqDiff,↓reduceIte,E.qL]) (by simp only [AI,AQ,Nat.reduceEqDiff,↓reduceIte,E.Z1]) h7; have:=ht _ _ hj; rw [h1.obj _ (by omega) (nd j hj),k3.obj _ this]; exact hj
end
end Go.Ce
namespace Go.Ce
open Go Go.Proofs Go.Proofs.Tryz
section
variable {A:CW} {JQ Hu dG Z' YJ bl rl bm rm r1 r2:Nat} {vl vm v1 v3:Value} {c:List Al} {h k:List B9} {O M:List Int}
def ATh (c:List Al) (h:List B9) (O:List Int) (k:List B9) (M:List Int) (i:Nat):Prop:=∀ v w p q,O[i]?=some v→M[i]?=some w→h[(v-1).toNat]?=some p→k[(w-1).toNat]?=some q→lV c O M p q
theorem zx.nd (I:zx A JQ Hu dG Z' YJ bl rl bm rm r1 r2 vl vm v1 v3 c h k O M) {W:CW} (kA:Kp A W):∀ j,W.obj j=some .deferred→¬(j=JQ∨j=Hu):=by
 rintro j hj (rfl | rfl)
 ·obtain ⟨x,y,z,ho,_⟩:=I.JQ.ext I.top kA; rw [ho] at hj; cases hj
 ·obtain ⟨x,y,z,ho,_⟩:=I.Hu.ext I.top kA; rw [ho] at hj; cases hj
theorem vW (I:zx A JQ Hu dG Z' YJ bl rl bm rm r1 r2 vl vm v1 v3 c h k O M) {K:AB} {e:Env} (E:AEn e JQ Hu dG Z' YJ vl v1 v3 O.length 0)
  (Fl:∀ e' DC W',vU JQ Hu A W'→Marks A.sz W' DC→e' 10=.pointer (some ⟨JQ,0,none⟩)→e' 11=.pointer (some ⟨Hu,0,none⟩)→¬TW c h O k M→K .ret e' DC W')
  (ER:∀ e' DC W',Kp A W'→Ag W'→Marks A.sz W' DC→AEn e' JQ Hu dG Z' YJ vl v1 v3 O.length O.length→TW c h O k M→K (.exit 0) e' DC W') :
  Fk prog Br none 20 147 (.loop (ES prog 20 0)) e [] A K:=by
 have hOl:=I.fO.len; have hhl:=I.hl; refine DI (fun i e' DC W'=>Kp A W'∧Ag W'∧Marks A.sz W' DC∧AEn e' JQ Hu dG Z' YJ vl v1 v3 O.length i∧∀ j,j<i→ATh c h O k M j) O.length ⟨.refl _,I.top,.nil _ _,E,fun j hj=>by omega⟩ ?_; rintro i e ds W hi ⟨kA,ht,hm,E,hat⟩; rw [ACq,E.e69,E.e70,E.e71,E.e1,E.e3,E.e17]; simp only [AA,AS]; refine FW (fun Ae=>?_) (fun HQ=>?_)
 rotate_left
 ·have:i=O.length:=by omega
  subst this; simp only [KA]; exact ER _ ds W kA ht hm ⟨by simp only [AI,AQ,Nat.reduceEqDiff,↓reduceIte,E.e1],by simp only [AI,AQ,Nat.reduceEqDiff,↓reduceIte,E.e3],by simp only [AI,AQ,Nat.reduceEqDiff,↓reduceIte,E.qL],by simp only [AI,AQ,Nat.reduceEqDiff,↓reduceIte,E.Z1],by simp only [AI,AQ,Nat.reduceEqDiff,↓reduceIte,E.zy],by simp only [AI,AQ,Nat.reduceEqDiff,↓reduceIte,E.e16],by simp only [AI,AQ,Nat.reduceEqDiff,↓reduceIte,E.e17],by simp only [AI,AQ,Nat.reduceEqDiff,↓reduceIte,E.e69],by simp only [AI,AQ,Nat.reduceEqDiff,↓reduceIte,E.e70],by simp only [AI,AQ,Nat.reduceEqDiff,↓reduceIte,E.e71]⟩ ⟨I.len,fun j v w p q hv hw hp hq=>hat j (List.getElem?_eq_some_iff.1 hv).1 v w p q hv hw hp hq⟩
 have hO:=List.getElem?_eq_getElem Ae; have hM:=List.getElem?_eq_getElem (show i<M.length by rw [←I.len]; exact Ae); generalize O[i]=v at hO; generalize M[i]'(by rw [←I.len]; exact Ae)=w at hM; have zC:=I.fO.low v (List.mem_of_getElem? hO); have dY:=I.fO.high v (List.mem_of_getElem? hO); have hw0:=I.fM.low w (List.mem_of_getElem? hM); have En:=I.fM.high w (List.mem_of_getElem? hM); obtain ⟨nv,Ux⟩:∃ nv:Nat,v=((nv+1:Nat):Int):=⟨(v-1).toNat,by omega⟩
 obtain ⟨nw,OL⟩:∃ nw:Nat,w=((nw+1:Nat):Int):=⟨(w-1).toNat,by omega⟩
 subst Ux; subst OL; have YD:=I.kl; have hp:=List.getElem?_eq_getElem (show nv<h.length by omega); have hq:=List.getElem?_eq_getElem (show nw<k.length by omega); generalize h[nv]'(by omega)=p at hp; generalize k[nw]'(by omega)=q at hq
 have ADA:ATh c h O k M i↔lV c O M p q:=by
  constructor
  ·intro ha; exact ha _ _ p q hO hM (by rw [show (((nv+1:Nat):Int)-1).toNat=nv by omega]; exact hp) (by rw [show (((nw+1:Nat):Int)-1).toNat=nw by omega]; exact hq)
  ·intro ha v' w' p' q' h1 h2 h3 h4; rw [hO] at h1; cases h1; rw [hM] at h2; cases h2; rw [show (((nv+1:Nat):Int)-1).toNat=nv by omega,hp] at h3; cases h3; rw [show (((nw+1:Nat):Int)-1).toNat=nw by omega,hq] at h4; cases h4; exact ha
 obtain ⟨ix,s,P⟩:=C_ (I.JC p (List.mem_of_getElem? hp)); obtain ⟨iy,s',Q⟩:=C_ (I.ya q (List.mem_of_getElem? hq)); obtain ⟨ao,o1,o2⟩:=TI I.top I.wl.own hO; obtain ⟨am,m1,m2⟩:=TI I.top I.wm.own hM; obtain ⟨ap,vp,p1,p2,p3⟩:=cj I.top I.hh hp; obtain ⟨aq,vq,q1,q2,q3⟩:=cj I.top I.kk hq; have l17:∀ W',Kp A W'→ld prog 89 (.pointer (some ⟨YJ,0,none⟩)) W'=some (.pointer (some ⟨bm,0,none⟩)):=fun W' kk=>AF a89 (a:=⟨YJ,0,none⟩) (kk.cell I.top (I.p17.cell rfl)); have lvm:∀ W',Kp A W'→ld prog 40 (.pointer (some ⟨bm,0,none⟩)) W'=some vm:=fun W' kk=>AF Nb (a:=⟨bm,0,none⟩) (kk.cell I.top (I.wm.w.cell rfl)); have zA:=kA.sz; have k1:Kp W (W.new (.cells .nil 2 #[.string ⟨#[]⟩,.slice none 0 0] 56)):=.new _; have t1:=ht.new (.cells .nil 2 #[.string ⟨#[]⟩,.slice none 0 0] 56); have db:(W.new (.cells .nil 2 #[.string ⟨#[]⟩,.slice none 0 0] 56)).obj W.sz=some (.cells .nil 2 #[.string ⟨#[]⟩,.slice none 0 0] 56):=by rw [BW,if_pos rfl]
 have Uv:(W.new (.cells .nil 2 #[.string ⟨#[]⟩,.slice none 0 0] 56)).sz=W.sz+1:=rfl; have eJ:∀ W0:CW,W0.obj W.sz=some (.cells .nil 2 #[.string ⟨#[]⟩,.slice none 0 0] 56)→ez (.pointer (some ⟨W.sz,0,none⟩)) ((W.new (.cells .nil 2 #[.string ⟨#[]⟩,.slice none 0 0] 56)).obj W.sz) W0=true:=fun W0 h0=>Lr h0 rfl; generalize oM:W.new (.cells .nil 2 #[.string ⟨#[]⟩,.slice none 0 0] 56)=W1 at k1 t1 db Uv eJ ⊢; have k2:Kp W1 (W1.new (.cells .nil 2 #[.string ⟨#[]⟩,.slice none 0 0] 56)):=.new _; have t2:=t1.new (.cells .nil 2 #[.string ⟨#[]⟩,.slice none 0 0] 56); have dW:(W1.new (.cells .nil 2 #[.string ⟨#[]⟩,.slice none 0 0] 56)).obj W1.sz=some (.cells .nil 2 #[.string ⟨#[]⟩,.slice none 0 0] 56):=by rw [BW,if_pos rfl]
 have V7:(W1.new (.cells .nil 2 #[.string ⟨#[]⟩,.slice none 0 0] 56)).sz=W1.sz+1:=rfl; have qu:∀ W0:CW,W0.obj W1.sz=some (.cells .nil 2 #[.string ⟨#[]⟩,.slice none 0 0] 56)→ez (.pointer (some ⟨W1.sz,0,none⟩)) ((W1.new (.cells .nil 2 #[.string ⟨#[]⟩,.slice none 0 0] 56)).obj W1.sz) W0=true:=fun W0 h0=>Lr h0 rfl; generalize hW2:W1.new (.cells .nil 2 #[.string ⟨#[]⟩,.slice none 0 0] 56)=W2 at k2 t2 dW V7 qu ⊢; have lY:W2.obj W.sz=some (.cells .nil 2 #[.string ⟨#[]⟩,.slice none 0 0] 56):=by rw [k2.obj _ (by omega)]; exact db
 have mkB:∀ b,W2.obj b=some (.cells .nil 2 #[.string ⟨#[]⟩,.slice none 0 0] 56)→BX W2 b 56 [.string ⟨#[]⟩,.slice none 0 0]:=fun b hb=>⟨.nil,2,_,hb,rfl,fun k v hk=>by
  match k,hk with
  | 0,hk=>cases hk; rfl
  | 1,hk=>cases hk; rfl⟩
 have B1:=mkB _ lY; have B2:=mkB _ dW; have iA:=(kA.trans k1).trans k2; rw [o1]; simp only [AA,o2 W kA,Ak]; rw [show ((nv+1:Nat):Int)-1=(nv:Nat) by omega,wrap64 (by omega) (by omega),p1]; simp only [AA,p2 W2 iA,l17 W2 iA,Hs,Lp,lvm W2 iA,m1,m2 W2 iA,Ak]; rw [show ((nw+1:Nat):Int)-1=(nw:Nat) by omega,wrap64 (by omega) (by omega),q1]; simp only [AA,q2 W2 iA]; refine ⟨trivial,trivial,?_⟩; obtain ⟨au,cs,rfl,_⟩:=id p3; obtain ⟨au',YA,rfl,_⟩:=id q3; refine Eu MN (a:=⟨W.sz,0,none⟩) (ws:=[.string p.type,.slice au p.AH.length cs]) rfl rfl B1 (by simp) fun W3 PT JY=>?_; have PT:ED W.sz W2 W3:=PT; have JY:BX W3 W.sz 56 [.string p.type,.slice au p.AH.length cs]:=JY; have t3:=t2.BB (by omega) PT; have B23:=B2.congr (PT.obj _ (by omega)); refine Eu MN (a:=⟨W1.sz,0,none⟩) (ws:=[.string q.type,.slice au' q.AH.length YA]) rfl rfl B23 (by simp) fun W4 hu4 Mz=>?_; have hu4:ED W1.sz W3 W4:=hu4; have Mz:BX W4 W1.sz 56 [.string q.type,.slice au' q.AH.length YA]:=Mz; have t4:=t3.BB (by rw [PT.sz]; omega) hu4; have uq:=JY.congr (hu4.obj _ (by omega)); have dI:Kp A W3:=iA.BB (by omega) PT; have yb:Kp A W4:=dI.BB (by omega) hu4; refine ⟨by simp only [p2 W2 iA,l17 W2 iA,lvm W2 iA,m2 W2 iA,q2 W2 iA,l17 W3 dI,lvm W3 dI,m2 W3 dI,q2 W3 dI,and_self],by simp only [eJ W2 lY,qu W2 dW,and_self],?_⟩
 have mQ:Marks A.sz W4 ds:=hm.IF fun j hj _=>by
  have:=ht _ _ hj; rw [hu4.obj _ (by omega),PT.obj _ (by omega),k2.obj _ (by omega),k1.obj _ this]; exact hj
 have k33:∀ (e2:Env) (bad:Bool),e2 105=.bool bad→AEn e2 JQ Hu dG Z' YJ vl v1 v3 O.length i→e2 20=.pointer (some ⟨W.sz,0,none⟩)→e2 21=.pointer (some ⟨W1.sz,0,none⟩)→(bad=true↔¬(p.type=q.type∧p.AH.length=q.AH.length)) →
   (Vp none (J_ (fun i e' DC W'=>Kp A W'∧Ag W'∧Marks A.sz W' DC∧AEn e' JQ Hu dG Z' YJ vl v1 v3 O.length i∧∀ j,j<i→ATh c h O k M j) i O.length K)) .normal e2 ds W4:=by
  intro e2 bad AIY E2 h20 h21 GK; simp only [Vp,Ay,AIY]
  refine AD (fun hb=>?_) (fun hb=>?_)
  ·rw [E2.qL,E2.Z1]; refine vV I yb t4 fun W5 hs hc=>?_; simp only [Z3,TG,G4,xc,JI,Fz,Ml,zKp]; refine Fl _ ds W5 hs (mQ.IF fun j hj _=>by rw [hc.obj _ (t4 _ _ hj) (I.nd yb j hj)]; exact hj) E2.qL E2.Z1 fun hA=>?_; have:=ADA.1 fun v w p q=>hA.2 i v w p q; exact GK.1 hb ⟨this.1,this.2.1⟩
  ·have hb:p.type=q.type∧p.AH.length=q.AH.length:=Classical.byContradiction fun hn=>by
    have:=GK.2 hn; rw [hb] at this
    cases this
   refine lX I yb t4 mQ E2 h20 h21 uq Mz (p3.imp fun _ _ _ hr=>hr.kp I.top yb) (q3.imp fun _ _ _ hr=>hr.kp I.top yb) P hb.2 (by omega) (fun e' DC W' hs oO Zi kJ hx=>?_) (fun e' DC W' k' t' oO E' hv=>?_)
   ·simp only [Ml]; refine Fl e' DC W' hs oO Zi kJ fun hA=>?_; obtain ⟨m,My,D0⟩:=hx; have:=ADA.1 fun v w p q=>hA.2 i v w p q; exact D0 fun x y hx hy=>this.2.2 m ix x y P.ti hx hy
   ·refine ⟨Ae,k',t',oO,E',fun j hj=>?_⟩
    by_cases e:j=i
    ·subst e; refine ADA.2 ⟨hb.1,hb.2,fun m ix' x y IT hx hy=>?_⟩; rw [P.ti] at IT; cases IT; exact hv m (List.getElem?_eq_some_iff.1 hx).1 x y hx hy
    ·exact hat j (by omega)
 have lt:ld prog 9 (.pointer (some ⟨W.sz,0,none⟩)) W4=some (.string p.type):=AF a9 (a:=⟨W.sz,0,none⟩) (uq.cell rfl); have lt':ld prog 9 (.pointer (some ⟨W1.sz,0,none⟩)) W4=some (.string q.type):=AF a9 (a:=⟨W1.sz,0,none⟩) (Mz.cell rfl); have lv:ld prog 40 (.pointer (some ⟨W.sz,0+1,none⟩)) W4=some (.slice au p.AH.length cs):=AF Nb (a:=⟨W.sz,0+1,none⟩) (uq.cell rfl); have lv':ld prog 40 (.pointer (some ⟨W1.sz,0+1,none⟩)) W4=some (.slice au' q.AH.length YA):=AF Nb (a:=⟨W1.sz,0+1,none⟩) (Mz.cell rfl); simp only [IP,FL,lt,lt',AA,JW,G5,lv,lv',AU FJ,Au]
 refine AD (fun hb=>?_) (fun hb=>?_)
 ·have hb:¬p.type=q.type:=by simpa using hb
  exact k33 _ true (by simp only [AI,↓reduceIte]) ⟨by simp only [AI,AQ,Nat.reduceEqDiff,↓reduceIte,E.e1],by simp only [AI,AQ,Nat.reduceEqDiff,↓reduceIte,E.e3],by simp only [AI,AQ,Nat.reduceEqDiff,↓reduceIte,E.qL],by simp only [AI,AQ,Nat.reduceEqDiff,↓reduceIte,E.Z1],by simp only [AI,AQ,Nat.reduceEqDiff,↓reduceIte,E.zy],by simp only [AI,AQ,Nat.reduceEqDiff,↓reduceIte,E.e16],by simp only [AI,AQ,Nat.reduceEqDiff,↓reduceIte,E.e17],by simp only [AI,AQ,Nat.reduceEqDiff,↓reduceIte,E.e69],by simp only [AI,AQ,Nat.reduceEqDiff,↓reduceIte,E.e70],by simp only [AI,AQ,Nat.reduceEqDiff,↓reduceIte,E.e71]⟩ (by simp only [AI,Nat.reduceEqDiff,↓reduceIte]) (by simp only [AI,Nat.reduceEqDiff,↓reduceIte]) ⟨fun _ hh=>hb hh.1,fun _=>rfl⟩
 ·have hb:p.type=q.type:=by simpa using hb
  refine k33 _ ((p.AH.length:Int) != (q.AH.length:Int)) (by simp only [AI,↓reduceIte]) ⟨by simp only [AI,AQ,Nat.reduceEqDiff,↓reduceIte,E.e1],by simp only [AI,AQ,Nat.reduceEqDiff,↓reduceIte,E.e3],by simp only [AI,AQ,Nat.reduceEqDiff,↓reduceIte,E.qL],by simp only [AI,AQ,Nat.reduceEqDiff,↓reduceIte,E.Z1],by simp only [AI,AQ,Nat.reduceEqDiff,↓reduceIte,E.zy],by simp only [AI,AQ,Nat.reduceEqDiff,↓reduceIte,E.e16],by simp only [AI,AQ,Nat.reduceEqDiff,↓reduceIte,E.e17],by simp only [AI,AQ,Nat.reduceEqDiff,↓reduceIte,E.e69],by simp only [AI,AQ,Nat.reduceEqDiff,↓reduceIte,E.e70],by simp only [AI,AQ,Nat.reduceEqDiff,↓reduceIte,E.e71]⟩ (by simp only [AI,Nat.reduceEqDiff,↓reduceIte]) (by simp only [AI,Nat.reduceEqDiff,↓reduceIte]) ⟨fun h1 hh=>?_,fun h1=>?_⟩
  ·rw [hh.2] at h1; simp at h1
  ·simp only [bne_iff_ne,ne_eq]; intro e; exact h1 ⟨hb,by omega⟩
end
end Go.Ce
namespace Go.Ce
open Go Go.Proofs Go.Proofs.Tryz
theorem s89:D_ prog 89=some 1:=by kernel_rfl
theorem AIZ:agg? prog 30=some false:=by kernel_rfl
theorem dJ (r1 r2:Nat) (a:Option Addr) (n m:Nat):wE prog 131 [(0,.agg [.map (some r1),.map (some r2)].toArray),(1,.slice a n m)]=some (.agg #[.map (some r1),.map (some r2),.slice a n m]):=by kernel_rfl
theorem gd:Tryz.f20.results.toList=[.cell 10 4,.cell 11 30]:=by kernel_rfl
theorem vX {W:CW} {b k:Nat} {v:Value} (h:W.cell b k=some v):∃ o,W.obj b=some o∧o≠.deferred:=by
 unfold CW.cell at h
 cases ho:W.obj b with
 | none=>rw [ho] at h; cases h
 | some o=>exact ⟨o,rfl,fun e=>by subst e; rw [ho] at h; cases h⟩
theorem Lz {c:List Al} {h:List B9} {root:Int} (hz:A7 c h root=0):BM c=true∧(¬DT c h≥0)∧0≤root∧root≤h.length:=by
 unfold A7 at hz
 split at hz
 ·rename_i h1
  split at hz
  ·cases hz
  ·rename_i h2
   split at hz
   ·cases hz
   ·rename_i h3; exact ⟨h1,h2,by omega,by omega⟩
 ·cases hz
def Fo (c:List Al) (h:List B9) (a:Int) (k:List B9) (b:Int):Int:=if A7 c h a≠0 then A7 c h a else A7 c k b
def OG (c:List Al) (h:List B9) (a:Int) (k:List B9) (b:Int) (W:CW):Ending→CW→Prop:=fun en W'=>Kp W W'∧Ag W'∧∃ q,en=.returned (.tuple #[.bool q,.int .i64 (Fo c h a k b)])∧(Fo c h a k b≠0→q=false)∧(Fo c h a k b=0→(q=true↔TW c h (Ax c [] h a) k (Ax c [] k b)))
theorem lZ {v0 v1 v3:Value} {c:List Al} {h k:List B9} {a b:Int} {W:CW} (ht:Ag W) (hc:AV 5 (Dc W) v0 c) (hC:Ng c) (hh:AV 2 (Ek W) v1 h) (hk:AV 2 (Ek W) v3 k) (hv:∀ x,x ∈ h→x.AH.length<100000) (kv:∀ x,x ∈ k→x.AH.length<100000) (hs:h.length<1000000) (ks:k.length<1000000) :
  AX prog Br 20 [v0,v1,.int .i64 a,v3,.int .i64 b] W (OG c h a k b W):=by
 refine AF' ?_; rw [AF9]; generalize GD:AJ prog Tryz.f20 (OG c h a k b W)=KK; obtain ⟨ah,ch,rfl,_⟩:=id hh; obtain ⟨ak,ck,rfl,_⟩:=id hk; refine JB z4 s4 ht fun W0 k0 t0 z0 dH=>?_; have dH:BX W0 W.sz 4 [.bool false]:=dH; refine JB z30 s30 t0 fun W1 k1 t1 z1 Rr=>?_; have Rr:BX W1 W0.sz 30 [.int .i64 0]:=Rr; have dH:=dH.ext t0 k1; have nU:=k0.trans k1
 have fin:∀ (e:Env) (ds:List Deferred) (W':CW) (q:Bool),Kp W W'→Ag W'→Marks W.sz W' ds→W'.cell W.sz 0=some (.bool q)→W'.cell W0.sz 0=some (.int .i64 (Fo c h a k b))→e 10=.pointer (some ⟨W.sz,0,none⟩)→e 11=.pointer (some ⟨W0.sz,0,none⟩)→(Fo c h a k b≠0→q=false)→(Fo c h a k b=0→(q=true↔TW c h (Ax c [] h a) k (Ax c [] k b)))→KK .ret e ds W':=by
  intro e ds W' q k' t' hm c10 c11 KC Mr y9 sM; rw [←GD]; refine UO t' hm fun W2 g1 g2 g3 t2=>?_
  have cc:∀ {b v},W'.cell b 0=some v→W2.cell b 0=some v:=fun {b v} hb=>by
   obtain ⟨o,ho,D0⟩:=vX hb; rw [MM ((g1 b o ho D0).trans ho.symm)]; exact hb
  refine gO gd KC Mr (AF a4 (a:=⟨W.sz,0,none⟩) (cc c10)) (AF AIZ (a:=⟨W0.sz,0,none⟩) (cc c11)) ?_; exact ⟨⟨by rw [g3]; exact k'.sz,fun j hj=>by rw [g2 j hj]; exact k'.obj j hj⟩,t2,q,rfl,y9,sM⟩
 have stop:∀ (e:Env) (W':CW) (er:Int),Kp W1 W'→Ag W'→er=Fo c h a k b→e 10=.pointer (some ⟨W.sz,0,none⟩)→e 11=.pointer (some ⟨W0.sz,0,none⟩)→(er=0→¬TW c h (Ax c [] h a) k (Ax c [] k b)) →
   wV (Mf prog 4 (.pointer (some ⟨W.sz,0,none⟩)) (.bool false) W') fun W6=>wV (Mf prog 30 (.pointer (some ⟨W0.sz,0,none⟩)) (.int .i64 er) W6) fun W7=>KK .ret e [] W7:=by
  intro e W' er k' t' her KC Mr hn; have zW:=k'.sz; have gf:=dH.ext t1 k'; have Z_:=Rr.ext t1 k'; refine An s4 (a:=⟨W.sz,0,none⟩) rfl gf (by simp) fun W6 Yj hq6=>?_; have Yj:ED W.sz W' W6:=Yj; have hq6:BX W6 W.sz 4 [.bool false]:=hq6; have gg:=Z_.congr (Yj.obj _ (by omega)); refine An s30 (a:=⟨W0.sz,0,none⟩) rfl gg (by simp) fun W7 rJ hq7=>?_; have rJ:ED W0.sz W6 W7:=rJ; have hq7:BX W7 W0.sz 30 [.int .i64 er]:=hq7; have t6:=t'.BB (gf.lt t') Yj; refine fin e [] W7 false (((nU.trans k').BB (Nat.le_refl _) Yj).BB k0.sz rJ) (t6.BB (gg.lt t6) rJ) (.nil _ _) ((hq6.congr (rJ.obj _ (by omega))).cell rfl) (by rw [←her]; exact hq7.cell rfl) KC Mr (fun _=>rfl) fun hz=>⟨fun hf=>(by cases hf),fun hA=>(hn (her.trans hz) hA).elim⟩
 refine (OE t1 (hc.imp fun _ _ _ hr=>hr.kp ht nU) hC (hh.imp fun _ _ _ hr=>hr.kp ht nU) hv hs).mono fun en W2 ⟨k2,t2,r1,r2,E9,FZ⟩=>?_; subst E9; refine AP ?_; refine As (BU _ _) ?_; refine As (BV _ _) ?_; unfold Jy; refine Dt (ws:=[.map (some r1),.map (some r2)]) nN OC rfl rfl rfl t2 fun W5 k5 t5 z5 AGQ=>?_; have nQ:=k2.trans k5; simp only [Au,AA]
 refine AD (fun he=>?_) (fun he=>?_)
 ·have he:A7 c h a≠0:=by simpa using he
  exact stop _ W5 _ nQ t5 (by unfold Fo; rw [if_pos he]) rfl rfl fun hz=>(he hz).elim
 have he:A7 c h a=0:=by simpa using he
 have yc:=nU.trans nQ; refine (OE t5 (hc.imp fun _ _ _ hr=>hr.kp ht yc) hC (hk.imp fun _ _ _ hr=>hr.kp ht yc) kv ks).mono fun en W8 ⟨k8,t8,r1',r2',E9,AI0⟩=>?_; subst E9; refine AP ?_; refine As (BU _ _) ?_; refine As (BV _ _) ?_; unfold Jy; refine Dt (ws:=[.map (some r1'),.map (some r2')]) nN OC rfl rfl rfl t8 fun Xc k11 t11 z11 _=>?_; have k1B:=(nQ.trans k8).trans k11; simp only [Au,AA]
 refine AD (fun NG=>?_) (fun NG=>?_)
 ·have NG:A7 c k b≠0:=by simpa using NG
  exact stop _ Xc _ k1B t11 (by unfold Fo; rw [if_neg (by simpa using he)]) rfl rfl fun hz=>(NG hz).elim
 have NG:A7 c k b=0:=by simpa using NG
 have haE:(0:Int)=Fo c h a k b:=by unfold Fo; rw [if_neg (by simpa using he),NG]
 obtain ⟨Ai,Uo,Uz,Dz⟩:=Lz he; obtain ⟨_,AIa,wg,sD⟩:=Lz NG; obtain ⟨Lx,JC⟩:=D5 Uo; obtain ⟨AGR,ya⟩:=D5 AIa; have AAA:=FZ Ai; have n1:Kp Xc (Xc.new (.cells .nil 1 #[.pointer none] 89)):=.new _; have tn1:=t11.new (.cells .nil 1 #[.pointer none] 89); have db:(Xc.new (.cells .nil 1 #[.pointer none] 89)).obj Xc.sz=some (.cells .nil 1 #[.pointer none] 89):=by rw [BW,if_pos rfl]
 have Uv:(Xc.new (.cells .nil 1 #[.pointer none] 89)).sz=Xc.sz+1:=rfl; have eJ:∀ V:CW,V.obj Xc.sz=some (.cells .nil 1 #[.pointer none] 89)→ez (.pointer (some ⟨Xc.sz,0,none⟩)) ((Xc.new (.cells .nil 1 #[.pointer none] 89)).obj Xc.sz) V=true:=fun V h0=>Lr h0 rfl; generalize hV1:Xc.new (.cells .nil 1 #[.pointer none] 89)=V1 at n1 tn1 db Uv eJ ⊢; have n2:Kp V1 (V1.new (.cells .nil 1 #[.pointer none] 89)):=.new _; have tn2:=tn1.new (.cells .nil 1 #[.pointer none] 89); have dW:(V1.new (.cells .nil 1 #[.pointer none] 89)).obj V1.sz=some (.cells .nil 1 #[.pointer none] 89):=by rw [BW,if_pos rfl]
 have V7:(V1.new (.cells .nil 1 #[.pointer none] 89)).sz=V1.sz+1:=rfl; have qu:∀ V:CW,V.obj V1.sz=some (.cells .nil 1 #[.pointer none] 89)→ez (.pointer (some ⟨V1.sz,0,none⟩)) ((V1.new (.cells .nil 1 #[.pointer none] 89)).obj V1.sz) V=true:=fun V h0=>Lr h0 rfl; generalize hV2:V1.new (.cells .nil 1 #[.pointer none] 89)=V2 at n2 tn2 dW V7 qu ⊢; have lY:V2.obj Xc.sz=some (.cells .nil 1 #[.pointer none] 89):=by rw [n2.obj _ (by omega)]; exact db
 have mkB:∀ b,V2.obj b=some (.cells .nil 1 #[.pointer none] 89)→BX V2 b 89 [.pointer none]:=fun b hb=>⟨.nil,1,_,hb,rfl,fun k v hk=>by
  match k,hk with
  | 0,hk=>cases hk; rfl⟩
 have n12:=n1.trans n2; have k5V:Kp W5 V2:=(k8.trans k11).trans n12; have l12:∀ V,Kp W5 V→ld prog 78 (.pointer (some ⟨W2.sz,0,none⟩)) V=some (.agg [.map (some r1),.map (some r2)].toArray):=fun V kk=>CG (vs:=[.map (some r1),.map (some r2)]) (a:=⟨W2.sz,0,none⟩) rG OC rfl (by omega) (AGQ.ext t5 kk).cells; have kWV:Kp W V2:=yc.trans k5V; have AAB:FE V2 r1 r2 c:=AAA.kp t2 (k5.trans k5V); rw [l12 V2 k5V]; simp only [AA,dJ]; refine (OF tn2 AAB Ai hC (hh.imp fun _ _ _ hr=>hr.kp ht kWV) JC (by omega) Uz Dz).mono fun en uh ⟨kq,t14,bl,rl,vl,E9,uN,zbl,zrl,nvl,hFl⟩=>?_; subst E9; refine AP ?_; have AGS:=k5V.trans kq; rw [l12 uh AGS]; simp only [AA,dJ]; refine (OF t14 (AAB.kp tn2 kq) Ai hC (hk.imp fun _ _ _ hr=>hr.kp ht (kWV.trans kq)) ya (by omega) wg sD).mono fun en Vk ⟨k16,t16,bm,rm,vm,E9,hwm,zbm,zrm,nvm,hFm⟩=>?_; subst E9; refine AP ?_; have qN:=kq.trans k16; have AJZ:=qN.sz; have AJa:=kq.sz; have AJb:=k1B.sz; refine ⟨trivial,trivial,?_⟩; refine An s89 (a:=⟨Xc.sz,0,none⟩) (v:=.pointer (some ⟨bl,0,none⟩)) rfl ((mkB _ lY).ext tn2 qN) (by simp) fun rH lg qO=>?_; have lg:ED Xc.sz Vk rH:=lg; have qO:BX rH Xc.sz 89 [.pointer (some ⟨bl,0,none⟩)]:=qO; have t18:=t16.BB (by omega) lg; have qP:=((mkB _ dW).ext tn2 qN).congr (lg.obj _ (by omega)); refine An s89 (a:=⟨V1.sz,0,none⟩) (v:=.pointer (some ⟨bm,0,none⟩)) rfl qP (by simp) fun A qQ qP=>?_; have qQ:ED V1.sz rH A:=qQ; have qP:BX A V1.sz 89 [.pointer (some ⟨bm,0,none⟩)]:=qP; have tA:=t18.BB (by rw [lg.sz]; omega) qQ; have qO:=qO.congr (qQ.obj _ (by omega)); have oA:∀ j,j≠Xc.sz→j≠V1.sz→A.obj j=Vk.obj j:=fun j h1 h2=>by rw [qQ.obj j h2,lg.obj j h1]
 have kA:Kp Xc A:=((n12.trans qN).BB (Nat.le_refl _) lg).BB (by omega) qQ; refine ⟨by simp only [l12 uh AGS,l12 V2 k5V,and_self],by simp only [eJ V2 lY,qu V2 dW,eJ uh (by rw [kq.obj _ (by omega)]; exact lY),qu uh (by rw [kq.obj _ (by omega)]; exact dW),eJ Vk (by rw [qN.obj _ (by omega)]; exact lY),qu Vk (by rw [qN.obj _ (by omega)]; exact dW),and_self],?_⟩
 have wkA:∀ {V:CW} {bw rp:Nat} {vo:Value} {o:List Int},Kp V Vk→Ag V→OR V bw rp vo o→V2.sz≤bw→V2.sz≤rp→BF V2.sz vo→OR A bw rp vo o:=fun {V bw rp vo o} kk tt hw z1 z2 nv=>by
  have hw:=hw.kp tt kk; refine ⟨hw.w.congr (oA _ (by omega) (by omega)),Z2 hw.own fun j hj=>?_,hw.p.congr (oA _ (by omega) (by omega))⟩; obtain ⟨b',l',c',e1,e2⟩:=hj; have:=nv b' l' c' e1; exact oA _ (by omega) (by omega)
 have wl:=wkA k16 t14 uN zbl zrl nvl; have wm:=wkA (.refl _) t16 hwm (by omega) (by omega) fun b' l' c' e1=>by have:=nvm b' l' c' e1; omega
 have k5A:Kp W5 A:=(k8.trans k11).trans kA; have k1A:=k1B.trans kA; have l16:ld prog 89 (.pointer (some ⟨Xc.sz,0,none⟩)) A=some (.pointer (some ⟨bl,0,none⟩)):=AF a89 (a:=⟨Xc.sz,0,none⟩) (qO.cell rfl); have l17:ld prog 89 (.pointer (some ⟨V1.sz,0,none⟩)) A=some (.pointer (some ⟨bm,0,none⟩)):=AF a89 (a:=⟨V1.sz,0,none⟩) (qP.cell rfl); have lvl:ld prog 40 (.pointer (some ⟨bl,0,none⟩)) A=some vl:=AF Nb (a:=⟨bl,0,none⟩) (wl.w.cell rfl); have lvm:ld prog 40 (.pointer (some ⟨bm,0,none⟩)) A=some vm:=AF Nb (a:=⟨bm,0,none⟩) (wm.w.cell rfl); simp only [l16,l17,Hs,Lp,lvl,lvm,AA,GB FJ wl.own,GB FJ wm.own,BY,Au]; refine ⟨by simp only [and_self],trivial,?_⟩
 refine AD (fun hl=>?_) (fun hl=>?_)
 ·refine stop _ A 0 k1A tA haE rfl rfl fun _ hA=>?_; have hA:=hA.1; rw [hA] at hl; simp at hl
 have hl:(Ax c [] h a).length=(Ax c [] k b).length:=by
  have:((Ax c [] h a).length:Int)=((Ax c [] k b).length:Int):=by simpa using hl
  omega
 have I:zx A W.sz W0.sz W2.sz Xc.sz V1.sz bl rl bm rm r1 r2 vl vm (.slice ah h.length ch) (.slice ak k.length ck) c h k (Ax c [] h a) (Ax c [] k b) :=
  ⟨tA,dH.ext t1 k1A,Rr.ext t1 k1A,AGQ.ext t5 k5A,qO,qP,wl,wm,AAA.kp t2 (k5.trans k5A),hh.imp fun _ _ _ hr=>hr.kp ht (nU.trans k1A),hk.imp fun _ _ _ hr=>hr.kp ht (nU.trans k1A),Ai,hC,JC,ya,hFl,hFm,Lx,AGR,hl⟩
 have hmW:∀ W' ds,Marks A.sz W' ds→Marks W.sz W' ds:=fun W' ds ⟨rs,g1,g2,g3⟩=>⟨rs,g1,g2,fun r hr=>⟨(g3 r hr).1,by have:=(g3 r hr).2; have:=(nU.trans k1A).sz; omega⟩⟩
 have lh:=nU.trans k1A; have zWA:=lh.sz
 refine vW I ⟨rfl,rfl,rfl,rfl,rfl,rfl,rfl,rfl,rfl,rfl⟩ (fun e' DC W' O' oO Zi kJ hnA=>?_) (fun e' DC W' k' t' oO E' hA=>?_)
 ·simp only [G4,JI,cg]; refine fin e' DC W' false (D7.kp lh O'.1 ?_) O'.2.1 (hmW _ _ oO) O'.2.2.1 (by rw [←haE]; exact O'.2.2.2) Zi kJ (fun _=>rfl) fun _=>⟨fun hf=>(by cases hf),fun hA=>(hnA hA).elim⟩
  rintro j (rfl | rfl)
  ·exact Nat.le_refl _
  ·exact k0.sz
 ·simp only [Gc,if_true,cg,Ay]; rw [E'.qL,E'.Z1]; have gf:=I.JQ.ext tA k'; have Z_:=I.Hu.ext tA k'; refine An s4 (a:=⟨W.sz,0,none⟩) (v:=.bool true) rfl gf (by simp) fun W6 Yj hq6=>?_; have Yj:ED W.sz W' W6:=Yj; have hq6:BX W6 W.sz 4 [.bool true]:=hq6; have gg:=Z_.congr (Yj.obj _ (by omega)); refine An s30 (a:=⟨W0.sz,0,none⟩) (v:=.int .i64 0) rfl gg (by simp) fun W7 rJ hq7=>?_; have rJ:ED W0.sz W6 W7:=rJ; have hq7:BX W7 W0.sz 30 [.int .i64 0]:=hq7; have t6:=t'.BB (gf.lt t') Yj; refine fin e' DC W7 true (((lh.trans k').BB (Nat.le_refl _) Yj).BB k0.sz rJ) (t6.BB (gg.lt t6) rJ) ((hmW _ _ oO).IF fun j hj _=>?_) ((hq6.congr (rJ.obj _ (by omega))).cell rfl) (by rw [←haE]; exact hq7.cell rfl) E'.qL E'.Z1 (fun D0=>(D0 haE.symm).elim) fun _=>⟨fun _=>hA,fun _=>rfl⟩
  have:=I.nd k' j hj; rw [rJ.obj _ (by omega),Yj.obj _ (by omega)]; exact hj
theorem lj {v0 v1:Value} {c:List Al} {h:List B9} {W:CW} (ht:Ag W) (hc:AV 5 (Dc W) v0 c) (hC:Ng c) (hh:AV 2 (Ek W) v1 h) (hv:∀ x,x ∈ h→x.AH.length<100000) (hs:h.length<1000000) :
  AX prog Br 27 [v0,v1] W (YC (if BM c then (if DT c h≥0 then .tuple #[.int .i64 (DT c h),.int .i64 211] else .tuple #[.int .i64 0,.int .i64 0]) else .tuple #[.int .i64 0,.int .i64 210]) W):=by
 refine AGA ?_; rw [AF_]; refine (Jz ht hc hC).mono fun en W1 ⟨k1,t1,r1,r2,E9,SJ,fh,FZ⟩=>?_; subst E9; refine AP ?_; refine As (BU _ _) ?_; refine As (BV _ _) ?_; unfold Jy; refine Dt (ws:=[.map (some r1),.map (some r2)]) nN OC rfl rfl rfl t1 fun W3 k3 t3 z3 It=>?_; have TX:=k1.trans k3; simp only [Ac,AA]
 cases Ai:BM c with
 | false =>
  simp only [Bool.not_false,A3]; rw [TH]; exact ⟨rfl,TX,t3⟩
 | true =>
  simp only [Bool.not_true,Ab]; have JD:=(FZ Ai).kp t1 k3; rw [CG (vs:=[.map (some r1),.map (some r2)]) (a:=⟨W1.sz,0,none⟩) rG OC rfl (by omega) It.cells]; simp only [AA]; refine (gD (r1:=r1) (r2:=r2) t3 JD Ai hC (hh.imp fun _ _ _ hr=>hr.kp ht TX) hv hs).mono fun en W4 ⟨E9,k4,t4⟩=>?_; subst E9; refine AP ?_; simp only [CZ,AA]
  refine AD (fun hi=>?_) (fun hi=>?_)
  ·have hi:DT c h≥0:=by simpa using hi
   rw [TH,if_pos hi]; exact ⟨rfl,TX.trans k4,t4⟩
  ·have hi:¬DT c h≥0:=by simpa using hi
   rw [TH,if_neg hi]; exact ⟨rfl,TX.trans k4,t4⟩
end Go.Ce
namespace Go.Ce
open Go Go.Proofs Go.Proofs.Tryz
theorem nb {W:CW} {el n:Nat} {v:Value} {cs:List Value} (h:CD W el n v cs):∃ a m k,v=.slice a m k:=by cases h <;> exact ⟨_,_,_,rfl⟩
theorem gh {W:CW}:AX prog Br 113 [.slice none 0 0] W (GV (.tuple #[]) W):=by
 have AIb:AX prog Br 141 [.slice none 0 0,.int .i64 0,.int .i64 0] W (GV (.tuple #[]) W):=by
  refine tV ?_; rw [tU]; simp only [AO,AA]; rw [wrap64 (by omega) (by omega)]; refine DK (fun k e ds W'=>ds=[]∧W'=W∧e 2=.int .i64 0∧e 6=.int .i64 (0+1)) 0 ⟨rfl,rfl,rfl,rfl⟩ ?_; rintro k e ds W' ⟨rfl,rfl,h2,h6⟩; rw [mn,h2,h6]; simp only [AS,AA]; rw [decide_eq_false (by omega),Ab]; simp only [Gc,UF,if_true]; exact J1 (by kernel_rfl) _ _ (.inl rfl) _ _ ⟨rfl,rfl⟩
 have AIc:AX prog Br 128 [.slice none 0 0,.int .i64 0,.int .i64 0,.int .i64 ((Ls 0:Nat):Int)] W (GV (.tuple #[]) W):=by
  refine tT ?_; rw [tS]; refine DK (fun k e ds W'=>ds=[]∧W'=W∧e 0=.slice none 0 0∧e 1=.int .i64 0∧e 2=.int .i64 0) 0 ⟨rfl,rfl,rfl,rfl,rfl⟩ ?_; rintro k e ds W' ⟨rfl,rfl,h0,h1,h2⟩; rw [mm,h0,h1,h2]; simp only [Ak,AA]; rw [wrap64 (by omega) (by omega)]; simp only [DY,AA]; rw [decide_eq_true (by omega),A3]; refine At AIb ?_; simp only [JI,tf]; exact J1 (by kernel_rfl) _ _ (.inr rfl) _ _ ⟨rfl,rfl⟩
 refine tR ?_; rw [tQ,AU FJ]; simp only [AA,uy]; rw [gL (by omega) (by omega)]; refine At (TE (n:=0) (by omega) W) ?_; refine At AIc ?_; exact J1 (by kernel_rfl) _ _ (.inl rfl) _ _ ⟨rfl,rfl⟩
theorem lk {l s:Nat} {vo:Value} {os:List Int} {W:CW} (hlen:os.length<100000) (J:Nat→CW→Prop) (hJ:∀ i W,J i W→W.cell s 0=some vo∧CD W 3 1 vo (Bm os))
  (ky:∀ i x W,os[i]?=some x→J i W→MI prog Br l [.int .i64 x] W fun e W'=>e=.returned (.bool true)∧J (i+1) W') (h0:J 0 W) :
  AX prog Br 114 [.func (.yield l) #[] #[],.pointer (some ⟨s,0,none⟩)] W fun e W'=>e=.returned (.tuple #[])∧J os.length W':=by
 refine AAq ?_; rw [AAp]; obtain ⟨hc,ho⟩:=hJ 0 W h0; rw [AF Nb (a:=⟨s,0,none⟩) hc]; simp only [AA]; rw [GB FJ ho,BY]; simp only [AA]; refine DI (fun i e ds W'=>ds=[]∧e 0=.func (.yield l) #[] #[]∧e 5=vo∧e 6=.int .i64 os.length∧e 7=.int .i64 i∧J i W') os.length ⟨rfl,rfl,rfl,rfl,rfl,h0⟩ ?_; rintro i e ds W' hi ⟨rfl,h0,h5,h6,h7,hj⟩; rw [xG,h0,h5,h6,h7]; simp only [AS,AA]
 refine FW (fun Ae=>?_) (fun HQ=>?_)
 ·have hx:=List.getElem?_eq_getElem Ae; obtain ⟨_,jw⟩:=hJ i W' hj; obtain ⟨ax,a1,a2⟩:=LA (f:=fun k:Int=>Value.int .i64 k) jw; obtain ⟨hv,P0⟩:=a2; obtain ⟨p,rfl,hp⟩:=P0 i _ hx; rw [hv,Ad FJ s3 Ae]; simp only [AA]; rw [AF a3 (a:=⟨p.block,p.off+i*1,none⟩) hp]; simp only [AA]; refine Rs ((ky i _ W' hx hj).mono fun en W1 ⟨he,qz⟩=>?_); subst he; simp only [DQ,Ac,AA,Bool.not_true,Ab,oo,Ay,G4,JI,Fz,Ml]; simp only [AI,AQ,Nat.reduceEqDiff,↓reduceIte,h7,AO,AA]; exact ⟨Ae,trivial,h0,by rw [h5,hv],h6,by rw [C4 (by omega)],qz⟩
 ·simp only [Gc,KA,if_true]; have hi:i=os.length:=by omega
  exact J1 (by kernel_rfl) _ _ (.inl rfl) _ _ ⟨rfl,hi ▸ hj⟩
theorem Yk {s:Nat} {vo:Value} {os:List Int} {W:CW} (ht:Ag W) (hs:BX W s 40 [vo]) (ho:CD W 3 1 vo (Bm os)) (hlen:os.length<100000) :
  AX prog Br 112 [.func (.func 114) #[] #[.pointer (some ⟨s,0,none⟩)]] W (fun en W'=>Kp W W'∧Ag W'∧∃ vr,en=.returned vr∧CD W' 3 1 vr (Bm os)∧BF W.sz vr):=by
 have AId:AX prog Br 127 [.slice none 0 0,.func (.func 114) #[] #[.pointer (some ⟨s,0,none⟩)]] W (fun en W'=>Kp W W'∧Ag W'∧∃ vr,en=.returned vr∧CD W' 3 1 vr (Bm os)∧BF W.sz vr):=by
  refine AAs ?_; rw [AAr]; refine Hn zV ht fun W0 k0 t0 z0 JN=>?_; have JN:BX W0 W.sz 40 [.slice none 0 0]:=JN; refine nA (g:=114) (args:=[.func (.yield (W0.sz+1)) #[] #[],.pointer (some ⟨s,0,none⟩)]) t0 (by simp only [Env.ev,AI,↓reduceIte]; rfl) fun W2 k2 t2 z2 hd hl=>?_; generalize hE:Env.of (Env.args [Value.slice none 0 0,Value.func (.func 114) #[] #[.pointer (some ⟨s,0,none⟩)]]) _=E at hl ⊢; have e2:E 2=.pointer (some ⟨W.sz,0,none⟩):=by rw [←hE]; rfl
  refine (lk hlen (J:=fun i W'=>ET W' (W0.sz+1) .ready none 127 E 13 #[7] (AM prog 127 0) (AN prog 127 0) W0.sz∧Kp W W'∧Ag W'∧W'.obj W0.sz=some .deferred∧W0.sz+2≤W'.sz∧∃ v,BX W' W.sz 40 [v]∧CD W' 3 1 v (Bm (os.take i))∧∀ m,Bj v m→W0.sz+2≤m) (vo:=vo) (fun i W' h=>⟨(hs.ext ht h.2.1).cell rfl,ho.kp ht h.2.1⟩) (fun i x W' hx h=>?_) ⟨hl,k0.trans k2,t2,hd,by omega,_,JN.ext t0 k2,CD.nil,fun m hm=>by obtain ⟨b,l,c,e,_⟩:=hm; cases e⟩).mono fun en W' ⟨he,hr⟩=>?_
  ·obtain ⟨Tx,kW,t',w4,dU,v,rI,ur,Ux⟩:=h; refine m8 Tx rfl ?_; rw [xH]; refine ⟨rfl,none,E,13,#[7],_,_,W0.sz,Tx,fun W3 hu tw=>?_⟩; have hW0:=k0.sz; have kW3:Kp W W3:=kW.BB (by omega) hu; have t3:=t'.BB (by omega) hu; have JY:=rI.congr (hu.obj W.sz (by omega)); have ho3:=HB ur hu fun b l c e he=>by have:=Ux b.block ⟨b,l,c,e,rfl⟩; omega
   have hz3:=hu.sz; rw [xI]
   have g2:(Env.of (E.Hx ((#[7]:Array Tmp).toList.zip [Value.int .i64 x])) [(5,E.Hx ((#[7]:Array Tmp).toList.zip [Value.int .i64 x]) 7)]) 2=.pointer (some ⟨W.sz,0,none⟩):=by
    simp only [AI,AQ,List.zip_cons_cons,List.zip_nil_left,Env.Hx]; exact e2
   have g5:(Env.of (E.Hx ((#[7]:Array Tmp).toList.zip [Value.int .i64 x])) [(5,E.Hx ((#[7]:Array Tmp).toList.zip [Value.int .i64 x]) 7)]) 5=.int .i64 x:=by
    simp only [AI,AQ,List.zip_cons_cons,List.zip_nil_left,Env.Hx,if_true]
   rw [g2,g5,AF Nb (a:=⟨W.sz,0,none⟩) (JY.cell rfl)]; simp only [AA]; have kB:(os.take i).length≤os.length:=by rw [List.length_take]; omega
   refine MU FJ s3 z3 rfl (by omega) tj (by omega) (Oz _) rfl rfl t3 ho3 (by rw [BY]; omega) fun u Wa v1 W7 ka ta H6 t7 o7 n7=>?_; have D0:=UH ho3 JY (by decide); have yR:=H6.j5 t3 JY D0; refine An (vs:=[v]) zV (a:=⟨W.sz,0,none⟩) (S6 o7) yR (by simp) fun W8 hu8 OP=>?_; have hu8:ED W.sz W7 W8:=hu8; have OP:BX W8 W.sz 40 [v1]:=OP; have Ul:=H6.sz; have hn7:BF W3.sz v1:=n7 _ (Nat.le_refl _); have OZ:∀ j,Bj v j→W0.sz+2≤j:=Ux
   have AGT:∀ j,j≤W0.sz+1→j≠W.sz→W8.obj j=W3.obj j:=fun j hj D0=>by
    rw [hu8.obj j D0,H6.obj j (by omega) fun b l c e hb=>by have:=OZ b.block ⟨b,l,c,e,rfl⟩; omega]
   refine ⟨.busy,none,127,E,13,#[7],_,_,W0.sz,tw.congr (AGT _ (by omega) (by omega)),fun W5 OQ hl5=>⟨rfl,hl5,?_,?_,?_,?_,v1,?_,?_,fun m hm=>?_⟩⟩
   ·have hk7:Kp W W7:=H6.kp kW3 fun b l c e=>by have:=OZ b.block ⟨b,l,c,e,rfl⟩; omega
    exact (hk7.BB (Nat.le_refl _) hu8).BB (by omega) OQ
   ·exact (t7.BB (by omega) hu8).BB (by rw [hu8.sz]; omega) OQ
   ·rw [OQ.obj _ (by omega),AGT _ (by omega) (by omega),hu.obj _ (by omega)]; exact w4
   ·rw [OQ.sz,hu8.sz]; omega
   ·exact OP.congr (OQ.obj _ (by omega))
   ·have h8:=HB o7 hu8 fun b l c e he=>by have:=hn7 b l c e; omega
    have h5:=HB h8 OQ fun b l c e he=>by have:=hn7 b l c e; omega
    rw [List.take_add_one,hx,Option.toList_some,Lm]; exact h5
   ·have:=hn7.in hm; omega
  ·obtain ⟨Tx,kW,t',w4,dU,v,rI,ur,Ux⟩:=hr; refine ⟨⟨_,he⟩,.ready,none,127,E,13,#[7],_,_,W0.sz,Tx,(by intro h; cases h),fun W5 OQ=>?_⟩; have hW0:=k0.sz; simp only [Ay,jr,ml,e2]; rw [AF Nb (a:=⟨W.sz,0,none⟩) ((rI.congr (OQ.obj _ (by omega))).cell rfl)]; simp only [AA]; refine J0 (by rw [OQ.obj _ (by omega)]; exact w4) ?_; have Yj:ED W0.sz W5 (W5.BB W0.sz .dead):=ED.of _ _ _; rw [jS]; rw [List.take_length] at ur; refine ⟨(kW.BB (by omega) OQ).BB (by omega) Yj,(t'.BB (by omega) OQ).BB (by rw [OQ.sz]; omega) Yj,v,?_,HB (HB ur OQ fun b l c e he=>by have:=Ux b.block ⟨b,l,c,e,rfl⟩; omega) Yj fun b l c e he=>by have:=Ux b.block ⟨b,l,c,e,rfl⟩; omega,fun b l c e=>by have:=Ux b.block ⟨b,l,c,e,rfl⟩; omega⟩; simp only [AI,if_true]
 refine AAo ?_; rw [AAn]; refine AId.mono fun en W' ⟨k,t,vr,he,ho,hn⟩=>?_; subst he; refine AP ?_; rw [jR]; exact ⟨k,t,vr,rfl,ho,hn⟩
end Go.Ce
namespace Go.Ce
open Go Go.Proofs Go.Proofs.Tryz
theorem vY {W:CW} {b n:Nat} {l:List Int} (ht:Ag W) (hd:Ar W b l) (Mx:l.length=n) (hn:n<50):AX prog Br 113 [.slice (some ⟨b,0,none⟩) n n] W (Un b 0 n l (Std 0 n) W):=by
 refine tR ?_; rw [tQ,AU FJ]; simp only [AA,uy]; rw [gL (by omega) (by omega)]; refine At (TE hn W) ?_; refine (AIM hn n ht hd Mx (by omega) (by omega) (by omega) (by omega) (fun h=>by omega)).mono fun en W1 ⟨he,S⟩=>?_; subst he; refine AP ?_; exact J1 (by kernel_rfl) _ _ (.inl rfl) _ _ ⟨rfl,S⟩
theorem qR {s:Nat} {vo:Value} {os:List Int} {W:CW} (ht:Ag W) (hs:BX W s 40 [vo]) (ho:CD W 3 1 vo (Bm os)) (hlen:os.length<50) :
  AX prog Br 80 [.func (.func 114) #[] #[.pointer (some ⟨s,0,none⟩)]] W (fun en W'=>Kp W W'∧Ag W'∧∃ vr l,en=.returned vr∧CD W' 3 1 vr (Bm l)∧l.Perm os∧Std 0 l.length l):=by
 refine AEa ?_; rw [AEZ]; refine (Yk ht hs ho (by omega)).mono fun en W1 ⟨k1,t1,vr,he,db,dS⟩=>?_; subst he; refine AP ?_; have IX:=BY os; generalize dV:Bm os=cs at db IX
 cases db with
 | nil =>
  refine At gh ?_; rw [ZF]; have:os=[]:=List.length_eq_zero_iff.1 (by simpa using IX.symm); subst this; exact ⟨k1,t1,_,[],rfl,CD.nil,List.Perm.refl _,fun i j hi uV hj=>by simp at hj; omega⟩
 | @some b0 len _ hB hl =>
  have NI:len=os.length:=by omega
  subst NI; have hd:Ar W1 b0 os:=by unfold Ar; rw [dV]; exact hB
  refine (vY t1 hd rfl hlen).mono fun en W2 ⟨he,l,S,EB⟩=>?_; subst he; refine AP ?_; rw [ZF]; have UU:=S.sw.len; have hbn:=dS _ _ _ rfl; refine ⟨D7.kp k1 S.IF fun j hj=>by subst hj; exact hbn,S.top,_,l,rfl,CD.some S.ar (by rw [BY]; omega),S.sw.perm (by omega) (by omega),?_⟩; rw [UU]; exact EB
theorem lq {v0 v1:Value} {c:List Al} {h:List B9} {a:Int} {W:CW} (ht:Ag W) (hc:AV 5 (Dc W) v0 c) (hC:Ng c) (hh:AV 2 (Ek W) v1 h) (hv:∀ x,x ∈ h→x.AH.length<100000) (hs:h.length<1000000) (YI:A7 c h a=0→h.length≤40) :
  AX prog Br 22 [v0,v1,.int .i64 a] W (fun en W'=>Kp W W'∧Ag W'∧∃ vr l,en=.returned (.tuple #[vr,.int .i64 (A7 c h a)])∧CD W' 3 1 vr (Bm l)∧(A7 c h a=0→l.Perm (Ax c [] h a)∧Std 0 l.length l)∧(A7 c h a≠0→l=[])):=by
 refine AEY ?_; rw [AEX]; obtain ⟨ah,ch,rfl,_⟩:=id hh; refine (OE ht hc hC hh hv hs).mono fun en W0 ⟨k0,t0,r1,r2,E9,FZ⟩=>?_; subst E9; refine AP ?_; refine As (BU _ _) ?_; refine As (BV _ _) ?_; unfold Jy; refine Dt (ws:=[.map (some r1),.map (some r2)]) nN OC rfl rfl rfl t0 fun W3 k3 t3 z3 OP=>?_; have TX:=k0.trans k3; simp only [Au,AA]
 refine AD (fun he=>?_) (fun he=>?_)
 ·have he:A7 c h a≠0:=by simpa using he
  rw [ZE]; exact ⟨TX,t3,_,[],rfl,CD.nil,fun hz=>(he hz).elim,fun _=>rfl⟩
 have he:A7 c h a=0:=by simpa using he
 obtain ⟨Ai,Uo,Uz,Dz⟩:=Lz he; obtain ⟨Lx,JC⟩:=D5 Uo; have YI:=YI he; rw [CG (vs:=[.map (some r1),.map (some r2)]) (a:=⟨W0.sz,0,none⟩) rG OC rfl (by omega) OP.cells]; simp only [AA,dJ]; refine (OF t3 ((FZ Ai).kp t0 k3) Ai hC (hh.imp fun _ _ _ hr=>hr.kp ht TX) JC (by omega) Uz Dz).mono fun en W4 ⟨k4,t4,bw,rp,vo,E9,hw,_,_,_,hF⟩=>?_; subst E9; refine AP ?_; simp only [Hs,Lp,AA]; rw [AF Nb (a:=⟨bw,0,none⟩) (hw.w.cell rfl)]; simp only [AA]
 have h81:AX prog Br 81 [vo] W4 (fun en W'=>Kp W4 W'∧Ag W'∧en=.returned (.func (.func 114) #[] #[.pointer (some ⟨W4.sz,0,none⟩)])∧BX W' W4.sz 40 [vo]):=by
  refine AEc ?_; rw [AEb]; obtain ⟨a',m',k',rfl⟩:=nb hw.own; refine Hn zV t4 fun W5 k5 t5 z5 hB=>?_; have hB:BX W5 W4.sz 40 [.slice a' m' k']:=hB; simp only [AA]; rw [om]; exact ⟨k5,t5,rfl,hB⟩
 refine h81.mono fun en W5 ⟨k5,t5,E9,hB⟩=>?_; subst E9; refine AP ?_; have hFl:=hF.len; refine (qR t5 hB (hw.own.kp t4 k5) (by omega)).mono fun en W6 ⟨k6,t6,vr,l,E9,hO,hl⟩=>?_; subst E9; refine AP ?_; rw [ZE]; refine ⟨((TX.trans k4).trans k5).trans k6,t6,vr,l,?_,hO,fun _=>hl,fun D0=>(D0 he).elim⟩; rw [he]; rfl
theorem qS {O l:List Int} {N:Nat} (hF:Found O N) (hp:l.Perm O) (hs:Std 0 l.length l):l=(iota N).filter fun v=>decide (placeOf O v>0):=by
 have a7:l.Nodup:=hp.nodup_iff.2 hF.nodup
 have Fj:∀ v,v ∈ l↔v ∈ (iota N).filter fun v=>decide (placeOf O v>0):=fun v=>by
  rw [hp.mem_iff,List.mem_filter,Ry]
  constructor
  ·intro h; exact ⟨⟨by have:=hF.low v h; omega,hF.high v h⟩,decide_eq_true (Ni h)⟩
  ·rintro ⟨_,h⟩; have h:=of_decide_eq_true h; refine Classical.byContradiction fun hn=>?_; rw [FN hn] at h; omega
 have hl:l.Pairwise (·<·):=by
  rw [List.pairwise_iff_getElem]; intro i j hi hj uV; have h1:=hs i j (by omega) (by omega) (by omega); unfold at_ at h1; rw [Int.toNat_natCast,Int.toNat_natCast,List.getElem?_eq_getElem hi,List.getElem?_eq_getElem hj] at h1; simp only [Option.getD_some] at h1
  have h2:l[i]≠l[j]:=by
   unfold List.Nodup at a7; rw [List.pairwise_iff_getElem] at a7; exact a7 i j hi hj uV
  omega
 have hi:(iota N).Pairwise (·<·):=by
  rw [List.pairwise_iff_getElem]; intro i j hi hj uV; have e1:=Rx (n:=N) (k:=i) (by rw [←Lu N]; exact hi); have e2:=Rx (n:=N) (k:=j) (by rw [←Lu N]; exact hj); rw [List.getElem?_eq_getElem hi] at e1; rw [List.getElem?_eq_getElem hj] at e2; rw [Option.some.inj e1,Option.some.inj e2]; omega
 have hr:=hi.filter (fun v=>decide (placeOf O v>0)); generalize (iota N).filter (fun v=>decide (placeOf O v>0))=r at Fj hr; clear hi hs a7 hp hF
 induction l generalizing r with
 | nil =>
  cases r with
  | nil=>rfl
  | cons y r=>have:=(Fj y).2 (by simp); cases this
 | cons x l ih =>
  cases r with
  | nil=>have:=(Fj x).1 (by simp); cases this
  | cons y r =>
   obtain ⟨YV,PA⟩:=List.pairwise_cons.1 hl; obtain ⟨hy1,mO⟩:=List.pairwise_cons.1 hr
   have LF:x=y:=by
    rcases List.mem_cons.1 ((Fj x).1 (by simp)) with h | h
    ·exact h
    ·rcases List.mem_cons.1 ((Fj y).2 (by simp)) with h' | h'
     ·exact h'.symm
     ·have:=hy1 x h; have:=YV y h'; omega
   subst LF; rw [ih PA r (fun v=>?_) mO]
   constructor
   ·intro h
    rcases List.mem_cons.1 ((Fj v).1 (by simp [h])) with h' | h'
    ·have:=YV v h; omega
    ·exact h'
   ·intro h
    rcases List.mem_cons.1 ((Fj v).2 (by simp [h])) with h' | h'
    ·have:=hy1 v h; omega
    ·exact h'
end Go.Ce
namespace Go.Ce
open Go Go.Proofs Go.Proofs.Tryz
def lu (ro:Option Nat) (K:AB):AB:=AW (fun e ds W=>K .ret (Env.of e [(4,(.bool true))]) ds W) K
def AAC (v0 v1:Value) (K:AB) (W:CW):=by
 have h:Dp 24 71 v0 v1 W K=DD 24 v0 W fun a=>DD 24 v1 W fun b=>HZ 3 a b fun c=>let a:=Bh 11 c 10 b 9 v1 8 a (Gr 7 v0 4); Jq c K v0 v1 (EU 4 a) W (Jp 24 71 v0 v1 (eC 5 A5 a) W (lu none K)):=by kernel_rfl
 dsimp at h; exact h
def l4 (ro:Option Nat) (K:AB):AB:=AW (fun a b c=>Bc a 5 fun d=>CQ K a 5 d 17 16 b c) K
def Nq:=by
 have h:=@l4.eq_1; dsimp at h; exact h
def dK (ro:Option Nat) (K:AB):AB:=GR (fun a b c=>Gl ro 24 71 1 a (F_ 6 A5) b c 2 (CL 1 (l4 ro K))) (l4 ro K)
def R4:=by
 have h:=@dK.eq_1; dsimp at h; exact h
def X4 (ro:Option Nat) (K:AB):AB:=AW (fun e ds W=>wI (e 43) ((dK ro K) .ret (Env.of e [(4,(.bool false))]) ds W) ((dK ro K) .normal e ds W)) (dK ro K)
def vZ (ro:Option Nat) (e:Env) (ds:List Deferred) (K:AB) (W:CW):=by
 have h:C9 ro 24 71 e ds W K=HK 24 e W fun a=>FU e 5 a fun b=>let a:=DG 15 b 14 a 13 e 0 12 5; Di b (Fy 24 e 0 5 fun b=>Dr b 0 fun c=>BA c W fun d=>Fy 24 e 1 5 fun f=>Dr f 0 fun g=>BA g W fun h=>HZ 9 d h fun i=>let a:=FA 29 i 28 27 h 26 g (Dl 25 f 24 (DS e) 23 e 1 22 d (BQ 21 c 20 b 19 e 5 18 a)); GP i (HN 9 g W h 9 c W d) (X4 ro K) e 43 (Gk 42 undef 29 (A_ 41 29 40 39 38 (A_ 37 29 36 35 34 (A_ 33 29 32 31 30 a)))) ds W (Fy 24 e 0 5 fun b=>Dr b 1 fun f=>Bb f W fun i=>CP i W fun j=>Fy 24 e 1 5 fun k=>Dr k 1 fun l=>Bb l W fun m=>CP m W fun n=>HZ 3 j n fun o=>Fw (QZ (H2 40 m W n) 40 l W m (QZ (H2 40 i W j) 40 f W i (HN 9 g W h 9 c W d))) (X4 ro K) e 43 o (Ds 42 o 29 41 n 40 m (BJ 39 l 29 38 k (BJ 37 (DS e) 29 36 (BE e) (BJ 35 j 29 34 i (BJ 33 f 29 32 b (KY 31 (DS e) 29 30 e a)))))) ds W)) K e a ds W:=by kernel_rfl
 dsimp at h; exact h
def l6 (ro:Option Nat) (K:AB):AB:=AW (fun a b c=>Bc a 6 fun d=>CQ K a 6 d 53 52 b c) K
def X5:=by
 have h:=@l6.eq_1; dsimp at h; exact h
def vd (ro:Option Nat) (e:Env) (ds:List Deferred) (K:AB) (W:CW):=by
 have h:Fu ro 24 71 1 e ds W K=Fy 24 e 0 5 fun a=>Dr a 1 fun b=>Bb b W fun c=>CP c W fun d=>FU e 6 d fun f=>let a:=Bh 51 f 50 d 49 c 48 b (DG 47 a 46 (DS e) 45 e 0 44 6); ON f (Fy 24 e 0 5 fun b=>Dr b 1 fun c=>Bb c W fun d=>EZ d (EY e) fun f=>Aj f W fun g=>Fy 24 e 1 5 fun h=>Dr h 1 fun i=>Bb i W fun j=>EZ j (EY e) fun k=>Aj k W fun l=>HZ 3 g l fun m=>let a:=eC 70 m (Dl 69 l 68 k 67 e 6 66 j (Dl 65 i 64 h 63 e 5 62 (BE e) (Dl 61 g 60 f 59 e 6 58 d (BQ 57 c 56 b 55 e 5 54 a)))); GZ (QZ (Mq 3 k W l) 40 i W j (HN 3 f W g 40 c W d)) (CB m (G_ (l6 ro K) e (EU 4 a) ds W) (l6 ro K) e a ds W)) K 2 e a ds W:=by kernel_rfl
 dsimp at h; exact h
theorem TY (Q:Ending→CW→Prop) (e:Env) (W:CW):AJ prog Tryz.f24 Q .ret e [] W=Q (.returned (e 4)) W:=by kernel_rfl
def AAD {Q v0 v1 W}:=Eo 24 71 [v0,v1] Tryz.f24 Q W Tryz.func24 (by kernel_rfl)
def AGU (v0:Value) (K:AB) (W:CW):=by
 have h:GO 79 8 v0 W K=UY .eql 40 true v0 (.slice none 0 0) fun a=>let b:=Gt 4 a 3 v0 2 (.slice none 0 0); LV a K (Dg v0) (eC 2 (.slice none 0 0) b) W (Jo prog 40 0 [] W fun a c=>Jt prog 40 40 a v0 c fun c d=>NW K v0 (FA 2 c 7 6 v0 5 a b) d):=by kernel_rfl
 dsimp at h; exact h
theorem aA (Q:Ending→CW→Prop) (e:Env) (W:CW):AJ prog Tryz.f79 Q .ret e [] W=Q (.returned (e 2)) W:=by kernel_rfl
def AGV {Q v0 W}:=Eo 79 8 [v0] Tryz.f79 Q W Tryz.func79 (by kernel_rfl)
end Go.Ce
namespace Go.Ce
open Go Go.Proofs Go.Proofs.Tryz
end Go.Ce
namespace Go.Ce
open Go Go.Proofs Go.Proofs.Tryz
def AGW (v0:Value) (K:AB) (W:CW):=by
 have h:GO 83 8 v0 W K=UY .eql 29 true v0 (.slice none 0 0) fun a=>let b:=Gt 4 a 3 v0 2 (.slice none 0 0); LV a K (Dg v0) (eC 2 (.slice none 0 0) b) W (Jo prog 29 0 [] W fun a c=>Jt prog 29 29 a v0 c fun c d=>NW K v0 (FA 2 c 7 6 v0 5 a b) d):=by kernel_rfl
 dsimp at h; exact h
theorem aB (Q:Ending→CW→Prop) (e:Env) (W:CW):AJ prog Tryz.f83 Q .ret e [] W=Q (.returned (e 2)) W:=by kernel_rfl
def AGX {Q v0 W}:=Eo 83 8 [v0] Tryz.f83 Q W Tryz.func83 (by kernel_rfl)
end Go.Ce
namespace Go.Ce
open Go Go.Proofs Go.Proofs.Tryz
theorem ADB (n m:Nat):D6 prog .eql 29 true (.slice none n m) (.slice none 0 0)=some (.bool true):=by kernel_rfl
theorem ADC (a:Addr) (n m:Nat):D6 prog .eql 29 true (.slice (some a) n m) (.slice none 0 0)=some (.bool false):=by kernel_rfl
theorem yd {W:CW} {a:Option Addr} {n cap:Nat} {l:List Int} (h:AV 1 (wJ W) (.slice a n cap) l):n=l.length∧(0<n→∃ p,a=some p∧Cells W p.block p.off (Be l)):=by
 obtain ⟨a',cap',he,hx⟩:=h
 cases he
 refine ⟨rfl,fun hn=>?_⟩; obtain ⟨p,rfl,_⟩:=hx 0 l[0] (List.getElem?_eq_getElem hn); refine ⟨p,rfl,fun j v hj=>?_⟩; unfold Be at hj; rw [List.getElem?_map,Option.map_eq_some_iff] at hj; obtain ⟨x,hj,rfl⟩:=hj; obtain ⟨p',e,h1⟩:=hx j x hj
 cases e
 have:W.cell p.block (p.off+j*1)=_:=h1; rw [Nat.mul_one] at this; exact this
def ye (l:List Int) (W:CW):Ending→CW→Prop:=fun en W'=>Kp W W'∧Ag W'∧∃ v,en=.returned v∧CD W' 5 1 v (Be l)
theorem l7 {W:CW} {v0:Value} {l:List Int} (ht:Ag W) (h:AV 1 (wJ W) v0 l) (hl:l.length≤100000):AX prog Br 83 [v0] W (ye l W):=by
 refine AGX ?_; rw [AGW]; obtain ⟨a,cap,rfl,hx⟩:=id h
 cases a with
 | none =>
  refine As (ADB _ _) ?_; simp only [A3]; rw [aB]
  have:l=[]:=by
   cases l with
   | nil=>rfl
   | cons x l=>obtain ⟨p,e,_⟩:=hx 0 x rfl; cases e
  subst this; exact ⟨.refl _,ht,_,rfl,CD.nil⟩
 | some a =>
  refine As (ADC _ _ _) ?_; simp only [Ab]; refine Hm (AC9 W) ?_; have kn:Kp W (W.new (.cells (Tr.nil.Aa 0 []) 0 #[] 5)):=.new _; have tn:=ht.new (.cells (Tr.nil.Aa 0 []) 0 #[] 5); have hBn:BX (W.new (.cells (Tr.nil.Aa 0 []) 0 #[] 5)) W.sz 5 []:=⟨_,0,_,by rw [BW,if_pos rfl],rfl,fun k v hk=>by simp at hk⟩
  have vN:CD (W.new (.cells (Tr.nil.Aa 0 []) 0 #[] 5)) 5 1 (.slice (some ⟨W.sz,0,none⟩) 0 0) (Be []):=CD.some hBn rfl; generalize W.new (.cells (Tr.nil.Aa 0 []) 0 #[] 5)=Wn at kn tn vN; obtain ⟨_,Ye⟩:=yd (h.imp fun _ _ _ hr=>kn.cell ht hr); refine nG (news:=Be l) Yc xm s5 z5 rfl (by omega) by5 (by omega) tn vN Ye (kM _) (by rw [MW]; omega) (by rw [MW]; simp only [List.length_nil]; omega) fun va W6 hp6 t6 o6 n6=>?_; have k6:Kp W W6:=hp6.kp kn (fun b l c e=>by cases e; exact Nat.le_refl _); rw [aB]; exact ⟨k6,t6,va,rfl,o6⟩
theorem ve {W:CW} {v0:Value} {c:List Al} {s:ByteArray} {i:Nat} (ht:Ag W) (hc:AV 5 (Dc W) v0 c) (hC:Ng c) (Ai:BM c=true) (hi:BL c s=some i):AX prog Br 26 [v0,.string s] W (fun en W'=>Kp W W'∧Ag W'∧∃ v,en=.returned (.tuple #[v,.int .i64 0])∧CD W' 5 1 v (Be (Ap c i))):=by
 refine vI ?_; rw [vH]; refine (Jz ht hc hC).mono fun en W1 ⟨k1,t1,r1,r2,E9,SJ,fh,FZ⟩=>?_; subst E9; refine AP ?_; refine As (BU _ _) ?_; refine As (BV _ _) ?_; unfold Jy; refine Dt (ws:=[.map (some r1),.map (some r2)]) nN OC rfl rfl rfl t1 fun W3 k3 t3 z3 It=>?_; have TX:=k1.trans k3; simp only [Ac,AA,Ai,Bool.not_true,Ab]; have JD:=(FZ Ai).kp t1 k3; simp only [Kw,AA]; rw [AF zd (a:=⟨W1.sz,0,none⟩) (It.cell rfl)]; simp only [AA]; obtain ⟨ws,YY,uN,hwo,_⟩:=Xk JD.sh s; rw [YY]; simp only [AA,BU,BV]; refine Dt (ws:=ws) AGF AGG rfl hwo uN t3 fun W5 k5 t5 z5' OP=>?_; simp only [hi,Option.isSome_some,Ac,AA,Bool.not_true,Ab,OB]; have AIe:=It.ext t3 k5; rw [AF a76 (a:=⟨W1.sz,0+1,none⟩) (AIe.cell rfl)]; simp only [AA]; obtain ⟨a,cap,NI,hr⟩:=(JD.kp t3 k5).rw.some hi; rw [NI]; simp only [AA]; have IX:=(VO Ai (Dm hi)).1; refine (l7 t5 hr (by omega)).mono fun en W6 ⟨k6,t6,v,E9,ho⟩=>?_; subst E9; refine AP ?_; rw [TJ]; exact ⟨(TX.trans k5).trans k6,t6,v,rfl,ho⟩
end Go.Ce
namespace Go.Ce
open Go Go.Proofs Go.Proofs.Tryz
theorem II {P:Program} {α:Type} {R:Nat→Nat→α→Prop} {t el:TypeId} {n:Nat} {v:Value} {l:List α} (u:P.underlying t=some (.slice el)) (h:AV n R v l) (W:CW):OI P t v W=some (.int .i64 l.length):=by
 obtain ⟨a,cap,rfl,_⟩:=h; exact AU u _ _ _ _
theorem Nr {W:CW} {v:Value} {xs:List B9} (h:AV 2 (Ek W) v xs) {i:Nat} {x:B9} (hx:xs[i]?=some x):∃ q p0 p1 vv,ew prog 24 v (.int .i64 i)=some q∧R' prog 56 q 0=some p0∧R' prog 56 q 1=some p1∧ld prog 9 p0 W=some (.string x.type)∧ld prog 40 p1 W=some vv∧AV 1 (Dx W) vv x.AH:=by
 obtain ⟨a,cap,rfl,hc⟩:=h; obtain ⟨p,rfl,hr⟩:=hc i x hx; obtain ⟨vv,h1,h2⟩:=hr.AH; exact ⟨_,_,_,vv,Ad P3 MN (List.getElem?_eq_some_iff.1 hx).1,IP _,FL _,AF a9 (a:=⟨p.block,p.off+i*2,none⟩) hr.type,AF Nb (a:=⟨p.block,p.off+i*2+1,none⟩) h1,h2⟩
theorem R5 {W:CW} {v:Value} {xs:List Int} (h:AV 1 (Dx W) v xs) {i:Nat} {x:Int} (hx:xs[i]?=some x):∃ q,ew prog 40 v (.int .i64 i)=some q∧ld prog 3 q W=some (.int .i64 x):=by
 obtain ⟨a,cap,rfl,hc⟩:=h; obtain ⟨p,rfl,hr⟩:=hc i x hx; exact ⟨_,Ad FJ s3 (List.getElem?_eq_some_iff.1 hx).1,AF a3 (a:=⟨p.block,p.off+i*1,none⟩) hr.1⟩
end Go.Ce
namespace Go.Ce
open Go Go.Proofs Go.Proofs.Tryz
end Go.Ce
namespace Go.Ce
open Go Go.Proofs Go.Proofs.Tryz
end Go.Ce
namespace Go.Ce
open Go Go.Proofs Go.Proofs.Tryz
end Go.Ce
namespace Go.Ce
open Go Go.Proofs Go.Proofs.Tryz
end Go.Ce
namespace Go.Ce
open Go Go.Proofs Go.Proofs.Tryz
theorem ADD (n m:Nat):D6 prog .eql 40 true (.slice none n m) (.slice none 0 0)=some (.bool true):=by kernel_rfl
theorem ADE (a:Addr) (n m:Nat):D6 prog .eql 40 true (.slice (some a) n m) (.slice none 0 0)=some (.bool false):=by kernel_rfl
theorem ADF (W:CW):rB prog 40 0 [] W=some (.slice (some ⟨W.sz,0,none⟩) 0 0,W.new (.cells (Tr.nil.Aa 0 []) 0 #[] 3)):=by kernel_rfl
theorem yf:HT prog 40=true:=by kernel_rfl
theorem yg {W:CW} {a:Option Addr} {n cap:Nat} {l:List Int} (h:AV 1 (Dx W) (.slice a n cap) l):n=l.length∧(0<n→∃ p,a=some p∧Cells W p.block p.off (Bm l)):=by
 obtain ⟨a',cap',he,hx⟩:=h
 cases he
 refine ⟨rfl,fun hn=>?_⟩; obtain ⟨p,rfl,_⟩:=hx 0 l[0] (List.getElem?_eq_getElem hn); refine ⟨p,rfl,fun j v hj=>?_⟩; unfold Bm at hj; rw [List.getElem?_map,Option.map_eq_some_iff] at hj; obtain ⟨x,hj,rfl⟩:=hj; obtain ⟨p',e,h1⟩:=hx j x hj
 cases e
 have:W.cell p.block (p.off+j*1)=_:=h1.1; rw [Nat.mul_one] at this; exact this
theorem vg (l:List Int):(Bm l).all Ba=true:=by
 unfold Bm; rw [List.all_map,List.all_eq_true]; intro x _; rfl
theorem ADG {W:CW} {el n:Nat} {v:Value} {cs:List Value} (h:CD W el n v cs):∃ a m k,v=.slice a m k:=by cases h <;> exact ⟨_,_,_,rfl⟩
theorem l8 {W:CW} {v0:Value} {l:List Int} (ht:Ag W) (h:AV 1 (Dx W) v0 l) (hl:l.length≤100000):AX prog Br 79 [v0] W (fun en W'=>Kp W W'∧Ag W'∧∃ a n m,en=.returned (.slice a n m)∧CD W' 3 1 (.slice a n m) (Bm l)∧BF W.sz (.slice a n m)):=by
 refine AGV ?_; rw [AGU]; obtain ⟨a,cap,rfl,hx⟩:=id h
 cases a with
 | none =>
  refine As (ADD _ _) ?_; simp only [A3]; rw [aA]
  have:l=[]:=by
   cases l with
   | nil=>rfl
   | cons x l=>obtain ⟨p,e,_⟩:=hx 0 x rfl; cases e
  subst this; exact ⟨.refl _,ht,_,_,_,rfl,CD.nil,BF.nil _ _ _⟩
 | some a =>
  refine As (ADE _ _ _) ?_; simp only [Ab]; refine Hm (ADF W) ?_; have kn:Kp W (W.new (.cells (Tr.nil.Aa 0 []) 0 #[] 3)):=.new _; have tn:=ht.new (.cells (Tr.nil.Aa 0 []) 0 #[] 3); have hBn:BX (W.new (.cells (Tr.nil.Aa 0 []) 0 #[] 3)) W.sz 3 []:=⟨_,0,_,by rw [BW,if_pos rfl],rfl,fun k v hk=>by simp at hk⟩
  have vN:CD (W.new (.cells (Tr.nil.Aa 0 []) 0 #[] 3)) 3 1 (.slice (some ⟨W.sz,0,none⟩) 0 0) (Bm []):=CD.some hBn rfl; have hY:(W.new (.cells (Tr.nil.Aa 0 []) 0 #[] 3)).sz=W.sz+1:=rfl; generalize W.new (.cells (Tr.nil.Aa 0 []) 0 #[] 3)=Wn at kn tn vN hY; obtain ⟨_,Ye⟩:=yg (h.imp fun _ _ _ hr=>hr.kp ht kn); refine nG (news:=Bm l) FJ yf s3 z3 rfl (by omega) tj (by omega) tn vN Ye (vg _) (by rw [BY]; omega) (by rw [BY]; simp only [List.length_nil]; omega) fun va W6 hp6 t6 o6 n6=>?_; have k6:Kp W W6:=hp6.kp kn (fun b l c e=>by cases e; exact Nat.le_refl _); rw [aA]; have o6:CD W6 3 1 va (Bm l):=o6; obtain ⟨a',n',m',rfl⟩:=ADG o6; refine ⟨k6,t6,_,_,_,rfl,o6,fun b l c e=>?_⟩
  rcases n6 b.block ⟨b,l,c,e,rfl⟩ with ⟨b',l',c',e1,e2⟩ | h1
  ·cases e1
   have e2:W.sz=b.block:=e2; omega
  ·omega
theorem gi {W:CW} {va vb:Value} {xs:List B9} (ha:AV 2 (Ek W) va xs) (hb:AV 2 (Ek W) vb xs) (hl:xs.length≤100000) (hv:∀ x,x ∈ xs→x.AH.length≤100000):AX prog Br 24 [va,vb] W (fun en W'=>en=.returned (.bool true)∧W'=W):=by
 refine AAD ?_; rw [AAC]; generalize GD:AJ prog Tryz.f24 (fun en W'=>en=.returned (.bool true)∧W'=W)=KK; rw [II P3 ha]; simp only [AA]; rw [II P3 hb]; simp only [AA,Au,bne_self_eq_false,Ab]; refine DI (fun i e' DC W'=>DC=[]∧W'=W∧e' 0=va∧e' 1=vb∧e' 5=.int .i64 i) xs.length ⟨rfl,rfl,rfl,rfl,rfl⟩ ?_; rintro i e ds W' hi ⟨rfl,rfl,h0,h1,h5⟩; rw [vZ,h0,h1,h5,II P3 ha]; simp only [AA,AS]; refine FW (fun Ae=>?_) (fun HQ=>?_)
 rotate_left
 ·have:i=xs.length:=by omega
  subst this; simp only [Gc,KA,if_true,lu,Ay]; rw [←GD,TY]; exact ⟨by simp only [AI,↓reduceIte],rfl⟩
 have hx:=List.getElem?_eq_getElem Ae; generalize xs[i]=x at hx; have zY:=hv x (List.mem_of_getElem? hx); obtain ⟨qa,p0,p1,vv,a1,a2,p9,a4',a5',a6'⟩:=Nr ha hx; obtain ⟨qb,q0,q1,vw,b1,b2,b3,b4,b5,b6⟩:=Nr hb hx; simp only [a1,a2,p9,a4',a5',b1,b2,b3,b4,b5,AA,JW,G5,decide_true,Bool.not_true,Ab]; rw [II FJ a6']; simp only [AA]; rw [II FJ b6]; simp only [AA,Au,bne_self_eq_false]; refine ⟨by simp only [and_self],?_⟩; simp only [X4,Ay]; simp only [AI,↓reduceIte,Ab]; simp only [R4,Ay]; refine ⟨trivial,?_⟩
 refine DI (fun k e' DC W2=>DC=[]∧W2=W'∧e' 0=va∧e' 1=vb∧e' 5=.int .i64 i∧e' 6=.int .i64 k) x.AH.length ?_ ?_
 ·exact ⟨rfl,rfl,by simp only [AI,AQ,Nat.reduceEqDiff,↓reduceIte,h0],by simp only [AI,AQ,Nat.reduceEqDiff,↓reduceIte,h1],by simp only [AI,AQ,Nat.reduceEqDiff,↓reduceIte,h5],(by simp only [AI,↓reduceIte]; rfl)⟩
 rintro k e2 ds W2 hk ⟨rfl,rfl,g0,g1,g5,g6⟩; rw [vd,g0,g1,g5,g6]; simp only [a1,p9,a5',AA]; rw [II FJ a6']; simp only [AA,AS]; refine FW (fun K3=>?_) (fun pP=>?_)
 rotate_left
 ·have:k=x.AH.length:=by omega
  subst this; simp only [Gc,jr,KA,if_true,Nq,Ay]; simp only [AI,AQ,Nat.reduceEqDiff,↓reduceIte,g5,AO,AA]; rw [C4 (by omega)]; exact ⟨Ae,rfl,rfl,by simp only [AI,AQ,Nat.reduceEqDiff,↓reduceIte,g0],by simp only [AI,AQ,Nat.reduceEqDiff,↓reduceIte,g1],by simp only [AI,↓reduceIte]⟩
 have hy:=List.getElem?_eq_getElem K3; obtain ⟨ra,c1,c2⟩:=R5 a6' hy; obtain ⟨rb,d1,d2⟩:=R5 b6 hy; simp only [b1,b3,b5,c1,c2,d1,d2,AA,Au,bne_self_eq_false,Ab]; refine ⟨by simp only [and_self],trivial,?_⟩; simp only [X5,Ay,Fz]; simp only [AI,AQ,Nat.reduceEqDiff,↓reduceIte,g6,AO,AA]; rw [C4 (by omega)]; exact ⟨K3,trivial,trivial,by simp only [g0],by simp only [g1],by simp only [g5],by simp only [AI]⟩
end Go.Ce
namespace Go.Ce
open Go Go.Proofs Go.Proofs.Tryz
theorem l9 {v0:Value} {c:List Al} {W:CW} (ht:Ag W) (hc:AV 5 (Dc W) v0 c) (hC:Ng c):AX prog Br 23 [v0] W (YC (.int .i64 (if BM c then 0 else 210)) W):=by
 refine AEG ?_; rw [AEF]; refine (Jz ht hc hC).mono fun en W1 ⟨k1,t1,r1,r2,E9,SJ,fh,FZ⟩=>?_; subst E9; refine AP ?_; refine As (BU _ _) ?_; refine As (BV _ _) ?_; unfold Jy; refine Dt (ws:=[.map (some r1),.map (some r2)]) nN OC rfl rfl rfl t1 fun W3 k3 t3 z3 It=>?_; have TX:=k1.trans k3; simp only [Ac,AA]
 cases Ai:BM c with
 | false =>
  simp only [Bool.not_false,A3]; rw [ZB]; exact ⟨rfl,TX,t3⟩
 | true =>
  simp only [Bool.not_true,Ab]; rw [ZB]; exact ⟨rfl,TX,t3⟩
theorem qT {v0 v1:Value} {c:List Al} {l:List C5} {W:CW} (ht:Ag W) (hc:AV 5 (Dc W) v0 c) (hC:Ng c) (hl:AV 3 (Ho W) v1 l) (UU:l.length<100000) (My:∀ s,s ∈ l→s.map.length<100000):AX prog Br 42 [v0,v1] W (YC (.int .i64 (Lj c l)) W):=by
 refine AES ?_; rw [AER]; refine (Jz ht hc hC).mono fun en W1 ⟨k1,t1,r1,r2,E9,SJ,fh,FZ⟩=>?_; subst E9; refine AP ?_; refine As (BU _ _) ?_; refine As (BV _ _) ?_; unfold Jy Lj; refine Dt (ws:=[.map (some r1),.map (some r2)]) nN OC rfl rfl rfl t1 fun W3 k3 t3 z3 It=>?_; have TX:=k1.trans k3; simp only [Ac,AA]
 cases Ai:BM c with
 | false =>
  simp only [Bool.not_false,A3]; rw [Sp]; exact ⟨rfl,TX,t3⟩
 | true =>
  simp only [Bool.not_true,Ab]; have JD:=(FZ Ai).kp t1 k3; rw [Yh It]; simp only [AA]; refine (ug t3 JD hC (hl.imp fun _ _ _ hr=>hr.kp ht TX) UU My).mono fun en W4 ⟨k4,t4,w,r,E9,Je⟩=>?_; subst E9; refine AP ?_; refine As (BU _ _) ?_; refine As (BV _ _) ?_; refine Dt (ws:=[.map (some w),.map (some r)]) z83 s83 rfl rfl rfl t4 fun A k7 tA z7 Rr=>?_; have k0A:=(TX.trans k4).trans k7; simp only [Ac,AA]
  cases hs:Bl c l with
  | false =>
   simp only [Bool.not_false,A3]; rw [Sp]; exact ⟨rfl,k0A,tA⟩
  | true =>
   simp only [Bool.not_true,Ab]; rw [Sp]; exact ⟨rfl,k0A,tA⟩
def ctV (c:List Al) (h:List B9):Value:=if BM c then (if DT c h≥0 then .tuple #[.int .i64 (DT c h),.int .i64 211] else .tuple #[.int .i64 0,.int .i64 0]) else .tuple #[.int .i64 0,.int .i64 210]
theorem l_ {v0 v1:Value} {c:List Al} {h:List B9} {W:CW} (ht:Ag W) (hc:AV 5 (Dc W) v0 c) (hC:Ng c) (hh:AV 2 (Ek W) v1 h) (hv:∀ x,x ∈ h→x.AH.length<100000) (hs:h.length<100000):AX prog Br 36 [v0,v1] W (YC (ctV c h) W):=by
 refine AEI ?_; rw [AEH]; refine FV (RT ht hc hC) fun W1 k1 t1=>?_; unfold ctV
 cases Ai:BM c with
 | false =>
  have ADH:((210:Int) != 0)=true:=rfl; simp only [Bool.false_eq_true,if_false,Au,AA,ADH,A3]; rw [SY]; exact ⟨rfl,k1,t1⟩
 | true =>
  have h0:((0:Int) != 0)=false:=rfl; simp only [if_true,Au,AA,h0,Ab]; refine FV (Zf t1 (hc.imp fun _ _ _ hr=>hr.kp ht k1) hC.len hC.fields (hh.imp fun _ _ _ hr=>hr.kp ht k1) hs (fun x hx=>by have:=hv x hx; omega)) fun W2 k2 t2=>?_; simp only [CZ,AA]
  refine AD (fun hi=>?_) (fun hi=>?_)
  ·have hi:DT c h≥0:=by simpa using hi
   rw [SY,if_pos hi]; exact ⟨rfl,k1.trans k2,t2⟩
  ·have hi:¬DT c h≥0:=by simpa using hi
   rw [SY,if_neg hi]; exact ⟨rfl,k1.trans k2,t2⟩
def mA (c:List Al) (s:ByteArray):Int:=if BM c then (if (BL c s).isSome then 0 else 213) else 210
def mB (c:List Al) (s:ByteArray):List Int:=if BM c then (match BL c s with | some i=>Ap c i | none=>[]) else []
def AGY (c:List Al) (s:ByteArray) (W:CW):Ending→CW→Prop:=fun en W'=>Kp W W'∧Ag W'∧∃ v,en=.returned (.tuple #[v,.int .i64 (mA c s)])∧CD W' 5 1 v (Be (mB c s))
theorem ADI {W:CW} {v0:Value} {c:List Al} {s:ByteArray} (ht:Ag W) (hc:AV 5 (Dc W) v0 c) (hC:Ng c):AX prog Br 26 [v0,.string s] W (AGY c s W):=by
 cases Ai:BM c with
 | true =>
  cases hi:BL c s with
  | some i =>
   refine (ve ht hc hC Ai hi).mono fun en W1 ⟨k,t,v,he,ho⟩=>?_
   refine ⟨k,t,v,?_,?_⟩
   ·unfold mA; rw [Ai,hi]; exact he
   ·unfold mB; rw [Ai,hi]; exact ho
  | none =>
   refine vI ?_; rw [vH]; refine (Jz ht hc hC).mono fun en W1 ⟨k1,t1,r1,r2,E9,SJ,fh,FZ⟩=>?_; subst E9; refine AP ?_; refine As (BU _ _) ?_; refine As (BV _ _) ?_; unfold Jy; refine Dt (ws:=[.map (some r1),.map (some r2)]) nN OC rfl rfl rfl t1 fun W3 k3 t3 z3 It=>?_; simp only [Ac,AA,Ai,Bool.not_true,Ab]; have JD:=(FZ Ai).kp t1 k3; simp only [Kw,AA]; rw [AF zd (a:=⟨W1.sz,0,none⟩) (It.cell rfl)]; simp only [AA]; obtain ⟨ws,YY,uN,hwo,_⟩:=Xk JD.sh s; rw [YY]; simp only [AA,BU,BV]; refine Dt (ws:=ws) AGF AGG rfl hwo uN t3 fun W5 k5 t5 z5' OP=>?_; simp only [hi,Option.isSome_none,Ac,AA,Bool.not_false,A3]; rw [TJ]
   refine ⟨(k1.trans k3).trans k5,t5,.slice none 0 0,?_,?_⟩
   ·unfold mA; rw [Ai,hi]; rfl
   ·unfold mB; rw [Ai,hi]; exact CD.nil
 | false =>
  refine vI ?_; rw [vH]; refine (Jz ht hc hC).mono fun en W1 ⟨k1,t1,r1,r2,E9,SJ,fh,FZ⟩=>?_; subst E9; refine AP ?_; refine As (BU _ _) ?_; refine As (BV _ _) ?_; unfold Jy; refine Dt (ws:=[.map (some r1),.map (some r2)]) nN OC rfl rfl rfl t1 fun W3 k3 t3 z3 It=>?_; simp only [Ac,AA,Ai,Bool.not_false,A3]; rw [TJ]
  refine ⟨k1.trans k3,t3,.slice none 0 0,?_,?_⟩
  ·unfold mA; rw [Ai]; rfl
  ·unfold mB; rw [Ai]; exact CD.nil
theorem vh {W:CW} {v0:Value} {c:List Al} {s:ByteArray} (ht:Ag W) (hc:AV 5 (Dc W) v0 c) (hC:Ng c):AX prog Br 37 [v0,.string s] W (AGY c s W):=by
 refine AEK ?_; rw [AEJ]; refine FV (RT ht hc hC) fun W1 k1 t1=>?_
 cases Ai:BM c with
 | false =>
  have ADH:((210:Int) != 0)=true:=rfl; simp only [Bool.false_eq_true,if_false,Au,AA,ADH,A3]; rw [SZ]
  refine ⟨k1,t1,.slice none 0 0,?_,?_⟩
  ·unfold mA; rw [Ai]; rfl
  ·unfold mB; rw [Ai]; exact CD.nil
 | true =>
  have h0:((0:Int) != 0)=false:=rfl; have hc1:=hc.imp (S:=fun b o x=>Dc W1 b o x) fun _ _ _ hr=>hr.kp ht k1; have hC2:=hC.len; simp only [if_true,Au,AA,h0,Ab]; refine At (MP hc1 (by omega)) ?_
  cases hi:BL c s with
  | none =>
   rw [MV hi]; simp only [AS,AA]; rw [decide_eq_true (by omega),A3,SZ]
   refine ⟨k1,t1,.slice none 0 0,?_,?_⟩
   ·unfold mA; rw [Ai,hi]; rfl
   ·unfold mB; rw [Ai,hi]; exact CD.nil
  | some i =>
   rw [IG hi]; simp only [AS,AA]; rw [decide_eq_false (by omega),Ab]; refine (XL t1 hc1 hC.len hC.fields (Dm hi)).mono fun en W2 ⟨k2,t2,vo,he,ho,_⟩=>?_; subst he; refine AP ?_; rw [SZ]
   refine ⟨k1.trans k2,t2,vo,?_,?_⟩
   ·unfold mA; rw [Ai,hi]; rfl
   ·unfold mB; rw [Ai,hi]; exact ho
theorem gj {W:CW} {va vb:Value} {l:List Int} (ha:CD W 3 1 va (Bm l)) (hb:CD W 3 1 vb (Bm l)) (hl:l.length≤100000) (ht:Ag W):AX prog Br 44 [va,vb] W (GV (.bool true) W):=by
 refine AEU ?_; rw [AET]; generalize GD:AJ prog Tryz.f44 (GV (.bool true) W)=KK; rw [GB FJ ha,BY]; simp only [AA]; rw [GB FJ hb,BY]; simp only [AA,Au,bne_self_eq_false,Ab]; refine DI (fun i e' DC W'=>DC=[]∧W'=W∧e' 0=va∧e' 1=vb∧e' 5=.int .i64 i) l.length ⟨rfl,rfl,rfl,rfl,rfl⟩ ?_; rintro i e ds W' hi ⟨rfl,rfl,h0,h1,h5⟩; rw [AAl,h0,h1,h5,GB FJ ha,BY]; simp only [AA,AS]
 refine FW (fun Ae=>?_) (fun HQ=>?_)
 ·have hx:=List.getElem?_eq_getElem Ae; obtain ⟨aa,a1,a2⟩:=TI ht ha hx; obtain ⟨ab,b1,b2⟩:=TI ht hb hx; simp only [a1,b1,a2 W' (.refl _),b2 W' (.refl _),AA,Au,bne_self_eq_false,Ab]; refine ⟨by simp only [and_self],trivial,?_⟩; simp only [tO,Ay,Fz]; simp only [AI,AQ,Nat.reduceEqDiff,↓reduceIte,h5,AO,AA]; rw [C4 (by omega)]; exact ⟨Ae,trivial,trivial,by simp only [h0],by simp only [h1],by simp only [AI]⟩
 ·simp only [Gc,KA,if_true,tN,Ay]; rw [←GD,og]; exact ⟨by simp only [AI,↓reduceIte],rfl⟩
theorem yh {W:CW} {va vb:Value} {xs ys:List B9} (ha:AV 2 (Ek W) va xs) (hb:AV 2 (Ek W) vb ys) (hl:xs.length≤100000) (Tx:ys.length≤100000) (hv:∀ x,x ∈ xs→x.AH.length≤100000) (HD:∀ x,x ∈ ys→x.AH.length≤100000):AX prog Br 24 [va,vb] W (fun en W'=>W'=W∧∃ q,en=.returned (.bool q)∧(q=true↔xs=ys)):=by
 refine AAD ?_; rw [AAC]; generalize GD:AJ prog Tryz.f24 (fun en W'=>W'=W∧∃ q,en=.returned (.bool q)∧(q=true↔xs=ys))=KK
 have Hv:∀ (e:Env),e 4=.bool false→xs≠ys→KK .ret e [] W:=by
  intro e h4 D0; rw [←GD,TY,h4]; exact ⟨rfl,false,rfl,fun h=>(by cases h),fun h=>(D0 h).elim⟩
 rw [II P3 ha]; simp only [AA]; rw [II P3 hb]; simp only [AA,Au]
 refine AD (fun hle=>?_) (fun hle=>?_)
 ·refine Hv _ rfl fun e=>?_; rw [e] at hle; simp at hle
 have hle:xs.length=ys.length:=by
  have:(xs.length:Int)=(ys.length:Int):=by simpa using hle
  omega
 refine DI (fun i e' DC W'=>DC=[]∧W'=W∧e' 0=va∧e' 1=vb∧e' 5=.int .i64 i∧∀ j,j<i→xs[j]?=ys[j]?) xs.length ⟨rfl,rfl,rfl,rfl,rfl,fun j hj=>by omega⟩ ?_; rintro i e ds W' hi ⟨rfl,rfl,h0,h1,h5,A0⟩; rw [vZ,h0,h1,h5,II P3 ha]; simp only [AA,AS]; refine FW (fun Ae=>?_) (fun HQ=>?_)
 rotate_left
 ·have:i=xs.length:=by omega
  subst this; simp only [Gc,KA,if_true,lu,Ay]; rw [←GD,TY]; refine ⟨rfl,true,by simp only [AI,↓reduceIte],fun _=>?_,fun _=>rfl⟩; apply List.ext_getElem?; intro j
  by_cases hj:j<xs.length
  ·exact A0 j hj
  ·rw [List.getElem?_eq_none (by omega),List.getElem?_eq_none (by omega)]
 have hx:=List.getElem?_eq_getElem Ae; have hy:=List.getElem?_eq_getElem (show i<ys.length by omega); generalize xs[i]=x at hx; generalize ys[i]'(by omega)=y at hy; have zY:=hv x (List.mem_of_getElem? hx); obtain ⟨qa,p0,p1,vv,a1,a2,p9,a4',a5',a6'⟩:=Nr ha hx; obtain ⟨qb,q0,q1,vw,b1,b2,b3,b4,b5,b6⟩:=Nr hb hy
 have ADJ:x≠y→xs≠ys:=fun D0 e=>by
  rw [e,hy] at hx; exact D0 (Option.some.inj hx).symm
 simp only [a1,a2,p9,a4',a5',b1,b2,b3,b4,b5,AA,JW,G5]
 refine AD (fun Uk=>?_) (fun Uk=>?_)
 ·have Uk:¬x.type=y.type:=by simpa using Uk
  refine ⟨by simp only [and_self],?_⟩; simp only [X4,Ay]; simp only [AI,↓reduceIte,A3]; simp only [R4,Nq,G4,JI,Fz,Ml]; exact ⟨trivial,Hv _ (by simp only [AI,↓reduceIte]) (ADJ fun e=>Uk (by rw [e]))⟩
 have Uk:x.type=y.type:=by simpa using Uk
 rw [II FJ a6']; simp only [AA]; rw [II FJ b6]; simp only [AA,Au]; refine ⟨by simp only [and_self],?_⟩; simp only [X4,Ay]; simp only [AI,↓reduceIte]; refine ⟨trivial,?_⟩
 refine AD (fun hvl=>?_) (fun hvl=>?_)
 ·simp only [R4,Nq,G4,JI,Fz,Ml]; refine Hv _ (by simp only [AI,↓reduceIte]) (ADJ fun e=>?_); rw [e] at hvl; simp at hvl
 have hvl:x.AH.length=y.AH.length:=by
  have:(x.AH.length:Int)=(y.AH.length:Int):=by simpa using hvl
  omega
 simp only [R4,Ay]
 refine DI (fun k e' DC W2=>DC=[]∧W2=W'∧e' 0=va∧e' 1=vb∧e' 5=.int .i64 i∧e' 6=.int .i64 k∧∀ j,j<k→x.AH[j]?=y.AH[j]?) x.AH.length ?_ ?_
 ·exact ⟨rfl,rfl,by simp only [AI,AQ,Nat.reduceEqDiff,↓reduceIte,h0],by simp only [AI,AQ,Nat.reduceEqDiff,↓reduceIte,h1],by simp only [AI,AQ,Nat.reduceEqDiff,↓reduceIte,h5],(by simp only [AI,↓reduceIte]; rfl),fun j hj=>by omega⟩
 rintro k e2 ds W2 hk ⟨rfl,rfl,g0,g1,g5,g6,hpk⟩; rw [vd,g0,g1,g5,g6]; simp only [a1,p9,a5',AA]; rw [II FJ a6']; simp only [AA,AS]; refine FW (fun K3=>?_) (fun pP=>?_)
 rotate_left
 ·have:k=x.AH.length:=by omega
  subst this
  have LF:x=y:=by
   have:x.AH=y.AH:=by
    apply List.ext_getElem?; intro j
    by_cases hj:j<x.AH.length
    ·exact hpk j hj
    ·rw [List.getElem?_eq_none (by omega),List.getElem?_eq_none (by omega)]
   cases x
   cases y
   simp only at Uk this; rw [Uk,this]
  simp only [Gc,jr,KA,if_true,Nq,Ay]; simp only [AI,AQ,Nat.reduceEqDiff,↓reduceIte,g5,AO,AA]; rw [C4 (by omega)]; refine ⟨Ae,rfl,rfl,by simp only [AI,AQ,Nat.reduceEqDiff,↓reduceIte,g0],by simp only [AI,AQ,Nat.reduceEqDiff,↓reduceIte,g1],by simp only [AI,↓reduceIte],fun j hj=>?_⟩
  by_cases e:j=i
  ·rw [e,hx,hy,LF]
  ·exact A0 j (by omega)
 have PA:=List.getElem?_eq_getElem K3; have mO:=List.getElem?_eq_getElem (show k<y.AH.length by omega); generalize x.AH[k]=u at PA; generalize y.AH[k]'(by omega)=w at mO; obtain ⟨ra,c1,c2⟩:=R5 a6' PA; obtain ⟨rb,d1,d2⟩:=R5 b6 mO; simp only [b1,b3,b5,c1,c2,d1,d2,AA,Au]; refine ⟨by simp only [and_self],trivial,?_⟩
 refine AD (fun huw=>?_) (fun huw=>?_)
 ·have huw:u≠w:=by simpa using huw
  simp only [X5,Nq,G4,JI,Fz,Ml]; refine Hv _ (by simp only [AI,↓reduceIte]) (ADJ fun e=>huw ?_); rw [e,mO] at PA; exact (Option.some.inj PA).symm
 ·have huw:u=w:=by simpa using huw
  simp only [X5,Ay,Fz]; simp only [AI,AQ,Nat.reduceEqDiff,↓reduceIte,g6,AO,AA]; rw [C4 (by omega)]; refine ⟨K3,trivial,trivial,by simp only [g0],by simp only [g1],by simp only [g5],by simp only [AI],fun j hj=>?_⟩
  by_cases e:j=k
  ·rw [e,PA,mO,huw]
  ·exact hpk j (by omega)
end Go.Ce
namespace Go.Ce
open Go Go.Proofs Go.Proofs.Tryz
def vi (ro:Option Nat) (K:AB):AB:=AW (fun e ds W=>Mw (blt prog .min [3,3] [(e 2),(.int .i64 1)] W) fun v84 W8=>K .ret (Env.of e [(8,(.int .i64 0)),(7,v84),(6,(e 12)),(84,v84),(83,(e 2)),(82,(e 12))]) ds W8) K
def AGZ (v0 v1 v2:Value) (K:AB) (W:CW):=by
 have h:H3 21 85 v0 v1 v2 W K=(let a:=EC 21 v2 20 v1 (UE 19 v0 8 A5 7 A5 6 none 0 0); Ic 49 v0 v1 v2 W (fun b c=>CX b fun d=>CY b fun f=>CI 78 c fun c g=>I9 c d g fun g=>NV 30 f 0 fun h=>let a:=Bh 26 h 25 f 10 f 9 c (Da 24 f 23 d 18 b 22 a); LV h K (E6 v0 v1 v2) (Bh 8 f 7 A5 6 (.slice none 0 0) 27 f a) g (BI 78 c g fun b=>LW prog 131 [(0,b),(1,v1)] fun c=>let a:=Bh 31 v2 30 c 29 v1 28 b a; DZ 78 c v2 g (fun b c=>CI 89 c fun c d=>Dw 89 c b d fun d=>BI 89 c d fun f=>EV f fun g=>I0 g 0 fun h=>Bb h d fun i=>CP i d fun j=>GS 21 85 (E6 v0 v1 v2) (eC 38 A5 (Bh 37 j 36 i 35 h 34 g (Bh 33 f 12 (.slice none 0 0) 11 c 32 b a))) d (vi none K)) fun b c=>Gn K b v0 v1 v2 a c)) fun b c=>Gn K b v0 v1 v2 a c):=by kernel_rfl
 dsimp at h; exact h
def dL (ro:Option Nat) (K:AB):AB:=AW (fun a b c=>Bc a 38 fun d=>D8 K a 38 d 81 [] b c) K
def qU:=by
 have h:=@dL.eq_1; dsimp at h; exact h
def dM (ro:Option Nat) (K:AB):AB:=GR (fun a b c=>EJ 56 a 15 c fun d=>Jo prog 24 1 [(0,d)] c fun c f=>Jt prog 24 24 (a 12) c f fun f g=>Dh (dL ro K) a 12 f (BO 80 f 79 c 78 d 77 (a 12)) b g) (dL ro K)
def qV:=by
 have h:=@dM.eq_1; dsimp at h; exact h
def ADK (ro:Option Nat) (e:Env) (ds:List Deferred) (K:AB) (W:CW):=by
 have h:C9 ro 21 85 e ds W K=HM 3 e 38 37 fun a=>Di a (LS e 36 38 fun b=>Aj b W fun c=>KU c 1 fun d=>Iy 24 e 1 d fun f=>Dr f 0 fun g=>BA g (Ie W) fun h=>KU c 1 fun i=>Iy 24 e 1 i fun j=>Dr j 1 fun k=>Bb k (Ie W) fun l=>DR 79 l (Ie W) (fun m n=>LW prog 56 [(0,h),(1,m)] fun o=>(true=true)∧fE 56 (some ⟨CW.sz W,0,none⟩) o n fun p=>Es (KQ (NS 40 k (Ie W) l) (Js True 9 g n h 9 g (Ie W) h)) ((Es True (Ow ⟨CW.sz W,0,none⟩ (CW.obj (Ie W) (CW.sz W)) n true) (Ow ⟨CW.sz W,0,none⟩ (CW.obj (Ie W) (CW.sz W)) (Ie W) true))∧True) (EJ 78 e 9 p fun n=>BI 56 (.pointer (some ⟨CW.sz W,0,none⟩)) p fun q=>let a:=eC 57 q (Bh 56 n 15 (.pointer (some ⟨CW.sz W,0,none⟩)) 55 o 54 m (Bh 53 l 52 k 51 j 50 i (Bh 49 c 48 (BE e) 47 h 46 g (Bh 45 f 44 d 43 c 42 (BE e) (BO 14 c 41 c 40 b 39 a))))); DZ 62 n q p (fun b c=>Fk prog Br ro 21 85 (.rangeFunc (.tmp 58) #[59,60] (AM prog 21 0) (AN prog 21 0)) (Env.of e (eC 58 b a)) ds c (CL 2 (dM ro K))) fun b c=>CM (dM ro K) b e a ds c)) fun _ _=>False) K e (F_ 39 a) ds W:=by kernel_rfl
 dsimp at h; exact h
theorem ADL (ro:Option Nat) (e:Env) (ds:List Deferred) (K:AB) (W:CW):Ft prog Br ro 21 85 (AM prog 21 0) e ds W K=(K .normal (Env.of e [(17,(e 60)),(16,(e 59))]) ds W):=by kernel_rfl
def ADM (ro:Option Nat) (e:Env) (ds:List Deferred) (K:AB) (W:CW):=by
 have h:jL ro 21 85 (AN prog 21 0) e ds W K=HL 5 (e 17) 2 fun a=>CB a (Ih e 15 fun b=>Bb b W fun c=>EJ 89 e 11 W fun d=>EV d fun f=>I0 f 1 fun g=>BI 98 g W fun h=>Ih e 15 fun i=>Bb i W fun j=>EZ j (e 16) fun k=>Aj k W fun l=>GU 98 h l false W fun m=>EZ c (e 16) fun n=>D' n m W fun o=>SV (Es (Ko (YB prog 98 h l false W=some m)) (KR 3 k W l) (Es (KR 40 i W j) (KR 98 g W h) (Gp 89 (Dq e) W d 40 b W c))) K e (Bh 76 n 75 m 74 l 73 k (Bh 72 (e 16) 71 j 70 i 69 h (Bh 68 g 67 f 66 d 65 (e 16) (BO 64 c 63 b 62 a 61 (e 17))))) ds o) K e (Qz 62 a 61 e 17) ds W:=by kernel_rfl
 dsimp at h; exact h
theorem aC (Q:Ending→CW→Prop) (e:Env) (W:CW):AJ prog Tryz.f21 Q .ret e [] W=Q (.returned (.tuple #[e 6,e 7,e 8])) W:=by kernel_rfl
def AGa {Q v0 v1 v2 W}:=Eo 21 85 [v0,v1,v2] Tryz.f21 Q W Tryz.func21 (by kernel_rfl)
end Go.Ce
namespace Go.Ce
open Go Go.Proofs Go.Proofs.Tryz
theorem ADN (s:ByteArray) (a:Option Addr) (n m:Nat):wE prog 56 [(0,.string s),(1,.slice a n m)]=some (.agg [.string s,.slice a n m].toArray):=by kernel_rfl
theorem vj (s:ByteArray) (a:Option Addr) (n m:Nat) (W:CW):rB prog 24 1 [(0,.agg [.string s,.slice a n m].toArray)] W=some (.slice (some ⟨W.sz,0,none⟩) 1 1,W.new (.cells (Tr.nil.Aa 0 [.string s,.slice a n m]) [Value.string s,.slice a n m].length #[] 56)):=by kernel_rfl
structure Ns (B:Nat) (W:CW) (v:Value) (ps:List (B9 × Value)):Prop where
 own:CD W 56 2 v (ps.flatMap Xr)
 new:BF B v
 pv:∀ p,p ∈ ps→CD W 3 1 p.2 (Bm p.1.AH)
theorem yi {W:CW} {v:Value} {l:List Int} (h:CD W 3 1 v (Bm l)) (hb:∀ x,x ∈ l→-9223372036854775808≤x∧x≤9223372036854775807):AV 1 (Dx W) v l:=Dx.of (LA (f:=fun k:Int=>Value.int .i64 k) h) hb
theorem dN {B:Nat} {W:CW} {v:Value} {ps:List (B9 × Value)} (h:Ns B W v ps) (hb:∀ p,p ∈ ps→BdT p.1):AV 2 (Ek W) v (ps.map (·.1)):=by
 have hl:=Rw ps; have wP:=h.pv; obtain ⟨hO,_,_⟩:=h; generalize dV:ps.flatMap Xr=cs at hO hl
 cases hO with
 | nil =>
  have:ps=[]:=List.length_eq_zero_iff.1 (by simp at hl; omega); subst this; exact ⟨none,0,rfl,fun i x hx=>by cases hx⟩
 | @some b0 len _ hB NI =>
  have qq:len=ps.length:=by omega
  refine ⟨some ⟨b0,0,none⟩,len,by rw [List.length_map,qq],fun i x hx=>⟨_,rfl,?_⟩⟩; rw [List.getElem?_map,Option.map_eq_some_iff] at hx; obtain ⟨p,hp,rfl⟩:=hx; have hpm:=List.mem_of_getElem? hp
  have hg:∀ j,j<2→cs[i*2+j]?=(Xr p)[j]?:=fun j hj=>by
   rw [←dV,gP,show (i*2+j) / 2=i by omega,show (i*2+j) % 2=j by omega,hp]; rfl
  refine ⟨?_,p.2,?_,yi (wP p hpm) (hb p hpm)⟩
  ·show W.cell b0 (0+i*2)=_; rw [Nat.zero_add]; exact hB.cell (hg 0 (by omega))
  ·show W.cell b0 (0+i*2+1)=_; rw [Nat.zero_add]; exact hB.cell (hg 1 (by omega))
theorem dO {W:CW} {el xi n n':Nat} {v v':Value} {cs YA:List Value} (h:CD W el n v cs) (h':CD W xi n' v' YA) (he:el≠xi):∀ i,Bj v i→¬Bj v' i:=fun i h1 h2=>he (Lq (JP h h1) (JP h' h2))
end Go.Ce
namespace Go.Ce
open Go Go.Proofs Go.Proofs.Tryz
theorem z89:Hz prog 89=some (.pointer none):=by kernel_rfl
def OS (g:Nat→Int→Int) (vs:List Int) (k:Nat):List Int:=vs.mapIdx fun j v=>if j<k then g j v else v
theorem R6 (g:Nat→Int→Int) (vs:List Int) (k:Nat):(OS g vs k).length=vs.length:=by unfold OS; rw [List.length_mapIdx]
theorem J3 (g:Nat→Int→Int) (vs:List Int) (k j:Nat):(OS g vs k)[j]?=(vs[j]?).map fun v=>if j<k then g j v else v:=by unfold OS; rw [List.getElem?_mapIdx]
theorem qW (g:Nat→Int→Int) (vs:List Int):OS g vs 0=vs:=by
 apply List.ext_getElem?; intro j; rw [J3]
 cases vs[j]? <;> simp
theorem qX {g:Nat→Int→Int} {vs:List Int} {k:Nat} {v:Int} (hv:vs[k]?=some v):OS g vs (k+1)=(OS g vs k).set k (g k v):=by
 apply List.ext_getElem?; intro j; have hk:=(List.getElem?_eq_some_iff.1 hv).1; rw [List.getElem?_set,J3,J3,R6]
 by_cases e:k=j
 ·subst e; rw [if_pos rfl,if_pos hk,hv,Option.map_some,if_pos (by omega)]
 ·rw [if_neg e]
  cases vs[j]? with
  | none=>rfl
  | some w =>
   simp only [Option.map_some]; congr 1
   by_cases hj:j<k
   ·rw [if_pos hj,if_pos (by omega)]
   ·rw [if_neg hj,if_neg (by omega)]
theorem qY {g:Nat→Int→Int} {vs:List Int} {k:Nat} {v:Int} (hv:vs[k]?=some v) (h:g k v=v):OS g vs (k+1)=OS g vs k:=by
 apply List.ext_getElem?; intro j; rw [J3,J3]
 cases hj:vs[j]? with
 | none=>rfl
 | some w =>
  simp only [Option.map_some]; congr 1
  by_cases e:j=k
  ·subst e; rw [hv] at hj; cases hj; rw [if_pos (by omega),if_neg (by omega),h]
  ·by_cases hl:j<k
   ·rw [if_pos hl,if_pos (by omega)]
   ·rw [if_neg hl,if_neg (by omega)]
def Mc (c:List Al) (ix:Nat) (O:List Int) (k:Nat) (v:Int):Int:=if A4 c ix k=2 then placeOf O v else v
theorem yj (c:List Al) (ix:Nat) (O vs:List Int):OS (Mc c ix O) vs vs.length=KE c ix O 0 vs:=by
 apply List.ext_getElem?; intro j; rw [J3,Lw,Nat.zero_add]
 cases hv:vs[j]? with
 | none=>rfl
 | some v =>
  have:=(List.getElem?_eq_some_iff.1 hv).1; simp only [Option.map_some,if_pos this,Mc]
theorem Ja {c:List Al} {h:List B9} {O:List Int} (hF:Found O h.length) {i:Nat} {v:Int} {x:B9} (hO:O[i]?=some v) (hx:h[(v-1).toNat]?=some x):(By c [] h O)[i]?=some (TN c O x):=by
 unfold By; rw [List.getElem?_map,X3 rfl (fun v hv=>⟨hF.low v hv,hF.high v hv⟩) i v hO,hx]; rfl
structure TrE (e:Env) (b9 Hu:Nat) (v1:Value) (a:Int):Prop where
 e1:e 1=v1
 e2:e 2=.int .i64 a
 e9:e 9=.pointer (some ⟨b9,0,none⟩)
 Z1:e 11=.pointer (some ⟨Hu,0,none⟩)
structure AGb (A:CW) (b9 Hu bw rp r1 r2:Nat) (vo v1:Value) (c:List Al) (h:List B9) (O:List Int):Prop where
 tA:Ag A
 b9:BX A b9 78 [.map (some r1),.map (some r2)]
 Hu:BX A Hu 89 [.pointer (some ⟨bw,0,none⟩)]
 wk:OR A bw rp vo O
 cat:FE A r1 r2 c
 Ai:BM c=true
 hC:Ng c
 hh:AV 2 (Ek A) v1 h
 JC:∀ x,x ∈ h→Ao c x h.length=true
 F:Found O h.length
 hl:h.length≤1000
theorem vk {A:CW} {K:AB} {e:Env} {b9 Hu bw rp r1 r2:Nat} {vo v1:Value} {c:List Al} {h:List B9} {O:List Int} {a:Int} (I:AGb A b9 Hu bw rp r1 r2 vo v1 c h O) (E:TrE e b9 Hu v1 a) (h36:e 36=vo) (h37:e 37=.int .i64 O.length) (zM:e 38=.int .i64 0) (cG:e 12=.slice none 0 0)
  (ER:∀ e' DC W' vr ps,Kp A W'→Ag W'→Marks A.sz W' DC→TrE e' b9 Hu v1 a→e' 12=vr→Ns A.sz W' vr ps→ps.map (·.1)=By c [] h O→K (.exit 0) e' DC W') :
  Fk prog Br none 21 85 (.loop (ES prog 21 0)) e [] A K:=by
 have hOl:=I.F.len; have hhl:=I.hl; have ADO:(By c [] h O).length=O.length:=by unfold By; rw [List.length_map,GF rfl fun v hv=>⟨I.F.low v hv,I.F.high v hv⟩]
 refine DI (fun i e' DC W'=>Kp A W'∧Ag W'∧Marks A.sz W' DC∧TrE e' b9 Hu v1 a∧e' 36=vo∧e' 37=.int .i64 O.length∧e' 38=.int .i64 i∧∃ vr ps,e' 12=vr∧Ns A.sz W' vr ps∧ps.map (·.1)=(By c [] h O).take i) O.length ⟨.refl _,I.tA,.nil _ _,E,h36,h37,zM,_,[],cG,⟨CD.nil,BF.nil _ _ _,fun p hp=>(by cases hp)⟩,rfl⟩ ?_; rintro i e ds W hi ⟨kA,ht,hm,E,h36,h37,zM,vr,ps,cG,hO,Ul⟩; rw [ADK,h36,h37,zM,E.e1]; simp only [AA,AS]; refine FW (fun Ae=>?_) (fun HQ=>?_)
 rotate_left
 ·have:i=O.length:=by omega
  subst this; simp only [KA]; exact ER _ ds W vr ps kA ht hm ⟨by simp only [AI,AQ,Nat.reduceEqDiff,↓reduceIte,E.e1],by simp only [AI,AQ,Nat.reduceEqDiff,↓reduceIte,E.e2],by simp only [AI,AQ,Nat.reduceEqDiff,↓reduceIte,E.e9],by simp only [AI,AQ,Nat.reduceEqDiff,↓reduceIte,E.Z1]⟩ (by simp only [AI,AQ,Nat.reduceEqDiff,↓reduceIte,cG]) hO (by rw [Ul,←ADO,List.take_length])
 have vn:=List.getElem?_eq_getElem Ae; generalize O[i]=v at vn; have zC:=I.F.low v (List.mem_of_getElem? vn); have dY:=I.F.high v (List.mem_of_getElem? vn); obtain ⟨nv,Ux⟩:∃ nv:Nat,v=((nv+1:Nat):Int):=⟨(v-1).toNat,by omega⟩
 subst Ux; have hx:=List.getElem?_eq_getElem (show nv<h.length by omega); generalize h[nv]'(by omega)=x at hx; have iP:=Ja (c:=c) I.F vn (by rw [show (((nv+1:Nat):Int)-1).toNat=nv by omega]; exact hx); have zs:=List.mem_of_getElem? hx; obtain ⟨ix,s,X⟩:=C_ (I.JC x zs); have CR:TN c O x=⟨x.type,KE c ix O 0 x.AH⟩:=by unfold TN; rw [X.ti]
 have My:=N' I.hC X.many; obtain ⟨ao,o1,o2⟩:=TI I.tA I.wk.own vn; have zA:=kA.sz; have k1:Kp W (W.new (.cells .nil 2 #[.string ⟨#[]⟩,.slice none 0 0] 56)):=.new _; have t1:=ht.new (.cells .nil 2 #[.string ⟨#[]⟩,.slice none 0 0] 56); have db:(W.new (.cells .nil 2 #[.string ⟨#[]⟩,.slice none 0 0] 56)).obj W.sz=some (.cells .nil 2 #[.string ⟨#[]⟩,.slice none 0 0] 56):=by rw [BW,if_pos rfl]
 have Uv:(W.new (.cells .nil 2 #[.string ⟨#[]⟩,.slice none 0 0] 56)).sz=W.sz+1:=rfl; have eJ:∀ W0:CW,W0.obj W.sz=some (.cells .nil 2 #[.string ⟨#[]⟩,.slice none 0 0] 56)→ez (.pointer (some ⟨W.sz,0,none⟩)) ((W.new (.cells .nil 2 #[.string ⟨#[]⟩,.slice none 0 0] 56)).obj W.sz) W0=true:=fun W0 h0=>Lr h0 rfl; generalize oM:W.new (.cells .nil 2 #[.string ⟨#[]⟩,.slice none 0 0] 56)=W1 at k1 t1 db Uv eJ ⊢
 have B1:BX W1 W.sz 56 [.string ⟨#[]⟩,.slice none 0 0]:=⟨.nil,2,_,db,rfl,fun k v hk=>by
  match k,hk with
  | 0,hk=>cases hk; rfl
  | 1,hk=>cases hk; rfl⟩
 have z_:=kA.trans k1; have hhx:∀ V,Kp A V→∃ q p0 p1 vv,ew prog 24 v1 (.int .i64 nv)=some q∧R' prog 56 q 0=some p0∧R' prog 56 q 1=some p1∧ld prog 9 p0 V=some (.string x.type)∧ld prog 40 p1 V=some vv∧AV 1 (Dx V) vv x.AH:=fun V kk=>Nr (I.hh.imp fun _ _ _ hr=>hr.kp I.tA kk) hx; obtain ⟨q,p0,p1,vv,x1,x2,x3,x4,x5,x6⟩:=hhx W1 z_; rw [o1]; simp only [AA,o2 W kA,Ak]; rw [show ((nv+1:Nat):Int)-1=(nv:Nat) by omega,wrap64 (by omega) (by omega)]; simp only [x1,x2,x3,x4,x5,AA]; refine (l8 t1 x6 (by omega)).mono fun en W2 ⟨k2,t2,ac,nc,mc,E9,hoc,yt⟩=>?_; subst E9; refine AP ?_; have iA:=z_.trans k2
 have x4':ld prog 9 p0 W2=some (.string x.type):=by
  obtain ⟨q',p0',p1',vv',y1,y2,y3,y4,y5,y6⟩:=hhx W2 iA; rw [x1] at y1; cases y1; rw [x2] at y2; cases y2; exact y4
 simp only [ADN,AA]; refine ⟨trivial,?_⟩; have B2:=B1.ext t1 k2; refine Eu MN (a:=⟨W.sz,0,none⟩) (ws:=[.string x.type,.slice ac nc mc]) rfl rfl B2 (by simp) fun W3 PT JY=>?_; have PT:ED W.sz W2 W3:=PT; have JY:BX W3 W.sz 56 [.string x.type,.slice ac nc mc]:=JY; have t3:=t2.BB (B2.lt t2) PT; have TX:Kp W W3:=(k1.trans k2).BB (Nat.le_refl _) PT; have z2:=k2.sz
 have sU:∀ j,Bj (.slice ac nc mc) j→W1.sz≤j:=by
  rintro j ⟨b,l,c',e1,rfl⟩; exact yt b l c' e1
 have AIf:CD W3 3 1 (.slice ac nc mc) (Bm x.AH):=Z2 hoc fun j hj=>PT.obj j (by have:=sU j hj; omega); refine ⟨by simp only [x4',and_self],by simp only [eJ W1 db,eJ W2 (by rw [k2.obj _ (by omega)]; exact db),and_self],?_⟩; have dI:=kA.trans TX; rw [E.e9,CG (vs:=[.map (some r1),.map (some r2)]) (a:=⟨b9,0,none⟩) rG OC rfl (by omega) (I.b9.ext I.tA dI).cells,CG (vs:=[.string x.type,.slice ac nc mc]) (a:=⟨W.sz,0,none⟩) m5 MN rfl (by omega) JY.cells]; simp only [AA]
 have hcn:nc=x.AH.length:=by
  have hl:=GB (W':=W3) FJ hoc; rw [AU FJ,BY] at hl; have:(nc:Int)=(x.AH.length:Int):=by injection hl with hl; injection hl
  omega
 subst hcn; refine (Rt (r1:=r1) (r2:=r2) (ty:=x.type) (vx:=.slice ac x.AH.length mc) t3).mono fun en W4 ⟨k4,t4,bk,bx,E9,oE,hbx,pn,pq⟩=>?_; subst E9; refine AP ?_; have yb:=dI.trans k4; have z4:=k4.sz; have z3:=PT.sz; have Um:elemAt c ix=0→x.AH.length≤(Ap c ix).length:=fun he=>by rw [Hr X.si he X.many]; exact Nat.le_refl _
 have yk:=AIf.kp t3 k4; have Mz:=JY.ext t3 k4; have nBk:¬Bj (.slice ac x.AH.length mc) bk:=fun hi=>by have:=Lq (JP yk hi) pn; cases this
 have nBx:¬Bj (.slice ac x.AH.length mc) bx:=fun hi=>by have:=Lq (JP yk hi) pq; cases this
 have nB4:¬Bj (.slice ac x.AH.length mc) W.sz:=fun hi=>by have:=sU _ hi; omega
 have wQ:Kp W W4:=TX.trans k4; have kpJ:∀ W',D7 (Bj (.slice ac x.AH.length mc)) W4 W'→Kp W W':=fun W' hc=>D7.kp wQ hc fun j hj=>by have:=sU j hj; omega
 have lts:∀ j,Bj (.slice ac x.AH.length mc) j→j<W4.sz:=fun j hj=>tr t4 yk hj
 refine Vl (bk:=bk) (bx:=bx) (r1:=r1) (r2:=r2) (n:=x.AH.length) (ix:=ix) (c:=c) (ty:=x.type) (a1:=16) (a2:=17) t4 rfl X.ti (by omega) Um (fun ro e0 ds K W=>by rw [ADL]) (by decide)
  (fun j W'=>D7 (Bj (.slice ac x.AH.length mc)) W4 W'∧Ag W'∧W'.obj W4.sz=some .deferred∧W4.sz+1<W'.sz∧CD W' 3 1 (.slice ac x.AH.length mc) (Bm (OS (Mc c ix O) x.AH j)))
  (fun _ _=>False)
  (fun j W' hh=>⟨hh.1.cell t4 nBk (pn.cell rfl),hh.1.cell t4 nBk (pn.cell rfl),I.cat.kp I.tA (kA.trans (kpJ W' hh.1)),hh.1.cell t4 nBx (pq.cell rfl),_,_,hh.1.cell t4 nBx (pq.cell rfl)⟩)
  (fun j W5 W6 ⟨g1,g2,g3,g4,g5⟩ hu _=>⟨g1.then hu.IF fun i hi he=>by omega,g2.BB g4 hu,by rw [hu.obj _ (by omega)]; exact g3,by rw [hu.sz]; exact g4,Z2 g5 fun i hi=>hu.obj i (by have:=lts i hi; omega)⟩)
  (fun _ _ _ hh _ _=>hh.elim)
  (fun W5 k t z hd=>⟨D7.H7 k,t,hd,by omega,by rw [qW]; exact yk.kp t4 k⟩)
  (fun j W5 Kb E' hE hE1 hE2 hj ⟨JS,t5,hd,hl,hB⟩ TD hn _ _=>?_) (fun W' ⟨JS,t',hd,hl,hB⟩=>?_) (fun _ _ hh=>hh.elim)
 ·have g15:E' 15=.pointer (some ⟨W.sz,0,none⟩):=by
   rw [hE 15 (by decide) (by decide) (by decide) (by decide)]; simp only [AI,Nat.reduceEqDiff,↓reduceIte]
  have kJ:E' 11=.pointer (some ⟨Hu,0,none⟩):=by
   rw [hE 11 (by decide) (by decide) (by decide) (by decide)]; simp only [AI,AQ,Nat.reduceEqDiff,↓reduceIte,E.Z1]
  have RM:=List.getElem?_eq_getElem hj; generalize x.AH[j]=y at RM; have wR:=kA.trans (kpJ W5 JS); rw [ADM,g15,kJ,hE1,hE2]; simp only [BK,AA]
  refine AD (fun hk=>?_) (fun hk=>?_)
  ·have hk:A4 c ix j=2:=by simpa using hk
   have dv:(OS (Mc c ix O) x.AH j)[j]?=some y:=by rw [J3,RM]; simp
   have l15:ld prog 40 (.pointer (some ⟨W.sz,0+1,none⟩)) W5=some (.slice ac x.AH.length mc):=AF Nb (a:=⟨W.sz,0+1,none⟩) (JS.cell t4 nB4 (Mz.cell rfl)); have l11:ld prog 89 (.pointer (some ⟨Hu,0,none⟩)) W5=some (.pointer (some ⟨bw,0,none⟩)):=AF a89 (a:=⟨Hu,0,none⟩) (wR.cell I.tA (I.Hu.cell rfl)); have wk5:=I.wk.kp I.tA wR; have lr:ld prog 98 (.pointer (some ⟨bw,0+1,none⟩)) W5=some (.map (some rp)):=AF a98 (a:=⟨bw,0+1,none⟩) (wk5.w.cell rfl); have IX:=BY (OS (Mc c ix O) x.AH j); rw [R6] at IX
   obtain ⟨bv,hbv,rI⟩:∃ bv,Value.slice ac x.AH.length mc=.slice (some ⟨bv,0,none⟩) x.AH.length x.AH.length∧BX W5 bv 3 (Bm (OS (Mc c ix O) x.AH j)):=by
    generalize dV:Bm (OS (Mc c ix O) x.AH j)=cs at hB IX; generalize eG:Value.slice ac x.AH.length mc=vv at hB
    cases hB with
    | nil =>
     injection eG with _ h2
     omega
    | @some b0 len _ hB NI =>
     have:len=x.AH.length:=by omega
     subst this; exact ⟨b0,rfl,hB⟩
   have AGc:Bj (.slice ac x.AH.length mc) bv:=⟨_,_,_,hbv,rfl⟩
   have lx:ld prog 3 (.pointer (some ⟨bv,0+j*1,none⟩)) W5=some (.int .i64 y):=AF a3 (a:=⟨bv,0+j*1,none⟩) (by
    show W5.cell bv (0+j*1)=_; rw [show 0+j*1=j by omega]; refine rI.cell ?_; unfold Bm; rw [List.getElem?_map,dv]
    rfl)
   have hia:ew prog 40 (.slice ac x.AH.length mc) (.int .i64 j)=some (.pointer (some ⟨bv,0+j*1,none⟩)):=by rw [hbv]; exact Ad FJ s3 hj
   simp only [FL,l15,l11,Hs,Ru,lr,hia,lx,wk5.p.look,AA]; refine An s3 (a:=⟨bv,0+j*1,none⟩) (v:=.int .i64 (placeOf O y)) rfl rI (by rw [IX]; show 0+j*1<_; omega) fun W6 hu It=>?_; have hu:ED bv W5 W6:=hu; have It:BX W6 bv 3 (putAt (Bm (OS (Mc c ix O) x.AH j)) (0+j*1) [.int .i64 (placeOf O y)]):=It; rw [yV (by rw [R6]; exact hj)] at It; have V7:Mc c ix O j y=placeOf O y:=if_pos hk; rw [←V7,←qX RM] at It; refine ⟨by simp only [and_self],trivial,?_⟩; have wH:=rI.lt t5; have AJc:=lts bv AGc; refine hn _ _ W6 (hu.obj _ (by omega)) ⟨JS.then hu.IF fun i hi he=>by subst he; exact AGc,t5.BB wH hu,by rw [hu.obj _ (by omega)]; exact hd,by rw [hu.sz]; exact hl,?_⟩; rw [hbv]; exact CD.some It (by rw [BY,R6]; omega)
  ·have hk:¬A4 c ix j=2:=by simpa using hk
   refine hn _ _ W5 rfl ⟨JS,t5,hd,hl,?_⟩; rw [qY RM (if_neg hk)]; exact hB
 ·rw [yj] at hB; have kW':=kpJ W' JS; have kA':=kA.trans kW'; have YH:=JS.j5 t4 nB4 Mz; simp only [Ay,jr,qV]; simp only [AI,AQ,Nat.reduceEqDiff,↓reduceIte,cG]; rw [CG (vs:=[.string x.type,.slice ac x.AH.length mc]) (a:=⟨W.sz,0,none⟩) m5 MN rfl (by omega) YH.cells]; simp only [AA]; have LP:=Rw ps
  have qq:ps.length=i:=by
   have:=congrArg List.length Ul; rw [List.length_map,List.length_take] at this; omega
  have hO5:=hO.own.kp ht kW'; refine MU P3 MN z56 rfl (by omega) AGE (by omega) (vj _ _ _ _) rfl rfl t' hO5 (by rw [LP]; omega) fun u Wa mL W6 ka ta H6 t6 o6 n6=>?_; simp only [qU,Ay,Fz]; simp only [AI,AQ,Nat.reduceEqDiff,↓reduceIte,zM,AO,AA]; rw [C4 (by omega)]; have kA6:Kp A W6:=H6.kp kA' hO.new; have zW':=kW'.sz
  refine ⟨Ae,kA6,t6,?_,⟨by simp only [AI,AQ,Nat.reduceEqDiff,↓reduceIte,E.e1],by simp only [AI,AQ,Nat.reduceEqDiff,↓reduceIte,E.e2],by simp only [AI,AQ,Nat.reduceEqDiff,↓reduceIte,E.e9],by simp only [AI,AQ,Nat.reduceEqDiff,↓reduceIte,E.Z1]⟩,by simp only [h36],by simp only [h37],by simp only [AI],mL,ps++[(TN c O x,.slice ac x.AH.length mc)],by simp only [AI],⟨?_,n6 _ (by omega),fun p hp=>?_⟩,?_⟩
  ·refine hm.more ht (r:=W4.sz) (fun j hj _=>?_) ?_ (by omega) (by omega)
   ·have:=ht _ _ hj
    rw [H6.IF.obj j (by omega) fun hi=>?_,kW'.obj j this]
    ·exact hj
    ·obtain ⟨x',y',z',ho,_⟩:=JP hO.own hi; rw [ho] at hj; cases hj
   ·rw [H6.IF.obj W4.sz (by omega) fun hi=>?_]
    ·exact hd
    ·obtain ⟨x',y',z',ho,_⟩:=JP hO5 hi; rw [ho] at hd; cases hd
  ·rw [List.flatMap_append,CR]
   simpa [Xr] using o6
  ·rcases List.mem_append.1 hp with hp | hp
   ·have h5:=(hO.pv p hp).kp ht kW'; exact H6.IF.own t' h5 (dO h5 hO5 (by decide))
   ·cases List.mem_singleton.1 hp
    rw [CR]; exact H6.IF.own t' hB (dO hB hO5 (by decide))
  ·rw [List.map_append,Ul,List.take_add_one,iP]; rfl
theorem qZ {v0 v1:Value} {c:List Al} {h:List B9} {a:Int} {W:CW} (ht:Ag W) (hc:AV 5 (Dc W) v0 c) (hC:Ng c) (hh:AV 2 (Ek W) v1 h) (hv:∀ x,x ∈ h→x.AH.length<100000) (hs:h.length<1000000) :
  AX prog Br 21 [v0,v1,.int .i64 a] W (fun en W'=>Kp W W'∧Ag W'∧∃ vr ps r,en=.returned (.tuple #[vr,.int .i64 r,.int .i64 (A7 c h a)])∧Ns W.sz W' vr ps∧(A7 c h a=0→r=min a 1∧ps.map (·.1)=By c [] h (Ax c [] h a))∧(A7 c h a≠0→r=0∧ps=[])):=by
 refine AGa ?_; rw [AGZ]; generalize GD:AJ prog Tryz.f21 (fun en W'=>Kp W W'∧Ag W'∧∃ vr ps r,en=.returned (.tuple #[vr,.int .i64 r,.int .i64 (A7 c h a)])∧Ns W.sz W' vr ps∧(A7 c h a=0→r=min a 1∧ps.map (·.1)=By c [] h (Ax c [] h a))∧(A7 c h a≠0→r=0∧ps=[]))=KK; obtain ⟨ah,ch,rfl,_⟩:=id hh; refine (OE ht hc hC hh hv hs).mono fun en W0 ⟨k0,t0,r1,r2,E9,FZ⟩=>?_; subst E9; refine AP ?_; refine As (BU _ _) ?_; refine As (BV _ _) ?_; unfold Jy; refine Dt (ws:=[.map (some r1),.map (some r2)]) nN OC rfl rfl rfl t0 fun W3 k3 t3 z3 hB9=>?_; have TX:=k0.trans k3; simp only [Au,AA]
 refine AD (fun he=>?_) (fun he=>?_)
 ·have he:A7 c h a≠0:=by simpa using he
  rw [←GD,aC]; exact ⟨TX,t3,_,[],0,rfl,⟨CD.nil,BF.nil _ _ _,fun p hp=>(by cases hp)⟩,fun hz=>(he hz).elim,fun _=>⟨rfl,rfl⟩⟩
 have he:A7 c h a=0:=by simpa using he
 obtain ⟨Ai,Uo,Uz,Dz⟩:=Lz he; obtain ⟨Lx,JC⟩:=D5 Uo; have JD:=(FZ Ai).kp t0 k3; rw [CG (vs:=[.map (some r1),.map (some r2)]) (a:=⟨W0.sz,0,none⟩) rG OC rfl (by omega) hB9.cells]; simp only [AA,dJ]; refine (OF t3 JD Ai hC (hh.imp fun _ _ _ hr=>hr.kp ht TX) JC (by omega) Uz Dz).mono fun en W4 ⟨k4,t4,bw,rp,vo,E9,hw,_,_,_,hF⟩=>?_; subst E9; refine AP ?_; refine JB z89 s89 t4 fun W6 k6 t6 z6 hB=>?_; have hB:BX W6 W4.sz 89 [.pointer none]:=hB; refine An s89 (a:=⟨W4.sz,0,none⟩) (v:=.pointer (some ⟨bw,0,none⟩)) rfl hB (by simp) fun A hu Rr=>?_; have hu:ED W4.sz W6 A:=hu; have Rr:BX A W4.sz 89 [.pointer (some ⟨bw,0,none⟩)]:=Rr; have tA:=t6.BB (hB.lt t6) hu; have k4A:Kp W4 A:=k6.BB (Nat.le_refl _) hu; have k3A:=k4.trans k4A; have lh:=TX.trans k3A; have hwA:=hw.kp t4 k4A; rw [AF a89 (a:=⟨W4.sz,0,none⟩) (Rr.cell rfl)]; simp only [Hs,Lp,AA]; rw [AF Nb (a:=⟨bw,0,none⟩) (hwA.w.cell rfl)]; simp only [AA]; rw [GB FJ hwA.own,BY]; simp only [AA]; have I:AGb A W0.sz W4.sz bw rp r1 r2 vo (.slice ah h.length ch) c h (Ax c [] h a):=⟨tA,hB9.ext t3 k3A,Rr,hwA,JD.kp t3 k3A,Ai,hC,hh.imp fun _ _ _ hr=>hr.kp ht lh,JC,hF,Lx⟩
 refine vk (a:=a) I ⟨rfl,rfl,rfl,rfl⟩ rfl rfl rfl rfl fun e' DC W' vr ps k' t' oO E' cG hO Ul=>?_; simp only [Gc,if_true,vi,Ay,E'.e2]; refine Hm (AGD _ _ W') ?_; rw [←GD]; have zWA:=lh.sz
 have hmW:Marks W.sz W' DC:=by
  obtain ⟨rs,g1,g2,g3⟩:=oO; exact ⟨rs,g1,g2,fun r hr=>⟨(g3 r hr).1,by have:=(g3 r hr).2; omega⟩⟩
 refine UO t' hmW fun W2 g1 g2 g3 t2=>?_; rw [aC]; have kW':=lh.trans k'
 have hO2:Ns W.sz W2 vr ps:=by
  have wB:∀ {el n:Nat} {v:Value} {cs:List Value},CD W' el n v cs→CD W2 el n v cs:=fun {el n v cs} hO=>Z2 hO fun j hj=>by
   obtain ⟨x,y,z,hq,_⟩:=JP hO hj; rw [g1 j _ hq (by simp),hq]
  exact ⟨wB hO.own,fun b l c' e=>by have:=hO.new b l c' e; omega,fun p hp=>wB (hO.pv p hp)⟩
 refine ⟨⟨by rw [g3]; exact kW'.sz,fun j hj=>by rw [g2 j hj]; exact kW'.obj j hj⟩,t2,vr,ps,min a 1,?_,hO2,fun _=>⟨rfl,Ul⟩,fun D0=>(D0 he).elim⟩; rw [he]; simp only [AI,Nat.reduceEqDiff,↓reduceIte,cG]
end Go.Ce
namespace Go.Ce
open Go Go.Proofs Go.Proofs.Tryz
theorem qc (c:List Al) (xs:List B9):xs.map (Fg c [])=xs:=by
 have:Fg c []=id:=by funext x; rfl
 rw [this,List.map_id]
theorem X6 {c:List Al} {O:List Int} {x:B9} {n i:Nat} {s:Al} (X:UI c x n i s):TN c O x=⟨x.type,KE c i O 0 x.AH⟩:=by unfold TN; rw [X.ti]
theorem gk {c:List Al} {h k:List B9} {O M:List Int} (JC:∀ x,x ∈ h→Ao c x h.length=true) (ya:∀ x,x ∈ k→Ao c x k.length=true) (hF:Found O h.length) (kF:Found M k.length):TW c h O k M↔By c [] h O=By c [] k M:=by
 have lO:(By c [] h O).length=O.length:=by unfold By; rw [List.length_map,GF rfl fun v hv=>⟨hF.low v hv,hF.high v hv⟩]
 have lM:(By c [] k M).length=M.length:=by unfold By; rw [List.length_map,GF rfl fun v hv=>⟨kF.low v hv,kF.high v hv⟩]
 constructor
 ·rintro ⟨hl,hA⟩; apply List.ext_getElem?; intro i
  by_cases hi:i<O.length
  ·have hO:=List.getElem?_eq_getElem hi; have hM:=List.getElem?_eq_getElem (show i<M.length by omega); obtain ⟨p,hp⟩:=Xw hF (List.mem_of_getElem? hO); obtain ⟨q,hq⟩:=Xw kF (List.mem_of_getElem? hM); rw [Ja hF hO hp,Ja kF hM hq]; obtain ⟨ix,s,P⟩:=C_ (JC p (List.mem_of_getElem? hp)); obtain ⟨iy,s',Q⟩:=C_ (ya q (List.mem_of_getElem? hq)); obtain ⟨a1,a2,p9⟩:=hA i _ _ p q hO hM hp hq
   have ADP:ix=iy:=by
    have:=P.ti; rw [a1,Q.ti] at this; exact (Option.some.inj this).symm
   subst ADP; rw [X6 P,X6 Q,a1]; congr 2; apply List.ext_getElem?; intro j; rw [Lw,Lw,Nat.zero_add]
   by_cases hj:j<p.AH.length
   ·have hx:=List.getElem?_eq_getElem hj; have hy:=List.getElem?_eq_getElem (show j<q.AH.length by omega); have:=p9 j ix _ _ P.ti hx hy; rw [hx,hy]; simp only [Option.map_some]; congr 1
    by_cases hk:A4 c ix j=2
    ·rw [if_pos hk] at this ⊢; rw [if_pos hk]; exact this
    ·rw [if_neg hk] at this ⊢; rw [if_neg hk]; exact this
   ·rw [List.getElem?_eq_none (by omega),List.getElem?_eq_none (by omega)]; rfl
  ·rw [List.getElem?_eq_none (by omega),List.getElem?_eq_none (by omega)]
 ·intro he; have hl:O.length=M.length:=by rw [←lO,←lM,he]
  refine ⟨hl,fun i v w p q hv hw hp hq=>?_⟩; have h1:=Ja (c:=c) hF hv hp; have h2:=Ja (c:=c) kF hw hq; rw [he,h2] at h1; have h1:=Option.some.inj h1; obtain ⟨ix,s,P⟩:=C_ (JC p (List.mem_of_getElem? hp)); obtain ⟨iy,s',Q⟩:=C_ (ya q (List.mem_of_getElem? hq)); rw [X6 P,X6 Q] at h1
  injection h1 with t1 t2
  have ADP:ix=iy:=by
   have:=P.ti; rw [←t1,Q.ti] at this; exact (Option.some.inj this).symm
  subst ADP; have hlen:=congrArg List.length t2; rw [Lv,Lv] at hlen; refine ⟨t1.symm,hlen.symm,fun j ix' x y IT hx hy=>?_⟩; rw [P.ti] at IT; cases IT; have hj:=congrArg (fun l:List Int=>l[j]?) t2; simp only [Lw,hx,hy,Nat.zero_add,Option.map_some] at hj; have hj:=Option.some.inj hj
  by_cases hk:A4 c ix j=2
  ·rw [if_pos hk,if_pos hk] at hj; rw [if_pos hk]; exact hj.symm
  ·rw [if_neg hk,if_neg hk] at hj; rw [if_neg hk]; exact hj.symm
theorem gl {c:List Al} {h:List B9} {a:Int} (hz:HR c [] h a=0) (YI:h.length≤40):min a 1=min ((By c [] h (Ax c [] h a)).length:Int) 1:=by
 obtain ⟨_,_,_,wN,_⟩:=GL hz; obtain ⟨_,_,hF,A0⟩:=HO hz YI; have hl:(By c [] h (Ax c [] h a)).length=(Ax c [] h a).length:=by unfold By; rw [List.length_map,GF rfl fun v hv=>⟨hF.low v hv,hF.high v hv⟩]
 rw [hl]
 by_cases h0:a=0
 ·subst h0
  have:Ax c [] h 0=[]:=by
   unfold Ax
   cases h.length with
   | zero=>rfl
   | succ m=>rfl
  rw [this]; rfl
 ·have EB:start a=[a]:=by unfold start; rw [if_pos (by omega)]
  rw [EB] at A0; have:=A0.length_le; rw [List.length_singleton] at this; omega
theorem Vs (W:CW):AV 3 (Ho W) (.slice none 0 0) []:=⟨none,0,rfl,fun i x h=>by cases h⟩
end Go.Ce
