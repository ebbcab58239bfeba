/- A part of the proof: Rm, Rn, Ro, Rp, Sa, Sb, Sc, Sd, Sf, Sg, Si, ShL4, Ed, Qt, ShE, Qu, Qv, Qw, Qx, Se, Sj, Sk, ShT, Tc, Ta, Td, Te, Tf, ShL6, Sl, Sm, Sn, So. -/
import Derived.Test.YtmknebebbbjdlaaGreatW01
import Derived.Test.YtmknebebbbjdlaaGreatW02
import Derived.Test.YtmknebebbbjdlaaGreatW04
import Derived.Test.YtmknebebbbjdlaaGreatProg
set_option linter.unusedSectionVars false
set_option linter.unusedVariables false
set_option linter.unusedSimpArgs false
set_option maxRecDepth 200000
namespace Go.Ce
open Go Go.Proofs Go.Proofs.Tryz
def Lx (l:List Bc) (s:ByteArray):Option Bc:=l.find? fun x=>decide (x.to=s)
def Es (mp vs z:List Int):Nat→List Int
 | 0=>z
 | n+1=>(Es mp vs z n).set ((mp[n]?).getD 0).toNat ((vs[n]?).getD 0)
def A4 (c:List Ad) (l:List Bc) (x:BM):BM:=match Lx l x.type with
 | none=>x
 | some s=>match A_ c s.type with
  | none=>x
  | some t=>⟨s.type,Es s.map x.AH (List.replicate (Ak c t).length 0) s.map.length⟩
theorem IE (mp vs z:List Int):∀ n,(Es mp vs z n).length=z.length
 | 0=>rfl
 | n+1=>by rw [Es,List.length_set,IE mp vs z n]
theorem bX:∃ ty,Tryz.f77.results.toList=[.cell 6 ty]∧ty=56:=⟨56,by kernel_rfl,rfl⟩
theorem yr (s:ByteArray) (a:Addr) (n m:Nat):QF prog 56 [(0,.string s),(1,.slice (some a) n m)]=some (.agg [.string s,.slice (some a) n m].toArray):=by kernel_rfl
def bY (vx:Value) (x y:BM) (W:CW):Ending→CW→Prop:=fun e W'=>Kp W W'∧Al W'∧∃ vv,e=.returned (.agg #[.string y.type,vv])∧((vv=vx∧y.AH=x.AH)∨∃ bv,vv=.slice (some ⟨bv,0,none⟩) y.AH.length y.AH.length∧As W' bv 3 (C7 y.AH)∧W.sz≤bv)
theorem sc {z:List Int} {k:Nat} (hk:k<z.length) (x:Int):putAt (C7 z) (0+k*1) [.int .i64 x]=C7 (z.set k x):=by
 apply List.ext_getElem?; intro j; have hl:(C7 z).length=z.length:=by simp [C7]
 rw [KO (by rw [hl]; simp; omega)]; unfold C7; simp only [List.length_singleton,List.getElem?_map,List.getElem?_set]
 by_cases e:k=j
 ·subst e; rw [if_pos ⟨by omega,by omega⟩,if_pos rfl,if_pos hk]; simp
 ·rw [if_neg (by omega),if_neg e]
theorem j3 {w r r1 r2:Nat} {vx:Value} {c:List Ad} {l:List Bc} {x:BM} {W:CW} (ht:Al W) (hr:Ny Bc.to W r l) (EB:Dr W r1 r2 c) (hC:OP c) (RR:Ax 1 (De W) vx x.AH)
  (hm:∀ s,Lx l x.type=some s→s.map.length≤x.AH.length∧∃ t,A_ c s.type=some t∧∀ m,m ∈ s.map→0≤m∧m.toNat<(Ak c t).length) (Nx:∀ s,s ∈ l→s.map.length<100000) :
  AF prog AV 77 [.agg #[.map (some w),.map (some r)],H6 r1 r2,.agg #[.string x.type,vx]] W (bY vx x (A4 c l x) W):=by
 obtain ⟨ty,UJ,rfl⟩:=bX; refine AA7 ?_; rw [AA6]; unfold H6; obtain ⟨ax,cx,rfl,hxc⟩:=id RR; refine Er np ht fun W0 k0 t0 z0 Fg=>?_; have Fg:As W0 W.sz 83 [.map (some w),.map (some r)]:=Fg; refine Er NV t0 fun W1 k1 t1 z1 Il=>?_; have Il:As W1 W0.sz 78 [.map (some r1),.map (some r2)]:=Il; refine Er Ia t1 fun W2 k2 t2 z2 I3=>?_; have I3:As W2 W1.sz 56 [.string x.type,.slice ax x.AH.length cx]:=I3; refine Gx z56 Ia t2 fun A kA tA zA Is=>?_; have Is:As A W2.sz 56 [.string ⟨#[]⟩,.slice none 0 0]:=Is; have k:=((k0.trans k1).trans k2).trans kA; have Fg:=Fg.ext t0 ((k1.trans k2).trans kA); have Il:=Il.ext t1 (k2.trans kA); have I3:=I3.ext t2 kA; have sH:W.sz≤W2.sz:=((k0.trans k1).trans k2).sz; have hrA:=hr.kp ht k; have uQ:=EB.kp ht k; simp only [TY,F1,AA]; rw [AB tv (a:=⟨W.sz,0+1,none⟩) (Fg.cell rfl),AB a9 (a:=⟨W1.sz,0,none⟩) (I3.cell rfl)]; simp only [AA]; generalize Jq:AI prog Tryz.f77 (bY (.slice ax x.AH.length cx) x (A4 c l x) W)=K
 have F_:∀ Y8 vv,Kp A Y8→Al Y8→BN vv=true→(∀ W3,DO W2.sz Y8 W3→(vv=.slice ax x.AH.length cx∧(A4 c l x).AH=x.AH)∨∃ bv,vv=.slice (some ⟨bv,0,none⟩) (A4 c l x).AH.length (A4 c l x).AH.length∧As W3 bv 3 (C7 (A4 c l x).AH)∧W.sz≤bv)→∀ {K':CW→Prop},(∀ W3,(∀ e',e' 6=.pointer (some ⟨W2.sz,0,none⟩)→K .ret e' [] W3)→K' W3) →
   wV (CE prog 56 (.pointer (some ⟨W2.sz,0,none⟩)) (.agg [.string (A4 c l x).type,vv].toArray) Y8) K':=by
  intro Y8 vv qV ky MA WQ K' rk; have hB:=Is.ext tA qV; refine DF Ia (a:=⟨W2.sz,0,none⟩) (by simp only [List.all_cons,List.all_nil,MA,Bool.and_true]; rfl) rfl hB (by simp) fun W3 hu Fg=>rk W3 fun e' h6'=>?_; have hu:DO W2.sz Y8 W3:=hu; rw [←Jq]; have Fg:As W3 W2.sz 56 [.string (A4 c l x).type,vv]:=Fg; refine LZ UJ (p:=⟨W2.sz,0,none⟩) h6' (BO (vs:=[.string (A4 c l x).type,vv]) YX Ia rfl (by omega) Fg.cells) ?_; exact ⟨(k.trans qV).A5 sH hu,ky.A5 (hB.lt ky) hu,vv,rfl,WQ W3 hu⟩
 cases Gz:Lx l x.type with
 | none =>
  have KC:A4 c l x=x:=by unfold A4; rw [Gz]
  rw [hrA.none Gz]; simp only [AA,Be,Bf]; unfold rz; refine CZ (ws:=[.string ⟨#[]⟩,.string ⟨#[]⟩,.slice none 0 0]) lE ZB rfl rfl rfl tA fun W4 k4 t4 z4 sI=>?_; simp only [Ai,AA,Bool.not_false,Bh]; rw [BO (vs:=[.string x.type,.slice ax x.AH.length cx]) YX Ia rfl (by omega) (I3.ext tA k4).cells]; simp only [AA]; have NU:x.type=(A4 c l x).type:=by rw [KC]
  rw [NU]; refine F_ W4 _ k4 t4 rfl (fun W3 hu=>.inl ⟨rfl,by rw [KC]⟩) fun W3 hr=>hr _ rfl
 | some s =>
  obtain ⟨hsl,t,EL,QD⟩:=hm s Gz; have KC:A4 c l x=⟨s.type,Es s.map x.AH (List.replicate (Ak c t).length 0) s.map.length⟩:=by unfold A4; rw [Gz]; simp only; rw [EL]
  have S5:=Nx s (List.mem_of_find?_eq_some Gz); have VW:=iH hC t; obtain ⟨u,hu,L⟩:=hrA.some Gz; obtain ⟨am,cm,rfl,hum⟩:=hu; rw [L]; simp only [AA,Be,Bf]; refine CZ (ws:=[.string s.type,.string s.to,.slice am s.map.length cm]) lE ZB rfl rfl rfl tA fun W5 k5 t5 z5 sI=>?_; simp only [Ai,AA,Bool.not_true,Ar,LQ,LS,H5]; obtain ⟨ar,cr,lr,_⟩:=uQ.rw.some EL; obtain ⟨mr,hmr,_⟩:=uQ.rw; have kn:Kp W5 (W5.new (.cells .nil 2 #[.string ⟨#[]⟩,.slice none 0 0] 56)):=.new _; have tn:=t5.new (.cells .nil 2 #[.string ⟨#[]⟩,.slice none 0 0] 56); have I9:(W5.new (.cells .nil 2 #[.string ⟨#[]⟩,.slice none 0 0] 56)).obj W5.sz=some (.cells .nil 2 #[.string ⟨#[]⟩,.slice none 0 0] 56):=by rw [BK,if_pos rfl]
  have iA:As (W5.new (.cells .nil 2 #[.string ⟨#[]⟩,.slice none 0 0] 56)) W5.sz 56 [.string ⟨#[]⟩,.slice none 0 0]:=⟨.nil,2,_,I9,rfl,fun k v hk=>by
   match k,hk with
   | 0,hk=>cases hk; rfl
   | 1,hk=>cases hk; rfl⟩
  have bN:(W5.new (.cells .nil 2 #[.string ⟨#[]⟩,.slice none 0 0] 56)).sz=W5.sz+1:=rfl; have My:∀ W0:CW,W0.obj W5.sz=some (.cells .nil 2 #[.string ⟨#[]⟩,.slice none 0 0] 56)→G5 (.pointer (some ⟨W5.sz,0,none⟩)) ((W5.new (.cells .nil 2 #[.string ⟨#[]⟩,.slice none 0 0] 56)).obj W5.sz) W0=true:=fun W0 h0=>GI h0 (by rfl); generalize hAn:W5.new (.cells .nil 2 #[.string ⟨#[]⟩,.slice none 0 0] 56)=An at kn tn I9 iA bN My ⊢; have kAn:=k5.trans kn; have l9:∀ W',Kp An W'→ld prog 9 (.pointer (some ⟨A.sz,0,none⟩)) W'=some (.string s.type):=fun W' k'=>AB a9 (a:=⟨A.sz,0,none⟩) ((sI.ext t5 (kn.trans k')).cell rfl); have l76:ld prog 76 (.pointer (some ⟨W0.sz,0+1,none⟩)) An=some (.map (some r2)):=AB rY (a:=⟨W0.sz,0+1,none⟩) ((Il.ext tA kAn).cell rfl)
  have lrn:GL prog 76 (.map (some r2)) (.string s.type) false An=some (.slice ar (Ak c t).length cr):=by
   rw [XO (kAn.obj _ (hmr.lt tA))]; exact lr
  rw [l9 An (.refl _),l76]; simp only [AA,lrn,Ah RD]; refine te H3 s3 z3 rfl by3 (by omega) (n:=(Ak c t).length) (by omega) tn fun W7 k7 t7 z7 oG=>?_; refine Ay (yr _ _ _ _) ?_; refine ⟨trivial,?_⟩; have AFQ:=iA.ext tn k7; refine DF Ia (a:=⟨W5.sz,0,none⟩) (ws:=[.string s.type,.slice (some ⟨An.sz,0,none⟩) (Ak c t).length (Ak c t).length]) rfl rfl AFQ (by simp) fun W8 hu8 hBo=>?_; have hu8:DO W5.sz W7 W8:=hu8; have hBo:As W8 W5.sz 56 [.string s.type,.slice (some ⟨An.sz,0,none⟩) (Ak c t).length (Ak c t).length]:=hBo; refine ⟨by simp only [l9 An (.refl _),l9 W7 k7,and_self],by simp only [My An I9,My W7 (by rw [k7.obj _ (by omega)]; exact I9),and_self],?_⟩; have h5l:W5.sz<W7.sz:=by rw [z7]; omega
  have t8:=t7.A5 h5l hu8; have hzA:A.sz≤W5.sz:=by rw [z5]; omega
  have k58:Kp W5 W8:=(kn.trans k7).A5 (Nat.le_refl _) hu8; have kA8:Kp A W8:=k5.trans k58; rw [AB M7 (a:=⟨A.sz,0+2,none⟩) ((sI.ext t5 k58).cell rfl)]; simp only [AA,Ah H3]
  have AFR:As W8 An.sz 3 (C7 (Es s.map x.AH (List.replicate (Ak c t).length 0) 0)):=by
   have:C7 (Es s.map x.AH (List.replicate (Ak c t).length 0) 0)=List.replicate (Ak c t).length (.int .i64 0):=by simp [Es,C7]
   rw [this]; exact oG.congr (hu8.obj _ (by omega))
  refine D8 (fun n e ds W'=>ds=[]∧Kp A W'∧Al W'∧As W' W5.sz 56 [.string s.type,.slice (some ⟨An.sz,0,none⟩) (Ak c t).length (Ak c t).length]∧As W' An.sz 3 (C7 (Es s.map x.AH (List.replicate (Ak c t).length 0) n))∧e 5=.pointer (some ⟨W1.sz,0,none⟩)∧e 6=.pointer (some ⟨W2.sz,0,none⟩)∧e 9=.pointer (some ⟨W5.sz,0,none⟩)∧e 34=.slice am s.map.length cm∧e 35=.int .i64 s.map.length∧e 36=.int .i64 n) s.map.length
   ⟨rfl,kA8,t8,hBo,AFR,rfl,rfl,rfl,rfl,rfl,rfl⟩ ?_
  rintro n e ds W' hn ⟨rfl,uR,t',ox,oq,h5,h6,h9,h34,h35,h36⟩; rw [wL,h34,h35,h36]; simp only [A7,AA]
  refine G6 (fun Au=>?_) (fun Of=>?_)
  ·obtain ⟨_,_,he,hmc⟩:=hum
   cases he
   have uE:=List.getElem?_eq_getElem Au; obtain ⟨q,rfl,hq⟩:=hmc n _ uE; rw [A8 H3 s3 Au]; simp only [AA]; have hqc:=uR.cell tA hq.1; rw [AB a3 (a:=⟨q.block,q.off+n*1,none⟩) hqc,h9,h5]; simp only [AA,D1]; have vd:n<x.AH.length:=by omega
   have hxn:=List.getElem?_eq_getElem vd; obtain ⟨p,rfl,hp⟩:=hxc n _ hxn; have ACo:=I3.ext tA uR; rw [AB M7 (a:=⟨W5.sz,0+1,none⟩) (ox.cell rfl),AB M7 (a:=⟨W1.sz,0+1,none⟩) (ACo.cell rfl)]; simp only [AA]; rw [A8 H3 s3 vd]; simp only [AA]; have hpc:=(k.trans uR).cell ht hp.1; rw [AB a3 (a:=⟨p.block,p.off+n*1,none⟩) hpc]; simp only [AA]; obtain ⟨iY,Vj⟩:=QD _ (List.getElem_mem Au); have hmi:(s.map[n]:Int)=((s.map[n].toNat:Nat):Int):=by omega
   rw [hmi,A8 H3 s3 Vj]; simp only [AA]; have jU:(Es s.map x.AH (List.replicate (Ak c t).length 0) n).length=(Ak c t).length:=by rw [IE]; simp
   refine Af s3 (a:=⟨An.sz,0+s.map[n].toNat*1,none⟩) (v:=.int .i64 x.AH[n]) rfl oq (by simp only [C7,List.length_map,jU]; omega) fun W9 ov yt=>?_; have ov:DO An.sz W' W9:=ov
   have yt:As W9 An.sz 3 (C7 (Es s.map x.AH (List.replicate (Ak c t).length 0) (n+1))):=by
    rw [Es,uE,hxn,rD,rD,←sc (by rw [jU]; exact Vj)]; exact yt
   have AGe:ld prog 40 (.pointer (some ⟨W5.sz,0+1,none⟩)) W'=some (.slice (some ⟨An.sz,0,none⟩) (Ak c t).length (Ak c t).length):=AB M7 (a:=⟨W5.sz,0+1,none⟩) (ox.cell rfl); refine ⟨by simp only [AB M7 (a:=⟨W5.sz,0+1,none⟩) (ox.cell rfl),AB M7 (a:=⟨W1.sz,0+1,none⟩) (ACo.cell rfl),AB a3 (a:=⟨p.block,p.off+n*1,none⟩) hpc,and_self],trivial,?_⟩; simp only [gh,B_,HB]; simp only [Ao,BC,Nat.reduceEqDiff,↓reduceIte,h36,Az,AA]
   refine ⟨Au,trivial,uR.A5 (by omega) ov,t'.A5 (oq.lt t') ov,ox.congr (ov.obj _ (by omega)),yt,?_,?_,?_,?_,?_,?_⟩
   ·simp only [h5]
   ·simp only [h6]
   ·simp only [h9]
   ·simp only [h34]
   ·simp only [h35]
   ·rw [Du (by omega)]
  ·have Vq:n=s.map.length:=by omega
   subst Vq; simp only [B_,Va,M6,PJ,M6,if_true,gg]; simp only [Ao,BC,Nat.reduceEqDiff,↓reduceIte,h6,h9]; rw [BO (vs:=[.string s.type,.slice (some ⟨An.sz,0,none⟩) (Ak c t).length (Ak c t).length]) (a:=⟨W5.sz,0,none⟩) YX Ia rfl (by omega) ox.cells]; simp only [AA]; have NU:s.type=(A4 c l x).type:=by rw [KC]
   have fU:(Ak c t).length=(A4 c l x).AH.length:=by rw [KC]; simp only [IE,List.length_replicate]
   rw [NU]; refine F_ W' _ uR t' rfl (fun W3 hu=>.inr ⟨An.sz,by rw [fU],?_,by have:=k.sz; omega⟩) fun W3 hr=>hr _ (by simp only [Ao,BC,Nat.reduceEqDiff,↓reduceIte,h6]); have:(A4 c l x).AH=Es s.map x.AH (List.replicate (Ak c t).length 0) s.map.length:=by rw [KC]
   rw [this]; exact oq.congr (hu.obj _ (by have:=zA; omega))
end Go.Ce
namespace Go.Ce
open Go Go.Proofs Go.Proofs.Tryz
def I_ (c:List Ad) (l:List Bc) (s:ByteArray):Option Int:=if (A_ c s).isSome then (if (l.find? fun x=>decide (x.type=s)).isSome then some 214 else none) else some 213
structure iJ (A:CW) (bk br r1 r2 w r:Nat) (c:List Ad) (l:List Bc):Prop where
 top:Al A
 k:As A bk 78 [.map (some r1),.map (some r2)]
 rr:As A br 83 [.map (some w),.map (some r)]
 cat:Dr A r1 r2 c
 w:Ny Bc.type A w l
 rd:Ny Bc.to A r l
theorem ACp:Gm prog 48=some rX:=by kernel_rfl
theorem ACq:DM prog 48=some 5:=by kernel_rfl
theorem oy {A:CW} {bk br r1 r2 w r:Nat} {c:List Ad} {l:List Bc} (I:iJ A bk br r1 r2 w r c l):oc A (.func (.func 75) #[] #[.pointer (some ⟨bk,0,none⟩),.pointer (some ⟨br,0,none⟩)]) (I_ c l):=by
 intro s W K KP kA ht Ho a8; refine GY Tryz.func75 (by kernel_rfl) ?_; refine AA3 (v0:=.string s) (v1:=.pointer (some ⟨bk,0,none⟩)) (v2:=.pointer (some ⟨br,0,none⟩)) ?_; rw [AA2]; have hk:=I.k.ext I.top kA; have hr:=I.rr.ext I.top kA; have EB:=I.cat.kp I.top kA; simp only [Gj,AA]; rw [AB nU (a:=⟨bk,0,none⟩) (hk.cell rfl)]; simp only [AA]; obtain ⟨ws,Wd,Vc,hwo,_⟩:=U6 EB.sh s; rw [Wd]; simp only [AA,Be,Bf]; refine CZ (ws:=ws) ACp ACq rfl hwo Vc ht fun W2 k2 t2 z2 hB=>?_
 refine Gk (fun h1=>?_) (fun h1=>?_)
 ·have FI:=(I.w.kp I.top (kA.trans k2))
  obtain ⟨ws2,Mz,AFS,AFT⟩:=Yj FI s; simp only [TX,AA]; rw [AB tv (a:=⟨br,0,none⟩) ((hr.ext ht k2).cell rfl)]; simp only [AA]; rw [Mz]; simp only [AA,Be,Bf]; refine CZ (ws:=ws2) lE ZB rfl AFT AFS t2 fun W5 k5 t5 z5 I3=>?_; simp only [Ai,AA]
  refine Gk (fun h2=>?_) (fun h2=>?_)
  ·have h2:(l.find? fun x=>decide (Bc.type x=s)).isSome=false:=by simpa using h2
   exact Io (by kernel_rfl) _ _ (.inl rfl) _ _ (Ho (by unfold I_; rw [if_pos h1,if_neg (by rw [h2]; simp)]) _ W5 (k2.trans k5) t5)
  ·have h2:(l.find? fun x=>decide (Bc.type x=s)).isSome=true:=by simpa using h2
   exact a8 214 (by unfold I_; rw [if_pos h1,if_pos h2]) W5 (k2.trans k5) t5
 ·exact a8 213 (by unfold I_; rw [if_neg (by rw [h1]; simp)]) W2 k2 t2
theorem XS {c:List Ad} {l:List Bc} {s:ByteArray} (h:I_ c l s=none):(A_ c s).isSome=true∧(l.find? fun x=>decide (x.type=s))=none:=by
 unfold I_ at h
 split at h
 ·rename_i h1
  split at h
  ·cases h
  ·rename_i h2; exact ⟨h1,by simpa using h2⟩
 ·cases h
theorem RU {b:List UInt8} {ask:ByteArray→Option Int} (ha:∀ s e,ask s=some e→e≠0):∀ {k at_:Nat} {out:List ByteArray} {e:Int},JX b ask k at_ out=.error e→e≠0
 | 0,at_,out,e,h=>by cases h
 | k+1,at_,out,e,h=>by
  unfold JX at h
  split at h
  ·rename_i hn; cases h; exact Ft hn
  ·split at h
   ·rename_i ht; cases h; rw [jy ht]; decide
   ·split at h
    ·split at h
     ·rename_i hq; cases h; exact ha _ _ hq
     ·exact RU ha h
    ·cases h; decide
where
 Ft {b:List UInt8} {at_:Nat} {m e:Int} (h:Et b at_ m=.error e):e≠0:=by
  unfold Et at h
  split at h
  ·rename_i hg; cases h; exact bZ hg
  ·split at h
   ·cases h
   ·cases h; decide
 bZ {b:List UInt8}:∀ {f at_ n sh:Nat} {e:Int},Ml b f at_ n sh=.error e→e≠0
  | 0,_,_,_,_,h=>by cases h; decide
  | f+1,at_,n,sh,e,h=>by
   unfold Ml at h
   split at h
   ·cases h; decide
   ·split at h
    ·split at h
     ·cases h
     ·cases h; decide
    ·exact bZ h
theorem Ft {b:List UInt8} {at_:Nat} {m e:Int} (h:Et b at_ m=.error e):e≠0:=RU.Ft h
theorem RV {b:List UInt8} {c:List Ad} {ix many:Nat}:∀ {m k at_ fd:Nat} {vs:List Int} {e:Int},FD b c ix many m k at_ fd vs=.error e→e≠0
 | 0,_,_,_,_,_,h=>by cases h
 | m+1,k,at_,fd,vs,e,h=>by
  unfold FD at h
  split at h
  ·split at h
   ·rename_i hn; cases h; exact Ft hn
   ·exact RV h
  ·split at h
   ·rename_i hn; cases h; exact Ft hn
   ·exact RV h
theorem VC {b:List UInt8} {c:List Ad} {ts:List ByteArray} {many:Nat}:∀ {m i at_ used fd:Nat} {out:List BM} {e:Int},Ek b c ts many m i at_ used fd out=.error e→e≠0
 | 0,_,_,_,_,_,_,h=>by cases h
 | m+1,i,at_,used,fd,out,e,h=>by
  unfold Ek at h
  split at h
  ·split at h
   ·rename_i hn; cases h; exact Ft hn
   ·split at h
    ·cases h; decide
    ·split at h
     ·cases h; decide
     ·split at h
      ·rename_i hn
       cases h
       split at hn
       ·exact Ft hn
       ·cases hn
      ·split at h
       ·rename_i hv; cases h; exact RV hv
       ·exact VC h
  ·cases h; decide
theorem bb {b:List UInt8} {c:List Ad} {ask:ByteArray→Option Int} (ha:∀ s e,ask s=some e→e≠0) {at_:Nat} {e:Int} (h:CF b c ask at_=.error e):e≠0:=by
 unfold CF at h
 split at h
 ·rename_i hh
  cases h
  unfold Ip at hh
  split at hh
  ·rename_i hn; cases hh; exact Ft hn
  ·split at hh
   ·split at hh
    ·rename_i hn; cases hh; exact Ft hn
    ·exact RU ha hh
   ·cases hh; decide
 ·split at h
  ·rename_i hn; cases h; exact Ft hn
  ·split at h
   ·rename_i hg; cases h; exact VC hg
   ·split at h
    ·cases h
    ·cases h; decide
theorem oz {c:List Ad} {l:List Bc}:∀ s e,I_ c l s=some e→e≠0:=by
 intro s e h; unfold I_ at h
 split at h
 ·split at h
  ·cases h; decide
  ·cases h
 ·cases h; decide
theorem RW {b:List UInt8} {c:List Ad} {ix many:Nat}:∀ {m k at_ fd:Nat} {vs:List Int} {r:List Int × Nat × Nat},FD b c ix many m k at_ fd vs=.ok r→r.1.length=vs.length+m
 | 0,_,_,_,_,_,h=>by cases h; rfl
 | m+1,k,at_,fd,vs,r,h=>by
  unfold FD at h
  split at h
  ·split at h
   ·cases h
   ·have:=RW h; rw [this]; simp; omega
  ·split at h
   ·cases h
   ·have:=RW h; rw [this]; simp; omega
def iK (c:List Ad) (x:BM):Prop:=∃ ix,A_ c x.type=some ix∧(elemAt c ix=0→x.AH.length=(Ak c ix).length)
theorem VD {b:List UInt8} {c:List Ad} {ts:List ByteArray} {many:Nat}:∀ {m i at_ used fd:Nat} {out:List BM} {r:List BM × Nat × Nat × Nat},Ek b c ts many m i at_ used fd out=.ok r→(∀ x,x ∈ out→iK c x)→∀ x,x ∈ r.1→iK c x
 | 0,_,_,_,_,_,_,h,ho=>by cases h; exact ho
 | m+1,i,at_,used,fd,out,r,h,ho=>by
  unfold Ek at h
  split at h
  ·split at h
   ·cases h
   ·split at h
    ·cases h
    ·rename_i ty _
     split at h
     ·cases h
     ·rename_i ix SY
      split at h
      ·cases h
      ·rename_i n a2 hn
       split at h
       ·cases h
       ·rename_i vs Fs a3 hv; refine VD h fun x hx=>?_
        rcases List.mem_append.1 hx with hx | hx
        ·exact ho x hx
        ·cases List.mem_singleton.1 hx
         refine ⟨ix,SY,fun he=>?_⟩; rw [if_neg (by simp [he])] at hn
         cases hn
         have:=RW hv
         simpa using this
  ·cases h
theorem bc {b:List UInt8} {c:List Ad} {ask:ByteArray→Option Int} {at_:Nat} {r:List BM × Nat} (h:CF b c ask at_=.ok r):(∀ x,x ∈ r.1→iK c x)∧r.1.length≤1000:=by
 unfold CF at h
 split at h
 ·cases h
 ·split at h
  ·cases h
  ·rename_i many a2 hn
   split at h
   ·cases h
   ·rename_i hg
    split at h
    ·cases h
     obtain ⟨hm,_,_⟩:=FP hn; exact ⟨VD hg (fun x hx=>by cases hx),by have:=VE hg; simp at this; simp only; omega⟩
    ·cases h
where
 VE {b:List UInt8} {c:List Ad} {ts:List ByteArray} {many:Nat}:∀ {m i at_ used fd:Nat} {out:List BM} {r:List BM × Nat × Nat × Nat},Ek b c ts many m i at_ used fd out=.ok r→r.1.length=out.length+m
  | 0,_,_,_,_,_,_,h=>by cases h; rfl
  | m+1,i,at_,used,fd,out,r,h=>by
   unfold Ek at h
   split at h
   ·split at h
    ·cases h
    ·split at h
     ·cases h
     ·split at h
      ·cases h
      ·split at h
       ·cases h
       ·split at h
        ·cases h
        ·rw [VE h]; simp; omega
   ·cases h
end Go.Ce
namespace Go.Ce
open Go Go.Proofs Go.Proofs.Tryz
def sd (x:BM):Prop:=∀ v,v ∈ x.AH→-9223372036854775808≤v∧v≤9223372036854775807
theorem VF {b:List UInt8} {c:List Ad} {ix many:Nat} (hm:many≤1000):∀ {m k at_ fd:Nat} {vs:List Int} {r:List Int × Nat × Nat},FD b c ix many m k at_ fd vs=.ok r→(∀ v,v ∈ vs→-9223372036854775808≤v∧v≤9223372036854775807)→∀ v,v ∈ r.1→-9223372036854775808≤v∧v≤9223372036854775807
 | 0,_,_,_,_,_,h,hv=>by cases h; exact hv
 | m+1,k,at_,fd,vs,r,h,hv=>by
  unfold FD at h
  split at h
  ·split at h
   ·cases h
   ·rename_i n a hn; obtain ⟨h1,_,_⟩:=FP hn; refine VF hm h fun v Vo=>?_
    rcases List.mem_append.1 Vo with hq | hq
    ·exact hv v hq
    ·rw [List.mem_singleton.1 hq]; omega
  ·split at h
   ·cases h
   ·rename_i n a hn; obtain ⟨h1,_,_⟩:=FP hn; refine VF hm h fun v Vo=>?_
    rcases List.mem_append.1 Vo with hq | hq
    ·exact hv v hq
    ·rw [List.mem_singleton.1 hq]; unfold WD; split <;> omega
theorem XT {b:List UInt8} {c:List Ad} {ts:List ByteArray} {many:Nat} (uE:many≤1000):∀ {m i at_ used fd:Nat} {out:List BM} {r:List BM × Nat × Nat × Nat},Ek b c ts many m i at_ used fd out=.ok r→(∀ x,x ∈ out→sd x)→∀ x,x ∈ r.1→sd x
 | 0,_,_,_,_,_,_,h,ho=>by cases h; exact ho
 | m+1,i,at_,used,fd,out,r,h,ho=>by
  unfold Ek at h
  split at h
  ·split at h
   ·cases h
   ·split at h
    ·cases h
    ·split at h
     ·cases h
     ·split at h
      ·cases h
      ·split at h
       ·cases h
       ·rename_i vs Fs a3 hv; refine XT uE h fun x hx=>?_
        rcases List.mem_append.1 hx with hx | hx
        ·exact ho x hx
        ·cases List.mem_singleton.1 hx
         exact VF uE hv (fun v hv=>by cases hv)
  ·cases h
theorem fb {b:List UInt8} {c:List Ad} {ask:ByteArray→Option Int} {at_:Nat} {r:List BM × Nat} (h:CF b c ask at_=.ok r):∀ x,x ∈ r.1→sd x:=by
 unfold CF at h
 split at h
 ·cases h
 ·split at h
  ·cases h
  ·rename_i many a2 hn
   split at h
   ·cases h
   ·rename_i hg
    split at h
    ·cases h
     obtain ⟨hm,_,_⟩:=FP hn; exact XT (by omega) hg (fun x hx=>by cases hx)
    ·cases h
theorem bg {mp vs z:List Int} (hz:∀ v,v ∈ z→-9223372036854775808≤v∧v≤9223372036854775807) (hv:∀ v,v ∈ vs→-9223372036854775808≤v∧v≤9223372036854775807):∀ n v,v ∈ Es mp vs z n→-9223372036854775808≤v∧v≤9223372036854775807
 | 0,v,h=>hz v h
 | n+1,v,h=>by
  rw [Es] at h
  rcases List.mem_or_eq_of_mem_set h with h | h
  ·exact bg hz hv n v h
  ·rw [h]
   cases hq:vs[n]? with
   | none=>rw [Option.getD_none]; omega
   | some w=>rw [rD]; exact hv w (List.mem_of_getElem? hq)
theorem o5 {c:List Ad} {l:List Bc} {x:BM} (h:sd x):sd (A4 c l x):=by
 unfold A4
 split
 ·exact h
 ·split
  ·exact h
  ·exact bg (fun v hv=>by rw [List.eq_of_mem_replicate hv]; omega) h _
theorem Mo:∀ (l:List (BM × Value)) (k:Nat),(l.flatMap Gl)[k]?=(l[k / 2]?).bind fun q=>(Gl q)[k % 2]?
 | [],k=>by simp
 | q::l,0=>rfl
 | q::l,1=>rfl
 | q::l,k+2=>by
  have h:((q::l).flatMap Gl)[k+2]?=(l.flatMap Gl)[k]?:=by
   simp only [List.flatMap_cons]; rfl
  rw [h,Mo l k,show (k+2) / 2=k / 2+1 by omega,show (k+2) % 2=k % 2 by omega]; rfl
theorem o8 {l:List (BM × Value)} {i:Nat} (hi:i<l.length) (q:BM × Value):putAt (l.flatMap Gl) (0+i*2) (Gl q)=(l.set i q).flatMap Gl:=by
 apply List.ext_getElem?; intro k; have hl:=HO l; have h2:(Gl q).length=2:=rfl; rw [KO (by rw [hl,h2]; omega),Mo,Mo,h2,List.getElem?_set]
 by_cases e:i=k / 2
 ·rw [if_pos ⟨by omega,by omega⟩,if_pos e,if_pos hi]; show _=(Gl q)[k % 2]?; congr 1; omega
 ·rw [if_neg (by omega),if_neg e]
theorem o9 {B:Nat} {W:CW} {v:Value} {ps:List (BM × Value)} (h:El B W v ps) (hb:∀ p,p ∈ ps→sd p.1):Ax 2 (IZ W) v (ps.map (·.1)):=by
 have hl:=HO ps; have yu:=h.pv; obtain ⟨hO,_,_⟩:=h; generalize mB:ps.flatMap Gl=cs at hO hl
 cases hO with
 | nil =>
  have:ps=[]:=List.length_eq_zero_iff.1 (by simp at hl; omega); subst this; exact ⟨none,0,rfl,fun i x hx=>by cases hx⟩
 | @some b0 len _ hB Mz =>
  have gI:len=ps.length:=by omega
  refine ⟨some ⟨b0,0,none⟩,len,by rw [List.length_map,gI],fun i x hx=>⟨_,rfl,?_⟩⟩; rw [List.getElem?_map,Option.map_eq_some_iff] at hx; obtain ⟨p,hp,rfl⟩:=hx; have hpm:=List.mem_of_getElem? hp; obtain ⟨bv,h1,h2,_⟩:=yu p hpm
  have hg:∀ j,j<2→cs[i*2+j]?=(Gl p)[j]?:=fun j hj=>by
   rw [←mB,Mo,show (i*2+j) / 2=i by omega,show (i*2+j) % 2=j by omega,hp]; rfl
  refine ⟨?_,p.2,?_,?_⟩
  ·show W.cell b0 (0+i*2)=_; rw [Nat.zero_add]; exact hB.cell (hg 0 (by omega))
  ·show W.cell b0 (0+i*2+1)=_; rw [Nat.zero_add]; exact hB.cell (hg 1 (by omega))
  ·refine ⟨some ⟨bv,0,none⟩,p.1.AH.length,h1,fun j y hy=>⟨_,rfl,?_,hb p hpm y (List.mem_of_getElem? hy)⟩⟩; show W.cell bv (0+j*1)=_; rw [show 0+j*1=j by omega]; refine h2.cell ?_; unfold C7; rw [List.getElem?_map,hy]; rfl
theorem o_ {A W:CW} {K:AG} {e:Env} {bk br J7 B r1 r2 w r:Nat} {vo:Value} {c:List Ad} {l:List Bc} {ps:List (BM × Value)} (Q:iJ A bk br r1 r2 w r c l) (hC:OP c) (hs:BG c l=true) (Nx:∀ s,s ∈ l→s.map.length<100000) (Lw:∀ p,p ∈ ps→iK c p.1) (cU:∀ p,p ∈ ps→sd p.1) (gI:ps.length≤1000)
  (kA:Kp A W) (t0:Al W) (hAB:A.sz≤B) (Yr:A.sz≤J7) (se:As W J7 24 [vo]) (hH:El B W vo ps)
  (g9:e 9=.pointer (some ⟨bk,0,none⟩)) (uS:e 11=.pointer (some ⟨br,0,none⟩)) (oP:e 12=.pointer (some ⟨J7,0,none⟩)) (g37:e 37=vo) (g38:e 38=.int .i64 ps.length) (g39:e 39=.int .i64 0)
  (E3:∀ e' W' qs,Kp A W'→Al W'→As W' J7 24 [vo]→El B W' vo qs→qs.map (·.1)=ps.map (fun p=>A4 c l p.1)→e' 12=.pointer (some ⟨J7,0,none⟩)→K (.exit 0) e' [] W') :
  C6 prog AV none 19 56 (.loop (Ae prog 19 0)) e [] W K:=by
 refine D8 (fun i e' DN W'=>DN=[]∧Kp A W'∧Al W'∧As W' J7 24 [vo]∧e' 9=.pointer (some ⟨bk,0,none⟩)∧e' 11=.pointer (some ⟨br,0,none⟩)∧e' 12=.pointer (some ⟨J7,0,none⟩)∧e' 37=vo∧e' 38=.int .i64 ps.length∧e' 39=.int .i64 i∧∃ qs,qs.length=i∧El B W' vo (qs++ps.drop i)∧qs.map (·.1)=(ps.take i).map (fun p=>A4 c l p.1)) ps.length
  ⟨rfl,kA,t0,se,g9,uS,oP,g37,g38,g39,[],rfl,hH,rfl⟩ ?_
 rintro i e' DN W' hi ⟨rfl,uR,t',pA,h9,uT,iF,h37,h38,h39,qs,hql,yv,hqs⟩; rw [wA,h37,h38,h39]; simp only [A7,AA]; refine G6 (fun Au=>?_) (fun Of=>?_)
 rotate_left
 ·have Mx:i=ps.length:=by omega
  subst Mx; simp only [PJ]; refine E3 _ W' qs uR t' pA ?_ (by rw [hqs,List.take_length]) (by simp only [Ao,BC,Nat.reduceEqDiff,↓reduceIte,iF])
  simpa using yv
 ·have hp:=List.getElem?_eq_getElem Au; generalize hpp:ps[i]=p at hp; have hpm:p ∈ ps:=List.mem_of_getElem? hp; have MJ:ps.drop i=p::ps.drop (i+1):=by rw [←hpp]; exact List.drop_eq_getElem_cons Au
  have XP:(qs++ps.drop i)[i]?=some p:=by rw [List.getElem?_append_right (by omega),hql,Nat.sub_self,MJ]; rfl
  have gL:(qs++ps.drop i).length=ps.length:=by rw [List.length_append,List.length_drop,hql]; omega
  have Lj:=HO (qs++ps.drop i); obtain ⟨bv,hv,oG,hBB⟩:=yv.pv p (List.mem_of_getElem? XP)
  obtain ⟨b0,nj,XG,AGf⟩:∃ b0,vo=.slice (some ⟨b0,0,none⟩) ps.length ps.length∧As W' b0 56 ((qs++ps.drop i).flatMap Gl)∧B≤b0:=by
   have hO:=yv.own; have hN:=yv.new; generalize (qs++ps.drop i).flatMap Gl=cs at hO Lj
   cases hO with
   | nil=>simp at Lj; omega
   | @some b0 len _ hB hl =>
    have:len=ps.length:=by omega
    subst this; exact ⟨b0,rfl,hB,hN _ _ _ rfl⟩
  subst nj; rw [A8 Vg Ia Au]; simp only [AA]
  have BI:Cells W' b0 (0+i*2) (Gl p):=fun j v hj=>by
   have tJ:j<2:=by have:=(List.getElem?_eq_some_iff.1 hj).1; simpa [Gl] using this
   refine XG.cell ?_; rw [Mo,show (0+i*2+j) / 2=i by omega,show (0+i*2+j) % 2=j by omega,XP]; exact hj
  rw [BO (vs:=Gl p) (a:=⟨b0,0+i*2,none⟩) YX Ia rfl (by omega) BI]; simp only [AA]; have MA:(Gl p).all BN=true:=by unfold Gl; rw [hv]; rfl
  refine CZ (ws:=Gl p) z56 Ia rfl MA rfl t' fun W2 k2 t2 z2 ACr=>?_; have SZ:=uR.trans k2; have fc:=pA.ext t' k2; rw [iF,uT,h9]; rw [AB n9 (a:=⟨J7,0,none⟩) (fc.cell rfl),Yi ((Q.rr.ext Q.top SZ)),OU (Q.k.ext Q.top SZ),BO (vs:=Gl p) (a:=⟨W'.sz,0,none⟩) YX Ia rfl (by omega) ACr.cells]; simp only [AA]; have AFU:=oG.ext t' k2
  have RR:Ax 1 (De W2) p.2 p.1.AH:=by
   refine ⟨some ⟨bv,0,none⟩,p.1.AH.length,hv,fun j y hy=>⟨_,rfl,?_,cU p hpm y (List.mem_of_getElem? hy)⟩⟩; show W2.cell bv (0+j*1)=_; rw [show 0+j*1=j by omega]; refine AFU.cell ?_; unfold C7; rw [List.getElem?_map,hy]; rfl
  have hm:∀ s,Lx l p.1.type=some s→s.map.length≤p.1.AH.length∧∃ t,A_ c s.type=some t∧∀ m,m ∈ s.map→0≤m∧m.toNat<(Ak c t).length:=by
   intro s Gz; unfold Lx at Gz; have jv:s.to=p.1.type:=by simpa using List.find?_some Gz
   obtain ⟨j,hj⟩:=List.getElem?_of_mem (List.mem_of_find?_eq_some Gz); obtain ⟨t,a,S⟩:=RH hs hj; obtain ⟨ix,SY,VW⟩:=Lw p hpm; rw [←jv,S.ai] at SY
   cases SY
   refine ⟨by rw [VW S.ea,S.len]; exact Nat.le_refl _,t,S.ti,fun m QD=>?_⟩; obtain ⟨k,hk⟩:=List.getElem?_of_mem QD; have cw:k<(Ak c a).length:=by rw [←S.len]; exact (List.getElem?_eq_some_iff.1 hk).1
   obtain ⟨n,Nb,Oe,ZC,_⟩:=S.map k cw; rw [hk] at Nb
   cases Nb
   omega
  refine (j3 (w:=w) (r:=r) (r1:=r1) (r2:=r2) t2 (Q.rd.kp Q.top SZ) (Q.cat.kp Q.top SZ) hC RR hm Nx).mono fun en W3 ⟨k3,t3,vv,Ef,WQ⟩=>?_; subst Ef; refine AZ ?_; have yQ:=k2.trans k3; have fe:=SZ.trans k3; have yw:=fc.ext t2 k3; have pB:=XG.ext t' yQ; rw [A8 Vg Ia Au]; simp only [AA]; generalize hy:A4 c l p.1=y at WQ
  have nr:(Gl (y,vv)).all BN=true:=by
   rcases WQ with ⟨rfl,_⟩ | ⟨bv2,rfl,_⟩
   ·unfold Gl; rw [hv]; rfl
   ·rfl
  refine DF Ia (a:=⟨b0,0+i*2,none⟩) (ws:=Gl (y,vv)) nr rfl pB (by show 0+i*2+2≤_; rw [Lj,gL]; omega) fun W4 j4 Il=>?_; have j4:DO b0 W3 W4:=j4
  have qX:(qs++ps.drop i).set i (y,vv)=(qs++[(y,vv)])++ps.drop (i+1):=by
   rw [MJ,List.set_append_right _ _ (by omega),hql,Nat.sub_self]; simp
  have Il:As W4 b0 56 (((qs++[(y,vv)])++ps.drop (i+1)).flatMap Gl):=by
   rw [←qX,←o8 (by rw [gL]; exact Au)]; exact Il
  have ACs:J7≠b0:=by
   rintro rfl; have:=Bl pA XG; cases this
  have AFV:=pB.lt t3; have t4:=t3.A5 AFV j4; have l15:∀ W0,Kp W2 W0→ld prog 24 (.pointer (some ⟨J7,0,none⟩)) W0=some (.slice (some ⟨b0,0,none⟩) ps.length ps.length):=fun W0 k0=>AB n9 (a:=⟨J7,0,none⟩) ((fc.ext t2 k0).cell rfl); refine ⟨by simp only [BO (vs:=Gl p) (a:=⟨W'.sz,0,none⟩) YX Ia rfl (by omega) ACr.cells,l15 W2 (.refl _),l15 W3 k3,Yi ((Q.rr.ext Q.top SZ)),OU (Q.k.ext Q.top SZ),and_self],trivial,?_⟩; simp only [gf,B_,HB]; simp only [Ao,BC,Nat.reduceEqDiff,↓reduceIte,h39,Az,AA]
  have pC:∀ {j:Nat} {ws:List Value},As W3 j 3 ws→As W4 j 3 ws:=fun {j ws} hB=>hB.congr (j4.obj j (by
   rintro rfl
   have:=Bl hB pB; cases this))
  refine ⟨Au,trivial,fe.A5 (by omega) j4,t4,yw.congr (j4.obj _ ACs),?_,?_,?_,?_,?_,?_,qs++[(y,vv)],by simp [hql],⟨?_,yv.new,fun q hq=>?_⟩,?_⟩
  ·simp only [h9]
  ·simp only [uT]
  ·simp only [iF]
  ·simp only [h37]
  ·simp only [h38]
  ·rw [Du (by omega)]
  ·refine DU.some Il ?_; rw [HO,←qX,List.length_set,gL]
  ·have old:∀ q,q ∈ qs++ps.drop i→∃ bv,q.2=.slice (some ⟨bv,0,none⟩) q.1.AH.length q.1.AH.length∧As W4 bv 3 (C7 q.1.AH)∧B≤bv:=fun q hq=>by
    obtain ⟨bq,h1,h2,h3⟩:=yv.pv q hq; exact ⟨bq,h1,pC (h2.ext t' yQ),h3⟩
   rw [List.append_assoc] at hq
   rcases List.mem_append.1 hq with hq | hq
   ·exact old q (List.mem_append_left _ hq)
   ·rcases List.mem_append.1 hq with hq | hq
    ·cases List.mem_singleton.1 hq
     rcases WQ with ⟨h1,h2⟩ | ⟨bv2,h1,h2,h3⟩
     ·refine ⟨bv,?_,?_,hBB⟩
      ·show vv=_; rw [h1,hv]; show _=Value.slice _ y.AH.length y.AH.length; rw [h2]
      ·show As W4 bv 3 (C7 y.AH); rw [h2]; exact pC (oG.ext t' yQ)
     ·have:=k2.sz; have:=Nw t' yv.own (⟨_,_,_,rfl,rfl⟩:BV (.slice (some ⟨b0,0,none⟩) ps.length ps.length) b0); exact ⟨bv2,h1,pC h2,by omega⟩
    ·exact old q (List.mem_append_right _ (by rw [MJ]; exact List.mem_cons_of_mem _ hq))
  ·rw [List.map_append,hqs,List.take_add_one,hp,List.map_append,←hy]; rfl
end Go.Ce
namespace Go.Ce
open Go Go.Proofs Go.Proofs.Tryz
theorem AFW:Gm prog 24=some (.slice none 0 0):=by kernel_rfl
theorem El.low {B B':Nat} {W:CW} {v:Value} {ps:List (BM × Value)} (h:El B W v ps) (hB:B'≤B):El B' W v ps:=⟨h.own,fun b l c e=>by have:=h.new b l c e; omega,fun p hp=>by
 obtain ⟨bv,h1,h2,h3⟩:=h.pv p hp
 exact ⟨bv,h1,h2,by omega⟩⟩
def Lp (c:List Ad) (l:List Bc) (b:List UInt8):List BM × Int × Int :=
 if BL c=false then ([],0,210) else if BG c l=false then ([],0,212) else if 100000<b.length then ([],0,2) else match CF b c (I_ c l) 0 with
 | .error e=>([],0,e)
 | .ok (xs,_)=>(xs.map (A4 c l),min (xs.length:Int) 1,0)
def bj (r:List BM × Int × Int) (W:CW):Ending→CW→Prop:=fun en W'=>Kp W W'∧Al W'∧∃ v qs,en=.returned (.tuple #[v,.int .i64 r.2.1,.int .i64 r.2.2])∧El W.sz W' v qs∧qs.map (·.1)=r.1∧∀ q,q ∈ qs→sd q.1
structure fg (A:CW) (vb:Value) (b:List UInt8):Prop where
 sl:∃ a cap,vb=.slice a b.length cap∧b.length≤cap∧∀ i x,b[i]?=some x→∃ p,a=some p∧KR A p.block (p.off+i*1) x
theorem fg.kp {A W:CW} {vb:Value} {b:List UInt8} (h:fg A vb b) (ht:Al A) (k:Kp A W):fg W vb b:=by
 obtain ⟨a,cap,h1,h2,h3⟩:=h.sl
 exact ⟨a,cap,h1,h2,fun i x hx=>by
  obtain ⟨p,q1,q2⟩:=h3 i x hx
  exact ⟨p,q1,k.cell ht q2⟩⟩
theorem sg {A W:CW} {bk br r1 r2 w r J7 rb:Nat} {vb:Value} {b:List UInt8} {c:List Ad} {l:List Bc} (Q:iJ A bk br r1 r2 w r c l) (I:bQ A vb b) (h:Rd A W rb vb 0) (se:As W J7 24 [.slice none 0 0]) (zt:A.sz≤J7) (Dm:J7≠rb) (Ac:BL c=true) (hC:OP c) {K:Value→CW→Prop} {KP:List PanicEntry→CW→Prop}
  (hk:∀ W' v xs Ds ps,CF b c (I_ c l) 0=.ok (xs,Ds)→Bq (fun j=>j=rb∨j=J7) W W'→Al W'→As W' J7 24 [v]→El W.sz W' v ps→ps.map (·.1)=xs→K (.tuple #[]) W')
  (hp:∀ W' x,CF b c (I_ c l) 0=.error x→Bq (WC rb) W W'→Al W'→KP (DL x) W') :
  DZ prog AV (.func (.func 73) #[] #[.pointer (some ⟨bk,0,none⟩),.pointer (some ⟨br,0,none⟩),.pointer (some ⟨J7,0,none⟩)]) [.pointer (some ⟨rb,0,none⟩)] W K KP:=by
 refine GY Tryz.func73 (by kernel_rfl) ?_; refine AAy (v0:=.pointer (some ⟨rb,0,none⟩)) (v1:=.pointer (some ⟨bk,0,none⟩)) (v2:=.pointer (some ⟨br,0,none⟩)) (v3:=.pointer (some ⟨J7,0,none⟩)) ?_; rw [AAx]; rw [OU (Q.k.ext Q.top h.kp)]; simp only [AA]; refine (bV (c:=c) I h (Nat.zero_le _) (oy Q) (fun s hs=>(XS hs).1) Q.cat Ac hC).mono fun en W1 ⟨k1,t1,hr⟩=>?_
 cases HD:CF b c (I_ c l) 0 with
 | error x =>
  rw [HD] at hr; simp only at hr; subst hr; exact hp W1 x HD k1 t1
 | ok r =>
  obtain ⟨xs,Ds⟩:=r; rw [HD] at hr; obtain ⟨v,Ef,⟨ps,h1,h2⟩,_⟩:=hr; subst Ef; refine AZ ?_; have eU:=k1.HR h.top (b:=J7) Dm se; refine Af s24 (a:=⟨J7,0,none⟩) (v:=v) (OO h2.own) eU (by simp) fun W2 hu GK=>?_; have hu:DO J7 W1 W2:=hu; have hl:=se.lt h.top; refine Io (by kernel_rfl) _ _ (.inl rfl) _ _ (hk W2 v xs Ds ps HD ⟨by rw [hu.sz]; exact k1.sz,fun j hj hS=>?_⟩ (t1.A5 (eU.lt t1) hu) GK (h2.of fun j o hj ho _=>by rw [hu.obj j (by omega)]; exact ho) h1); rw [hu.obj j (fun e=>hS (.inr e)),k1.obj j hj (fun e=>hS (.inl e))]
theorem j5 {v0 v1 vb:Value} {c:List Ad} {l:List Bc} {b:List UInt8} {W:CW} (ht:Al W) (hc:Ax 5 (Lu W) v0 c) (hC:OP c) (hl:Ax 3 (OM W) v1 l) (gL:l.length<100000) (Nx:∀ s,s ∈ l→s.map.length<100000) (hb:fg W vb b) :
  AF prog AV 19 [v0,v1,vb] W (bj (Lp c l b) W):=by
 refine AAv ?_; rw [AAt]; generalize Jq:AI prog Tryz.f19 (bj (Lp c l b) W)=KK
 have F_:∀ (e':Env) W' v n m qs,Kp W W'→Al W'→e' 6=v→e' 7=.int .i64 n→e' 8=.int .i64 m→El W.sz W' v qs→(∀ q,q ∈ qs→sd q.1)→Lp c l b=(qs.map (·.1),n,m)→KK .ret e' [] W':=by
  intro e' W' v n m qs k t h6 h7 h8 hH cU hn; rw [←Jq,jM,h6,h7,h8,hn]; exact ⟨k,t,v,qs,rfl,hH,rfl,cU⟩
 have KA:∀ W',El W.sz W' (.slice none 0 0) []:=fun W'=>⟨DU.nil,CC.nil _ _ _,fun p hp=>by cases hp⟩
 refine (Md ht hc hC).mono fun en W1 ⟨k1,t1,r1,r2,Ef,HZ,NW,EB⟩=>?_; subst Ef; refine AZ ?_; refine Ay (Be _ _) ?_; refine Ay (Bf _ _) ?_; unfold H6; refine CZ (ws:=[.map (some r1),.map (some r2)]) nZ NV rfl rfl rfl t1 fun W3 k3 t3 z3 hB9=>?_; have qH:=k1.trans k3; simp only [Ai,AA]
 cases Ac:BL c with
 | false =>
  simp only [Bool.not_false,Bh]; exact F_ _ W3 _ 0 210 [] qH t3 rfl rfl rfl (KA _) (fun q hq=>by cases hq) (by unfold Lp; rw [if_pos Ac]; rfl)
 | true =>
  simp only [Bool.not_true,Ar]; have Lo:=(EB Ac).kp t1 k3; rw [OU hB9]; simp only [AA]; refine (bA t3 Lo hC (hl.imp fun _ _ _ hr=>hr.kp ht qH) gL Nx).mono fun en W4 ⟨k4,t4,w,r,Ef,Gz⟩=>?_; subst Ef; refine AZ ?_; refine Ay (Be _ _) ?_; refine Ay (Bf _ _) ?_; refine CZ (ws:=[.map (some w),.map (some r)]) z83 np rfl rfl rfl t4 fun A k7 tA z7 V_=>?_; have k3A:=k4.trans k7; have qG:=qH.trans k3A; simp only [Ai,AA]
  cases hs:BG c l with
  | false =>
   simp only [Bool.not_false,Bh]; exact F_ _ A _ 0 212 [] qG tA rfl rfl rfl (KA _) (fun q hq=>by cases hq) (by unfold Lp; rw [if_neg (by rw [Ac]; simp),if_pos hs]; rfl)
  | true =>
   simp only [Bool.not_true,Ar]; obtain ⟨hsw,qY⟩:=Gz hs; have Q:iJ A W1.sz W4.sz r1 r2 w r c l:=⟨tA,hB9.ext t3 k3A,V_,Lo.kp t3 k3A,hsw.kp t4 k7,qY.kp t4 k7⟩
   have hbA:=hb.kp ht qG; refine Gx AFW s24 tA fun T k8 tT zT Yr=>?_; have Yr:As T A.sz 24 [.slice none 0 0]:=Yr; obtain ⟨a,cap,ct,Zf,nu⟩:=hbA.sl; rw [ct]
   have Jy:Lp c l b=(if 100000<b.length then ([],0,2) else match CF b c (I_ c l) 0 with
    | .error e=>([],0,e)
    | .ok (xs,_)=>(xs.map (A4 c l),min (xs.length:Int) 1,0)):=by
    unfold Lp; rw [if_neg (by rw [Ac]; simp),if_neg (by rw [hs]; simp)]
   have gS:∀ x,CF b c (I_ c l) 0=.error x→x≠0:=fun x=>bb oz; have hTn:Kp A T:=k8
   refine (fa (Q:=fun en W'=>Kp A W'∧Al W'∧∃ x,en=.returned (.int .i64 x)∧((x≠0∧Lp c l b=([],0,x))∨(x=0∧∃ v xs Ds ps,Lp c l b=(xs.map (A4 c l),min (xs.length:Int) 1,0)∧CF b c (I_ c l) 0=.ok (xs,Ds)∧As W' A.sz 24 [v]∧El A.sz W' v ps∧ps.map (·.1)=xs))) tT (fun Ty W' k t=>⟨k8.trans k,t,2,rfl,.inl ⟨by decide,by rw [Jy,if_pos Ty]⟩⟩) (fun V7 W0 k t hz hBe hBr=>?_)).mono fun en W' ⟨kk,tt,x,Ef,WQ⟩=>?_
   ·have uU:=k8.trans k
    have ACt:Lp c l b=(match CF b c (I_ c l) 0 with
     | .error e=>([],0,e)
     | .ok (xs,_)=>(xs.map (A4 c l),min (xs.length:Int) 1,0)):=by rw [Jy,if_neg (by omega)]
    have I:bQ A (.slice a b.length cap) b:=⟨tA,⟨a,cap,rfl,Zf,nu⟩,V7⟩
    have R:Rd A W0 (T.sz+1) (.slice a b.length cap) 0:=⟨uU,t,by omega,hBr⟩
    refine sg Q I R (Yr.ext tT k) (Nat.le_refl _) (by omega) Ac hC (fun W3 v xs Ds ps HD HI t3 Fg hH3 nX=>?_) (fun W4 x HD HI t4=>?_)
    ·refine ⟨t3,HI.HR t (fun h=>by omega) hBe,fun W' hu t'=>⟨⟨?_,fun j hj=>?_⟩,t',0,rfl,.inr ⟨rfl,v,xs,Ds,ps,?_,HD,?_,?_,nX⟩⟩⟩
     ·have h1:=uU.sz; have h2:=HI.sz; have h3:=hu.sz; omega
     ·have h1:=uU.sz; have h2:=HI.sz; rw [hu.obj j (by omega) (by omega),HI.obj j (by omega) (fun h=>by omega),uU.obj j hj]
     ·rw [ACt,HD]
     ·exact Fg.congr (hu.obj _ (Fg.lt t3) (by omega))
     ·exact (hH3.of fun j o hj ho _=>by rw [hu.obj j (t3 _ _ ho) (by omega)]; exact ho).low uU.sz
    ·refine ⟨x,rfl,t4,HI.HR t (fun h=>by have:T.sz=T.sz+1:=h; omega) hBe,fun W' hu t'=>⟨⟨?_,fun j hj=>?_⟩,t',x,rfl,.inl ⟨gS x HD,by rw [ACt,HD]⟩⟩⟩
     ·have h1:=uU.sz; have h2:=HI.sz; have h3:=hu.sz; omega
     ·have h1:=uU.sz; have h2:=HI.sz; rw [hu.obj j (by omega) (by omega),HI.obj j (by omega) (fun h=>by have:j=T.sz+1:=h; omega),uU.obj j hj]
   ·subst Ef; refine AZ ?_; simp only [DI,AA]
    rcases WQ with ⟨hx,hr⟩ | ⟨rfl,v,xs,Ds,ps,hr,HD,hB,hH,nX⟩
    ·rw [show (x != 0)=true by simpa using hx,Bh]; exact F_ _ W' _ 0 x [] (qG.trans kk) tt rfl rfl rfl (KA _) (fun q hq=>by cases hq) hr
    ·rw [show ((0:Int) != 0)=false from rfl,Ar]; rw [AB n9 (a:=⟨A.sz,0,none⟩) (hB.cell rfl)]; simp only [AA]; obtain ⟨Lw,JV⟩:=bc HD; have cU:=fb HD; subst nX; rw [List.length_map] at JV
     have hlen:Aj prog 24 v W'=some (.int .i64 ps.length):=by
      have:=HO ps; exact Hl Vg hH.own (by omega) (by omega)
     rw [hlen]; simp only [AA]; refine o_ (c:=c) (l:=l) (ps:=ps) Q hC hs Nx (fun p hp=>Lw _ (List.mem_map_of_mem hp)) (fun p hp=>cU _ (List.mem_map_of_mem hp)) JV kk tt (Nat.le_refl _) (Nat.le_refl _) hB hH rfl rfl rfl rfl rfl rfl (fun e' W2 qs SZ t2 GK hH2 hqs iF=>?_); simp only [gd,B_,Va,M6]; rw [iF]; have Mz:ld prog 24 (.pointer (some ⟨A.sz,0,none⟩)) W2=some v:=AB n9 (a:=⟨A.sz,0,none⟩) (GK.cell rfl); rw [Mz]
     have hql:qs.length=ps.length:=by
      have:=congrArg List.length hqs
      simpa using this
     have ACu:Aj prog 24 v W2=some (.int .i64 qs.length):=by
      have:=HO qs; exact Hl Vg hH2.own (by omega) (by omega)
     simp only [AA]; rw [ACu]; simp only [AA]; rw [iG]; simp only [nA]; refine ⟨by simp only [Mz,and_self],trivial,?_⟩; refine F_ _ W2 v (min (qs.length:Int) 1) 0 qs (qG.trans SZ) t2 rfl rfl rfl (hH2.low (by have:=qG.sz; omega)) (fun q hq=>?_) (by rw [hr,List.map_map,hqs,List.length_map,hql]; rfl); have:q.1 ∈ ps.map (fun p=>A4 c l p.1):=by rw [←hqs]; exact List.mem_map_of_mem hq
     obtain ⟨p,hp,he⟩:=List.mem_map.1 this; rw [←he]; exact o5 (cU _ (List.mem_map_of_mem hp))
end Go.Ce
namespace Go.Ce
open Go Go.Proofs Go.Proofs.Tryz
def bI (b:List UInt8):List Int:=b.map fun x=>((x.toNat:Nat):Int)
theorem Jt (b:List UInt8):(bI b).length=b.length:=List.length_map _
structure Ve (b:List UInt8) (i j:Nat) (e:List Int):Prop where
 le:j≤b.length
 ij:j=i+e.length
 eq:(bI b).drop i=e++(bI b).drop j
theorem Ve.split {b:List UInt8} {i k:Nat} {e f:List Int} (h:Ve b i k (e++f)):∃ j,Ve b i j e∧Ve b j k f:=by
 have hl:=h.ij; have hle:=h.le; rw [List.length_append] at hl
 have hd:(bI b).drop (i+e.length)=f++(bI b).drop k:=by
  rw [←List.drop_drop,h.eq,List.append_assoc,List.drop_left]
 exact ⟨i+e.length,⟨by omega,rfl,by rw [h.eq,hd,List.append_assoc]⟩,⟨h.le,by omega,hd⟩⟩
theorem Ve.head {b:List UInt8} {i k:Nat} {n:Int} {f:List Int} (h:Ve b i k (n::f)):∃ x,b[i]?=some x∧n=((x.toNat:Nat):Int)∧Ve b (i+1) k f:=by
 have hl:=h.ij; have hle:=h.le; rw [List.length_cons] at hl; have G4:i<b.length:=by omega
 have he:=h.eq; unfold bI at he; rw [←List.map_drop,List.drop_eq_getElem_cons G4,List.map_cons,List.cons_append] at he
 injection he with h1 h2
 refine ⟨b[i],List.getElem?_eq_getElem G4,h1.symm,⟨hle,by omega,?_⟩⟩; unfold bI; rw [←List.map_drop]; exact h2
theorem Tk {n:Nat} (h:n<128):B0 n=[(n:Int)]:=by unfold B0; rw [if_pos h]
theorem sj {n:Nat} (h:128≤n):B0 n=((n % 128+128:Nat):Int)::B0 (n / 128):=by
 conv=>lhs; unfold B0
 rw [if_neg (by omega)]
theorem iL {b:List UInt8}:∀ {f at_ n sh v j:Nat},0<f→v<128 ^ f→(0<v∨sh=0)→Ve b at_ j (B0 v)→Ml b f at_ n sh=.ok (n+v*2 ^ sh,j)
 | f+1,at_,n,sh,v,j,_,h,h0,hs=>by
  unfold Ml
  by_cases hv:v<128
  ·rw [Tk hv] at hs; obtain ⟨x,hx,he,hq⟩:=hs.head; have:v=x.toNat:=by omega
   subst this; rw [hx]; simp only [if_pos hv]; rw [if_pos h0]; have:=hq.ij; rw [List.length_nil] at this; rw [this]
  ·rw [sj (by omega)] at hs; obtain ⟨x,hx,he,hq⟩:=hs.head; have:v % 128+128=x.toNat:=by omega
   rw [hx]; simp only; rw [if_neg (by omega),iL (Nat.pos_of_ne_zero (by rintro rfl; omega)) (by rw [Nat.pow_succ] at h; omega) (.inl (by omega)) hq,show x.toNat % 128=v % 128 by omega]; congr 2; rw [Nat.pow_add,show (2:Nat) ^ 7=128 from rfl,Nat.mul_comm (2 ^ sh) 128,←Nat.mul_assoc,Nat.add_assoc,←Nat.add_mul]; congr 2; omega
theorem JY {b:List UInt8} {at_:Nat} {m:Int} {n j:Nat} (h:Ve b at_ j (B0 n)) (hm:(n:Int)≤m) (hn:n<4398046511104):Et b at_ m=.ok (n,j):=by
 unfold Et; rw [iL (f:=6) (n:=0) (sh:=0) (by omega) (by omega) (.inr rfl) h]; simp only [Nat.zero_add,Nat.pow_zero,Nat.mul_one]; rw [if_pos hm]
inductive JZ (c:List Ad) (ix many:Nat):Nat→Nat→List Int→Nat→Prop
 | nil (k fd:Nat):JZ c ix many k fd [] fd
 | ref {k fd v:Nat} {vs:List Int} {Fs:Nat} (hk:A6 c ix k=2) (hv:v≤min (fd+1) many) (h:JZ c ix many (k+1) (max fd v) vs Fs):JZ c ix many k fd ((v:Int)::vs) Fs
 | word {k fd:Nat} {v:Int} {vs:List Int} {Fs:Nat} (hk:A6 c ix k≠2) (h1:-1000000000≤v) (h2:v≤1000000000) (h:JZ c ix many (k+1) fd vs Fs):JZ c ix many k fd (v::vs) Fs
def RX (c:List Ad) (ix:Nat):Nat→List Int→List Int
 | _,[]=>[]
 | k,v::vs=>(if A6 c ix k=2 then B0 v.toNat else B0 (Km v).toNat)++RX c ix (k+1) vs
theorem pD (v:Int):WD (Km v).toNat=v:=by
 unfold Km WD; split <;> split <;> omega
theorem so {v:Int} (h1:-1000000000≤v) (h2:v≤1000000000):(Km v).toNat≤2000000000:=by
 unfold Km; split <;> omega
theorem pE {b:List UInt8} {c:List Ad} {ix many:Nat} (hm:many≤1000) {k fd Fs:Nat} {new:List Int} (h:JZ c ix many k fd new Fs):∀ {at_ j:Nat} {vs:List Int},Ve b at_ j (RX c ix k new)→FD b c ix many new.length k at_ fd vs=.ok (vs++new,Fs,j):=by
 induction h with
 | nil k fd =>
  intro at_ j vs hs; have:=hs.ij; rw [show RX c ix k []=[] from rfl] at this; rw [this,List.append_nil]; rfl
 | @ref k fd v vs' Fs hk hv h ih =>
  intro at_ j vs hs; rw [RX,if_pos hk,Int.toNat_natCast] at hs; obtain ⟨a,h1,h2⟩:=hs.split; rw [List.length_cons,FD,if_pos hk,JY h1 (by omega) (by omega)]; simp only; rw [ih h2]; simp
 | @word k fd v vs' Fs hk Wf QY h ih =>
  intro at_ j vs hs; rw [RX,if_neg hk] at hs; obtain ⟨a,h1,h2⟩:=hs.split; have:=so Wf QY; rw [List.length_cons,FD,if_neg hk,JY h1 (by omega) (by omega)]; simp only; rw [ih h2,pD]; simp
end Go.Ce
namespace Go.Ce
open Go Go.Proofs Go.Proofs.Tryz
theorem j6 {ts:List ByteArray} (hn:ts.Nodup) {t:Nat} {s:ByteArray} (h:ts[t]?=some s):Ib ts (fun x=>decide (x=s))=t:=by
 obtain ⟨hl,he⟩:=List.getElem?_eq_some_iff.1 h; refine KT hl (by rw [he]; simp) fun j x hj hx=>?_; obtain ⟨U0,hje⟩:=List.getElem?_eq_some_iff.1 hx
 have:x≠s:=by
  rintro rfl; have:=(List.getElem_inj hn).1 (hje.trans he.symm); omega
 simpa using this
inductive F3 (c:List Ad) (ts:List ByteArray) (many:Nat):Nat→Nat→Nat→List BM→Nat→Nat→Prop
 | nil (i u f:Nat):F3 c ts many i u f [] u f
 | cons {i u f:Nat} {x:BM} {xs:List BM} {t ix f1 u' f':Nat} (hi:i<f) (ht:ts[t]?=some x.type) (ZY:t≤u) (hx:A_ c x.type=some ix) (hn:if elemAt c ix≠0 then x.AH.length≤200 else x.AH.length=(Ak c ix).length) (hv:JZ c ix many 0 f x.AH f1) (h:F3 c ts many (i+1) (if t=u then u+1 else u) f1 xs u' f'):F3 c ts many i u f (x::xs) u' f'
def Mp (c:List Ad) (ts:List ByteArray) (x:BM):List Int:=match A_ c x.type with
 | some i=>B0 (Ib ts fun y=>decide (y=x.type)).toNat++(if elemAt c i≠0 then B0 x.AH.length else [])++RX c i 0 x.AH
 | none=>[]
theorem j7 {b:List UInt8} {c:List Ad} {ts:List ByteArray} {many:Nat} (hm:many≤1000) (Vx:ts.Nodup) (S1:ts.length≤100) {i u f u' f':Nat} {new:List BM} (h:F3 c ts many i u f new u' f'):∀ {at_ j:Nat} {out:List BM},Ve b at_ j (new.flatMap (Mp c ts))→Ek b c ts many new.length i at_ u f out=.ok (out++new,u',f',j):=by
 induction h with
 | nil i u f =>
  intro at_ j out hs; have:=hs.ij; rw [show List.flatMap (Mp c ts) []=[] from rfl] at this; rw [this,List.append_nil]; rfl
 | @cons i u f x xs t ix f1 u' f' hi ht ZY hx hn hv h ih =>
  intro at_ j out hs; rw [List.flatMap_cons] at hs; obtain ⟨a3,hs,Jf⟩:=hs.split; unfold Mp at hs; rw [hx] at hs; obtain ⟨a2,hs,hsv⟩:=hs.split; obtain ⟨a1,EL,ik⟩:=hs.split; have AGg:=(List.getElem?_eq_some_iff.1 ht).1; rw [j6 Vx ht] at EL; have EL:Ve b at_ a1 (B0 t):=EL; rw [List.length_cons,Ek,if_pos hi,JY EL (by omega) (by omega)]; simp only; rw [ht]; simp only; rw [hx]; simp only
  have Oe:(if elemAt c ix≠0 then Et b a1 200 else .ok ((Ak c ix).length,a1))=.ok (x.AH.length,a2):=by
   split
   ·rename_i he; rw [if_pos he] at hn ik; exact JY ik (by omega) (by omega)
   ·rename_i he; rw [if_neg he] at hn ik; have:=ik.ij; rw [hn,this]; rfl
  rw [Oe]; simp only; rw [pE hm hv hsv]; simp only; rw [ih Jf]; simp
theorem fh (l:List UInt8):(strOf l).size=l.length:=by
 unfold strOf; show l.toArray.size=_; simp
theorem bn (s:ByteArray):strOf (sb s)=s:=by
 unfold strOf sb; simp
theorem Ve.bytes {b:List UInt8} {a j:Nat} {l:List UInt8} (h:Ve b a j (bI l)):(b.drop a).take l.length=l∧a+l.length=j∧j≤b.length:=by
 have h1:=h.ij; rw [Jt] at h1; refine ⟨?_,h1.symm,h.le⟩
 have he:((bI b).drop a).take l.length=bI l:=by
  rw [h.eq,List.take_append_of_le_length (by rw [Jt]; omega),List.take_of_length_le (by rw [Jt]; omega)]
 unfold bI at he; rw [←List.map_drop,←List.map_take] at he
 have AFX:∀ (x y:List UInt8),x.map (fun x=>((x.toNat:Nat):Int))=y.map (fun x=>((x.toNat:Nat):Int))→x=y:=by
  intro x y hxy; refine List.map_inj_right (f:=fun x:UInt8=>((x.toNat:Nat):Int)) (fun p q hpq=>?_) |>.1 hxy; exact UInt8.toNat_inj.1 (Int.ofNat.inj hpq)
 exact AFX _ _ he
theorem bo {b:List UInt8} {ask:ByteArray→Option Int}:∀ {new:List ByteArray} {at_ j:Nat} {out:List ByteArray},(∀ s,s ∈ new→Fp s=true∧ask s=none)→(out++new).Nodup→Ve b at_ j (new.flatMap GZ)→JX b ask new.length at_ out=.ok (out++new,j)
 | [],at_,j,out,_,_,hs=>by
  have:=hs.ij; rw [show List.flatMap GZ []=[] from rfl] at this; rw [this,List.append_nil]; rfl
 | s::new,at_,j,out,hn,Vx,hs=>by
  rw [List.flatMap_cons] at hs; obtain ⟨a2,hs,Jf⟩:=hs.split; unfold GZ at hs; obtain ⟨a1,h1,h2⟩:=hs.split; obtain ⟨yZ,Ys⟩:=hn s (by simp)
  have Gp:s.size≤60:=by
   unfold Fp at yZ; simp only [Bool.and_eq_true,decide_eq_true_eq] at yZ; omega
  have hb:Hj s=bI (sb s):=rfl; rw [hb] at h2; obtain ⟨q1,q2,q3⟩:=h2.bytes; have hl:(sb s).length=s.size:=by rw [←fh,bn]
  rw [hl] at q1 q2; have hS:strOf ((b.drop a1).take s.size)=s:=by rw [q1,bn]
  rw [List.length_cons,JX,JY h1 (by omega) (by omega)]; simp only; rw [HN,if_pos (by omega)]; simp only
  have AFY:(out.any fun x=>decide (x=s))=false:=by
   refine List.any_eq_false.2 fun x hx=>?_; have:=(List.nodup_append.1 Vx).2.2 x hx s (by simp)
   simpa using this
  rw [hS,if_pos ⟨yZ,AFY⟩,Ys]; rw [q2,bo (fun x hx=>hn x (by simp [hx])) (by simpa using Vx) Jf]; simp
structure Canon (c:List Ad) (ask:ByteArray→Option Int) (ts:List ByteArray) (xs:List BM):Prop where
 tsl:ts.length≤100
 sym:∀ s,s ∈ ts→Fp s=true∧ask s=none
 nodup:ts.Nodup
 len:xs.length≤1000
 scan:F3 c ts xs.length 0 0 (min xs.length 1) xs ts.length xs.length
def Ju (c:List Ad) (ts:List ByteArray) (xs:List BM):List Int:=[1]++B0 ts.length++ts.flatMap GZ++B0 xs.length++xs.flatMap (Mp c ts)
theorem Ve.all {b:List UInt8} {e:List Int}:Ve b 0 b.length e↔bI b=e:=by
 constructor
 ·intro h; have:=h.eq; rw [List.drop_zero,List.drop_of_length_le (by rw [Jt]; omega),List.append_nil] at this; exact this
 ·rintro rfl; refine ⟨by omega,by rw [Jt]; omega,?_⟩; rw [List.drop_zero,List.drop_of_length_le (by rw [Jt]; omega),List.append_nil]
end Go.Ce
namespace Go.Ce
open Go Go.Proofs Go.Proofs.Tryz
theorem RY {c:List Ad} {l:List Bc} (h:BG c l=true) {i:Nat} {s:Bc} (hs:l[i]?=some s):HC l s i=false∧∀ k,k<l.length→JQ l s i k=false:=by
 unfold BG at h; simp only [Bool.and_eq_true,Bool.not_eq_true'] at h; have hb:=Dh h.2 (List.getElem?_eq_some_iff.1 hs).1; unfold RG at hb; rw [hs] at hb; simp only at hb
 split at hb
 ·simp only [Bool.or_eq_false_iff] at hb; exact ⟨hb.1.2,fun k hk=>Dh hb.2.1 hk⟩
 ·cases hb
theorem pF {c:List Ad} {l:List Bc} (h:BG c l=true):∀ (k j:Nat) (x y:Bc),j<k→l[j]?=some x→l[k]?=some y→S7 (sb x.type) (sb y.type)=true:=by
 intro k
 induction k with
 | zero=>intro j x y hj; omega
 | succ k ih =>
  intro j x y hj hx hy; have hp:=(RY h hy).1; unfold HC at hp; have cw:k<l.length:=by have:=(List.getElem?_eq_some_iff.1 hy).1; omega
  have hz:=List.getElem?_eq_getElem cw; simp only [hz,Bool.not_eq_false'] at hp
  rcases Nat.lt_succ_iff_lt_or_eq.1 hj with h1 | rfl
  ·exact NC _ _ _ (ih j x _ h1 hx hz) hp
  ·rw [hx] at hz; cases hz; exact hp
theorem j8 {c:List Ad} {l:List Bc} (h:BG c l=true) {s:Bc} (hs:s ∈ l):Gy l s.type=some s:=by
 obtain ⟨i,hi,he⟩:=List.mem_iff_getElem.1 hs; have IJ:=List.getElem?_eq_getElem hi; rw [he] at IJ
 have:=nI (l:=l) (s:=s.type) hi (by rw [he]; simp) (fun j hj=>by
  have U0:j<l.length:=by omega
  have hj':=List.getElem?_eq_getElem U0; rw [hj']; have Au:=pF h i j _ _ hj hj' IJ; simp only [Option.map_some,Option.some.injEq,decide_eq_false_iff_not]; intro e
  rw [e,PV] at Au; cases Au)
 rw [this,he]
theorem uV {c:List Ad} {l:List Bc} (h:BG c l=true) {s x:Bc} (hs:s ∈ l) (hx:x ∈ l):x.type≠s.to:=by
 obtain ⟨i,hi,he⟩:=List.mem_iff_getElem.1 hs; obtain ⟨k,hk,hke⟩:=List.mem_iff_getElem.1 hx; have IJ:=List.getElem?_eq_getElem hi; rw [he] at IJ; have:=(RY h IJ).2 k hk; unfold JQ at this; rw [List.getElem?_eq_getElem hk,hke] at this; simp only [Bool.or_eq_false_iff,decide_eq_false_iff_not] at this; exact this.1
theorem pG {c:List Ad} {l:List Bc} (h:BG c l=true) {s:Bc} (hs:s ∈ l):Lx l s.to=some s:=by
 unfold Lx; obtain ⟨i,hi,he⟩:=List.mem_iff_getElem.1 hs; have IJ:=List.getElem?_eq_getElem hi; rw [he] at IJ; rw [List.find?_eq_some_iff_getElem]; refine ⟨by simp,i,hi,he,fun j hj=>?_⟩; have U0:j<l.length:=by omega
 have:=(RY h IJ).2 j U0; unfold JQ at this; rw [List.getElem?_eq_getElem U0] at this; simp only [Bool.or_eq_false_iff,Bool.and_eq_false_iff,decide_eq_false_iff_not] at this
 rcases this.2 with h1 | h1
 ·exact (h1 hj).elim
 ·simpa using h1
theorem j9 {l:List Bc} {s:ByteArray} {x:Bc} (h:Lx l s=some x):x ∈ l∧x.to=s:=⟨List.mem_of_find?_eq_some h,by simpa using List.find?_some h⟩
theorem j_ {mp:List Int} {k:Nat} {n:Int} (h:RF mp k n=false) {j:Nat} (hj:j<k):mp[j]?≠some n:=by
 have:=Dh h hj
 simpa using this
theorem P3 {mp vs z:List Int} (Mx:∀ (k:Nat) m,mp[k]?=some m→0≤m∧m.toNat<z.length) (hd:∀ (k j:Nat) m,j<k→mp[k]?=some m→mp[j]?≠some m):∀ n,n≤mp.length→∀ (j:Nat) m,j<n→mp[j]?=some m→(Es mp vs z n)[m.toNat]?=some ((vs[j]?).getD 0)
 | 0,_,j,m,hj,_=>by omega
 | n+1,hn,j,m,hj,hm=>by
  have Jz:n<mp.length:=by omega
  have hx:=List.getElem?_eq_getElem Jz; have hb:=Mx n _ hx; have Nd:=Mx j _ hm; rw [Es,hx,Option.getD_some,List.getElem?_set]
  by_cases e:n=j
  ·subst e; rw [hx] at hm
   cases hm
   rw [if_pos rfl,if_pos (by rw [IE]; exact hb.2)]
  ·have hjn:j<n:=by omega
   have Dm:mp[n]≠m:=fun e'=>hd n j m hjn (by rw [hx,e']) hm; rw [if_neg (by omega)]; exact P3 Mx hd n (by omega) j m hjn hm
theorem XU {mp vs z:List Int} (Mx:∀ (k:Nat) m,mp[k]?=some m→0≤m) {i:Nat} (hi:∀ m,m ∈ mp→m.toNat≠i):∀ n,n≤mp.length→(Es mp vs z n)[i]?=z[i]?
 | 0,_=>rfl
 | n+1,hn=>by
  have Jz:n<mp.length:=by omega
  have hx:=List.getElem?_eq_getElem Jz; rw [Es,hx,Option.getD_some,List.getElem?_set,if_neg (hi _ (List.mem_of_getElem? hx))]; exact XU Mx hi n (by omega)
structure WIs (c:List Ad) (l:List Bc) (x:BM) (many ix:Nat):Prop where
 ti:A_ c x.type=some ix
 ask:Gy l x.type=none
 n:if elemAt c ix≠0 then x.AH.length≤200 else x.AH.length=(Ak c ix).length
 val:∀ (k:Nat) v,x.AH[k]?=some v→Gd (A6 c ix k) v many=true
theorem iM {c:List Ad} {s:Bc} {t a:Nat} (S:tf c s t a):(∀ (k:Nat) m,s.map[k]?=some m→0≤m∧m.toNat<(Ak c t).length)∧∀ (k j:Nat) m,j<k→s.map[k]?=some m→s.map[j]?≠some m:=by
 constructor
 ·intro k m hk; obtain ⟨n,h1,h2,h3,_⟩:=S.map k (by rw [←S.len]; exact (List.getElem?_eq_some_iff.1 hk).1); rw [hk] at h1; cases h1; omega
 ·intro k j m hj hk; obtain ⟨n,h1,_,_,_,h5⟩:=S.map k (by rw [←S.len]; exact (List.getElem?_eq_some_iff.1 hk).1); rw [hk] at h1; cases h1; exact j_ h5 hj
theorem WIs.back {c:List Ad} {l:List Bc} {x:BM} {many ix:Nat} (h:WIs c l x many ix) (hs:BG c l=true):AL l (A4 c l x)=x∧BF c (A4 c l x) many=true∧Lx l (A4 c l x).type=none:=by
 have G4:=D2 h.ti
 cases jv:Lx l x.type with
 | none =>
  have hb:A4 c l x=x:=by unfold A4; rw [jv]
  rw [hb]; refine ⟨by unfold AL; rw [h.ask],?_,jv⟩; refine Uq (i:=ix) (s:=c[ix]) ⟨h.ti,List.getElem?_eq_getElem G4,?_,h.val⟩; have hn:=h.n; unfold elemAt at hn; rw [List.getElem?_eq_getElem G4] at hn; unfold Eh; simp only at hn
  split
  ·rename_i he; rw [if_pos he] at hn; simpa using hn
  ·rename_i he; rw [if_neg he] at hn; simpa using hn
 | some s =>
  obtain ⟨S5,EL⟩:=j9 jv; obtain ⟨j,hj⟩:=List.getElem?_of_mem S5; obtain ⟨t,a,S⟩:=RH hs hj; have cu:a=ix:=by have h1:=S.ai; rw [EL,h.ti] at h1; exact (Option.some.inj h1).symm
  subst cu; obtain ⟨Mx,hd⟩:=iM S; have hn:=h.n; rw [if_neg (by rw [S.ea]; simp)] at hn; have S1:=D2 S.ti
  have hb:A4 c l x=⟨s.type,Es s.map x.AH (List.replicate (Ak c t).length 0) s.map.length⟩:=by
   unfold A4; rw [jv]; simp only; rw [S.ti]
  rw [hb]; have ACv:∀ (k:Nat) m,s.map[k]?=some m→0≤m∧m.toNat<(List.replicate (Ak c t).length (0:Int)).length:=fun k m hk=>by rw [List.length_replicate]; exact Mx k m hk
  have hlen:s.map.length=x.AH.length:=by rw [S.len,hn]
  refine ⟨?_,?_,?_⟩
  ·unfold AL; show (match Gy l s.type with | some s=>_ | none=>_)=x; rw [j8 hs S5]
   cases x with
   | mk ty vs =>
    simp only at EL hlen ⊢; rw [EL]; congr 1; apply List.ext_getElem?; intro k; rw [List.getElem?_map]
    cases hk:s.map[k]? with
    | none =>
     have:=List.getElem?_eq_none_iff.1 hk; rw [List.getElem?_eq_none (by omega)]; rfl
    | some m =>
     have cw:=(List.getElem?_eq_some_iff.1 hk).1; show some (Ge _ m)=_; unfold Ge; rw [P3 ACv hd s.map.length (Nat.le_refl _) k m cw hk,List.getElem?_eq_getElem (by omega)]; rfl
  ·refine Uq (i:=t) (s:=c[t]) ⟨S.ti,List.getElem?_eq_getElem S1,?_,fun k v hk=>?_⟩
   ·have het:=S.et; unfold elemAt at het; rw [List.getElem?_eq_getElem S1] at het; unfold Eh; rw [if_neg (by simpa using het)]; refine decide_eq_true ?_; show (Es _ _ _ _).length=_; rw [IE,List.length_replicate]
   ·have hk:(Es s.map x.AH (List.replicate (Ak c t).length 0) s.map.length)[k]?=some v:=hk
    by_cases hq:∃ m,m ∈ s.map∧m.toNat=k
    ·obtain ⟨m,hm,qi⟩:=hq; obtain ⟨j,Xj⟩:=List.getElem?_of_mem hm; have U0:=(List.getElem?_eq_some_iff.1 Xj).1; have:=P3 (vs:=x.AH) ACv hd s.map.length (Nat.le_refl _) j m U0 Xj; rw [qi,hk,List.getElem?_eq_getElem (by omega)] at this
     cases this
     have hv:=h.val j _ (List.getElem?_eq_getElem (by omega)); obtain ⟨n,h1,_,_,h4,_⟩:=S.map j (by rw [←S.len]; exact U0); rw [Xj] at h1; cases h1; rw [Gg S.ea G4] at hv; rw [Gg S.et S1,←qi,h4]; exact hv
    ·rw [XU (fun k m hk=>(Mx k m hk).1) (fun m hm e=>hq ⟨m,hm,e⟩) _ (Nat.le_refl _)] at hk
     have:v=0:=by
      have:=List.mem_of_getElem? hk; exact List.eq_of_mem_replicate this
     subst this; unfold Gd; simp
  ·show Lx l s.type=none; unfold Lx; rw [List.find?_eq_none]; intro y hy; have:=uV hs hy S5
   simpa using fun e=>this e.symm
end Go.Ce
namespace Go.Ce
open Go Go.Proofs Go.Proofs.Tryz
def iota (n:Nat):List Int:=(List.range n).map fun k=>((k:Nat):Int)+1
theorem VG (n:Nat):(iota n).length=n:=by simp [iota]
theorem XV (n:Nat):iota (n+1)=iota n++[((n:Nat):Int)+1]:=by simp [iota,List.range_succ]
theorem bp {n k:Nat} (h:k<n):(iota n)[k]?=some (((k:Nat):Int)+1):=by simp [iota,h]
theorem VH {n:Nat} {v:Int}:v ∈ iota n↔1≤v∧v≤n:=by
 unfold iota; rw [List.mem_map]
 constructor
 ·rintro ⟨k,hk,rfl⟩; have:=List.mem_range.1 hk; omega
 ·rintro ⟨h1,h2⟩; exact ⟨(v-1).toNat,List.mem_range.2 (by omega),by omega⟩
theorem fi {n:Nat} {v:Nat} (h:v≤n):placeOf (iota n) v=v:=by
 rcases Nat.eq_zero_or_pos v with rfl | hp
 ·exact Gh fun hm=>by have:=VH.1 hm; omega
 ·have hf:(iota n).findIdx? (fun x=>decide (x=(v:Int)))=some (v-1):=by
   rw [List.findIdx?_eq_some_iff_getElem]
   have hg:∀ k (hk:k<(iota n).length),(iota n)[k]=((k:Nat):Int)+1:=fun k hk=>by
    have:=bp (n:=n) (k:=k) (by rw [←VG n]; exact hk); rw [List.getElem?_eq_getElem hk] at this; exact Option.some.inj this
   refine ⟨by rw [VG]; omega,by rw [hg]; simp; omega,fun j hj=>?_⟩; rw [hg]; simp; omega
  unfold placeOf; rw [hf]; simp only; omega
theorem fj {f v:Nat} (h:v≤f+1):visit (iota f) v=iota (max f v):=by
 unfold visit
 by_cases h0:v=0
 ·subst h0; rw [if_neg (by omega),Nat.max_eq_left (by omega)]
 ·by_cases hv:v=f+1
  ·subst hv; rw [if_pos ⟨by omega,fun hm=>by have:=VH.1 hm; omega⟩,Nat.max_eq_right (by omega),XV]; simp
  ·rw [if_neg (fun h=>h.2 (VH.2 (by omega))),Nat.max_eq_left (by omega)]
def C4 (g:Nat→Int→List Int):Nat→List Int→List Int
 | _,[]=>[]
 | k,v::vs=>g k v++C4 g (k+1) vs
theorem VI (g:Nat→Int→List Int) (v:Int):∀ (vs:List Int) (k:Nat),C4 g k (vs++[v])=C4 g k vs++g (k+vs.length) v
 | [],k=>by simp [C4]
 | u::vs,k=>by
  rw [List.cons_append,C4,VI g v vs (k+1),C4,List.append_assoc,List.length_cons]; congr 2; congr 1; omega
theorem Yx {g:Nat→Int→List Int} {vs:List Int} {T:Nat→List Int} (h0:T 0=[]) (h1:∀ n v,vs[n]?=some v→T (n+1)=T n++g n v):∀ n,n≤vs.length→T n=C4 g 0 (vs.take n)
 | 0,_=>by rw [h0,List.take_zero]; rfl
 | n+1,hn=>by
  have hx:=List.getElem?_eq_getElem (show n<vs.length by omega); rw [h1 n _ hx,Yx h0 h1 n (by omega),List.take_add_one,hx,Option.toList_some,VI,List.length_take,Nat.min_eq_left (by omega),Nat.zero_add]
def Jv (c:List Ad) (ix k:Nat) (v:Int):List Int:=if A6 c ix k=2 then [v] else []
theorem IF (c:List Ad) (i:Nat) (vs:List Int):FB c i vs vs.length=C4 (Jv c i) 0 vs:=by
 rw [Yx (T:=FB c i vs) (g:=Jv c i) rfl (fun n v hv=>by rw [FB,hv]; rfl) vs.length (Nat.le_refl _),List.take_length]
theorem XW (c:List Ad) (o:List Int) (i:Nat) (vs:List Int):F9 c o i vs vs.length=C4 (fun k v=>RI o (A6 c i k) v) 0 vs:=by
 rw [Yx (T:=F9 c o i vs) (g:=fun k v=>RI o (A6 c i k) v) rfl (fun n v hv=>by rw [F9,hv]) vs.length (Nat.le_refl _),List.take_length]
theorem JZ.fold {c:List Ad} {ix many k fd Fs:Nat} {vs:List Int} (h:JZ c ix many k fd vs Fs):(C4 (Jv c ix) k vs).foldl visit (iota fd)=iota Fs∧fd≤Fs∧(fd≤many→Fs≤many):=by
 induction h with
 | nil=>exact ⟨rfl,Nat.le_refl _,id⟩
 | @ref k fd v vs Fs hk hv h ih =>
  obtain ⟨h1,h2,h3⟩:=ih; refine ⟨?_,by omega,fun hf=>h3 (by omega)⟩; rw [C4,List.foldl_append,Jv,if_pos hk]; show (C4 _ _ _).foldl visit (visit (iota fd) (v:Int))=_; rw [fj (by omega)]; exact h1
 | @word k fd v vs Fs hk Wf QY h ih =>
  obtain ⟨h1,h2,h3⟩:=ih; refine ⟨?_,h2,h3⟩; rw [C4,Jv,if_neg hk]; exact h1
theorem JZ.val {c:List Ad} {ix many k fd Fs:Nat} {vs:List Int} (h:JZ c ix many k fd vs Fs):∀ (j:Nat) v,vs[j]?=some v→Gd (A6 c ix (k+j)) v many=true:=by
 induction h with
 | nil=>intro j v hv; simp at hv
 | @ref k fd v vs Fs hk hv h ih =>
  intro j w hw
  cases j with
  | zero =>
   cases hw
   unfold Gd; rw [Nat.add_zero,hk]; simp; omega
  | succ j =>
   have:=ih j w hw; rw [show k+(j+1)=k+1+j by omega]; exact this
 | @word k fd v vs Fs hk Wf QY h ih =>
  intro j w hw
  cases j with
  | zero =>
   cases hw
   unfold Gd; rw [Nat.add_zero]; simp [hk]; omega
  | succ j =>
   have:=ih j w hw; rw [show k+(j+1)=k+1+j by omega]; exact this
theorem JZ.enc {c:List Ad} {ix many k fd Fs:Nat} {vs:List Int} (h:JZ c ix many k fd vs Fs):C4 (fun k v=>RI (iota many) (A6 c ix k) v) k vs=RX c ix k vs:=by
 induction h with
 | nil=>rfl
 | @ref k fd v vs Fs hk hv h ih =>
  rw [C4,RX,ih,RI,if_pos hk,if_pos hk,fi (by omega),Int.toNat_natCast]
 | @word k fd v vs Fs hk Wf QY h ih =>
  rw [C4,RX,ih,RI,if_neg hk,if_neg hk]
theorem F3.search {c:List Ad} {ts:List ByteArray} {many i u f u' f':Nat} {xs:List BM} {refs:Int→List Int} (h:F3 c ts many i u f xs u' f') (hr:∀ (j:Nat) x,xs[j]?=some x→refs (((i+j:Nat):Int)+1)=refsOf c x):Ap refs xs.length (iota f) i=iota f':=by
 induction h with
 | nil=>rfl
 | @cons i u f x xs t ix f1 u' f' hi ht ZY hx hn hv h ih =>
  rw [List.length_cons,Ap,bp hi]; simp only; have h0:=hr 0 x rfl; rw [Nat.add_zero] at h0; rw [h0]
  have:refsOf c x=C4 (Jv c ix) 0 x.AH:=by
   unfold refsOf; rw [hx]; exact IF c ix x.AH
  rw [this,hv.fold.1]
  exact ih fun j y hy=>by
   have:=hr (j+1) y hy; rw [show i+1+j=i+(j+1) by omega]; exact this
theorem F3.types {c:List Ad} {ts:List ByteArray} (Vx:ts.Nodup) {many i u f u' f':Nat} {xs:List BM} (h:F3 c ts many i u f xs u' f'):xs.foldl (fun t x=>BS t x.type) (ts.take u)=ts.take u':=by
 induction h with
 | nil=>rfl
 | @cons i u f x xs t ix f1 u' f' hi ht ZY hx hn hv h ih =>
  rw [List.foldl_cons]; obtain ⟨S1,hte⟩:=List.getElem?_eq_some_iff.1 ht
  have:BS (ts.take u) x.type=ts.take (if t=u then u+1 else u):=by
   unfold BS
   by_cases e:t=u
   ·subst e
    rw [if_pos rfl,if_neg,List.take_add_one,ht]
    ·rfl
    ·intro ha; obtain ⟨y,hy,yx⟩:=List.any_eq_true.1 ha; have yx:y=x.type:=of_decide_eq_true yx; subst yx; obtain ⟨j,hj⟩:=List.getElem?_of_mem hy; rw [List.getElem?_take] at hj
     split at hj
     ·rename_i hjt; obtain ⟨U0,hje⟩:=List.getElem?_eq_some_iff.1 hj; have:=(List.getElem_inj Vx).1 (hje.trans hte.symm); omega
     ·cases hj
   ·rw [if_neg e,if_pos]; refine List.any_eq_true.2 ⟨x.type,List.mem_of_getElem? (i:=t) ?_,by simp⟩; rw [List.getElem?_take,if_pos (by omega),ht]
  rw [this]; exact ih
theorem F3.wis {c:List Ad} {l:List Bc} {ts:List ByteArray} (AFZ:∀ s,s ∈ ts→I_ c l s=none) {many i u f u' f':Nat} {xs:List BM} (h:F3 c ts many i u f xs u' f'):∀ x,x ∈ xs→∃ ix,WIs c l x many ix∧FC c ts (iota many) x=Mp c ts x:=by
 induction h with
 | nil=>intro x hx; cases hx
 | @cons i u f x xs t ix f1 u' f' hi ht ZY hx hn hv h ih =>
  intro y hy
  rcases List.mem_cons.1 hy with rfl | hy
  ·refine ⟨ix,⟨hx,(XS (AFZ _ (List.mem_of_getElem? ht))).2,hn,fun k v hk=>?_⟩,?_⟩
   ·have:=hv.val k v hk; rw [Nat.zero_add] at this; exact this
   ·unfold FC Mp; rw [hx]; simp only; rw [XW,hv.enc]
  ·exact ih y hy
theorem bt (h:List BM):AN h (iota h.length)=h:=by
 have key:∀ n,n≤h.length→AN h (iota n)=h.take n:=by
  intro n
  induction n with
  | zero=>intro _; rfl
  | succ n ih =>
   intro hn
   have e:AN h (iota (n+1))=AN h (iota n)++AN h [((n:Nat):Int)+1]:=by
    unfold AN; rw [XV,List.flatMap_append]
   rw [e,ih (by omega),List.take_add_one]; congr 1; unfold AN; simp
 rw [key _ (Nat.le_refl _),List.take_length]
structure yy (c:List Ad) (l:List Bc) (ts:List ByteArray) (xs:List BM):Prop where
 ask:I1 c l (xs.map (A4 c l)) (min (xs.length:Int) 1)=0
 found:Ab c l (xs.map (A4 c l)) (min (xs.length:Int) 1)=iota xs.length
 bad:Ma l (xs.map (A4 c l)) (iota xs.length)=false
 types:DD l (AN (xs.map (A4 c l)) (iota xs.length))=ts
 bytes:Ei c l (xs.map (A4 c l)) (iota xs.length)=Ju c ts xs
theorem bu {c:List Ad} {l:List Bc} {ts:List ByteArray} {xs:List BM} (Ac:BL c=true) (hs:BG c l=true) (h:Canon c (I_ c l) ts xs):yy c l ts xs:=by
 have hw:=h.scan.wis (l:=l) fun s hs=>(h.sym s hs).2; have hlen:(xs.map (A4 c l)).length=xs.length:=List.length_map _
 have HD:AN (xs.map (A4 c l)) (iota xs.length)=xs.map (A4 c l):=by
  rw [←hlen]; exact bt _
 have Sh:∀ x,x ∈ xs→AL l (A4 c l x)=x:=fun x hx=>by
  obtain ⟨ix,hi,_⟩:=hw x hx; exact (hi.back hs).1
 have NU:DD l (xs.map (A4 c l))=ts:=by
  have h1:=h.scan.types h.nodup; rw [List.take_length,List.take_zero] at h1; unfold DD; rw [List.foldl_map]
  have key:∀ (ys:List BM) (t:List ByteArray),(∀ x,x ∈ ys→x ∈ xs)→ys.foldl (fun t x=>BS t (AL l (A4 c l x)).type) t=ys.foldl (fun t x=>BS t x.type) t:=by
   intro ys
   induction ys with
   | nil=>intro t _; rfl
   | cons y ys ih =>
    intro t hy; rw [List.foldl_cons,List.foldl_cons,Sh y (hy y (by simp)),ih _ fun x hx=>hy x (by simp [hx])]
  rw [key xs [] fun x hx=>hx]; exact h1
 have Mx:ER c (xs.map (A4 c l))<0:=by
  unfold ER; have:=h.len; rw [if_neg (by rw [hlen]; omega)]
  have hf:(xs.map (A4 c l)).findIdx? (fun x=>!BF c x (xs.map (A4 c l)).length)=none:=by
   rw [List.findIdx?_eq_none_iff]; intro y hy; obtain ⟨x,hx,rfl⟩:=List.mem_map.1 hy; obtain ⟨ix,hi,_⟩:=hw x hx; have h1:=(hi.back hs).2.1; rw [hlen,h1]; rfl
  unfold Ib; rw [hf]; simp
 refine ⟨?_,?_,?_,?_,?_⟩
 ·unfold I1 PK; rw [Ac,hs]; simp only [if_true]; rw [if_neg (by simp),if_neg (by omega),if_neg]; rw [hlen]; omega
 ·unfold Ab
  have EL:start (min (xs.length:Int) 1)=iota (min xs.length 1):=by
   unfold start
   by_cases h0:xs.length=0
   ·rw [h0]; rfl
   ·rw [if_pos (by omega),show min (xs.length:Int) 1=1 by omega,show min xs.length 1=1 by omega]; rfl
  rw [EL,hlen]; refine h.scan.search fun j x hx=>?_; unfold CS; rw [show (((0+j:Nat):Int)+1-1).toNat=j by omega,List.getElem?_map,hx]; simp only [Option.map_some]; rw [Sh x (List.mem_of_getElem? hx)]
 ·unfold Ma; rw [HD]; refine List.any_eq_false.2 fun y hy=>?_; obtain ⟨x,hx,rfl⟩:=List.mem_map.1 hy; obtain ⟨ix,hi,_⟩:=hw x hx; have h1:=(hi.back hs).2.2; unfold Lx at h1; rw [List.find?_eq_none] at h1; have:(l.any fun s=>decide (s.to=(A4 c l x).type))=false:=List.any_eq_false.2 fun s Jf=>h1 s Jf; rw [this]; simp
 ·rw [HD,NU]
 ·unfold Ei Ju; rw [HD,NU,VG]; congr 1; rw [List.flatMap_map]
  have key:∀ (ys:List BM),(∀ x,x ∈ ys→x ∈ xs)→ys.flatMap (fun x=>FC c ts (iota xs.length) (AL l (A4 c l x)))=ys.flatMap (Mp c ts):=by
   intro ys
   induction ys with
   | nil=>intro _; rfl
   | cons y ys ih =>
    intro hy; obtain ⟨ix,_,he⟩:=hw y (hy y (by simp)); rw [List.flatMap_cons,List.flatMap_cons,Sh y (hy y (by simp)),he,ih fun x hx=>hy x (by simp [hx])]
  exact key xs fun x hx=>hx
end Go.Ce
namespace Go.Ce
open Go Go.Proofs Go.Proofs.Tryz
theorem XX (o:List Int) (v:Int):o <+: visit o v:=by
 unfold visit
 split
 ·exact List.prefix_append _ _
 ·exact List.prefix_refl _
theorem P4:∀ (vs o:List Int),o <+: vs.foldl visit o
 | [],o=>List.prefix_refl _
 | v::vs,o=>(XX o v).trans (P4 vs _)
theorem G7 (refs:Int→List Int):∀ (m:Nat) (o:List Int) (n:Nat),o <+: Ap refs m o n
 | 0,o,_=>List.prefix_refl _
 | m+1,o,n=>by
  unfold Ap
  split
  ·exact List.prefix_refl _
  ·exact (P4 _ _).trans (G7 refs m _ _)
theorem Lf {n:Nat}:∀ (vs o:List Int),Found o n→(∀ v,v ∈ vs→v≤n)→Found (vs.foldl visit o) n
 | [],o,h,_=>h
 | v::vs,o,h,hv=>Lf vs _ (h.visit (hv v (by simp))) fun w hw=>hv w (by simp [hw])
theorem P5 {refs:Int→List Int} {n:Nat} (hr:∀ v w,w ∈ refs v→w≤n):∀ (m:Nat) (o:List Int) (k:Nat),Found o n→Found (Ap refs m o k) n
 | 0,o,_,h=>h
 | m+1,o,k,h=>by
  unfold Ap
  split
  ·exact h
  ·exact P5 hr m _ _ (Lf _ _ h fun w hw=>hr _ w hw)
theorem RZ {o O:List Int} (h:o <+: O) {v:Int} (hv:v ∈ o):placeOf O v=placeOf o v:=by
 obtain ⟨r,rfl⟩:=h; unfold placeOf; rw [List.findIdx?_append]
 cases hf:o.findIdx? (fun x=>decide (x=v)) with
 | some i=>rfl
 | none =>
  rw [List.findIdx?_eq_none_iff] at hf; have:=hf v hv; simp at this
theorem fk {o:List Int} {v:Int}:placeOf o v≤o.length:=(OR o v).2
def Jw (c:List Ad) (ix:Nat) (O:List Int):Nat→List Int→List Int
 | _,[]=>[]
 | k,v::vs=>(if A6 c ix k=2 then placeOf O v else v)::Jw c ix O (k+1) vs
theorem P6 {c:List Ad} {ix:Nat} {O:List Int}:∀ (vs:List Int) (k:Nat),(Jw c ix O k vs).length=vs.length
 | [],_=>rfl
 | v::vs,k=>by rw [Jw,List.length_cons,List.length_cons,P6 vs]
theorem P7 {c:List Ad} {ix:Nat} {O:List Int}:∀ (vs:List Int) (k j:Nat),(Jw c ix O k vs)[j]?=(vs[j]?).map fun v=>if A6 c ix (k+j)=2 then placeOf O v else v
 | [],_,_=>rfl
 | v::vs,k,0=>by rw [Jw]; rfl
 | v::vs,k,j+1=>by
  rw [Jw,List.getElem?_cons_succ,List.getElem?_cons_succ,P7 vs (k+1) j,show k+1+j=k+(j+1) by omega]
theorem bz {c:List Ad} {ix:Nat} {O:List Int}:∀ (vs:List Int) (k:Nat),C4 (fun k v=>RI O (A6 c ix k) v) k vs=RX c ix k (Jw c ix O k vs)
 | [],_=>rfl
 | v::vs,k=>by
  rw [C4,Jw,RX,bz vs (k+1),RI]
  by_cases hk:A6 c ix k=2
  ·simp only [if_pos hk]
  ·simp only [if_neg hk]
theorem OZ {c:List Ad} {ix:Nat} {O:List Int} (h0:(0:Int) ∉ O):∀ (vs:List Int) (k:Nat) (o:List Int),(∀ (j:Nat) v,vs[j]?=some v→A6 c ix (k+j)=2→0≤v)→(∀ (j:Nat) v,vs[j]?=some v→A6 c ix (k+j)≠2→-1000000000≤v∧v≤1000000000)→(C4 (Jv c ix) k vs).foldl visit o <+: O→JZ c ix O.length k o.length (Jw c ix O k vs) ((C4 (Jv c ix) k vs).foldl visit o).length
 | [],k,o,_,_,_=>.nil _ _
 | v::vs,k,o,h1,h2,hp=>by
  have n1:∀ (j:Nat) w,vs[j]?=some w→A6 c ix (k+1+j)=2→0≤w:=fun j w hw hk=>h1 (j+1) w hw (by rw [show k+(j+1)=k+1+j by omega]; exact hk); have n2:∀ (j:Nat) w,vs[j]?=some w→A6 c ix (k+1+j)≠2→-1000000000≤w∧w≤1000000000:=fun j w hw hk=>h2 (j+1) w hw (by rw [show k+(j+1)=k+1+j by omega]; exact hk)
  by_cases hk:A6 c ix k=2
  ·have hs:(C4 (Jv c ix) k (v::vs)).foldl visit o=(C4 (Jv c ix) (k+1) vs).foldl visit (visit o v):=by
    rw [C4,Jv,if_pos hk,List.foldl_append]; rfl
   rw [hs] at hp ⊢; have ih:=OZ h0 vs (k+1) (visit o v) n1 n2 hp; have yu:visit o v <+: O:=(P4 _ _).trans hp; have yz:=yu.length_le; have py:=h1 0 v rfl hk; rw [Jw,if_pos hk]; have hnn:=(OR O v).1; have ACw:placeOf O v=((placeOf O v).toNat:Int):=by omega
   rw [ACw]
   by_cases hn:0<v∧v ∉ o
   ·have y8:visit o v=o++[v]:=by unfold visit; rw [if_pos hn]
    rw [y8] at yu ih yz ⊢
    have gI:placeOf O v=o.length+1:=by
     rw [RZ yu (by simp),SR hn.2,if_pos rfl]
    rw [List.length_append,List.length_singleton] at ih yz; refine .ref hk (by omega) ?_; rw [show max o.length (placeOf O v).toNat=o.length+1 by omega]; exact ih
   ·have y8:visit o v=o:=by unfold visit; rw [if_neg hn]
    rw [y8] at yu ih yz ⊢
    have gI:placeOf O v≤o.length:=by
     by_cases nj:v ∈ o
     ·rw [RZ yu nj]; exact fk
     ·have:v=0:=by
       by_cases hz:0<v
       ·exact (hn ⟨hz,nj⟩).elim
       ·omega
      subst this; rw [Gh h0]; omega
    refine .ref hk (by omega) ?_; rw [show max o.length (placeOf O v).toNat=o.length by omega]; exact ih
  ·have hs:(C4 (Jv c ix) k (v::vs)).foldl visit o=(C4 (Jv c ix) (k+1) vs).foldl visit o:=by
    rw [C4,Jv,if_neg hk]; rfl
   rw [hs] at hp ⊢; obtain ⟨b1,b2⟩:=h2 0 v rfl hk; rw [Jw,if_neg hk]; exact .word hk b1 b2 (OZ h0 vs (k+1) o n1 n2 hp)
end Go.Ce
namespace Go.Ce
open Go Go.Proofs Go.Proofs.Tryz
theorem b9 (t:List ByteArray) (s:ByteArray):t <+: BS t s:=by
 unfold BS
 split
 ·exact List.prefix_refl _
 ·exact List.prefix_append _ _
theorem P8 {α:Type} (f:α→ByteArray):∀ (xs:List α) (t:List ByteArray),t <+: xs.foldl (fun t x=>BS t (f x)) t
 | [],t=>List.prefix_refl _
 | x::xs,t=>(b9 t (f x)).trans (P8 f xs _)
theorem N1 {t:List ByteArray} (h:t.Nodup) (s:ByteArray):(BS t s).Nodup:=by
 unfold BS
 split
 ·exact h
 ·rename_i hn; rw [List.nodup_append]; refine ⟨h,List.pairwise_singleton _ _,fun x hx y hy=>?_⟩; rw [List.mem_singleton.1 hy]; rintro rfl; exact hn (List.any_eq_true.2 ⟨x,hx,by simp⟩)
theorem Mq {α:Type} (f:α→ByteArray):∀ (xs:List α) (t:List ByteArray),t.Nodup→(xs.foldl (fun t x=>BS t (f x)) t).Nodup
 | [],t,h=>h
 | x::xs,t,h=>Mq f xs _ (N1 h _)
theorem Tl {α:Type} {a b:List α} (h:a <+: b) {i:Nat} {x:α} (hx:a[i]?=some x):b[i]?=some x:=by
 obtain ⟨r,rfl⟩:=h; rw [List.getElem?_append_left (List.getElem?_eq_some_iff.1 hx).1]; exact hx
def Oa (c:List Ad) (O:List Int) (y:BM):BM:=match A_ c y.type with
 | some ix=>⟨y.type,Jw c ix O 0 y.AH⟩
 | none=>y
def Db (c:List Ad) (l:List Bc) (h:List BM) (O:List Int):List BM:=(AN h O).map fun x=>Oa c O (AL l x)
theorem y9 {c:List Ad} {y:BM} {n i:Nat} {s:Ad} (Y:Up c y n i s):if elemAt c i≠0 then y.AH.length≤200 else y.AH.length=(Ak c i).length:=by
 have hm:=Y.many; unfold Eh at hm; have he:elemAt c i=s.elem:=by unfold elemAt; rw [Y.si]
 rw [he]
 split
 ·rename_i h; rw [if_pos h] at hm; simpa using hm
 ·rename_i h; rw [if_neg h] at hm; simpa using hm
theorem Mr {h:List BM} {v:Int} {x:BM} (hx:h[(v-1).toNat]?=some x) (r:List Int):AN h (v::r)=x::AN h r:=by
 unfold AN; rw [List.flatMap_cons,hx]; rfl
theorem b_ {h:List BM} {O:List Int} (hO:Found O h.length) {v:Int} (hv:v ∈ O):∃ x,h[(v-1).toNat]?=some x:=by
 have h1:=hO.low v hv; have h2:=hO.high v hv; exact ⟨_,List.getElem?_eq_getElem (by omega)⟩
theorem Ja {h:List BM} {N:Nat} (hN:N=h.length):∀ {O:List Int},(∀ v,v ∈ O→0<v∧v≤N)→(AN h O).length=O.length
 | [],_=>rfl
 | v::O,hO=>by
  have hv:=hO v (by simp); have hx:=List.getElem?_eq_getElem (show (v-1).toNat<h.length by omega); rw [Mr hx,List.length_cons,List.length_cons,Ja hN fun w hw=>hO w (by simp [hw])]
theorem N2 {c:List Ad} {l:List Bc} {h:List BM} {O:List Int} {ts:List ByteArray} (Ac:BL c=true) (hs:BG c l=true) (HD:∀ x,x ∈ h→BF c x h.length=true) (hO:Found O h.length):∀ (m n:Nat) (o:List Int) (T:List ByteArray),n+m=h.length→T.Nodup→Ap (CS c l h) m o n=O→(AN h (O.drop n)).foldl (fun t x=>BS t (AL l x).type) T=ts→F3 c ts O.length n T.length o.length ((AN h (O.drop n)).map fun x=>Oa c O (AL l x)) ts.length O.length
 | 0,n,o,T,hn,hT,kB,IL=>by
  have kB:o=O:=kB; subst kB; have:=hO.len; rw [List.drop_of_length_le (by omega)] at IL ⊢; have IL:T=ts:=IL; subst IL; exact .nil _ _ _
 | m+1,n,o,T,hn,hT,kB,IL=>by
  have Bj:=G7 (CS c l h) (m+1) o n; rw [kB] at Bj
  cases I9:o[n]? with
  | none =>
   rw [Ap,I9] at kB; have kB:o=O:=kB; subst kB; rw [List.drop_of_length_le (List.getElem?_eq_none_iff.1 I9)] at IL ⊢; have IL:T=ts:=IL; subst IL; exact .nil _ _ _
  | some v =>
   rw [Ap,I9] at kB; simp only at kB; have Jz:=(List.getElem?_eq_some_iff.1 I9).1; have hOn:=Tl Bj I9; obtain ⟨hOl,hOe⟩:=List.getElem?_eq_some_iff.1 hOn; have hvO:v ∈ O:=List.mem_of_getElem? hOn; obtain ⟨x,hx⟩:=b_ hO hvO; have MJ:O.drop n=v::O.drop (n+1):=by rw [List.drop_eq_getElem_cons hOl,hOe]
   rw [MJ,Mr hx] at IL ⊢; rw [List.foldl_cons] at IL; rw [List.map_cons]; obtain ⟨ix,s,Y⟩:=DK (CJ hs (HD x (List.mem_of_getElem? hx)))
   have hrefs:CS c l h v=C4 (Jv c ix) 0 (AL l x).AH:=by
    unfold CS; rw [hx]; simp only; unfold refsOf; rw [Y.ti]; exact IF c ix _
   have uW:=G7 (CS c l h) m ((CS c l h v).foldl visit o) (n+1); rw [kB] at uW
   have hV:=OZ (c:=c) (ix:=ix) (O:=O) (fun hz=>by have:=hO.low 0 hz; omega) (AL l x).AH 0 o
    (fun j w hw hk=>by
     rw [Nat.zero_add] at hk
     rcases Ii Ac Y hw with h1 | h1
     ·exact h1.2.1
     ·rw [h1.1] at hk; cases hk)
    (fun j w hw hk=>by
     rw [Nat.zero_add] at hk
     rcases Ii Ac Y hw with h1 | h1
     ·exact (hk h1.1).elim
     ·exact h1.2)
    (by rw [←hrefs]; exact uW)
   rw [←hrefs] at hV; have ih:=N2 Ac hs HD hO m (n+1) ((CS c l h v).foldl visit o) (BS T (AL l x).type) (by omega) (N1 hT _) kB IL; have sq:BS T (AL l x).type <+: ts:=by rw [←IL]; exact P8 _ _ _
   have CA:Oa c O (AL l x)=⟨(AL l x).type,Jw c ix O 0 (AL l x).AH⟩:=by unfold Oa; rw [Y.ti]
   rw [CA]; have uE:=y9 Y; have Vq:if elemAt c ix≠0 then (Jw c ix O 0 (AL l x).AH).length≤200 else (Jw c ix O 0 (AL l x).AH).length=(Ak c ix).length:=by rw [P6]; exact uE
   by_cases ha:T.any (fun y=>decide (y=(AL l x).type))=true
   ·have y_:BS T (AL l x).type=T:=by unfold BS; rw [if_pos ha]
    rw [y_] at ih sq; obtain ⟨y,hy,yx⟩:=List.any_eq_true.1 ha; have yx:y=(AL l x).type:=of_decide_eq_true yx; obtain ⟨t,ht⟩:=List.getElem?_of_mem hy; have S1:=(List.getElem?_eq_some_iff.1 ht).1; refine .cons (t:=t) (ix:=ix) Jz (by show ts[t]?=some _; rw [Tl sq ht,yx]) (by omega) Y.ti Vq hV ?_; rw [if_neg (by omega)]; exact ih
   ·have y_:BS T (AL l x).type=T++[(AL l x).type]:=by unfold BS; rw [if_neg ha]
    rw [y_] at ih sq; rw [List.length_append,List.length_singleton] at ih; refine .cons (t:=T.length) (ix:=ix) Jz (by show ts[T.length]?=some _; exact Tl sq (by simp)) (Nat.le_refl _) Y.ti Vq hV ?_; rw [if_pos rfl]; exact ih
theorem zB {c:List Ad} (Ac:BL c=true) {s:ByteArray} {i:Nat} (h:A_ c s=some i):Fp s=true:=by
 have G4:=D2 h; obtain ⟨h1,h2,_⟩:=List.findIdx?_eq_some_iff_getElem.1 h; unfold BL at Ac; simp only [Bool.and_eq_true,Bool.not_eq_true'] at Ac; have hb:=Dh Ac.2.1 G4; unfold BW at hb; rw [List.getElem?_eq_getElem G4] at hb; simp only [Bool.or_eq_false_iff,Bool.not_eq_false'] at hb; rw [←of_decide_eq_true h2]; exact hb.1.1
theorem cA {c:List Ad} {l:List Bc} (hs:BG c l=true) {x:BM}:Gy l (AL l x).type=none:=by
 unfold AL
 cases Gz:Gy l x.type with
 | none=>exact Gz
 | some s =>
  show Gy l s.to=none; unfold Gy; rw [List.find?_eq_none]; intro y hy
  have S5:s ∈ l:=by
   obtain ⟨i,hi,_⟩:=Ig Gz; exact List.mem_of_getElem? hi
  have:=uV hs S5 hy
  simpa using this
theorem Jb {c:List Ad} {l:List Bc} {h:List BM} {root:Int} (hz:I1 c l h root=0) (Yu:h.length≤40):Canon c (I_ c l) (DD l (AN h (Ab c l h root))) (Db c l h (Ab c l h root))∧Ei c l h (Ab c l h root)=Ju c (DD l (AN h (Ab c l h root))) (Db c l h (Ab c l h root))∧Found (Ab c l h root) h.length∧start root <+: Ab c l h root:=by
 obtain ⟨Ac,hs,Yt,hX,HZ⟩:=FN hz; obtain ⟨JV,HD⟩:=ES Yt; have hF:Found (Ab c l h root) h.length:=P5 (fun v w hw=>(NH Ac hs HD w hw).2) _ _ _ (Found.start HZ); have Bj:start root <+: Ab c l h root:=G7 _ _ _ _; have cV:Ab c l h root=Ap (CS c l h) h.length (start root) 0:=rfl; generalize hO:Ab c l h root=O at hF Bj cV ⊢; have hlen:=Ja rfl fun v hv=>⟨hF.low v hv,hF.high v hv⟩
 have dU:=hF.len
 have ACx:∀ x,x ∈ AN h O→BF c x h.length=true:=fun x hx=>by
  unfold AN at hx; obtain ⟨v,_,hv⟩:=List.mem_flatMap.1 hx
  cases hg:h[(v-1).toNat]? with
  | none=>rw [hg] at hv; cases hv
  | some y=>rw [hg] at hv; rw [List.mem_singleton.1 hv]; exact HD _ (List.mem_of_getElem? hg)
 have Vx:(DD l (AN h O)).Nodup:=Mq _ _ _ List.nodup_nil
 refine ⟨⟨?_,fun s Jf=>?_,Vx,?_,?_⟩,?_,hF,Bj⟩
 ·have h1:=Kn l (AN h O) []; unfold DD; simp only [List.length_nil] at h1; omega
 ·rcases OS l (AN h O) [] Jf with h' | ⟨x,hx,rfl⟩
  ·cases h'
  ·obtain ⟨i,s,Y⟩:=DK (CJ hs (ACx x hx)); refine ⟨zB Ac Y.ti,?_⟩; have:=cA hs (x:=x); unfold Gy at this; unfold I_; rw [Y.ti,this]; rfl
 ·unfold Db; rw [List.length_map]; omega
 ·have:=N2 (ts:=DD l (AN h O)) Ac hs HD hF h.length 0 (start root) [] (by omega) List.nodup_nil cV.symm (by rw [List.drop_zero]; rfl); rw [List.drop_zero] at this; have e1:(Db c l h O).length=O.length:=by unfold Db; rw [List.length_map,hlen]
  have e2:(start root).length=min O.length 1:=by
   have hle:=Bj.length_le
   by_cases h0:root>0
   ·have:(start root).length=1:=by unfold start; rw [if_pos h0]; rfl
    omega
   ·have EL:start root=[]:=by unfold start; rw [if_neg h0]
    rw [EL] at cV
    have:O=[]:=by
     rw [cV]
     cases h.length with
     | zero=>rfl
     | succ m=>rfl
    rw [EL,this]; rfl
  rw [e1,←e2]; exact this
 ·unfold Ei Ju; have e1:(Db c l h O).length=O.length:=by unfold Db; rw [List.length_map,hlen]
  rw [e1]; congr 1; unfold Db; rw [List.flatMap_map]
  have key:∀ (ys:List BM),(∀ x,x ∈ ys→x ∈ AN h O)→ys.flatMap (fun x=>FC c (DD l (AN h O)) O (AL l x))=ys.flatMap (fun x=>Mp c (DD l (AN h O)) (Oa c O (AL l x))):=by
   intro ys
   induction ys with
   | nil=>intro _; rfl
   | cons y ys ih =>
    intro hy; rw [List.flatMap_cons,List.flatMap_cons,ih fun x hx=>hy x (by simp [hx])]; congr 1; obtain ⟨i,s,Y⟩:=DK (CJ hs (ACx y (hy y (by simp)))); unfold Oa; rw [Y.ti]; unfold FC Mp; simp only; rw [Y.ti]; simp only; rw [XW,bz,P6]
  exact key _ fun x hx=>hx
end Go.Ce
namespace Go.Ce
open Go Go.Proofs Go.Proofs.Tryz
theorem Ve.more {b m:List UInt8} {i j:Nat} {e:List Int} (h:Ve b i j e):Ve (b++m) i j e:=by
 have h1:=h.le; have h2:=h.ij; refine ⟨by rw [List.length_append]; omega,h.ij,?_⟩; have he:bI (b++m)=bI b++bI m:=by unfold bI; rw [List.map_append]
 rw [he,List.drop_append_of_le_length (by rw [Jt]; omega),List.drop_append_of_le_length (by rw [Jt]; omega),h.eq,List.append_assoc]
theorem cB {b:List UInt8} {c:List Ad} {ask:ByteArray→Option Int} {ts:List ByteArray} {xs:List BM} {j:Nat} (h:Canon c ask ts xs) (hb:Ve b 0 j (Ju c ts xs)):CF b c ask 0=if j=b.length then .ok (xs,j) else .error 4:=by
 unfold Ju at hb; obtain ⟨a4,hb,h5⟩:=hb.split; obtain ⟨a3,hb,h4⟩:=hb.split; obtain ⟨a2,hb,h3⟩:=hb.split; obtain ⟨a1,h1,h2⟩:=hb.split; rw [←oV] at h1; have hl:=h.tsl; have hx:=h.len
 have hh:Ip b ask 0=.ok (ts,a3):=by
  unfold Ip; rw [JY h1 (by omega) (by omega)]; simp only [if_pos]; rw [JY h2 (by omega) (by omega)]; simp only; rw [bo (out:=[]) h.sym (by simpa using h.nodup) h3]; simp
 unfold CF; rw [hh]; simp only; rw [JY h4 (by omega) (by omega)]; simp only; rw [j7 (out:=[]) h.len h.nodup h.tsl h.scan h5]; simp
theorem cC {c:List Ad} {l:List Bc} {ts:List ByteArray} {xs:List BM} {b m:List UInt8} (Ac:BL c=true) (hs:BG c l=true) (h:Canon c (I_ c l) ts xs) (hb:bI b=Ju c ts xs) (hl:(b++m).length≤100000):Lp c l (b++m)=if m=[] then (xs.map (A4 c l),min (xs.length:Int) 1,0) else ([],0,4):=by
 have AFa:=(Ve.all.2 hb).more (m:=m); have ht:=cB h AFa; unfold Lp; rw [if_neg (by rw [Ac]; simp),if_neg (by rw [hs]; simp),if_neg (by omega),ht]
 by_cases hm:m=[]
 ·subst hm; rw [if_pos rfl,if_pos (by simp)]
 ·have:0<m.length:=List.length_pos_iff.2 hm; rw [if_neg hm,if_neg (by rw [List.length_append]; omega)]
end Go.Ce
namespace Go.Ce
open Go Go.Proofs Go.Proofs.Tryz
end Go.Ce
namespace Go.Ce
section
variable {P:Program}
def Oh (P:Program) (W:CW) (t:TypeId) (v:Value):Prop:=∃ m,CT P m t W [v]
theorem Oh.int {W:CW} {t:TypeId} {k:IntKind} {v:Value} (ht:P.underlying t=some (.int k)) (h:Oh P W t v):∃ x,v=.int k x∧(Lit.int k x).wf=true:=by
 obtain ⟨m,h⟩:=h
 cases m with
 | zero=>exact h.elim
 | succ m =>
  simp only [CT,ht] at h; obtain ⟨x,hx,hw⟩:=h
  cases hx
  exact ⟨x,rfl,hw⟩
theorem Oh.string {W:CW} {t:TypeId} {v:Value} (ht:P.underlying t=some .string) (h:Oh P W t v):∃ x:ByteArray,v=.string x∧x.size≤maxLen:=by
 obtain ⟨m,h⟩:=h
 cases m with
 | zero=>exact h.elim
 | succ m =>
  simp only [CT,ht] at h; obtain ⟨x,hx,hw⟩:=h
  cases hx
  exact ⟨x,rfl,hw⟩
theorem Oh.slice {W:CW} {t e:TypeId} {v:Value} (ht:P.underlying t=some (.slice e)) (h:Oh P W t v):v=.slice none 0 0∨v=.slice (some ⟨0,0,some 0⟩) 0 0∨∃ k len cap f m,v=.slice (some ⟨k,0,none⟩) len cap∧0<cap∧len≤cap∧cap≤maxLen ∧
  W.obj k=some (.fixed f (len*P.cellsOf e) e)∧∀ i,i<len→CT P m e W (EH f (P.cellsOf e) (i*P.cellsOf e)):=by
 obtain ⟨m,h⟩:=h
 cases m with
 | zero=>exact h.elim
 | succ m =>
  simp only [CT,ht] at h
  rcases h with h | h | ⟨k,len,cap,f,h1,h2,h3,h4,h5,h6⟩
  ·cases h; exact .inl rfl
  ·cases h; exact .inr (.inl rfl)
  ·cases h1; exact .inr (.inr ⟨k,len,cap,f,m,rfl,h2,h3,h4,h5,h6⟩)
theorem qJ.cons {W:CW} {t:TypeId} {ts:List TypeId} {vs:List Value} (h:qJ P (t::ts) W vs):∃ cs vs',vs=QJ P t cs::vs'∧CT P 20 t W cs∧qJ P ts W vs':=by
 cases vs with
 | nil=>exact h.elim
 | cons v vs =>
  obtain ⟨⟨cs,rfl,hc⟩,h2⟩:=h; exact ⟨cs,vs,rfl,hc,h2⟩
theorem qJ.nil {W:CW} {vs:List Value} (h:qJ P [] W vs):vs=[]:=by
 cases vs with
 | nil=>rfl
 | cons=>exact h.elim
end
end Go.Ce
namespace Go.Ce
open Go Go.Proofs Go.Proofs.Tryz
def Tm (P:Program) (t:TypeId):List (TypeId × Nat):=match P.underlying t with
 | some (.struct fs)=>fs.toList.map fun f=>(f.type,f.offset)
 | _=>[]
theorem Ku {P:Program} {m:Nat} {t ty:TypeId} {off n:Nat} {W:CW} {cs:List Value} (hm:(Tm P t).any (fun x=>Nat.beq x.1 ty && Nat.beq x.2 off)=true) (hn:P.cellsOf t=n) (h1:P.cellsOf ty=1) (ho:off<n) (h:CT P m t W cs):∃ v,cs[off]?=some v∧Oh P W ty v:=by
 cases m with
 | zero=>exact h.elim
 | succ m =>
  unfold Tm at hm; simp only [CT] at h
  split at hm
  ·rename_i fs hu; rw [hu] at h; obtain ⟨hl,hf⟩:=h; obtain ⟨x,hx,he⟩:=List.any_eq_true.1 hm; obtain ⟨f,hfm,rfl⟩:=List.mem_map.1 hx; simp only [Bool.and_eq_true] at he; have e1:f.type=ty:=Nat.eq_of_beq_eq_true he.1; have e2:f.offset=off:=Nat.eq_of_beq_eq_true he.2; have:=hf f hfm; rw [e1,e2,h1] at this; have Au:off<cs.length:=by omega
   refine ⟨cs[off],List.getElem?_eq_getElem Au,m,?_⟩; rw [List.drop_eq_getElem_cons Au,List.take_succ_cons,List.take_zero] at this; exact this
  ·cases hm
theorem VK (f:Nat→Value):∀ (m k j:Nat),j<m→(EH f m k)[j]?=some (f (k+j))
 | 0,k,j,h=>by omega
 | m+1,k,0,h=>rfl
 | m+1,k,j+1,h=>by
  unfold EH; rw [List.getElem?_cons_succ,VK f m (k+1) j (by omega)]; congr 2; omega
theorem iN {α:Type} {Q:Nat→α→Prop}:∀ n:Nat,(∀ i,i<n→∃ x,Q i x)→∃ l:List α,l.length=n∧∀ i x,l[i]?=some x→Q i x
 | 0,_=>⟨[],rfl,fun i x h=>by simp at h⟩
 | n+1,h=>by
  obtain ⟨l,hl,hq⟩:=iN n fun i hi=>h i (by omega); obtain ⟨x,hx⟩:=h n (by omega); refine ⟨l++[x],by simp [hl],fun i y hy=>?_⟩
  by_cases hi:i<l.length
  ·rw [List.getElem?_append_left hi] at hy; exact hq i y hy
  ·rw [List.getElem?_append_right (by omega)] at hy
   have h0:i-l.length=0:=by
    cases hd:i-l.length with
    | zero=>rfl
    | succ k=>rw [hd] at hy; simp at hy
   rw [h0] at hy
   cases hy
   have:i=n:=by omega
   subst this; exact hx
theorem P9 {P:Program} {α:Type} {R:Nat→Nat→α→Prop} {t e:TypeId} {n:Nat} (ht:P.underlying t=some (.slice e)) (hn:P.cellsOf e=n) {W:CW} {v:Value} (h:Oh P W t v)
  (N8:∀ m cs k off,CT P m e W cs→(∀ j,j<n→W.cell k (off+j)=cs[j]?)→∃ x,R k off x):∃ l,Ax n R v l∧NT W e v∧l.length≤maxLen:=by
 rcases h.slice ht with rfl | rfl | ⟨k,len,cap,f,m,rfl,h1,h2,h3,h4,h5⟩
 ·exact ⟨[],⟨none,0,rfl,fun i x hx=>by simp at hx⟩,fun a l c hv=>by cases hv; exact ⟨rfl,Nat.le_refl _⟩,Nat.zero_le _⟩
 ·exact ⟨[],⟨_,0,rfl,fun i x hx=>by simp at hx⟩,fun a l c hv=>by cases hv; exact ⟨rfl,Nat.le_refl _⟩,Nat.zero_le _⟩
 ·rw [hn] at h4 h5
  obtain ⟨l,hl,hq⟩:=iN (Q:=fun i x=>R k (i*n) x) len fun i hi=>N8 m _ k (i*n) (h5 i hi) fun j hj=>by
   rw [VK f n (i*n) j hj]; unfold CW.cell; rw [h4]
   have:i*n+j<len*n:=by
    have:(i+1)*n≤len*n:=Nat.mul_le_mul_right _ hi; rw [Nat.succ_mul] at this; omega
   simp only [if_pos this]
  refine ⟨l,⟨_,cap,by rw [hl],fun i x hx=>⟨_,rfl,by simpa using hq i x hx⟩⟩,fun a l c hv=>?_,by omega⟩
  cases hv
  refine ⟨?_,h2⟩; simp [Tp,h4]
theorem wf_i64 {x:Int} (h:(Lit.int .i64 x).wf=true):-9223372036854775808≤x∧x≤9223372036854775807:=by
 simp only [Lit.wf,Bool.and_eq_true,decide_eq_true_eq] at h; have h1:IntKind.i64.min=-9223372036854775808:=by rfl
 have h2:IntKind.i64.max=9223372036854775807:=by rfl
 omega
theorem wf_u8 {x:Int} (h:(Lit.int .u8 x).wf=true):0≤x∧x<256:=by
 simp only [Lit.wf,Bool.and_eq_true,decide_eq_true_eq] at h; have h1:IntKind.u8.min=0:=by rfl
 have h2:IntKind.u8.max=255:=by rfl
 omega
section
variable {W:CW} {m:Nat} {cs:List Value} {k off:Nat}
theorem u46:∃ e,prog.underlying 46=some (.slice e):=⟨match prog.underlying 46 with | some (.slice e)=>e | _=>0,by kernel_rfl⟩
theorem c3:prog.cellsOf 3=1:=by kernel_rfl
theorem c5:prog.cellsOf 5=1:=by kernel_rfl
theorem c9:prog.cellsOf 9=1:=by kernel_rfl
theorem c40:prog.cellsOf 40=1:=by kernel_rfl
theorem c45:prog.cellsOf 45=1:=by kernel_rfl
theorem c46:prog.cellsOf 46=1:=by kernel_rfl
theorem c48:prog.cellsOf 48=5:=by kernel_rfl
theorem c56:prog.cellsOf 56=2:=by kernel_rfl
theorem c58:prog.cellsOf 58=3:=by kernel_rfl
theorem c72:prog.cellsOf 72=2:=by kernel_rfl
theorem ut3:prog.underlying 3=some (.int .i64):=by kernel_rfl
theorem ut5:prog.underlying 5=some (.int .u8):=by kernel_rfl
theorem cD {v:Value} (h:Oh prog W 40 v):∃ l,Ax 1 (De W) v l∧NT W 3 v∧l.length≤maxLen :=
 P9 H3 c3 h fun m cs k off hc hj=>by
  cases m with
  | zero=>exact hc.elim
  | succ m =>
   simp only [CT,ut3] at hc; obtain ⟨x,rfl,hw⟩:=hc; exact ⟨x,by have:=hj 0 (by omega); simpa using this,wf_i64 hw⟩
theorem Rq {n:Nat} {t:TypeId} {o:Nat} (hm:(Tm prog t).any (fun x=>Nat.beq x.1 9 && Nat.beq x.2 o)=true) (hn:prog.cellsOf t=n) (ho:o<n) (hc:CT prog m t W cs) (hj:∀ j,j<n→W.cell k (off+j)=cs[j]?):∃ s:ByteArray,W.cell k (off+o)=some (.string s):=by
 obtain ⟨v,hv,hl⟩:=Ku hm hn c9 ho hc; obtain ⟨s,rfl,_⟩:=hl.string u9; exact ⟨s,(hj o ho).trans hv⟩
theorem uX {n:Nat} {t:TypeId} {o:Nat} (hm:(Tm prog t).any (fun x=>Nat.beq x.1 5 && Nat.beq x.2 o)=true) (hn:prog.cellsOf t=n) (ho:o<n) (hc:CT prog m t W cs) (hj:∀ j,j<n→W.cell k (off+j)=cs[j]?):∃ x:Int,W.cell k (off+o)=some (.int .u8 x)∧0≤x∧x<256:=by
 obtain ⟨v,hv,hl⟩:=Ku hm hn c5 ho hc; obtain ⟨x,rfl,hw⟩:=hl.int ut5; exact ⟨x,(hj o ho).trans hv,wf_u8 hw⟩
theorem pH {v:Value} (h:Oh prog W 45 v):∃ l,Ax 2 (RC W) v l∧NT W 72 v∧l.length≤maxLen :=
 P9 tY c72 h fun m cs k off hc hj=>by
  obtain ⟨s,h0⟩:=Rq (o:=0) (by kernel_rfl) c72 (by omega) hc hj; obtain ⟨x,h1,h2,h3⟩:=uX (o:=1) (by kernel_rfl) c72 (by omega) hc hj; exact ⟨⟨s,x⟩,h0,h1,h2,h3⟩
theorem lK {v:Value} (h:Oh prog W 22 v):∃ l,Ax 5 (Lu W) v l∧NT W 48 v∧l.length≤maxLen :=
 P9 kY c48 h fun m cs k off hc hj=>by
  obtain ⟨s,h0⟩:=Rq (o:=0) (by kernel_rfl) c48 (by omega) hc hj; obtain ⟨s2,h1⟩:=Rq (o:=1) (by kernel_rfl) c48 (by omega) hc hj; obtain ⟨v2,QY,Mz⟩:=Ku (ty:=45) (off:=2) (by kernel_rfl) c48 c45 (by omega) hc; obtain ⟨fs,qD,_⟩:=pH Mz; obtain ⟨x,h3,h4,h5⟩:=uX (o:=3) (by kernel_rfl) c48 (by omega) hc hj; obtain ⟨v4,hv4,hl4⟩:=Ku (ty:=46) (off:=4) (by kernel_rfl) c48 c46 (by omega) hc; obtain ⟨e,he⟩:=u46
  have hb:∃ a l k,v4=.slice a l k:=by
   rcases hl4.slice he with rfl | rfl | ⟨k,len,cap,f,m,rfl,_⟩ <;> exact ⟨_,_,_,rfl⟩
  obtain ⟨a,l,c,rfl⟩:=hb; exact ⟨⟨s,s2,fs,x⟩,h0,h1,⟨v2,(hj 2 (by omega)).trans QY,qD⟩,h3,⟨a,l,c,(hj 4 (by omega)).trans hv4⟩,h4,h5⟩
theorem lL {v:Value} (h:Oh prog W 23 v):∃ l,Ax 3 (OM W) v l∧NT W 58 v∧l.length≤maxLen :=
 P9 iR c58 h fun m cs k off hc hj=>by
  obtain ⟨s,h0⟩:=Rq (o:=0) (by kernel_rfl) c58 (by omega) hc hj; obtain ⟨s2,h1⟩:=Rq (o:=1) (by kernel_rfl) c58 (by omega) hc hj; obtain ⟨v2,QY,Mz⟩:=Ku (ty:=40) (off:=2) (by kernel_rfl) c58 c40 (by omega) hc; obtain ⟨fs,qD,Ac,_⟩:=cD Mz; exact ⟨⟨s,s2,fs⟩,h0,h1,⟨v2,(hj 2 (by omega)).trans QY,qD,Ac⟩⟩
theorem lM {v:Value} (h:Oh prog W 24 v):∃ l,Ax 2 (IZ W) v l∧NT W 56 v∧l.length≤maxLen :=
 P9 Vg c56 h fun m cs k off hc hj=>by
  obtain ⟨s,h0⟩:=Rq (o:=0) (by kernel_rfl) c56 (by omega) hc hj; obtain ⟨v2,QY,Mz⟩:=Ku (ty:=40) (off:=1) (by kernel_rfl) c56 c40 (by omega) hc; obtain ⟨fs,qD,_⟩:=cD Mz; exact ⟨⟨s,fs⟩,h0,⟨v2,(hj 1 (by omega)).trans QY,qD⟩⟩
end
end Go.Ce
namespace Go.Ce
open Go Go.Proofs Go.Proofs.Tryz
def Rr (ro:Option Nat) (K:AG):AG:=Aw (fun e ds W=>K .ret e ds W) K
def Rs (ro:Option Nat) (K:AG):AG:=Aw (fun e ds W=>wV (Aj prog 22 (e 0) W) fun UZ=>wV (AU prog .leq 3 true UZ (.int .i64 12)) fun RA=>wI RA ((Rr ro K) .normal (Env.of e [(2,(.bool true)),(82,(.bool true)),(81,undef),(73,(.bool true)),(80,undef),(79,undef),(78,undef),(77,undef),(73,(.bool true)),(76,undef),(73,(.bool true)),(75,undef),(73,(.bool true)),(74,undef),(73,(.bool true)),(73,RA),(72,RA),(71,UZ),(70,(e 0))]) ds W) (wV (Aj prog 22 (e 0) W) fun HQ=>wV (AU prog .gtr 3 true HQ (.int .i64 100)) fun OK=>wI OK (wV (Aj prog 22 (e 0) W) fun Nt=>wV (AU prog .leq 3 true Nt (.int .i64 102)) fun JN=>(Rr ro K) .normal (Env.of e [(2,JN),(82,JN),(81,JN),(73,(.bool false)),(80,JN),(77,(.bool true)),(79,Nt),(77,(.bool true)),(78,(e 0)),(77,(.bool true)),(77,OK),(73,(.bool false)),(76,OK),(73,(.bool false)),(75,HQ),(73,(.bool false)),(74,(e 0)),(73,(.bool false)),(73,RA),(72,RA),(71,UZ),(70,(e 0))]) ds W) ((Rr ro K) .normal (Env.of e [(2,(.bool false)),(82,(.bool false)),(81,(.bool false)),(73,(.bool false)),(80,undef),(77,(.bool false)),(79,undef),(77,(.bool false)),(78,undef),(77,(.bool false)),(77,OK),(73,(.bool false)),(76,OK),(73,(.bool false)),(75,HQ),(73,(.bool false)),(74,(e 0)),(73,(.bool false)),(73,RA),(72,RA),(71,UZ),(70,(e 0))]) ds W))) K
theorem ACy (v0:Value) (K:AG) (W:CW):AK prog AV none 13 83 (AM prog 13) (Env.args [v0]) [] W K=(C6 prog AV none 13 83 (.loop (Ae prog 13 0)) (Env.of (Env.args [v0]) [(3,(.int .i64 0)),(2,(.bool false))]) [] W (Bm 0 (Rs none K))):=by kernel_rfl
def VL (ro:Option Nat) (K:AG):AG:=Aw (fun e ds W=>wV (AU prog .add 3 true (e 3) (.int .i64 1)) fun Bk=>K .normal (Env.of e [(3,Bk),(14,Bk),(13,(e 3))]) ds W) K
def VM (ro:Option Nat) (K:AG):AG:=Aw (fun e ds W=>C6 prog AV ro 13 83 (.loop (Ae prog 13 1)) (Env.of e [(4,(.int .i64 0))]) ds W (Bm 2 (Bm 1 (VL ro K)))) (Bm 1 (VL ro K))
def Rt (ro:Option Nat) (K:AG):AG:=Aw (fun e ds W=>wI (e 48) ((VM ro K) .ret (Env.of e [(2,(.bool false))]) ds W) ((VM ro K) .normal e ds W)) (VM ro K)
def Ru (ro:Option Nat) (K:AG):AG:=Aw (fun e ds W=>wV (EV prog 22 (e 0) (e 3)) fun B7=>wV (A0 prog 48 B7 0) fun CP=>wV (ld prog 9 CP W) fun CH=>wV (Aj prog 9 CH W) fun v20=>wV (AU prog .gtr 3 true v20 (.int .i64 70)) fun DR=>wI DR ((Rt ro K) .normal (Env.of e [(48,(.bool true)),(47,undef),(40,(.bool true)),(46,undef),(40,(.bool true)),(45,undef),(40,(.bool true)),(44,undef),(40,(.bool true)),(43,undef),(40,(.bool true)),(42,undef),(40,(.bool true)),(41,undef),(40,(.bool true)),(40,(.bool true)),(39,(.bool true)),(38,undef),(31,(.bool true)),(37,undef),(31,(.bool true)),(36,undef),(31,(.bool true)),(35,undef),(31,(.bool true)),(34,undef),(31,(.bool true)),(33,undef),(31,(.bool true)),(32,undef),(31,(.bool true)),(31,(.bool true)),(30,(.bool true)),(29,undef),(22,(.bool true)),(28,undef),(22,(.bool true)),(27,undef),(22,(.bool true)),(26,undef),(22,(.bool true)),(25,undef),(22,(.bool true)),(24,undef),(22,(.bool true)),(23,undef),(22,(.bool true)),(22,DR),(21,DR),(20,v20),(19,CH),(18,CP),(17,B7),(16,(e 3)),(15,(e 0))]) ds W) (wV (EV prog 22 (e 0) (e 3)) fun Dc=>wV (A0 prog 48 Dc 1) fun Dx=>wV (ld prog 9 Dx W) fun D_=>wV (Aj prog 9 D_ W) fun DG=>wV (AU prog .gtr 3 true DG (.int .i64 70)) fun D'=>wI D' ((Rt ro K) .normal (Env.of e [(48,(.bool true)),(47,undef),(40,(.bool true)),(46,undef),(40,(.bool true)),(45,undef),(40,(.bool true)),(44,undef),(40,(.bool true)),(43,undef),(40,(.bool true)),(42,undef),(40,(.bool true)),(41,undef),(40,(.bool true)),(40,(.bool true)),(39,(.bool true)),(38,undef),(31,(.bool true)),(37,undef),(31,(.bool true)),(36,undef),(31,(.bool true)),(35,undef),(31,(.bool true)),(34,undef),(31,(.bool true)),(33,undef),(31,(.bool true)),(32,undef),(31,(.bool true)),(31,D'),(30,D'),(29,D'),(22,(.bool false)),(28,DG),(22,(.bool false)),(27,D_),(22,(.bool false)),(26,Dx),(22,(.bool false)),(25,Dc),(22,(.bool false)),(24,(e 3)),(22,(.bool false)),(23,(e 0)),(22,(.bool false)),(22,DR),(21,DR),(20,v20),(19,CH),(18,CP),(17,B7),(16,(e 3)),(15,(e 0))]) ds W) (wV (EV prog 22 (e 0) (e 3)) fun Fi=>wV (A0 prog 48 Fi 2) fun FF=>wV (ld prog 45 FF W) fun I0=>wV (Aj prog 45 I0 W) fun Fh=>wV (AU prog .gtr 3 true Fh (.int .i64 24)) fun IC=>wI IC ((Rt ro K) .normal (Env.of e [(48,(.bool true)),(47,undef),(40,(.bool true)),(46,undef),(40,(.bool true)),(45,undef),(40,(.bool true)),(44,undef),(40,(.bool true)),(43,undef),(40,(.bool true)),(42,undef),(40,(.bool true)),(41,undef),(40,(.bool true)),(40,IC),(39,IC),(38,IC),(31,(.bool false)),(37,Fh),(31,(.bool false)),(36,I0),(31,(.bool false)),(35,FF),(31,(.bool false)),(34,Fi),(31,(.bool false)),(33,(e 3)),(31,(.bool false)),(32,(e 0)),(31,(.bool false)),(31,D'),(30,D'),(29,D'),(22,(.bool false)),(28,DG),(22,(.bool false)),(27,D_),(22,(.bool false)),(26,Dx),(22,(.bool false)),(25,Dc),(22,(.bool false)),(24,(e 3)),(22,(.bool false)),(23,(e 0)),(22,(.bool false)),(22,DR),(21,DR),(20,v20),(19,CH),(18,CP),(17,B7),(16,(e 3)),(15,(e 0))]) ds W) (wV (EV prog 22 (e 0) (e 3)) fun FE=>wV (A0 prog 48 FE 4) fun KL=>wV (ld prog 46 KL W) fun FT=>wV (Aj prog 46 FT W) fun Hx=>wV (AU prog .gtr 3 true Hx (.int .i64 20)) fun IU=>(Rt ro K) .normal (Env.of e [(48,IU),(47,IU),(40,(.bool false)),(46,Hx),(40,(.bool false)),(45,FT),(40,(.bool false)),(44,KL),(40,(.bool false)),(43,FE),(40,(.bool false)),(42,(e 3)),(40,(.bool false)),(41,(e 0)),(40,(.bool false)),(40,IC),(39,IC),(38,IC),(31,(.bool false)),(37,Fh),(31,(.bool false)),(36,I0),(31,(.bool false)),(35,FF),(31,(.bool false)),(34,Fi),(31,(.bool false)),(33,(e 3)),(31,(.bool false)),(32,(e 0)),(31,(.bool false)),(31,D'),(30,D'),(29,D'),(22,(.bool false)),(28,DG),(22,(.bool false)),(27,D_),(22,(.bool false)),(26,Dx),(22,(.bool false)),(25,Dc),(22,(.bool false)),(24,(e 3)),(22,(.bool false)),(23,(e 0)),(22,(.bool false)),(22,DR),(21,DR),(20,v20),(19,CH),(18,CP),(17,B7),(16,(e 3)),(15,(e 0))]) ds W)))) K
def Yy (ro:Option Nat) (K:AG):AG:=Aw (fun e ds W=>wI (e 12) ((Ru ro K) .normal e ds W) ((Ru ro K) (.exit 0) e ds W)) (Ru ro K)
theorem zC (ro:Option Nat) (e:Env) (ds:List Deferred) (K:AG) (W:CW):AK prog AV ro 13 83 (Ae prog 13 0) e ds W K=(wV (Aj prog 22 (e 0) W) fun v7=>wV (AU prog .lss 3 false (e 3) v7) fun v8=>wI v8 (wV (AU prog .lss 3 true (e 3) (.int .i64 103)) fun v11=>(Yy ro K) .normal (Env.of e [(12,v11),(11,v11),(9,(.bool true)),(10,(e 3)),(9,(.bool true)),(9,v8),(8,v8),(7,v7),(6,(e 0)),(5,(e 3))]) ds W) ((Yy ro K) .normal (Env.of e [(12,(.bool false)),(11,undef),(9,(.bool false)),(10,undef),(9,(.bool false)),(9,v8),(8,v8),(7,v7),(6,(e 0)),(5,(e 3))]) ds W)):=by kernel_rfl
def Yz (ro:Option Nat) (K:AG):AG:=Aw (fun e ds W=>wV (AU prog .add 3 true (e 4) (.int .i64 1)) fun Hq=>K .normal (Env.of e [(4,Hq),(58,Hq),(57,(e 4))]) ds W) K
theorem zD (ro:Option Nat) (e:Env) (ds:List Deferred) (K:AG) (W:CW):AK prog AV ro 13 83 (Ae prog 13 1) e ds W K=(wV (EV prog 22 (e 0) (e 3)) fun Ls=>wV (A0 prog 48 Ls 2) fun Gu=>wV (ld prog 45 Gu W) fun F7=>wV (Aj prog 45 F7 W) fun Ns=>wV (AU prog .lss 3 false (e 4) Ns) fun FU=>wI FU (wV (EV prog 22 (e 0) (e 3)) fun FR=>wV (A0 prog 48 FR 2) fun aC=>wV (ld prog 45 aC W) fun PC=>wV (EV prog 45 PC (e 4)) fun Ll=>wV (A0 prog 72 Ll 0) fun LO=>wV (ld prog 9 LO W) fun J4=>wV (Aj prog 9 J4 W) fun J5=>wV (AU prog .gtr 3 true J5 (.int .i64 70)) fun HP=>wI HP ((Yz ro K) .ret (Env.of e [(2,(.bool false)),(69,HP),(68,J5),(67,J4),(66,LO),(65,Ll),(64,(e 4)),(63,PC),(62,aC),(61,FR),(60,(e 3)),(59,(e 0)),(56,FU),(55,Ns),(54,F7),(53,Gu),(52,Ls),(51,(e 3)),(50,(e 0)),(49,(e 4))]) ds W) ((Yz ro K) .normal (Env.of e [(69,HP),(68,J5),(67,J4),(66,LO),(65,Ll),(64,(e 4)),(63,PC),(62,aC),(61,FR),(60,(e 3)),(59,(e 0)),(56,FU),(55,Ns),(54,F7),(53,Gu),(52,Ls),(51,(e 3)),(50,(e 0)),(49,(e 4))]) ds W)) (K (.exit 2) (Env.of e [(56,FU),(55,Ns),(54,F7),(53,Gu),(52,Ls),(51,(e 3)),(50,(e 0)),(49,(e 4))]) ds W)):=by kernel_rfl
theorem kC (Q:Ending→CW→Prop) (e:Env) (W:CW):AI prog Tryz.f13 Q .ret e [] W=Q (.returned (e 2)) W:=by kernel_rfl
theorem ACz {Q:Ending→CW→Prop} {v0:Value} {W:CW} (h:AK prog AV none 13 83 (AM prog 13) (Env.args [v0]) [] W (AI prog Tryz.f13 Q)):AF prog AV 13 [v0] W Q:=AX Tryz.func13 (by kernel_rfl) (by kernel_rfl) (by kernel_rfl) (by kernel_rfl) (by kernel_rfl) h
def Y0 (ro:Option Nat) (K:AG):AG:=Aw (fun e ds W=>wV (Aj prog 23 (e 0) W) fun FZ=>wV (AU prog .leq 3 true FZ (.int .i64 22)) fun FL=>K .ret (Env.of e [(2,FL),(41,FL),(40,FZ),(39,(e 0))]) ds W) K
theorem AC0 (v0:Value) (K:AG) (W:CW):AK prog AV none 14 42 (AM prog 14) (Env.args [v0]) [] W K=(C6 prog AV none 14 42 (.loop (Ae prog 14 0)) (Env.of (Env.args [v0]) [(3,(.int .i64 0)),(2,(.bool false))]) [] W (Bm 0 (Y0 none K))):=by kernel_rfl
def Rv (ro:Option Nat) (K:AG):AG:=Aw (fun e ds W=>wV (AU prog .add 3 true (e 3) (.int .i64 1)) fun DQ=>K .normal (Env.of e [(3,DQ),(13,DQ),(12,(e 3))]) ds W) K
def Rw (ro:Option Nat) (K:AG):AG:=Aw (fun e ds W=>wI (e 38) ((Rv ro K) .ret (Env.of e [(2,(.bool false))]) ds W) ((Rv ro K) .normal e ds W)) (Bm 1 (Rv ro K))
def Rx (ro:Option Nat) (K:AG):AG:=Aw (fun e ds W=>wV (EV prog 23 (e 0) (e 3)) fun DS=>wV (A0 prog 58 DS 0) fun B7=>wV (ld prog 9 B7 W) fun CP=>wV (Aj prog 9 CP W) fun CH=>wV (AU prog .gtr 3 true CH (.int .i64 70)) fun v20=>wI v20 ((Rw ro K) .normal (Env.of e [(38,(.bool true)),(37,undef),(30,(.bool true)),(36,undef),(30,(.bool true)),(35,undef),(30,(.bool true)),(34,undef),(30,(.bool true)),(33,undef),(30,(.bool true)),(32,undef),(30,(.bool true)),(31,undef),(30,(.bool true)),(30,(.bool true)),(29,(.bool true)),(28,undef),(21,(.bool true)),(27,undef),(21,(.bool true)),(26,undef),(21,(.bool true)),(25,undef),(21,(.bool true)),(24,undef),(21,(.bool true)),(23,undef),(21,(.bool true)),(22,undef),(21,(.bool true)),(21,v20),(20,v20),(19,CH),(18,CP),(17,B7),(16,DS),(15,(e 3)),(14,(e 0))]) ds W) (wV (EV prog 23 (e 0) (e 3)) fun Eu=>wV (A0 prog 58 Eu 1) fun Dc=>wV (ld prog 9 Dc W) fun Dx=>wV (Aj prog 9 Dx W) fun D_=>wV (AU prog .gtr 3 true D_ (.int .i64 70)) fun DG=>wI DG ((Rw ro K) .normal (Env.of e [(38,(.bool true)),(37,undef),(30,(.bool true)),(36,undef),(30,(.bool true)),(35,undef),(30,(.bool true)),(34,undef),(30,(.bool true)),(33,undef),(30,(.bool true)),(32,undef),(30,(.bool true)),(31,undef),(30,(.bool true)),(30,DG),(29,DG),(28,DG),(21,(.bool false)),(27,D_),(21,(.bool false)),(26,Dx),(21,(.bool false)),(25,Dc),(21,(.bool false)),(24,Eu),(21,(.bool false)),(23,(e 3)),(21,(.bool false)),(22,(e 0)),(21,(.bool false)),(21,v20),(20,v20),(19,CH),(18,CP),(17,B7),(16,DS),(15,(e 3)),(14,(e 0))]) ds W) (wV (EV prog 23 (e 0) (e 3)) fun EW=>wV (A0 prog 58 EW 2) fun Fi=>wV (ld prog 40 Fi W) fun FF=>wV (Aj prog 40 FF W) fun I0=>wV (AU prog .gtr 3 true I0 (.int .i64 70)) fun Fh=>(Rw ro K) .normal (Env.of e [(38,Fh),(37,Fh),(30,(.bool false)),(36,I0),(30,(.bool false)),(35,FF),(30,(.bool false)),(34,Fi),(30,(.bool false)),(33,EW),(30,(.bool false)),(32,(e 3)),(30,(.bool false)),(31,(e 0)),(30,(.bool false)),(30,DG),(29,DG),(28,DG),(21,(.bool false)),(27,D_),(21,(.bool false)),(26,Dx),(21,(.bool false)),(25,Dc),(21,(.bool false)),(24,Eu),(21,(.bool false)),(23,(e 3)),(21,(.bool false)),(22,(e 0)),(21,(.bool false)),(21,v20),(20,v20),(19,CH),(18,CP),(17,B7),(16,DS),(15,(e 3)),(14,(e 0))]) ds W))) K
def Y1 (ro:Option Nat) (K:AG):AG:=Aw (fun e ds W=>wI (e 11) ((Rx ro K) .normal e ds W) ((Rx ro K) (.exit 0) e ds W)) (Rx ro K)
theorem zE (ro:Option Nat) (e:Env) (ds:List Deferred) (K:AG) (W:CW):AK prog AV ro 14 42 (Ae prog 14 0) e ds W K=(wV (Aj prog 23 (e 0) W) fun v6=>wV (AU prog .lss 3 false (e 3) v6) fun v7=>wI v7 (wV (AU prog .lss 3 true (e 3) (.int .i64 22)) fun v10=>(Y1 ro K) .normal (Env.of e [(11,v10),(10,v10),(8,(.bool true)),(9,(e 3)),(8,(.bool true)),(8,v7),(7,v7),(6,v6),(5,(e 0)),(4,(e 3))]) ds W) ((Y1 ro K) .normal (Env.of e [(11,(.bool false)),(10,undef),(8,(.bool false)),(9,undef),(8,(.bool false)),(8,v7),(7,v7),(6,v6),(5,(e 0)),(4,(e 3))]) ds W)):=by kernel_rfl
theorem kD (Q:Ending→CW→Prop) (e:Env) (W:CW):AI prog Tryz.f14 Q .ret e [] W=Q (.returned (e 2)) W:=by kernel_rfl
theorem AC1 {Q:Ending→CW→Prop} {v0:Value} {W:CW} (h:AK prog AV none 14 42 (AM prog 14) (Env.args [v0]) [] W (AI prog Tryz.f14 Q)):AF prog AV 14 [v0] W Q:=AX Tryz.func14 (by kernel_rfl) (by kernel_rfl) (by kernel_rfl) (by kernel_rfl) (by kernel_rfl) h
def Ry (ro:Option Nat) (K:AG):AG:=Aw (fun e ds W=>K .ret e ds W) K
def Y2 (ro:Option Nat) (K:AG):AG:=Aw (fun e ds W=>wV (Aj prog 24 (e 0) W) fun FT=>wV (AU prog .leq 3 true FT (.int .i64 40)) fun Hx=>wI Hx ((Ry ro K) .normal (Env.of e [(2,(.bool true)),(56,(.bool true)),(55,undef),(47,(.bool true)),(54,undef),(53,undef),(52,undef),(51,undef),(47,(.bool true)),(50,undef),(47,(.bool true)),(49,undef),(47,(.bool true)),(48,undef),(47,(.bool true)),(47,Hx),(46,Hx),(45,FT),(44,(e 0))]) ds W) (wV (Aj prog 24 (e 0) W) fun Ix=>wV (AU prog .gtr 3 true Ix (.int .i64 1000)) fun Hr=>wI Hr (wV (Aj prog 24 (e 0) W) fun Gu=>wV (AU prog .leq 3 true Gu (.int .i64 1002)) fun F7=>(Ry ro K) .normal (Env.of e [(2,F7),(56,F7),(55,F7),(47,(.bool false)),(54,F7),(51,(.bool true)),(53,Gu),(51,(.bool true)),(52,(e 0)),(51,(.bool true)),(51,Hr),(47,(.bool false)),(50,Hr),(47,(.bool false)),(49,Ix),(47,(.bool false)),(48,(e 0)),(47,(.bool false)),(47,Hx),(46,Hx),(45,FT),(44,(e 0))]) ds W) ((Ry ro K) .normal (Env.of e [(2,(.bool false)),(56,(.bool false)),(55,(.bool false)),(47,(.bool false)),(54,undef),(51,(.bool false)),(53,undef),(51,(.bool false)),(52,undef),(51,(.bool false)),(51,Hr),(47,(.bool false)),(50,Hr),(47,(.bool false)),(49,Ix),(47,(.bool false)),(48,(e 0)),(47,(.bool false)),(47,Hx),(46,Hx),(45,FT),(44,(e 0))]) ds W))) K
theorem AC2 (v0:Value) (K:AG) (W:CW):AK prog AV none 15 57 (AM prog 15) (Env.args [v0]) [] W K=(C6 prog AV none 15 57 (.loop (Ae prog 15 0)) (Env.of (Env.args [v0]) [(3,(.int .i64 0)),(2,(.bool false))]) [] W (Bm 0 (Y2 none K))):=by kernel_rfl
def VN (ro:Option Nat) (K:AG):AG:=Aw (fun e ds W=>wV (AU prog .add 3 true (e 3) (.int .i64 1)) fun v9=>K .normal (Env.of e [(3,v9),(9,v9),(8,(e 3))]) ds W) K
def Rz (ro:Option Nat) (K:AG):AG:=Aw (fun e ds W=>wI (e 43) ((VN ro K) .ret (Env.of e [(2,(.bool false))]) ds W) ((VN ro K) .normal e ds W)) (Bm 1 (VN ro K))
theorem zF (ro:Option Nat) (e:Env) (ds:List Deferred) (K:AG) (W:CW):AK prog AV ro 15 57 (Ae prog 15 0) e ds W K=(wV (Aj prog 24 (e 0) W) fun v6=>wV (AU prog .lss 3 false (e 3) v6) fun v7=>wI v7 (wV (EV prog 24 (e 0) (e 3)) fun BR=>wV (A0 prog 56 BR 0) fun DQ=>wV (ld prog 9 DQ W) fun Bk=>wV (Aj prog 9 Bk W) fun DE=>wV (AU prog .gtr 3 true DE (.int .i64 70)) fun DS=>wI DS ((Rz ro K) .normal (Env.of e [(43,(.bool true)),(42,undef),(35,(.bool true)),(41,undef),(35,(.bool true)),(40,undef),(35,(.bool true)),(39,undef),(35,(.bool true)),(38,undef),(35,(.bool true)),(37,undef),(35,(.bool true)),(36,undef),(35,(.bool true)),(35,(.bool true)),(34,(.bool true)),(33,undef),(17,(.bool true)),(32,undef),(31,undef),(30,undef),(29,undef),(28,undef),(27,undef),(26,undef),(25,undef),(17,(.bool true)),(24,undef),(17,(.bool true)),(23,undef),(17,(.bool true)),(22,undef),(17,(.bool true)),(21,undef),(17,(.bool true)),(20,undef),(17,(.bool true)),(19,undef),(17,(.bool true)),(18,undef),(17,(.bool true)),(17,DS),(16,DS),(15,DE),(14,Bk),(13,DQ),(12,BR),(11,(e 3)),(10,(e 0)),(7,v7),(6,v6),(5,(e 0)),(4,(e 3))]) ds W) (wV (EV prog 24 (e 0) (e 3)) fun v20=>wV (A0 prog 56 v20 1) fun DR=>wV (ld prog 40 DR W) fun FX=>wV (Aj prog 40 FX W) fun Da=>wV (AU prog .gtr 3 true Da (.int .i64 70)) fun Eu=>wI Eu (wV (EV prog 24 (e 0) (e 3)) fun DG=>wV (A0 prog 56 DG 1) fun D'=>wV (ld prog 40 D' W) fun v30=>wV (Aj prog 40 v30 W) fun EA=>wV (AU prog .leq 3 true EA (.int .i64 200)) fun Ep=>wI Ep ((Rz ro K) .normal (Env.of e [(43,(.bool true)),(42,undef),(35,(.bool true)),(41,undef),(35,(.bool true)),(40,undef),(35,(.bool true)),(39,undef),(35,(.bool true)),(38,undef),(35,(.bool true)),(37,undef),(35,(.bool true)),(36,undef),(35,(.bool true)),(35,Ep),(34,Ep),(33,Ep),(17,(.bool false)),(32,Ep),(25,(.bool true)),(31,EA),(25,(.bool true)),(30,v30),(25,(.bool true)),(29,D'),(25,(.bool true)),(28,DG),(25,(.bool true)),(27,(e 3)),(25,(.bool true)),(26,(e 0)),(25,(.bool true)),(25,Eu),(17,(.bool false)),(24,Eu),(17,(.bool false)),(23,Da),(17,(.bool false)),(22,FX),(17,(.bool false)),(21,DR),(17,(.bool false)),(20,v20),(17,(.bool false)),(19,(e 3)),(17,(.bool false)),(18,(e 0)),(17,(.bool false)),(17,DS),(16,DS),(15,DE),(14,Bk),(13,DQ),(12,BR),(11,(e 3)),(10,(e 0)),(7,v7),(6,v6),(5,(e 0)),(4,(e 3))]) ds W) (wV (EV prog 24 (e 0) (e 3)) fun IC=>wV (A0 prog 56 IC 1) fun JO=>wV (ld prog 40 JO W) fun FZ=>wV (Aj prog 40 FZ W) fun FL=>wV (AU prog .gtr 3 true FL (.int .i64 203)) fun HL=>(Rz ro K) .normal (Env.of e [(43,HL),(42,HL),(35,(.bool false)),(41,FL),(35,(.bool false)),(40,FZ),(35,(.bool false)),(39,JO),(35,(.bool false)),(38,IC),(35,(.bool false)),(37,(e 3)),(35,(.bool false)),(36,(e 0)),(35,(.bool false)),(35,Ep),(34,Ep),(33,Ep),(17,(.bool false)),(32,Ep),(25,(.bool true)),(31,EA),(25,(.bool true)),(30,v30),(25,(.bool true)),(29,D'),(25,(.bool true)),(28,DG),(25,(.bool true)),(27,(e 3)),(25,(.bool true)),(26,(e 0)),(25,(.bool true)),(25,Eu),(17,(.bool false)),(24,Eu),(17,(.bool false)),(23,Da),(17,(.bool false)),(22,FX),(17,(.bool false)),(21,DR),(17,(.bool false)),(20,v20),(17,(.bool false)),(19,(e 3)),(17,(.bool false)),(18,(e 0)),(17,(.bool false)),(17,DS),(16,DS),(15,DE),(14,Bk),(13,DQ),(12,BR),(11,(e 3)),(10,(e 0)),(7,v7),(6,v6),(5,(e 0)),(4,(e 3))]) ds W)) (wV (EV prog 24 (e 0) (e 3)) fun IC=>wV (A0 prog 56 IC 1) fun JO=>wV (ld prog 40 JO W) fun FZ=>wV (Aj prog 40 FZ W) fun FL=>wV (AU prog .gtr 3 true FL (.int .i64 203)) fun HL=>(Rz ro K) .normal (Env.of e [(43,HL),(42,HL),(35,(.bool false)),(41,FL),(35,(.bool false)),(40,FZ),(35,(.bool false)),(39,JO),(35,(.bool false)),(38,IC),(35,(.bool false)),(37,(e 3)),(35,(.bool false)),(36,(e 0)),(35,(.bool false)),(35,(.bool false)),(34,(.bool false)),(33,(.bool false)),(17,(.bool false)),(32,undef),(25,(.bool false)),(31,undef),(25,(.bool false)),(30,undef),(25,(.bool false)),(29,undef),(25,(.bool false)),(28,undef),(25,(.bool false)),(27,undef),(25,(.bool false)),(26,undef),(25,(.bool false)),(25,Eu),(17,(.bool false)),(24,Eu),(17,(.bool false)),(23,Da),(17,(.bool false)),(22,FX),(17,(.bool false)),(21,DR),(17,(.bool false)),(20,v20),(17,(.bool false)),(19,(e 3)),(17,(.bool false)),(18,(e 0)),(17,(.bool false)),(17,DS),(16,DS),(15,DE),(14,Bk),(13,DQ),(12,BR),(11,(e 3)),(10,(e 0)),(7,v7),(6,v6),(5,(e 0)),(4,(e 3))]) ds W))) (K (.exit 0) (Env.of e [(7,v7),(6,v6),(5,(e 0)),(4,(e 3))]) ds W)):=by kernel_rfl
theorem kE (Q:Ending→CW→Prop) (e:Env) (W:CW):AI prog Tryz.f15 Q .ret e [] W=Q (.returned (e 2)) W:=by kernel_rfl
theorem AC3 {Q:Ending→CW→Prop} {v0:Value} {W:CW} (h:AK prog AV none 15 57 (AM prog 15) (Env.args [v0]) [] W (AI prog Tryz.f15 Q)):AF prog AV 15 [v0] W Q:=AX Tryz.func15 (by kernel_rfl) (by kernel_rfl) (by kernel_rfl) (by kernel_rfl) (by kernel_rfl) h
end Go.Ce
namespace Go.Ce
open Go Go.Proofs Go.Proofs.Tryz
def IG (A:Prop) (W:CW):Ending→CW→Prop:=fun e W'=>W'=W∧∃ b,e=.returned (.bool b)∧(b=true→A)
theorem WE {v0:Value} {l:List Bc} {W:CW} (hl:Ax 3 (OM W) v0 l) :
  AF prog AV 14 [v0] W (IG (l.length≤22∧∀ s,s ∈ l→s.map.length≤70) W):=by
 refine AC1 ?_; rw [AC0]; obtain ⟨a,cap,rfl,hc⟩:=hl; generalize Jq:AI prog Tryz.f14 (IG (l.length≤22∧∀ s,s ∈ l→s.map.length≤70) W)=KK
 have H':∀ (e:Env) (b:Bool),e 2=.bool b→(b=true→l.length≤22∧∀ s,s ∈ l→s.map.length≤70)→KK .ret e [] W:=by
  intro e b h2 hb; rw [←Jq,kD]; exact ⟨rfl,b,by rw [h2],hb⟩
 refine D8 (fun i e ds W'=>ds=[]∧W'=W∧e 0=.slice a l.length cap∧e 3=.int .i64 i∧∀ j x,j<i→l[j]?=some x→x.map.length≤70) (min l.length 22) ⟨rfl,rfl,rfl,rfl,by omega⟩ ?_; rintro i e ds W' hi ⟨rfl,rfl,h0,h3,Bj⟩; rw [zE,h0,h3]; simp only [Ah iR,AA,A7]
 have E3:∀ e1:Env,e1 0=.slice a l.length cap→(l.length≤22→i=l.length)→(Y0 none KK) .normal e1 [] W':=by
  intro e1 g0 G4; simp only [Y0,B_,g0,Ah iR,AA,IY]; refine H' _ _ rfl fun hb=>?_; have hb:l.length≤22:=by have:=of_decide_eq_true hb; omega
  have hi2:=G4 hb; refine ⟨hb,fun s hs=>?_⟩; obtain ⟨j,hj,rfl⟩:=List.getElem_of_mem hs; exact Bj j _ (by omega) (List.getElem?_eq_getElem hj)
 refine G6 (fun Au=>?_) (fun Of=>?_)
 ·simp only [Y1,B_]; simp only [Ao,↓reduceIte]
  refine AP (fun pI=>?_) (fun pI=>?_)
  ·have pI:i<22:=by have:=of_decide_eq_true pI; omega
   have hx:=List.getElem?_eq_getElem Au; obtain ⟨p,rfl,hp⟩:=hc i _ hx; obtain ⟨vm,ZN,hm,_⟩:=hp.map; obtain ⟨am,cm,rfl,_⟩:=hm; simp only [Rx,B_]; simp only [Ao,BC,Nat.reduceEqDiff,↓reduceIte,h0,h3]; rw [A8 iR ZB Au]; simp only [AA,LQ,LR,LS]; rw [AB a9 (a:=⟨p.block,p.off+i*3,none⟩) hp.type,AB a9 (a:=⟨p.block,p.off+i*3+1,none⟩) hp.to,AB M7 (a:=⟨p.block,p.off+i*3+2,none⟩) ZN]; simp only [AA,KQ u9,Ah H3,CY]
   have bad:∀ e1:Env,e1 38=.bool true→(Rw none (KY (fun i e ds gv=>ds=[]∧gv=W'∧e 0=.slice (some p) l.length cap∧e 3=.int .i64 i∧∀ j x,j<i→l[j]?=some x→x.map.length≤70) i (min l.length 22) (Bm 0 (Y0 none KK)))) .normal e1 [] W':=by
    intro e1 h38; simp only [Rw,B_,Lm,Sz,HB,Vb,h38,Bh,Rv]; exact H' _ false rfl nofun
   refine AP (fun _=>bad _ rfl) (fun _=>?_); refine AP (fun _=>bad _ rfl) (fun _=>?_); simp only [Rw,B_]; simp only [Ao,↓reduceIte]
   refine AP (fun _=>?_) (fun AFb=>?_)
   ·simp only [Rv,Lm,Sz,HB,Vb]; exact H' _ false rfl nofun
   ·simp only [Rv,B_,HB]; simp only [Ao,BC,Nat.reduceEqDiff,↓reduceIte,h0,h3,Az,AA]; refine ⟨by omega,trivial,trivial,trivial,by rw [Du (by omega)],fun j x hj KW=>?_⟩
    rcases Nat.lt_succ_iff_lt_or_eq.1 hj with h2 | rfl
    ·exact Bj j x h2 KW
    ·rw [hx] at KW; cases KW; have:=of_decide_eq_false AFb; omega
  ·have pI:¬i<22:=by have:=of_decide_eq_false pI; omega
   simp only [Rx,Va,M6,PJ,if_true]; exact E3 _ h0 (by omega)
 ·simp only [Y1,B_]; simp only [Ao,↓reduceIte,Ar]; simp only [Rx,Va,M6,PJ,if_true]; exact E3 _ h0 (by omega)
end Go.Ce
namespace Go.Ce
open Go Go.Proofs Go.Proofs.Tryz
theorem zG {i:Nat} (h:i<9223372036854775807):IntKind.i64.wrap ((i:Int)+1)=((i+1:Nat):Int):=by rw [wrap64 (by omega) (by omega)]; rfl
theorem cE {v0:Value} {l:List BM} {W:CW} (hl:Ax 2 (IZ W) v0 l) (hlm:l.length≤maxLen) :
  AF prog AV 15 [v0] W (IG ((l.length≤40∨1000<l.length)∧l.length≤1002∧∀ x,x ∈ l→x.AH.length≤203) W):=by
 refine AC3 ?_; rw [AC2]; have AGh:maxLen=9223372036854775807:=rfl; obtain ⟨a,cap,rfl,hc⟩:=hl; generalize Jq:AI prog Tryz.f15 (IG ((l.length≤40∨1000<l.length)∧l.length≤1002∧∀ x,x ∈ l→x.AH.length≤203) W)=KK
 have H':∀ (e:Env) (b:Bool),e 2=.bool b→(b=true→(l.length≤40∨1000<l.length)∧l.length≤1002∧∀ x,x ∈ l→x.AH.length≤203)→KK .ret e [] W:=by
  intro e b h2 hb; rw [←Jq,kE]; exact ⟨rfl,b,by rw [h2],hb⟩
 refine D8 (fun i e ds W'=>ds=[]∧W'=W∧e 0=.slice a l.length cap∧e 3=.int .i64 i∧∀ j x,j<i→l[j]?=some x→x.AH.length≤203) l.length ⟨rfl,rfl,rfl,rfl,by omega⟩ ?_; rintro i e ds W' hi ⟨rfl,rfl,h0,h3,Bj⟩; rw [zF,h0,h3]; simp only [Ah Vg,AA,A7]
 refine G6 (fun Au=>?_) (fun Of=>?_)
 ·have hx:=List.getElem?_eq_getElem Au; obtain ⟨p,rfl,hp⟩:=hc i _ hx; obtain ⟨vm,ZN,hm⟩:=hp.AH; obtain ⟨am,cm,rfl,_⟩:=hm; rw [A8 Vg Ia Au]; simp only [AA,F1,D1]; rw [AB a9 (a:=⟨p.block,p.off+i*2,none⟩) hp.type,AB M7 (a:=⟨p.block,p.off+i*2+1,none⟩) ZN]; simp only [AA,KQ u9,Ah H3,CY,IY]
  have fin:∀ (e1:Env) (b:Bool),e1 43=.bool b→e1 0=.slice (some p) l.length cap→e1 3=.int .i64 i→(b=false→l[i].AH.length≤203)→(Rz none (KY (fun i e ds gv=>ds=[]∧gv=W'∧e 0=.slice (some p) l.length cap∧e 3=.int .i64 i∧∀ j x,j<i→l[j]?=some x→x.AH.length≤203) i l.length (Bm 0 (Y2 none KK)))) .normal e1 [] W':=by
   intro e1 b h43 g0 g3 hb; simp only [Rz,B_,h43]
   refine AP (fun nu=>?_) (fun sA=>?_)
   ·simp only [VN,Lm,Sz,HB,Vb,Y2]; exact H' _ false rfl nofun
   ·simp only [VN,B_,HB]; simp only [Ao,BC,Nat.reduceEqDiff,↓reduceIte,g0,g3,Az,AA]; refine ⟨Au,trivial,trivial,trivial,by rw [zG (by omega)],fun j x hj KW=>?_⟩
    rcases Nat.lt_succ_iff_lt_or_eq.1 hj with h2 | rfl
    ·exact Bj j x h2 KW
    ·rw [hx] at KW; cases KW; exact hb sA
  refine AP (fun _=>fin _ true rfl (by exact h0) (by exact h3) nofun) (fun _=>?_)
  refine AP (fun h70=>?_) (fun h70=>?_)
  ·refine AP (fun AFc=>fin _ true rfl (by exact h0) (by exact h3) nofun) (fun AFc=>?_); refine fin _ _ rfl (by exact h0) (by exact h3) fun hb=>?_; have:=of_decide_eq_false hb; omega
  ·refine fin _ _ rfl (by exact h0) (by exact h3) fun hb=>?_; have:=of_decide_eq_false h70; omega
 ·have G4:i=l.length:=by omega
  simp only [B_,Va,M6,PJ,if_true,Y2]; simp only [Ao,BC,Nat.reduceEqDiff,↓reduceIte,h0,Ah Vg,AA,IY,CY]
  have B6:∀ x,x ∈ l→x.AH.length≤203:=fun s hs=>by
   obtain ⟨j,hj,rfl⟩:=List.getElem_of_mem hs; exact Bj j _ (by omega) (List.getElem?_eq_getElem hj)
  refine AP (fun Yu=>?_) (fun Yu=>?_)
  ·simp only [Ry,B_]; have:=of_decide_eq_true Yu; exact H' _ true rfl fun _=>⟨.inl (by omega),by omega,B6⟩
  ·refine AP (fun JV=>?_) (fun JV=>?_)
   ·simp only [Ry,B_]; have JV:=of_decide_eq_true JV; refine H' _ _ rfl fun hb=>?_; have:=of_decide_eq_true hb; exact ⟨.inr (by omega),by omega,B6⟩
   ·simp only [Ry,B_]; exact H' _ false rfl nofun
end Go.Ce
namespace Go.Ce
open Go Go.Proofs Go.Proofs.Tryz
theorem a46:agg? prog 46=some false:=by kernel_rfl
theorem sr (a:Addr):A0 prog 48 (.pointer (some a)) 4=some (.pointer (some ⟨a.block,a.off+4,none⟩)):=by kernel_rfl
def fm (x:Ad):Prop:=x.name.size≤70∧x.By.size≤70∧x.fields.length≤24∧∀ f,f ∈ x.fields→f.name.size≤70
theorem cF {v0:Value} {l:List Ad} {W:CW} (hl:Ax 5 (Lu W) v0 l) :
  AF prog AV 13 [v0] W (IG (l.length≤102∧∀ x,x ∈ l→fm x) W):=by
 refine ACz ?_; rw [ACy]; obtain ⟨a,cap,rfl,hc⟩:=hl; generalize Jq:AI prog Tryz.f13 (IG (l.length≤102∧∀ x,x ∈ l→fm x) W)=KK
 have H':∀ (e:Env) (b:Bool),e 2=.bool b→(b=true→l.length≤102∧∀ x,x ∈ l→fm x)→KK .ret e [] W:=by
  intro e b h2 hb; rw [←Jq,kC]; exact ⟨rfl,b,by rw [h2],hb⟩
 refine D8 (fun i e ds W'=>ds=[]∧W'=W∧e 0=.slice a l.length cap∧e 3=.int .i64 i∧∀ j x,j<i→l[j]?=some x→fm x) (min l.length 103) ⟨rfl,rfl,rfl,rfl,by omega⟩ ?_; rintro i e ds W' hi ⟨rfl,rfl,h0,h3,Bj⟩; rw [zC,h0,h3]; simp only [Ah kY,AA,A7]
 have E3:∀ e1:Env,e1 0=.slice a l.length cap→(l.length≤102→i=l.length)→(Rs none KK) .normal e1 [] W':=by
  intro e1 g0 G4
  have B6:l.length≤102→∀ x,x ∈ l→fm x:=fun h s hs=>by
   have:=G4 h; obtain ⟨j,hj,rfl⟩:=List.getElem_of_mem hs; exact Bj j _ (by omega) (List.getElem?_eq_getElem hj)
  simp only [Rs,B_,g0,Ah kY,AA,IY,CY]
  refine AP (fun iF=>?_) (fun iF=>?_)
  ·simp only [Rr,B_]; have:=of_decide_eq_true iF; exact H' _ true rfl fun _=>⟨by omega,B6 (by omega)⟩
  ·refine AP (fun AFd=>?_) (fun AFd=>?_)
   ·simp only [Rr,B_]; refine H' _ _ rfl fun hb=>?_; have:=of_decide_eq_true hb; exact ⟨by omega,B6 (by omega)⟩
   ·simp only [Rr,B_]; exact H' _ false rfl nofun
 refine G6 (fun Au=>?_) (fun Of=>?_)
 ·simp only [Yy,B_]; simp only [Ao,↓reduceIte]
  refine AP (fun pI=>?_) (fun pI=>?_)
  ·have pI:i<103:=by have:=of_decide_eq_true pI; omega
   have hx:=List.getElem?_eq_getElem Au; obtain ⟨p,rfl,hp⟩:=hc i _ hx; obtain ⟨vf,hvf,hf⟩:=hp.fields; obtain ⟨af,cf,rfl,hfc⟩:=hf; obtain ⟨ab,lb,cb,V'⟩:=hp.binds; have q9:ld prog 9 (.pointer (some ⟨p.block,p.off+i*5,none⟩)) W'=some (.string l[i].name):=AB a9 (a:=⟨p.block,p.off+i*5,none⟩) hp.name; have q9':ld prog 9 (.pointer (some ⟨p.block,p.off+i*5+1,none⟩)) W'=some (.string l[i].By):=AB a9 (a:=⟨p.block,p.off+i*5+1,none⟩) hp.By; have q45:ld prog 45 (.pointer (some ⟨p.block,p.off+i*5+2,none⟩)) W'=some (.slice af l[i].fields.length cf):=AB a45 (a:=⟨p.block,p.off+i*5+2,none⟩) hvf; have q46:ld prog 46 (.pointer (some ⟨p.block,p.off+i*5+4,none⟩)) W'=some (.slice ab lb cb):=AB a46 (a:=⟨p.block,p.off+i*5+4,none⟩) V'; obtain ⟨eb,heb⟩:=u46; simp only [Ru,B_]; simp only [Ao,BC,Nat.reduceEqDiff,↓reduceIte,h0,h3]; rw [A8 kY gi Au]; simp only [AA,PG,YY,PH,sr,q9,q9',q45,q46,KQ u9,Ah tY,Ah heb,CY]
   have fin:∀ (e1:Env) (b:Bool),e1 48=.bool b→e1 0=.slice (some p) l.length cap→e1 3=.int .i64 i→(b=false→l[i].name.size≤70∧l[i].By.size≤70∧l[i].fields.length≤24)→(Rt none (KY (fun i e ds gv=>ds=[]∧gv=W'∧e 0=.slice (some p) l.length cap∧e 3=.int .i64 i∧∀ j x,j<i→l[j]?=some x→fm x) i (min l.length 103) (Bm 0 (Rs none KK)))) .normal e1 [] W':=by
    intro e1 b h48 g0 g3 hb; simp only [Rt,B_,h48]
    refine AP (fun nu=>?_) (fun sA=>?_)
    ·simp only [VM,VL,Lm,Sz,HB,Vb,Rs]; exact H' _ false rfl nofun
    ·obtain ⟨hn,rq,My⟩:=hb sA; simp only [VM,B_]; refine D8 (fun m e ds gv=>ds=[]∧gv=W'∧e 0=.slice (some p) l.length cap∧e 3=.int .i64 i∧e 4=.int .i64 m∧∀ j x,j<m→l[i].fields[j]?=some x→x.name.size≤70) l[i].fields.length ⟨rfl,rfl,by exact g0,by exact g3,rfl,by omega⟩ ?_; rintro m e2 ds2 W2 hm ⟨rfl,rfl,r0,r3,r4,SW⟩; rw [zD,r0,r3,r4,A8 kY gi Au]; simp only [AA,PH,q45,Ah tY,A7]
     refine G6 (fun zH=>?_) (fun AGi=>?_)
     ·have hxm:=List.getElem?_eq_getElem zH; obtain ⟨q,rfl,hq⟩:=hfc m _ hxm; rw [A8 tY s72 zH]; simp only [AA,Ya]; rw [AB a9 (a:=⟨q.block,q.off+m*2,none⟩) hq.name]; simp only [AA,KQ u9,CY]
      refine AP (fun h70=>?_) (fun h70=>?_)
      ·simp only [Yz,VL,Lm,Sz,HB,Vb,Rs]; exact H' _ false rfl nofun
      ·simp only [Yz,B_,HB]; simp only [Ao,BC,Nat.reduceEqDiff,↓reduceIte,r0,r3,r4,Az,AA]; refine ⟨zH,trivial,trivial,trivial,trivial,by rw [Du (by omega)],fun j x hj KW=>?_⟩
       rcases Nat.lt_succ_iff_lt_or_eq.1 hj with h2 | rfl
       ·exact SW j x h2 KW
       ·rw [hxm] at KW; cases KW; have:=of_decide_eq_false h70; omega
     ·simp only [B_,Va,wx,M6,HB,PJ,if_true,VL]; simp only [Ao,BC,Nat.reduceEqDiff,↓reduceIte,r0,r3,Az,AA]; refine ⟨by omega,trivial,trivial,trivial,by rw [Du (by omega)],fun j x hj KW=>?_⟩
      rcases Nat.lt_succ_iff_lt_or_eq.1 hj with h2 | rfl
      ·exact Bj j x h2 KW
      ·rw [hx] at KW; cases KW; refine ⟨hn,rq,My,fun f hf=>?_⟩; obtain ⟨j2,tJ,rfl⟩:=List.getElem_of_mem hf; exact SW j2 _ (by omega) (List.getElem?_eq_getElem tJ)
   refine AP (fun _=>fin _ true rfl (by exact h0) (by exact h3) nofun) (fun h1=>?_); refine AP (fun _=>fin _ true rfl (by exact h0) (by exact h3) nofun) (fun h2=>?_); refine AP (fun _=>fin _ true rfl (by exact h0) (by exact h3) nofun) (fun h4=>?_); refine fin _ _ rfl (by exact h0) (by exact h3) fun _=>?_; have h1:=of_decide_eq_false h1; have h2:=of_decide_eq_false h2; have h4:=of_decide_eq_false h4; exact ⟨by omega,by omega,by omega⟩
  ·have pI:¬i<103:=by have:=of_decide_eq_false pI; omega
   simp only [Ru,Va,M6,PJ,if_true]; exact E3 _ h0 (by omega)
 ·simp only [Yy,B_]; simp only [Ao,↓reduceIte,Ar]; simp only [Ru,Va,M6,PJ,if_true]; exact E3 _ h0 (by omega)
end Go.Ce
namespace Go.Ce
open Go Go.Proofs Go.Proofs.Tryz
def N3 (l:List Int):List UInt8:=l.map fun k=>UInt8.ofNat k.toNat
theorem Lq:∀ l:List Int,FG (BB l)=some (N3 l)
 | []=>rfl
 | a::l=>by
  have:=Lq l; unfold BB N3 at this ⊢; simp only [List.map_cons,FG,this]
theorem ss {W:CW} {v:Value} {l:List Int} (h:DU W 5 1 v (BB l)):qo prog 29 9 v W=some (.string ⟨(N3 l).toArray⟩):=by
 have h5:prog.underlying 5=some (.int .u8):=by kernel_rfl
 unfold qo; rw [RD,u9]; have gL:=ET l; have hcb:=Lq l; generalize BB l=cs at h gL hcb
 cases h with
 | nil =>
  simp only [dE,h5,EI,CV]; rw [show FG []=some (N3 l) from hcb]
 | @some b len _ hB hl =>
  obtain ⟨c,n,z,ho,hn,hc⟩:=hB; have Jz:len=cs.length:=by omega
  have hf:EI (some ⟨b,0,none⟩) len W=some cs:=by
   simp only [EI,ho]
   cases hz:Nat.beq len 0 with
   | true =>
    have:=Nat.eq_of_beq_eq_true hz; have:cs=[]:=List.length_eq_zero_iff.1 (by omega); subst this; rfl
   | false =>
    have eT:Nat.ble (0+len) n=true:=Nat.ble_eq_true_of_le (by omega); simp only [cond_false,eT,cond_true]; rw [Jz,GW fun j v hj=>by rw [Nat.zero_add]; exact hc j v hj]
  simp only [dE,h5,hf,CV,hcb]
structure lN (W:CW) (v0 v1 v2:Value) (c:List Ad) (l:List Bc) (h:List BM):Prop where
 top:Al W
 cat:Ax 5 (Lu W) v0 c
 spc:Ax 3 (OM W) v1 l
 hp:Ax 2 (IZ W) v2 h
 hlm:h.length≤maxLen
theorem zI {c:List Ad} (h1:c.length≤102) (h2:∀ x,x ∈ c→fm x):OP c :=
 ⟨by omega,fun x hx=>by have:=(h2 x hx).2.2.1; omega,fun x hx=>by have:=(h2 x hx).1; omega,fun x hx=>by have:=(h2 x hx).2.1; omega,fun x hx f hf=>by have:=(h2 x hx).2.2.2 f hf; omega⟩
theorem iO:Bt AV 16=true:=by kernel_rfl
theorem Y3:Bt AV (16+2000000)=true:=by kernel_rfl
def pJ:Ending→CW→Prop:=fun e _=>e=.returned (.bool true)
end Go.Ce
namespace Go.Ce
open Go Go.Proofs Go.Proofs.Tryz
theorem fg.is {W:CW} {v:Value} {b:List UInt8} (h:fg W v b):Ax 1 (KR W) v b:=by
 obtain ⟨a,cap,rfl,_,hc⟩:=h.sl; exact ⟨a,cap,rfl,hc⟩
theorem pK (b:List UInt8):N3 (bI b)=b:=by
 unfold N3 bI; rw [List.map_map]
 have:((fun k:Int=>UInt8.ofNat k.toNat) ∘ fun x:UInt8=>((x.toNat:Nat):Int))=id:=by
  funext x; simp
 rw [this,List.map_id]
theorem zJ (a b d:Value):ext (.tuple #[a,b,d]) 0=some a:=rfl
theorem zK (a b d:Value):ext (.tuple #[a,b,d]) 1=some b:=rfl
theorem zM (a b d:Value):ext (.tuple #[a,b,d]) 2=some d:=rfl
end Go.Ce
namespace Go.Ce
open Go Go.Proofs Go.Proofs.Tryz
def cG (l:List Int):Prop:=∀ x,x ∈ l→0≤x∧x<256
theorem cG.app {a b:List Int} (h:cG a) (g:cG b):cG (a++b):=fun x hx=>(List.mem_append.1 hx).elim (h x) (g x)
theorem cG.flat {α:Type} {f:α→List Int} {l:List α} (h:∀ x,x ∈ l→cG (f x)):cG (l.flatMap f):=fun x hx=>by
 obtain ⟨y,hy,hx⟩:=List.mem_flatMap.1 hx; exact h y hy x hx
theorem NI (n:Nat):cG (B0 n):=by
 induction n using Nat.strongRecOn with
 | ind n ih =>
  unfold B0
  split
  ·intro x hx; rw [List.mem_singleton.1 hx]; omega
  ·intro x hx
   rcases List.mem_cons.1 hx with rfl | hx
   ·omega
   ·exact ih (n / 128) (by omega) x hx
theorem zN (b:List UInt8):cG (bI b):=fun x hx=>by
 obtain ⟨y,_,rfl⟩:=List.mem_map.1 hx; have:=y.toNat_lt; omega
theorem cH (c:List Ad) (ix:Nat):∀ (vs:List Int) (k:Nat),cG (RX c ix k vs)
 | [],_=>fun x hx=>by cases hx
 | v::vs,k=>by
  rw [RX]; refine cG.app ?_ (cH c ix vs _); split <;> exact NI _
theorem kF (c:List Ad) (ts:List ByteArray) (x:BM):cG (Mp c ts x):=by
 unfold Mp
 split
 ·refine ((NI _).app ?_).app (cH _ _ _ _)
  split
  ·exact NI _
  ·intro x hx; cases hx
 ·intro x hx; cases hx
theorem su (c:List Ad) (ts:List ByteArray) (xs:List BM):cG (Ju c ts xs):=by
 unfold Ju
 refine ((((?_:cG [1]).app (NI _)).app (cG.flat fun s _=>?_)).app (NI _)).app (cG.flat fun x _=>kF _ _ _)
 ·intro x hx; rw [List.mem_singleton.1 hx]; omega
 ·exact (NI _).app (zN _)
theorem pL {l:List Int} (h:cG l):bI (N3 l)=l:=by
 unfold bI N3; rw [List.map_map]
 have:l.map ((fun x:UInt8=>((x.toNat:Nat):Int)) ∘ fun k:Int=>UInt8.ofNat k.toNat)=l.map id:=by
  refine List.map_congr_left fun x hx=>?_; have hb:=h x hx; show ((UInt8.ofNat x.toNat).toNat:Int)=x; rw [UInt8.toNat_ofNat_of_lt' (by show x.toNat<256; omega)]; omega
 rw [this,List.map_id]
theorem kG (b:List UInt8) (j:Nat):(BB (bI b))[j]?=(b[j]?).map fun x=>Value.int .u8 ((x.toNat:Nat):Int):=by
 unfold BB bI; rw [List.map_map,List.getElem?_map]; rfl
theorem zO {W:CW} {v:Value} {b:List UInt8} (h:DU W 5 1 v (BB (bI b))):fg W v b:=by
 have hl:=ET (bI b); rw [Jt] at hl; have hg:=kG b; generalize BB (bI b)=cs at h hl hg
 cases h with
 | nil =>
  have:b=[]:=List.length_eq_zero_iff.1 (by simpa using hl.symm); subst this; exact ⟨none,0,rfl,Nat.le_refl _,fun i x hx=>by cases hx⟩
 | @some b0 len _ hB Mz =>
  have:len=b.length:=by omega
  subst this; refine ⟨some ⟨b0,0,none⟩,b.length,rfl,Nat.le_refl _,fun i x hx=>⟨_,rfl,?_⟩⟩; show W.cell b0 (0+i*1)=_; rw [show 0+i*1=i by omega]; exact hB.cell (by rw [hg,hx]; rfl)
theorem zP (W:CW):V3 prog 29 0 [] W=some (.slice (some ⟨W.sz,0,none⟩) 0 0,W.new (.cells (Tr.nil.Ag 0 []) 0 #[] 5)):=by kernel_rfl
structure uY (c:List Ad) (l:List Bc) (h:List BM) (root:Int) (b:List UInt8) (ts:List ByteArray) (xs:List BM):Prop where
 wr:Dg c l h root=(bI b,0)
 ok:BL c=true
 sp:BG c l=true
 can:Canon c (I_ c l) ts xs
 enc:bI b=Ju c ts xs
theorem pM {c:List Ad} {l:List Bc} {h:List BM} {root:Int} (hz:I1 c l h root=0) (Yu:h.length≤40) (hw:Dg c l h root=(Ei c l h (Ab c l h root),0)):∃ b,uY c l h root b (DD l (AN h (Ab c l h root))) (Db c l h (Ab c l h root)):=by
 obtain ⟨Ac,hs,_⟩:=FN hz; obtain ⟨h1,h2,_⟩:=Jb hz Yu; have hb:bI (N3 (Ei c l h (Ab c l h root)))=Ei c l h (Ab c l h root):=pL (by rw [h2]; exact su _ _ _); exact ⟨N3 (Ei c l h (Ab c l h root)),by rw [hw,hb],Ac,hs,h1,by rw [hb,h2]⟩
end Go.Ce
namespace Go.Ce
open Go Go.Proofs Go.Proofs.Tryz
theorem cI {v:Int} (hv:0<v):∀ (vs o:List Int),v ∈ vs∨v ∈ o→v ∈ vs.foldl visit o
 | [],o,h=>h.elim (fun h=>by cases h) id
 | u::vs,o,h=>by
  refine cI hv vs _ ?_
  rcases h with h | h
  ·rcases List.mem_cons.1 h with rfl | h
   ·right; unfold visit
    by_cases hm:v ∈ o
    ·rw [if_neg (fun q=>q.2 hm)]; exact hm
    ·rw [if_pos ⟨hv,hm⟩]; simp
   ·exact .inl h
  ·exact .inr ((XX o u).subset h)
theorem VO {g:Nat→Int→List Int} {u:Int}:∀ (vs:List Int) (k j:Nat) (v:Int),vs[j]?=some v→u ∈ g (k+j) v→u ∈ C4 g k vs
 | [],k,j,v,h,_=>by simp at h
 | w::vs,k,0,v,h,hu=>by cases h; rw [C4]; exact List.mem_append_left _ hu
 | w::vs,k,j+1,v,h,hu=>by
  rw [C4]; exact List.mem_append_right _ (VO vs (k+1) j v h (by rw [show k+1+j=k+(j+1) by omega]; exact hu))
end Go.Ce
namespace Go.Ce
open Go Go.Proofs Go.Proofs.Tryz
def Y4 (ro:Option Nat) (K:AG):AG:=Aw (fun e ds W=>wV (CE prog 4 (e 10) (.bool true) W) fun p8=>wV (CE prog 30 (e 11) (.int .i64 0) p8) fun jK=>K .ret e ds jK) K
theorem AC4 (v0 v1 v2 v3 v4:Value) (K:AG) (W:CW):AK prog AV none 20 147 (AM prog 20) (Env.args [v0,v1,v2,v3,v4]) [] W K=(Bw (F5 prog 4 W) fun v10 W0=>Bw (F5 prog 30 W0) fun v11 W1=>AF prog AV 49 [v0,v1,v2] W1 (AT (fun D' W2=>wV (ext D' 0) fun v30=>wV (ext D' 1) fun EA=>Bw (F5 prog 78 W2) fun BR W4=>wV (CE prog 78 BR v30 W4) fun W5=>wV (AU prog .neq 30 true EA (.int .i64 0)) fun EW=>wI EW (wV (CE prog 4 v10 (.bool false) W5) fun W6=>wV (CE prog 30 v11 EA W6) fun W7=>K .ret (Env.of (Env.args [v0,v1,v2,v3,v4]) [(34,EA),(33,EW),(32,EA),(13,EA),(12,BR),(31,EA),(30,v30),(25,D'),(29,D'),(28,v2),(27,v1),(26,v0),(11,v11),(10,v10)]) [] W7) (AF prog AV 49 [v0,v3,v4] W5 (AT (fun JO W8=>wV (ext JO 0) fun FZ=>wV (ext JO 1) fun FL=>Bw (F5 prog 78 W8) fun Bk QG=>wV (CE prog 78 Bk FZ QG) fun Dd=>wV (AU prog .neq 30 true FL (.int .i64 0)) fun FE=>wI FE (wV (CE prog 4 v10 (.bool false) Dd) fun H0=>wV (CE prog 30 v11 FL H0) fun Iw=>K .ret (Env.of (Env.args [v0,v1,v2,v3,v4]) [(44,FL),(43,FE),(42,FL),(15,FL),(14,Bk),(41,FL),(40,FZ),(35,JO),(39,JO),(38,v4),(37,v3),(36,v0),(33,EW),(32,EA),(13,EA),(12,BR),(31,EA),(30,v30),(25,D'),(29,D'),(28,v2),(27,v1),(26,v0),(11,v11),(10,v10)]) [] Iw) (wV (ld prog 78 BR ((Dd.new (.cells .nil 1 #[.pointer none] 89)).new (.cells .nil 1 #[.pointer none] 89))) fun FT=>wV (QF prog 131 [(0,FT),(1,v1)]) fun IU=>AF prog AV 78 [IU,v2] ((Dd.new (.cells .nil 1 #[.pointer none] 89)).new (.cells .nil 1 #[.pointer none] 89)) (AT (fun Ix MR=>wV (ld prog 78 BR MR) fun Hr=>wV (QF prog 131 [(0,Hr),(1,v3)]) fun Ls=>AF prog AV 78 [Ls,v4] MR (AT (fun F7 CQ=>true=true∧true=true∧wV (CE prog 89 (.pointer (some ⟨Dd.sz,0,none⟩)) Ix CQ) fun L5=>wV (CE prog 89 (.pointer (some ⟨(Dd.new (.cells .nil 1 #[.pointer none] 89)).sz,0,none⟩)) F7 L5) fun J6=>(((True)∧((True)∧((True)∧((ld prog 78 BR MR=some Hr)∧ld prog 78 BR ((Dd.new (.cells .nil 1 #[.pointer none] 89)).new (.cells .nil 1 #[.pointer none] 89))=some Hr))))∧(((True)∧((True)∧((True)∧((True)∧ld prog 78 BR ((Dd.new (.cells .nil 1 #[.pointer none] 89)).new (.cells .nil 1 #[.pointer none] 89))=some FT))))∧True))∧(((True)∧((True)∧((G5 (.pointer (some ⟨Dd.sz,0,none⟩)) ((Dd.new (.cells .nil 1 #[.pointer none] 89)).obj Dd.sz) CQ=true)∧((G5 (.pointer (some ⟨Dd.sz,0,none⟩)) ((Dd.new (.cells .nil 1 #[.pointer none] 89)).obj Dd.sz) MR=true)∧G5 (.pointer (some ⟨Dd.sz,0,none⟩)) ((Dd.new (.cells .nil 1 #[.pointer none] 89)).obj Dd.sz) ((Dd.new (.cells .nil 1 #[.pointer none] 89)).new (.cells .nil 1 #[.pointer none] 89))=true))))∧(((True)∧((True)∧((G5 (.pointer (some ⟨(Dd.new (.cells .nil 1 #[.pointer none] 89)).sz,0,none⟩)) (((Dd.new (.cells .nil 1 #[.pointer none] 89)).new (.cells .nil 1 #[.pointer none] 89)).obj (Dd.new (.cells .nil 1 #[.pointer none] 89)).sz) CQ=true)∧((G5 (.pointer (some ⟨(Dd.new (.cells .nil 1 #[.pointer none] 89)).sz,0,none⟩)) (((Dd.new (.cells .nil 1 #[.pointer none] 89)).new (.cells .nil 1 #[.pointer none] 89)).obj (Dd.new (.cells .nil 1 #[.pointer none] 89)).sz) MR=true)∧G5 (.pointer (some ⟨(Dd.new (.cells .nil 1 #[.pointer none] 89)).sz,0,none⟩)) (((Dd.new (.cells .nil 1 #[.pointer none] 89)).new (.cells .nil 1 #[.pointer none] 89)).obj (Dd.new (.cells .nil 1 #[.pointer none] 89)).sz) ((Dd.new (.cells .nil 1 #[.pointer none] 89)).new (.cells .nil 1 #[.pointer none] 89))=true))))∧True))∧wV (ld prog 89 (.pointer (some ⟨Dd.sz,0,none⟩)) J6) fun Ns=>wV (IM Ns) fun FU=>wV (A0 prog 100 FU 0) fun SP=>wV (ld prog 40 SP J6) fun Hq=>wV (Aj prog 40 Hq J6) fun Fx=>wV (ld prog 89 (.pointer (some ⟨(Dd.new (.cells .nil 1 #[.pointer none] 89)).sz,0,none⟩)) J6) fun E_=>wV (IM E_) fun FR=>wV (A0 prog 100 FR 0) fun aC=>wV (ld prog 40 aC J6) fun PC=>wV (Aj prog 40 PC J6) fun K2=>wV (AU prog .neq 3 false Fx K2) fun Ll=>(Aj prog 40 PC J6=some K2∧(ld prog 40 aC J6=some PC∧(ld prog 89 (.pointer (some ⟨(Dd.new (.cells .nil 1 #[.pointer none] 89)).sz,0,none⟩)) J6=some E_∧(Aj prog 40 Hq J6=some Fx∧(ld prog 40 SP J6=some Hq∧(ld prog 89 (.pointer (some ⟨Dd.sz,0,none⟩)) J6=some Ns∧True))))))∧True∧wI Ll (wV (CE prog 4 v10 (.bool false) J6) fun QH=>wV (CE prog 30 v11 (.int .i64 0) QH) fun k_=>K .ret (Env.of (Env.args [v0,v1,v2,v3,v4]) [(65,Ll),(64,K2),(63,PC),(62,aC),(61,FR),(60,E_),(59,Fx),(58,Hq),(57,SP),(56,FU),(55,Ns),(17,(.pointer (some ⟨(Dd.new (.cells .nil 1 #[.pointer none] 89)).sz,0,none⟩))),(16,(.pointer (some ⟨Dd.sz,0,none⟩))),(54,F7),(53,v4),(52,Ls),(51,v3),(50,Hr),(49,Ix),(48,v2),(47,IU),(46,v1),(45,FT),(43,FE),(42,FL),(15,FL),(14,Bk),(41,FL),(40,FZ),(35,JO),(39,JO),(38,v4),(37,v3),(36,v0),(33,EW),(32,EA),(13,EA),(12,BR),(31,EA),(30,v30),(25,D'),(29,D'),(28,v2),(27,v1),(26,v0),(11,v11),(10,v10)]) [] k_) (wV (ld prog 89 (.pointer (some ⟨Dd.sz,0,none⟩)) J6) fun LO=>wV (IM LO) fun J4=>wV (A0 prog 100 J4 0) fun J5=>wV (ld prog 40 J5 J6) fun HP=>wV (Aj prog 40 HP J6) fun UY=>C6 prog AV none 20 147 (.loop (Ae prog 20 0)) (Env.of (Env.args [v0,v1,v2,v3,v4]) [(71,(.int .i64 0)),(70,UY),(69,HP),(68,J5),(67,J4),(66,LO),(65,Ll),(64,K2),(63,PC),(62,aC),(61,FR),(60,E_),(59,Fx),(58,Hq),(57,SP),(56,FU),(55,Ns),(17,(.pointer (some ⟨(Dd.new (.cells .nil 1 #[.pointer none] 89)).sz,0,none⟩))),(16,(.pointer (some ⟨Dd.sz,0,none⟩))),(54,F7),(53,v4),(52,Ls),(51,v3),(50,Hr),(49,Ix),(48,v2),(47,IU),(46,v1),(45,FT),(43,FE),(42,FL),(15,FL),(14,Bk),(41,FL),(40,FZ),(35,JO),(39,JO),(38,v4),(37,v3),(36,v0),(33,EW),(32,EA),(13,EA),(12,BR),(31,EA),(30,v30),(25,D'),(29,D'),(28,v2),(27,v1),(26,v0),(11,v11),(10,v10)]) [] J6 (Bm 0 (Y4 none K)))) (fun AAu NQ=>False))) (fun AGj Og=>False)))) (fun mj W9=>K (.panic mj) (Env.of (Env.args [v0,v1,v2,v3,v4]) [(38,v4),(37,v3),(36,v0),(33,EW),(32,EA),(13,EA),(12,BR),(31,EA),(30,v30),(25,D'),(29,D'),(28,v2),(27,v1),(26,v0),(11,v11),(10,v10)]) [] W9)))) (fun Wo W3=>K (.panic Wo) (Env.of (Env.args [v0,v1,v2,v3,v4]) [(28,v2),(27,v1),(26,v0),(11,v11),(10,v10)]) [] W3))):=by kernel_rfl
def NJ (ro:Option Nat) (K:AG):AG:=Aw (fun e ds W=>wV (AU prog .add 3 true (e 71) (.int .i64 1)) fun nO=>K .normal (Env.of e [(71,nO),(146,nO)]) ds W) K
def NK (ro:Option Nat) (K:AG):AG:=Aw (fun e ds W=>wV (ld prog 78 (e 12) W) fun LH=>wV (ld prog 56 (e 20) W) fun LI=>AF prog AV 62 [LH,LI] W (AT (fun LJ W28=>C6 prog AV ro 20 147 (.rangeFunc (.tmp 108) #[109,110] (AS prog 20 0) (AQ prog 20 0)) (Env.of e [(108,LJ),(107,LI),(106,LH)]) ds W28 (Bm 2 (Bm 1 (NJ ro K)))) (fun vu gb=>(NJ ro K) (.panic vu) (Env.of e [(107,LI),(106,LH)]) ds gb))) (Bm 1 (NJ ro K))
def Tn (ro:Option Nat) (K:AG):AG:=Aw (fun e ds W=>wI (e 105) (wV (CE prog 4 (e 10) (.bool false) W) fun Q6=>wV (CE prog 30 (e 11) (.int .i64 0) Q6) fun wD=>(NK ro K) .ret e ds wD) ((NK ro K) .normal e ds W)) (NK ro K)
theorem zQ (ro:Option Nat) (e:Env) (ds:List Deferred) (K:AG) (W:CW):AK prog AV ro 20 147 (Ae prog 20 0) e ds W K=(wV (AU prog .lss 3 false (e 71) (e 70)) fun RA=>wI RA (wV (EV prog 40 (e 69) (e 71)) fun PA=>wV (ld prog 3 PA W) fun HQ=>wV (AU prog .sub 3 true HQ (.int .i64 1)) fun eP=>wV (EV prog 24 (e 1) eP) fun Nt=>wV (ld prog 56 Nt ((W.new (.cells .nil 2 #[.string ⟨#[]⟩,.slice none 0 0] 56)).new (.cells .nil 2 #[.string ⟨#[]⟩,.slice none 0 0] 56))) fun JN=>wV (ld prog 89 (e 17) ((W.new (.cells .nil 2 #[.string ⟨#[]⟩,.slice none 0 0] 56)).new (.cells .nil 2 #[.string ⟨#[]⟩,.slice none 0 0] 56))) fun Ws=>wV (IM Ws) fun eI=>wV (A0 prog 100 eI 0) fun L4=>wV (ld prog 40 L4 ((W.new (.cells .nil 2 #[.string ⟨#[]⟩,.slice none 0 0] 56)).new (.cells .nil 2 #[.string ⟨#[]⟩,.slice none 0 0] 56))) fun QI=>wV (EV prog 40 QI (e 71)) fun VZ=>wV (ld prog 3 VZ ((W.new (.cells .nil 2 #[.string ⟨#[]⟩,.slice none 0 0] 56)).new (.cells .nil 2 #[.string ⟨#[]⟩,.slice none 0 0] 56))) fun Q2=>wV (AU prog .sub 3 true Q2 (.int .i64 1)) fun XA=>wV (EV prog 24 (e 3) XA) fun OH=>wV (ld prog 56 OH ((W.new (.cells .nil 2 #[.string ⟨#[]⟩,.slice none 0 0] 56)).new (.cells .nil 2 #[.string ⟨#[]⟩,.slice none 0 0] 56))) fun Nr=>true=true∧true=true∧wV (CE prog 56 (.pointer (some ⟨W.sz,0,none⟩)) JN ((W.new (.cells .nil 2 #[.string ⟨#[]⟩,.slice none 0 0] 56)).new (.cells .nil 2 #[.string ⟨#[]⟩,.slice none 0 0] 56))) fun cn=>wV (CE prog 56 (.pointer (some ⟨(W.new (.cells .nil 2 #[.string ⟨#[]⟩,.slice none 0 0] 56)).sz,0,none⟩)) Nr cn) fun VX=>(((True)∧((ld prog 56 OH cn=some Nr)∧ld prog 56 OH ((W.new (.cells .nil 2 #[.string ⟨#[]⟩,.slice none 0 0] 56)).new (.cells .nil 2 #[.string ⟨#[]⟩,.slice none 0 0] 56))=some Nr))∧(((True)∧((ld prog 3 VZ cn=some Q2)∧ld prog 3 VZ ((W.new (.cells .nil 2 #[.string ⟨#[]⟩,.slice none 0 0] 56)).new (.cells .nil 2 #[.string ⟨#[]⟩,.slice none 0 0] 56))=some Q2))∧(((True)∧((ld prog 40 L4 cn=some QI)∧ld prog 40 L4 ((W.new (.cells .nil 2 #[.string ⟨#[]⟩,.slice none 0 0] 56)).new (.cells .nil 2 #[.string ⟨#[]⟩,.slice none 0 0] 56))=some QI))∧(((True)∧((ld prog 89 (e 17) cn=some Ws)∧ld prog 89 (e 17) ((W.new (.cells .nil 2 #[.string ⟨#[]⟩,.slice none 0 0] 56)).new (.cells .nil 2 #[.string ⟨#[]⟩,.slice none 0 0] 56))=some Ws))∧(((True)∧((True)∧ld prog 56 Nt ((W.new (.cells .nil 2 #[.string ⟨#[]⟩,.slice none 0 0] 56)).new (.cells .nil 2 #[.string ⟨#[]⟩,.slice none 0 0] 56))=some JN))∧True)))))∧(((True)∧((True)∧G5 (.pointer (some ⟨W.sz,0,none⟩)) ((W.new (.cells .nil 2 #[.string ⟨#[]⟩,.slice none 0 0] 56)).obj W.sz) ((W.new (.cells .nil 2 #[.string ⟨#[]⟩,.slice none 0 0] 56)).new (.cells .nil 2 #[.string ⟨#[]⟩,.slice none 0 0] 56))=true))∧(((True)∧((True)∧G5 (.pointer (some ⟨(W.new (.cells .nil 2 #[.string ⟨#[]⟩,.slice none 0 0] 56)).sz,0,none⟩)) (((W.new (.cells .nil 2 #[.string ⟨#[]⟩,.slice none 0 0] 56)).new (.cells .nil 2 #[.string ⟨#[]⟩,.slice none 0 0] 56)).obj (W.new (.cells .nil 2 #[.string ⟨#[]⟩,.slice none 0 0] 56)).sz) ((W.new (.cells .nil 2 #[.string ⟨#[]⟩,.slice none 0 0] 56)).new (.cells .nil 2 #[.string ⟨#[]⟩,.slice none 0 0] 56))=true))∧True))∧wV (A0 prog 56 (.pointer (some ⟨W.sz,0,none⟩)) 0) fun V6=>wV (ld prog 9 V6 VX) fun Sx=>wV (A0 prog 56 (.pointer (some ⟨(W.new (.cells .nil 2 #[.string ⟨#[]⟩,.slice none 0 0] 56)).sz,0,none⟩)) 0) fun YQ=>wV (ld prog 9 YQ VX) fun TG=>wV (AU prog .neq 9 false Sx TG) fun TH=>wI TH ((Tn ro K) .normal (Env.of e [(105,(.bool true)),(104,undef),(97,(.bool true)),(103,undef),(97,(.bool true)),(102,undef),(97,(.bool true)),(101,undef),(97,(.bool true)),(100,undef),(97,(.bool true)),(99,undef),(97,(.bool true)),(98,undef),(97,(.bool true)),(97,TH),(96,TH),(95,TG),(94,YQ),(93,Sx),(92,V6),(21,(.pointer (some ⟨(W.new (.cells .nil 2 #[.string ⟨#[]⟩,.slice none 0 0] 56)).sz,0,none⟩))),(20,(.pointer (some ⟨W.sz,0,none⟩))),(91,Nr),(90,OH),(89,XA),(88,Q2),(87,VZ),(86,(e 71)),(85,QI),(84,L4),(83,eI),(82,Ws),(81,(e 3)),(80,JN),(79,Nt),(78,eP),(77,HQ),(76,(e 1)),(19,HQ),(18,(e 71)),(75,HQ),(74,PA),(73,(e 71)),(72,RA)]) ds VX) (wV (A0 prog 56 (.pointer (some ⟨W.sz,0,none⟩)) 1) fun Z'=>wV (ld prog 40 Z' VX) fun cq=>wV (Aj prog 40 cq VX) fun Lt=>wV (A0 prog 56 (.pointer (some ⟨(W.new (.cells .nil 2 #[.string ⟨#[]⟩,.slice none 0 0] 56)).sz,0,none⟩)) 1) fun RL=>wV (ld prog 40 RL VX) fun MU=>wV (Aj prog 40 MU VX) fun Gt=>wV (AU prog .neq 3 false Lt Gt) fun NO=>(Tn ro K) .normal (Env.of e [(105,NO),(104,NO),(97,(.bool false)),(103,Gt),(97,(.bool false)),(102,MU),(97,(.bool false)),(101,RL),(97,(.bool false)),(100,Lt),(97,(.bool false)),(99,cq),(97,(.bool false)),(98,Z'),(97,(.bool false)),(97,TH),(96,TH),(95,TG),(94,YQ),(93,Sx),(92,V6),(21,(.pointer (some ⟨(W.new (.cells .nil 2 #[.string ⟨#[]⟩,.slice none 0 0] 56)).sz,0,none⟩))),(20,(.pointer (some ⟨W.sz,0,none⟩))),(91,Nr),(90,OH),(89,XA),(88,Q2),(87,VZ),(86,(e 71)),(85,QI),(84,L4),(83,eI),(82,Ws),(81,(e 3)),(80,JN),(79,Nt),(78,eP),(77,HQ),(76,(e 1)),(19,HQ),(18,(e 71)),(75,HQ),(74,PA),(73,(e 71)),(72,RA)]) ds VX)) (K (.exit 0) (Env.of e [(72,RA)]) ds W)):=by kernel_rfl
theorem zR (ro:Option Nat) (e:Env) (ds:List Deferred) (K:AG) (W:CW):AK prog AV ro 20 147 (AS prog 20 0) e ds W K=(K .normal (Env.of e [(23,(e 110)),(22,(e 109))]) ds W):=by kernel_rfl
def To (ro:Option Nat) (K:AG):AG:=Aw (fun e ds W=>wV (ld prog 134 (e 24) W) fun aX=>wV (A0 prog 134 (e 24) 0) fun OG=>wV (ld prog 3 OG W) fun aY=>wV (A0 prog 134 (e 24) 0) fun eh=>wV (ld prog 3 eh W) fun zS=>wV (QF prog 134 [(0,aY),(1,zS)]) fun ek=>wV (AU prog .neq 134 false aX ek) fun eo=>wI eo (wV (CE prog 4 (e 10) (.bool false) W) fun W36=>wV (CE prog 30 (e 11) (.int .i64 0) W36) fun jO=>K .ret (Env.of e [(145,eo),(144,ek),(143,zS),(142,eh),(141,aY),(140,OG),(139,aX)]) ds jO) (K .normal (Env.of e [(145,eo),(144,ek),(143,zS),(142,eh),(141,aY),(140,OG),(139,aX)]) ds W)) (Bm 3 K)
theorem zU (ro:Option Nat) (e:Env) (ds:List Deferred) (K:AG) (W:CW):AK prog AV ro 20 147 (AQ prog 20 0) e ds W K=(wV (A0 prog 56 (e 20) 1) fun Ua=>wV (ld prog 40 Ua W) fun Jn=>wV (EV prog 40 Jn (e 22)) fun NS=>wV (ld prog 3 NS W) fun MT=>wV (A0 prog 56 (e 21) 1) fun KM=>wV (ld prog 40 KM W) fun Hz=>wV (EV prog 40 Hz (e 22)) fun KN=>wV (ld prog 3 KN W) fun UX=>wV (QF prog 134 [(0,MT),(1,UX)]) fun NP=>Bw (F5 prog 134 W) fun Eu eG=>wV (CE prog 134 Eu NP eG) fun Q_=>(((True)∧((ld prog 3 KN eG=some UX)∧ld prog 3 KN W=some UX))∧(((True)∧((ld prog 40 KM eG=some Hz)∧ld prog 40 KM W=some Hz))∧(((True)∧((ld prog 3 NS eG=some MT)∧ld prog 3 NS W=some MT))∧(((True)∧((ld prog 40 Ua eG=some Jn)∧ld prog 40 Ua W=some Jn))∧True))))∧True∧wV (AU prog .eql 5 true (e 23) (.int .u8 2)) fun IV=>wI IV (wV (ld prog 89 (e 16) Q_) fun Iy=>wV (IM Iy) fun n_=>wV (A0 prog 100 n_ 1) fun Jl=>wV (ld prog 98 Jl Q_) fun KI=>wV (A0 prog 134 Eu 0) fun jN=>wV (ld prog 3 jN Q_) fun OJ=>wV (GL prog 98 KI OJ false Q_) fun aA=>wV (ld prog 89 (e 17) Q_) fun NR=>wV (IM NR) fun m0=>wV (A0 prog 100 m0 1) fun aB=>wV (ld prog 98 aB Q_) fun Iv=>wV (A0 prog 134 Eu 1) fun KJ=>wV (ld prog 3 KJ Q_) fun Hw=>wV (GL prog 98 Iv Hw false Q_) fun OF=>wV (QF prog 134 [(0,aA),(1,OF)]) fun Sw=>wV (CE prog 134 Eu Sw Q_) fun W39=>(((True)∧GL prog 98 Iv Hw false Q_=some OF)∧(((True)∧ld prog 3 KJ Q_=some Hw)∧(((True)∧ld prog 98 aB Q_=some Iv)∧(((True)∧ld prog 89 (e 17) Q_=some NR)∧(((True)∧GL prog 98 KI OJ false Q_=some aA)∧(((True)∧ld prog 3 jN Q_=some OJ)∧(((True)∧ld prog 98 Jl Q_=some KI)∧(((True)∧ld prog 89 (e 16) Q_=some Iy)∧True))))))))∧True∧(To ro K) .normal (Env.of e [(138,Sw),(137,OF),(136,Hw),(135,KJ),(134,Iv),(133,aB),(132,m0),(131,NR),(130,aA),(129,OJ),(128,jN),(127,KI),(126,Jl),(125,n_),(124,Iy),(123,IV),(122,(e 23)),(24,Eu),(121,NP),(120,UX),(119,KN),(118,(e 22)),(117,Hz),(116,KM),(115,MT),(114,NS),(113,(e 22)),(112,Jn),(111,Ua)]) ds W39) ((To ro K) .normal (Env.of e [(123,IV),(122,(e 23)),(24,Eu),(121,NP),(120,UX),(119,KN),(118,(e 22)),(117,Hz),(116,KM),(115,MT),(114,NS),(113,(e 22)),(112,Jn),(111,Ua)]) ds Q_)):=by kernel_rfl
theorem AC5 {Q:Ending→CW→Prop} {v0 v1 v2 v3 v4:Value} {W:CW} (h:AK prog AV none 20 147 (AM prog 20) (Env.args [v0,v1,v2,v3,v4]) [] W (AI prog Tryz.f20 Q)):AF prog AV 20 [v0,v1,v2,v3,v4] W Q:=AX Tryz.func20 (by kernel_rfl) (by kernel_rfl) (by kernel_rfl) (by kernel_rfl) (by kernel_rfl) h
theorem AC6 (v0 v1:Value) (K:AG) (W:CW):AK prog AV none 27 22 (AM prog 27) (Env.args [v0,v1]) [] W K=(AF prog AV 47 [v0] W (AT (fun v11 W0=>wV (ext v11 0) fun BR=>wV (ext v11 1) fun DQ=>Bw (F5 prog 78 W0) fun v6 W2=>wV (CE prog 78 v6 BR W2) fun W3=>wV (KG DQ) fun DE=>wI DE (K .ret (Env.of (Env.args [v0,v1]) [(5,(.int .i64 210)),(4,(.int .i64 0)),(15,DE),(14,DQ),(7,DQ),(6,v6),(13,DQ),(12,BR),(9,v11),(11,v11),(10,v0),(5,(.int .i64 0)),(4,(.int .i64 0))]) [] W3) (wV (ld prog 78 v6 W3) fun DS=>AF prog AV 84 [DS,v1] W3 (AT (fun CP W4=>wV (AU prog .geq 3 true CP (.int .i64 0)) fun v20=>wI v20 (K .ret (Env.of (Env.args [v0,v1]) [(5,(.int .i64 211)),(4,CP),(21,CP),(20,v20),(19,CP),(8,CP),(18,CP),(17,v1),(16,DS),(15,DE),(14,DQ),(7,DQ),(6,v6),(13,DQ),(12,BR),(9,v11),(11,v11),(10,v0),(5,(.int .i64 0)),(4,(.int .i64 0))]) [] W4) (K .ret (Env.of (Env.args [v0,v1]) [(5,(.int .i64 0)),(4,(.int .i64 0)),(20,v20),(19,CP),(8,CP),(18,CP),(17,v1),(16,DS),(15,DE),(14,DQ),(7,DQ),(6,v6),(13,DQ),(12,BR),(9,v11),(11,v11),(10,v0),(5,(.int .i64 0)),(4,(.int .i64 0))]) [] W4)) (fun ml W5=>K (.panic ml) (Env.of (Env.args [v0,v1]) [(17,v1),(16,DS),(15,DE),(14,DQ),(7,DQ),(6,v6),(13,DQ),(12,BR),(9,v11),(11,v11),(10,v0),(5,(.int .i64 0)),(4,(.int .i64 0))]) [] W5)))) (fun L0 W1=>K (.panic L0) (Env.of (Env.args [v0,v1]) [(10,v0),(5,(.int .i64 0)),(4,(.int .i64 0))]) [] W1))):=by kernel_rfl
theorem R0 (Q:Ending→CW→Prop) (e:Env) (W:CW):AI prog Tryz.f27 Q .ret e [] W=Q (.returned (.tuple #[e 4,e 5])) W:=by kernel_rfl
theorem AC7 {Q:Ending→CW→Prop} {v0 v1:Value} {W:CW} (h:AK prog AV none 27 22 (AM prog 27) (Env.args [v0,v1]) [] W (AI prog Tryz.f27 Q)):AF prog AV 27 [v0,v1] W Q:=AX Tryz.func27 (by kernel_rfl) (by kernel_rfl) (by kernel_rfl) (by kernel_rfl) (by kernel_rfl) h
theorem AC8 (v0 v1:Value) (K:AG) (W:CW):AK prog AV none 78 8 (AM prog 78) (Env.args [v0,v1]) [] W K=(Bw (QE prog 131 v0 W) fun v2 W0=>wV (some (.func (.func 111) #[] #[v2])) fun v6=>AF prog AV 50 [v1,v6] W0 (AT (fun v7 W1=>K .ret (Env.of (Env.args [v0,v1]) [(4,v7),(7,v7),(6,v6),(5,v1),(4,(.pointer none)),(2,v2)]) [] W1) (fun m9 W2=>K (.panic m9) (Env.of (Env.args [v0,v1]) [(6,v6),(5,v1),(4,(.pointer none)),(2,v2)]) [] W2))):=by kernel_rfl
theorem kH (Q:Ending→CW→Prop) (e:Env) (W:CW):AI prog Tryz.f78 Q .ret e [] W=Q (.returned (e 4)) W:=by kernel_rfl
theorem AC9 {Q:Ending→CW→Prop} {v0 v1:Value} {W:CW} (h:AK prog AV none 78 8 (AM prog 78) (Env.args [v0,v1]) [] W (AI prog Tryz.f78 Q)):AF prog AV 78 [v0,v1] W Q:=AX Tryz.func78 (by kernel_rfl) (by kernel_rfl) (by kernel_rfl) (by kernel_rfl) (by kernel_rfl) h
theorem zV (v0 v1:Value) (K:AG) (W:CW):AK prog AV none 111 13 (AM prog 111) (Env.args [v0,v1]) [] W K=(wV (A0 prog 131 v1 0) fun v4=>wV (ld prog 78 v4 W) fun v5=>wV (A0 prog 131 v1 1) fun v6=>wV (ld prog 24 v6 W) fun v7=>wV (AU prog .sub 3 true v0 (.int .i64 1)) fun v9=>wV (EV prog 24 v7 v9) fun v10=>wV (ld prog 56 v10 W) fun v11=>AF prog AV 52 [v5,v11] W (AT (fun BR W0=>(((True)∧ld prog 56 v10 W=some v11)∧(((True)∧ld prog 24 v6 W=some v7)∧(((True)∧ld prog 78 v4 W=some v5)∧True)))∧True∧K .ret (Env.of (Env.args [v0,v1]) [(3,BR),(12,BR),(11,v11),(10,v10),(9,v9),(8,v0),(7,v7),(6,v6),(5,v5),(4,v4),(3,(.slice none 0 0))]) [] W0) (fun L0 W1=>False))):=by kernel_rfl
theorem fo (Q:Ending→CW→Prop) (e:Env) (W:CW):AI prog Tryz.f111 Q .ret e [] W=Q (.returned (e 3)) W:=by kernel_rfl
theorem zX {Q:Ending→CW→Prop} {v0 v1:Value} {W:CW} (h:AK prog AV none 111 13 (AM prog 111) (Env.args [v0,v1]) [] W (AI prog Tryz.f111 Q)):AF prog AV 111 [v0,v1] W Q:=AX Tryz.func111 (by kernel_rfl) (by kernel_rfl) (by kernel_rfl) (by kernel_rfl) (by kernel_rfl) h
end Go.Ce
namespace Go.Ce
open Go Go.Proofs Go.Proofs.Tryz
theorem AFe:DM prog 131=some 3:=by kernel_rfl
theorem pN (a:Addr):A0 prog 131 (.pointer (some a)) 0=some (.pointer (some ⟨a.block,a.off,none⟩)):=by kernel_rfl
theorem pO (a:Addr):A0 prog 131 (.pointer (some a)) 1=some (.pointer (some ⟨a.block,a.off+2,none⟩)):=by kernel_rfl
theorem cJ {P:Program} {fn:Func} {Q:Ending→CW→Prop} {e:Env} {W:CW} {s s':Tmp} {ty ty':TypeId} {p p':Addr} {v v':Value} (hr:fn.results.toList=[.cell s ty,.cell s' ty']) (he:e s=.pointer (some p)) (kh:e s'=.pointer (some p')) (hv:ld P ty (.pointer (some p)) W=some v) (Gw:ld P ty' (.pointer (some p')) W=some v') (hq:Q (.returned (.tuple #[v,v'])) W):AI P fn Q .ret e [] W:=by
 have hv:JB P ty p W=some v:=hv; have Gw:JB P ty' p' W=some v':=Gw; simp only [AI,CB,hr,IQ,jG,he,kh,hv,Gw]; exact hq
theorem fp {A:CW} (hA:Al A) {v1:Value} {h:List BM} (hh:Ax 2 (IZ A) v1 h) {i:Nat} {x:BM} (hx:h[i]?=some x):∃ a vx,EV prog 24 v1 (.int .i64 i)=some (.pointer (some a))∧(∀ W,Kp A W→ld prog 56 (.pointer (some a)) W=some (.agg #[.string x.type,vx]))∧Ax 1 (De A) vx x.AH:=by
 obtain ⟨ah,ch,rfl,oL⟩:=id hh; obtain ⟨p,rfl,hp⟩:=oL i _ hx; obtain ⟨v,h1,h2⟩:=hp.AH; refine ⟨_,v,A8 Vg Ia (List.getElem?_eq_some_iff.1 hx).1,fun W k=>?_,h2⟩; refine BO (vs:=[.string x.type,v]) (a:=⟨p.block,p.off+i*2,none⟩) YX Ia rfl (by omega) fun j w hj=>?_
 match j,hj with
 | 0,hj=>cases hj; exact k.cell hA hp.type
 | 1,hj=>cases hj; exact k.cell hA h1
theorem pP {A:CW} (hA:Al A) {vx:Value} {l:List Int} (hh:Ax 1 (De A) vx l) {i:Nat} {x:Int} (hx:l[i]?=some x):∃ a,EV prog 40 vx (.int .i64 i)=some (.pointer (some a))∧∀ W,Kp A W→ld prog 3 (.pointer (some a)) W=some (.int .i64 x):=by
 obtain ⟨ah,ch,rfl,oL⟩:=id hh; obtain ⟨p,rfl,hp⟩:=oL i _ hx; exact ⟨_,A8 H3 s3 (List.getElem?_eq_some_iff.1 hx).1,fun W k=>AB a3 (a:=⟨p.block,p.off+i*1,none⟩) (k.cell hA hp.1)⟩
theorem pQ {A:CW} (hA:Al A) {vx:Value} {l:List Int} (hh:DU A 3 1 vx (C7 l)) {i:Nat} {x:Int} (hx:l[i]?=some x):∃ a,EV prog 40 vx (.int .i64 i)=some (.pointer (some a))∧∀ W,Kp A W→ld prog 3 (.pointer (some a)) W=some (.int .i64 x):=by
 obtain ⟨ah,ch,rfl,oL⟩:=Hk (f:=fun k:Int=>Value.int .i64 k) hh; obtain ⟨p,rfl,hp⟩:=oL i _ hx; exact ⟨_,A8 H3 s3 (List.getElem?_eq_some_iff.1 hx).1,fun W k=>AB a3 (a:=⟨p.block,p.off+i*1,none⟩) (k.cell hA hp)⟩
theorem P' {c:List Ad}:BG c []=true:=rfl
theorem pR {c:List Ad} {h:List BM} (Ac:BL c=true) (HD:∀ x,x ∈ h→BF c x h.length=true) (n:Int):∀ r,r ∈ CS c [] h n→0≤r∧r≤h.length:=NH Ac P' HD
theorem XY {c:List Ad} {r1 r2:Nat} {h:List BM} {root:Int} {v1:Value} {W:CW} (ht:Al W) (EB:Dr W r1 r2 c) (Ac:BL c=true) (hC:OP c) (hh:Ax 2 (IZ W) v1 h) (HD:∀ x,x ∈ h→BF c x h.length=true) (re:h.length<100000) (hX:0≤root) (HZ:root≤h.length) :
  AF prog AV 78 [.agg #[.map (some r1),.map (some r2),v1],.int .i64 root] W (bK (Ab c [] h root) h.length W):=by
 refine AC9 ?_; rw [AC8]; obtain ⟨a,cap,rfl,_⟩:=id hh; refine Er AFe ht fun W0 k0 t0 z0 hB=>?_; have hB:As W0 W.sz 131 [.map (some r1),.map (some r2),.slice a h.length cap]:=hB; simp only [AA]
 refine (XN (refs:=CS c [] h) (N:=h.length) t0 hX HZ re (fun n _ _=>pR Ac HD n) (fun n=>bL hC P' HD n) (fun n W' k' t' SI Nb K KP hk=>?_)).mono fun en W1 ⟨k1,t1,bw,rp,vo,Ef,hw,h1,h2,h3,hF⟩=>?_
 ·refine GY Tryz.func111 (by kernel_rfl) ?_
  have key:AF prog AV 111 [.int .i64 n,.pointer (some ⟨W.sz,0,none⟩)] W' (fun en W2=>Kp W' W2∧Al W2∧∃ vr,en=.returned vr∧DU W2 3 1 vr (C7 (CS c [] h n))∧CC W'.sz vr):=by
   refine zX ?_; rw [zV]; have dC:=hB.ext t0 k'
   have l78:ld prog 78 (.pointer (some ⟨W.sz,0,none⟩)) W'=some (.agg [.map (some r1),.map (some r2)].toArray):=BO (vs:=[.map (some r1),.map (some r2)]) (a:=⟨W.sz,0,none⟩) lC NV rfl (by omega) fun j w hj=>by
    match j,hj with
    | 0,hj=>cases hj; exact dC.cell rfl
    | 1,hj=>cases hj; exact dC.cell rfl
   have jq:∀ W2,Kp W' W2→ld prog 24 (.pointer (some ⟨W.sz,0+2,none⟩)) W2=some (.slice a h.length cap):=fun W2 k2=>AB n9 (a:=⟨W.sz,0+2,none⟩) (k2.cell t' (dC.cell rfl))
   have AFf:∀ W2,Kp W' W2→ld prog 78 (.pointer (some ⟨W.sz,0,none⟩)) W2=some (.agg [.map (some r1),.map (some r2)].toArray):=fun W2 k2=>BO (vs:=[.map (some r1),.map (some r2)]) (a:=⟨W.sz,0,none⟩) lC NV rfl (by omega) fun j w hj=>by
    match j,hj with
    | 0,hj=>cases hj; exact k2.cell t' (dC.cell rfl)
    | 1,hj=>cases hj; exact k2.cell t' (dC.cell rfl)
   obtain ⟨i,hi⟩:∃ i:Nat,n=((i+1:Nat):Int):=⟨(n-1).toNat,by omega⟩
   subst hi; have G4:i<h.length:=by omega
   have hx:=List.getElem?_eq_getElem G4; have k0W:=k0.trans k'; obtain ⟨ad,vx,a1,a2,a3'⟩:=fp t' (hh.imp fun _ _ _ hr=>hr.kp ht k0W) hx; have NU:=HD _ (List.getElem_mem G4); generalize h[i]=x at hx a2 a3' NU; simp only [pN,pO,AA,l78,jq W' (.refl _),D7]; rw [show ((i+1:Nat):Int)-1=(i:Nat) by omega,wrap64 (by omega) (by omega),a1]; simp only [AA,a2 W' (.refl _)]; obtain ⟨iy,sy,Y⟩:=DK NU
   have cz:CS c [] h ((i+1:Nat):Int)=refsOf c x:=by
    unfold CS; rw [show (((i+1:Nat):Int)-1).toNat=i by omega,hx]; rfl
   have AEi:=PL hC Y.many; refine (hP t' (EB.kp ht k0W) Y.ti (fun he=>by rw [Gf Y.si he Y.many]; exact Nat.le_refl _) a3' (by omega)).mono fun en W2 ⟨k2,t2,vr,Ef,dr,sK⟩=>?_; subst Ef; refine AZ ?_; refine ⟨by simp only [a2 W2 k2,jq W2 k2,AFf W2 k2,and_self],trivial,?_⟩; rw [fo]; exact ⟨k2,t2,vr,rfl,by rw [cz]; exact dr,sK⟩
  refine key.mono fun en W2 ⟨k2,t2,vr,Ef,dr,sK⟩=>?_; subst Ef; exact hk vr W2 k2 t2 dr sK
 ·subst Ef; refine AZ ?_; rw [kH]; have hz:=k0.sz; exact ⟨k0.trans k1,t1,bw,rp,vo,rfl,hw,by omega,by omega,fun b l c e=>by have:=h3 b l c e; omega,hF⟩
end Go.Ce
namespace Go.Ce
open Go Go.Proofs Go.Proofs.Tryz
theorem N4 {α:Type} {p q:α→Bool}:∀ {l:List α},(∀ x,x ∈ l→p x=q x)→l.findIdx? p=l.findIdx? q
 | [],_=>rfl
 | x::l,h=>by rw [List.findIdx?_cons,List.findIdx?_cons,h x (by simp),N4 fun y hy=>h y (by simp [hy])]
theorem N5 {refs:Int→List Int} {N:Nat} (hr:∀ v w,w ∈ refs v→w≤N):∀ (m n:Nat) (o:List Int),Found o N→N≤n+m→∀ (j:Nat) v,n≤j→(Ap refs m o n)[j]?=some v→∀ r,r ∈ refs v→0<r→r ∈ Ap refs m o n
 | 0,n,o,hF,hN,j,v,hj,hv,r,_,_=>by
  have hv:o[j]?=some v:=hv; have h1:=hF.len; have h2:=(List.getElem?_eq_some_iff.1 hv).1; omega
 | m+1,n,o,hF,hN,j,v,hj,hv,r,pj,h0=>by
  cases I9:o[n]? with
  | none =>
   rw [Ap,I9] at hv; have h1:=List.getElem?_eq_none_iff.1 I9; have h2:=(List.getElem?_eq_some_iff.1 hv).1; have h2:j<o.length:=h2; omega
  | some w =>
   rw [Ap,I9] at hv ⊢; simp only at hv ⊢
   by_cases hjn:j=n
   ·subst hjn; have h1:=Tl ((P4 (refs w) o).trans (G7 refs m _ (j+1))) I9; rw [hv] at h1
    cases h1
    exact (G7 refs m _ _).subset (cI h0 _ _ (.inl pj))
   ·exact N5 hr m (n+1) _ (Lf _ _ hF fun w hw=>hr _ w hw) (by omega) j v (by omega) hv r pj h0
theorem Ms {refs:Int→List Int} {N:Nat} (hr:∀ v w,w ∈ refs v→w≤N):∀ (m m' n:Nat) (o:List Int),Found o N→N≤n+m→N≤n+m'→Ap refs m o n=Ap refs m' o n
 | 0,m',n,o,hF,h1,h2=>by
  have:=hF.len
  cases m' with
  | zero=>rfl
  | succ m'=>rw [Ap,Ap,List.getElem?_eq_none (by omega)]
 | m+1,m',n,o,hF,h1,h2=>by
  have:=hF.len
  cases I9:o[n]? with
  | none =>
   rw [Ap,I9]
   cases m' with
   | zero=>rfl
   | succ m'=>rw [Ap,I9]
  | some v =>
   have h3:=(List.getElem?_eq_some_iff.1 I9).1; obtain ⟨m',rfl⟩:∃ k,m'=k+1:=⟨m'-1,by omega⟩
   rw [Ap,Ap,I9]; exact Ms hr m m' (n+1) _ (Lf _ _ hF fun w hw=>hr _ w hw) (by omega) (by omega)
def fq (c:List Ad) (O M:List Int) (p q:BM):Prop:=p.type=q.type∧p.AH.length=q.AH.length∧∀ (k ix:Nat) x y,A_ c p.type=some ix→p.AH[k]?=some x→q.AH[k]?=some y→if A6 c ix k=2 then placeOf O x=placeOf M y else x=y
def Ob (c:List Ad) (h:List BM) (O:List Int) (k:List BM) (M:List Int):Prop:=O.length=M.length∧∀ (i:Nat) v w p q,O[i]?=some v→M[i]?=some w→h[(v-1).toNat]?=some p→k[(w-1).toNat]?=some q→fq c O M p q
structure cK (c:List Ad) (A B:List BM) (f:Int→Int) (S:Int→Prop):Prop where
 z:f 0=0
 low:∀ v,S v→0<v
 pos:∀ v,S v→0<f v
 inj:∀ v w,S v→S w→f v=f w→v=w
 Ds:∀ v,S v→∃ x y ix,A[(v-1).toNat]?=some x∧B[(f v-1).toNat]?=some y∧y.type=x.type∧A_ c x.type=some ix∧y.AH.length=x.AH.length∧∀ (k:Nat) u w,x.AH[k]?=some u→y.AH[k]?=some w→if A6 c ix k=2 then w=f u∧(u=0∨S u) else w=u
section
variable {c:List Ad} {A B:List BM} {f:Int→Int} {S:Int→Prop}
theorem cL (I:cK c A B f S) {ix:Nat}:∀ (us ws:List Int) (k:Nat),ws.length=us.length→(∀ (j:Nat) u w,us[j]?=some u→ws[j]?=some w→if A6 c ix (k+j)=2 then w=f u∧(u=0∨S u) else w=u)→C4 (Jv c ix) k ws=(C4 (Jv c ix) k us).map f∧∀ r,r ∈ C4 (Jv c ix) k us→r=0∨S r
 | [],[],k,_,_=>⟨rfl,fun r h=>by cases h⟩
 | u::us,w::ws,k,hl,h=>by
  obtain ⟨h1,h2⟩:=cL I us ws (k+1) (by simpa using hl) fun j u w hu hw=>by
   have:=h (j+1) u w hu hw; rw [show k+(j+1)=k+1+j by omega] at this; exact this
  have h0:=h 0 u w rfl rfl; rw [Nat.add_zero] at h0; rw [C4,C4,List.map_append,h1]; unfold Jv
  by_cases hk:A6 c ix k=2
  ·rw [if_pos hk] at h0; rw [if_pos hk,if_pos hk,h0.1]; refine ⟨rfl,fun r hr=>?_⟩
   rcases List.mem_append.1 hr with hr | hr
   ·rw [List.mem_singleton.1 hr]; exact h0.2
   ·exact h2 r hr
  ·rw [if_neg hk,if_neg hk]; exact ⟨rfl,fun r hr=>h2 r (by rw [List.nil_append] at hr; exact hr)⟩
theorem pS (I:cK c A B f S) {v:Int} (hv:S v):CS c [] B (f v)=(CS c [] A v).map f∧∀ r,r ∈ CS c [] A v→r=0∨S r:=by
 obtain ⟨x,y,ix,hx,hy,ht,hi,hl,hk⟩:=I.Ds v hv; unfold CS; rw [hx,hy]; show refsOf c y=(refsOf c x).map f∧∀ r,r ∈ refsOf c x→_; unfold refsOf; rw [ht,hi]; simp only; rw [IF,IF]
 exact cL I _ _ 0 hl fun j u w hu hw=>by
  rw [Nat.zero_add]; exact hk j u w hu hw
theorem kJ (I:cK c A B f S) {o:List Int} (ho:∀ v,v ∈ o→S v) {r:Int} (hr:r=0∨S r):visit (o.map f) (f r)=(visit o r).map f∧∀ v,v ∈ visit o r→S v:=by
 unfold visit
 rcases hr with rfl | hr
 ·rw [I.z,if_neg (by omega),if_neg (by omega)]; exact ⟨rfl,ho⟩
 ·have h1:=I.low r hr; have h2:=I.pos r hr
  by_cases hm:r ∈ o
  ·rw [if_neg (fun h=>h.2 (List.mem_map_of_mem hm)),if_neg (fun h=>h.2 hm)]; exact ⟨rfl,ho⟩
  ·rw [if_pos ⟨h2,fun h=>by
    obtain ⟨s,hs,he⟩:=List.mem_map.1 h; rw [I.inj s r (ho s hs) hr he] at hs
    exact hm hs⟩,if_pos ⟨h1,hm⟩]
   refine ⟨by rw [List.map_append]; rfl,fun v hv=>?_⟩
   rcases List.mem_append.1 hv with hv | hv
   ·exact ho v hv
   ·rw [List.mem_singleton.1 hv]; exact hr
theorem fold_map (I:cK c A B f S):∀ (rs o:List Int),(∀ v,v ∈ o→S v)→(∀ r,r ∈ rs→r=0∨S r)→(rs.map f).foldl visit (o.map f)=(rs.foldl visit o).map f∧∀ v,v ∈ rs.foldl visit o→S v
 | [],o,ho,_=>⟨rfl,ho⟩
 | r::rs,o,ho,hr=>by
  obtain ⟨h1,h2⟩:=kJ I ho (hr r (by simp)); rw [List.map_cons,List.foldl_cons,List.foldl_cons,h1]; exact fold_map I rs _ h2 fun s hs=>hr s (by simp [hs])
theorem VP (I:cK c A B f S):∀ (m n:Nat) (o:List Int),(∀ v,v ∈ o→S v)→Ap (CS c [] B) m (o.map f) n=(Ap (CS c [] A) m o n).map f∧∀ v,v ∈ Ap (CS c [] A) m o n→S v
 | 0,n,o,ho=>⟨rfl,ho⟩
 | m+1,n,o,ho=>by
  cases I9:o[n]? with
  | none =>
   rw [Ap,Ap,I9,List.getElem?_map,I9]; exact ⟨rfl,ho⟩
  | some v =>
   obtain ⟨h1,h2⟩:=pS I (ho v (List.mem_of_getElem? I9)); obtain ⟨h3,h4⟩:=fold_map I _ o ho h2; rw [Ap,Ap,I9,List.getElem?_map,I9]; simp only [Option.map_some]; rw [h1,h3]; exact VP I m (n+1) _ h4
theorem kK (I:cK c A B f S) {O:List Int} (hO:∀ v,v ∈ O→S v) {u:Int} (hu:u=0∨S u):placeOf (O.map f) (f u)=placeOf O u:=by
 unfold placeOf; rw [List.findIdx?_map,N4 (q:=fun x=>decide (x=u)) fun x hx=>?_]; have h1:=I.low x (hO x hx); have h2:=I.pos x (hO x hx); show decide (f x=f u)=decide (x=u)
 rcases hu with rfl | hu
 ·rw [I.z,decide_eq_false (by omega),decide_eq_false (by omega)]
 ·by_cases e:x=u
  ·rw [e,decide_eq_true rfl,decide_eq_true rfl]
  ·rw [decide_eq_false e,decide_eq_false fun h=>e (I.inj x u (hO x hx) hu h)]
theorem kL (I:cK c A B f S) {root:Int} (hr:root=0∨S root) (hA:∀ v w,w ∈ CS c [] A v→w≤A.length) (hB:∀ v w,w ∈ CS c [] B v→w≤B.length) (h1:root≤A.length) (h2:f root≤B.length):Ob c A (Ab c [] A root) B (Ab c [] B (f root)):=by
 have EL:start (f root)=(start root).map f∧∀ v,v ∈ start root→S v:=by
  unfold start
  rcases hr with rfl | hr
  ·rw [I.z]; exact ⟨rfl,fun v h=>by cases h⟩
  ·have h1:=I.low root hr; have h2:=I.pos root hr; rw [if_pos h1,if_pos h2]; exact ⟨rfl,fun v hv=>by rw [List.mem_singleton.1 hv]; exact hr⟩
 have eA:Ab c [] A root=Ap (CS c [] A) (A.length+B.length) (start root) 0:=Ms hA _ _ _ _ (Found.start h1) (by omega) (by omega); have eB:Ab c [] B (f root)=Ap (CS c [] B) (A.length+B.length) (start (f root)) 0:=Ms hB _ _ _ _ (Found.start h2) (by omega) (by omega); obtain ⟨h3,h4⟩:=VP I (A.length+B.length) 0 (start root) EL.2; rw [EL.1,h3,←eA] at eB; rw [←eA] at h4; rw [eB]; refine ⟨by rw [List.length_map],fun i v w p q hv hw hp hq=>?_⟩; rw [List.getElem?_map,hv] at hw; have hw:f v=w:=Option.some.inj hw; subst hw; obtain ⟨x,y,ix,hx,hy,ht,hi,hl,hk⟩:=I.Ds v (h4 v (List.mem_of_getElem? hv)); rw [hp] at hx; cases hx; rw [hq] at hy; cases hy; refine ⟨ht.symm,hl.symm,fun k ix' a b IJ ha hb=>?_⟩; rw [hi] at IJ; cases IJ; have:=hk k a b ha hb
 split
 ·rename_i h; rw [if_pos h] at this; rw [this.1,kK I h4 this.2]
 ·rename_i h; rw [if_neg h] at this; exact this.symm
end
theorem VQ {O:List Int} {v:Int} (hv:v ∈ O):O[(placeOf O v-1).toNat]?=some v:=by
 unfold placeOf
 cases hf:O.findIdx? (fun x=>decide (x=v)) with
 | none =>
  rw [List.findIdx?_eq_none_iff] at hf; have:=hf v hv; simp at this
 | some i =>
  obtain ⟨h1,h2,_⟩:=List.findIdx?_eq_some_iff_getElem.1 hf; simp only; rw [show ((i:Int)+1-1).toNat=i by omega,List.getElem?_eq_getElem h1,of_decide_eq_true h2]
theorem VR {h:List BM} {N:Nat} (hN:N=h.length):∀ {O:List Int},(∀ v,v ∈ O→0<v∧v≤N)→∀ (j:Nat) v,O[j]?=some v→(AN h O)[j]?=h[(v-1).toNat]?
 | [],_,j,v,hj=>by simp at hj
 | u::O,hO,j,v,hj=>by
  have hu:=hO u (by simp); have hx:=List.getElem?_eq_getElem (show (u-1).toNat<h.length by omega); rw [Mr hx]
  cases j with
  | zero=>cases hj; exact hx.symm
  | succ j=>exact VR hN (fun w hw=>hO w (by simp [hw])) j v hj
theorem sv {mp:List Int} {n:Nat} (hl:mp.length=n) (Mx:∀ (k:Nat) m,mp[k]?=some m→0≤m∧m.toNat<n) (hd:∀ (k j:Nat) m,j<k→mp[k]?=some m→mp[j]?≠some m) {k:Nat} (hk:k<n):(k:Int) ∈ mp:=by
 refine Classical.byContradiction fun hn=>?_; have Vx:mp.Nodup:=List.pairwise_iff_getElem.2 fun i j hi hj hij e=>hd j i mp[j] hij (List.getElem?_eq_getElem hj) (by rw [List.getElem?_eq_getElem hi,e])
 have:=Ur n (((k:Int)::mp).map (·+1)) ?_ fun v hv=>?_
 ·rw [List.length_map,List.length_cons] at this; omega
 ·unfold List.Nodup; rw [List.pairwise_map]; refine (List.nodup_cons.2 ⟨hn,Vx⟩:((k:Int)::mp).Nodup).imp fun h e=>h (by omega)
 ·obtain ⟨m,hm,rfl⟩:=List.mem_map.1 hv
  rcases List.mem_cons.1 hm with rfl | hm
  ·omega
  ·obtain ⟨j,hj⟩:=List.getElem?_of_mem hm; have:=Mx j m hj; omega
theorem ft {c:List Ad} {l:List Bc} {O:List Int} {x:BM} {N ix:Nat} {sx:Ad} (Ac:BL c=true) (hs:BG c l=true) (X:Up c x N ix sx) (jv:Lx l x.type=none) (hw:∀ s t,s ∈ l→A_ c s.type=some t→(Ak c t).length=s.map.length) :
  (A4 c l (Oa c O (AL l x))).type=x.type∧(A4 c l (Oa c O (AL l x))).AH=Jw c ix O 0 x.AH∧∀ (k:Nat) u,x.AH[k]?=some u→A6 c ix k=2→u ∈ refsOf c (AL l x):=by
 cases Gz:Gy l x.type with
 | none =>
  have KC:AL l x=x:=by unfold AL; rw [Gz]
  have CA:Oa c O x=⟨x.type,Jw c ix O 0 x.AH⟩:=by unfold Oa; rw [X.ti]
  have Y7:A4 c l (Oa c O (AL l x))=⟨x.type,Jw c ix O 0 x.AH⟩:=by
   rw [KC,CA]; unfold A4; show (match Lx l x.type with | none=>_ | some s=>_)=_; rw [jv]
  rw [Y7]; refine ⟨rfl,rfl,fun k u hu hk=>?_⟩; rw [KC]; unfold refsOf; rw [X.ti]; simp only; rw [IF]; refine VO _ 0 k u hu ?_; unfold Jv; rw [Nat.zero_add,if_pos hk]; simp
 | some s =>
  obtain ⟨i,hi,NU⟩:=Ig Gz; have S5:=List.mem_of_getElem? hi; obtain ⟨t,a,Sp⟩:=RH hs hi; have hit:ix=t:=by have h1:=X.ti; rw [←NU,Sp.ti] at h1; exact (Option.some.inj h1).symm
  subst hit; have mv:=D2 Sp.ai; have S1:=D2 Sp.ti; have Nx:=Gf X.si Sp.et X.many; have VW:=hw s ix S5 Sp.ti; obtain ⟨Mx,hd⟩:=iM Sp; have KC:AL l x=⟨s.to,s.map.map (Ge x)⟩:=by unfold AL; rw [Gz]
  have CA:Oa c O (AL l x)=⟨s.to,Jw c a O 0 (s.map.map (Ge x))⟩:=by
   rw [KC]; unfold Oa; show (match A_ c s.to with | some ix=>_ | none=>_)=_; rw [Sp.ai]
  have Y7:A4 c l (Oa c O (AL l x))=⟨s.type,Es s.map (Jw c a O 0 (s.map.map (Ge x))) (List.replicate (Ak c ix).length 0) s.map.length⟩:=by
   rw [CA]; unfold A4; show (match Lx l s.to with | none=>_ | some s=>_)=_; rw [pG hs S5]; simp only; rw [Sp.ti]
  have key:∀ (k:Nat) u,x.AH[k]?=some u→∃ j,s.map[j]?=some (k:Int)∧(s.map.map (Ge x))[j]?=some u∧A6 c a j=A6 c ix k:=by
   intro k u hu; have cw:=(List.getElem?_eq_some_iff.1 hu).1; obtain ⟨j,hj⟩:=List.getElem?_of_mem (sv VW.symm Mx hd (k:=k) (by omega))
   refine ⟨j,hj,?_,?_⟩
   ·rw [List.getElem?_map,hj]; simp only [Option.map_some]; unfold Ge; rw [Int.toNat_natCast,hu]; rfl
   ·obtain ⟨n,h1,_,_,h4,_⟩:=Sp.map j (by rw [←Sp.len]; exact (List.getElem?_eq_some_iff.1 hj).1); rw [hj] at h1; cases h1; rw [Int.toNat_natCast] at h4; rw [Gg Sp.ea mv,Gg Sp.et S1,h4]
  rw [Y7]
  refine ⟨NU,?_,fun k u hu hk=>?_⟩
  ·apply List.ext_getElem?; intro k; show (Es _ _ _ _)[k]?=_; rw [P7,Nat.zero_add]
   cases hu:x.AH[k]? with
   | none =>
    have:=List.getElem?_eq_none_iff.1 hu; rw [List.getElem?_eq_none (by rw [IE,List.length_replicate]; omega)]; rfl
   | some u =>
    obtain ⟨j,hj,hv,hkd⟩:=key k u hu; have XP:=P3 (vs:=Jw c a O 0 (s.map.map (Ge x))) (z:=List.replicate (Ak c ix).length (0:Int)) (fun k m hk=>by rw [List.length_replicate]; exact Mx k m hk) hd s.map.length (Nat.le_refl _) j (k:Int) (List.getElem?_eq_some_iff.1 hj).1 hj; rw [Int.toNat_natCast,P7,hv,Nat.zero_add,hkd] at XP; exact XP
  ·obtain ⟨j,hj,hv,hkd⟩:=key k u hu; rw [KC]; unfold refsOf; show u ∈ (match A_ c s.to with | some i=>_ | none=>_); rw [Sp.ai]; simp only; rw [IF]; refine VO _ 0 j u hv ?_; unfold Jv; rw [Nat.zero_add,hkd,if_pos hk]; simp
theorem fu {c:List Ad} {l:List Bc} {h:List BM} {root:Int} (hz:I1 c l h root=0) (Yu:h.length≤40) (hb:Ma l h (Ab c l h root)=false) (hw:∀ s t,s ∈ l→A_ c s.type=some t→(Ak c t).length=s.map.length) (hys:I1 c l ((Db c l h (Ab c l h root)).map (A4 c l)) (min ((Db c l h (Ab c l h root)).length:Int) 1)=0) :
  Ob c h (Ab c [] h root) ((Db c l h (Ab c l h root)).map (A4 c l)) (Ab c [] ((Db c l h (Ab c l h root)).map (A4 c l)) (min ((Db c l h (Ab c l h root)).length:Int) 1)):=by
 obtain ⟨Ac,hs,Yt,hX,HZ⟩:=FN hz; obtain ⟨JV,HD⟩:=ES Yt; obtain ⟨_,_,uZ,_,NW⟩:=FN hys; obtain ⟨_,AC'⟩:=ES uZ; obtain ⟨_,_,hF,Bj⟩:=Jb hz Yu; have Lj:=N5 (refs:=CS c l h) (N:=h.length) (fun v w hw=>(NH Ac hs HD w hw).2) h.length 0 (start root) (Found.start HZ) (by omega); have hOd:Ab c l h root=Ap (CS c l h) h.length (start root) 0:=rfl; rw [←hOd] at Lj; generalize Ab c l h root=O at hb hF Bj Lj hys uZ AC' NW hOd ⊢; have hO:∀ v,v ∈ O→0<v∧v≤h.length:=fun v hv=>⟨hF.low v hv,hF.high v hv⟩
 have h0O:(0:Int) ∉ O:=fun hm=>by have:=hF.low 0 hm; omega
 have AFg:(Db c l h O).length=O.length:=by unfold Db; rw [List.length_map,Ja rfl hO]
 have hI:cK c h ((Db c l h O).map (A4 c l)) (placeOf O) (· ∈ O):=by
  refine ⟨Gh h0O,fun v hv=>hF.low v hv,fun v hv=>SQ hv,fun v w hv hw e=>?_,fun v hv=>?_⟩
  ·have h1:=VQ hv; have h2:=VQ hw; rw [e,h2] at h1; exact (Option.some.inj h1).symm
  ·obtain ⟨x,hx⟩:=b_ hF hv; have hxm:=List.mem_of_getElem? hx; obtain ⟨ix,sx,X⟩:=DK (HD x hxm); have hxt:(AN h O)[(placeOf O v-1).toNat]?=some x:=by rw [VR rfl hO _ v (VQ hv),hx]
   have jv:Lx l x.type=none:=by
    unfold Lx; rw [List.find?_eq_none]; intro s Jf; have h1:=List.any_eq_false.1 hb x (List.mem_of_getElem? hxt); exact List.any_eq_false.1 (Bool.eq_false_iff.2 h1) s Jf
   obtain ⟨p1,p2,p3⟩:=ft (O:=O) Ac hs X jv hw
   refine ⟨x,A4 c l (Oa c O (AL l x)),ix,hx,?_,p1,X.ti,by rw [p2,P6],fun k u w hu Gq=>?_⟩
   ·unfold Db; rw [List.getElem?_map,List.getElem?_map,hxt]; rfl
   ·rw [p2,P7,hu,Nat.zero_add] at Gq; have Gq:(if A6 c ix k=2 then placeOf O u else u)=w:=Option.some.inj Gq
    by_cases hk:A6 c ix k=2
    ·rw [if_pos hk] at Gq ⊢; refine ⟨Gq.symm,?_⟩
     have hu0:0≤u:=by
      rcases Ii Ac X hu with q | q
      ·exact q.2.1
      ·rw [q.1] at hk; cases hk
     rcases Int.lt_or_eq_of_le hu0 with h | h
     ·obtain ⟨j,hj⟩:=List.getElem?_of_mem hv; refine .inr (Lj j v (by omega) hj u ?_ h); unfold CS; rw [hx]; exact p3 k u hu hk
     ·exact .inl h.symm
    ·rw [if_neg hk] at Gq ⊢; exact Gq.symm
 have zu:(root=0∨root ∈ O)∧placeOf O root=min ((Db c l h O).length:Int) 1:=by
  rw [AFg]
  by_cases h0:root=0
  ·subst h0
   have:O=[]:=by
    rw [hOd]
    cases h.length with
    | zero=>rfl
    | succ m=>rfl
   subst this; exact ⟨.inl rfl,rfl⟩
  ·have EL:start root=[root]:=by unfold start; rw [if_pos (by omega)]
   rw [EL] at Bj; have hm:root ∈ O:=Bj.subset (by simp)
   have hp:placeOf O root=1:=by
    rw [RZ Bj (by simp)]; unfold placeOf; simp
   have:=Bj.length_le; rw [List.length_singleton] at this; exact ⟨.inr hm,by rw [hp]; omega⟩
 rw [←zu.2] at NW ⊢; exact kL hI zu.1 (fun v w hw=>(NH Ac P' HD w hw).2) (fun v w hw=>(NH Ac P' AC' w hw).2) HZ NW
end Go.Ce
namespace Go.Ce
open Go Go.Proofs Go.Proofs.Tryz
theorem AFh:agg? prog 134=some true:=by kernel_rfl
theorem s7:DM prog 134=some 2:=by kernel_rfl
theorem AFi:Gm prog 134=some (.agg #[.int .i64 0,.int .i64 0]):=by kernel_rfl
theorem fv (x y:Int):QF prog 134 [(0,.int .i64 x),(1,.int .i64 y)]=some (.agg [.int .i64 x,.int .i64 y].toArray):=by kernel_rfl
theorem cM (a:Addr):A0 prog 134 (.pointer (some a)) 0=some (.pointer (some ⟨a.block,a.off,none⟩)):=by kernel_rfl
theorem pT (a:Addr):A0 prog 134 (.pointer (some a)) 1=some (.pointer (some ⟨a.block,a.off+1,none⟩)):=by kernel_rfl
theorem zY (x y:Int):AU prog .neq 134 false (.agg [.int .i64 x,.int .i64 y].toArray) (.agg [.int .i64 x,.int .i64 x].toArray)=some (.bool (!(y == x))):=by
 have h:AU prog .neq 134 false (.agg [.int .i64 x,.int .i64 y].toArray) (.agg [.int .i64 x,.int .i64 x].toArray)=((match (some (x == x):Option Bool) with | some true=>(match (some (y == x):Option Bool) with | some true=>some true | some false=>some false | none=>none) | some false=>some false | none=>none).map fun b=>Value.bool (!b)):=by kernel_rfl
 rw [h,beq_self_eq_true]
 cases y == x <;> rfl
structure ua (A:CW) (CU JA J7 H9 Vf bl rl bm rm r1 r2:Nat) (vl vm v1 v3:Value) (c:List Ad) (h k:List BM) (O M:List Int):Prop where
 top:Al A
 CU:As A CU 4 [.bool false]
 JA:As A JA 30 [.int .i64 0]
 bk:As A J7 78 [.map (some r1),.map (some r2)]
 p16:As A H9 89 [.pointer (some ⟨bl,0,none⟩)]
 p17:As A Vf 89 [.pointer (some ⟨bm,0,none⟩)]
 wl:Mg A bl rl vl O
 wm:Mg A bm rm vm M
 cat:Dr A r1 r2 c
 hh:Ax 2 (IZ A) v1 h
 kk:Ax 2 (IZ A) v3 k
 Ac:BL c=true
 hC:OP c
 HD:∀ x,x ∈ h→BF c x h.length=true
 kth:∀ x,x ∈ k→BF c x k.length=true
 fO:Found O h.length
 fM:Found M k.length
 hl:h.length≤1000
 kl:k.length≤1000
 len:O.length=M.length
structure zZ (e:Env) (CU JA J7 H9 Vf:Nat) (vl v1 v3:Value) (n i:Nat):Prop where
 e1:e 1=v1
 e3:e 3=v3
 Vd:e 10=.pointer (some ⟨CU,0,none⟩)
 SX:e 11=.pointer (some ⟨JA,0,none⟩)
 pU:e 12=.pointer (some ⟨J7,0,none⟩)
 e16:e 16=.pointer (some ⟨H9,0,none⟩)
 e17:e 17=.pointer (some ⟨Vf,0,none⟩)
 e69:e 69=vl
 e70:e 70=.int .i64 n
 e71:e 71=.int .i64 i
def pV (CU JA:Nat) (A W':CW):Prop:=Bq (fun j=>j=CU∨j=JA) A W'∧Al W'∧W'.cell CU 0=some (.bool false)∧W'.cell JA 0=some (.int .i64 0)
section
variable {A:CW} {CU JA J7 H9 Vf bl rl bm rm r1 r2:Nat} {vl vm v1 v3:Value} {c:List Ad} {h k:List BM} {O M:List Int}
theorem ua.ne (I:ua A CU JA J7 H9 Vf bl rl bm rm r1 r2 vl vm v1 v3 c h k O M):CU≠JA:=by
 rintro rfl; have:=Bl I.CU I.JA
 cases this
theorem pW (I:ua A CU JA J7 H9 Vf bl rl bm rm r1 r2 vl vm v1 v3 c h k O M) {W:CW} (kA:Kp A W) (ht:Al W) {K:CW→Prop} (hk:∀ W2,pV CU JA A W2→Bq (fun j=>j=CU∨j=JA) W W2→K W2):wV (CE prog 4 (.pointer (some ⟨CU,0,none⟩)) (.bool false) W) fun W1=>wV (CE prog 30 (.pointer (some ⟨JA,0,none⟩)) (.int .i64 0) W1) K:=by
 have Dm:=I.ne; have Mj:=I.CU.ext I.top kA; have V_:=I.JA.ext I.top kA; refine Af s4 (a:=⟨CU,0,none⟩) rfl Mj (by simp) fun W1 Y_ vJ=>?_; have Y_:DO CU W W1:=Y_; have XZ:=V_.congr (Y_.obj _ (fun e=>Dm e.symm)); refine Af uP (a:=⟨JA,0,none⟩) rfl XZ (by simp) fun W2 K1 mK=>?_; have K1:DO JA W1 W2:=K1; have Wd:=Mj.lt ht; have Mz:=XZ.lt (ht.A5 Wd Y_); have hc:Bq (fun j=>j=CU∨j=JA) W W2:=⟨by rw [K1.sz,Y_.sz]; exact Nat.le_refl _,fun j _ hj=>by rw [K1.obj j (fun e=>hj (.inr e)),Y_.obj j (fun e=>hj (.inl e))]⟩
 exact hk W2 ⟨(Bq.Gc kA).then hc fun _ _ h=>h,(ht.A5 Wd Y_).A5 Mz K1,(vJ.congr (K1.obj _ Dm)).cell rfl,mK.cell rfl⟩ hc
end
theorem Marks.more {B:Nat} {W W':CW} {ds:List Deferred} {r:Nat} (ht:Al W) (h:Marks B W ds) (ho:∀ j,W.obj j=some .deferred→B≤j→W'.obj j=some .deferred) (hr:W'.obj r=some .deferred) (hB:B≤r) (hl:W.sz≤r):Marks B W' (mark r::ds):=by
 refine Marks.push (h.EG ho) hr hB fun hm=>?_; obtain ⟨rs,VV,_,Iq⟩:=h; rw [VV] at hm; obtain ⟨r',HZ,NW⟩:=List.mem_map.1 hm; have:=bU NW; subst this; have:=ht _ _ (Iq _ HZ).1; omega
def VEq (c:List Ad) (O M:List Int) (ix:Nat) (xs ys:List Int) (m:Nat):Prop:=∀ x y,xs[m]?=some x→ys[m]?=some y→if A6 c ix m=2 then placeOf O x=placeOf M y else x=y
section
variable {A:CW} {CU JA J7 H9 Vf bl rl bm rm r1 r2:Nat} {vl vm v1 v3:Value} {c:List Ad} {h k:List BM} {O M:List Int}
theorem fw (I:ua A CU JA J7 H9 Vf bl rl bm rm r1 r2 vl vm v1 v3 c h k O M) {K:AG} {e:Env} {ds:List Deferred} {W:CW} {n i b20 b21 ix:Nat} {p q:BM} {vp vq:Value} {s:Ad} (kA:Kp A W) (ht:Al W) (hm:Marks A.sz W ds) (E:zZ e CU JA J7 H9 Vf vl v1 v3 n i)
  (e20:e 20=.pointer (some ⟨b20,0,none⟩)) (e21:e 21=.pointer (some ⟨b21,0,none⟩)) (B20:As W b20 56 [.string p.type,vp]) (B21:As W b21 56 [.string q.type,vq]) (hp:Ax 1 (De W) vp p.AH) (hq:Ax 1 (De W) vq q.AH) (P:Up c p h.length ix s) (hlen:p.AH.length=q.AH.length) (hi:i<100000)
  (H':∀ e' DN W',pV CU JA A W'→Marks A.sz W' DN→e' 10=.pointer (some ⟨CU,0,none⟩)→e' 11=.pointer (some ⟨JA,0,none⟩)→(∃ m,m<p.AH.length∧¬VEq c O M ix p.AH q.AH m)→K .ret e' DN W')
  (Ac:∀ e' DN W',Kp A W'→Al W'→Marks A.sz W' DN→zZ e' CU JA J7 H9 Vf vl v1 v3 n (i+1)→(∀ m,m<p.AH.length→VEq c O M ix p.AH q.AH m)→K .normal e' DN W') :
  (NK none K) .normal e ds W:=by
 simp only [NK,B_]; obtain ⟨ap,cp,rfl,_⟩:=id hp; rw [E.pU,e20,BO (vs:=[.map (some r1),.map (some r2)]) (a:=⟨J7,0,none⟩) lC NV rfl (by omega) (I.bk.ext I.top kA).cells,BO (vs:=[.string p.type,.slice ap p.AH.length cp]) (a:=⟨b20,0,none⟩) YX Ia rfl (by omega) B20.cells]; simp only [AA]; refine (Mf (r1:=r1) (r2:=r2) (ty:=p.type) (vx:=.slice ap p.AH.length cp) ht).mono fun en W3 ⟨k3,t3,bk,bx,Ef,Y7,hbx,fP,fQ⟩=>?_; subst Ef; refine AZ ?_; have fe:=kA.trans k3; have zA:=kA.sz; have z3:=k3.sz; have AGk:=I.CU.lt I.top; have AGl:=I.JA.lt I.top; have Nx:=PL I.hC P.many; have Lw:elemAt c ix=0→p.AH.length≤(Ak c ix).length:=fun he=>by rw [Gf P.si he P.many]; exact Nat.le_refl _
 have Lo:=I.cat.kp I.top fe
 have nd:∀ j,W.obj j=some .deferred→¬(j=CU∨j=JA):=by
  rintro j hj (rfl | rfl)
  ·obtain ⟨x,y,z,ho,_⟩:=I.CU.ext I.top kA; rw [ho] at hj; cases hj
  ·obtain ⟨x,y,z,ho,_⟩:=I.JA.ext I.top kA; rw [ho] at hj; cases hj
 refine TZ (bk:=bk) (bx:=bx) (r1:=r1) (r2:=r2) (n:=p.AH.length) (ix:=ix) (c:=c) (ty:=p.type) (a1:=22) (a2:=23) t3 rfl P.ti (by omega) Lw (fun ro e0 ds K W=>by rw [zR]) (by decide)
  (fun j W'=>Kp W3 W'∧Al W'∧W'.obj W3.sz=some .deferred∧W3.sz+1<W'.sz∧∀ m,m<j→VEq c O M ix p.AH q.AH m)
  (fun x W'=>x=.ret∧Bq (fun j=>j=CU∨j=JA) W3 W'∧Al W'∧W'.obj W3.sz=some .deferred∧W3.sz+1<W'.sz∧W'.cell CU 0=some (.bool false)∧W'.cell JA 0=some (.int .i64 0)∧∃ m,m<p.AH.length∧¬VEq c O M ix p.AH q.AH m)
  (fun j W' h=>⟨h.1.cell t3 (fP.cell rfl),h.1.cell t3 (fP.cell rfl),Lo.kp t3 h.1,h.1.cell t3 (fQ.cell rfl),_,_,h.1.cell t3 (fQ.cell rfl)⟩)
  (fun j W1 W2 ⟨h1,h2,h3,h4,h5⟩ hu _=>⟨h1.A5 (by omega) hu,h2.A5 h4 hu,by rw [hu.obj _ (by omega)]; exact h3,by rw [hu.sz]; exact h4,h5⟩)
  (fun x W1 W2 ⟨h0,h1,h2,h3,h4,h5,h6,h7⟩ hu _=>⟨h0,h1.then hu.EG fun j hj he=>by omega,h2.A5 h4 hu,by rw [hu.obj _ (by omega)]; exact h3,by rw [hu.sz]; exact h4,by rw [hu.cell (by omega)]; exact h5,by rw [hu.cell (by omega)]; exact h6,h7⟩)
  (fun W2 k t z hd=>⟨k,t,hd,by omega,fun m hm=>by omega⟩)
  (fun j W1 Kb E' hE x3 x4 hj ⟨k1,t1,hd,hl,hv⟩ hlo hn hr _=>?_) (fun W' ⟨k',t',hd,hl,hv⟩=>?_) (fun x W' ⟨h0,h1,h2,h3,h4,h5,h6,h7⟩=>?_)
 ·have g:∀ t v,t≠109→t≠110→t≠22→t≠23→t≠106→t≠107→t≠108→e t=v→E' t=v:=fun t v n1 n2 n3 n4 n5 n6 n7 hv=>by
   rw [hE t n1 n2 n3 n4,←hv]; simp only [Ao,BC,if_neg n5,if_neg n6,if_neg n7]
  have nW:=g 10 _ (by decide) (by decide) (by decide) (by decide) (by decide) (by decide) (by decide) E.Vd; have uS:=g 11 _ (by decide) (by decide) (by decide) (by decide) (by decide) (by decide) (by decide) E.SX; have sF:=g 16 _ (by decide) (by decide) (by decide) (by decide) (by decide) (by decide) (by decide) E.e16; have g17:=g 17 _ (by decide) (by decide) (by decide) (by decide) (by decide) (by decide) (by decide) E.e17; have g20:=g 20 _ (by decide) (by decide) (by decide) (by decide) (by decide) (by decide) (by decide) e20; have g21:=g 21 _ (by decide) (by decide) (by decide) (by decide) (by decide) (by decide) (by decide) e21; have hx:=List.getElem?_eq_getElem hj; have hy:=List.getElem?_eq_getElem (show j<q.AH.length by omega); generalize p.AH[j]=x at hx; generalize q.AH[j]'(by omega)=y at hy; obtain ⟨ax,a1,a2⟩:=pP ht hp hx; obtain ⟨ay,c1,c2⟩:=pP ht hq hy; have kM:=k3.trans k1; have kA1:=fe.trans k1; have l20:∀ W',Kp W W'→ld prog 40 (.pointer (some ⟨b20,0+1,none⟩)) W'=some (.slice ap p.AH.length cp):=fun W' kk=>AB M7 (a:=⟨b20,0+1,none⟩) (kk.cell ht (B20.cell rfl)); have l21:∀ W',Kp W W'→ld prog 40 (.pointer (some ⟨b21,0+1,none⟩)) W'=some vq:=fun W' kk=>AB M7 (a:=⟨b21,0+1,none⟩) (kk.cell ht (B21.cell rfl))
  have xy:∀ (e2:Env) (W6:CW) (x' y':Int),Kp W1 W6→Al W6→As W6 W1.sz 134 [.int .i64 x',.int .i64 y']→e2 24=.pointer (some ⟨W1.sz,0,none⟩)→e2 10=.pointer (some ⟨CU,0,none⟩)→e2 11=.pointer (some ⟨JA,0,none⟩)→(x'=y'↔VEq c O M ix p.AH q.AH j)→(To (some (W3.sz+1)) Kb) .normal e2 [] W6:=by
   intro e2 W6 x' y' k6 t6 Is h24 rZ uT hxy; simp only [To,B_]; rw [h24,BO (vs:=[.int .i64 x',.int .i64 y']) (a:=⟨W1.sz,0,none⟩) AFh s7 rfl (by omega) Is.cells]; simp only [cM,AA]; rw [AB a3 (a:=⟨W1.sz,0,none⟩) (Is.cell rfl)]; simp only [AA,fv,zY]; have z6:=k6.sz
   refine AP (fun hb=>?_) (fun hb=>?_)
   ·have hb:¬x'=y':=fun e=>by rw [e] at hb; simp at hb
    rw [rZ,uT]; refine pW I (kA1.trans k6) t6 fun W7 hs hc=>?_; have sT:Bq (fun j=>j=CU∨j=JA) W3 W7:=(Bq.Gc (k1.trans k6)).then hc fun _ _ h=>h; have hz7:=hc.sz; refine hr _ _ W7 (by rw [hc.obj _ (by omega) (by omega),k6.obj _ (by omega)]) ⟨rfl,sT,hs.2.1,by rw [hc.obj _ (by omega) (by omega),k6.obj _ (by omega)]; exact hd,by omega,hs.2.2.1,hs.2.2.2,j,hj,fun hve=>hb (hxy.2 hve)⟩
   ·have hb:x'=y':=by
     simp only [Bool.not_eq_false',beq_iff_eq] at hb; exact hb.symm
    refine hn _ _ W6 (by rw [k6.obj _ (by omega)]) ⟨k1.trans k6,t6,by rw [k6.obj _ (by omega)]; exact hd,by omega,fun m hm=>?_⟩
    by_cases e:m=j
    ·subst e; exact hxy.1 hb
    ·exact hv m (by omega)
  rw [zU,g20,g21,x3,x4]; simp only [D1,AA,l20 W1 kM,l21 W1 kM,a1,a2 W1 kM,c1,c2 W1 kM,fv]; refine Gx AFi s7 t1 fun W4 k4 t4 z4 za=>?_; have za:As W4 W1.sz 134 [.int .i64 0,.int .i64 0]:=za; refine DF s7 (a:=⟨W1.sz,0,none⟩) (ws:=[.int .i64 x,.int .i64 y]) rfl rfl za (by simp) fun W5 OV I3=>?_; have OV:DO W1.sz W4 W5:=OV; have I3:As W5 W1.sz 134 [.int .i64 x,.int .i64 y]:=I3; have ub:=kM.trans k4; refine ⟨by simp only [l20 W1 kM,l21 W1 kM,a2 W1 kM,c2 W1 kM,l20 W4 ub,l21 W4 ub,a2 W4 ub,c2 W4 ub,and_self],trivial,?_⟩; have c_:Kp W1 W5:=k4.A5 (Nat.le_refl _) OV; have t5:=t4.A5 (by omega) OV; have zb:=kA1.trans c_; simp only [Bp,AA]
  refine AP (fun hk=>?_) (fun hk=>?_)
  ·have hk:A6 c ix j=2:=by simpa using hk
   have wl5:=I.wl.kp I.top zb; have wm5:=I.wm.kp I.top zb; have l16:ld prog 89 (.pointer (some ⟨H9,0,none⟩)) W5=some (.pointer (some ⟨bl,0,none⟩)):=AB uF (a:=⟨H9,0,none⟩) (zb.cell I.top (I.p16.cell rfl)); have zc:ld prog 89 (.pointer (some ⟨Vf,0,none⟩)) W5=some (.pointer (some ⟨bm,0,none⟩)):=AB uF (a:=⟨Vf,0,none⟩) (zb.cell I.top (I.p17.cell rfl)); have lr:ld prog 98 (.pointer (some ⟨bl,0+1,none⟩)) W5=some (.map (some rl)):=AB a98 (a:=⟨bl,0+1,none⟩) (wl5.w.cell rfl); have lm:ld prog 98 (.pointer (some ⟨bm,0+1,none⟩)) W5=some (.map (some rm)):=AB a98 (a:=⟨bm,0+1,none⟩) (wm5.w.cell rfl); have lx:ld prog 3 (.pointer (some ⟨W1.sz,0,none⟩)) W5=some (.int .i64 x):=AB a3 (a:=⟨W1.sz,0,none⟩) (I3.cell rfl); have ly:ld prog 3 (.pointer (some ⟨W1.sz,0+1,none⟩)) W5=some (.int .i64 y):=AB a3 (a:=⟨W1.sz,0+1,none⟩) (I3.cell rfl); rw [sF,g17]; simp only [l16,zc,CO,PZ,lr,lm,cM,pT,lx,ly,wl5.p.look,wm5.p.look,AA,fv]; refine DF s7 (a:=⟨W1.sz,0,none⟩) (ws:=[.int .i64 (placeOf O x),.int .i64 (placeOf M y)]) rfl rfl I3 (by simp) fun W6 cN Is=>?_; have cN:DO W1.sz W5 W6:=cN; have Is:As W6 W1.sz 134 [.int .i64 (placeOf O x),.int .i64 (placeOf M y)]:=Is; refine ⟨by simp only [and_self],trivial,?_⟩
   refine xy _ W6 _ _ (c_.A5 (Nat.le_refl _) cN) (t5.A5 (I3.lt t5) cN) Is (by simp only [Ao,Nat.reduceEqDiff,↓reduceIte]) (by simp only [Ao,BC,Nat.reduceEqDiff,↓reduceIte,nW]) (by simp only [Ao,BC,Nat.reduceEqDiff,↓reduceIte,uS]) ⟨fun e x2 y2 Vr u7=>?_,fun hve=>?_⟩
   ·rw [hx] at Vr; cases Vr; rw [hy] at u7; cases u7; rw [if_pos hk]; exact e
   ·have:=hve x y hx hy; rw [if_pos hk] at this; exact this
  ·have hk:¬A6 c ix j=2:=by simpa using hk
   refine xy _ W5 x y c_ t5 I3 (by simp only [Ao,Nat.reduceEqDiff,↓reduceIte]) (by simp only [Ao,BC,Nat.reduceEqDiff,↓reduceIte,nW]) (by simp only [Ao,BC,Nat.reduceEqDiff,↓reduceIte,uS]) ⟨fun e x2 y2 Vr u7=>?_,fun hve=>?_⟩
   ·rw [hx] at Vr; cases Vr; rw [hy] at u7; cases u7; rw [if_neg hk]; exact e
   ·have:=hve x y hx hy; rw [if_neg hk] at this; exact this
 ·simp only [B_,wx,NJ]; simp only [Ao,BC,Nat.reduceEqDiff,↓reduceIte,E.e71,Az,AA]; rw [Du (by omega)]; refine Ac _ _ W' (fe.trans k') t' (hm.more ht (fun j hj _=>by rw [(k3.trans k').obj _ (ht _ _ hj)]; exact hj) hd (by omega) z3) ⟨by simp only [Ao,BC,Nat.reduceEqDiff,↓reduceIte,E.e1],by simp only [Ao,BC,Nat.reduceEqDiff,↓reduceIte,E.e3],by simp only [Ao,BC,Nat.reduceEqDiff,↓reduceIte,E.Vd],by simp only [Ao,BC,Nat.reduceEqDiff,↓reduceIte,E.SX],by simp only [Ao,BC,Nat.reduceEqDiff,↓reduceIte,E.pU],by simp only [Ao,BC,Nat.reduceEqDiff,↓reduceIte,E.e16],by simp only [Ao,BC,Nat.reduceEqDiff,↓reduceIte,E.e17],by simp only [Ao,BC,Nat.reduceEqDiff,↓reduceIte,E.e69],by simp only [Ao,BC,Nat.reduceEqDiff,↓reduceIte,E.e70],by simp only [Ao,↓reduceIte]⟩ hv
 ·subst h0; simp only [Lm,Sz,NJ]; refine H' _ _ W' ⟨(Bq.Gc fe).then h1 fun _ _ h=>h,h2,h5,h6⟩ (hm.more ht (fun j hj _=>?_) h3 (by omega) z3) (by simp only [Ao,BC,Nat.reduceEqDiff,↓reduceIte,E.Vd]) (by simp only [Ao,BC,Nat.reduceEqDiff,↓reduceIte,E.SX]) h7; have:=ht _ _ hj; rw [h1.obj _ (by omega) (nd j hj),k3.obj _ this]; exact hj
end
end Go.Ce
namespace Go.Ce
open Go Go.Proofs Go.Proofs.Tryz
section
variable {A:CW} {CU JA J7 H9 Vf bl rl bm rm r1 r2:Nat} {vl vm v1 v3:Value} {c:List Ad} {h k:List BM} {O M:List Int}
def ATh (c:List Ad) (h:List BM) (O:List Int) (k:List BM) (M:List Int) (i:Nat):Prop:=∀ v w p q,O[i]?=some v→M[i]?=some w→h[(v-1).toNat]?=some p→k[(w-1).toNat]?=some q→fq c O M p q
theorem ua.nd (I:ua A CU JA J7 H9 Vf bl rl bm rm r1 r2 vl vm v1 v3 c h k O M) {W:CW} (kA:Kp A W):∀ j,W.obj j=some .deferred→¬(j=CU∨j=JA):=by
 rintro j hj (rfl | rfl)
 ·obtain ⟨x,y,z,ho,_⟩:=I.CU.ext I.top kA; rw [ho] at hj; cases hj
 ·obtain ⟨x,y,z,ho,_⟩:=I.JA.ext I.top kA; rw [ho] at hj; cases hj
theorem pX (I:ua A CU JA J7 H9 Vf bl rl bm rm r1 r2 vl vm v1 v3 c h k O M) {K:AG} {e:Env} (E:zZ e CU JA J7 H9 Vf vl v1 v3 O.length 0)
  (H':∀ e' DN W',pV CU JA A W'→Marks A.sz W' DN→e' 10=.pointer (some ⟨CU,0,none⟩)→e' 11=.pointer (some ⟨JA,0,none⟩)→¬Ob c h O k M→K .ret e' DN W')
  (E3:∀ e' DN W',Kp A W'→Al W'→Marks A.sz W' DN→zZ e' CU JA J7 H9 Vf vl v1 v3 O.length O.length→Ob c h O k M→K (.exit 0) e' DN W') :
  C6 prog AV none 20 147 (.loop (Ae prog 20 0)) e [] A K:=by
 have hOl:=I.fO.len; have re:=I.hl; refine D8 (fun i e' DN W'=>Kp A W'∧Al W'∧Marks A.sz W' DN∧zZ e' CU JA J7 H9 Vf vl v1 v3 O.length i∧∀ j,j<i→ATh c h O k M j) O.length ⟨.refl _,I.top,.nil _ _,E,fun j hj=>by omega⟩ ?_; rintro i e ds W hi ⟨kA,ht,hm,E,XP⟩; rw [zQ,E.e69,E.e70,E.e71,E.e1,E.e3,E.e17]; simp only [AA,A7]; refine G6 (fun Au=>?_) (fun Of=>?_)
 rotate_left
 ·have:i=O.length:=by omega
  subst this; simp only [PJ]; exact E3 _ ds W kA ht hm ⟨by simp only [Ao,BC,Nat.reduceEqDiff,↓reduceIte,E.e1],by simp only [Ao,BC,Nat.reduceEqDiff,↓reduceIte,E.e3],by simp only [Ao,BC,Nat.reduceEqDiff,↓reduceIte,E.Vd],by simp only [Ao,BC,Nat.reduceEqDiff,↓reduceIte,E.SX],by simp only [Ao,BC,Nat.reduceEqDiff,↓reduceIte,E.pU],by simp only [Ao,BC,Nat.reduceEqDiff,↓reduceIte,E.e16],by simp only [Ao,BC,Nat.reduceEqDiff,↓reduceIte,E.e17],by simp only [Ao,BC,Nat.reduceEqDiff,↓reduceIte,E.e69],by simp only [Ao,BC,Nat.reduceEqDiff,↓reduceIte,E.e70],by simp only [Ao,BC,Nat.reduceEqDiff,↓reduceIte,E.e71]⟩ ⟨I.len,fun j v w p q hv hw hp hq=>XP j (List.getElem?_eq_some_iff.1 hv).1 v w p q hv hw hp hq⟩
 have hO:=List.getElem?_eq_getElem Au; have hM:=List.getElem?_eq_getElem (show i<M.length by rw [←I.len]; exact Au); generalize O[i]=v at hO; generalize M[i]'(by rw [←I.len]; exact Au)=w at hM; have py:=I.fO.low v (List.mem_of_getElem? hO); have Wf:=I.fO.high v (List.mem_of_getElem? hO); have hw0:=I.fM.low w (List.mem_of_getElem? hM); have Dz:=I.fM.high w (List.mem_of_getElem? hM); obtain ⟨nv,kj⟩:∃ nv:Nat,v=((nv+1:Nat):Int):=⟨(v-1).toNat,by omega⟩
 obtain ⟨nw,Su⟩:∃ nw:Nat,w=((nw+1:Nat):Int):=⟨(w-1).toNat,by omega⟩
 subst kj; subst Su; have cw:=I.kl; have hp:=List.getElem?_eq_getElem (show nv<h.length by omega); have hq:=List.getElem?_eq_getElem (show nw<k.length by omega); generalize h[nv]'(by omega)=p at hp; generalize k[nw]'(by omega)=q at hq
 have zd:ATh c h O k M i↔fq c O M p q:=by
  constructor
  ·intro ha; exact ha _ _ p q hO hM (by rw [show (((nv+1:Nat):Int)-1).toNat=nv by omega]; exact hp) (by rw [show (((nw+1:Nat):Int)-1).toNat=nw by omega]; exact hq)
  ·intro ha v' w' p' q' h1 h2 h3 h4; rw [hO] at h1; cases h1; rw [hM] at h2; cases h2; rw [show (((nv+1:Nat):Int)-1).toNat=nv by omega,hp] at h3; cases h3; rw [show (((nw+1:Nat):Int)-1).toNat=nw by omega,hq] at h4; cases h4; exact ha
 obtain ⟨ix,s,P⟩:=DK (I.HD p (List.mem_of_getElem? hp)); obtain ⟨iy,s',Q⟩:=DK (I.kth q (List.mem_of_getElem? hq)); obtain ⟨ao,o1,o2⟩:=pQ I.top I.wl.own hO; obtain ⟨am,m1,m2⟩:=pQ I.top I.wm.own hM; obtain ⟨ap,vp,p1,p2,p3⟩:=fp I.top I.hh hp; obtain ⟨aq,vq,q1,q2,q3⟩:=fp I.top I.kk hq; have zc:∀ W',Kp A W'→ld prog 89 (.pointer (some ⟨Vf,0,none⟩)) W'=some (.pointer (some ⟨bm,0,none⟩)):=fun W' kk=>AB uF (a:=⟨Vf,0,none⟩) (kk.cell I.top (I.p17.cell rfl)); have lvm:∀ W',Kp A W'→ld prog 40 (.pointer (some ⟨bm,0,none⟩)) W'=some vm:=fun W' kk=>AB M7 (a:=⟨bm,0,none⟩) (kk.cell I.top (I.wm.w.cell rfl)); have zA:=kA.sz; have k1:Kp W (W.new (.cells .nil 2 #[.string ⟨#[]⟩,.slice none 0 0] 56)):=.new _; have t1:=ht.new (.cells .nil 2 #[.string ⟨#[]⟩,.slice none 0 0] 56); have wy:(W.new (.cells .nil 2 #[.string ⟨#[]⟩,.slice none 0 0] 56)).obj W.sz=some (.cells .nil 2 #[.string ⟨#[]⟩,.slice none 0 0] 56):=by rw [BK,if_pos rfl]
 have Vs:(W.new (.cells .nil 2 #[.string ⟨#[]⟩,.slice none 0 0] 56)).sz=W.sz+1:=rfl; have Zd:∀ W0:CW,W0.obj W.sz=some (.cells .nil 2 #[.string ⟨#[]⟩,.slice none 0 0] 56)→G5 (.pointer (some ⟨W.sz,0,none⟩)) ((W.new (.cells .nil 2 #[.string ⟨#[]⟩,.slice none 0 0] 56)).obj W.sz) W0=true:=fun W0 h0=>GI h0 rfl; generalize kq:W.new (.cells .nil 2 #[.string ⟨#[]⟩,.slice none 0 0] 56)=W1 at k1 t1 wy Vs Zd ⊢; have k2:Kp W1 (W1.new (.cells .nil 2 #[.string ⟨#[]⟩,.slice none 0 0] 56)):=.new _; have t2:=t1.new (.cells .nil 2 #[.string ⟨#[]⟩,.slice none 0 0] 56); have cY:(W1.new (.cells .nil 2 #[.string ⟨#[]⟩,.slice none 0 0] 56)).obj W1.sz=some (.cells .nil 2 #[.string ⟨#[]⟩,.slice none 0 0] 56):=by rw [BK,if_pos rfl]
 have cW:(W1.new (.cells .nil 2 #[.string ⟨#[]⟩,.slice none 0 0] 56)).sz=W1.sz+1:=rfl; have Xw:∀ W0:CW,W0.obj W1.sz=some (.cells .nil 2 #[.string ⟨#[]⟩,.slice none 0 0] 56)→G5 (.pointer (some ⟨W1.sz,0,none⟩)) ((W1.new (.cells .nil 2 #[.string ⟨#[]⟩,.slice none 0 0] 56)).obj W1.sz) W0=true:=fun W0 h0=>GI h0 rfl; generalize hW2:W1.new (.cells .nil 2 #[.string ⟨#[]⟩,.slice none 0 0] 56)=W2 at k2 t2 cY cW Xw ⊢; have fx:W2.obj W.sz=some (.cells .nil 2 #[.string ⟨#[]⟩,.slice none 0 0] 56):=by rw [k2.obj _ (by omega)]; exact wy
 have mkB:∀ b,W2.obj b=some (.cells .nil 2 #[.string ⟨#[]⟩,.slice none 0 0] 56)→As W2 b 56 [.string ⟨#[]⟩,.slice none 0 0]:=fun b hb=>⟨.nil,2,_,hb,rfl,fun k v hk=>by
  match k,hk with
  | 0,hk=>cases hk; rfl
  | 1,hk=>cases hk; rfl⟩
 have B1:=mkB _ fx; have B2:=mkB _ cY; have SZ:=(kA.trans k1).trans k2; rw [o1]; simp only [AA,o2 W kA,D7]; rw [show ((nv+1:Nat):Int)-1=(nv:Nat) by omega,wrap64 (by omega) (by omega),p1]; simp only [AA,p2 W2 SZ,zc W2 SZ,CO,Kr,lvm W2 SZ,m1,m2 W2 SZ,D7]; rw [show ((nw+1:Nat):Int)-1=(nw:Nat) by omega,wrap64 (by omega) (by omega),q1]; simp only [AA,q2 W2 SZ]; refine ⟨trivial,trivial,?_⟩; obtain ⟨au,cs,rfl,_⟩:=id p3; obtain ⟨au',WO,rfl,_⟩:=id q3; refine DF Ia (a:=⟨W.sz,0,none⟩) (ws:=[.string p.type,.slice au p.AH.length cs]) rfl rfl B1 (by simp) fun W3 OW Fg=>?_; have OW:DO W.sz W2 W3:=OW; have Fg:As W3 W.sz 56 [.string p.type,.slice au p.AH.length cs]:=Fg; have t3:=t2.A5 (by omega) OW; have B23:=B2.congr (OW.obj _ (by omega)); refine DF Ia (a:=⟨W1.sz,0,none⟩) (ws:=[.string q.type,.slice au' q.AH.length WO]) rfl rfl B23 (by simp) fun W4 j4 Il=>?_; have j4:DO W1.sz W3 W4:=j4; have Il:As W4 W1.sz 56 [.string q.type,.slice au' q.AH.length WO]:=Il; have t4:=t3.A5 (by rw [OW.sz]; omega) j4; have oF:=Fg.congr (j4.obj _ (by omega)); have fe:Kp A W3:=SZ.A5 (by omega) OW; have uc:Kp A W4:=fe.A5 (by omega) j4; refine ⟨by simp only [p2 W2 SZ,zc W2 SZ,lvm W2 SZ,m2 W2 SZ,q2 W2 SZ,zc W3 fe,lvm W3 fe,m2 W3 fe,q2 W3 fe,and_self],by simp only [Zd W2 fx,Xw W2 cY,and_self],?_⟩
 have gM:Marks A.sz W4 ds:=hm.EG fun j hj _=>by
  have:=ht _ _ hj; rw [j4.obj _ (by omega),OW.obj _ (by omega),k2.obj _ (by omega),k1.obj _ this]; exact hj
 have k33:∀ (e2:Env) (bad:Bool),e2 105=.bool bad→zZ e2 CU JA J7 H9 Vf vl v1 v3 O.length i→e2 20=.pointer (some ⟨W.sz,0,none⟩)→e2 21=.pointer (some ⟨W1.sz,0,none⟩)→(bad=true↔¬(p.type=q.type∧p.AH.length=q.AH.length)) →
   (Tn none (KY (fun i e' DN W'=>Kp A W'∧Al W'∧Marks A.sz W' DN∧zZ e' CU JA J7 H9 Vf vl v1 v3 O.length i∧∀ j,j<i→ATh c h O k M j) i O.length K)) .normal e2 ds W4:=by
  intro e2 bad AFj E2 h20 h21 FY; simp only [Tn,B_,AFj]
  refine AP (fun hb=>?_) (fun hb=>?_)
  ·rw [E2.Vd,E2.SX]; refine pW I uc t4 fun W5 hs hc=>?_; simp only [NK,NJ,Lm,Wt,Sz,HB,Vb,qB]; refine H' _ ds W5 hs (gM.EG fun j hj _=>by rw [hc.obj _ (t4 _ _ hj) (I.nd uc j hj)]; exact hj) E2.Vd E2.SX fun hA=>?_; have:=zd.1 fun v w p q=>hA.2 i v w p q; exact FY.1 hb ⟨this.1,this.2.1⟩
  ·have hb:p.type=q.type∧p.AH.length=q.AH.length:=Classical.byContradiction fun hn=>by
    have:=FY.2 hn; rw [hb] at this
    cases this
   refine fw I uc t4 gM E2 h20 h21 oF Il (p3.imp fun _ _ _ hr=>hr.kp I.top uc) (q3.imp fun _ _ _ hr=>hr.kp I.top uc) P hb.2 (by omega) (fun e' DN W' hs mR nW uS hx=>?_) (fun e' DN W' k' t' mR E' hv=>?_)
   ·simp only [Vb]; refine H' e' DN W' hs mR nW uS fun hA=>?_; obtain ⟨m,Nx,Dm⟩:=hx; have:=zd.1 fun v w p q=>hA.2 i v w p q; exact Dm fun x y hx hy=>this.2.2 m ix x y P.ti hx hy
   ·refine ⟨Au,k',t',mR,E',fun j hj=>?_⟩
    by_cases e:j=i
    ·subst e; refine zd.2 ⟨hb.1,hb.2,fun m ix' x y IJ hx hy=>?_⟩; rw [P.ti] at IJ; cases IJ; exact hv m (List.getElem?_eq_some_iff.1 hx).1 x y hx hy
    ·exact XP j (by omega)
 have lt:ld prog 9 (.pointer (some ⟨W.sz,0,none⟩)) W4=some (.string p.type):=AB a9 (a:=⟨W.sz,0,none⟩) (oF.cell rfl); have lt':ld prog 9 (.pointer (some ⟨W1.sz,0,none⟩)) W4=some (.string q.type):=AB a9 (a:=⟨W1.sz,0,none⟩) (Il.cell rfl); have lv:ld prog 40 (.pointer (some ⟨W.sz,0+1,none⟩)) W4=some (.slice au p.AH.length cs):=AB M7 (a:=⟨W.sz,0+1,none⟩) (oF.cell rfl); have lv':ld prog 40 (.pointer (some ⟨W1.sz,0+1,none⟩)) W4=some (.slice au' q.AH.length WO):=AB M7 (a:=⟨W1.sz,0+1,none⟩) (Il.cell rfl); simp only [F1,D1,lt,lt',AA,RB,PF,lv,lv',Ah H3,DI]
 refine AP (fun hb=>?_) (fun hb=>?_)
 ·have hb:¬p.type=q.type:=by simpa using hb
  exact k33 _ true (by simp only [Ao,↓reduceIte]) ⟨by simp only [Ao,BC,Nat.reduceEqDiff,↓reduceIte,E.e1],by simp only [Ao,BC,Nat.reduceEqDiff,↓reduceIte,E.e3],by simp only [Ao,BC,Nat.reduceEqDiff,↓reduceIte,E.Vd],by simp only [Ao,BC,Nat.reduceEqDiff,↓reduceIte,E.SX],by simp only [Ao,BC,Nat.reduceEqDiff,↓reduceIte,E.pU],by simp only [Ao,BC,Nat.reduceEqDiff,↓reduceIte,E.e16],by simp only [Ao,BC,Nat.reduceEqDiff,↓reduceIte,E.e17],by simp only [Ao,BC,Nat.reduceEqDiff,↓reduceIte,E.e69],by simp only [Ao,BC,Nat.reduceEqDiff,↓reduceIte,E.e70],by simp only [Ao,BC,Nat.reduceEqDiff,↓reduceIte,E.e71]⟩ (by simp only [Ao,Nat.reduceEqDiff,↓reduceIte]) (by simp only [Ao,Nat.reduceEqDiff,↓reduceIte]) ⟨fun _ hh=>hb hh.1,fun _=>rfl⟩
 ·have hb:p.type=q.type:=by simpa using hb
  refine k33 _ ((p.AH.length:Int) != (q.AH.length:Int)) (by simp only [Ao,↓reduceIte]) ⟨by simp only [Ao,BC,Nat.reduceEqDiff,↓reduceIte,E.e1],by simp only [Ao,BC,Nat.reduceEqDiff,↓reduceIte,E.e3],by simp only [Ao,BC,Nat.reduceEqDiff,↓reduceIte,E.Vd],by simp only [Ao,BC,Nat.reduceEqDiff,↓reduceIte,E.SX],by simp only [Ao,BC,Nat.reduceEqDiff,↓reduceIte,E.pU],by simp only [Ao,BC,Nat.reduceEqDiff,↓reduceIte,E.e16],by simp only [Ao,BC,Nat.reduceEqDiff,↓reduceIte,E.e17],by simp only [Ao,BC,Nat.reduceEqDiff,↓reduceIte,E.e69],by simp only [Ao,BC,Nat.reduceEqDiff,↓reduceIte,E.e70],by simp only [Ao,BC,Nat.reduceEqDiff,↓reduceIte,E.e71]⟩ (by simp only [Ao,Nat.reduceEqDiff,↓reduceIte]) (by simp only [Ao,Nat.reduceEqDiff,↓reduceIte]) ⟨fun h1 hh=>?_,fun h1=>?_⟩
  ·rw [hh.2] at h1; simp at h1
  ·simp only [bne_iff_ne,ne_eq]; intro e; exact h1 ⟨hb,by omega⟩
end
end Go.Ce
namespace Go.Ce
open Go Go.Proofs Go.Proofs.Tryz
theorem s89:DM prog 89=some 1:=by kernel_rfl
theorem AFk:agg? prog 30=some false:=by kernel_rfl
theorem pY (r1 r2:Nat) (a:Option Addr) (n m:Nat):QF prog 131 [(0,.agg [.map (some r1),.map (some r2)].toArray),(1,.slice a n m)]=some (.agg #[.map (some r1),.map (some r2),.slice a n m]):=by kernel_rfl
theorem cO:Tryz.f20.results.toList=[.cell 10 4,.cell 11 30]:=by kernel_rfl
theorem pZ {W:CW} {b k:Nat} {v:Value} (h:W.cell b k=some v):∃ o,W.obj b=some o∧o≠.deferred:=by
 unfold CW.cell at h
 cases ho:W.obj b with
 | none=>rw [ho] at h; cases h
 | some o=>exact ⟨o,rfl,fun e=>by subst e; rw [ho] at h; cases h⟩
theorem Xa {c:List Ad} {h:List BM} {root:Int} (hz:C8 c h root=0):BL c=true∧(¬ER c h≥0)∧0≤root∧root≤h.length:=by
 unfold C8 at hz
 split at hz
 ·rename_i h1
  split at hz
  ·cases hz
  ·rename_i h2
   split at hz
   ·cases hz
   ·rename_i h3; exact ⟨h1,h2,by omega,by omega⟩
 ·cases hz
def G8 (c:List Ad) (h:List BM) (a:Int) (k:List BM) (b:Int):Int:=if C8 c h a≠0 then C8 c h a else C8 c k b
def Xb (c:List Ad) (h:List BM) (a:Int) (k:List BM) (b:Int) (W:CW):Ending→CW→Prop:=fun en W'=>Kp W W'∧Al W'∧∃ q,en=.returned (.tuple #[.bool q,.int .i64 (G8 c h a k b)])∧(G8 c h a k b≠0→q=false)∧(G8 c h a k b=0→(q=true↔Ob c h (Ab c [] h a) k (Ab c [] k b)))
theorem fy {v0 v1 v3:Value} {c:List Ad} {h k:List BM} {a b:Int} {W:CW} (ht:Al W) (hc:Ax 5 (Lu W) v0 c) (hC:OP c) (hh:Ax 2 (IZ W) v1 h) (hk:Ax 2 (IZ W) v3 k) (hv:∀ x,x ∈ h→x.AH.length<100000) (kv:∀ x,x ∈ k→x.AH.length<100000) (hs:h.length<1000000) (ks:k.length<1000000) :
  AF prog AV 20 [v0,v1,.int .i64 a,v3,.int .i64 b] W (Xb c h a k b W):=by
 refine AC5 ?_; rw [AC4]; generalize Jq:AI prog Tryz.f20 (Xb c h a k b W)=KK; obtain ⟨ah,ch,rfl,_⟩:=id hh; obtain ⟨ak,ck,rfl,_⟩:=id hk; refine Gx z4 s4 ht fun W0 k0 t0 z0 Mj=>?_; have Mj:As W0 W.sz 4 [.bool false]:=Mj; refine Gx z30 uP t0 fun W1 k1 t1 z1 V_=>?_; have V_:As W1 W0.sz 30 [.int .i64 0]:=V_; have Mj:=Mj.ext t0 k1; have oJ:=k0.trans k1
 have fin:∀ (e:Env) (ds:List Deferred) (W':CW) (q:Bool),Kp W W'→Al W'→Marks W.sz W' ds→W'.cell W.sz 0=some (.bool q)→W'.cell W0.sz 0=some (.int .i64 (G8 c h a k b))→e 10=.pointer (some ⟨W.sz,0,none⟩)→e 11=.pointer (some ⟨W0.sz,0,none⟩)→(G8 c h a k b≠0→q=false)→(G8 c h a k b=0→(q=true↔Ob c h (Ab c [] h a) k (Ab c [] k b)))→KK .ret e ds W':=by
  intro e ds W' q k' t' hm c10 c11 rZ uT vJ mK; rw [←Jq]; refine Mn t' hm fun W2 g1 g2 g3 t2=>?_
  have cc:∀ {b v},W'.cell b 0=some v→W2.cell b 0=some v:=fun {b v} hb=>by
   obtain ⟨o,ho,Dm⟩:=pZ hb; rw [LP ((g1 b o ho Dm).trans ho.symm)]; exact hb
  refine cJ cO rZ uT (AB a4 (a:=⟨W.sz,0,none⟩) (cc c10)) (AB AFk (a:=⟨W0.sz,0,none⟩) (cc c11)) ?_; exact ⟨⟨by rw [g3]; exact k'.sz,fun j hj=>by rw [g2 j hj]; exact k'.obj j hj⟩,t2,q,rfl,vJ,mK⟩
 have stop:∀ (e:Env) (W':CW) (er:Int),Kp W1 W'→Al W'→er=G8 c h a k b→e 10=.pointer (some ⟨W.sz,0,none⟩)→e 11=.pointer (some ⟨W0.sz,0,none⟩)→(er=0→¬Ob c h (Ab c [] h a) k (Ab c [] k b)) →
   wV (CE prog 4 (.pointer (some ⟨W.sz,0,none⟩)) (.bool false) W') fun W6=>wV (CE prog 30 (.pointer (some ⟨W0.sz,0,none⟩)) (.int .i64 er) W6) fun W7=>KK .ret e [] W7:=by
  intro e W' er k' t' her rZ uT hn; have zW:=k'.sz; have cP:=Mj.ext t1 k'; have XZ:=V_.ext t1 k'; refine Af s4 (a:=⟨W.sz,0,none⟩) rfl cP (by simp) fun W6 cN ze=>?_; have cN:DO W.sz W' W6:=cN; have ze:As W6 W.sz 4 [.bool false]:=ze; have cQ:=XZ.congr (cN.obj _ (by omega)); refine Af uP (a:=⟨W0.sz,0,none⟩) rfl cQ (by simp) fun W7 ZD zf=>?_; have ZD:DO W0.sz W6 W7:=ZD; have zf:As W7 W0.sz 30 [.int .i64 er]:=zf; have t6:=t'.A5 (cP.lt t') cN; refine fin e [] W7 false (((oJ.trans k').A5 (Nat.le_refl _) cN).A5 k0.sz ZD) (t6.A5 (cQ.lt t6) ZD) (.nil _ _) ((ze.congr (ZD.obj _ (by omega))).cell rfl) (by rw [←her]; exact zf.cell rfl) rZ uT (fun _=>rfl) fun hz=>⟨fun hf=>(by cases hf),fun hA=>(hn (her.trans hz) hA).elim⟩
 refine (RT t1 (hc.imp fun _ _ _ hr=>hr.kp ht oJ) hC (hh.imp fun _ _ _ hr=>hr.kp ht oJ) hv hs).mono fun en W2 ⟨k2,t2,r1,r2,Ef,EB⟩=>?_; subst Ef; refine AZ ?_; refine Ay (Be _ _) ?_; refine Ay (Bf _ _) ?_; unfold H6; refine CZ (ws:=[.map (some r1),.map (some r2)]) nZ NV rfl rfl rfl t2 fun W5 k5 t5 z5 Yr=>?_; have c_:=k2.trans k5; simp only [DI,AA]
 refine AP (fun he=>?_) (fun he=>?_)
 ·have he:C8 c h a≠0:=by simpa using he
  exact stop _ W5 _ c_ t5 (by unfold G8; rw [if_pos he]) rfl rfl fun hz=>(he hz).elim
 have he:C8 c h a=0:=by simpa using he
 have k05:=oJ.trans c_; refine (RT t5 (hc.imp fun _ _ _ hr=>hr.kp ht k05) hC (hk.imp fun _ _ _ hr=>hr.kp ht k05) kv ks).mono fun en W8 ⟨k8,t8,r1',r2',Ef,AF2⟩=>?_; subst Ef; refine AZ ?_; refine Ay (Be _ _) ?_; refine Ay (Bf _ _) ?_; unfold H6; refine CZ (ws:=[.map (some r1'),.map (some r2')]) nZ NV rfl rfl rfl t8 fun Dd k11 t11 z11 _=>?_; have k1B:=(c_.trans k8).trans k11; simp only [DI,AA]
 refine AP (fun kh=>?_) (fun kh=>?_)
 ·have kh:C8 c k b≠0:=by simpa using kh
  exact stop _ Dd _ k1B t11 (by unfold G8; rw [if_neg (by simpa using he)]) rfl rfl fun hz=>(kh hz).elim
 have kh:C8 c k b=0:=by simpa using kh
 have haE:(0:Int)=G8 c h a k b:=by unfold G8; rw [if_neg (by simpa using he),kh]
 obtain ⟨Ac,Yt,ha0,DC⟩:=Xa he; obtain ⟨_,AFl,qR,WT⟩:=Xa kh; obtain ⟨JV,HD⟩:=ES Yt; obtain ⟨AC_,kth⟩:=ES AFl; have ue:=EB Ac; have n1:Kp Dd (Dd.new (.cells .nil 1 #[.pointer none] 89)):=.new _; have tn1:=t11.new (.cells .nil 1 #[.pointer none] 89); have wy:(Dd.new (.cells .nil 1 #[.pointer none] 89)).obj Dd.sz=some (.cells .nil 1 #[.pointer none] 89):=by rw [BK,if_pos rfl]
 have Vs:(Dd.new (.cells .nil 1 #[.pointer none] 89)).sz=Dd.sz+1:=rfl; have Zd:∀ V:CW,V.obj Dd.sz=some (.cells .nil 1 #[.pointer none] 89)→G5 (.pointer (some ⟨Dd.sz,0,none⟩)) ((Dd.new (.cells .nil 1 #[.pointer none] 89)).obj Dd.sz) V=true:=fun V h0=>GI h0 rfl; generalize hV1:Dd.new (.cells .nil 1 #[.pointer none] 89)=V1 at n1 tn1 wy Vs Zd ⊢; have n2:Kp V1 (V1.new (.cells .nil 1 #[.pointer none] 89)):=.new _; have tn2:=tn1.new (.cells .nil 1 #[.pointer none] 89); have cY:(V1.new (.cells .nil 1 #[.pointer none] 89)).obj V1.sz=some (.cells .nil 1 #[.pointer none] 89):=by rw [BK,if_pos rfl]
 have cW:(V1.new (.cells .nil 1 #[.pointer none] 89)).sz=V1.sz+1:=rfl; have Xw:∀ V:CW,V.obj V1.sz=some (.cells .nil 1 #[.pointer none] 89)→G5 (.pointer (some ⟨V1.sz,0,none⟩)) ((V1.new (.cells .nil 1 #[.pointer none] 89)).obj V1.sz) V=true:=fun V h0=>GI h0 rfl; generalize hV2:V1.new (.cells .nil 1 #[.pointer none] 89)=V2 at n2 tn2 cY cW Xw ⊢; have fx:V2.obj Dd.sz=some (.cells .nil 1 #[.pointer none] 89):=by rw [n2.obj _ (by omega)]; exact wy
 have mkB:∀ b,V2.obj b=some (.cells .nil 1 #[.pointer none] 89)→As V2 b 89 [.pointer none]:=fun b hb=>⟨.nil,1,_,hb,rfl,fun k v hk=>by
  match k,hk with
  | 0,hk=>cases hk; rfl⟩
 have n12:=n1.trans n2; have k5V:Kp W5 V2:=(k8.trans k11).trans n12; have l12:∀ V,Kp W5 V→ld prog 78 (.pointer (some ⟨W2.sz,0,none⟩)) V=some (.agg [.map (some r1),.map (some r2)].toArray):=fun V kk=>BO (vs:=[.map (some r1),.map (some r2)]) (a:=⟨W2.sz,0,none⟩) lC NV rfl (by omega) (Yr.ext t5 kk).cells; have kWV:Kp W V2:=k05.trans k5V; have uf:Dr V2 r1 r2 c:=ue.kp t2 (k5.trans k5V); rw [l12 V2 k5V]; simp only [AA,pY]; refine (XY tn2 uf Ac hC (hh.imp fun _ _ _ hr=>hr.kp ht kWV) HD (by omega) ha0 DC).mono fun en MR ⟨fI,t14,bl,rl,vl,Ef,Vc,zbl,zrl,nvl,hFl⟩=>?_; subst Ef; refine AZ ?_; have ADA:=k5V.trans fI; rw [l12 MR ADA]; simp only [AA,pY]; refine (XY t14 (uf.kp tn2 fI) Ac hC (hk.imp fun _ _ _ hr=>hr.kp ht (kWV.trans fI)) kth (by omega) qR WT).mono fun en CQ ⟨k16,t16,bm,rm,vm,Ef,hwm,zbm,zrm,nvm,hFm⟩=>?_; subst Ef; refine AZ ?_; have kN:=fI.trans k16; have AGm:=kN.sz; have AGn:=fI.sz; have AGo:=k1B.sz; refine ⟨trivial,trivial,?_⟩; refine Af s89 (a:=⟨Dd.sz,0,none⟩) (v:=.pointer (some ⟨bl,0,none⟩)) rfl ((mkB _ fx).ext tn2 kN) (by simp) fun L5 fz WB=>?_; have fz:DO Dd.sz CQ L5:=fz; have WB:As L5 Dd.sz 89 [.pointer (some ⟨bl,0,none⟩)]:=WB; have t18:=t16.A5 (by omega) fz; have kO:=((mkB _ cY).ext tn2 kN).congr (fz.obj _ (by omega)); refine Af s89 (a:=⟨V1.sz,0,none⟩) (v:=.pointer (some ⟨bm,0,none⟩)) rfl kO (by simp) fun A kP kO=>?_; have kP:DO V1.sz L5 A:=kP; have kO:As A V1.sz 89 [.pointer (some ⟨bm,0,none⟩)]:=kO; have tA:=t18.A5 (by rw [fz.sz]; omega) kP; have WB:=WB.congr (kP.obj _ (by omega)); have oA:∀ j,j≠Dd.sz→j≠V1.sz→A.obj j=CQ.obj j:=fun j h1 h2=>by rw [kP.obj j h2,fz.obj j h1]
 have kA:Kp Dd A:=((n12.trans kN).A5 (Nat.le_refl _) fz).A5 (by omega) kP; refine ⟨by simp only [l12 MR ADA,l12 V2 k5V,and_self],by simp only [Zd V2 fx,Xw V2 cY,Zd MR (by rw [fI.obj _ (by omega)]; exact fx),Xw MR (by rw [fI.obj _ (by omega)]; exact cY),Zd CQ (by rw [kN.obj _ (by omega)]; exact fx),Xw CQ (by rw [kN.obj _ (by omega)]; exact cY),and_self],?_⟩
 have wkA:∀ {V:CW} {bw rp:Nat} {vo:Value} {o:List Int},Kp V CQ→Al V→Mg V bw rp vo o→V2.sz≤bw→V2.sz≤rp→CC V2.sz vo→Mg A bw rp vo o:=fun {V bw rp vo o} kk tt hw z1 z2 nv=>by
  have hw:=hw.kp tt kk; refine ⟨hw.w.congr (oA _ (by omega) (by omega)),N0 hw.own fun j hj=>?_,hw.p.congr (oA _ (by omega) (by omega))⟩; obtain ⟨b',l',c',e1,e2⟩:=hj; have:=nv b' l' c' e1; exact oA _ (by omega) (by omega)
 have wl:=wkA k16 t14 Vc zbl zrl nvl; have wm:=wkA (.refl _) t16 hwm (by omega) (by omega) fun b' l' c' e1=>by have:=nvm b' l' c' e1; omega
 have k5A:Kp W5 A:=(k8.trans k11).trans kA; have zg:=k1B.trans kA; have l16:ld prog 89 (.pointer (some ⟨Dd.sz,0,none⟩)) A=some (.pointer (some ⟨bl,0,none⟩)):=AB uF (a:=⟨Dd.sz,0,none⟩) (WB.cell rfl); have zc:ld prog 89 (.pointer (some ⟨V1.sz,0,none⟩)) A=some (.pointer (some ⟨bm,0,none⟩)):=AB uF (a:=⟨V1.sz,0,none⟩) (kO.cell rfl); have lvl:ld prog 40 (.pointer (some ⟨bl,0,none⟩)) A=some vl:=AB M7 (a:=⟨bl,0,none⟩) (wl.w.cell rfl); have lvm:ld prog 40 (.pointer (some ⟨bm,0,none⟩)) A=some vm:=AB M7 (a:=⟨bm,0,none⟩) (wm.w.cell rfl); simp only [l16,zc,CO,Kr,lvl,lvm,AA,PI H3 wl.own,PI H3 wm.own,Ih,DI]; refine ⟨by simp only [and_self],trivial,?_⟩
 refine AP (fun hl=>?_) (fun hl=>?_)
 ·refine stop _ A 0 zg tA haE rfl rfl fun _ hA=>?_; have hA:=hA.1; rw [hA] at hl; simp at hl
 have hl:(Ab c [] h a).length=(Ab c [] k b).length:=by
  have:((Ab c [] h a).length:Int)=((Ab c [] k b).length:Int):=by simpa using hl
  omega
 have I:ua A W.sz W0.sz W2.sz Dd.sz V1.sz bl rl bm rm r1 r2 vl vm (.slice ah h.length ch) (.slice ak k.length ck) c h k (Ab c [] h a) (Ab c [] k b) :=
  ⟨tA,Mj.ext t1 zg,V_.ext t1 zg,Yr.ext t5 k5A,WB,kO,wl,wm,ue.kp t2 (k5.trans k5A),hh.imp fun _ _ _ hr=>hr.kp ht (oJ.trans zg),hk.imp fun _ _ _ hr=>hr.kp ht (oJ.trans zg),Ac,hC,HD,kth,hFl,hFm,JV,AC_,hl⟩
 have hmW:∀ W' ds,Marks A.sz W' ds→Marks W.sz W' ds:=fun W' ds ⟨rs,g1,g2,g3⟩=>⟨rs,g1,g2,fun r hr=>⟨(g3 r hr).1,by have:=(g3 r hr).2; have:=(oJ.trans zg).sz; omega⟩⟩
 have kWA:=oJ.trans zg; have zWA:=kWA.sz
 refine pX I ⟨rfl,rfl,rfl,rfl,rfl,rfl,rfl,rfl,rfl,rfl⟩ (fun e' DN W' Jf mR nW uS hnA=>?_) (fun e' DN W' k' t' mR E' hA=>?_)
 ·simp only [Lm,Sz,Y4]; refine fin e' DN W' false (Bq.kp kWA Jf.1 ?_) Jf.2.1 (hmW _ _ mR) Jf.2.2.1 (by rw [←haE]; exact Jf.2.2.2) nW uS (fun _=>rfl) fun _=>⟨fun hf=>(by cases hf),fun hA=>(hnA hA).elim⟩
  rintro j (rfl | rfl)
  ·exact Nat.le_refl _
  ·exact k0.sz
 ·simp only [M6,if_true,Y4,B_]; rw [E'.Vd,E'.SX]; have cP:=I.CU.ext tA k'; have XZ:=I.JA.ext tA k'; refine Af s4 (a:=⟨W.sz,0,none⟩) (v:=.bool true) rfl cP (by simp) fun W6 cN ze=>?_; have cN:DO W.sz W' W6:=cN; have ze:As W6 W.sz 4 [.bool true]:=ze; have cQ:=XZ.congr (cN.obj _ (by omega)); refine Af uP (a:=⟨W0.sz,0,none⟩) (v:=.int .i64 0) rfl cQ (by simp) fun W7 ZD zf=>?_; have ZD:DO W0.sz W6 W7:=ZD; have zf:As W7 W0.sz 30 [.int .i64 0]:=zf; have t6:=t'.A5 (cP.lt t') cN; refine fin e' DN W7 true (((kWA.trans k').A5 (Nat.le_refl _) cN).A5 k0.sz ZD) (t6.A5 (cQ.lt t6) ZD) ((hmW _ _ mR).EG fun j hj _=>?_) ((ze.congr (ZD.obj _ (by omega))).cell rfl) (by rw [←haE]; exact zf.cell rfl) E'.Vd E'.SX (fun Dm=>(Dm haE.symm).elim) fun _=>⟨fun _=>hA,fun _=>rfl⟩
  have:=I.nd k' j hj; rw [ZD.obj _ (by omega),cN.obj _ (by omega)]; exact hj
theorem f_ {v0 v1:Value} {c:List Ad} {h:List BM} {W:CW} (ht:Al W) (hc:Ax 5 (Lu W) v0 c) (hC:OP c) (hh:Ax 2 (IZ W) v1 h) (hv:∀ x,x ∈ h→x.AH.length<100000) (hs:h.length<1000000) :
  AF prog AV 27 [v0,v1] W (rF (if BL c then (if ER c h≥0 then .tuple #[.int .i64 (ER c h),.int .i64 211] else .tuple #[.int .i64 0,.int .i64 0]) else .tuple #[.int .i64 0,.int .i64 210]) W):=by
 refine AC7 ?_; rw [AC6]; refine (Md ht hc hC).mono fun en W1 ⟨k1,t1,r1,r2,Ef,HZ,NW,EB⟩=>?_; subst Ef; refine AZ ?_; refine Ay (Be _ _) ?_; refine Ay (Bf _ _) ?_; unfold H6; refine CZ (ws:=[.map (some r1),.map (some r2)]) nZ NV rfl rfl rfl t1 fun W3 k3 t3 z3 Is=>?_; have qH:=k1.trans k3; simp only [Ai,AA]
 cases Ac:BL c with
 | false =>
  simp only [Bool.not_false,Bh]; rw [R0]; exact ⟨rfl,qH,t3⟩
 | true =>
  simp only [Bool.not_true,Ar]; have Lo:=(EB Ac).kp t1 k3; rw [BO (vs:=[.map (some r1),.map (some r2)]) (a:=⟨W1.sz,0,none⟩) lC NV rfl (by omega) Is.cells]; simp only [AA]; refine (bD (r1:=r1) (r2:=r2) t3 Lo Ac hC (hh.imp fun _ _ _ hr=>hr.kp ht qH) hv hs).mono fun en W4 ⟨Ef,k4,t4⟩=>?_; subst Ef; refine AZ ?_; simp only [HM,AA]
  refine AP (fun hi=>?_) (fun hi=>?_)
  ·have hi:ER c h≥0:=by simpa using hi
   rw [R0,if_pos hi]; exact ⟨rfl,qH.trans k4,t4⟩
  ·have hi:¬ER c h≥0:=by simpa using hi
   rw [R0,if_neg hi]; exact ⟨rfl,qH.trans k4,t4⟩
end Go.Ce
namespace Go.Ce
open Go Go.Proofs Go.Proofs.Tryz
theorem ADB (v0:Value) (K:AG) (W:CW):AK prog AV none 83 8 (AM prog 83) (Env.args [v0]) [] W K=(wV (AU prog .eql 29 true v0 (.slice none 0 0)) fun v4=>wI v4 (K .ret (Env.of (Env.args [v0]) [(2,(.slice none 0 0)),(4,v4),(3,v0),(2,(.slice none 0 0))]) [] W) (Bw (V3 prog 29 0 [] W) fun v5 W0=>Bw (app prog [29,29] v5 v0 W0) fun v7 W1=>K .ret (Env.of (Env.args [v0]) [(2,v7),(7,v7),(6,v0),(5,v5),(4,v4),(3,v0),(2,(.slice none 0 0))]) [] W1)):=by kernel_rfl
theorem Xc (Q:Ending→CW→Prop) (e:Env) (W:CW):AI prog Tryz.f83 Q .ret e [] W=Q (.returned (e 2)) W:=by kernel_rfl
theorem ADC {Q:Ending→CW→Prop} {v0:Value} {W:CW} (h:AK prog AV none 83 8 (AM prog 83) (Env.args [v0]) [] W (AI prog Tryz.f83 Q)):AF prog AV 83 [v0] W Q:=AX Tryz.func83 (by kernel_rfl) (by kernel_rfl) (by kernel_rfl) (by kernel_rfl) (by kernel_rfl) h
end Go.Ce
namespace Go.Ce
open Go Go.Proofs Go.Proofs.Tryz
theorem zh (n m:Nat):AU prog .eql 29 true (.slice none n m) (.slice none 0 0)=some (.bool true):=by kernel_rfl
theorem zi (a:Addr) (n m:Nat):AU prog .eql 29 true (.slice (some a) n m) (.slice none 0 0)=some (.bool false):=by kernel_rfl
theorem s8 {W:CW} {a:Option Addr} {n cap:Nat} {l:List Int} (h:Ax 1 (RKd W) (.slice a n cap) l):n=l.length∧(0<n→∃ p,a=some p∧Cells W p.block p.off (BB l)):=by
 obtain ⟨a',cap',he,hx⟩:=h
 cases he
 refine ⟨rfl,fun hn=>?_⟩; obtain ⟨p,rfl,_⟩:=hx 0 l[0] (List.getElem?_eq_getElem hn); refine ⟨p,rfl,fun j v hj=>?_⟩; unfold BB at hj; rw [List.getElem?_map,Option.map_eq_some_iff] at hj; obtain ⟨x,hj,rfl⟩:=hj; obtain ⟨p',e,h1⟩:=hx j x hj
 cases e
 have:W.cell p.block (p.off+j*1)=_:=h1; rw [Nat.mul_one] at this; exact this
def s_ (l:List Int) (W:CW):Ending→CW→Prop:=fun en W'=>Kp W W'∧Al W'∧∃ v,en=.returned v∧DU W' 5 1 v (BB l)
theorem gA {W:CW} {v0:Value} {l:List Int} (ht:Al W) (h:Ax 1 (RKd W) v0 l) (hl:l.length≤100000):AF prog AV 83 [v0] W (s_ l W):=by
 refine ADC ?_; rw [ADB]; obtain ⟨a,cap,rfl,hx⟩:=id h
 cases a with
 | none =>
  refine Ay (zh _ _) ?_; simp only [Bh]; rw [Xc]
  have:l=[]:=by
   cases l with
   | nil=>rfl
   | cons x l=>obtain ⟨p,e,_⟩:=hx 0 x rfl; cases e
  subst this; exact ⟨.refl _,ht,_,rfl,DU.nil⟩
 | some a =>
  refine Ay (zi _ _ _) ?_; simp only [Ar]; refine GX (zP W) ?_; have kn:Kp W (W.new (.cells (Tr.nil.Ag 0 []) 0 #[] 5)):=.new _; have tn:=ht.new (.cells (Tr.nil.Ag 0 []) 0 #[] 5); have iA:As (W.new (.cells (Tr.nil.Ag 0 []) 0 #[] 5)) W.sz 5 []:=⟨_,0,_,by rw [BK,if_pos rfl],rfl,fun k v hk=>by simp at hk⟩
  have I9:DU (W.new (.cells (Tr.nil.Ag 0 []) 0 #[] 5)) 5 1 (.slice (some ⟨W.sz,0,none⟩) 0 0) (BB []):=DU.some iA rfl; generalize W.new (.cells (Tr.nil.Ag 0 []) 0 #[] 5)=Wn at kn tn I9; obtain ⟨_,jS⟩:=s8 (h.imp fun _ _ _ hr=>kn.cell ht hr); refine rH (news:=BB l) RD rG s5 z5 rfl (by omega) by5 (by omega) tn I9 jS (Uu _) (by rw [ET]; omega) (by rw [ET]; simp only [List.length_nil]; omega) fun va W6 hp6 t6 o6 n6=>?_; have k6:Kp W W6:=hp6.kp kn (fun b l c e=>by cases e; exact Nat.le_refl _); rw [Xc]; exact ⟨k6,t6,va,rfl,o6⟩
theorem pb {W:CW} {v0:Value} {c:List Ad} {s:ByteArray} {i:Nat} (ht:Al W) (hc:Ax 5 (Lu W) v0 c) (hC:OP c) (Ac:BL c=true) (hi:A_ c s=some i):AF prog AV 26 [v0,.string s] W (fun en W'=>Kp W W'∧Al W'∧∃ v,en=.returned (.tuple #[v,.int .i64 0])∧DU W' 5 1 v (BB (Ak c i))):=by
 refine AAs ?_; rw [AAr]; refine (Md ht hc hC).mono fun en W1 ⟨k1,t1,r1,r2,Ef,HZ,NW,EB⟩=>?_; subst Ef; refine AZ ?_; refine Ay (Be _ _) ?_; refine Ay (Bf _ _) ?_; unfold H6; refine CZ (ws:=[.map (some r1),.map (some r2)]) nZ NV rfl rfl rfl t1 fun W3 k3 t3 z3 Is=>?_; have qH:=k1.trans k3; simp only [Ai,AA,Ac,Bool.not_true,Ar]; have Lo:=(EB Ac).kp t1 k3; simp only [Gj,AA]; rw [AB nU (a:=⟨W1.sz,0,none⟩) (Is.cell rfl)]; simp only [AA]; obtain ⟨ws,Wd,Vc,hwo,_⟩:=U6 Lo.sh s; rw [Wd]; simp only [AA,Be,Bf]; refine CZ (ws:=ws) ACp ACq rfl hwo Vc t3 fun W5 k5 t5 z5' PX=>?_; simp only [hi,Option.isSome_some,Ai,AA,Bool.not_true,Ar,H5]; have AFm:=Is.ext t3 k5; rw [AB rY (a:=⟨W1.sz,0+1,none⟩) (AFm.cell rfl)]; simp only [AA]; obtain ⟨a,cap,Mz,hr⟩:=(Lo.kp t3 k5).rw.some hi; rw [Mz]; simp only [AA]; have G4:=(TQ Ac (D2 hi)).1; refine (gA t5 hr (by omega)).mono fun en W6 ⟨k6,t6,v,Ef,ho⟩=>?_; subst Ef; refine AZ ?_; rw [jL]; exact ⟨(qH.trans k5).trans k6,t6,v,rfl,ho⟩
end Go.Ce
namespace Go.Ce
open Go Go.Proofs Go.Proofs.Tryz
theorem pc {P:Program} {α:Type} {R:Nat→Nat→α→Prop} {t el:TypeId} {n:Nat} {v:Value} {l:List α} (u:P.underlying t=some (.slice el)) (h:Ax n R v l) (W:CW):Aj P t v W=some (.int .i64 l.length):=by
 obtain ⟨a,cap,rfl,_⟩:=h; exact Ah u _ _ _ _
theorem cR {W:CW} {v:Value} {xs:List Bc} (h:Ax 3 (OM W) v xs) {i:Nat} {x:Bc} (hx:xs[i]?=some x):∃ q p0 p2 vv,EV prog 23 v (.int .i64 i)=some q∧A0 prog 58 q 0=some p0∧A0 prog 58 q 2=some p2∧ld prog 9 p0 W=some (.string x.type)∧ld prog 40 p2 W=some vv∧Ax 1 (De W) vv x.map:=by
 obtain ⟨a,cap,rfl,hc⟩:=h; obtain ⟨p,rfl,hr⟩:=hc i x hx; obtain ⟨vv,h1,h2,_⟩:=hr.map; exact ⟨_,_,_,vv,A8 iR ZB (List.getElem?_eq_some_iff.1 hx).1,LQ _,LS _,AB a9 (a:=⟨p.block,p.off+i*3,none⟩) hr.type,AB M7 (a:=⟨p.block,p.off+i*3+2,none⟩) h1,h2⟩
end Go.Ce
namespace Go.Ce
open Go Go.Proofs Go.Proofs.Tryz
theorem iP {W:CW} {v:Value} {l:List Int} (h:DU W 5 1 v (BB l)) (W':CW):Aj prog 29 v W'=some (.int .i64 l.length):=Hl RD h (by omega) (by rw [ET]; omega)
end Go.Ce
namespace Go.Ce
open Go Go.Proofs Go.Proofs.Tryz
theorem gB {c:List Ad} {l:List Bc} {h:List BM} {root:Int}:(∃ e:Int,e≠0∧Dg c l h root=([],e))∨(I1 c l h root=0∧Ma l h (Ab c l h root)=false∧Dg c l h root=(Ei c l h (Ab c l h root),0)):=by
 unfold Dg
 by_cases h1:I1 c l h root≠0
 ·exact .inl ⟨_,h1,by rw [if_pos h1]⟩
 ·rw [if_neg h1]
  by_cases h2:Ma l h (Ab c l h root)=true
  ·exact .inl ⟨214,by decide,by rw [if_pos h2]⟩
  ·exact .inr ⟨by simpa using h1,by simpa using h2,by rw [if_neg h2]⟩
theorem pe {s:ByteArray} (h:Fp s=true):(GZ s).length≤61:=by
 unfold Fp at h; simp only [Bool.and_eq_true,decide_eq_true_eq] at h; unfold GZ; rw [List.length_append,Tk (by omega)]
 have:(Hj s).length=s.size:=by
  unfold Hj; rw [List.length_map,M']
 rw [this]; simp only [List.length_singleton]; omega
theorem iQ:∀ ts:List ByteArray,(∀ s,s ∈ ts→Fp s=true)→(ts.flatMap GZ).length≤ts.length*61
 | [],_=>Nat.le_refl _
 | s::ts,h=>by
  rw [List.flatMap_cons,List.length_append,List.length_cons]; have h1:=pe (h s (by simp)); have h2:=iQ ts fun x hx=>h x (by simp [hx]); omega
theorem kQ {c:List Ad} {l:List Bc} {h:List BM} {root:Int} {b:List UInt8} (hz:I1 c l h root=0) (Yu:h.length≤40) (hw:Dg c l h root=(Ei c l h (Ab c l h root),0)) (B:uY c l h root b (DD l (AN h (Ab c l h root))) (Db c l h (Ab c l h root))):b.length≤100000:=by
 obtain ⟨Ac,hs,Yt,hX,HZ⟩:=FN hz; obtain ⟨_,HD⟩:=ES Yt; obtain ⟨_,_,hF,_⟩:=Jb hz Yu
 have he:bI b=Ei c l h (Ab c l h root):=by
  have:=B.wr; rw [hw] at this; exact (Prod.mk.inj this).1.symm
 have IL:=B.can.sym; have hl:=Jt b; rw [he] at hl; unfold Ei at hl; have dU:=hF.len; have h1:=Kn l (AN h (Ab c l h root)) []; have h2:=Gi h (Ab c l h root)
 have S1:(DD l (AN h (Ab c l h root))).length≤40:=by
  unfold DD; simp only [List.length_nil] at h1; omega
 generalize DD l (AN h (Ab c l h root))=ts at hl IL S1
 have h3:=OT (l:=l) (t:=ts) (o:=Ab c l h root) (n:=h.length) Ac (by omega) (by omega) (AN h (Ab c l h root)) fun x hx=>CJ hs (HD x (by
  unfold AN at hx; obtain ⟨v,_,hv⟩:=List.mem_flatMap.1 hx
  cases hg:h[(v-1).toNat]? with
  | none=>rw [hg] at hv; cases hv
  | some y=>rw [hg] at hv; rw [List.mem_singleton.1 hv]; exact List.mem_of_getElem? hg))
 have h4:=iQ ts fun s hs=>(IL s hs).1; rw [Tk (show ts.length<128 by omega),Tk (show (Ab c l h root).length<128 by omega)] at hl; simp only [List.length_append,List.length_singleton] at hl; have h5:(AN h (Ab c l h root)).length*1616≤40*1616:=Nat.mul_le_mul_right _ (by omega); omega
end Go.Ce
