/- A part of the proof: Rm, Rn, Xc, ShL5, Ro, Rp, Sa, Sb, Sc, Sd, Sf, Sg, Si, ShL4, Ed, Qt, ShE, Qu, Qv, Qw, Qx, Se, Sj, Sk, ShL6, Sl, Sm, Sn, Xd, ShU, ShT1, ShT, Tc, Ta, Td, Te, Tf, So, Tg, Tb, Th, Ti, Xe, Xf, Xg, Xh, ShV, ShV2, Ua, Ub, Uc, Ud, Va, Vb, Vc, Vd, Ue. -/
import Derived.Test.YtmknebebbbjdlaaGreatW01
import Derived.Test.YtmknebebbbjdlaaGreatW02
import Derived.Test.YtmknebebbbjdlaaGreatW04
import Derived.Test.YtmknebebbbjdlaaGreatProg
set_option linter.unusedSectionVars false
set_option linter.unusedVariables false
set_option linter.unusedSimpArgs false
set_option linter.defProp false
set_option maxRecDepth 200000
namespace Go.Ce
open Go Go.Proofs Go.Proofs.Tryz
def OC(l:List DD)(s:ByteArray):Option DD:=l.find? λx=>decide (x.to=s)
def EZ(mp vs z:List Int):Nat→List Int
 |0=>z
 |n+1=>(EZ mp vs z n).set ((mp[n]?).getD 0).toNat ((vs[n]?).getD 0)
def A_(c:List Aq)(l:List DD)(x:CD):CD:=match OC l x.type with
 |none=>x
 |some s=>match A3 c s.type with
  |none=>x
  |some t=>⟨s.type,EZ s.map x.AO (List.replicate (AX c t).length 0) s.map.length⟩
theorem JU(mp vs z:List Int):∀n,(EZ mp vs z n).length=z.length
 |0=>rfl
 |n+1=>by rw[EZ,abZ,JU mp vs z n]
theorem lV:∃ty,Tryz.f77.results.toList=[.cell 6 ty]∧ty=56:=⟨56,by kernel_rfl,rfl⟩
theorem AAB(s:ByteArray)(a:Addr)(n m:Nat):wu prog 56 [(0,.string s),(1,.slice (some a) n m)]=some (.agg [.string s,.slice (some a) n m].toArray):=by kernel_rfl
def Tq(vx:Value)(x y:CD)(W:CW):Ending→CW→Prop:=λe W'=>Kp W W'∧Ai W'∧∃vv,e=.returned (.agg #[.string y.type,vv])∧((vv=vx∧y.AO=x.AO)∨∃bv,vv=.slice (some ⟨bv,0,none⟩) y.AO.length y.AO.length∧A0 W' bv 3 (DA y.AO)∧W.sz≤bv)
theorem gz{z:List Int}{k:Nat}(hk:k<z.length)(x:Int):putAt (DA z) (0+k*1) [.int .i64 x]=DA (z.set k x):=by
 apply aaN;intro j;have hl:(DA z).length=z.length:=by simp[DA]
 rw[JP (by rw[hl];simp;omega)];unfold DA;simp only[aaH,aaz,abw]
 by_cases e:k=j
 ·subst e;rw[aae ⟨by omega,by omega⟩,aae rfl,aae hk];simp
 ·rw[aad (by omega),aad e]
theorem u6{w r r1 r2:Nat}{vx:Value}{c:List Aq}{l:List DD}{x:CD}{W:CW}(ht:Ai W)(hr:VI DD.to W r l)(Iw:IB W r1 r2 c)(hC:QD c)(gp:Ab 1 (F9 W) vx x.AO)
  (hm:∀s,OC l x.type=some s→s.map.length≤x.AO.length∧∃t,A3 c s.type=some t∧∀m,m∈s.map→0≤m∧m.toNat<(AX c t).length) (M9:∀s,s∈l→s.map.length<100000) :
  Ac prog Bs 77 [.agg #[.map (some w),.map (some r)],QF r1 r2,.agg #[.string x.type,vx]] W (Tq vx x (A_ c l x) W):=by
 obtain⟨ty,MW,rfl⟩:=lV;refine AIE ?_;rw[AID];unfold QF;obtain⟨ax,cx,rfl,hxc⟩:=id gp;refine G8 s83 ht λW0 k0 t0 z0 IG=>?_;have IG:A0 W0 W.sz 83 [.map (some w),.map (some r)]:=IG;refine G8 k_ t0 λW1 k1 t1 z1 N3=>?_;have N3:A0 W1 W0.sz 78 [.map (some r1),.map (some r2)]:=N3;refine G8 IH t1 λW2 k2 t2 z2 VO=>?_;have VO:A0 W2 W1.sz 56 [.string x.type,.slice ax x.AO.length cx]:=VO;refine LL m0 IH t2 λA kA tA zA Mu=>?_;have Mu:A0 A W2.sz 56 [.string ⟨#[]⟩,.slice none 0 0]:=Mu;have k:=((k0.trans k1).trans k2).trans kA;have IG:=IG.ext t0 ((k1.trans k2).trans kA);have N3:=N3.ext t1 (k2.trans kA);have VO:=VO.ext t2 kA;have ABw:W.sz≤W2.sz:=((k0.trans k1).trans k2).sz;have hrA:=hr.kp ht k;have sW:=Iw.kp ht k;simp only[gk,G3,AA];rw[AH a81 (a:=⟨W.sz,0+1,none⟩) (IG.cell rfl),AH a9 (a:=⟨W1.sz,0,none⟩) (VO.cell rfl)];simp only[AA];generalize FI:AM prog Tryz.f77 (Tq (.slice ax x.AO.length cx) x (A_ c l x) W)=K
 have DU:∀iZ vv,Kp A iZ→Ai iZ→BJ vv=true→(∀W3,Ep W2.sz iZ W3→(vv=.slice ax x.AO.length cx∧(A_ c l x).AO=x.AO)∨∃bv,vv=.slice (some ⟨bv,0,none⟩) (A_ c l x).AO.length (A_ c l x).AO.length∧A0 W3 bv 3 (DA (A_ c l x).AO)∧W.sz≤bv)→∀{K':CW→Prop},(∀W3,(∀e',e' 6=.pointer (some ⟨W2.sz,0,none⟩)→K .ret e' [] W3)→K' W3)→
   wV (M6 prog 56 (.pointer (some ⟨W2.sz,0,none⟩)) (.agg [.string (A_ c l x).type,vv].toArray) iZ) K':=by
  intro iZ vv k1' t1' Jz UX K' hK';have hB:=Mu.ext tA k1';refine G0 IH (a:=⟨W2.sz,0,none⟩) (by simp only[abv,acQ,Jz,abC];rfl) rfl hB (by simp) λW3 hu IG=>hK' W3 λe' h6'=>?_;have hu:Ep W2.sz iZ W3:=hu;rw[←FI];have IG:A0 W3 W2.sz 56 [.string (A_ c l x).type,vv]:=IG;refine Nh MW (p:=⟨W2.sz,0,none⟩) h6' (DC (vs:=[.string (A_ c l x).type,vv]) bG IH rfl (by omega) IG.cells) ?_;exact⟨(k.trans k1').Ba ABw hu,t1'.Ba (hB.lt t1') hu,vv,rfl,UX W3 hu⟩
 cases Js:OC l x.type with
 |none=>
  have P_:A_ c l x=x:=by unfold A_;rw[Js]
  rw[hrA.none Js];simp only[AA,CN,CO];unfold AFA;refine EH (ws:=[.string ⟨#[]⟩,.string ⟨#[]⟩,.slice none 0 0]) z58 ZR rfl rfl rfl tA λW4 k4 t4 z4 hB7=>?_;simp only[AZ,AA,aa6,Af];rw[DC (vs:=[.string x.type,.slice ax x.AO.length cx]) bG IH rfl (by omega) (VO.ext tA k4).cells];simp only[AA];have Wy:x.type=(A_ c l x).type:=by rw[P_]
  rw[Wy];refine DU W4 _ k4 t4 rfl (λW3 hu=>.inl ⟨rfl,by rw[P_]⟩) λW3 hr=>hr _ rfl
 | some s=>
  obtain⟨hsl,t,FJ,RG⟩:=hm s Js;have P_:A_ c l x=⟨s.type,EZ s.map x.AO (List.replicate (AX c t).length 0) s.map.length⟩:=by unfold A_;rw[Js];simp only;rw[FJ]
  have w6:=M9 s (abU Js);have WK:=To hC t;obtain⟨u,hu,L⟩:=hrA.some Js;obtain⟨am,cm,rfl,hum⟩:=hu;rw[L];simp only[AA,CN,CO];refine EH (ws:=[.string s.type,.string s.to,.slice am s.map.length cm]) z58 ZR rfl rfl rfl tA λW5 k5 t5 z5 hB7=>?_;simp only[AZ,AA,aav,AT,Ic,Kr,L0];obtain⟨ar,cr,lr,_⟩:=sW.rw.some FJ;obtain⟨mr,hmr,_⟩:=sW.rw;have kn:Kp W5 (W5.new (.cells .nil 2 #[.string ⟨#[]⟩,.slice none 0 0] 56)):=.new _;have tn:=t5.new (.cells .nil 2 #[.string ⟨#[]⟩,.slice none 0 0] 56);have lT:(W5.new (.cells .nil 2 #[.string ⟨#[]⟩,.slice none 0 0] 56)).obj W5.sz=some (.cells .nil 2 #[.string ⟨#[]⟩,.slice none 0 0] 56):=by rw[Bd,aae rfl]
  have hBn:A0 (W5.new (.cells .nil 2 #[.string ⟨#[]⟩,.slice none 0 0] 56)) W5.sz 56 [.string ⟨#[]⟩,.slice none 0 0]:=⟨.nil,2,_,lT,rfl,λk v hk=>by
   match k,hk with
   |0,hk=>cases hk;rfl
   |1,hk=>cases hk;rfl⟩
  have u3:(W5.new (.cells .nil 2 #[.string ⟨#[]⟩,.slice none 0 0] 56)).sz=W5.sz+1:=rfl;have Ny:∀W0:CW,W0.obj W5.sz=some (.cells .nil 2 #[.string ⟨#[]⟩,.slice none 0 0] 56)→tq (.pointer (some ⟨W5.sz,0,none⟩)) ((W5.new (.cells .nil 2 #[.string ⟨#[]⟩,.slice none 0 0] 56)).obj W5.sz) W0=true:=λW0 h0=>VP h0 (by rfl);generalize hAn:W5.new (.cells .nil 2 #[.string ⟨#[]⟩,.slice none 0 0] 56)=An at kn tn lT hBn u3 Ny ⊢;have kAn:=k5.trans kn;have l9:∀W',Kp An W'→ld prog 9 (.pointer (some ⟨A.sz,0,none⟩)) W'=some (.string s.type):=λW' k'=>AH a9 (a:=⟨A.sz,0,none⟩) ((hB7.ext t5 (kn.trans k')).cell rfl);have l76:ld prog 76 (.pointer (some ⟨W0.sz,0+1,none⟩)) An=some (.map (some r2)):=AH a76 (a:=⟨W0.sz,0+1,none⟩) ((N3.ext tA kAn).cell rfl)
  have lrn:Y2 prog 76 (.map (some r2)) (.string s.type) false An=some (.slice ar (AX c t).length cr):=by
   rw[ur (kAn.obj _ (hmr.lt tA))];exact lr
  rw[l9 An (.refl _),l76];simp only[AA,lrn,AQ LS];refine sD J9 s3 z3 rfl by3 (by omega) (n:=(AX c t).length) (by omega) tn λW7 k7 t7 z7 hBv=>?_;refine Ap (AAB _ _ _ _) ?_;refine⟨trivial,?_⟩;have AMN:=hBn.ext tn k7;refine G0 IH (a:=⟨W5.sz,0,none⟩) (ws:=[.string s.type,.slice (some ⟨An.sz,0,none⟩) (AX c t).length (AX c t).length]) rfl rfl AMN (by simp) λW8 hu8 hBo=>?_;have hu8:Ep W5.sz W7 W8:=hu8;have hBo:A0 W8 W5.sz 56 [.string s.type,.slice (some ⟨An.sz,0,none⟩) (AX c t).length (AX c t).length]:=hBo;refine⟨by simp only[l9 An (.refl _),l9 W7 k7,and_self],by simp only[Ny An lT,Ny W7 (by rw[k7.obj _ (by omega)];exact lT),and_self],?_⟩;have h5l:W5.sz<W7.sz:=by rw[z7];omega
  have t8:=t7.Ba h5l hu8;have hzA:A.sz≤W5.sz:=by rw[z5];omega
  have k58:Kp W5 W8:=(kn.trans k7).Ba (aag _) hu8;have kA8:Kp A W8:=k5.trans k58;rw[AH Ww (a:=⟨A.sz,0+2,none⟩) ((hB7.ext t5 k58).cell rfl)];simp only[AA,AQ J9]
  have AFc:A0 W8 An.sz 3 (DA (EZ s.map x.AO (List.replicate (AX c t).length 0) 0)):=by
   have:DA (EZ s.map x.AO (List.replicate (AX c t).length 0) 0)=List.replicate (AX c t).length (.int .i64 0):=by simp[EZ,DA]
   rw[this];exact hBv.congr (hu8.obj _ (by omega))
  refine C2 (λn e ds W'=>ds=[]∧Kp A W'∧Ai W'∧A0 W' W5.sz 56 [.string s.type,.slice (some ⟨An.sz,0,none⟩) (AX c t).length (AX c t).length]∧A0 W' An.sz 3 (DA (EZ s.map x.AO (List.replicate (AX c t).length 0) n))∧e 5=.pointer (some ⟨W1.sz,0,none⟩)∧e 6=.pointer (some ⟨W2.sz,0,none⟩)∧e 9=.pointer (some ⟨W5.sz,0,none⟩)∧e 34=.slice am s.map.length cm∧e 35=.int .i64 s.map.length∧e 36=.int .i64 n) s.map.length
   ⟨rfl,kA8,t8,hBo,AFc,rfl,rfl,rfl,rfl,rfl,rfl⟩ ?_
  rintro n e ds W' hn ⟨rfl,VQ,t',g_,gx,h5,h6,h9,h34,h35,h36⟩;rw[AD_,h34,h35,h36];simp only[AP,AA]
  refine Eh (λAd=>?_) (λGZ=>?_)
  ·obtain⟨_,_,he,hmc⟩:=hum
   cases he
   have hmn:=ck Ad;obtain⟨q,rfl,hq⟩:=hmc n _ hmn;rw[AY J9 s3 Ad];simp only[AA];have hqc:=VQ.cell tA hq.1;rw[AH a3 (a:=⟨q.block,q.off+n*1,none⟩) hqc,h9,h5];simp only[AA,EF];have hxl:n<x.AO.length:=by omega
   have hxn:=ck hxl;obtain⟨p,rfl,hp⟩:=hxc n _ hxn;have AB2:=VO.ext tA VQ;rw[AH Ww (a:=⟨W5.sz,0+1,none⟩) (g_.cell rfl),AH Ww (a:=⟨W1.sz,0+1,none⟩) (AB2.cell rfl)];simp only[AA];rw[AY J9 s3 hxl];simp only[AA];have pO:=(k.trans VQ).cell ht hp.1;rw[AH a3 (a:=⟨p.block,p.off+n*1,none⟩) pO];simp only[AA];obtain⟨tJ,Ry⟩:=RG _ (aaY Ad);have hmi:(s.map[n]:Int)=((s.map[n].toNat:Nat):Int):=by omega
   rw[hmi,AY J9 s3 Ry];simp only[AA];have kY:(EZ s.map x.AO (List.replicate (AX c t).length 0) n).length=(AX c t).length:=by rw[JU];simp
   refine Ar s3 (a:=⟨An.sz,0+s.map[n].toNat*1,none⟩) (v:=.int .i64 x.AO[n]) rfl gx (by simp only[DA,aaq,kY];omega) λW9 hu9 AFd=>?_;have hu9:Ep An.sz W' W9:=hu9
   have AFd:A0 W9 An.sz 3 (DA (EZ s.map x.AO (List.replicate (AX c t).length 0) (n+1))):=by
    rw[EZ,hmn,hxn,Kn,Kn,←gz (by rw[kY];exact Ry)];exact AFd
   have ANw:ld prog 40 (.pointer (some ⟨W5.sz,0+1,none⟩)) W'=some (.slice (some ⟨An.sz,0,none⟩) (AX c t).length (AX c t).length):=AH Ww (a:=⟨W5.sz,0+1,none⟩) (g_.cell rfl);refine⟨by simp only[AH Ww (a:=⟨W5.sz,0+1,none⟩) (g_.cell rfl),AH Ww (a:=⟨W1.sz,0+1,none⟩) (AB2.cell rfl),AH a3 (a:=⟨p.block,p.off+n*1,none⟩) pO,and_self],trivial,?_⟩;simp only[uO,Aj,FH];simp only[AG,AJ,Nat.reduceEqDiff,↓reduceIte,h36,AK,AA]
   refine⟨Ad,trivial,VQ.Ba (by omega) hu9,t'.Ba (gx.lt t') hu9,g_.congr (hu9.obj _ (by omega)),AFd,?_,?_,?_,?_,?_,?_⟩
   ·simp only[h5]
   ·simp only[h6]
   ·simp only[h9]
   ·simp only[h34]
   ·simp only[h35]
   ·rw[CE (by omega)]
  ·have we:n=s.map.length:=by omega
   subst we;simp only[Aj,LM,Er,Jp,Er,aar,rY];simp only[AG,AJ,Nat.reduceEqDiff,↓reduceIte,h6,h9];rw[DC (vs:=[.string s.type,.slice (some ⟨An.sz,0,none⟩) (AX c t).length (AX c t).length]) (a:=⟨W5.sz,0,none⟩) bG IH rfl (by omega) g_.cells];simp only[AA];have Wy:s.type=(A_ c l x).type:=by rw[P_]
   have eK:(AX c t).length=(A_ c l x).AO.length:=by rw[P_];simp only[JU,ab7]
   rw[Wy];refine DU W' _ VQ t' rfl (λW3 hu=>.inr ⟨An.sz,by rw[eK],?_,by have:=k.sz;omega⟩) λW3 hr=>hr _ (by simp only[AG,AJ,Nat.reduceEqDiff,↓reduceIte,h6]);have:(A_ c l x).AO=EZ s.map x.AO (List.replicate (AX c t).length 0) s.map.length:=by rw[P_]
   rw[this];exact gx.congr (hu.obj _ (by have:=zA;omega))
def F_(c:List Aq)(l:List DD)(s:ByteArray):Option Int:=if(A3 c s).isSome then(if(l.find? λx=>decide (x.type=s)).isSome then some 214 else none)else some 213
structure sX(A:CW)(bk br r1 r2 w r:Nat)(c:List Aq)(l:List DD):Prop where
 top:Ai A
 k:A0 A bk 78 [.map (some r1),.map (some r2)]
 rr:A0 A br 83 [.map (some w),.map (some r)]
 cat:IB A r1 r2 c
 w:VI DD.type A w l
 rd:VI DD.to A r l
theorem AJj:Is prog 48=some ABn:=by kernel_rfl
theorem AJk:EM prog 48=some 5:=by kernel_rfl
theorem AAC{A:CW}{bk br r1 r2 w r:Nat}{c:List Aq}{l:List DD}(I:sX A bk br r1 r2 w r c l):sT A (.func (.func 75) #[] #[.pointer (some ⟨bk,0,none⟩),.pointer (some ⟨br,0,none⟩)]) (F_ c l):=by
 intro s W K KP kA ht G_ MK;refine Na Tryz.func75 (by kernel_rfl) ?_;refine AIA (v0:=.string s) (v1:=.pointer (some ⟨bk,0,none⟩)) (v2:=.pointer (some ⟨br,0,none⟩)) ?_;rw[AH_];have hk:=I.k.ext I.top kA;have hr:=I.rr.ext I.top kA;have Iw:=I.cat.kp I.top kA;simp only[Jb,AA];rw[AH a75 (a:=⟨bk,0,none⟩) (hk.cell rfl)];simp only[AA];obtain⟨ws,XE,hwl,hwo,_⟩:=Zv Iw.sh s;rw[XE];simp only[AA,CN,CO];refine EH (ws:=ws) AJj AJk rfl hwo hwl ht λW2 k2 t2 z2 hB=>?_
 refine Ik (λh1=>?_) (λh1=>?_)
 ·have Hl:=(I.w.kp I.top (kA.trans k2))
  obtain⟨ws2,MV,AMO,AMP⟩:=pJ Hl s;simp only[gj,AA];rw[AH a81 (a:=⟨br,0,none⟩) ((hr.ext ht k2).cell rfl)];simp only[AA];rw[MV];simp only[AA,CN,CO];refine EH (ws:=ws2) z58 ZR rfl AMP AMO t2 λW5 k5 t5 z5 VO=>?_;simp only[AZ,AA]
  refine Ik (λh2=>?_) (λh2=>?_)
  ·have h2:(l.find? λx=>decide (DD.type x=s)).isSome=false:=by simpa using h2
   exact Hw (by kernel_rfl) _ _ (.inl rfl) _ _ (G_ (by unfold F_;rw[aae h1,aad (by rw[h2];simp)]) _ W5 (k2.trans k5) t5)
  ·have h2:(l.find? λx=>decide (DD.type x=s)).isSome=true:=by simpa using h2
   exact MK 214 (by unfold F_;rw[aae h1,aae h2]) W5 (k2.trans k5) t5
 ·exact MK 213 (by unfold F_;rw[aad (by rw[h1];simp)]) W2 k2 t2
theorem VR{c:List Aq}{l:List DD}{s:ByteArray}(h:F_ c l s=none):(A3 c s).isSome=true∧(l.find? λx=>decide (x.type=s))=none:=by
 unfold F_ at h
 split at h
 ·rename_i h1
  split at h
  ·cases h
  ·rename_i h2;exact⟨h1,by simpa using h2⟩
 ·cases h
theorem VS{b:List UInt8}{ask:ByteArray→Option Int}(ha:∀s e,ask s=some e→e≠0):∀{k at_:Nat} {out:List ByteArray} {e:Int},GG b ask k at_ out=.error e→e≠0
 |0,at_,out,e,h=>by cases h
 | k+1,at_,out,e,h=>by
  unfold GG at h
  split at h
  ·rename_i hn;cases h;exact Hi hn
  ·split at h
   ·rename_i ht;cases h;rw[uu ht];decide
   ·split at h
    ·split at h
     ·rename_i hq;cases h;exact ha _ _ hq
     ·exact VS ha h
    ·cases h;decide
where
 Hi {b:List UInt8} {at_:Nat} {m e:Int} (h:ED b at_ m=.error e):e≠0:=by
  unfold ED at h
  split at h
  ·rename_i hg;cases h;exact Mw hg
  ·split at h
   ·cases h
   ·cases h;decide
 Mw {b:List UInt8}:∀{f at_ n sh:Nat} {e:Int},EC b f at_ n sh=.error e→e≠0
  |0,_,_,_,_,h=>by cases h;decide
  | f+1,at_,n,sh,e,h=>by
   unfold EC at h
   split at h
   ·cases h;decide
   ·split at h
    ·split at h
     ·cases h
     ·cases h;decide
    ·exact Mw h
theorem Hi{b:List UInt8}{at_:Nat}{m e:Int}(h:ED b at_ m=.error e):e≠0:=VS.Hi h
theorem VT{b:List UInt8}{c:List Aq}{ix many:Nat}:∀{m k at_ fd:Nat} {vs:List Int} {e:Int},DR b c ix many m k at_ fd vs=.error e→e≠0
 |0,_,_,_,_,_,h=>by cases h
 | m+1,k,at_,fd,vs,e,h=>by
  unfold DR at h
  split at h
  ·split at h
   ·rename_i hn;cases h;exact Hi hn
   ·exact VT h
  ·split at h
   ·rename_i hn;cases h;exact Hi hn
   ·exact VT h
theorem Z2{b:List UInt8}{c:List Aq}{ts:List ByteArray}{many:Nat}:∀{m i at_ used fd:Nat} {out:List CD} {e:Int},CZ b c ts many m i at_ used fd out=.error e→e≠0
 |0,_,_,_,_,_,_,h=>by cases h
 | m+1,i,at_,used,fd,out,e,h=>by
  unfold CZ at h
  split at h
  ·split at h
   ·rename_i hn;cases h;exact Hi hn
   ·split at h
    ·cases h;decide
    ·split at h
     ·cases h;decide
     ·split at h
      ·rename_i hn
       cases h
       split at hn
       ·exact Hi hn
       ·cases hn
      ·split at h
       ·rename_i hv;cases h;exact VT hv
       ·exact Z2 h
  ·cases h;decide
theorem WV{b:List UInt8}{c:List Aq}{ask:ByteArray→Option Int}(ha:∀s e,ask s=some e→e≠0){at_:Nat}{e:Int}(h:Bf b c ask at_=.error e):e≠0:=by
 unfold Bf at h
 split at h
 ·rename_i hh
  cases h
  unfold Gt at hh
  split at hh
  ·rename_i hn;cases hh;exact Hi hn
  ·split at hh
   ·split at hh
    ·rename_i hn;cases hh;exact Hi hn
    ·exact VS ha hh
   ·cases hh;decide
 ·split at h
  ·rename_i hn;cases h;exact Hi hn
  ·split at h
   ·rename_i hg;cases h;exact Z2 hg
   ·split at h
    ·cases h
    ·cases h;decide
theorem Z3{c:List Aq}{l:List DD}:∀s e,F_ c l s=some e→e≠0:=by
 intro s e h;unfold F_ at h
 split at h
 ·split at h
  ·cases h;decide
  ·cases h
 ·cases h;decide
theorem VU{b:List UInt8}{c:List Aq}{ix many:Nat}:∀{m k at_ fd:Nat} {vs:List Int} {r:List Int×Nat×Nat},DR b c ix many m k at_ fd vs=.ok r→r.1.length=vs.length+m
 |0,_,_,_,_,_,h=>by cases h;rfl
 | m+1,k,at_,fd,vs,r,h=>by
  unfold DR at h
  split at h
  ·split at h
   ·cases h
   ·have:=VU h;rw[this];simp;omega
  ·split at h
   ·cases h
   ·have:=VU h;rw[this];simp;omega
def eM(c:List Aq)(x:CD):Prop:=∃ix,A3 c x.type=some ix∧(elemAt c ix=0→x.AO.length=(AX c ix).length)
theorem Z4{b:List UInt8}{c:List Aq}{ts:List ByteArray}{many:Nat}:∀{m i at_ used fd:Nat} {out:List CD} {r:List CD×Nat×Nat×Nat},CZ b c ts many m i at_ used fd out=.ok r→(∀x,x∈out→eM c x)→∀x,x∈r.1→eM c x
 |0,_,_,_,_,_,_,h,ho=>by cases h;exact ho
 | m+1,i,at_,used,fd,out,r,h,ho=>by
  unfold CZ at h
  split at h
  ·split at h
   ·cases h
   ·split at h
    ·cases h
    ·rename_i ty _
     split at h
     ·cases h
     ·rename_i ix N5
      split at h
      ·cases h
      ·rename_i n a2 hn
       split at h
       ·cases h
       ·rename_i vs Fl a3 hv;refine Z4 h λx hx=>?_
        rcases aaB.1 hx with hx|hx
        ·exact ho x hx
        ·cases dy.1 hx
         refine⟨ix,N5,λhe=>?_⟩;rw[aad (by simp[he])]at hn
         cases hn
         have:=VU hv
         simpa using this
  ·cases h
theorem WW{b:List UInt8}{c:List Aq}{ask:ByteArray→Option Int}{at_:Nat}{r:List CD×Nat}(h:Bf b c ask at_=.ok r):(∀x,x∈r.1→eM c x)∧r.1.length≤1000:=by
 unfold Bf at h
 split at h
 ·cases h
 ·split at h
  ·cases h
  ·rename_i many a2 hn
   split at h
   ·cases h
   ·rename_i hg
    split at h
    ·cases h
     obtain⟨hm,_,_⟩:=F' hn;exact⟨Z4 hg (λx hx=>by cases hx),by have:=Z5 hg;simp at this;simp only;omega⟩
    ·cases h
where
 Z5 {b:List UInt8} {c:List Aq} {ts:List ByteArray} {many:Nat}:∀{m i at_ used fd:Nat} {out:List CD} {r:List CD×Nat×Nat×Nat},CZ b c ts many m i at_ used fd out=.ok r→r.1.length=out.length+m
  |0,_,_,_,_,_,_,h=>by cases h;rfl
  | m+1,i,at_,used,fd,out,r,h=>by
   unfold CZ at h
   split at h
   ·split at h
    ·cases h
    ·split at h
     ·cases h
     ·split at h
      ·cases h
      ·split at h
       ·cases h
       ·split at h
        ·cases h
        ·rw[Z5 h];simp;omega
   ·cases h
def IC(ask:ByteArray→Option Int):List ByteArray→Option Int
 |[]=>none
 |s::r=>match ask s with
  |some e=>some e
  |none=>IC ask r
theorem Mw{b:List UInt8}:∀{f at_ n sh:Nat} {x:Int},EC b f at_ n sh=.error x→x=4
 |0,_,_,_,_,h=>by cases h;rfl
 | f+1,at_,n,sh,x,h=>by
  unfold EC at h
  split at h
  ·cases h;rfl
  ·split at h
   ·split at h
    ·cases h
    ·cases h;rfl
   ·exact Mw h
theorem sY{b:List UInt8}:∀{f at_ n sh m a:Nat},0<sh→EC b f at_ n sh=.ok (m,a)→n+2^sh≤m
 |0,_,_,_,_,_,_,h=>by cases h
 | f+1,at_,n,sh,m,a,hs,h=>by
  unfold EC at h
  split at h
  ·cases h
  ·rename_i x hx
   split at h
   ·split at h
    ·rename_i UX
     cases h
     have:1≤x.toNat:=by omega
     have:=aaZ (2^sh) this;omega
    ·cases h
   ·have h1:=sY (by omega) h;have h2:2^(sh+7)=128*2^sh:=by rw[acK,ace]
    have h3:1≤2^sh:=acI;omega
theorem Mx{b:List UInt8}{at_:Nat}{most e:Int}(h:ED b at_ most=.error e):e=4:=by
 unfold ED at h
 split at h
 ·rename_i x hx
  cases h
  exact Mw hx
 ·split at h
  ·cases h
  ·cases h;rfl
theorem FF{b:List UInt8}{at_ n a:Nat}{most:Int}(h:EC b 6 at_ 0 0=.ok (n,a)):ED b at_ most=if(n:Int)≤most then .ok (n,a)else .error 4:=by
 unfold ED;rw[h]
theorem Gu{b:List UInt8}{at_:Nat}{most x:Int}(h:EC b 6 at_ 0 0=.error x):ED b at_ most=.error 4:=by
 unfold ED;rw[h,Mw h]
theorem AAD{s:ByteArray}(h:Dt s=true):s.size≤60:=by
 unfold Dt at h;simp only[aab,decide_eq_true_eq]at h;omega
theorem lW(b:List UInt8)(ask:ByteArray→Option Int):∀(k at_:Nat) (out:List ByteArray),∃new,(D9 b k at_ out).1=out++new∧GG b ask k at_ out=(match IC ask new with
  |some e=>.error e
  |none=>match(D9 b k at_ out).2 with
   |some a=>.ok (out++new,a)
   |none=>.error 4)
 |0,at_,out=>⟨[],by simp[D9],by simp[D9,GG,IC]⟩
 | k+1,at_,out=>by
  have stop:KM b at_=none∨(∃s a2,KM b at_=some (s,a2)∧¬(Dt s=true∧(out.any λx=>decide (x=s))=false))→GG b ask (k+1) at_ out=.error 4→∃new,(D9 b (k+1) at_ out).1=out++new∧GG b ask (k+1) at_ out=(match IC ask new with
    |some e=>.error e
    |none=>match(D9 b (k+1) at_ out).2 with
     |some a=>.ok (out++new,a)
     |none=>.error 4):=by
   intro h hh
   have ht:D9 b (k+1) at_ out=(out,none):=by
    rw[D9]
    rcases h with h|⟨s,a2,h,hn⟩
    ·rw[h]
    ·rw[h];simp only;rw[aad hn]
   exact⟨[],by rw[ht];simp,by rw[hh,ht];rfl⟩
  cases hn:EC b 6 at_ 0 0 with
  |error x=>exact stop (.inl (by unfold KM;rw[hn])) (by rw[GG,Gu hn])
  | ok r=>
   obtain⟨n,a1⟩:=r
   by_cases hle:a1+n≤b.length
   ·have htx:KM b at_=some (strOf ((b.drop a1).take n),a1+n):=by unfold KM;rw[hn];simp only;rw[aae hle]
    have KB:(strOf ((b.drop a1).take n)).size=n:=by
     show((b.drop a1).take n).toArray.size=n;rw[acr,aaE,abm];omega
    generalize hs:strOf ((b.drop a1).take n)=s at*
    by_cases AB3:n≤60
    ·have hR:ED b at_ 60=.ok (n,a1):=by rw[FF hn,aae (by omega)]
     have hT:Il b a1 n=.ok (a1+n):=by unfold Il;rw[aae hle]
     by_cases hc:Dt s=true∧(out.any λx=>decide (x=s))=false
     ·have h1:D9 b (k+1) at_ out=D9 b k (a1+n) (out++[s]):=by rw[D9,htx];simp only;rw[aae hc]
      have h2:GG b ask (k+1) at_ out=(match ask s with
       |some e=>.error e
       |none=>GG b ask k (a1+n) (out++[s])):=by
       rw[GG,hR];simp only;rw[hT];simp only[hs];rw[aae hc];rfl
      obtain⟨new,g1,g2⟩:=lW b ask k (a1+n) (out++[s]);refine⟨s::new,by rw[h1,g1];simp,?_⟩;rw[h1,h2,IC]
      cases ha:ask s with
      |some e=>rfl
      |none=>simp only[g2,abb,List.singleton_append]
     ·refine stop (.inr ⟨s,_,htx,hc⟩) ?_;rw[GG,hR];simp only;rw[hT];simp only[hs];rw[aad hc]
    ·refine stop (.inr ⟨s,_,htx,λh=>?_⟩) ?_
     ·have:=AAD h.1;omega
     ·rw[GG,FF hn,aad (by omega)]
   ·refine stop (.inl (by unfold KM;rw[hn];simp only;rw[aad hle])) ?_;rw[GG,FF hn]
    by_cases AB3:(n:Int)≤60
    ·rw[aae AB3];simp only;unfold Il;rw[aad hle]
    ·rw[aad AB3]
theorem head_eq(b:List UInt8)(ask:ByteArray→Option Int):Gt b ask 0=(match IC ask (Au b).1 with
  |some e=>.error e
  |none=>match(Au b).2 with
   |some a=>.ok ((Au b).1,a)
   |none=>.error 4):=by
 have stop:Au b=([],none)→Gt b ask 0=.error 4→Gt b ask 0=(match IC ask (Au b).1 with
  |some e=>.error e
  |none=>match(Au b).2 with
   |some a=>.ok ((Au b).1,a)
   |none=>.error 4):=by
  intro h hh;rw[h,hh];rfl
 cases hb:b with
 |nil=>
  rw[←hb];refine stop (by unfold Au;rw[hb]) ?_;unfold Gt;rw[Gu (x:=4) (by rw[hb];rfl)]
 | cons x r=>
  rw[←hb];have hx:b[0]?=some x:=by rw[hb];rfl
  by_cases NK:x.toNat=1
  ·have hG:EC b 6 0 0 0=.ok (1,1):=by
    rw[EC,hx];simp only;rw[aae (by omega),aae (by omega),NK]
   have hR:ED b 0 128=.ok (1,1):=by rw[FF hG,aae (by decide)]
   have hF:Au b=(match EC b 6 1 0 0 with
    | .error _=>([],none)
    | .ok (n,a1)=>if n≤100 then D9 b n a1 []else([],none)):=by
    unfold Au;rw[hb];simp only;rw[aae NK,←hb];rfl
   cases hn:EC b 6 1 0 0 with
   |error e=>
    refine stop (by rw[hF,hn]) ?_;unfold Gt;rw[hR];simp only;rw[aae True.intro,Gu hn]
   | ok r=>
    obtain⟨n,a1⟩:=r
    by_cases hle:n≤100
    ·have h1:Au b=D9 b n a1 []:=by rw[hF,hn];simp only;rw[aae hle]
     obtain⟨new,g1,g2⟩:=lW b ask n a1 [];rw[abi]at g1 g2;unfold Gt;rw[hR];simp only;rw[aae True.intro,FF hn,aae (by omega)];simp only;rw[g2,h1,g1]
    ·refine stop (by rw[hF,hn];simp only;rw[aad hle]) ?_;unfold Gt;rw[hR];simp only;rw[aae True.intro,FF hn,aad (by omega)]
  ·refine stop (by unfold Au;rw[hb];simp only;rw[aad NK]) ?_;unfold Gt
   cases hR:ED b 0 128 with
   |error e=>rw[Mx hR]
   | ok r=>
    obtain⟨n,a⟩:=r;simp only;rw[aad];intro h1;subst h1
    have hG:EC b 6 0 0 0=.ok (1,a):=by
     unfold ED at hR
     split at hR
     ·cases hR
     ·rename_i n' a' hg
      split at hR
      ·cases hR;exact hg
      ·cases hR
    rw[EC,hx]at hG;simp only at hG
    split at hG
    ·split at hG
     ·have e:=(Prod.mk.inj (Except.ok.inj hG)).1;omega
     ·cases hG
    ·have:=sY (by omega) hG;omega
theorem u7{v0 v1 v2:Value}{c:List Aq}{l:List DD}{ts:List ByteArray}{W:CW}(hc:Ab 5 (EI W) v0 c)(Hp:c.length<1000000)(hl:Ab 3 (Hs W) v1 l)(OU:l.length<1000000)(ht:Ab 1 (kZ W) v2 ts)(ie:ts.length<1000000) :
  Ac prog Bs 86 [v0,v1,v2] W (FY (.int .i64 ((IC (F_ c l) ts).getD 0)) W):=by
 refine AHv ?_;rw[AHu];generalize FI:AM prog Tryz.f86 (FY (.int .i64 ((IC (F_ c l) ts).getD 0)) W)=KK
 have Gd:∀(e:Env),e 6=.int .i64 ((IC (F_ c l) ts).getD 0)→KK .ret e [] W:=by
  intro e h6;rw[←FI,uH,h6];exact⟨rfl,rfl⟩
 refine C2 (λi e ds W'=>ds=[]∧W'=W∧e 0=v0∧e 1=v1∧e 2=v2∧e 7=.int .i64 i∧IC (F_ c l) ts=IC (F_ c l) (ts.drop i)) ts.length ⟨rfl,rfl,rfl,rfl,rfl,rfl,rfl⟩ ?_;rintro i e ds W' hi ⟨rfl,rfl,h0,h1,h2,h7,hN⟩;obtain⟨at_,ct,OH,y_⟩:=id ht;obtain⟨al,cl,Uo,hlc⟩:=id hl;rw[ADz,h2,h7,OH,AQ LW];simp only[AA,AP];refine Eh (λAd=>?_) (λGZ=>?_)
 rotate_left
 ·simp only[Er,Jp,aar,fy,Aj];refine Gd _ ?_;simp only[AG,↓reduceIte];rw[hN,acJ GZ];rfl
 have hx:=ck Ad;obtain⟨p,rfl,hp⟩:=y_ i _ hx;have hd:ts.drop i=ts[i]::ts.drop (i+1):=abX Ad;rw[hd,IC]at hN;generalize ts[i]=s at hN hp;have JT:UK prog 51 (.slice (some p) ts.length ct) (.int .i64 i)=some (.pointer (some ⟨p.block,p.off+i*1,none⟩)):=AY (i:=i) LW s9 Ad;have Q6:ld prog 9 (.pointer (some ⟨p.block,p.off+i*1,none⟩)) W'=some (.string s):=AH a9 (a:=⟨p.block,p.off+i*1,none⟩) hp;rw[JT];simp only[AA,Q6,h0];refine As (Ks (s:=s) hc Hp) ?_;simp only[AP,AA]
 have mw:HW c s=match A3 c s with
  |some i=>(i:Int)
  |none=>-1:=rfl
 cases pH:A3 c s with
 |none=>
  rw[pH]at mw;have QH:F_ c l s=some 213:=by unfold F_;rw[pH];rfl
  rw[QH]at hN;rw[show decide (HW c s<0)=true by rw[mw];rfl,Af];simp only[ZG,GL,Ng,Ib,fy];exact Gd _ (by simp only[AG,↓reduceIte,Kn,hN,Kn])
 | some ix=>
  rw[pH]at mw;simp only at mw;rw[show decide (HW c s<0)=false by rw[mw];exact decide_eq_false (by omega),AT];have QH:F_ c l s=if(l.find? λx=>decide (x.type=s)).isSome then some 214 else none:=by unfold F_;rw[pH];rfl
  refine C2 (λk e ds W2=>ds=[]∧W2=W'∧e 0=v0∧e 1=v1∧e 2=v2∧e 7=.int .i64 i∧e 8=.int .i64 k∧∀j x,j<k→l[j]?=some x→x.type≠s) l.length ⟨rfl,rfl,by simp only[AG,AJ,Nat.reduceEqDiff,↓reduceIte,h0],by simp only[AG,AJ,Nat.reduceEqDiff,↓reduceIte,h1],by simp only[AG,AJ,Nat.reduceEqDiff,↓reduceIte,h2],by simp only[AG,AJ,Nat.reduceEqDiff,↓reduceIte,h7],by simp only[AG,↓reduceIte];rfl,λj x hj=>by omega⟩ ?_;rintro k e2 ds W2 hk ⟨rfl,rfl,g0,g1,g2,g7,g8,A5⟩;rw[AD0,g1,g2,g7,g8,Uo,AQ Vt];simp only[AA,AP]
  refine Eh (λO2=>?_) (λhkg=>?_)
  ·have hy:=ck O2;obtain⟨q,rfl,hq⟩:=hlc k _ hy;obtain⟨q1,q2⟩:=Nj _ hq;rw[AY Vt ZR O2];simp only[AA,Ic,q1,OH,JT,Q6,H_,G1];refine⟨by simp only[and_self],trivial,?_⟩
   refine AF (λhb=>?_) (λhb=>?_)
   ·have hb:=of_decide_eq_true hb
    have AJl:(l.find? λx=>decide (x.type=s)).isSome=true:=by
     rw[acu];exact⟨_,aaY O2,decide_eq_true hb⟩
    rw[AJl,aae rfl]at QH;rw[QH]at hN;simp only[kC,ZG,GL,Ng,Ib,fy];exact Gd _ (by simp only[AG,↓reduceIte,Kn,hN,Kn])
   ·have hb:=of_decide_eq_false hb;simp only[kC,Aj,FH];simp only[AG,AJ,Nat.reduceEqDiff,↓reduceIte,g8,AK,AA];refine⟨O2,trivial,trivial,by simp only[g0],by simp only[g1,Uo],by simp only[g2,OH],by simp only[g7],by rw[CE (by omega)],λj x hj hjx=>?_⟩
    rcases aap.1 hj with h|rfl
    ·exact A5 j x h hjx
    ·rw[hy]at hjx;cases hjx;exact hb
  ·have zl:(l.find? λx=>decide (x.type=s)).isSome=false:=by
    rw[Bool.eq_false_iff];intro h;rw[acu]at h;obtain⟨x,NK,bT⟩:=h;obtain⟨j,hj,rfl⟩:=abo.1 NK;exact A5 j _ (by omega) (ck hj) (of_decide_eq_true bT)
   rw[zl]at QH;have QH:F_ c l s=none:=by rw[QH];rfl
   rw[QH]at hN;simp only[Er,Jp,aar,ZG,Aj];simp only[AG,AJ,Nat.reduceEqDiff,↓reduceIte,g7,AK,AA,Aj,wy,FH];refine⟨Ad,trivial,trivial,by simp only[g0],by simp only[g1,Uo],by simp only[g2,OH],by rw[CE (by omega)],hN⟩
def hM(x:CD):Prop:=∀v,v∈x.AO→-9223372036854775808≤v∧v≤9223372036854775807
theorem Z6{b:List UInt8}{c:List Aq}{ix many:Nat}(hm:many≤1000):∀{m k at_ fd:Nat} {vs:List Int} {r:List Int×Nat×Nat},DR b c ix many m k at_ fd vs=.ok r→(∀v,v∈vs→-9223372036854775808≤v∧v≤9223372036854775807)→∀v,v∈r.1→-9223372036854775808≤v∧v≤9223372036854775807
 |0,_,_,_,_,_,h,hv=>by cases h;exact hv
 | m+1,k,at_,fd,vs,r,h,hv=>by
  unfold DR at h
  split at h
  ·split at h
   ·cases h
   ·rename_i n a hn;obtain⟨h1,_,_⟩:=F' hn;refine Z6 hm h λv xT=>?_
    rcases aaB.1 xT with hq|hq
    ·exact hv v hq
    ·rw[dy.1 hq];omega
  ·split at h
   ·cases h
   ·rename_i n a hn;obtain⟨h1,_,_⟩:=F' hn;refine Z6 hm h λv xT=>?_
    rcases aaB.1 xT with hq|hq
    ·exact hv v hq
    ·rw[dy.1 hq];unfold J_;split<;>omega
theorem eN{b:List UInt8}{c:List Aq}{ts:List ByteArray}{many:Nat}(hmn:many≤1000):∀{m i at_ used fd:Nat} {out:List CD} {r:List CD×Nat×Nat×Nat},CZ b c ts many m i at_ used fd out=.ok r→(∀x,x∈out→hM x)→∀x,x∈r.1→hM x
 |0,_,_,_,_,_,_,h,ho=>by cases h;exact ho
 | m+1,i,at_,used,fd,out,r,h,ho=>by
  unfold CZ at h
  split at h
  ·split at h
   ·cases h
   ·split at h
    ·cases h
    ·split at h
     ·cases h
     ·split at h
      ·cases h
      ·split at h
       ·cases h
       ·rename_i vs Fl a3 hv;refine eN hmn h λx hx=>?_
        rcases aaB.1 hx with hx|hx
        ·exact ho x hx
        ·cases dy.1 hx
         exact Z6 hmn hv (λv hv=>by cases hv)
  ·cases h
theorem Z7{b:List UInt8}{c:List Aq}{ask:ByteArray→Option Int}{at_:Nat}{r:List CD×Nat}(h:Bf b c ask at_=.ok r):∀x,x∈r.1→hM x:=by
 unfold Bf at h
 split at h
 ·cases h
 ·split at h
  ·cases h
  ·rename_i many a2 hn
   split at h
   ·cases h
   ·rename_i hg
    split at h
    ·cases h
     obtain⟨hm,_,_⟩:=F' hn;exact eN (by omega) hg (λx hx=>by cases hx)
    ·cases h
theorem lX{mp vs z:List Int}(hz:∀v,v∈z→-9223372036854775808≤v∧v≤9223372036854775807)(hv:∀v,v∈vs→-9223372036854775808≤v∧v≤9223372036854775807):∀n v,v∈EZ mp vs z n→-9223372036854775808≤v∧v≤9223372036854775807
 |0,v,h=>hz v h
 | n+1,v,h=>by
  rw[EZ]at h
  rcases List.mem_or_eq_of_mem_set h with h|h
  ·exact lX hz hv n v h
  ·rw[h]
   cases hq:vs[n]? with
   |none=>rw[Option.getD_none];omega
   |some w=>rw[Kn];exact hv w (aan hq)
theorem lY{c:List Aq}{l:List DD}{x:CD}(h:hM x):hM (A_ c l x):=by
 unfold A_
 split
 ·exact h
 ·split
  ·exact h
  ·exact lX (λv hv=>by rw[acF hv];omega) h _
theorem Im:∀(l:List (CD×Value)) (k:Nat),(l.flatMap DV)[k]?=(l[k/2]?).bind λq=>(DV q)[k%2]?
 |[],k=>by simp
 |q::l,0=>rfl
 |q::l,1=>rfl
 | q::l,k+2=>by
  have h:((q::l).flatMap DV)[k+2]?=(l.flatMap DV)[k]?:=by
   simp only[aaO];rfl
  rw[h,Im l k,show(k+2)/2=k/2+1 by omega,show(k+2)%2=k%2 by omega];rfl
theorem AAE{l:List (CD×Value)}{i:Nat}(hi:i<l.length)(q:CD×Value):putAt (l.flatMap DV) (0+i*2) (DV q)=(l.set i q).flatMap DV:=by
 apply aaN;intro k;have hl:=DE l;have h2:(DV q).length=2:=rfl;rw[JP (by rw[hl,h2];omega),Im,Im,h2,abw]
 by_cases e:i=k/2
 ·rw[aae ⟨by omega,by omega⟩,aae e,aae hi];show _=(DV q)[k%2]?;congr 1;omega
 ·rw[aad (by omega),aad e]
theorem u_{l:List Value}(h:l.Nodup){i:Nat}{x:Value}(hx:x∉l∨l[i]?=some x):(l.set i x).Nodup:=by
 rcases hx with hx|hx
 ·unfold List.Nodup at h ⊢;rw[acA]at h ⊢;intro j k hj hk hjk;rw[abZ]at hj hk;rw[List.getElem_set,List.getElem_set]
  split
  ·rw[aad (by omega)];exactλe=>hx (e▸aaY _)
  ·split
   ·exactλe=>hx (e▸aaY _)
   ·exact h j k hj hk hjk
 ·have:l.set i x=l:=by
   apply aaN;intro k;rw[abw]
   split
   ·rename_i e;subst e;rw[aae (dx.1 hx).1,hx]
   ·rfl
  rw[this];exact h
theorem AAF{B:Nat}{W:CW}{v:Value}{ps:List (CD×Value)}(h:GN B W v ps)(hb:∀p,p∈ps→hM p.1):Ab 2 (G2 W) v (ps.map (·.1)):=by
 have hl:=DE ps;have hpv:=h.pv;obtain⟨hO,_,_,_⟩:=h;generalize UZ:ps.flatMap DV=cs at hO hl
 cases hO with
 |nil=>
  have:ps=[]:=aaG.1 (by simp at hl;omega);subst this;exact⟨none,0,rfl,λi x hx=>by cases hx⟩
 | @some b0 len _ hB MV=>
  have Wk:len=ps.length:=by omega
  refine⟨some ⟨b0,0,none⟩,len,by rw[aaq,Wk],λi x hx=>⟨_,rfl,?_⟩⟩;rw[aaz,aat]at hx;obtain⟨p,hp,rfl⟩:=hx;have pX:=aan hp;obtain⟨bv,h1,h2,_⟩:=hpv p pX
  have hg:∀j,j<2→cs[i*2+j]?=(DV p)[j]?:=λj hj=>by
   rw[←UZ,Im,show(i*2+j)/2=i by omega,show(i*2+j)%2=j by omega,hp];rfl
  refine⟨?_,p.2,?_,?_⟩
  ·show W.cell b0 (0+i*2)=_;rw[aaL];exact hB.cell (hg 0 (by omega))
  ·show W.cell b0 (0+i*2+1)=_;rw[aaL];exact hB.cell (hg 1 (by omega))
  ·refine⟨some ⟨bv,0,none⟩,p.1.AO.length,h1,λj y hy=>⟨_,rfl,?_,hb p pX y (aan hy)⟩⟩;show W.cell bv (0+j*1)=_;rw[show 0+j*1=j by omega];refine h2.cell ?_;unfold DA;rw[aaz,hy];rfl
theorem AAG{A W:CW}{K:AD}{e:Env}{bk br Wz B r1 r2 w r:Nat}{vo:Value}{c:List Aq}{l:List DD}{ps:List (CD×Value)}(Q:sX A bk br r1 r2 w r c l)(hC:QD c)(hs:Be c l=true)(M9:∀s,s∈l→s.map.length<100000)(Mt:∀p,p∈ps→eM c p.1)(PM:∀p,p∈ps→hM p.1)(Wk:ps.length≤1000)
  (kA:Kp A W) (t0:Ai W) (hAB:A.sz≤B) (AB4:A.sz≤Wz) (AB5:A0 W Wz 24 [vo]) (hH:GN B W vo ps)
  (g9:e 9=.pointer (some ⟨bk,0,none⟩)) (g11:e 11=.pointer (some ⟨br,0,none⟩)) (pY:e 12=.pointer (some ⟨Wz,0,none⟩)) (g37:e 37=vo) (g38:e 38=.int .i64 ps.length) (g39:e 39=.int .i64 0)
  (Ef:∀e' W' qs,Kp A W'→Ai W'→A0 W' Wz 24 [vo]→GN B W' vo qs→qs.map (·.1)=ps.map (λp=>A_ c l p.1)→e' 12=.pointer (some ⟨Wz,0,none⟩)→K (.exit 0) e' [] W') :
  FX prog Bs none 19 56 (.loop (D6 prog 19 0)) e [] W K:=by
 refine C2 (λi e' EK W'=>EK=[]∧Kp A W'∧Ai W'∧A0 W' Wz 24 [vo]∧e' 9=.pointer (some ⟨bk,0,none⟩)∧e' 11=.pointer (some ⟨br,0,none⟩)∧e' 12=.pointer (some ⟨Wz,0,none⟩)∧e' 37=vo∧e' 38=.int .i64 ps.length∧e' 39=.int .i64 i∧∃qs,qs.length=i∧GN B W' vo (qs++ps.drop i)∧qs.map (·.1)=(ps.take i).map (λp=>A_ c l p.1)) ps.length
  ⟨rfl,kA,t0,AB5,g9,g11,pY,g37,g38,g39,[],rfl,hH,rfl⟩ ?_
 rintro i e' EK W' hi ⟨rfl,VQ,t',AAH,h9,Xu,df,h37,h38,h39,qs,hql,hH',vA⟩;rw[AD7,h37,h38,h39];simp only[AP,AA];refine Eh (λAd=>?_) (λGZ=>?_)
 rotate_left
 ·have OT:i=ps.length:=by omega
  subst OT;simp only[Jp];refine Ef _ W' qs VQ t' AAH ?_ (by rw[vA,aa_]) (by simp only[AG,AJ,Nat.reduceEqDiff,↓reduceIte,df])
  simpa using hH'
 ·have hp:=ck Ad;generalize hpp:ps[i]=p at hp;have pX:p∈ps:=aan hp;have SQ:ps.drop i=p::ps.drop (i+1):=by rw[←hpp];exact abX Ad
  have No:(qs++ps.drop i)[i]?=some p:=by rw[aaC (by omega),hql,abn,SQ];rfl
  have OU:(qs++ps.drop i).length=ps.length:=by rw[aas,abm,hql];omega
  have Hp:=DE (qs++ps.drop i);obtain⟨bv,hv,hBv,hBB⟩:=hH'.pv p (aan No)
  obtain⟨b0,hvo,Zd,ANx⟩:∃b0,vo=.slice (some ⟨b0,0,none⟩) ps.length ps.length∧A0 W' b0 56 ((qs++ps.drop i).flatMap DV)∧B≤b0:=by
   have hO:=hH'.own;have hN:=hH'.new;generalize (qs++ps.drop i).flatMap DV=cs at hO Hp
   cases hO with
   |nil=>simp at Hp;omega
   | @some b0 len _ hB hl=>
    have:len=ps.length:=by omega
    subst this;exact⟨b0,rfl,hB,hN _ _ _ rfl⟩
  subst hvo;rw[AY M' IH Ad];simp only[AA]
  have Ah:Cells W' b0 (0+i*2) (DV p):=λj v hj=>by
   have rA:j<2:=by have:=(dx.1 hj).1;simpa[DV]using this
   refine Zd.cell ?_;rw[Im,show(0+i*2+j)/2=i by omega,show(0+i*2+j)%2=j by omega,No];exact hj
  rw[DC (vs:=DV p) (a:=⟨b0,0+i*2,none⟩) bG IH rfl (by omega) Ah];simp only[AA];have Jz:(DV p).all BJ=true:=by unfold DV;rw[hv];rfl
  refine EH (ws:=DV p) m0 IH rfl Jz rfl t' λW2 k2 t2 z2 AJm=>?_;have WX:=VQ.trans k2;have pZ:=AAH.ext t' k2;rw[df,Xu,h9];rw[AH a24 (a:=⟨Wz,0,none⟩) (pZ.cell rfl),gl ((Q.rr.ext Q.top WX)),VH (Q.k.ext Q.top WX),DC (vs:=DV p) (a:=⟨W'.sz,0,none⟩) bG IH rfl (by omega) AJm.cells];simp only[AA];have AMQ:=hBv.ext t' k2
  have gp:Ab 1 (F9 W2) p.2 p.1.AO:=by
   refine⟨some ⟨bv,0,none⟩,p.1.AO.length,hv,λj y hy=>⟨_,rfl,?_,PM p pX y (aan hy)⟩⟩;show W2.cell bv (0+j*1)=_;rw[show 0+j*1=j by omega];refine AMQ.cell ?_;unfold DA;rw[aaz,hy];rfl
  have hm:∀s,OC l p.1.type=some s→s.map.length≤p.1.AO.length∧∃t,A3 c s.type=some t∧∀m,m∈s.map→0≤m∧m.toNat<(AX c t).length:=by
   intro s Js;unfold OC at Js;have hto:s.to=p.1.type:=by simpa using ac0 Js
   obtain⟨j,hj⟩:=abg (abU Js);obtain⟨t,a,S⟩:=ox hs hj;obtain⟨ix,N5,WK⟩:=Mt p pX;rw[←hto,S.ai]at N5
   cases N5
   refine⟨by rw[WK S.ea,S.len];exact aag _,t,S.ti,λm RG=>?_⟩;obtain⟨k,hk⟩:=abg RG;have O2:k<(AX c a).length:=by rw[←S.len];exact(dx.1 hk).1
   obtain⟨n,Nx,QK,w5,_⟩:=S.map k O2;rw[hk]at Nx
   cases Nx
   omega
  refine(u6 (w:=w) (r:=r) (r1:=r1) (r2:=r2) t2 (Q.rd.kp Q.top WX) (Q.cat.kp Q.top WX) hC gp hm M9).mono λen W3 ⟨k3,t3,vv,Hx,UX⟩=>?_;subst Hx;refine AL ?_;have k23:=k2.trans k3;have w_:=WX.trans k3;have AFe:=pZ.ext t2 k3;have AAI:=Zd.ext t' k23;rw[AY M' IH Ad];simp only[AA];generalize hy:A_ c l p.1=y at UX
  have zb:(DV (y,vv)).all BJ=true:=by
   rcases UX with⟨rfl,_⟩|⟨bv2,rfl,_⟩
   ·unfold DV;rw[hv];rfl
   ·rfl
  refine G0 IH (a:=⟨b0,0+i*2,none⟩) (ws:=DV (y,vv)) zb rfl AAI (by show 0+i*2+2≤_;rw[Hp,OU];omega) λW4 hu4 N3=>?_;have hu4:Ep b0 W3 W4:=hu4
  have xe:(qs++ps.drop i).set i (y,vv)=(qs++[(y,vv)])++ps.drop (i+1):=by
   rw[SQ,List.set_append_right _ _ (by omega),hql,abn];simp
  have N3:A0 W4 b0 56 (((qs++[(y,vv)])++ps.drop (i+1)).flatMap DV):=by
   rw[←xe,←AAE (by rw[OU];exact Ad)];exact N3
  have AJn:Wz≠b0:=by
   rintro rfl;have:=BE AAH Zd;cases this
  have AMR:=AAI.lt t3;have t4:=t3.Ba AMR hu4;have l15:∀W0,Kp W2 W0→ld prog 24 (.pointer (some ⟨Wz,0,none⟩)) W0=some (.slice (some ⟨b0,0,none⟩) ps.length ps.length):=λW0 k0=>AH a24 (a:=⟨Wz,0,none⟩) ((pZ.ext t2 k0).cell rfl);refine⟨by simp only[DC (vs:=DV p) (a:=⟨W'.sz,0,none⟩) bG IH rfl (by omega) AJm.cells,l15 W2 (.refl _),l15 W3 k3,gl ((Q.rr.ext Q.top WX)),VH (Q.k.ext Q.top WX),and_self],trivial,?_⟩;simp only[uK,Aj,FH];simp only[AG,AJ,Nat.reduceEqDiff,↓reduceIte,h39,AK,AA]
  have AAJ:∀{j:Nat} {ws:List Value},A0 W3 j 3 ws→A0 W4 j 3 ws:=λ{j ws} hB=>hB.congr (hu4.obj j (by
   rintro rfl
   have:=BE hB AAI;cases this))
  refine⟨Ad,trivial,w_.Ba (by omega) hu4,t4,AFe.congr (hu4.obj _ AJn),?_,?_,?_,?_,?_,?_,qs++[(y,vv)],by simp[hql],⟨?_,hH'.new,λq hq=>?_,?_⟩,?_⟩
  ·simp only[h9]
  ·simp only[Xu]
  ·simp only[df]
  ·simp only[h37]
  ·simp only[h38]
  ·rw[CE (by omega)]
  ·refine Bu.some N3 ?_;rw[DE,←xe,abZ,OU]
  ·have old:∀q,q∈qs++ps.drop i→∃bv,q.2=.slice (some ⟨bv,0,none⟩) q.1.AO.length q.1.AO.length∧A0 W4 bv 3 (DA q.1.AO)∧B≤bv:=λq hq=>by
    obtain⟨bq,h1,h2,h3⟩:=hH'.pv q hq;exact⟨bq,h1,AAJ (h2.ext t' k23),h3⟩
   rw[abb]at hq
   rcases aaB.1 hq with hq|hq
   ·exact old q (acW _ hq)
   ·rcases aaB.1 hq with hq|hq
    ·cases dy.1 hq
     rcases UX with⟨h1,h2⟩|⟨bv2,h1,h2,h3⟩
     ·refine⟨bv,?_,?_,hBB⟩
      ·show vv=_;rw[h1,hv];show _=Value.slice _ y.AO.length y.AO.length;rw[h2]
      ·show A0 W4 bv 3 (DA y.AO);rw[h2];exact AAJ (hBv.ext t' k23)
     ·have:=k2.sz;have:=Zc t' hH'.own (⟨_,_,_,rfl,rfl⟩:FA (.slice (some ⟨b0,0,none⟩) ps.length ps.length) b0);exact⟨bv2,h1,AAJ h2,by omega⟩
    ·exact old q (List.mem_append_right _ (by rw[SQ];exact acV _ hq))
  ·rw[←xe,List.map_set];refine u_ hH'.nd ?_
   rcases UX with⟨h1,_⟩|⟨bv2,h1,_,h3⟩
   ·right;rw[aaz,No,h1];rfl
   ·left;intro hm;obtain⟨q,hq,he⟩:=aaM.1 hm;obtain⟨bq,g1,g2,_⟩:=hH'.pv q hq;have hl:=g2.lt t';have:=k2.sz;have he:q.2=vv:=he;rw[g1,h1]at he;have e2:bq=bv2:=by injection he with e1;injection e1 with e1;injection e1
    omega
  ·rw[aaI,vA,aaP,hp,aaI,←hy];rfl
theorem AMS:Is prog 24=some (.slice none 0 0):=by kernel_rfl
theorem GN.low{B B':Nat}{W:CW}{v:Value}{ps:List (CD×Value)}(h:GN B W v ps)(hB:B'≤B):GN B' W v ps:=⟨h.own,λb l c e=>by have:=h.new b l c e;omega,λp hp=>by
 obtain⟨bv,h1,h2,h3⟩:=h.pv p hp
 exact⟨bv,h1,h2,by omega⟩,h.nd⟩
def Br(c:List Aq)(l:List DD)(b:List UInt8):List CD×Int×Int :=
 if Bk c=false then([],0,210)else if Be c l=false then([],0,212)else if 100000<b.length then([],0,2)else match Bf b c (F_ c l) 0 with
 | .error e=>([],0,e)
 | .ok (xs,_)=>(xs.map (A_ c l),min (xs.length:Int) 1,0)
def lZ(r:List CD×Int×Int)(W:CW):Ending→CW→Prop:=λen W'=>Kp W W'∧Ai W'∧∃v qs,en=.returned (.tuple #[v,.int .i64 r.2.1,.int .i64 r.2.2])∧GN W.sz W' v qs∧qs.map (·.1)=r.1∧∀q,q∈qs→hM q.1
structure Ts(A:CW)(vb:Value)(b:List UInt8):Prop where
 sl:∃a cap,vb=.slice a b.length cap∧b.length≤cap∧∀i x,b[i]?=some x→∃p,a=some p∧Lx A p.block (p.off+i*1) x
theorem Ts.kp{A W:CW}{vb:Value}{b:List UInt8}(h:Ts A vb b)(ht:Ai A)(k:Kp A W):Ts W vb b:=by
 obtain⟨a,cap,h1,h2,h3⟩:=h.sl
 exact⟨a,cap,h1,h2,λi x hx=>by
  obtain⟨p,q1,q2⟩:=h3 i x hx
  exact⟨p,q1,k.cell ht q2⟩⟩
theorem AB6{A W:CW}{bk br r1 r2 w r Wz rb:Nat}{vb:Value}{b:List UInt8}{c:List Aq}{l:List DD}(Q:sX A bk br r1 r2 w r c l)(I:QG A vb b)(h:Rd A W rb vb 0)(AB5:A0 W Wz 24 [.slice none 0 0])(hAb:A.sz≤Wz)(D3:Wz≠rb)(Al:Bk c=true)(hC:QD c){K:Value→CW→Prop}{KP:List PanicEntry→CW→Prop}
  (hk:∀W' v xs BY ps,Bf b c (F_ c l) 0=.ok (xs,BY)→Bw (λj=>j=rb∨j=Wz) W W'→Ai W'→A0 W' Wz 24 [v]→GN W.sz W' v ps→ps.map (·.1)=xs→K (.tuple #[]) W')
  (hp:∀W' x,Bf b c (F_ c l) 0=.error x→Bw (LQ rb) W W'→Ai W'→KP (D5 x) W') :
  GI prog Bs (.func (.func 73) #[] #[.pointer (some ⟨bk,0,none⟩),.pointer (some ⟨br,0,none⟩),.pointer (some ⟨Wz,0,none⟩)]) [.pointer (some ⟨rb,0,none⟩)] W K KP:=by
 refine Na Tryz.func73 (by kernel_rfl) ?_;refine AH8 (v0:=.pointer (some ⟨rb,0,none⟩)) (v1:=.pointer (some ⟨bk,0,none⟩)) (v2:=.pointer (some ⟨br,0,none⟩)) (v3:=.pointer (some ⟨Wz,0,none⟩)) ?_;rw[AH7];rw[VH (Q.k.ext Q.top h.kp)];simp only[AA];refine(lS (c:=c) I h (aa1 _) (AAC Q) (λs hs=>(VR hs).1) Q.cat Al hC).mono λen W1 ⟨k1,t1,hr⟩=>?_
 cases RZ:Bf b c (F_ c l) 0 with
 |error x=>
  rw[RZ]at hr;simp only at hr;subst hr;exact hp W1 x RZ k1 t1
 |ok r=>
  obtain⟨xs,BY⟩:=r;rw[RZ]at hr;obtain⟨v,Hx,⟨ps,h1,h2⟩,_⟩:=hr;subst Hx;refine AL ?_;have Rz:=k1.Fk h.top (b:=Wz) D3 AB5;refine Ar s24 (a:=⟨Wz,0,none⟩) (v:=v) (Za h2.own) Rz (by simp) λW2 hu HD=>?_;have hu:Ep Wz W1 W2:=hu;have hl:=AB5.lt h.top;refine Hw (by kernel_rfl) _ _ (.inl rfl) _ _ (hk W2 v xs BY ps RZ ⟨by rw[hu.sz];exact k1.sz,λj hj hS=>?_⟩ (t1.Ba (Rz.lt t1) hu) HD (h2.of λj o hj ho _=>by rw[hu.obj j (by omega)];exact ho) h1);rw[hu.obj j (λe=>hS (.inr e)),k1.obj j hj (λe=>hS (.inl e))]
theorem eO{v0 v1 vb:Value}{c:List Aq}{l:List DD}{b:List UInt8}{W:CW}(ht:Ai W)(hc:Ab 5 (EI W) v0 c)(hC:QD c)(hl:Ab 3 (Hs W) v1 l)(OU:l.length<100000)(M9:∀s,s∈l→s.map.length<100000)(hb:Ts W vb b) :
  Ac prog Bs 19 [v0,v1,vb] W (lZ (Br c l b) W):=by
 refine AH5 ?_;rw[AH4];generalize FI:AM prog Tryz.f19 (lZ (Br c l b) W)=KK
 have DU:∀(e':Env) W' v n m qs,Kp W W'→Ai W'→e' 6=v→e' 7=.int .i64 n→e' 8=.int .i64 m→GN W.sz W' v qs→(∀q,q∈qs→hM q.1)→Br c l b=(qs.map (·.1),n,m)→KK .ret e' [] W':=by
  intro e' W' v n m qs k t h6 h7 h8 hH PM hn;rw[←FI,uL,h6,h7,h8,hn];exact⟨k,t,v,qs,rfl,hH,rfl,PM⟩
 have GY:∀W',GN W.sz W' (.slice none 0 0) []:=λW'=>⟨Bu.nil,Aw.nil _ _ _,λp hp=>(by cases hp),acN⟩
 refine(Zs ht hc hC).mono λen W1 ⟨k1,t1,r1,r2,Hx,MU,P2,Iw⟩=>?_;subst Hx;refine AL ?_;refine Ap (CN _ _) ?_;refine Ap (CO _ _) ?_;unfold QF;refine EH (ws:=[.map (some r1),.map (some r2)]) z78 k_ rfl rfl rfl t1 λW3 k3 t3 z3 hB9=>?_;have im:=k1.trans k3;simp only[AZ,AA]
 cases Al:Bk c with
 |false=>
  simp only[aa6,Af];exact DU _ W3 _ 0 210 [] im t3 rfl rfl rfl (GY _) (λq hq=>by cases hq) (by unfold Br;rw[aae Al];rfl)
 | true=>
  simp only[aav,AT];have WU:=(Iw Al).kp t1 k3;rw[VH hB9];simp only[AA];refine(lG t3 WU hC (hl.imp λ_ _ _ hr=>hr.kp ht im) OU M9).mono λen W4 ⟨k4,t4,w,r,Hx,Js⟩=>?_;subst Hx;refine AL ?_;refine Ap (CN _ _) ?_;refine Ap (CO _ _) ?_;refine EH (ws:=[.map (some w),.map (some r)]) z83 s83 rfl rfl rfl t4 λA k7 tA z7 pK=>?_;have k3A:=k4.trans k7;have Z8:=im.trans k3A;simp only[AZ,AA]
  cases hs:Be c l with
  |false=>
   simp only[aa6,Af];exact DU _ A _ 0 212 [] Z8 tA rfl rfl rfl (GY _) (λq hq=>by cases hq) (by unfold Br;rw[aad (by rw[Al];simp),aae hs];rfl)
  | true=>
   simp only[aav,AT];obtain⟨hsw,wg⟩:=Js hs;have Q:sX A W1.sz W4.sz r1 r2 w r c l:=⟨tA,hB9.ext t3 k3A,pK,WU.kp t3 k3A,hsw.kp t4 k7,wg.kp t4 k7⟩
   have hbA:=hb.kp ht Z8;refine LL AMS s24 tA λT k8 tT zT AB4=>?_;have AB4:A0 T A.sz 24 [.slice none 0 0]:=AB4;obtain⟨a,cap,N1,OR,TK⟩:=hbA.sl;rw[N1]
   have J5:Br c l b=(if 100000<b.length then([],0,2)else match Bf b c (F_ c l) 0 with
    | .error e=>([],0,e)
    | .ok (xs,_)=>(xs.map (A_ c l),min (xs.length:Int) 1,0)):=by
    unfold Br;rw[aad (by rw[Al];simp),aad (by rw[hs];simp)]
   have ml:∀x,Bf b c (F_ c l) 0=.error x→x≠0:=λx=>WV Z3;have hTn:Kp A T:=k8
   refine(Z1 (Q:=λen W'=>Kp A W'∧Ai W'∧∃x,en=.returned (.int .i64 x)∧((x≠0∧Br c l b=([],0,x))∨(x=0∧∃v xs BY ps,Br c l b=(xs.map (A_ c l),min (xs.length:Int) 1,0)∧Bf b c (F_ c l) 0=.ok (xs,BY)∧A0 W' A.sz 24 [v]∧GN A.sz W' v ps∧ps.map (·.1)=xs))) tT (λLX W' k t=>⟨k8.trans k,t,2,rfl,.inl ⟨by decide,by rw[J5,aae LX]⟩⟩) (λN_ W0 k t hz hBe vB=>?_)).mono λen W' ⟨kk,tt,x,Hx,UX⟩=>?_
   ·have hkA:=k8.trans k
    have AB7:Br c l b=(match Bf b c (F_ c l) 0 with
     | .error e=>([],0,e)
     | .ok (xs,_)=>(xs.map (A_ c l),min (xs.length:Int) 1,0)):=by rw[J5,aad (by omega)]
    have I:QG A (.slice a b.length cap) b:=⟨tA,⟨a,cap,rfl,OR,TK⟩,N_⟩
    have R:Rd A W0 (T.sz+1) (.slice a b.length cap) 0:=⟨hkA,t,by omega,vB⟩
    refine AB6 Q I R (AB4.ext tT k) (aag _) (by omega) Al hC (λW3 v xs BY ps RZ Jt t3 IG hH3 Zp=>?_) (λW4 x RZ Jt t4=>?_)
    ·refine⟨t3,Jt.Fk t (λh=>by omega) hBe,λW' hu t'=>⟨⟨?_,λj hj=>?_⟩,t',0,rfl,.inr ⟨rfl,v,xs,BY,ps,?_,RZ,?_,?_,Zp⟩⟩⟩
     ·have h1:=hkA.sz;have h2:=Jt.sz;have h3:=hu.sz;omega
     ·have h1:=hkA.sz;have h2:=Jt.sz;rw[hu.obj j (by omega) (by omega),Jt.obj j (by omega) (λh=>by omega),hkA.obj j hj]
     ·rw[AB7,RZ]
     ·exact IG.congr (hu.obj _ (IG.lt t3) (by omega))
     ·exact(hH3.of λj o hj ho _=>by rw[hu.obj j (t3 _ _ ho) (by omega)];exact ho).low hkA.sz
    ·refine⟨x,rfl,t4,Jt.Fk t (λh=>by have:T.sz=T.sz+1:=h;omega) hBe,λW' hu t'=>⟨⟨?_,λj hj=>?_⟩,t',x,rfl,.inl ⟨ml x RZ,by rw[AB7,RZ]⟩⟩⟩
     ·have h1:=hkA.sz;have h2:=Jt.sz;have h3:=hu.sz;omega
     ·have h1:=hkA.sz;have h2:=Jt.sz;rw[hu.obj j (by omega) (by omega),Jt.obj j (by omega) (λh=>by have:j=T.sz+1:=h;omega),hkA.obj j hj]
   ·subst Hx;refine AL ?_;simp only[BX,AA]
    rcases UX with⟨hx,hr⟩|⟨rfl,v,xs,BY,ps,hr,RZ,hB,hH,Zp⟩
    ·rw[show(x !=0)=true by simpa using hx,Af];exact DU _ W' _ 0 x [] (Z8.trans kk) tt rfl rfl rfl (GY _) (λq hq=>by cases hq) hr
    ·rw[show((0:Int) !=0)=false from rfl,AT];rw[AH a24 (a:=⟨A.sz,0,none⟩) (hB.cell rfl)];simp only[AA];obtain⟨Mt,Q7⟩:=WW RZ;have PM:=Z7 RZ;subst Zp;rw[aaq]at Q7
     have hlen:It prog 24 v W'=some (.int .i64 ps.length):=by
      have:=DE ps;exact Hu M' hH.own (by omega) (by omega)
     rw[hlen];simp only[AA];refine AAG (c:=c) (l:=l) (ps:=ps) Q hC hs M9 (λp hp=>Mt _ (aaS hp)) (λp hp=>PM _ (aaS hp)) Q7 kk tt (aag _) (aag _) hB hH rfl rfl rfl rfl rfl rfl (λe' W2 qs WX t2 HD hH2 vA df=>?_);simp only[uJ,Aj,LM,Er];rw[df];have MV:ld prog 24 (.pointer (some ⟨A.sz,0,none⟩)) W2=some v:=AH a24 (a:=⟨A.sz,0,none⟩) (HD.cell rfl);rw[MV]
     have hql:qs.length=ps.length:=by
      have:=ab3 List.length vA
      simpa using this
     have AJo:It prog 24 v W2=some (.int .i64 qs.length):=by
      have:=DE qs;exact Hu M' hH2.own (by omega) (by omega)
     simp only[AA];rw[AJo];simp only[AA];rw[eJ];simp only[On];refine⟨by simp only[MV,and_self],trivial,?_⟩;refine DU _ W2 v (min (qs.length:Int) 1) 0 qs (Z8.trans WX) t2 rfl rfl rfl (hH2.low (by have:=Z8.sz;omega)) (λq hq=>?_) (by rw[hr,ac7,vA,aaq,hql];rfl);have:q.1∈ps.map (λp=>A_ c l p.1):=by rw[←vA];exact aaS hq
     obtain⟨p,hp,he⟩:=aaM.1 this;rw[←he];exact lY (PM _ (aaS hp))
def bI(b:List UInt8):List Int:=b.map λx=>((x.toNat:Nat):Int)
theorem hY(b:List UInt8):(bI b).length=b.length:=aaq _
structure OJ(b:List UInt8)(i j:Nat)(e:List Int):Prop where
 le:j≤b.length
 ij:j=i+e.length
 eq:(bI b).drop i=e++(bI b).drop j
theorem OJ.nil{b:List UInt8}{i:Nat}(h:i≤b.length):OJ b i i []:=⟨h,rfl,rfl⟩
theorem OJ.app{b:List UInt8}{i j k:Nat}{e f:List Int}(h:OJ b i j e)(g:OJ b j k f):OJ b i k (e++f):=⟨g.le,by rw[g.ij,h.ij,aas];omega,by rw[h.eq,g.eq,abb]⟩
theorem OJ.one{b:List UInt8}{i:Nat}{x:UInt8}(h:b[i]?=some x):OJ b i (i+1) [((x.toNat:Nat):Int)]:=by
 obtain⟨hl,he⟩:=dx.1 h;refine⟨hl,rfl,?_⟩;unfold bI;rw[←acY,←acY,abX hl,he];rfl
theorem AB8{n:Nat}(h:n<128):Jo n=[(n:Int)]:=by unfold Jo;rw[aae h]
theorem AB9{n:Nat}(h:128≤n):Jo n=((n%128+128:Nat):Int)::Jo (n/128):=by
 conv=>lhs;unfold Jo
 rw[aad (by omega)]
theorem lg{b:List UInt8}:∀{f at_ n sh:Nat} {r:Nat×Nat},EC b f at_ n sh=.ok r→∃v,r.1=n+v*2^sh∧v<128^f∧(0<sh→0<v)∧OJ b at_ r.2 (Jo v)
 |0,_,_,_,_,h=>by cases h
 | f+1,at_,n,sh,r,h=>by
  unfold EC at h
  split at h
  ·cases h
  ·rename_i x hx;have hp:(1:Nat)≤128^f:=Nat.one_le_pow _ _ (by omega);have hxl:=x.toNat_lt
   split at h
   ·rename_i Ad
    split at h
    ·rename_i h0
     cases h
     exact⟨x.toNat,rfl,by rw[Nat.pow_succ];omega,λhs=>by omega,by rw[AB8 Ad];exact OJ.one hx⟩
    ·cases h
   ·rename_i GZ;obtain⟨v,h1,h2,h3,h4⟩:=lg h;have hv:=h3 (by omega)
    refine⟨x.toNat%128+128*v,?_,?_,λ_=>by omega,?_⟩
    ·rw[h1,acK,abx]
     have:v*(2^sh*2^7)=128*v*2^sh:=by
      rw[show(2:Nat)^7=128 from rfl,ace (2^sh) 128,←Nat.mul_assoc,ace v 128]
     omega
    ·rw[Nat.pow_succ];omega
    ·rw[AB9 (by omega),show(x.toNat%128+128*v)%128+128=x.toNat by omega,show(x.toNat%128+128*v)/128=v by omega];exact(OJ.one hx).app h4
theorem Jq{b:List UInt8}{at_:Nat}{m:Int}{n j:Nat}(h:ED b at_ m=.ok (n,j)):OJ b at_ j (Jo n)∧(n:Int)≤m:=by
 unfold ED at h
 split at h
 ·cases h
 ·rename_i n' j' hg
  split at h
  ·rename_i hle
   cases h
   obtain⟨v,h1,_,_,h4⟩:=lg hg;have:n=v:=by simpa using h1
   subst this;exact⟨h4,hle⟩
  ·cases h
inductive My(c:List Aq)(ix many:Nat):Nat→Nat→List Int→Nat→Prop
 |nil (k fd:Nat):My c ix many k fd [] fd
 |ref {k fd v:Nat} {vs:List Int} {Fl:Nat} (hk:BR c ix k=2) (hv:v≤min (fd+1) many) (h:My c ix many (k+1) (max fd v) vs Fl):My c ix many k fd ((v:Int)::vs) Fl
 |word {k fd:Nat} {v:Int} {vs:List Int} {Fl:Nat} (hk:BR c ix k≠2) (h1:-1000000000≤v) (h2:v≤1000000000) (h:My c ix many (k+1) fd vs Fl):My c ix many k fd (v::vs) Fl
def lh(c:List Aq)(ix:Nat):Nat→List Int→List Int
 |_,[]=>[]
 |k,v::vs=>(if BR c ix k=2 then Jo v.toNat else Jo (sI v).toNat)++lh c ix (k+1) vs
theorem AAK(n:Nat):(sI (J_ n)).toNat=n:=by
 unfold sI J_;split<;>split<;>omega
theorem AFf{n:Nat}(h:n≤2000000000):-1000000000≤J_ n∧J_ n≤1000000000:=by
 unfold J_;split<;>omega
theorem VV{b:List UInt8}{c:List Aq}{ix many:Nat}:∀{m k at_ fd:Nat} {vs:List Int} {r:List Int×Nat×Nat},at_≤b.length→DR b c ix many m k at_ fd vs=.ok r→∃new,r.1=vs++new∧new.length=m∧My c ix many k fd new r.2.1∧OJ b at_ r.2.2 (lh c ix k new)
 |0,k,at_,fd,vs,r,ha,h=>by cases h;exact⟨[],by simp,rfl,.nil _ _,OJ.nil ha⟩
 | m+1,k,at_,fd,vs,r,ha,h=>by
  unfold DR at h
  split at h
  ·rename_i hk
   split at h
   ·cases h
   ·rename_i n a hn;obtain⟨h1,h2⟩:=Jq hn;obtain⟨new,g1,g2,g3,g4⟩:=VV h1.le h;refine⟨(n:Int)::new,by rw[g1];simp,by simp[g2],.ref hk (by omega) g3,?_⟩;rw[lh,aae hk,abT];exact h1.app g4
  ·rename_i hk
   split at h
   ·cases h
   ·rename_i n a hn;obtain⟨h1,h2⟩:=Jq hn;obtain⟨new,g1,g2,g3,g4⟩:=VV h1.le h;have PM:=AFf (n:=n) (by omega);refine⟨J_ n::new,by rw[g1];simp,by simp[g2],.word hk PM.1 PM.2 g3,?_⟩;rw[lh,aad hk,AAK];exact h1.app g4
theorem vC{ts:List ByteArray}(hn:ts.Nodup){t:Nat}{s:ByteArray}(h:ts[t]?=some s):Kt ts (λx=>decide (x=s))=t:=by
 obtain⟨hl,he⟩:=dx.1 h;refine JQ hl (by rw[he];simp) λj x hj hx=>?_;obtain⟨UL,hje⟩:=dx.1 hx
 have:x≠s:=by
  rintro rfl;have:=(List.getElem_inj hn).1 (hje.trans he.symm);omega
 simpa using this
inductive Hn(c:List Aq)(ts:List ByteArray)(many:Nat):Nat→Nat→Nat→List CD→Nat→Nat→Prop
 |nil (i u f:Nat):Hn c ts many i u f [] u f
 |cons {i u f:Nat} {x:CD} {xs:List CD} {t ix f1 u' f':Nat} (hi:i<f) (ht:ts[t]?=some x.type) (mg:t≤u) (hx:A3 c x.type=some ix) (hn:if elemAt c ix≠0 then x.AO.length≤200 else x.AO.length=(AX c ix).length) (hv:My c ix many 0 f x.AO f1) (h:Hn c ts many (i+1) (if t=u then u+1 else u) f1 xs u' f'):Hn c ts many i u f (x::xs) u' f'
def Z9(c:List Aq)(ts:List ByteArray)(x:CD):List Int:=match A3 c x.type with
 |some i=>Jo (Kt ts λy=>decide (y=x.type)).toNat++(if elemAt c i≠0 then Jo x.AO.length else[])++lh c i 0 x.AO
 |none=>[]
theorem Z'{b:List UInt8}{c:List Aq}{ts:List ByteArray}{many:Nat}(WG:ts.Nodup):∀{m i at_ u f:Nat} {out:List CD} {r:List CD×Nat×Nat×Nat},at_≤b.length→CZ b c ts many m i at_ u f out=.ok r→∃new,r.1=out++new∧new.length=m∧Hn c ts many i u f new r.2.1 r.2.2.1∧OJ b at_ r.2.2.2 (new.flatMap (Z9 c ts))
 |0,i,at_,u,f,out,r,ha,h=>by cases h;exact⟨[],by simp,rfl,.nil _ _ _,OJ.nil ha⟩
 | m+1,i,at_,u,f,out,r,ha,h=>by
  unfold CZ at h
  split at h
  ·rename_i hi
   split at h
   ·cases h
   ·rename_i t a1 hn;obtain⟨s1,ht⟩:=Jq hn
    split at h
    ·cases h
    ·rename_i ty Wy
     split at h
     ·cases h
     ·rename_i ix N5
      split at h
      ·cases h
      ·rename_i n a2 hnn
       have h2:OJ b a1 a2 (if elemAt c ix≠0 then Jo n else[])∧(if elemAt c ix≠0 then n≤200 else n=(AX c ix).length):=by
        split at hnn
        ·rename_i he;obtain⟨q1,q2⟩:=Jq hnn;rw[aae he,aae he];exact⟨q1,by omega⟩
        ·rename_i he
         cases hnn
         rw[aad he,aad he];exact⟨OJ.nil s1.le,rfl⟩
       split at h
       ·cases h
       ·rename_i vs f1 a3 hv;obtain⟨new,g1,g2,g3,g4⟩:=VV h2.1.le hv;rw[abi]at g1;have g1:vs=new:=g1;subst g1;obtain⟨nx,k1,k2,k3,k4⟩:=Z' WG g4.le h
        refine⟨⟨ty,vs⟩::nx,by rw[k1];simp,by simp[k2],.cons (t:=t) (ix:=ix) hi Wy (by omega) N5 ?_ g3 k3,?_⟩
        ·have:=h2.2;show if elemAt c ix≠0 then vs.length≤200 else vs.length=(AX c ix).length;rw[g2];exact this
        ·rw[aaO];refine OJ.app ?_ k4;unfold Z9;show OJ b at_ a3 (match A3 c ty with|some i=>_|none=>[]);rw[N5]
         refine OJ.app (OJ.app (j:=a1) ?_ ?_) g4
         ·show OJ b at_ a1 (Jo (Kt ts λy=>decide (y=ty)).toNat);rw[vC WG Wy];exact s1
         ·show OJ b a1 a2 (if elemAt c ix≠0 then Jo vs.length else[]);rw[g2];exact h2.1
  ·cases h
theorem AAL(l:List UInt8):oh (strOf l)=bI l:=by
 unfold oh bI strOf sb;simp
theorem pb(l:List UInt8):(strOf l).size=l.length:=by
 unfold strOf;show l.toArray.size=_;simp
theorem OJ.take{b:List UInt8}{a n:Nat}(h:a+n≤b.length):OJ b a (a+n) (bI ((b.drop a).take n)):=by
 have hl:(bI ((b.drop a).take n)).length=n:=by rw[hY,aaE,abm];omega
 refine⟨h,by rw[hl],?_⟩;unfold bI;rw[←acY,←acY,←aaI,←acz,ab6]
theorem eP{b:List UInt8}{ask:ByteArray→Option Int}:∀{k at_:Nat} {out:List ByteArray} {r:List ByteArray×Nat},at_≤b.length→GG b ask k at_ out=.ok r→∃new,r.1=out++new∧new.length=k∧(∀s,s∈new→Dt s=true∧ask s=none)∧(out.Nodup→(out++new).Nodup)∧OJ b at_ r.2 (new.flatMap kb)
 |0,at_,out,r,ha,h=>by cases h;exact⟨[],by simp,rfl,(by simp),(by simp),OJ.nil ha⟩
 | k+1,at_,out,r,ha,h=>by
  unfold GG at h
  split at h
  ·cases h
  ·rename_i n a1 hn;obtain⟨s1,AB3⟩:=Jq hn
   split at h
   ·cases h
   ·rename_i a2 ht;obtain⟨rfl,hle⟩:=Zy ht
    split at h
    ·rename_i hs
     split at h
     ·cases h
     ·rename_i QH;obtain⟨new,g1,g2,g3,g4,g5⟩:=eP hle h;generalize hS:strOf ((b.drop a1).take n)=S at*
      refine⟨S::new,by rw[g1];simp,by simp[g2],?_,λWG=>?_,?_⟩
      ·intro s UH
       rcases aaJ.1 UH with rfl|UH
       ·exact⟨hs.1,QH⟩
       ·exact g3 s UH
      ·have:(out++[S]).Nodup:=by
        rw[List.nodup_append];refine⟨WG,abM _ _,λx hx y hy=>?_⟩;rw[dy.1 hy];rintro rfl;have:=abS.1 hs.2 x hx;simp at this
       have:=g4 this
       simpa using this
      ·rw[aaO];refine OJ.app ?_ g5;unfold kb
       refine OJ.app (j:=a1) ?_ ?_
       ·have:S.size=n:=by rw[←hS,pb,aaE,abm];omega
        rw[this];exact s1
       ·rw[←hS,AAL];exact OJ.take hle
    ·cases h
structure Canon(c:List Aq)(ask:ByteArray→Option Int)(ts:List ByteArray)(xs:List CD):Prop where
 tsl:ts.length≤100
 sym:∀s,s∈ts→Dt s=true∧ask s=none
 nodup:ts.Nodup
 len:xs.length≤1000
 scan:Hn c ts xs.length 0 0 (min xs.length 1) xs ts.length xs.length
def Z_(c:List Aq)(ts:List ByteArray)(xs:List CD):List Int:=[1]++Jo ts.length++ts.flatMap kb++Jo xs.length++xs.flatMap (Z9 c ts)
theorem OJ.all{b:List UInt8}{e:List Int}:OJ b 0 b.length e↔bI b=e:=by
 constructor
 ·intro h;have:=h.eq;rw[ab9,List.drop_of_length_le (by rw[hY];omega),abl]at this;exact this
 ·rintro rfl;refine⟨by omega,by rw[hY];omega,?_⟩;rw[ab9,List.drop_of_length_le (by rw[hY];omega),abl]
theorem b7{b:List UInt8}{c:List Aq}{ask:ByteArray→Option Int}{r:List CD×Nat}(h:Bf b c ask 0=.ok r):∃ts,Canon c ask ts r.1∧bI b=Z_ c ts r.1:=by
 unfold Bf at h
 split at h
 ·cases h
 ·rename_i ts a1 hh
  split at h
  ·cases h
  ·rename_i many a2 hn
   split at h
   ·cases h
   ·rename_i out u f a3 hg
    split at h
    ·rename_i hc
     cases h
     unfold Gt at hh
     split at hh
     ·cases hh
     ·rename_i v b1 hv
      split at hh
      ·rename_i Uo;subst Uo
       split at hh
       ·cases hh
       ·rename_i k b2 hk;obtain⟨s1,_⟩:=Jq hv;obtain⟨s2,ANV⟩:=Jq hk;obtain⟨new,g1,g2,g3,g4,g5⟩:=eP s2.le hh;rw[abi]at g1;have g1:ts=new:=g1;subst g1;obtain⟨s3,hm⟩:=Jq hn;have WG:=g4 acN;rw[abi]at WG;obtain⟨nx,k1,k2,k3,k4⟩:=Z' WG s3.le hg;rw[abi]at k1;have k1:out=nx:=k1;subst k1;obtain⟨c1,c2,c3⟩:=hc;have k3:Hn c ts many 0 0 (min many 1) out u f:=k3;have k4:OJ b a2 a3 (out.flatMap (Z9 c ts)):=k4;have g5:OJ b b2 a1 (ts.flatMap kb):=g5;subst c1 c2;rw[←k2]at k3 s3;refine⟨ts,⟨by omega,g3,WG,by show out.length≤1000;omega,k3⟩,?_⟩;rw[←OJ.all,←c3];unfold Z_;rw[←AFJ,g2];exact(((s1.app s2).app g5).app s3).app k4
      ·cases hh
    ·cases h
theorem eQ{c:List Aq}{l:List DD}(h:Be c l=true){i:Nat}{s:DD}(hs:l[i]?=some s):GW l s i=false∧∀k,k<l.length→FC l s i k=false:=by
 unfold Be at h;simp only[aab,aaK]at h;have hb:=GH h.2 (dx.1 hs).1;unfold HE at hb;rw[hs]at hb;simp only at hb
 split at hb
 ·simp only[aaF]at hb;exact⟨hb.1.2,λk hk=>GH hb.2.1 hk⟩
 ·cases hb
theorem AAM{c:List Aq}{l:List DD}(h:Be c l=true):∀(k j:Nat) (x y:DD),j<k→l[j]?=some x→l[k]?=some y→HH (sb x.type) (sb y.type)=true:=by
 intro k
 induction k with
 |zero=>intro j x y hj;omega
 |succ k ih=>
  intro j x y hj hx hy;have hp:=(eQ h hy).1;unfold GW at hp;have O2:k<l.length:=by have:=(dx.1 hy).1;omega
  have hz:=ck O2;simp only[hz,abB]at hp
  rcases aap.1 hj with h1|rfl
  ·exact G5 _ _ _ (ih j x _ h1 hx hz) hp
  ·rw[hx]at hz;cases hz;exact hp
theorem vD{c:List Aq}{l:List DD}(h:Be c l=true){s:DD}(hs:s∈l):dg l s.type=some s:=by
 obtain⟨i,hi,he⟩:=abo.1 hs;have LB:=ck hi;rw[he]at LB
 have:=zI (l:=l) (s:=s.type) hi (by rw[he];simp) (λj hj=>by
  have UL:j<l.length:=by omega
  have hj':=ck UL;rw[hj'];have Ad:=AAM h i j _ _ hj hj' LB;simp only[aba,aam,decide_eq_false_iff_not];intro e
  rw[e,Nm]at Ad;cases Ad)
 rw[this,he]
theorem AJp{c:List Aq}{l:List DD}(h:Be c l=true){s x:DD}(hs:s∈l)(hx:x∈l):x.type≠s.to:=by
 obtain⟨i,hi,he⟩:=abo.1 hs;obtain⟨k,hk,hke⟩:=abo.1 hx;have LB:=ck hi;rw[he]at LB;have:=(eQ h LB).2 k hk;unfold FC at this;rw[ck hk,hke]at this;simp only[aaF,decide_eq_false_iff_not]at this;exact this.1
theorem vE{l:List DD}{s:ByteArray}{x:DD}(h:OC l s=some x):x∈l∧x.to=s:=⟨abU h,by simpa using ac0 h⟩
theorem vF{mp:List Int}{k:Nat}{n:Int}(h:MJ mp k n=false){j:Nat}(hj:j<k):mp[j]?≠some n:=by
 have:=GH h hj
 simpa using this
theorem aA{mp vs z:List Int}(OT:∀(k:Nat) m,mp[k]?=some m→0≤m∧m.toNat<z.length)(hd:∀(k j:Nat) m,j<k→mp[k]?=some m→mp[j]?≠some m):∀n,n≤mp.length→∀(j:Nat) m,j<n→mp[j]?=some m→(EZ mp vs z n)[m.toNat]?=some ((vs[j]?).getD 0)
 |0,_,j,m,hj,_=>by omega
 | n+1,hn,j,m,hj,hm=>by
  have LU:n<mp.length:=by omega
  have hx:=ck LU;have hb:=OT n _ hx;have UY:=OT j _ hm;rw[EZ,hx,aaX,abw]
  by_cases e:n=j
  ·subst e;rw[hx]at hm
   cases hm
   rw[aae rfl,aae (by rw[JU];exact hb.2)]
  ·have hjn:j<n:=by omega
   have D3:mp[n]≠m:=λe'=>hd n j m hjn (by rw[hx,e']) hm;rw[aad (by omega)];exact aA OT hd n (by omega) j m hjn hm
theorem eR{mp vs z:List Int}(OT:∀(k:Nat) m,mp[k]?=some m→0≤m){i:Nat}(hi:∀m,m∈mp→m.toNat≠i):∀n,n≤mp.length→(EZ mp vs z n)[i]?=z[i]?
 |0,_=>rfl
 |n+1,hn=>by
  have LU:n<mp.length:=by omega
  have hx:=ck LU;rw[EZ,hx,aaX,abw,aad (hi _ (aan hx))];exact eR OT hi n (by omega)
structure WIs(c:List Aq)(l:List DD)(x:CD)(many ix:Nat):Prop where
 ti:A3 c x.type=some ix
 ask:dg l x.type=none
 n:if elemAt c ix≠0 then x.AO.length≤200 else x.AO.length=(AX c ix).length
 val:∀(k:Nat) v,x.AO[k]?=some v→DN (BR c ix k) v many=true
theorem AB'{c:List Aq}{s:DD}{t a:Nat}(S:AC8 c s t a):(∀(k:Nat) m,s.map[k]?=some m→0≤m∧m.toNat<(AX c t).length)∧∀(k j:Nat) m,j<k→s.map[k]?=some m→s.map[j]?≠some m:=by
 constructor
 ·intro k m hk;obtain⟨n,h1,h2,h3,_⟩:=S.map k (by rw[←S.len];exact(dx.1 hk).1);rw[hk]at h1;cases h1;omega
 ·intro k j m hj hk;obtain⟨n,h1,_,_,_,h5⟩:=S.map k (by rw[←S.len];exact(dx.1 hk).1);rw[hk]at h1;cases h1;exact vF h5 hj
theorem WIs.back{c:List Aq}{l:List DD}{x:CD}{many ix:Nat}(h:WIs c l x many ix)(hs:Be c l=true):Ii l (A_ c l x)=x∧BC c (A_ c l x) many=true∧OC l (A_ c l x).type=none:=by
 have La:=FT h.ti
 cases hto:OC l x.type with
 |none=>
  have hb:A_ c l x=x:=by unfold A_;rw[hto]
  rw[hb];refine⟨by unfold Ii;rw[h.ask],?_,hto⟩;refine TL (i:=ix) (s:=c[ix]) ⟨h.ti,ck La,?_,h.val⟩;have hn:=h.n;unfold elemAt at hn;rw[ck La]at hn;unfold Et;simp only at hn
  split
  ·rename_i he;rw[aae he]at hn;simpa using hn
  ·rename_i he;rw[aad he]at hn;simpa using hn
 | some s=>
  obtain⟨w6,FJ⟩:=vE hto;obtain⟨j,hj⟩:=abg w6;obtain⟨t,a,S⟩:=ox hs hj;have bH:a=ix:=by have h1:=S.ai;rw[FJ,h.ti]at h1;exact(abL h1).symm
  subst bH;obtain⟨OT,hd⟩:=AB' S;have hn:=h.n;rw[aad (by rw[S.ea];simp)]at hn;have ie:=FT S.ti
  have hb:A_ c l x=⟨s.type,EZ s.map x.AO (List.replicate (AX c t).length 0) s.map.length⟩:=by
   unfold A_;rw[hto];simp only;rw[S.ti]
  rw[hb];have AJq:∀(k:Nat) m,s.map[k]?=some m→0≤m∧m.toNat<(List.replicate (AX c t).length (0:Int)).length:=λk m hk=>by rw[ab7];exact OT k m hk
  have hlen:s.map.length=x.AO.length:=by rw[S.len,hn]
  refine⟨?_,?_,?_⟩
  ·unfold Ii;show(match dg l s.type with|some s=>_|none=>_)=x;rw[vD hs w6]
   cases x with
   | mk ty vs=>
    simp only at FJ hlen ⊢;rw[FJ];congr 1;apply aaN;intro k;rw[aaz]
    cases hk:s.map[k]? with
    |none=>
     have:=List.getElem?_eq_none_iff.1 hk;rw[aa0 (by omega)];rfl
    |some m=>
     have O2:=(dx.1 hk).1;show some (zH _ m)=_;unfold zH;rw[aA AJq hd s.map.length (aag _) k m O2 hk,ck (by omega)];rfl
  ·refine TL (i:=t) (s:=c[t]) ⟨S.ti,ck ie,?_,λk v hk=>?_⟩
   ·have het:=S.et;unfold elemAt at het;rw[ck ie]at het;unfold Et;rw[aad (by simpa using het)];refine decide_eq_true ?_;show(EZ _ _ _ _).length=_;rw[JU,ab7]
   ·have hk:(EZ s.map x.AO (List.replicate (AX c t).length 0) s.map.length)[k]?=some v:=hk
    by_cases hq:∃m,m∈s.map∧m.toNat=k
    ·obtain⟨m,hm,hmk⟩:=hq;obtain⟨j,Wh⟩:=abg hm;have UL:=(dx.1 Wh).1;have:=aA (vs:=x.AO) AJq hd s.map.length (aag _) j m UL Wh;rw[hmk,hk,ck (by omega)]at this
     cases this
     have hv:=h.val j _ (ck (by omega));obtain⟨n,h1,_,_,h4,_⟩:=S.map j (by rw[←S.len];exact UL);rw[Wh]at h1;cases h1;rw[O5 S.ea La]at hv;rw[O5 S.et ie,←hmk,h4];exact hv
    ·rw[eR (λk m hk=>(OT k m hk).1) (λm hm e=>hq ⟨m,hm,e⟩) _ (aag _)]at hk
     have:v=0:=by
      have:=aan hk;exact acF this
     subst this;unfold DN;simp
  ·show OC l s.type=none;unfold OC;rw[ab4];intro y hy;have:=AJp hs hy w6
   simpa usingλe=>this e.symm
def iota(n:Nat):List Int:=(List.range n).map λk=>((k:Nat):Int)+1
theorem aB(n:Nat):(iota n).length=n:=by simp[iota]
theorem eS(n:Nat):iota (n+1)=iota n++[((n:Nat):Int)+1]:=by simp[iota,List.range_succ]
theorem lj{n k:Nat}(h:k<n):(iota n)[k]?=some (((k:Nat):Int)+1):=by simp[iota,h]
theorem aC{n:Nat}{v:Int}:v∈iota n↔1≤v∧v≤n:=by
 unfold iota;rw[aaM]
 constructor
 ·rintro⟨k,hk,rfl⟩;have:=aaT.1 hk;omega
 ·rintro⟨h1,h2⟩;exact⟨(v-1).toNat,aaT.2 (by omega),by omega⟩
theorem pe{n:Nat}{v:Nat}(h:v≤n):placeOf (iota n) v=v:=by
 rcases abK v with rfl|hp
 ·exact TN λhm=>by have:=aC.1 hm;omega
 ·have hf:(iota n).findIdx? (λx=>decide (x=(v:Int)))=some (v-1):=by
   rw[aaA]
   have hg:∀k (hk:k<(iota n).length),(iota n)[k]=((k:Nat):Int)+1:=λk hk=>by
    have:=lj (n:=n) (k:=k) (by rw[←aB n];exact hk);rw[ck hk]at this;exact abL this
   refine⟨by rw[aB];omega,by rw[hg];simp;omega,λj hj=>?_⟩;rw[hg];simp;omega
  unfold placeOf;rw[hf];simp only;omega
theorem pf{f v:Nat}(h:v≤f+1):visit (iota f) v=iota (max f v):=by
 unfold visit
 by_cases h0:v=0
 ·subst h0;rw[aad (by omega),Nat.max_eq_left (by omega)]
 ·by_cases hv:v=f+1
  ·subst hv;rw[aae ⟨by omega,λhm=>by have:=aC.1 hm;omega⟩,Nat.max_eq_right (by omega),eS];simp
  ·rw[aad (λh=>h.2 (aC.2 (by omega))),Nat.max_eq_left (by omega)]
def Jr(g:Nat→Int→List Int):Nat→List Int→List Int
 |_,[]=>[]
 |k,v::vs=>g k v++Jr g (k+1) vs
theorem aD(g:Nat→Int→List Int)(v:Int):∀(vs:List Int) (k:Nat),Jr g k (vs++[v])=Jr g k vs++g (k+vs.length) v
 |[],k=>by simp[Jr]
 |u::vs,k=>by
  rw[acB,Jr,aD g v vs (k+1),Jr,abb,aaw];congr 2;congr 1;omega
theorem hZ{g:Nat→Int→List Int}{vs:List Int}{T:Nat→List Int}(h0:T 0=[])(h1:∀n v,vs[n]?=some v→T (n+1)=T n++g n v):∀n,n≤vs.length→T n=Jr g 0 (vs.take n)
 |0,_=>by rw[h0,acM];rfl
 |n+1,hn=>by
  have hx:=ck (show n<vs.length by omega);rw[h1 n _ hx,hZ h0 h1 n (by omega),aaP,hx,aa9,aD,aaE,Nat.min_eq_left (by omega),aaL]
def vG(c:List Aq)(ix k:Nat)(v:Int):List Int:=if BR c ix k=2 then[v]else[]
theorem vH(c:List Aq)(i:Nat)(vs:List Int):Zg c i vs vs.length=Jr (vG c i) 0 vs:=by
 rw[hZ (T:=Zg c i vs) (g:=vG c i) rfl (λn v hv=>by rw[Zg,hv];rfl) vs.length (aag _),aa_]
theorem vI(c:List Aq)(o:List Int)(i:Nat)(vs:List Int):Zi c o i vs vs.length=Jr (λk v=>uZ o (BR c i k) v) 0 vs:=by
 rw[hZ (T:=Zi c o i vs) (g:=λk v=>uZ o (BR c i k) v) rfl (λn v hv=>by rw[Zi,hv]) vs.length (aag _),aa_]
theorem My.fold{c:List Aq}{ix many k fd Fl:Nat}{vs:List Int}(h:My c ix many k fd vs Fl):(Jr (vG c ix) k vs).foldl visit (iota fd)=iota Fl∧fd≤Fl∧(fd≤many→Fl≤many):=by
 induction h with
 |nil=>exact⟨rfl,aag _,id⟩
 | @ref k fd v vs Fl hk hv h ih=>
  obtain⟨h1,h2,h3⟩:=ih;refine⟨?_,by omega,λhf=>h3 (by omega)⟩;rw[Jr,List.foldl_append,vG,aae hk];show(Jr _ _ _).foldl visit (visit (iota fd) (v:Int))=_;rw[pf (by omega)];exact h1
 | @word k fd v vs Fl hk Uo OH h ih=>
  obtain⟨h1,h2,h3⟩:=ih;refine⟨?_,h2,h3⟩;rw[Jr,vG,aad hk];exact h1
theorem My.val{c:List Aq}{ix many k fd Fl:Nat}{vs:List Int}(h:My c ix many k fd vs Fl):∀(j:Nat) v,vs[j]?=some v→DN (BR c ix (k+j)) v many=true:=by
 induction h with
 |nil=>intro j v hv;simp at hv
 | @ref k fd v vs Fl hk hv h ih=>
  intro j w hw
  cases j with
  |zero=>
   cases hw
   unfold DN;rw[abc,hk];simp;omega
  |succ j=>
   have:=ih j w hw;rw[show k+(j+1)=k+1+j by omega];exact this
 | @word k fd v vs Fl hk Uo OH h ih=>
  intro j w hw
  cases j with
  |zero=>
   cases hw
   unfold DN;rw[abc];simp[hk];omega
  |succ j=>
   have:=ih j w hw;rw[show k+(j+1)=k+1+j by omega];exact this
theorem My.enc{c:List Aq}{ix many k fd Fl:Nat}{vs:List Int}(h:My c ix many k fd vs Fl):Jr (λk v=>uZ (iota many) (BR c ix k) v) k vs=lh c ix k vs:=by
 induction h with
 |nil=>rfl
 | @ref k fd v vs Fl hk hv h ih=>
  rw[Jr,lh,ih,uZ,aae hk,aae hk,pe (by omega),abT]
 | @word k fd v vs Fl hk Uo OH h ih=>
  rw[Jr,lh,ih,uZ,aad hk,aad hk]
theorem Hn.search{c:List Aq}{ts:List ByteArray}{many i u f u' f':Nat}{xs:List CD}{refs:Int→List Int}(h:Hn c ts many i u f xs u' f')(hr:∀(j:Nat) x,xs[j]?=some x→refs (((i+j:Nat):Int)+1)=refsOf c x):Xv refs xs.length (iota f) i=iota f':=by
 induction h with
 |nil=>rfl
 | @cons i u f x xs t ix f1 u' f' hi ht mg hx hn hv h ih=>
  rw[aaw,Xv,lj hi];simp only;have h0:=hr 0 x rfl;rw[abc]at h0;rw[h0]
  have:refsOf c x=Jr (vG c ix) 0 x.AO:=by
   unfold refsOf;rw[hx];exact vH c ix x.AO
  rw[this,hv.fold.1]
  exact ih λj y hy=>by
   have:=hr (j+1) y hy;rw[show i+1+j=i+(j+1) by omega];exact this
theorem Hn.types{c:List Aq}{ts:List ByteArray}(WG:ts.Nodup){many i u f u' f':Nat}{xs:List CD}(h:Hn c ts many i u f xs u' f'):xs.foldl (λt x=>P3 t x.type) (ts.take u)=ts.take u':=by
 induction h with
 |nil=>rfl
 | @cons i u f x xs t ix f1 u' f' hi ht mg hx hn hv h ih=>
  rw[acm];obtain⟨ie,hte⟩:=dx.1 ht
  have:P3 (ts.take u) x.type=ts.take (if t=u then u+1 else u):=by
   unfold P3
   by_cases e:t=u
   ·subst e
    rw[aae rfl,aad,aaP,ht]
    ·rfl
    ·intro ha;obtain⟨y,hy,hye⟩:=aaQ.1 ha;have hye:y=x.type:=of_decide_eq_true hye;subst hye;obtain⟨j,hj⟩:=abg hy;rw[aaW]at hj
     split at hj
     ·rename_i hjt;obtain⟨UL,hje⟩:=dx.1 hj;have:=(List.getElem_inj WG).1 (hje.trans hte.symm);omega
     ·cases hj
   ·rw[aad e,aae];refine aaQ.2 ⟨x.type,aan (i:=t) ?_,by simp⟩;rw[aaW,aae (by omega),ht]
  rw[this];exact ih
theorem Hn.wis{c:List Aq}{l:List DD}{ts:List ByteArray}(vJ:∀s,s∈ts→F_ c l s=none){many i u f u' f':Nat}{xs:List CD}(h:Hn c ts many i u f xs u' f'):∀x,x∈xs→∃ix,WIs c l x many ix∧gY c ts (iota many) x=Z9 c ts x:=by
 induction h with
 |nil=>intro x hx;cases hx
 | @cons i u f x xs t ix f1 u' f' hi ht mg hx hn hv h ih=>
  intro y hy
  rcases aaJ.1 hy with rfl|hy
  ·refine⟨ix,⟨hx,(VR (vJ _ (aan ht))).2,hn,λk v hk=>?_⟩,?_⟩
   ·have:=hv.val k v hk;rw[aaL]at this;exact this
   ·unfold gY Z9;rw[hx];simp only;rw[vI,hv.enc]
  ·exact ih y hy
theorem lk(h:List CD):FE h (iota h.length)=h:=by
 have key:∀n,n≤h.length→FE h (iota n)=h.take n:=by
  intro n
  induction n with
  |zero=>intro _;rfl
  | succ n ih=>
   intro hn
   have e:FE h (iota (n+1))=FE h (iota n)++FE h [((n:Nat):Int)+1]:=by
    unfold FE;rw[eS,abd]
   rw[e,ih (by omega),aaP];congr 1;unfold FE;simp
 rw[key _ (aag _),aa_]
structure AFg(c:List Aq)(l:List DD)(ts:List ByteArray)(xs:List CD):Prop where
 ask:bu c l (xs.map (A_ c l)) (min (xs.length:Int) 1)=0
 found:zJ c l (xs.map (A_ c l)) (min (xs.length:Int) 1)=iota xs.length
 bad:AC' l (xs.map (A_ c l)) (iota xs.length)=false
 types:VF l (FE (xs.map (A_ c l)) (iota xs.length))=ts
 bytes:zK c l (xs.map (A_ c l)) (iota xs.length)=Z_ c ts xs
theorem lu{c:List Aq}{l:List DD}{ts:List ByteArray}{xs:List CD}(Al:Bk c=true)(hs:Be c l=true)(h:Canon c (F_ c l) ts xs):AFg c l ts xs:=by
 have hw:=h.scan.wis (l:=l) λs hs=>(h.sym s hs).2;have hlen:(xs.map (A_ c l)).length=xs.length:=aaq _
 have RZ:FE (xs.map (A_ c l)) (iota xs.length)=xs.map (A_ c l):=by
  rw[←hlen];exact lk _
 have AAN:∀x,x∈xs→Ii l (A_ c l x)=x:=λx hx=>by
  obtain⟨ix,hi,_⟩:=hw x hx;exact(hi.back hs).1
 have Wy:VF l (xs.map (A_ c l))=ts:=by
  have h1:=h.scan.types h.nodup;rw[aa_,acM]at h1;unfold VF;rw[List.foldl_map]
  have key:∀(ys:List CD) (t:List ByteArray),(∀x,x∈ys→x∈xs)→ys.foldl (λt x=>P3 t (Ii l (A_ c l x)).type) t=ys.foldl (λt x=>P3 t x.type) t:=by
   intro ys
   induction ys with
   |nil=>intro t _;rfl
   |cons y ys ih=>
    intro t hy;rw[acm,acm,AAN y (hy y (by simp)),ih _ λx hx=>hy x (by simp[hx])]
  rw[key xs [] λx hx=>hx];exact h1
 have OT:FB c (xs.map (A_ c l))<0:=by
  unfold FB;have:=h.len;rw[aad (by rw[hlen];omega)]
  have hf:(xs.map (A_ c l)).findIdx? (λx=>!BC c x (xs.map (A_ c l)).length)=none:=by
   rw[aaR];intro y hy;obtain⟨x,hx,rfl⟩:=aaM.1 hy;obtain⟨ix,hi,_⟩:=hw x hx;have h1:=(hi.back hs).2.1;rw[hlen,h1];rfl
  unfold Kt;rw[hf];simp
 refine⟨?_,?_,?_,?_,?_⟩
 ·unfold bu JB;rw[Al,hs];simp only[aar];rw[aad (by simp),aad (by omega),aad];rw[hlen];omega
 ·unfold zJ
  have FJ:start (min (xs.length:Int) 1)=iota (min xs.length 1):=by
   unfold start
   by_cases h0:xs.length=0
   ·rw[h0];rfl
   ·rw[aae (by omega),show min (xs.length:Int) 1=1 by omega,show min xs.length 1=1 by omega];rfl
  rw[FJ,hlen];refine h.scan.search λj x hx=>?_;unfold AC9;rw[show(((0+j:Nat):Int)+1-1).toNat=j by omega,aaz,hx];simp only[aba];rw[AAN x (aan hx)]
 ·unfold AC';rw[RZ];refine abS.2 λy hy=>?_;obtain⟨x,hx,rfl⟩:=aaM.1 hy;obtain⟨ix,hi,_⟩:=hw x hx;have h1:=(hi.back hs).2.2;unfold OC at h1;rw[ab4]at h1;have:(l.any λs=>decide (s.to=(A_ c l x).type))=false:=abS.2 λs UH=>h1 s UH;rw[this];simp
 ·rw[RZ,Wy]
 ·unfold zK Z_;rw[RZ,Wy,aB];congr 1;rw[List.flatMap_map]
  have key:∀(ys:List CD),(∀x,x∈ys→x∈xs)→ys.flatMap (λx=>gY c ts (iota xs.length) (Ii l (A_ c l x)))=ys.flatMap (Z9 c ts):=by
   intro ys
   induction ys with
   |nil=>intro _;rfl
   |cons y ys ih=>
    intro hy;obtain⟨ix,_,he⟩:=hw y (hy y (by simp));rw[aaO,aaO,AAN y (hy y (by simp)),he,ih λx hx=>hy x (by simp[hx])]
  exact key xs λx hx=>hx
def aE(c:List Aq)(ix:Nat)(O:List Int):Nat→List Int→List Int
 |_,[]=>[]
 |k,v::vs=>(if BR c ix k=2 then placeOf O v else v)::aE c ix O (k+1) vs
theorem ly{c:List Aq}{ix:Nat}{O:List Int}:∀(vs:List Int) (k:Nat),(aE c ix O k vs).length=vs.length
 |[],_=>rfl
 |v::vs,k=>by rw[aE,aaw,aaw,ly vs]
theorem aF{c:List Aq}{ix:Nat}{O:List Int}:∀(vs:List Int) (k j:Nat),(aE c ix O k vs)[j]?=(vs[j]?).map λv=>if BR c ix (k+j)=2 then placeOf O v else v
 |[],_,_=>rfl
 |v::vs,k,0=>by rw[aE];rfl
 |v::vs,k,j+1=>by
  rw[aE,aa3,aa3,aF vs (k+1) j,show k+1+j=k+(j+1) by omega]
end Go.Ce
namespace Go.Ce
section
variable {P:Program}
def Q9(P:Program)(W:CW)(t:TypeId)(v:Value):Prop:=∃m,CT P m t W [v]
theorem Q9.int{W:CW}{t:TypeId}{k:IntKind}{v:Value}(ht:P.underlying t=some (.int k))(h:Q9 P W t v):∃x,v=.int k x∧(Lit.int k x).wf=true:=by
 obtain⟨m,h⟩:=h
 cases m with
 |zero=>exact h.elim
 |succ m=>
  simp only[CT,ht]at h;obtain⟨x,hx,hw⟩:=h
  cases hx
  exact⟨x,rfl,hw⟩
theorem Q9.string{W:CW}{t:TypeId}{v:Value}(ht:P.underlying t=some .string)(h:Q9 P W t v):∃x:ByteArray,v=.string x∧x.size≤maxLen:=by
 obtain⟨m,h⟩:=h
 cases m with
 |zero=>exact h.elim
 |succ m=>
  simp only[CT,ht]at h;obtain⟨x,hx,hw⟩:=h
  cases hx
  exact⟨x,rfl,hw⟩
theorem Q9.slice{W:CW}{t e:TypeId}{v:Value}(ht:P.underlying t=some (.slice e))(h:Q9 P W t v):v=.slice none 0 0∨v=.slice (some ⟨0,0,some 0⟩) 0 0∨∃k len cap f m,v=.slice (some ⟨k,0,none⟩) len cap∧0<cap∧len≤cap∧cap≤maxLen∧
  W.obj k=some (.fixed f (len*P.cellsOf e) e)∧∀i,i<len→CT P m e W (Fx f (P.cellsOf e) (i*P.cellsOf e)):=by
 obtain⟨m,h⟩:=h
 cases m with
 |zero=>exact h.elim
 |succ m=>
  simp only[CT,ht]at h
  rcases h with h|h|⟨k,len,cap,f,h1,h2,h3,h4,h5,h6⟩
  ·cases h;exact .inl rfl
  ·cases h;exact .inr (.inl rfl)
  ·cases h1;exact .inr (.inr ⟨k,len,cap,f,m,rfl,h2,h3,h4,h5,h6⟩)
theorem CTs.cons{W:CW}{t:TypeId}{ts:List TypeId}{vs:List Value}(h:CTs P (t::ts) W vs):∃cs vs',vs=UO P t cs::vs'∧CT P 20 t W cs∧CTs P ts W vs':=by
 cases vs with
 |nil=>exact h.elim
 |cons v vs=>
  obtain⟨⟨cs,rfl,hc⟩,h2⟩:=h;exact⟨cs,vs,rfl,hc,h2⟩
theorem CTs.nil{W:CW}{vs:List Value}(h:CTs P [] W vs):vs=[]:=by
 cases vs with
 |nil=>rfl
 |cons=>exact h.elim
end
end Go.Ce
namespace Go.Ce
open Go Go.Proofs Go.Proofs.Tryz
def X7(P:Program)(t:TypeId):List (TypeId×Nat):=match P.underlying t with
 |some (.struct fs)=>fs.toList.map λf=>(f.type,f.offset)
 |_=>[]
theorem Mz{P:Program}{m:Nat}{t ty:TypeId}{off n:Nat}{W:CW}{cs:List Value}(hm:(X7 P t).any (λx=>Nat.beq x.1 ty&&Nat.beq x.2 off)=true)(hn:P.cellsOf t=n)(h1:P.cellsOf ty=1)(ho:off<n)(h:CT P m t W cs):∃v,cs[off]?=some v∧Q9 P W ty v:=by
 cases m with
 |zero=>exact h.elim
 | succ m=>
  unfold X7 at hm;simp only[CT]at h
  split at hm
  ·rename_i fs hu;rw[hu]at h;obtain⟨hl,hf⟩:=h;obtain⟨x,hx,he⟩:=aaQ.1 hm;obtain⟨f,hfm,rfl⟩:=aaM.1 hx;simp only[aab]at he;have e1:f.type=ty:=aac he.1;have e2:f.offset=off:=aac he.2;have:=hf f hfm;rw[e1,e2,h1]at this;have Ad:off<cs.length:=by omega
   refine⟨cs[off],ck Ad,m,?_⟩;rw[abX Ad,List.take_succ_cons,acM]at this;exact this
  ·cases hm
theorem aG(f:Nat→Value):∀(m k j:Nat),j<m→(Fx f m k)[j]?=some (f (k+j))
 |0,k,j,h=>by omega
 |m+1,k,0,h=>rfl
 |m+1,k,j+1,h=>by
  unfold Fx;rw[aa3,aG f m (k+1) j (by omega)];congr 2;omega
theorem h_{α:Type}{Q:Nat→α→Prop}:∀n:Nat,(∀i,i<n→∃x,Q i x)→∃l:List α,l.length=n∧∀i x,l[i]?=some x→Q i x
 |0,_=>⟨[],rfl,λi x h=>by simp at h⟩
 | n+1,h=>by
  obtain⟨l,hl,hq⟩:=h_ n λi hi=>h i (by omega);obtain⟨x,hx⟩:=h n (by omega);refine⟨l++[x],by simp[hl],λi y hy=>?_⟩
  by_cases hi:i<l.length
  ·rw[aay hi]at hy;exact hq i y hy
  ·rw[aaC (by omega)]at hy
   have h0:i-l.length=0:=by
    cases hd:i-l.length with
    |zero=>rfl
    |succ k=>rw[hd]at hy;simp at hy
   rw[h0]at hy
   cases hy
   have:i=n:=by omega
   subst this;exact hx
theorem P7{P:Program}{α:Type}{R:Nat→Nat→α→Prop}{t e:TypeId}{n:Nat}(ht:P.underlying t=some (.slice e))(hn:P.cellsOf e=n){W:CW}{v:Value}(h:Q9 P W t v)
  (NG:∀m cs k off,CT P m e W cs→(∀j,j<n→W.cell k (off+j)=cs[j]?)→∃x,R k off x):∃l,Ab n R v l∧J8 W e v∧l.length≤maxLen:=by
 rcases h.slice ht with rfl|rfl|⟨k,len,cap,f,m,rfl,h1,h2,h3,h4,h5⟩
 ·exact⟨[],⟨none,0,rfl,λi x hx=>by simp at hx⟩,λa l c hv=>by cases hv;exact⟨rfl,aag _⟩,aa1 _⟩
 ·exact⟨[],⟨_,0,rfl,λi x hx=>by simp at hx⟩,λa l c hv=>by cases hv;exact⟨rfl,aag _⟩,aa1 _⟩
 ·rw[hn]at h4 h5
  obtain⟨l,hl,hq⟩:=h_ (Q:=λi x=>R k (i*n) x) len λi hi=>NG m _ k (i*n) (h5 i hi) λj hj=>by
   rw[aG f n (i*n) j hj];unfold CW.cell;rw[h4]
   have:i*n+j<len*n:=by
    have:(i+1)*n≤len*n:=aaZ _ hi;rw[ac5]at this;omega
   simp only[aae this]
  refine⟨l,⟨_,cap,by rw[hl],λi x hx=>⟨_,rfl,by simpa using hq i x hx⟩⟩,λa l c hv=>?_,by omega⟩
  cases hv
  refine⟨?_,h2⟩;simp[M_,h4]
theorem wf_i64{x:Int}(h:(Lit.int .i64 x).wf=true):-9223372036854775808≤x∧x≤9223372036854775807:=by
 simp only[Lit.wf,aab,decide_eq_true_eq]at h;have h1:IntKind.i64.min=-9223372036854775808:=by rfl
 have h2:IntKind.i64.max=9223372036854775807:=by rfl
 omega
theorem wf_u8{x:Int}(h:(Lit.int .u8 x).wf=true):0≤x∧x<256:=by
 simp only[Lit.wf,aab,decide_eq_true_eq]at h;have h1:IntKind.u8.min=0:=by rfl
 have h2:IntKind.u8.max=255:=by rfl
 omega
section
variable {W:CW}{m:Nat}{cs:List Value}{k off:Nat}
theorem u46:∃e,prog.underlying 46=some (.slice e):=⟨match prog.underlying 46 with|some (.slice e)=>e|_=>0,by kernel_rfl⟩
theorem c3:prog.cellsOf 3=1:=by kernel_rfl
theorem c5:prog.cellsOf 5=1:=by kernel_rfl
theorem c9:prog.cellsOf 9=1:=by kernel_rfl
theorem c40:prog.cellsOf 40=1:=by kernel_rfl
theorem c45:prog.cellsOf 45=1:=by kernel_rfl
theorem c46:prog.cellsOf 46=1:=by kernel_rfl
theorem c48:prog.cellsOf 48=5:=by kernel_rfl
theorem c56:prog.cellsOf 56=2:=by kernel_rfl
theorem c58:prog.cellsOf 58=3:=by kernel_rfl
theorem c72:prog.cellsOf 72=2:=by kernel_rfl
theorem ut3:prog.underlying 3=some (.int .i64):=by kernel_rfl
theorem ut5:prog.underlying 5=some (.int .u8):=by kernel_rfl
theorem l4{v:Value}(h:Q9 prog W 40 v):∃l,Ab 1 (F9 W) v l∧J8 W 3 v∧l.length≤maxLen :=
 P7 J9 c3 h λm cs k off hc hj=>by
  cases m with
  |zero=>exact hc.elim
  |succ m=>
   simp only[CT,ut3]at hc;obtain⟨x,rfl,hw⟩:=hc;exact⟨x,by have:=hj 0 (by omega);simpa using this,wf_i64 hw⟩
theorem VW{n:Nat}{t:TypeId}{o:Nat}(hm:(X7 prog t).any (λx=>Nat.beq x.1 9&&Nat.beq x.2 o)=true)(hn:prog.cellsOf t=n)(ho:o<n)(hc:CT prog m t W cs)(hj:∀j,j<n→W.cell k (off+j)=cs[j]?):∃s:ByteArray,W.cell k (off+o)=some (.string s):=by
 obtain⟨v,hv,hl⟩:=Mz hm hn c9 ho hc;obtain⟨s,rfl,_⟩:=hl.string u9;exact⟨s,(hj o ho).trans hv⟩
theorem ADH{n:Nat}{t:TypeId}{o:Nat}(hm:(X7 prog t).any (λx=>Nat.beq x.1 5&&Nat.beq x.2 o)=true)(hn:prog.cellsOf t=n)(ho:o<n)(hc:CT prog m t W cs)(hj:∀j,j<n→W.cell k (off+j)=cs[j]?):∃x:Int,W.cell k (off+o)=some (.int .u8 x)∧0≤x∧x<256:=by
 obtain⟨v,hv,hl⟩:=Mz hm hn c5 ho hc;obtain⟨x,rfl,hw⟩:=hl.int ut5;exact⟨x,(hj o ho).trans hv,wf_u8 hw⟩
theorem AAO{v:Value}(h:Q9 prog W 45 v):∃l,Ab 2 (U8 W) v l∧J8 W 72 v∧l.length≤maxLen :=
 P7 bj c72 h λm cs k off hc hj=>by
  obtain⟨s,h0⟩:=VW (o:=0) (by kernel_rfl) c72 (by omega) hc hj;obtain⟨x,h1,h2,h3⟩:=ADH (o:=1) (by kernel_rfl) c72 (by omega) hc hj;exact⟨⟨s,x⟩,h0,h1,h2,h3⟩
theorem xA{v:Value}(h:Q9 prog W 22 v):∃l,Ab 5 (EI W) v l∧J8 W 48 v∧l.length≤maxLen :=
 P7 UG c48 h λm cs k off hc hj=>by
  obtain⟨s,h0⟩:=VW (o:=0) (by kernel_rfl) c48 (by omega) hc hj;obtain⟨s2,h1⟩:=VW (o:=1) (by kernel_rfl) c48 (by omega) hc hj;obtain⟨v2,OH,MV⟩:=Mz (ty:=45) (off:=2) (by kernel_rfl) c48 c45 (by omega) hc;obtain⟨fs,w4,_⟩:=AAO MV;obtain⟨x,h3,h4,h5⟩:=ADH (o:=3) (by kernel_rfl) c48 (by omega) hc hj;obtain⟨v4,hv4,hl4⟩:=Mz (ty:=46) (off:=4) (by kernel_rfl) c48 c46 (by omega) hc;obtain⟨e,he⟩:=u46
  have hb:∃a l k,v4=.slice a l k:=by
   rcases hl4.slice he with rfl|rfl|⟨k,len,cap,f,m,rfl,_⟩<;>exact⟨_,_,_,rfl⟩
  obtain⟨a,l,c,rfl⟩:=hb;exact⟨⟨s,s2,fs,x⟩,h0,h1,⟨v2,(hj 2 (by omega)).trans OH,w4⟩,h3,⟨a,l,c,(hj 4 (by omega)).trans hv4⟩,h4,h5⟩
theorem xB{v:Value}(h:Q9 prog W 23 v):∃l,Ab 3 (Hs W) v l∧J8 W 58 v∧l.length≤maxLen :=
 P7 Vt c58 h λm cs k off hc hj=>by
  obtain⟨s,h0⟩:=VW (o:=0) (by kernel_rfl) c58 (by omega) hc hj;obtain⟨s2,h1⟩:=VW (o:=1) (by kernel_rfl) c58 (by omega) hc hj;obtain⟨v2,OH,MV⟩:=Mz (ty:=40) (off:=2) (by kernel_rfl) c58 c40 (by omega) hc;obtain⟨fs,w4,Al,_⟩:=l4 MV;exact⟨⟨s,s2,fs⟩,h0,h1,⟨v2,(hj 2 (by omega)).trans OH,w4,Al⟩⟩
theorem xC{v:Value}(h:Q9 prog W 24 v):∃l,Ab 2 (G2 W) v l∧J8 W 56 v∧l.length≤maxLen :=
 P7 M' c56 h λm cs k off hc hj=>by
  obtain⟨s,h0⟩:=VW (o:=0) (by kernel_rfl) c56 (by omega) hc hj;obtain⟨v2,OH,MV⟩:=Mz (ty:=40) (off:=1) (by kernel_rfl) c56 c40 (by omega) hc;obtain⟨fs,w4,_⟩:=l4 MV;exact⟨⟨s,fs⟩,h0,⟨v2,(hj 1 (by omega)).trans OH,w4⟩⟩
end
def VX(ro:Option Nat)(K:AD):AD:=AU (λe ds W=>K .ret e ds W) K
def iA(ro:Option Nat)(K:AD):AD:=AU (λa b c=>HN 22 a c λd=>Og d 12 λf=>let d:=CC 73 f 72 f 71 d 70 a 0;Ds f (VX ro K) a 2 (LI 82 Bl 81 undef 73 Bl 80 79 78 (A7 77 73 76 75 74 d)) b c (HN 22 a c λf=>Eo f 100 λg=>let d:=jv 77 g 73 false 76 (Lr 75 f 73 74 a d);C1 g (HN 22 a c λf=>Og f 102 λg=>D1 (VX ro K) a 2 g 82 (bh 81 g 73 false 80 g 77 true (Fp 79 f 77 78 a d)) b c) (VX ro K) a (HA 2 Az 82 (BG 81 73 80 77 79 78 d)) b c)) K
def aH:=by
 have h:=@iA.eq_1;dsimp at h;exact h
def AJr(v0:Value)(K:AD)(W:CW):=by
 have h:GQ 13 83 v0 W K=Fu 13 83 (CQ v0) (G7 3 At 2) W (iA none K):=by kernel_rfl
 dsimp at h;exact h
def pg(ro:Option Nat)(K:AD):AD:=AU (λa b c=>BP a 3 λd=>Ay K a 3 d (Bo 14 d 13 a 3) b c) K
def aI:=by
 have h:=@pg.eq_1;dsimp at h;exact h
def iB(ro:Option Nat)(K:AD):AD:=Ek (λa b c=>GB ro 13 83 1 a (Ma 4 At) b c 2 (CB 1 (pg ro K))) (pg ro K)
def l5:=by
 have h:=@iB.eq_1;dsimp at h;exact h
def VY(ro:Option Nat)(K:AD):AD:=AU (λe ds W=>wI (e 48) ((iB ro K) .ret (Env.of e [(2,(.bool false))]) ds W) ((iB ro K) .normal e ds W)) (iB ro K)
def iC(ro:Option Nat)(K:AD):AD:=AU (λa b c=>IQ 22 a 0 3 λd=>C9 d 0 λf=>Ak f c λg=>D7 9 g c λh=>Eo h 70 λi=>let d:=Bc 22 i 21 20 h 19 g (CC 18 f 17 d 16 (BO a) 15 a 0);Ds i (VY ro K) a 48 (El 47 40 46 45 (A7 44 40 43 42 41 (H8 40 true 39 38 undef 31 37 31 36 (A7 35 31 34 33 32 (H8 31 true 30 29 undef 22 28 22 27 (A7 26 22 25 24 23 d)))))) b c (IQ 22 a 0 3 λf=>C9 f 1 λg=>Ak g c λh=>D7 9 h c λi=>Eo i 70 λj=>let d:=Dh 31 j 30 (EA 29 j 22 28 i 27 h (BB 26 g 22 25 f (Lr 24 (BO a) 22 23 a d)));Ds j (VY ro K) a 48 (El 47 40 46 45 (A7 44 40 43 42 41 (H8 40 true 39 38 undef 31 37 31 36 (A7 35 31 34 33 32 d)))) b c (IQ 22 a 0 3 λf=>C9 f 2 λg=>BH 45 g c λh=>D7 45 h c λi=>Eo i 24 λj=>let d:=Dh 40 j 39 (EA 38 j 31 37 i 36 h (BB 35 g 31 34 f (Lr 33 (BO a) 31 32 a d)));Ds j (VY ro K) a 48 (El 47 40 46 45 (A7 44 40 43 42 41 d)) b c (IQ 22 a 0 3 λf=>C9 f 4 λg=>BH 46 g c λh=>D7 46 h c λi=>Eo i 20 λj=>Ay (VY ro K) a 48 j (EA 47 j 40 46 i 45 h (BB 44 g 40 43 f (Lr 42 (BO a) 40 41 a d))) b c)))) K
def aJ:=by
 have h:=@iC.eq_1;dsimp at h;exact h
def iD(ro:Option Nat)(K:AD):AD:=AU (λe ds W=>wI (e 12) ((iC ro K) .normal e ds W) ((iC ro K) (.exit 0) e ds W)) (iC ro K)
def AFh(ro:Option Nat)(e:Env)(ds:List Deferred)(K:AD)(W:CW):=by
 have h:CV ro 13 83 e ds W K=HN 22 e W λa=>C' e 3 a λb=>let a:=eC 9 b (Ls 8 b 7 a 6 e 5 e 3);wI b (KY .lss 3 e 3 103 λb=>Ay (iD ro K) e 12 b (BQ 11 b 9 10 (BO e) a) ds W) (Ay (iD ro K) e 12 Az (J7 11 9 10 a) ds W):=by kernel_rfl
 dsimp at h;exact h
def ph(ro:Option Nat)(K:AD):AD:=AU (λa b c=>BP a 4 λd=>Ay K a 4 d (Bo 58 d 57 a 4) b c) K
def l7:=by
 have h:=@ph.eq_1;dsimp at h;exact h
def AFi(ro:Option Nat)(e:Env)(ds:List Deferred)(K:AD)(W:CW):=by
 have h:Ei ro 13 83 1 e ds W K=IQ 22 e 0 3 λa=>C9 a 2 λb=>BH 45 b W λc=>D7 45 c W λd=>C' e 4 d λf=>let a:=BL 56 f 55 d 54 c 53 b (Ls 52 a 51 (BO e) 50 e 49 e 4);FQ f (IQ 22 e 0 3 λb=>C9 b 2 λc=>BH 45 c W λd=>Mg 45 d e 4 λf=>HL 72 f 0 λg=>Ak g W λh=>D7 9 h W λi=>Eo i 70 λj=>let a:=DT 69 j 68 i 67 h (BL 66 g 65 f 64 (KI e) 63 d (Bq 62 c 61 b 60 (BO e) 59 e a));HR j (ph ro K) e 2 Az a ds W (K4 (ph ro K) e a ds W)) K 2 e a ds W:=by kernel_rfl
 dsimp at h;exact h
theorem vK(Q:Ending→CW→Prop)(e:Env)(W:CW):AM prog Tryz.f13 Q .ret e [] W=Q (.returned (e 2)) W:=by kernel_rfl
def AJs{Q v0 W}:=FM 13 83 [v0] Tryz.f13 Q W Tryz.func13 (by kernel_rfl)
def iE(ro:Option Nat)(K:AD):AD:=AU (λa b c=>HN 23 a c λd=>Og d 22 λf=>J6 K a (CC 2 f 41 f 40 d 39 a 0) b c) K
def AAP:=by
 have h:=@iE.eq_1;dsimp at h;exact h
def AJt(v0:Value)(K:AD)(W:CW):=by
 have h:GQ 14 42 v0 W K=Fu 14 42 (CQ v0) (G7 3 At 2) W (iE none K):=by kernel_rfl
 dsimp at h;exact h
def iF(ro:Option Nat)(K:AD):AD:=AU (λa b c=>BP a 3 λd=>Ay K a 3 d (Bo 13 d 12 a 3) b c) K
def aK:=by
 have h:=@iF.eq_1;dsimp at h;exact h
def VZ(ro:Option Nat)(K:AD):AD:=AU (λe ds W=>wI (e 38) ((iF ro K) .ret (Env.of e [(2,(.bool false))]) ds W) ((iF ro K) .normal e ds W)) (CB 1 (iF ro K))
def iG(ro:Option Nat)(K:AD):AD:=AU (λa b c=>H9 a 0 3 λd=>EV d 0 λf=>Ak f c λg=>D7 9 g c λh=>Eo h 70 λi=>let d:=Bc 21 i 20 19 h 18 g (CC 17 f 16 d 15 (BO a) 14 a 0);Ds i (VZ ro K) a 38 (El 37 30 36 35 (A7 34 30 33 32 31 (H8 30 true 29 28 undef 21 27 21 26 (A7 25 21 24 23 22 d)))) b c (H9 a 0 3 λf=>EV f 1 λg=>Ak g c λh=>D7 9 h c λi=>Eo i 70 λj=>let d:=Dh 30 j 29 (EA 28 j 21 27 i 26 h (BB 25 g 21 24 f (Lr 23 (BO a) 21 22 a d)));Ds j (VZ ro K) a 38 (El 37 30 36 35 (A7 34 30 33 32 31 d)) b c (H9 a 0 3 λf=>EV f 2 λg=>C4 g c λh=>Ft h c λi=>Eo i 70 λj=>Ay (VZ ro K) a 38 j (EA 37 j 30 36 i 35 h (BB 34 g 30 33 f (Lr 32 (BO a) 30 31 a d))) b c))) K
def aL:=by
 have h:=@iG.eq_1;dsimp at h;exact h
def iH(ro:Option Nat)(K:AD):AD:=AU (λe ds W=>wI (e 11) ((iG ro K) .normal e ds W) ((iG ro K) (.exit 0) e ds W)) (iG ro K)
def AFj(ro:Option Nat)(e:Env)(ds:List Deferred)(K:AD)(W:CW):=by
 have h:CV ro 14 42 e ds W K=HN 23 e W λa=>C' e 3 a λb=>let a:=eC 8 b (Ls 7 b 6 a 5 e 4 e 3);wI b (KY .lss 3 e 3 22 λb=>Ay (iH ro K) e 11 b (BQ 10 b 8 9 (BO e) a) ds W) (Ay (iH ro K) e 11 Az (J7 10 8 9 a) ds W):=by kernel_rfl
 dsimp at h;exact h
theorem vM(Q:Ending→CW→Prop)(e:Env)(W:CW):AM prog Tryz.f14 Q .ret e [] W=Q (.returned (e 2)) W:=by kernel_rfl
def AJu{Q v0 W}:=FM 14 42 [v0] Tryz.f14 Q W Tryz.func14 (by kernel_rfl)
def Vi(ro:Option Nat)(K:AD):AD:=AU (λe ds W=>K .ret e ds W) K
def pj(ro:Option Nat)(K:AD):AD:=AU (λa b c=>HN 24 a c λd=>Og d 40 λf=>let d:=CC 47 f 46 f 45 d 44 a 0;Ds f (Vi ro K) a 2 (LI 56 Bl 55 undef 47 Bl 54 53 52 (A7 51 47 50 49 48 d)) b c (HN 24 a c λf=>Eo f 1000 λg=>let d:=jv 51 g 47 false 50 (Lr 49 f 47 48 a d);C1 g (HN 24 a c λf=>Og f 1002 λg=>D1 (Vi ro K) a 2 g 56 (bh 55 g 47 false 54 g 51 true (Fp 53 f 51 52 a d)) b c) (Vi ro K) a (HA 2 Az 56 (BG 55 47 54 51 53 52 d)) b c)) K
def l_:=by
 have h:=@pj.eq_1;dsimp at h;exact h
def AJv(v0:Value)(K:AD)(W:CW):=by
 have h:GQ 15 57 v0 W K=Fu 15 57 (CQ v0) (G7 3 At 2) W (pj none K):=by kernel_rfl
 dsimp at h;exact h
def aM(ro:Option Nat)(K:AD):AD:=AU (λe ds W=>wV (DL prog .add 3 true (e 3) (.int .i64 1)) λv9=>K .normal (Env.of e [(3,v9),(9,v9),(8,(e 3))]) ds W) K
def Vj(ro:Option Nat)(K:AD):AD:=AU (λe ds W=>wI (e 43) ((aM ro K) .ret (Env.of e [(2,(.bool false))]) ds W) ((aM ro K) .normal e ds W)) (CB 1 (aM ro K))
def AFk(ro:Option Nat)(e:Env)(ds:List Deferred)(K:AD)(W:CW):=by
 have h:CV ro 15 57 e ds W K=HN 24 e W λa=>C' e 3 a λb=>let a:=Ls 7 b 6 a 5 e 4 e 3;FQ b (IY e 0 3 λb=>Ej b 0 λc=>Ak c W λd=>D7 9 d W λf=>Eo f 70 λg=>let a:=Bc 17 g 16 15 f 14 d (Bq 13 c 12 b 11 (BO e) 10 e a);wI g (K4 (Vj ro K) e (F5 43 Bl 42 undef (ZE 35 41 40 (ZE 35 39 38 (ZE 35 37 36 (IS 35 Bl 35 (LI 34 Bl 33 undef 17 Bl 32 31 30 (Mb 29 28 27 26 (A7 25 17 24 23 22 (A7 21 17 20 19 18 a))))))))) ds W) (IY e 0 3 λb=>Ej b 1 λc=>C4 c W λd=>Ft d W λf=>Eo f 70 λg=>let a:=jv 25 g 17 false 24 (BB 23 f 17 22 d (BB 21 c 17 20 b (Lr 19 (BO e) 17 18 e a)));wI g (IY e 0 3 λb=>Ej b 1 λc=>C4 c W λd=>Ft d W λf=>Og f 200 λg=>let a:=Dh 35 g 34 (bh 33 g 17 false 32 g 25 true (BQ 31 f 25 30 d (BQ 29 c 25 28 b (Fp 27 (BO e) 25 26 e a))));Ds g (Vj ro K) e 43 (El 42 35 41 40 (A7 39 35 38 37 36 a)) ds W (IY e 0 3 λb=>Ej b 1 λc=>C4 c W λd=>Ft d W λf=>Eo f 203 λg=>Ay (Vj ro K) e 43 g (EA 42 g 35 41 f 40 d (BB 39 c 35 38 b (Lr 37 (BO e) 35 36 e a))) ds W)) (IY e 0 3 λb=>Ej b 1 λc=>C4 c W λd=>Ft d W λf=>Eo f 203 λg=>Ay (Vj ro K) e 43 g (BB 42 g 35 41 f (BB 40 d 35 39 c (BB 38 b 35 37 (BO e) (j6 36 (BA e) 35 false Az 34 (BG 33 17 32 25 31 30 (DP 29 25 28 27 26 a)))))) ds W))) K 0 e a ds W:=by kernel_rfl
 dsimp at h;exact h
theorem vN(Q:Ending→CW→Prop)(e:Env)(W:CW):AM prog Tryz.f15 Q .ret e [] W=Q (.returned (e 2)) W:=by kernel_rfl
def AJw{Q v0 W}:=FM 15 57 [v0] Tryz.f15 Q W Tryz.func15 (by kernel_rfl)
def K9(A:Prop)(W:CW):Ending→CW→Prop:=λe W'=>W'=W∧∃b,e=.returned (.bool b)∧(b=true→A)
theorem b9{v0:Value}{l:List DD}{W:CW}(hl:Ab 3 (Hs W) v0 l) :
  Ac prog Bs 14 [v0] W (K9 (l.length≤22∧∀s,s∈l→s.map.length≤70) W):=by
 refine AJu ?_;rw[AJt];obtain⟨a,cap,rfl,hc⟩:=hl;generalize FI:AM prog Tryz.f14 (K9 (l.length≤22∧∀s,s∈l→s.map.length≤70) W)=KK
 have Gd:∀(e:Env) (b:Bool),e 2=.bool b→(b=true→l.length≤22∧∀s,s∈l→s.map.length≤70)→KK .ret e [] W:=by
  intro e b h2 hb;rw[←FI,vM];exact⟨rfl,b,by rw[h2],hb⟩
 refine C2 (λi e ds W'=>ds=[]∧W'=W∧e 0=.slice a l.length cap∧e 3=.int .i64 i∧∀j x,j<i→l[j]?=some x→x.map.length≤70) (min l.length 22) ⟨rfl,rfl,rfl,rfl,by omega⟩ ?_;rintro i e ds W' hi ⟨rfl,rfl,h0,h3,A5⟩;rw[AFj,h0,h3];simp only[AQ Vt,AA,AP]
 have Ef:∀e1:Env,e1 0=.slice a l.length cap→(l.length≤22→i=l.length)→(iE none KK) .normal e1 [] W':=by
  intro e1 g0 La;simp only[AAP,Aj,g0,AQ Vt,AA,Dc];refine Gd _ _ rfl λhb=>?_;have hb:l.length≤22:=by have:=of_decide_eq_true hb;omega
  have hi2:=La hb;refine⟨hb,λs hs=>?_⟩;obtain⟨j,hj,rfl⟩:=abQ hs;exact A5 j _ (by omega) (ck hj)
 refine Eh (λAd=>?_) (λGZ=>?_)
 ·simp only[iH,Aj];simp only[AG,↓reduceIte]
  refine AF (λvO=>?_) (λvO=>?_)
  ·have vO:i<22:=by have:=of_decide_eq_true vO;omega
   have hx:=ck Ad;obtain⟨p,rfl,hp⟩:=hc i _ hx;obtain⟨vm,bB,hm,_⟩:=hp.map;obtain⟨am,cm,rfl,_⟩:=hm;simp only[aL,Aj];simp only[AG,AJ,Nat.reduceEqDiff,↓reduceIte,h0,h3];rw[AY Vt ZR Ad];simp only[AA,Ic,Kq,Kr];rw[AH a9 (a:=⟨p.block,p.off+i*3,none⟩) hp.type,AH a9 (a:=⟨p.block,p.off+i*3+1,none⟩) hp.to,AH Ww (a:=⟨p.block,p.off+i*3+2,none⟩) bB];simp only[AA,LN u9,AQ J9,Ae]
   have bad:∀e1:Env,e1 38=.bool true→(VZ none (G4 (λi e ds ov=>ds=[]∧ov=W'∧e 0=.slice (some p) l.length cap∧e 3=.int .i64 i∧∀j x,j<i→l[j]?=some x→x.map.length≤70) i (min l.length 22) (CB 0 (iE none KK)))) .normal e1 [] W':=by
    intro e1 h38;simp only[VZ,Aj,GL,Ib,FH,Ng,h38,Af,aK];exact Gd _ false rfl nofun
   refine AF (λ_=>bad _ rfl) (λ_=>?_);refine AF (λ_=>bad _ rfl) (λ_=>?_);simp only[VZ,Aj];simp only[AG,↓reduceIte]
   refine AF (λ_=>?_) (λAMT=>?_)
   ·simp only[aK,GL,Ib,FH,Ng];exact Gd _ false rfl nofun
   ·simp only[aK,Aj,FH];simp only[AG,AJ,Nat.reduceEqDiff,↓reduceIte,h0,h3,AK,AA];refine⟨by omega,trivial,trivial,trivial,by rw[CE (by omega)],λj x hj Ht=>?_⟩
    rcases aap.1 hj with h2|rfl
    ·exact A5 j x h2 Ht
    ·rw[hx]at Ht;cases Ht;have:=of_decide_eq_false AMT;omega
  ·have vO:¬i<22:=by have:=of_decide_eq_false vO;omega
   simp only[aL,LM,Er,Jp,aar];exact Ef _ h0 (by omega)
 ·simp only[iH,Aj];simp only[AG,↓reduceIte,AT];simp only[aL,LM,Er,Jp,aar];exact Ef _ h0 (by omega)
theorem AFl{i:Nat}(h:i<9223372036854775807):IntKind.i64.wrap ((i:Int)+1)=((i+1:Nat):Int):=by rw[wrap64 (by omega) (by omega)];rfl
theorem mA{v0:Value}{l:List CD}{W:CW}(hl:Ab 2 (G2 W) v0 l)(wc:l.length≤maxLen) :
  Ac prog Bs 15 [v0] W (K9 ((l.length≤40∨1000<l.length)∧l.length≤1002∧∀x,x∈l→x.AO.length≤203) W):=by
 refine AJw ?_;rw[AJv];have ANy:maxLen=9223372036854775807:=rfl;obtain⟨a,cap,rfl,hc⟩:=hl;generalize FI:AM prog Tryz.f15 (K9 ((l.length≤40∨1000<l.length)∧l.length≤1002∧∀x,x∈l→x.AO.length≤203) W)=KK
 have Gd:∀(e:Env) (b:Bool),e 2=.bool b→(b=true→(l.length≤40∨1000<l.length)∧l.length≤1002∧∀x,x∈l→x.AO.length≤203)→KK .ret e [] W:=by
  intro e b h2 hb;rw[←FI,vN];exact⟨rfl,b,by rw[h2],hb⟩
 refine C2 (λi e ds W'=>ds=[]∧W'=W∧e 0=.slice a l.length cap∧e 3=.int .i64 i∧∀j x,j<i→l[j]?=some x→x.AO.length≤203) l.length ⟨rfl,rfl,rfl,rfl,by omega⟩ ?_;rintro i e ds W' hi ⟨rfl,rfl,h0,h3,A5⟩;rw[AFk,h0,h3];simp only[AQ M',AA,AP]
 refine Eh (λAd=>?_) (λGZ=>?_)
 ·have hx:=ck Ad;obtain⟨p,rfl,hp⟩:=hc i _ hx;obtain⟨vm,bB,hm⟩:=hp.AO;obtain⟨am,cm,rfl,_⟩:=hm;rw[AY M' IH Ad];simp only[AA,G3,EF];rw[AH a9 (a:=⟨p.block,p.off+i*2,none⟩) hp.type,AH Ww (a:=⟨p.block,p.off+i*2+1,none⟩) bB];simp only[AA,LN u9,AQ J9,Ae,Dc]
  have fin:∀(e1:Env) (b:Bool),e1 43=.bool b→e1 0=.slice (some p) l.length cap→e1 3=.int .i64 i→(b=false→l[i].AO.length≤203)→(Vj none (G4 (λi e ds ov=>ds=[]∧ov=W'∧e 0=.slice (some p) l.length cap∧e 3=.int .i64 i∧∀j x,j<i→l[j]?=some x→x.AO.length≤203) i l.length (CB 0 (pj none KK)))) .normal e1 [] W':=by
   intro e1 b h43 g0 g3 hb;simp only[Vj,Aj,h43]
   refine AF (λTK=>?_) (λmy=>?_)
   ·simp only[aM,GL,Ib,FH,Ng,l_];exact Gd _ false rfl nofun
   ·simp only[aM,Aj,FH];simp only[AG,AJ,Nat.reduceEqDiff,↓reduceIte,g0,g3,AK,AA];refine⟨Ad,trivial,trivial,trivial,by rw[AFl (by omega)],λj x hj Ht=>?_⟩
    rcases aap.1 hj with h2|rfl
    ·exact A5 j x h2 Ht
    ·rw[hx]at Ht;cases Ht;exact hb my
  refine AF (λ_=>fin _ true rfl (by exact h0) (by exact h3) nofun) (λ_=>?_)
  refine AF (λh70=>?_) (λh70=>?_)
  ·refine AF (λAB_=>fin _ true rfl (by exact h0) (by exact h3) nofun) (λAB_=>?_);refine fin _ _ rfl (by exact h0) (by exact h3) λhb=>?_;have:=of_decide_eq_false hb;omega
  ·refine fin _ _ rfl (by exact h0) (by exact h3) λhb=>?_;have:=of_decide_eq_false h70;omega
 ·have La:i=l.length:=by omega
  simp only[Aj,LM,Er,Jp,aar,l_];simp only[AG,AJ,Nat.reduceEqDiff,↓reduceIte,h0,AQ M',AA,Dc,Ae]
  have C3:∀x,x∈l→x.AO.length≤203:=λs hs=>by
   obtain⟨j,hj,rfl⟩:=abQ hs;exact A5 j _ (by omega) (ck hj)
  refine AF (λh40=>?_) (λh40=>?_)
  ·simp only[Vi,Aj];have:=of_decide_eq_true h40;exact Gd _ true rfl λ_=>⟨.inl (by omega),by omega,C3⟩
  ·refine AF (λQ7=>?_) (λQ7=>?_)
   ·simp only[Vi,Aj];have Q7:=of_decide_eq_true Q7;refine Gd _ _ rfl λhb=>?_;have:=of_decide_eq_true hb;exact⟨.inr (by omega),by omega,C3⟩
   ·simp only[Vi,Aj];exact Gd _ false rfl nofun
theorem a46:agg? prog 46=some false:=by kernel_rfl
theorem ACA(a:Addr):Uq prog 48 (.pointer (some a)) 4=some (.pointer (some ⟨a.block,a.off+4,none⟩)):=by kernel_rfl
def pk(x:Aq):Prop:=x.name.size≤70∧x.Bg.size≤70∧x.fields.length≤24∧∀f,f∈x.fields→f.name.size≤70
theorem mB{v0:Value}{l:List Aq}{W:CW}(hl:Ab 5 (EI W) v0 l) :
  Ac prog Bs 13 [v0] W (K9 (l.length≤102∧∀x,x∈l→pk x) W):=by
 refine AJs ?_;rw[AJr];obtain⟨a,cap,rfl,hc⟩:=hl;generalize FI:AM prog Tryz.f13 (K9 (l.length≤102∧∀x,x∈l→pk x) W)=KK
 have Gd:∀(e:Env) (b:Bool),e 2=.bool b→(b=true→l.length≤102∧∀x,x∈l→pk x)→KK .ret e [] W:=by
  intro e b h2 hb;rw[←FI,vK];exact⟨rfl,b,by rw[h2],hb⟩
 refine C2 (λi e ds W'=>ds=[]∧W'=W∧e 0=.slice a l.length cap∧e 3=.int .i64 i∧∀j x,j<i→l[j]?=some x→pk x) (min l.length 103) ⟨rfl,rfl,rfl,rfl,by omega⟩ ?_;rintro i e ds W' hi ⟨rfl,rfl,h0,h3,A5⟩;rw[AFh,h0,h3];simp only[AQ UG,AA,AP]
 have Ef:∀e1:Env,e1 0=.slice a l.length cap→(l.length≤102→i=l.length)→(iA none KK) .normal e1 [] W':=by
  intro e1 g0 La
  have C3:l.length≤102→∀x,x∈l→pk x:=λh s hs=>by
   have:=La h;obtain⟨j,hj,rfl⟩:=abQ hs;exact A5 j _ (by omega) (ck hj)
  simp only[aH,Aj,g0,AQ UG,AA,Dc,Ae]
  refine AF (λdf=>?_) (λdf=>?_)
  ·simp only[VX,Aj];have:=of_decide_eq_true df;exact Gd _ true rfl λ_=>⟨by omega,C3 (by omega)⟩
  ·refine AF (λAMU=>?_) (λAMU=>?_)
   ·simp only[VX,Aj];refine Gd _ _ rfl λhb=>?_;have:=of_decide_eq_true hb;exact⟨by omega,C3 (by omega)⟩
   ·simp only[VX,Aj];exact Gd _ false rfl nofun
 refine Eh (λAd=>?_) (λGZ=>?_)
 ·simp only[iD,Aj];simp only[AG,↓reduceIte]
  refine AF (λvO=>?_) (λvO=>?_)
  ·have vO:i<103:=by have:=of_decide_eq_true vO;omega
   have hx:=ck Ad;obtain⟨p,rfl,hp⟩:=hc i _ hx;obtain⟨vf,hvf,hf⟩:=hp.fields;obtain⟨af,cf,rfl,hfc⟩:=hf;obtain⟨ab,lb,cb,MI⟩:=hp.binds;have q9:ld prog 9 (.pointer (some ⟨p.block,p.off+i*5,none⟩)) W'=some (.string l[i].name):=AH a9 (a:=⟨p.block,p.off+i*5,none⟩) hp.name;have q9':ld prog 9 (.pointer (some ⟨p.block,p.off+i*5+1,none⟩)) W'=some (.string l[i].Bg):=AH a9 (a:=⟨p.block,p.off+i*5+1,none⟩) hp.Bg;have q45:ld prog 45 (.pointer (some ⟨p.block,p.off+i*5+2,none⟩)) W'=some (.slice af l[i].fields.length cf):=AH a45 (a:=⟨p.block,p.off+i*5+2,none⟩) hvf;have q46:ld prog 46 (.pointer (some ⟨p.block,p.off+i*5+4,none⟩)) W'=some (.slice ab lb cb):=AH a46 (a:=⟨p.block,p.off+i*5+4,none⟩) MI;obtain⟨eb,heb⟩:=u46;simp only[aJ,Aj];simp only[AG,AJ,Nat.reduceEqDiff,↓reduceIte,h0,h3];rw[AY UG WQ Ad];simp only[AA,Lw,TC,Nc,ACA,q9,q9',q45,q46,LN u9,AQ bj,AQ heb,Ae]
   have fin:∀(e1:Env) (b:Bool),e1 48=.bool b→e1 0=.slice (some p) l.length cap→e1 3=.int .i64 i→(b=false→l[i].name.size≤70∧l[i].Bg.size≤70∧l[i].fields.length≤24)→(VY none (G4 (λi e ds ov=>ds=[]∧ov=W'∧e 0=.slice (some p) l.length cap∧e 3=.int .i64 i∧∀j x,j<i→l[j]?=some x→pk x) i (min l.length 103) (CB 0 (iA none KK)))) .normal e1 [] W':=by
    intro e1 b h48 g0 g3 hb;simp only[VY,Aj,h48]
    refine AF (λTK=>?_) (λmy=>?_)
    ·simp only[l5,aI,GL,Ib,FH,Ng,aH];exact Gd _ false rfl nofun
    ·obtain⟨hn,hsu,Ny⟩:=hb my;simp only[l5,Aj];refine C2 (λm e ds ov=>ds=[]∧ov=W'∧e 0=.slice (some p) l.length cap∧e 3=.int .i64 i∧e 4=.int .i64 m∧∀j x,j<m→l[i].fields[j]?=some x→x.name.size≤70) l[i].fields.length ⟨rfl,rfl,by exact g0,by exact g3,rfl,by omega⟩ ?_;rintro m e2 ds2 W2 hm ⟨rfl,rfl,r0,r3,r4,O4⟩;rw[AFi,r0,r3,r4,AY UG WQ Ad];simp only[AA,Nc,q45,AQ bj,AP]
     refine Eh (λAFm=>?_) (λANz=>?_)
     ·have hxm:=ck AFm;obtain⟨q,rfl,hq⟩:=hfc m _ hxm;rw[AY bj s72 AFm];simp only[AA,TD];rw[AH a9 (a:=⟨q.block,q.off+m*2,none⟩) hq.name];simp only[AA,LN u9,Ae]
      refine AF (λh70=>?_) (λh70=>?_)
      ·simp only[l7,aI,GL,Ib,FH,Ng,aH];exact Gd _ false rfl nofun
      ·simp only[l7,Aj,FH];simp only[AG,AJ,Nat.reduceEqDiff,↓reduceIte,r0,r3,r4,AK,AA];refine⟨AFm,trivial,trivial,trivial,trivial,by rw[CE (by omega)],λj x hj Ht=>?_⟩
       rcases aap.1 hj with h2|rfl
       ·exact O4 j x h2 Ht
       ·rw[hxm]at Ht;cases Ht;have:=of_decide_eq_false h70;omega
     ·simp only[Aj,LM,wy,Er,FH,Jp,aar,aI];simp only[AG,AJ,Nat.reduceEqDiff,↓reduceIte,r0,r3,AK,AA];refine⟨by omega,trivial,trivial,trivial,by rw[CE (by omega)],λj x hj Ht=>?_⟩
      rcases aap.1 hj with h2|rfl
      ·exact A5 j x h2 Ht
      ·rw[hx]at Ht;cases Ht;refine⟨hn,hsu,Ny,λf hf=>?_⟩;obtain⟨j2,rA,rfl⟩:=abQ hf;exact O4 j2 _ (by omega) (ck rA)
   refine AF (λ_=>fin _ true rfl (by exact h0) (by exact h3) nofun) (λh1=>?_);refine AF (λ_=>fin _ true rfl (by exact h0) (by exact h3) nofun) (λh2=>?_);refine AF (λ_=>fin _ true rfl (by exact h0) (by exact h3) nofun) (λh4=>?_);refine fin _ _ rfl (by exact h0) (by exact h3) λ_=>?_;have h1:=of_decide_eq_false h1;have h2:=of_decide_eq_false h2;have h4:=of_decide_eq_false h4;exact⟨by omega,by omega,by omega⟩
  ·have vO:¬i<103:=by have:=of_decide_eq_false vO;omega
   simp only[aJ,LM,Er,Jp,aar];exact Ef _ h0 (by omega)
 ·simp only[iD,Aj];simp only[AG,↓reduceIte,AT];simp only[aJ,LM,Er,Jp,aar];exact Ef _ h0 (by omega)
structure xD(W:CW)(v0 v1 v2:Value)(c:List Aq)(l:List DD)(h:List CD):Prop where
 top:Ai W
 cat:Ab 5 (EI W) v0 c
 spc:Ab 3 (Hs W) v1 l
 hp:Ab 2 (G2 W) v2 h
 wc:h.length≤maxLen
theorem AFn{c:List Aq}(h1:c.length≤102)(h2:∀x,x∈c→pk x):QD c :=
 ⟨by omega,λx hx=>by have:=(h2 x hx).2.2.1;omega,λx hx=>by have:=(h2 x hx).1;omega,λx hx=>by have:=(h2 x hx).2.1;omega,λx hx f hf=>by have:=(h2 x hx).2.2.2 f hf;omega⟩
theorem ADI:C_ Bs 16=true:=by kernel_rfl
theorem AAQ:C_ Bs (16+2000000)=true:=by kernel_rfl
def AAR:Ending→CW→Prop:=λe _=>e=.returned (.bool true)
theorem WY(c:List Aq)(l:List DD)(b:List UInt8):(∃e:Int,e≠0∧Br c l b=([],0,e))∨∃ts xs,Bk c=true∧Be c l=true∧Canon c (F_ c l) ts xs∧bI b=Z_ c ts xs∧Br c l b=(xs.map (A_ c l),min (xs.length:Int) 1,0):=by
 unfold Br
 cases Al:Bk c with
 |false=>exact .inl ⟨210,by decide,by simp⟩
 | true=>
  cases hs:Be c l with
  |false=>exact .inl ⟨212,by decide,by simp⟩
  | true=>
   by_cases hl:100000<b.length
   ·exact .inl ⟨2,by decide,by simp[hl]⟩
   ·cases hr:Bf b c (F_ c l) 0 with
    |error e=>exact .inl ⟨e,WV Z3 hr,by simp[hl]⟩
    |ok r=>
     obtain⟨xs,BY⟩:=r;obtain⟨ts,h1,h2⟩:=b7 hr;exact .inr ⟨ts,xs,rfl,rfl,h1,h2,by simp[hl]⟩
theorem Vk(a b d:Value):ext (.tuple #[a,b,d]) 0=some a:=rfl
theorem Vl(a b d:Value):ext (.tuple #[a,b,d]) 1=some b:=rfl
theorem Vm(a b d:Value):ext (.tuple #[a,b,d]) 2=some d:=rfl
theorem Vn{P:Program}{α:Type}{R:Nat→Nat→α→Prop}{t el:TypeId}{n:Nat}{v:Value}{l:List α}(u:P.underlying t=some (.slice el))(h:Ab n R v l)(W:CW):It P t v W=some (.int .i64 l.length):=by
 obtain⟨a,cap,rfl,_⟩:=h;exact AQ u _ _ _ _
theorem mC{W:CW}{v:Value}{xs:List CD}(h:Ab 2 (G2 W) v xs){i:Nat}{x:CD}(hx:xs[i]?=some x):∃q p0 p1 vv,UK prog 24 v (.int .i64 i)=some q∧Uq prog 56 q 0=some p0∧Uq prog 56 q 1=some p1∧ld prog 9 p0 W=some (.string x.type)∧ld prog 40 p1 W=some vv∧Ab 1 (F9 W) vv x.AO:=by
 obtain⟨a,cap,rfl,hc⟩:=h;obtain⟨p,rfl,hr⟩:=hc i x hx;obtain⟨vv,h1,h2⟩:=hr.AO;exact⟨_,_,_,vv,AY M' IH (dx.1 hx).1,G3 _,EF _,AH a9 (a:=⟨p.block,p.off+i*2,none⟩) hr.type,AH Ww (a:=⟨p.block,p.off+i*2+1,none⟩) h1,h2⟩
theorem mD{W:CW}{v:Value}{xs:List Int}(h:Ab 1 (F9 W) v xs){i:Nat}{x:Int}(hx:xs[i]?=some x):∃q,UK prog 40 v (.int .i64 i)=some q∧ld prog 3 q W=some (.int .i64 x):=by
 obtain⟨a,cap,rfl,hc⟩:=h;obtain⟨p,rfl,hr⟩:=hc i x hx;exact⟨_,AY J9 s3 (dx.1 hx).1,AH a3 (a:=⟨p.block,p.off+i*1,none⟩) hr.1⟩
theorem iI{W:CW}{v:Value}{l:List Int}(h:Bu W 5 1 v (De l))(W':CW):It prog 29 v W'=some (.int .i64 l.length):=Hu LS h (by omega) (by rw[Zj];omega)
theorem mE:Tryz.f89.results.toList=[.cell 6 56]:=by kernel_rfl
theorem AFo{l:List DD}{s:ByteArray}{i:Nat}(hi:i<l.length)(h:l[i].to=s)(A5:∀j x,j<i→l[j]?=some x→x.to≠s):OC l s=some l[i]:=by
 unfold OC;rw[List.find?_eq_some_iff_getElem];refine⟨decide_eq_true h,i,hi,rfl,λj hj=>?_⟩;have:=A5 j _ hj (ck (by omega))
 simpa using this
theorem ACB{l:List DD}{s:ByteArray}(A5:∀j x,j<l.length→l[j]?=some x→x.to≠s):OC l s=none:=by
 unfold OC;rw[ab4];intro x hx;obtain⟨j,hj,rfl⟩:=abo.1 hx;have:=A5 j _ hj (ck hj)
 simpa using this
theorem mF{c:List Aq}{s:ByteArray}{i:Nat}(h:A3 c s=some i):HW c s=(i:Int):=by
 have hf:HW c s=match A3 c s with
  |some i=>(i:Int)
  |none=>-1:=rfl
 rw[hf,h]
theorem vP{v0 v1 vx:Value}{c:List Aq}{l:List DD}{x:CD}{W:CW}(ht:Ai W)(hc:Ab 5 (EI W) v0 c)(hC:QD c)(hl:Ab 3 (Hs W) v1 l)(OU:l.length<100000)(gp:Ab 1 (F9 W) vx x.AO)(hxl:x.AO.length<100000)
  (hm:∀s,OC l x.type=some s→s.map.length=x.AO.length∧∃t,A3 c s.type=some t∧∀m,m∈s.map→0≤m∧m.toNat<(AX c t).length) :
  Ac prog Bs 89 [v0,v1,.agg #[.string x.type,vx]] W (Tq vx x (A_ c l x) W):=by
 refine AHz ?_;rw[AHy];obtain⟨ax,cx,rfl,hxc⟩:=id gp;refine G8 IH ht λW0 k0 t0 z0 VO=>?_;have VO:A0 W0 W.sz 56 [.string x.type,.slice ax x.AO.length cx]:=VO;refine LL m0 IH t0 λA kA tA zA Mu=>?_;have Mu:A0 A W0.sz 56 [.string ⟨#[]⟩,.slice none 0 0]:=Mu;have VO:A0 A W.sz 56 [.string x.type,.slice ax x.AO.length cx]:=VO.ext t0 kA;have k:=k0.trans kA;have hcA:Ab 5 (EI A) v0 c:=hc.imp λ_ _ _ hr=>hr.kp ht k;have hlA:Ab 3 (Hs A) v1 l:=hl.imp λ_ _ _ hr=>hr.kp ht k;obtain⟨al,cl,Uo,hlc⟩:=id hlA;have hzA:W.sz≤W0.sz:=k0.sz;generalize FI:AM prog Tryz.f89 (Tq (.slice ax x.AO.length cx) x (A_ c l x) W)=K
 have DU:∀iZ vv,Kp A iZ→Ai iZ→BJ vv=true→(∀W3,Ep W0.sz iZ W3→(vv=.slice ax x.AO.length cx∧(A_ c l x).AO=x.AO)∨∃bv,vv=.slice (some ⟨bv,0,none⟩) (A_ c l x).AO.length (A_ c l x).AO.length∧A0 W3 bv 3 (DA (A_ c l x).AO)∧W.sz≤bv)→∀{K':CW→Prop},(∀W3,(∀e',e' 6=.pointer (some ⟨W0.sz,0,none⟩)→K .ret e' [] W3)→K' W3)→
   wV (M6 prog 56 (.pointer (some ⟨W0.sz,0,none⟩)) (.agg [.string (A_ c l x).type,vv].toArray) iZ) K':=by
  intro iZ vv k1' t1' Jz UX K' hK';have hB:=Mu.ext tA k1';refine G0 IH (a:=⟨W0.sz,0,none⟩) (by simp only[abv,acQ,Jz,abC];rfl) rfl hB (by simp) λW3 hu IG=>hK' W3 λe' h6'=>?_;have hu:Ep W0.sz iZ W3:=hu;rw[←FI];have IG:A0 W3 W0.sz 56 [.string (A_ c l x).type,vv]:=IG;refine Nh mE (p:=⟨W0.sz,0,none⟩) h6' (DC (vs:=[.string (A_ c l x).type,vv]) bG IH rfl (by omega) IG.cells) ?_;exact⟨(k.trans k1').Ba hzA hu,t1'.Ba (hB.lt t1') hu,vv,rfl,UX W3 hu⟩
 refine C2 (λi e ds W'=>ds=[]∧W'=A∧e 0=v0∧e 1=v1∧e 5=.pointer (some ⟨W.sz,0,none⟩)∧e 6=.pointer (some ⟨W0.sz,0,none⟩)∧e 7=.int .i64 i∧∀j y,j<i→l[j]?=some y→y.to≠x.type) l.length ⟨rfl,rfl,rfl,rfl,rfl,rfl,rfl,λj y hj=>by omega⟩ ?_;rintro i e ds W' hi ⟨rfl,rfl,h0,h1,h5,h6,h7,A5⟩;rw[AD2,h1,h5,h7,Uo,AQ Vt];simp only[AA,AP];refine Eh (λAd=>?_) (λGZ=>?_)
 rotate_left
 ·have Js:=ACB (s:=x.type) λj y hj=>A5 j y (by omega);have P_:A_ c l x=x:=by unfold A_;rw[Js]
  simp only[Aj,LM,Er,Jp,aar,oM];simp only[AG,AJ,Nat.reduceEqDiff,↓reduceIte,h5,h6];rw[DC (vs:=[.string x.type,.slice ax x.AO.length cx]) bG IH rfl (by omega) VO.cells];simp only[AA];have Wy:x.type=(A_ c l x).type:=by rw[P_]
  rw[Wy];refine DU W' _ (.refl _) tA rfl (λW3 hu=>.inl ⟨rfl,by rw[P_]⟩) λW3 hr=>hr _ (by simp only[AG,AJ,Nat.reduceEqDiff,↓reduceIte,h6])
 have hs:=ck Ad;obtain⟨p,rfl,hr⟩:=hlc i _ hs;obtain⟨r1,r2⟩:=Nj _ hr;have q3:ld prog 9 (.pointer (some ⟨W.sz,0,none⟩)) W'=some (.string x.type):=AH a9 (a:=⟨W.sz,0,none⟩) (VO.cell rfl);rw[AY Vt ZR Ad];simp only[AA,Ic,Kq,G3,r2,q3,H_,G1];refine⟨by simp only[and_self],trivial,AF (λhq=>?_) (λhq=>?_)⟩
 rotate_left
 ·have hq:=of_decide_eq_false hq;simp only[kE,Aj,FH];simp only[AG,AJ,Nat.reduceEqDiff,↓reduceIte,h7,AK,AA];refine⟨Ad,trivial,trivial,by simp only[h0],by simp only[h1,Uo],by simp only[h5],by simp only[h6],by rw[CE (by omega)],λj y hj hy=>?_⟩
  rcases aap.1 hj with h|rfl
  ·exact A5 j y h hy
  ·rw[hs]at hy;cases hy;exact hq
 have hq:=of_decide_eq_true hq;have Js:=AFo Ad hq A5;generalize hsx:l[i]=s at*;obtain⟨hsl,t,FJ,RG⟩:=hm s Js;have P_:A_ c l x=⟨s.type,EZ s.map x.AO (List.replicate (AX c t).length 0) s.map.length⟩:=by unfold A_;rw[Js];simp only;rw[FJ]
 have WK:=To hC t;have kn:Kp W' (W'.new (.cells .nil 2 #[.string ⟨#[]⟩,.slice none 0 0] 56)):=.new _;have tn:=tA.new (.cells .nil 2 #[.string ⟨#[]⟩,.slice none 0 0] 56);have lT:(W'.new (.cells .nil 2 #[.string ⟨#[]⟩,.slice none 0 0] 56)).obj W'.sz=some (.cells .nil 2 #[.string ⟨#[]⟩,.slice none 0 0] 56):=by rw[Bd,aae rfl]
 have hBn:A0 (W'.new (.cells .nil 2 #[.string ⟨#[]⟩,.slice none 0 0] 56)) W'.sz 56 [.string ⟨#[]⟩,.slice none 0 0]:=⟨.nil,2,_,lT,rfl,λk v hk=>by
  match k,hk with
  |0,hk=>cases hk;rfl
  |1,hk=>cases hk;rfl⟩
 have u3:(W'.new (.cells .nil 2 #[.string ⟨#[]⟩,.slice none 0 0] 56)).sz=W'.sz+1:=rfl;have Ny:∀W0:CW,W0.obj W'.sz=some (.cells .nil 2 #[.string ⟨#[]⟩,.slice none 0 0] 56)→tq (.pointer (some ⟨W'.sz,0,none⟩)) ((W'.new (.cells .nil 2 #[.string ⟨#[]⟩,.slice none 0 0] 56)).obj W'.sz) W0=true:=λW0 h0=>VP h0 (by rfl);generalize hAn:W'.new (.cells .nil 2 #[.string ⟨#[]⟩,.slice none 0 0] 56)=An at kn tn lT hBn u3 Ny ⊢;have l9:∀W2,Kp An W2→ld prog 9 (.pointer (some ⟨p.block,p.off+i*3,none⟩)) W2=some (.string s.type):=λW2 k'=>(Nj _ (hr.kp tA (kn.trans k'))).1;rw[l9 An (.refl _),h0];simp only[AA];refine As (Ks (s:=s.type) (hcA.imp λ_ _ _ hr=>hr.kp tA kn) (by have:=hC.len;omega)) ?_;rw[mF FJ];refine(VA tn (hcA.imp λ_ _ _ hr=>hr.kp tA kn) hC.len hC.fields (FT FJ)).mono λen W7 ⟨k7,t7,vr,he,hO7,_⟩=>?_;subst he;refine AL ?_;rw[iI hO7];simp only[AA];refine sD J9 s3 z3 rfl by3 (by omega) (n:=(AX c t).length) (by omega) t7 λW9 k9 t9 z9 hBv=>?_;refine Ap (AAB _ _ _ _) ?_;have k79:=k7.trans k9;refine⟨trivial,?_⟩;have AMV:=hBn.ext tn k79;refine G0 IH (a:=⟨W'.sz,0,none⟩) (ws:=[.string s.type,.slice (some ⟨W7.sz,0,none⟩) (AX c t).length (AX c t).length]) rfl rfl AMV (by simp) λW8 hu8 hBo=>?_;have hu8:Ep W'.sz W9 W8:=hu8;have hBo:A0 W8 W'.sz 56 [.string s.type,.slice (some ⟨W7.sz,0,none⟩) (AX c t).length (AX c t).length]:=hBo;have hz7:=k7.sz;refine⟨by simp only[l9 An (.refl _),l9 W7 k7,l9 W9 k79,iI hO7,and_self],by simp only[Ny An lT,Ny W7 (by rw[k7.obj _ (by omega)];exact lT),Ny W9 (by rw[k79.obj _ (by omega)];exact lT),and_self],?_⟩;have h5l:W'.sz<W9.sz:=by omega
 have t8:=t9.Ba h5l hu8;have k58:Kp W' W8:=(kn.trans k79).Ba (aag _) hu8
 have AFc:A0 W8 W7.sz 3 (DA (EZ s.map x.AO (List.replicate (AX c t).length 0) 0)):=by
  have:DA (EZ s.map x.AO (List.replicate (AX c t).length 0) 0)=List.replicate (AX c t).length (.int .i64 0):=by simp[EZ,DA]
  rw[this];exact hBv.congr (hu8.obj _ (by omega))
 refine C2 (λn e ds W2=>ds=[]∧Kp W' W2∧Ai W2∧A0 W2 W'.sz 56 [.string s.type,.slice (some ⟨W7.sz,0,none⟩) (AX c t).length (AX c t).length]∧A0 W2 W7.sz 3 (DA (EZ s.map x.AO (List.replicate (AX c t).length 0) n))∧e 1=v1∧e 5=.pointer (some ⟨W.sz,0,none⟩)∧e 6=.pointer (some ⟨W0.sz,0,none⟩)∧e 7=.int .i64 i∧e 8=.pointer (some ⟨W'.sz,0,none⟩)∧e 9=.int .i64 n) x.AO.length
  ⟨rfl,k58,t8,hBo,AFc,by simp only[AG,AJ,Nat.reduceEqDiff,↓reduceIte,h1,Uo],by simp only[AG,AJ,Nat.reduceEqDiff,↓reduceIte,h5],by simp only[AG,AJ,Nat.reduceEqDiff,↓reduceIte,h6],by simp only[AG,AJ,Nat.reduceEqDiff,↓reduceIte,h7],by simp only[AG,Nat.reduceEqDiff,↓reduceIte],by simp only[AG,↓reduceIte];rfl⟩ ?_
 rintro n e2 ds W2 hn ⟨rfl,VQ,t',g_,gx,g1,g5,g6,g7,g8,g9⟩;have AB2:=VO.ext tA VQ;have AJx:ld prog 40 (.pointer (some ⟨W.sz,0+1,none⟩)) W2=some (.slice ax x.AO.length cx):=AH Ww (a:=⟨W.sz,0+1,none⟩) (AB2.cell rfl);rw[AD3,g1,g5,g7,g8,g9,Uo];simp only[EF,AA,AJx,AQ J9,AP]
 refine Eh (λAFp=>?_) (λAN0=>?_)
 ·obtain⟨vm,bB,am,cm,rfl,hmc⟩:=O3 (hr.kp tA VQ);have hmn:=ck (show n<s.map.length by omega);obtain⟨q,rfl,hqq⟩:=hmc n _ hmn;obtain⟨tJ,Ry⟩:=RG _ (aaY (show n<s.map.length by omega));have hxn:=ck AFp;obtain⟨px,rfl,hp⟩:=hxc n _ hxn;have pO:=(k.trans VQ).cell ht hp.1;have hl8:ld prog 40 (.pointer (some ⟨W'.sz,0+1,none⟩)) W2=some (.slice (some ⟨W7.sz,0,none⟩) (AX c t).length (AX c t).length):=AH Ww (a:=⟨W'.sz,0+1,none⟩) (g_.cell rfl);have hlq:ld prog 3 (.pointer (some ⟨q.block,q.off+n*1,none⟩)) W2=some (.int .i64 s.map[n]):=AH a3 (a:=⟨q.block,q.off+n*1,none⟩) hqq.1;have hlp:ld prog 3 (.pointer (some ⟨px.block,px.off+n*1,none⟩)) W2=some (.int .i64 x.AO[n]):=AH a3 (a:=⟨px.block,px.off+n*1,none⟩) pO;rw[AY Vt ZR Ad];simp only[Kr,AA,hl8,bB];rw[AY J9 s3 (show n<s.map.length by omega)];simp only[AA,hlq];rw[AY J9 s3 AFp];simp only[AA,hlp];have hmi:(s.map[n]:Int)=((s.map[n].toNat:Nat):Int):=by omega
  rw[hmi,AY J9 s3 Ry];simp only[AA];have kY:(EZ s.map x.AO (List.replicate (AX c t).length 0) n).length=(AX c t).length:=by rw[JU];simp
  refine Ar s3 (a:=⟨W7.sz,0+s.map[n].toNat*1,none⟩) (v:=.int .i64 x.AO[n]) rfl gx (by simp only[DA,aaq,kY];omega) λbE AAS AAT=>?_;have AAS:Ep W7.sz W2 bE:=AAS
  have AAT:A0 bE W7.sz 3 (DA (EZ s.map x.AO (List.replicate (AX c t).length 0) (n+1))):=by
   rw[EZ,hmn,hxn,Kn,Kn,←gz (by rw[kY];exact Ry)];exact AAT
  rw[hmi]at hlq;refine⟨by simp only[and_self],trivial,?_⟩;simp only[uI,Aj,FH];simp only[AG,AJ,Nat.reduceEqDiff,↓reduceIte,g9,AK,AA];refine⟨AFp,trivial,VQ.Ba (by omega) AAS,t'.Ba (gx.lt t') AAS,g_.congr (AAS.obj _ (by omega)),AAT,by simp only[g1,Uo],by simp only[g5],by simp only[g6],by simp only[g7],by simp only[g8],by rw[CE (by omega)]⟩
 ·have we:n=s.map.length:=by omega
  subst we;simp only[Aj,LM,Er,Jp,Er,aar,rS];simp only[AG,AJ,Nat.reduceEqDiff,↓reduceIte,g6,g8];rw[DC (vs:=[.string s.type,.slice (some ⟨W7.sz,0,none⟩) (AX c t).length (AX c t).length]) (a:=⟨W'.sz,0,none⟩) bG IH rfl (by omega) g_.cells];simp only[AA];have Wy:s.type=(A_ c l x).type:=by rw[P_]
  have eK:(AX c t).length=(A_ c l x).AO.length:=by rw[P_];simp only[JU,ab7]
  rw[Wy]
  refine DU W2 _ VQ t' rfl (λW3 hu=>.inr ⟨W7.sz,by rw[eK],?_,by have:=k.sz;omega⟩) λW3 hr=>?_
  ·have:(A_ c l x).AO=EZ s.map x.AO (List.replicate (AX c t).length 0) s.map.length:=by rw[P_]
   rw[this];exact gx.congr (hu.obj _ (by have:=zA;omega))
  ·simp only[kE,GL,Ib,FH,Ng,oM];exact hr _ (by simp only[AG,AJ,Nat.reduceEqDiff,↓reduceIte,g6])
def X8(ro:Option Nat)(K:AD):AD:=AU (λe ds W=>K .ret (Env.of e [(10,(.int .i64 0)),(9,(e 16)),(8,(e 18)),(119,(e 16)),(118,(e 18))]) ds W) K
def sZ(ro:Option Nat)(K:AD):AD:=AU (λa b c=>KY .gtr 3 a 16 0 λd=>C1 d (Dj 24 a 6 c λf=>GR f c λg=>Jl 3 a 16 g λh=>Ay (X8 ro K) a 16 h (F5 117 h 116 g (CC 115 f 114 (a 16) 113 d 112 a 16)) b c) (X8 ro K) a (Bo 113 d 112 a 16) b c) K
def vQ:=by
 have h:=@sZ.eq_1;dsimp at h;exact h
def sa(ro:Option Nat)(K:AD):AD:=AU (λa b c=>GR (a 15) c λd=>GB ro 30 120 1 a (D4 79 At 78 d 77 (a 15)) b c 2 (sZ ro K)) K
def vR:=by
 have h:=@sa.eq_1;dsimp at h;exact h
def AJy(v0 v1 v2 v3:Value)(K:AD)(W:CW):=by
 have h:RN 30 120 (Gc v0 v1 v2 v3) W K=HU 24 v2 W λa b=>let c:=eC 26 v0 (BN 10 At 9 At 8 (.slice none 0 0) 6 a);DF 47 v0 b (λb d=>Dn b λf=>Dp b λg=>DB 78 d λd h=>CL 78 d f h λh=>D2 g λi=>let b:=BL 31 i 30 g 12 g 11 d (D0 29 g 28 f 25 b 27 c);HV i K (Gc v0 v1 v2 v3) (St 10 210 9 At 8 none 0 0 b) h (BH 78 d h λc=>F7 48 c v1 h (λf g=>Dn f λh=>Dp f λi=>DB 83 g λg j=>CL 83 g h j λj=>D2 i λk=>let b:=F5 39 k 38 i (BL 14 i 13 g 37 i 36 h (Bc 32 f 35 34 v1 33 c b));HV k K (Gc v0 v1 v2 v3) (St 10 212 9 At 8 none 0 0 b) j (BH 78 d j λc=>BH 24 a j λd=>F7 84 c d j (λf g=>Mc f 0 λh=>let b:=BL 43 h 42 f 41 d 40 c b;let c:=DT 47 v3 46 v1 45 v0 b;HV h K (Gc v0 v1 v2 v3) (St 10 211 9 At 8 none 0 0 b) g (LH 19 v0 v1 v3 g (λb d=>Dn b λf=>Dp b λg=>jy b 2 λh=>Q1 30 h 0 λi=>let b:=F5 53 i 52 h (BL 17 h 16 g 15 f 51 h (D0 50 g 49 f 44 b 48 c));HV i K (Gc v0 v1 v2 v3) (BL 10 h 9 At 8 (.slice none 0 0) 54 h b) d (BH 24 a d λc=>GR c d λg=>GR f d λh=>Db .add g h λi=>Eo i 1000 λj=>let b:=F5 60 j 59 i (BL 58 h 57 f 56 g 55 c b);HV j K (Gc v0 v1 v2 v3) (St 10 2 9 At 8 none 0 0 b) d (BH 24 a d λa=>GR a d λc=>Fu 30 120 (Gc v0 v1 v2 v3) (BL 63 At 62 c 61 a 18 (.slice none 0 0) b) d (sa none K)))) λa b=>Mh K a v0 v1 v2 v3 c b)) λa f=>Mh K a v0 v1 v2 v3 (F5 41 d 40 c b) f)) λa d=>Mh K a v0 v1 v2 v3 (F5 34 v1 33 c b) d)) λa b=>Mh K a v0 v1 v2 v3 c b:=by kernel_rfl
 dsimp at h;exact h
def sc(ro:Option Nat)(K:AD):AD:=AU (λa b c=>BP a 63 λd=>D1 K a 63 d 76 [] b c) K
def vS:=by
 have h:=@sc.eq_1;dsimp at h;exact h
def AFq(ro:Option Nat)(e:Env)(ds:List Deferred)(K:AD)(W:CW):=by
 have h:CV ro 30 120 e ds W K=Lq e 63 e 62 λa=>I0 a (IY e 61 63 λb=>BH 56 b W λc=>DB 56 W λd f=>CL 56 d c f λf=>Ej d 0 λg=>Ak g f λh=>Ej d 1 λi=>C4 i f λj=>DF 79 j f (λk l=>Ok prog 56 [(0,h),(1,k)] λm=>I9 24 1 [(0,m)] l λn o=>IZ 24 (e 18) n o λo p=>F6 (Jj (I1 (LG 40 i f j)) (I1 (Sr 9 g l h (KX 9 g f h)))) (D1 (sc ro K) e 18 o 75 (BL 74 n 73 m 72 k 71 j (FL 70 i 69 h 68 g 67 e 18 (BN 20 d 66 c 65 b 64 a))) ds p)) λ_ _=>False) K 0 e 64 a ds W:=by kernel_rfl
 dsimp at h;exact h
def iJ(ro:Option Nat)(K:AD):AD:=AU (λa b c=>BP a 79 λd=>D1 K a 79 d 111 [] b c) K
def vT:=by
 have h:=@iJ.eq_1;dsimp at h;exact h
def iK(ro:Option Nat)(K:AD):AD:=jz (λa b c=>Dj 56 a 22 c λd=>I9 24 1 [(0,d)] c λc f=>IZ 24 (a 18) c f λf g=>Ay (iJ ro K) a 18 f (CC 110 f 109 c 108 d 107 a 18) b g) 3 (iJ ro K)
def vU:=by
 have h:=@iK.eq_1;dsimp at h;exact h
def AFr(ro:Option Nat)(e:Env)(ds:List Deferred)(K:AD)(W:CW):=by
 have h:Ei ro 30 120 1 e ds W K=Lq e 79 e 78 λa=>I0 a (IY e 77 79 λb=>BH 56 b W λc=>DB 56 W λd f=>CL 56 d c f λf=>Dj 78 e 11 f λg=>BH 56 d f λh=>let a:=F5 84 h 83 g (BN 22 d 82 c 81 b 80 a);F7 62 g h f (λb c=>FX prog Bs ro 30 120 (.rangeFunc (.tmp 85) #[86,87] (rfA prog 30 0) (rfB prog 30 0)) (Env.of e (eC 85 b a)) ds c (CB 4 (iK ro K))) λb c=>Bh (iK ro K) b e a ds c) K 2 e 80 a ds W:=by kernel_rfl
 dsimp at h;exact h
theorem AFs(ro:Option Nat)(e:Env)(ds:List Deferred)(K:AD)(W:CW):E6 prog Bs ro 30 120 (rfA prog 30 0) e ds W K=(K .normal (Env.of e [(24,(e 87)),(23,(e 86))]) ds W):=by kernel_rfl
def X9(ro:Option Nat)(K:AD):AD:=jz (λa b c=>Qz a 97 (HT a 22 λd=>C4 d c λf=>Mg 40 f a 23 λg=>DQ g c λh=>Dj 24 a 6 c λi=>GR i c λj=>Db .add h j λk=>Mg 40 f a 23 λl=>CL 3 l k c λm=>HM (E8 (I1 (FN 24 i c j)) (IT 24 (DG a) c i) (yS 3 g c h 40 d f)) K a 106 l (BL 105 k 104 j 103 i 102 h (BN 101 g 100 (a 23) 99 f 98 d)) b m) K a b c) 5 K
def vV:=by
 have h:=@X9.eq_1;dsimp at h;exact h
def AFt(ro:Option Nat)(e:Env)(ds:List Deferred)(K:AD)(W:CW):=by
 have h:yP ro 30 120 (rfB prog 30 0) e ds W K=IU 5 (e 24) 2 λa=>let b:=D4 90 a 89 a 88 (e 24);wI a (HT e 22 λa=>C4 a W λc=>Mg 40 c e 23 λd=>DQ d W λf=>Eo f 0 λg=>Ay (X9 ro K) e 97 g (BQ 96 g 90 95 f (BQ 94 d 90 93 (e 23) (BQ 92 c 90 91 a b))) ds W) (Ay (X9 ro K) e 97 Az (J7 96 90 95 (DP 94 90 93 92 91 b)) ds W):=by kernel_rfl
 dsimp at h;exact h
theorem vW(Q:Ending→CW→Prop)(e:Env)(W:CW):AM prog Tryz.f30 Q .ret e [] W=Q (.returned (.tuple #[e 8,e 9,e 10])) W:=by kernel_rfl
def AJz{Q v0 v1 v2 v3 W}:=FM 30 120 [v0,v1,v2,v3] Tryz.f30 Q W Tryz.func30 (by kernel_rfl)
def AAU(ro:Option Nat)(K:AD):AD:=AU (λe ds W=>K .ret (Env.of e [(4,(.bool true))]) ds W) K
def AJ0(v0 v1:Value)(K:AD)(W:CW):=by
 have h:E9 24 71 v0 v1 W K=GR v0 W λa=>GR v1 W λb=>Oh a b λc=>let a:=BL 11 c 10 b 9 v1 8 a (G7 7 v0 4);HR c K (JN v0 v1) 4 Az a [] W (Iz 24 71 v0 v1 (eC 5 At a) W (AAU none K)):=by kernel_rfl
 dsimp at h;exact h
def po(ro:Option Nat)(K:AD):AD:=AU (λa b c=>BP a 5 λd=>Ay K a 5 d (Bo 17 d 16 a 5) b c) K
def AAV:=by
 have h:=@po.eq_1;dsimp at h;exact h
def iL(ro:Option Nat)(K:AD):AD:=Ek (λa b c=>GB ro 24 71 1 a (Ma 6 At) b c 2 (CB 1 (po ro K))) (po ro K)
def AAW:=by
 have h:=@iL.eq_1;dsimp at h;exact h
def pq(ro:Option Nat)(K:AD):AD:=AU (λe ds W=>wI (e 43) ((iL ro K) .ret (Env.of e [(4,(.bool false))]) ds W) ((iL ro K) .normal e ds W)) (iL ro K)
def AFu(ro:Option Nat)(e:Env)(ds:List Deferred)(K:AD)(W:CW):=by
 have h:CV ro 24 71 e ds W K=HN 24 e W λa=>C' e 5 a λb=>let a:=Ls 15 b 14 a 13 e 12 e 5;FQ b (IY e 0 5 λb=>Ej b 0 λc=>Ak c W λd=>IY e 1 5 λf=>Ej f 0 λg=>Ak g W λh=>NQ .neq 9 d h λi=>let a:=Bc 29 i 28 27 h 26 g (BL 25 f 24 (CM e) 23 (Ag e) 22 d (Bq 21 c 20 b 19 (CM e) 18 e a));Gr i (H' 9 g W h c d) (pq ro K) e 43 (IS 42 undef 29 (A7 41 29 40 39 38 (A7 37 29 36 35 34 (A7 33 29 32 31 30 a)))) ds W (IY e 0 5 λb=>Ej b 1 λf=>C4 f W λi=>Ft i W λj=>IY e 1 5 λk=>Ej k 1 λl=>C4 l W λm=>Ft m W λn=>Oh j n λo=>HM (fo (FN 40 m W n) 40 l W m (fo (FN 40 i W j) 40 f W i (H' 9 g W h c d))) (pq ro K) e 43 o (EA 42 o 29 41 n 40 m (BB 39 l 29 38 k (BB 37 (CM e) 29 36 (Ag e) (BB 35 j 29 34 i (BB 33 f 29 32 b (Lr 31 (CM e) 29 30 e a)))))) ds W)) K 0 e a ds W:=by kernel_rfl
 dsimp at h;exact h
def py(ro:Option Nat)(K:AD):AD:=AU (λa b c=>BP a 6 λd=>Ay K a 6 d (Bo 53 d 52 a 6) b c) K
def AAX:=by
 have h:=@py.eq_1;dsimp at h;exact h
def AFv(ro:Option Nat)(e:Env)(ds:List Deferred)(K:AD)(W:CW):=by
 have h:Ei ro 24 71 1 e ds W K=IY e 0 5 λa=>Ej a 1 λb=>C4 b W λc=>Ft c W λd=>C' e 6 d λf=>let a:=BL 51 f 50 d 49 c 48 b (Ls 47 a 46 (CM e) 45 e 44 e 6);FQ f (IY e 0 5 λb=>Ej b 1 λc=>C4 c W λd=>ET 40 d (DG e) λf=>DQ f W λg=>IY e 1 5 λh=>Ej h 1 λi=>C4 i W λj=>ET 40 j (DG e) λk=>DQ k W λl=>Oh g l λm=>let a:=eC 70 m (BL 69 l 68 k 67 (DG e) 66 j (FL 65 i 64 h 63 (CM e) 62 e 1 (BL 61 g 60 f 59 (DG e) 58 d (Bq 57 c 56 b 55 (CM e) 54 e a))));F6 (QZ 3 k W l 40 i j (Ss 3 f W g 40 c d)) (HR m (py ro K) e 4 Az a ds W (K4 (py ro K) e a ds W))) K 2 e a ds W:=by kernel_rfl
 dsimp at h;exact h
theorem vX(Q:Ending→CW→Prop)(e:Env)(W:CW):AM prog Tryz.f24 Q .ret e [] W=Q (.returned (e 4)) W:=by kernel_rfl
def AJ1{Q v0 v1 W}:=FM 24 71 [v0,v1] Tryz.f24 Q W Tryz.func24 (by kernel_rfl)
def AJ2(v0:Value)(K:AD)(W:CW):=by
 have h:GQ 79 8 v0 W K=ZB .eql 40 true v0 (.slice none 0 0) λa=>let b:=cX 4 a 3 v0 2 none 0 0 [];HR a K (CQ v0) 2 (.slice none 0 0) b [] W (I9 40 0 [] W λa c=>IZ 40 a v0 c λc d=>GS K (CQ v0) (Bc 2 c 7 6 v0 5 a b) d):=by kernel_rfl
 dsimp at h;exact h
theorem eT(Q:Ending→CW→Prop)(e:Env)(W:CW):AM prog Tryz.f79 Q .ret e [] W=Q (.returned (e 2)) W:=by kernel_rfl
def AJ3{Q v0 W}:=FM 79 8 [v0] Tryz.f79 Q W Tryz.func79 (by kernel_rfl)
theorem AFw{A:CW}(hA:Ai A){v1:Value}{h:List CD}(hh:Ab 2 (G2 A) v1 h){i:Nat}{x:CD}(hx:h[i]?=some x):∃a vx,UK prog 24 v1 (.int .i64 i)=some (.pointer (some a))∧(∀W,Kp A W→ld prog 56 (.pointer (some a)) W=some (.agg #[.string x.type,vx]))∧Ab 1 (F9 A) vx x.AO:=by
 obtain⟨ah,ch,rfl,hhc⟩:=id hh;obtain⟨p,rfl,hp⟩:=hhc i _ hx;obtain⟨v,h1,h2⟩:=hp.AO;refine⟨_,v,AY M' IH (dx.1 hx).1,λW k=>?_,h2⟩;refine DC (vs:=[.string x.type,v]) (a:=⟨p.block,p.off+i*2,none⟩) bG IH rfl (by omega) λj w hj=>?_
 match j,hj with
 |0,hj=>cases hj;exact k.cell hA hp.type
 |1,hj=>cases hj;exact k.cell hA h1
theorem AFx{A:CW}(hA:Ai A){vx:Value}{l:List Int}(hh:Ab 1 (F9 A) vx l){i:Nat}{x:Int}(hx:l[i]?=some x):∃a,UK prog 40 vx (.int .i64 i)=some (.pointer (some a))∧∀W,Kp A W→ld prog 3 (.pointer (some a)) W=some (.int .i64 x):=by
 obtain⟨ah,ch,rfl,hhc⟩:=id hh;obtain⟨p,rfl,hp⟩:=hhc i _ hx;exact⟨_,AY J9 s3 (dx.1 hx).1,λW k=>AH a3 (a:=⟨p.block,p.off+i*1,none⟩) (k.cell hA hp.1)⟩
section
variable {c:List Aq}{A B:List CD}{f:Int→Int}{S:Int→Prop}
end
section
variable {A:CW}{Ge bK Wz b16 b17 bl rl bm rm r1 r2:Nat}{vl vm v1 v3:Value}{c:List Aq}{h k:List CD}{O M:List Int}
end
theorem Marks.more{B:Nat}{W W':CW}{ds:List Deferred}{r:Nat}(ht:Ai W)(h:Marks B W ds)(ho:∀j,W.obj j=some .deferred→B≤j→W'.obj j=some .deferred)(hr:W'.obj r=some .deferred)(hB:B≤r)(hl:W.sz≤r):Marks B W' (mark r::ds):=by
 refine Marks.push (h.Dk ho) hr hB λhm=>?_;obtain⟨rs,mj,_,JY⟩:=h;rw[mj]at hm;obtain⟨r',MU,P2⟩:=aaM.1 hm;have:=lQ P2;subst this;have:=ht _ _ (JY _ MU).1;omega
section
variable {A:CW}{Ge bK Wz b16 b17 bl rl bm rm r1 r2:Nat}{vl vm v1 v3:Value}{c:List Aq}{h k:List CD}{O M:List Int}
end
section
variable {A:CW}{Ge bK Wz b16 b17 bl rl bm rm r1 r2:Nat}{vl vm v1 v3:Value}{c:List Aq}{h k:List CD}{O M:List Int}
end
def Io(c:List Aq)(n:Nat)(y:CD):CD:=match A3 c y.type with
 |some ix=>⟨y.type,y.AO.mapIdx λk v=>if BR c ix k=2∧0<v then v+(n:Int)else v⟩
 |none=>y
def KN(c:List Aq)(h ys:List CD):List CD:=h++ys.map (Io c h.length)
def WZ(h:List CD)(r:Int):Int:=if 0<r then r+(h.length:Int)else r
theorem Tt(c:List Aq)(h ys:List CD):(KN c h ys).length=h.length+ys.length:=by unfold KN;rw[aas,aaq]
theorem pz{c:List Aq}{x:CD}{n m:Nat}(h:BC c x n=true)(hn:n≤m):BC c x m=true:=by
 obtain⟨i,s,X⟩:=LP h;refine TL (i:=i) (s:=s) ⟨X.ti,X.si,X.many,λk v hv=>?_⟩;have:=X.val k v hv;unfold DN at this ⊢;simp only[aaK,aaF,Bool.and_eq_false_iff,decide_eq_false_iff_not]at this ⊢;refine⟨this.1,?_⟩
 rcases this.2 with q|q
 ·exact .inl q
 ·exact .inr ⟨q.1,by omega⟩
theorem p9{c:List Aq}(Al:Bk c=true){n:Nat}{y:CD}{m:Nat}(h:BC c y m=true):BC c (Io c n y) (n+m)=true:=by
 obtain⟨i,s,Y⟩:=LP h;unfold Io;rw[Y.ti];refine TL (i:=i) (s:=s) ⟨Y.ti,Y.si,by rw[List.length_mapIdx];exact Y.many,λk w hw=>?_⟩;rw[acw,aat]at hw;obtain⟨v,hv,rfl⟩:=hw;have hq:=O6 Al Y hv;unfold DN
 rcases hq with⟨hk,q1,q2⟩|⟨hk,q1,q2⟩
 ·rw[hk]
  by_cases h0:0<v
  ·rw[aae ⟨rfl,h0⟩];simp;omega
  ·rw[aad (λh=>h0 h.2)];simp;omega
 ·rw[aad (by rw[hk];simp),hk];simp;omega
theorem sd{c:List Aq}{h ys:List CD}(Al:Bk c=true)(RZ:∀x,x∈h→BC c x h.length=true)(Wy:∀x,x∈ys→BC c x ys.length=true):∀x,x∈KN c h ys→BC c x (KN c h ys).length=true:=by
 intro x hx;rw[Tt];unfold KN at hx
 rcases aaB.1 hx with hx|hx
 ·exact pz (RZ x hx) (by omega)
 ·obtain⟨y,hy,rfl⟩:=aaM.1 hx;exact p9 Al (Wy y hy)
theorem AFy(n m:Nat):DL prog .eql 40 true (.slice none n m) (.slice none 0 0)=some (.bool true):=by kernel_rfl
theorem AFz(a:Addr)(n m:Nat):DL prog .eql 40 true (.slice (some a) n m) (.slice none 0 0)=some (.bool false):=by kernel_rfl
theorem AF0(W:CW):tk prog 40 0 [] W=some (.slice (some ⟨W.sz,0,none⟩) 0 0,W.new (.cells (Tr.nil.AW 0 []) 0 #[] 3)):=by kernel_rfl
theorem ACC:II prog 40=true:=by kernel_rfl
theorem ACD{W:CW}{a:Option Addr}{n cap:Nat}{l:List Int}(h:Ab 1 (F9 W) (.slice a n cap) l):n=l.length∧(0<n→∃p,a=some p∧Cells W p.block p.off (DA l)):=by
 obtain⟨a',cap',he,hx⟩:=h
 cases he
 refine⟨rfl,λhn=>?_⟩;obtain⟨p,rfl,_⟩:=hx 0 l[0] (ck hn);refine⟨p,rfl,λj v hj=>?_⟩;unfold DA at hj;rw[aaz,aat]at hj;obtain⟨x,hj,rfl⟩:=hj;obtain⟨p',e,h1⟩:=hx j x hj
 cases e
 have:W.cell p.block (p.off+j*1)=_:=h1.1;rw[abR]at this;exact this
theorem AAY(l:List Int):(DA l).all BJ=true:=by
 unfold DA;rw[List.all_map,aax];intro x _;rfl
theorem AF1{W:CW}{el n:Nat}{v:Value}{cs:List Value}(h:Bu W el n v cs):∃a m k,v=.slice a m k:=by cases h<;>exact⟨_,_,_,rfl⟩
theorem p_{W:CW}{v0:Value}{l:List Int}(ht:Ai W)(h:Ab 1 (F9 W) v0 l)(hl:l.length≤100000):Ac prog Bs 79 [v0] W (λen W'=>Kp W W'∧Ai W'∧∃a n m,en=.returned (.slice a n m)∧Bu W' 3 1 (.slice a n m) (DA l)∧Aw W.sz (.slice a n m)):=by
 refine AJ3 ?_;rw[AJ2];obtain⟨a,cap,rfl,hx⟩:=id h
 cases a with
 | none=>
  refine Ap (AFy _ _) ?_;simp only[Af];rw[eT]
  have:l=[]:=by
   cases l with
   |nil=>rfl
   |cons x l=>obtain⟨p,e,_⟩:=hx 0 x rfl;cases e
  subst this;exact⟨.refl _,ht,_,_,_,rfl,Bu.nil,Aw.nil _ _ _⟩
 | some a=>
  refine Ap (AFz _ _ _) ?_;simp only[AT];refine F8 (AF0 W) ?_;have kn:Kp W (W.new (.cells (Tr.nil.AW 0 []) 0 #[] 3)):=.new _;have tn:=ht.new (.cells (Tr.nil.AW 0 []) 0 #[] 3);have hBn:A0 (W.new (.cells (Tr.nil.AW 0 []) 0 #[] 3)) W.sz 3 []:=⟨_,0,_,by rw[Bd,aae rfl],rfl,λk v hk=>by simp at hk⟩
  have lT:Bu (W.new (.cells (Tr.nil.AW 0 []) 0 #[] 3)) 3 1 (.slice (some ⟨W.sz,0,none⟩) 0 0) (DA []):=Bu.some hBn rfl;have mu:(W.new (.cells (Tr.nil.AW 0 []) 0 #[] 3)).sz=W.sz+1:=rfl;generalize W.new (.cells (Tr.nil.AW 0 []) 0 #[] 3)=Wn at kn tn lT mu;obtain⟨_,U9⟩:=ACD (h.imp λ_ _ _ hr=>hr.kp ht kn);refine Xt (news:=DA l) J9 ACC s3 z3 rfl (by omega) by3 (by omega) tn lT U9 (AAY _) (by rw[Ij];omega) (by rw[Ij];simp only[abI];omega) λva W6 hp6 t6 o6 n6=>?_;have k6:Kp W W6:=hp6.kp kn (λb l c e=>by cases e;exact aag _);rw[eT];have o6:Bu W6 3 1 va (DA l):=o6;obtain⟨a',n',m',rfl⟩:=AF1 o6;refine⟨k6,t6,_,_,_,rfl,o6,λb l c e=>?_⟩
  rcases n6 b.block ⟨b,l,c,e,rfl⟩with⟨b',l',c',e1,e2⟩|h1
  ·cases e1
   have e2:W.sz=b.block:=e2;omega
  ·omega
theorem Wb{W:CW}{va vb:Value}{xs:List CD}(ha:Ab 2 (G2 W) va xs)(hb:Ab 2 (G2 W) vb xs)(hl:xs.length≤100000)(hv:∀x,x∈xs→x.AO.length≤100000):Ac prog Bs 24 [va,vb] W (λen W'=>en=.returned (.bool true)∧W'=W):=by
 refine AJ1 ?_;rw[AJ0];generalize FI:AM prog Tryz.f24 (λen W'=>en=.returned (.bool true)∧W'=W)=KK;rw[Vn M' ha];simp only[AA];rw[Vn M' hb];simp only[AA,BX,bne_self_eq_false,AT];refine C2 (λi e' EK W'=>EK=[]∧W'=W∧e' 0=va∧e' 1=vb∧e' 5=.int .i64 i) xs.length ⟨rfl,rfl,rfl,rfl,rfl⟩ ?_;rintro i e ds W' hi ⟨rfl,rfl,h0,h1,h5⟩;rw[AFu,h0,h1,h5,Vn M' ha];simp only[AA,AP];refine Eh (λAd=>?_) (λGZ=>?_)
 rotate_left
 ·have:i=xs.length:=by omega
  subst this;simp only[Er,Jp,aar,AAU,Aj];rw[←FI,vX];exact⟨by simp only[AG,↓reduceIte],rfl⟩
 have hx:=ck Ad;generalize xs[i]=x at hx;have hxv:=hv x (aan hx);obtain⟨qa,p0,p1,vv,a1,a2,a3',a4',a5',a6'⟩:=mC ha hx;obtain⟨qb,q0,q1,vw,b1,b2,b3,b4,b5,b6⟩:=mC hb hx;simp only[a1,a2,a3',a4',a5',b1,b2,b3,b4,b5,AA,K6,G1,decide_true,aav,AT];rw[Vn J9 a6'];simp only[AA];rw[Vn J9 b6];simp only[AA,BX,bne_self_eq_false];refine⟨by simp only[and_self],?_⟩;simp only[pq,Aj];simp only[AG,↓reduceIte,AT];simp only[AAW,Aj];refine⟨trivial,?_⟩
 refine C2 (λk e' EK W2=>EK=[]∧W2=W'∧e' 0=va∧e' 1=vb∧e' 5=.int .i64 i∧e' 6=.int .i64 k) x.AO.length ?_ ?_
 ·exact⟨rfl,rfl,by simp only[AG,AJ,Nat.reduceEqDiff,↓reduceIte,h0],by simp only[AG,AJ,Nat.reduceEqDiff,↓reduceIte,h1],by simp only[AG,AJ,Nat.reduceEqDiff,↓reduceIte,h5],(by simp only[AG,↓reduceIte];rfl)⟩
 rintro k e2 ds W2 hk ⟨rfl,rfl,g0,g1,g5,g6⟩;rw[AFv,g0,g1,g5,g6];simp only[a1,a3',a5',AA];rw[Vn J9 a6'];simp only[AA,AP];refine Eh (λYu=>?_) (λABe=>?_)
 rotate_left
 ·have:k=x.AO.length:=by omega
  subst this;simp only[Er,wy,Jp,aar,AAV,Aj];simp only[AG,AJ,Nat.reduceEqDiff,↓reduceIte,g5,AK,AA];rw[CE (by omega)];exact⟨Ad,rfl,rfl,by simp only[AG,AJ,Nat.reduceEqDiff,↓reduceIte,g0],by simp only[AG,AJ,Nat.reduceEqDiff,↓reduceIte,g1],by simp only[AG,↓reduceIte]⟩
 have hy:=ck Yu;obtain⟨ra,c1,c2⟩:=mD a6' hy;obtain⟨rb,d1,d2⟩:=mD b6 hy;simp only[b1,b3,b5,c1,c2,d1,d2,AA,BX,bne_self_eq_false,AT];refine⟨by simp only[and_self],trivial,?_⟩;simp only[AAX,Aj,FH];simp only[AG,AJ,Nat.reduceEqDiff,↓reduceIte,g6,AK,AA];rw[CE (by omega)];exact⟨Yu,trivial,trivial,by simp only[g0],by simp only[g1],by simp only[g5],by simp only[AG]⟩
def Vo(c:List Aq)(ix n k:Nat)(v:Int):Int:=if BR c ix k=2∧0<v then v+(n:Int)else v
def Tu(c:List Aq)(ix n:Nat)(vs:List Int)(k:Nat):List Int:=vs.mapIdx λj v=>if j<k then Vo c ix n j v else v
theorem Tv(c:List Aq)(ix n:Nat)(vs:List Int)(k:Nat):(Tu c ix n vs k).length=vs.length:=by unfold Tu;rw[List.length_mapIdx]
theorem M0(c:List Aq)(ix n:Nat)(vs:List Int)(k j:Nat):(Tu c ix n vs k)[j]?=(vs[j]?).map λv=>if j<k then Vo c ix n j v else v:=by unfold Tu;rw[acw]
theorem vY(c:List Aq)(ix n:Nat)(vs:List Int):Tu c ix n vs 0=vs:=by
 apply aaN;intro j;rw[M0]
 cases vs[j]? <;>simp
theorem AAZ(c:List Aq)(ix n:Nat)(vs:List Int):Tu c ix n vs vs.length=vs.mapIdx λk v=>if BR c ix k=2∧0<v then v+(n:Int)else v:=by
 apply aaN;intro j;rw[M0,acw]
 cases hv:vs[j]? with
 |none=>rfl
 |some v=>
  have:=(dx.1 hv).1;simp only[aba,aae this,Vo]
theorem eU{c:List Aq}{ix n:Nat}{vs:List Int}{k:Nat}{v:Int}(hv:vs[k]?=some v):Tu c ix n vs (k+1)=(Tu c ix n vs k).set k (Vo c ix n k v):=by
 apply aaN;intro j;have hk:=(dx.1 hv).1;rw[abw,M0,M0,Tv]
 by_cases e:k=j
 ·subst e;rw[aae rfl,aae hk,hv,aba,aae (by omega)]
 ·rw[aad e]
  cases vs[j]? with
  |none=>rfl
  |some w=>
   simp only[aba];congr 1
   by_cases hj:j<k
   ·rw[aae hj,aae (by omega)]
   ·rw[aad hj,aad (by omega)]
theorem vZ{c:List Aq}{ix n:Nat}{vs:List Int}{k:Nat}{v:Int}(hv:vs[k]?=some v)(h:Vo c ix n k v=v):Tu c ix n vs (k+1)=Tu c ix n vs k:=by
 rw[eU hv,h];apply aaN;intro j;have hk:=(dx.1 hv).1;rw[abw,Tv]
 split
 ·rename_i e;subst e;rw[M0,hv];simp[hk]
 ·rfl
theorem AF2(s:ByteArray)(a:Option Addr)(n m:Nat):wu prog 56 [(0,.string s),(1,.slice a n m)]=some (.agg [.string s,.slice a n m].toArray):=by kernel_rfl
theorem aN(s:ByteArray)(a:Option Addr)(n m:Nat)(W:CW):tk prog 24 1 [(0,.agg [.string s,.slice a n m].toArray)] W=some (.slice (some ⟨W.sz,0,none⟩) 1 1,W.new (.cells (Tr.nil.AW 0 [.string s,.slice a n m]) [Value.string s,.slice a n m].length #[] 56)):=by kernel_rfl
structure FO(B:Nat)(W:CW)(v:Value)(ps:List (CD×Value)):Prop where
 own:Bu W 56 2 v (ps.flatMap DV)
 new:Aw B v
 pv:∀p,p∈ps→Bu W 3 1 p.2 (DA p.1.AO)
theorem X'{W:CW}{v:Value}{l:List Int}(h:Bu W 3 1 v (DA l))(hb:∀x,x∈l→-9223372036854775808≤x∧x≤9223372036854775807):Ab 1 (F9 W) v l:=F9.of (O1 (f:=λk:Int=>Value.int .i64 k) h) hb
theorem ACE{B:Nat}{W:CW}{v:Value}{ps:List (CD×Value)}(h:FO B W v ps)(hb:∀p,p∈ps→hM p.1):Ab 2 (G2 W) v (ps.map (·.1)):=by
 have hl:=DE ps;have hpv:=h.pv;obtain⟨hO,_,_⟩:=h;generalize UZ:ps.flatMap DV=cs at hO hl
 cases hO with
 |nil=>
  have:ps=[]:=aaG.1 (by simp at hl;omega);subst this;exact⟨none,0,rfl,λi x hx=>by cases hx⟩
 | @some b0 len _ hB MV=>
  have Wk:len=ps.length:=by omega
  refine⟨some ⟨b0,0,none⟩,len,by rw[aaq,Wk],λi x hx=>⟨_,rfl,?_⟩⟩;rw[aaz,aat]at hx;obtain⟨p,hp,rfl⟩:=hx;have pX:=aan hp
  have hg:∀j,j<2→cs[i*2+j]?=(DV p)[j]?:=λj hj=>by
   rw[←UZ,Im,show(i*2+j)/2=i by omega,show(i*2+j)%2=j by omega,hp];rfl
  refine⟨?_,p.2,?_,X' (hpv p pX) (hb p pX)⟩
  ·show W.cell b0 (0+i*2)=_;rw[aaL];exact hB.cell (hg 0 (by omega))
  ·show W.cell b0 (0+i*2+1)=_;rw[aaL];exact hB.cell (hg 1 (by omega))
theorem Np{W:CW}{el el' n n':Nat}{v v':Value}{cs iW:List Value}(h:Bu W el n v cs)(h':Bu W el' n' v' iW)(he:el≠el'):∀i,FA v i→¬FA v' i:=λi h1 h2=>he (BE (CR h h1) (CR h' h2))
structure IE(e:Env)(b6 bK:Nat)(v:Value)(r:Int):Prop where
 e6:e 6=.pointer (some ⟨b6,0,none⟩)
 lI:e 11=.pointer (some ⟨bK,0,none⟩)
 e15:e 15=v
 e16:e 16=.int .i64 r
theorem vd{A:CW}{K:AD}{e:Env}{v2 v:Value}{h:List CD}{b6 bK:Nat}{r:Int}(tA:Ai A)(hh:Ab 2 (G2 A) v2 h)(hl:h.length≤1000)(hv:∀x,x∈h→x.AO.length≤100000)(E:IE e b6 bK v r)(h61:e 61=v2)(h62:e 62=.int .i64 h.length)(h63:e 63=.int .i64 0)(h18:e 18=.slice none 0 0)
  (Ef:∀e' W' vo ps,Kp A W'→Ai W'→IE e' b6 bK v r→e' 18=vo→FO A.sz W' vo ps→(∀p,p∈ps→Aw A.sz p.2)→ps.map (·.1)=h→K (.exit 0) e' [] W') :
  FX prog Bs none 30 120 (.loop (D6 prog 30 0)) e [] A K:=by
 refine C2 (λi e' EK W'=>EK=[]∧Kp A W'∧Ai W'∧IE e' b6 bK v r∧e' 61=v2∧e' 62=.int .i64 h.length∧e' 63=.int .i64 i∧∃vo ps,e' 18=vo∧FO A.sz W' vo ps∧(∀p,p∈ps→Aw A.sz p.2)∧ps.map (·.1)=h.take i) h.length ⟨rfl,.refl _,tA,E,h61,h62,h63,_,[],h18,⟨Bu.nil,Aw.nil _ _ _,λp hp=>(by cases hp)⟩,λp hp=>(by cases hp),rfl⟩ ?_;rintro i e ds W hi ⟨rfl,kA,ht,E,h61,h62,h63,vo,ps,h18,hO,SV,Zp⟩;rw[AFq,h61,h62,h63,h18];simp only[AA,AP];refine Eh (λAd=>?_) (λGZ=>?_)
 rotate_left
 ·have:i=h.length:=by omega
  subst this;simp only[Jp];exact Ef _ W vo ps kA ht ⟨by simp only[AG,AJ,Nat.reduceEqDiff,↓reduceIte,E.e6],by simp only[AG,AJ,Nat.reduceEqDiff,↓reduceIte,E.lI],by simp only[AG,AJ,Nat.reduceEqDiff,↓reduceIte,E.e15],by simp only[AG,AJ,Nat.reduceEqDiff,↓reduceIte,E.e16]⟩ (by simp only[AG,AJ,Nat.reduceEqDiff,↓reduceIte,h18]) hO SV (by rw[Zp,aa_])
 have hx:=ck Ad;generalize hxe:h[i]=x at hx;have hxv:=hv x (aan hx);obtain⟨ad,vx,a1,a2,a3'⟩:=AFw tA hh hx;obtain⟨ax,cx,rfl,_⟩:=id a3';rw[a1];simp only[AA,a2 W kA];refine EH (ws:=[.string x.type,.slice ax x.AO.length cx]) m0 IH rfl rfl rfl ht λW2 k2 t2 z2 AFE=>?_;have WX:=kA.trans k2;have l9:∀W',Kp W2 W'→ld prog 9 (.pointer (some ⟨W.sz,0,none⟩)) W'=some (.string x.type):=λW' kk=>AH a9 (a:=⟨W.sz,0,none⟩) (kk.cell t2 (AFE.cell rfl));have l40:ld prog 40 (.pointer (some ⟨W.sz,0+1,none⟩)) W2=some (.slice ax x.AO.length cx):=AH Ww (a:=⟨W.sz,0+1,none⟩) (AFE.cell rfl);simp only[G3,EF,AA,l9 W2 (.refl _),l40];refine(p_ t2 (a3'.imp λ_ _ _ hr=>hr.kp tA WX) hxv).mono λen W3 ⟨k3,t3,ac,nc,mc,Hx,hoc,hnc⟩=>?_;subst Hx;refine AL ?_;have w_:=WX.trans k3;have im:=k2.trans k3;have Hp:=DE ps
 have Wk:ps.length=i:=by
  have:=ab3 List.length Zp;rw[aaq,aaE]at this;omega
 simp only[AF2,AA];have lN:=hO.own.kp ht im;refine Ig M' IH m0 rfl (by omega) pV (by omega) (aN _ _ _ _) rfl rfl t3 lN (by rw[Hp];omega) λu Wa v1 W4 ka ta IF t4 o4 n4=>?_;refine⟨by simp only[l9 W2 (.refl _),l9 W3 k3,and_self],trivial,?_⟩;simp only[vS,Aj,FH];simp only[AG,AJ,Nat.reduceEqDiff,↓reduceIte,h63,AK,AA];rw[CE (by omega)];have kA4:Kp A W4:=IF.kp w_ hO.new;have z3:=w_.sz;have zA2:=WX.sz
 refine⟨Ad,trivial,kA4,t4,⟨by simp only[AG,AJ,Nat.reduceEqDiff,↓reduceIte,E.e6],by simp only[AG,AJ,Nat.reduceEqDiff,↓reduceIte,E.lI],by simp only[AG,AJ,Nat.reduceEqDiff,↓reduceIte,E.e15],by simp only[AG,AJ,Nat.reduceEqDiff,↓reduceIte,E.e16]⟩,by simp only[h61],by simp only[h62],by simp only[AG],v1,ps++[(x,.slice ac nc mc)],by simp only[AG],⟨?_,n4 _ z3,λp hp=>?_⟩,λp hp=>?_,?_⟩
 ·rw[abd]
  simpa[DV]using o4
 ·rcases aaB.1 hp with hp|hp
  ·exact IF.Dk.own t3 ((hO.pv p hp).kp ht im) (Np ((hO.pv p hp).kp ht im) lN (by decide))
  ·cases dy.1 hp
   exact IF.Dk.own t3 hoc (Np hoc lN (by decide))
 ·rcases aaB.1 hp with hp|hp
  ·exact SV p hp
  ·cases dy.1 hp
   exactλb l c e=>by have:=hnc b l c e;omega
 ·rw[aaI,Zp,aaP,hx];rfl
def kyE:List Nat:=[0,1,2,10,11,12,13,14,16,17,18,19,20]
def RbX(rb bx j:Nat):Prop:=j=rb∨j=bx
def VlS(A Ws:CW)(rb bx:Nat)(vb:Value)(ty:ByteArray)(b:List UInt8)(c:List Aq)(ix many n m9 m_:Nat)(e0:Env)(k:Nat)(e:Env)(ds:List Deferred)(W':CW):Prop :=
 ds=[]∧A9 kyE e0 e∧e 21=.int .i64 k∧∃(BY fd:Nat) (vs:List Int) (vv:Value),e 15=.int .i64 fd∧RR A W' rb vb BY false∧BY≤b.length∧fd≤1000∧vs.length=k∧Bw (RbX rb bx) Ws W'∧A0 W' bx 56 [.string ty,vv]∧Bu W' 3 1 vv (DA vs)∧Aw Ws.sz vv∧DR b c ix many n 0 m9 m_ []=DR b c ix many (n-k) k BY fd vs
theorem AAa{A Ws:CW}{rb bx:Nat}{vb v0:Value}{ty:ByteArray}{b:List UInt8}{c:List Aq}{ix many n m9 m_:Nat}{e0:Env}{K:AD}(I:QG A vb b)(hc:Ab 5 (EI A) v0 c)(hC:QD c)(N5:ix<c.length)(nQ:∀k,k<n→c[ix].elem=0→k<(AX c ix).length)(hn:n≤30000)(lP:many≤1000)
  (h:RR A Ws rb vb m9 false) (No:m9≤b.length) (tO:m_≤1000) (hB:A0 Ws bx 56 [.string ty,.slice none 0 0]) (hbx:A.sz≤bx)
  (g0:e0 0=v0) (bJ:e0 10=.pointer (some ⟨rb,0,none⟩)) (pY:e0 12=.int .i64 many) (g15:e0 15=.int .i64 m_) (g18:e0 18=.int .i64 ix) (g19:e0 19=.int .i64 n) (g20:e0 20=.pointer (some ⟨bx,0,none⟩)) (g21:e0 21=.int .i64 0)
  (Al:∀e' W' BY (Fl:Nat) vs vv,A9 kyE e0 e'→e' 15=.int .i64 Fl→RR A W' rb vb BY false→BY≤b.length→Fl≤1000→Bw (RbX rb bx) Ws W'→A0 W' bx 56 [.string ty,vv]→Bu W' 3 1 vv (DA vs)→Aw Ws.sz vv→vs.length=n→DR b c ix many n 0 m9 m_ []=.ok (vs,Fl,BY)→K (.exit 2) e' [] W')
  (D8:∀e' W',e' 6=.slice none 0 0→e' 7=.int .i64 0→e' 8=.int .i64 4→Kp A W'→Ai W'→(∃x,DR b c ix many n 0 m9 m_ []=.error x)→K .ret e' [] W') :
  FX prog Bs none 29 214 (.loop (D6 prog 29 1)) e0 [] Ws K:=by
 have D3:rb≠bx:=λe=>by subst e;have:=BE h.Fk hB;cases this
 refine C2 (VlS A Ws rb bx vb ty b c ix many n m9 m_ e0) n ⟨rfl,.refl _ _,g21,m9,m_,[],.slice none 0 0,g15,h,No,tO,rfl,.refl _ _,hB,Bu.nil,Aw.nil _ _ _,rfl⟩ ?_;rintro k e ds W1 hk ⟨rfl,R0,h21,BY,fd,vs,vv,X5,hr,gv,lR,eK,Jt,sQ,hO,hN,hG⟩;have q:=λt (ht:t∈kyE)=>R0 t ht;rw[ADs,h21,q 0 (by decide),q 10 (by decide),q 12 (by decide),q 18 (by decide),q 19 (by decide),X5,g0,bJ,pY,g18,g19];simp only[AP,AA];refine Eh (λAd=>?_) (λGZ=>?_)
 rotate_left
 ·have:k=n:=by omega
  subst this;simp only[Jp];rw[abn]at hG;exact Al _ W1 BY fd vs vv (R0.trans (.put rfl)) (by simp only[AG,AJ,Nat.reduceEqDiff,↓reduceIte,X5]) hr gv lR Jt sQ hO hN eK hG
 obtain⟨f,hf⟩:∃f,n-k=f+1:=⟨n-k-1,by omega⟩
 rw[hf]at hG
 have LC:DR b c ix many (f+1) k BY fd vs=if BR c ix k=2 then
   (match ED b BY ((min (fd+1) many:Nat):Int)with
   | .error e=>.error e
   | .ok (n,a)=>DR b c ix many f (k+1) a (max fd n) (vs++[(n:Int)]))
  else
   (match ED b BY 2000000000 with
   | .error e=>.error e
   | .ok (n,a)=>DR b c ix many f (k+1) a fd (vs++[J_ n])):=rfl
 rw[LC]at hG
 have bad:∀e' W',e' 6=.slice none 0 0→e' 7=.int .i64 0→e' 8=.int .i64 4→Kp A W'→Ai W'→(∃x,DR b c ix many n 0 m9 m_ []=.error x)→G4 (VlS A Ws rb bx vb ty b c ix many n m9 m_ e0) k n K .ret e' [] W':=by
  intro e' W' a1 a2 a3 a4 a5 a6;rw[Ng];exact D8 e' W' a1 a2 a3 a4 a5 a6
 refine(Mv I hr gv).mono λen W2 ⟨c2,hp⟩=>?_;have Yo:Bw (RbX rb bx) Ws W2:=Jt.then c2 λj _ hj=>.inl hj
 cases Nx:EC b 6 BY 0 0 with
 |error x=>
  rw[Nx]at hp;obtain⟨m,a2,rfl,Wt,r2⟩:=hp;refine AL ?_;simp only[By,CF,AA,r2.ik,Af,PT,GL];refine bad _ W2 (by simp only[AG,Nat.reduceEqDiff,↓reduceIte]) (by simp only[AG,Nat.reduceEqDiff,↓reduceIte]) (by simp only[AG,↓reduceIte]) r2.kp r2.top ⟨4,?_⟩;rw[hG];split<;>rw[Gu Nx]
 | ok r=>
  obtain⟨m,a2⟩:=r;rw[Nx]at hp;obtain⟨rfl,r2⟩:=hp;have AMW:=Zz Nx;obtain⟨_,Wt⟩:=L5 Nx
  have gq:Bu W2 3 1 vv (DA vs):=c2.own hr.top hO λj hj e=>by
   have e:j=rb:=e;subst e;have:=BE (CR hO hj) hr.Fk;cases this
  have AMX:A0 W2 bx 56 [.string ty,vv]:=c2.Fk hr.top (λe=>D3 e.symm) sQ;refine AL ?_;simp only[By,CF,AA,r2.ik,AT];refine JA (gO r2.top (hc.imp λ_ _ _ JY=>JY.kp I.top r2.kp) hC.len hC.fields N5 (nQ k Ad)) λW3 k3 t3=>?_;have r3:=r2.X4 k3 t3;have eI:Bw (RbX rb bx) Ws W3:=Yo.then (Bw.HY k3) λ_ _ h=>h;have lN:=gq.kp r2.top k3;have ux:=AMX.ext r2.top k3
  have push:∀(e1:Env) (Fl:Nat) (w:Int),A9 kyE e0 e1→e1 15=.int .i64 Fl→e1 21=.int .i64 k→e1 22=.int .i64 w→Fl≤1000→DR b c ix many n 0 m9 m_ []=DR b c ix many f (k+1) a2 Fl (vs++[w])→(KZ none (G4 (VlS A Ws rb bx vb ty b c ix many n m9 m_ e0) k n K)) .normal e1 [] W3:=by
   intro e1 Fl w SX q15 q21 q22 AMY hG1;simp only[Ux,Aj];rw[SX 20 (by decide),g20,q22];simp only[EF,AA];rw[AH Ww (a:=⟨bx,0+1,none⟩) (ux.cell rfl)];simp only[AA];refine Ig J9 s3 z3 rfl (by omega) by3 (by omega) (r_ _) rfl rfl t3 lN (by rw[Ij];omega) λu Wa V7 W7 ka ta IF t7 o7 n7=>?_;have hnx:=Zb lN ux (by decide);have hnr:=Zb lN r3.Fk (by decide);have h8:=IF.Fk t3 ux hnx
   have r7:RR A W7 rb vb a2 false:=r3.Dk IF.Dk t7 (λj hj=>by
    obtain⟨b',l',c',e1,e2⟩:=hj;have:=hN b' l' c' e1;have:=h.kp.sz
    omega) λhj=>by
    obtain⟨b',l',c',e1,e2⟩:=hj;exact hnr _ _ _ e1 e2
   refine Ar s40 (a:=⟨bx,0+1,none⟩) (Za o7) h8 (by simp) λW8 hu N2=>?_;have hu:Ep bx W7 W8:=hu;have N2:A0 W8 bx 56 [.string ty,V7]:=by simpa[putAt]using N2
   have t8:=t7.Ba (h8.lt t7) hu;have r8:RR A W8 rb vb a2 false:=r7.Dk hu.Dk t8 (λj hj=>by have hj:j=bx:=hj;omega) λhj=>D3 hj
   have o8:Bu W8 3 1 V7 (DA vs++[.int .i64 w]):=N6 o7 λj hj=>hu.obj j λe=>by
    subst e;have:=BE (CR o7 hj) h8
    cases this
   have AMZ:Bw (RbX rb bx) Ws W8:=(eI.then IF.Dk λj hj hi=>by have:=hN.in hi;omega).then hu.Dk λj _ hj=>.inr hj;have KB:Ws.sz≤W3.sz:=eI.sz;simp only[PT,Aj,FH];simp only[AG,AJ,Nat.reduceEqDiff,↓reduceIte,q21,AK,AA];refine⟨Ad,rfl,(SX.trans (.put rfl)).trans (.put rfl),by rw[←CE (by omega)];first|rfl|(simp only[AG,AJ,Lc,Nat.reduceEqDiff,↓reduceIte,Nb,bF,Kn,and_self]),a2,Fl,vs++[w],V7,by simp only[AG,AJ,Nat.reduceEqDiff,↓reduceIte,q15],r8,Wt,AMY,by simp[eK],AMZ,N2,by rw[ko];exact o8,n7 _ KB,?_⟩;rw[hG1,show n-(k+1)=f by omega]
  simp only[BD,AA]
  refine AF (λhkd=>?_) (λhkd=>?_)
  ·have hkd:BR c ix k=2:=by simpa using hkd
   rw[aae hkd,FF Nx]at hG
   have k47:∀(e1:Env) (x:Bool),A9 kyE e0 e1→e1 15=.int .i64 fd→e1 21=.int .i64 k→e1 22=.int .i64 m→e1 153=.bool x→(x=true↔many<m∨fd+1<m)→(XJ none (G4 (VlS A Ws rb bx vb ty b c ix many n m9 m_ e0) k n K)) .normal e1 [] W3:=by
    intro e1 x SX q15 q21 q22 AMa hx;simp only[XJ,Aj,AMa]
    refine AF (λhb=>?_) (λhb=>?_)
    ·have hb:=hx.1 hb;rw[aad (by omega)]at hG;simp only[Sy,Ux,PT,GL,Ib];exact bad _ W3 (by simp only[AG,Nat.reduceEqDiff,↓reduceIte]) (by simp only[AG,Nat.reduceEqDiff,↓reduceIte]) (by simp only[AG,↓reduceIte]) r3.kp r3.top ⟨_,hG⟩
    ·have hb:¬(many<m∨fd+1<m):=λhh=>by rw[hx.2 hh]at hb;cases hb
     rw[aae (by omega)]at hG;simp only at hG;simp only[Sy,Aj,q15,q22];rw[zr];simp only[On];rw[show max (fd:Int) (m:Int)=((max fd m:Nat):Int) by omega];exact push _ (max fd m) m (SX.trans (.put rfl)) (by simp only[AG,↓reduceIte]) (by simp only[AG,AJ,Nat.reduceEqDiff,↓reduceIte,q21]) (by simp only[AG,AJ,Nat.reduceEqDiff,↓reduceIte,q22]) (by omega) hG
   simp only[Ae,AA]
   refine AF (λhb=>?_) (λhb=>?_)
   ·have hb:=of_decide_eq_true hb;exact k47 _ true (R0.trans (.put rfl)) (by simp only[AG,AJ,Nat.reduceEqDiff,↓reduceIte,X5]) (by simp only[AG,AJ,Nat.reduceEqDiff,↓reduceIte,h21]) (by simp only[AG,Nat.reduceEqDiff,↓reduceIte]) (by simp only[AG,↓reduceIte]) ⟨λ_=>.inl (by omega),λ_=>rfl⟩
   ·have hb:=of_decide_eq_false hb;simp only[AK,AA];rw[wrap64 (by omega) (by omega)];refine k47 _ (decide ((m:Int)>(fd:Int)+1)) (R0.trans (.put rfl)) (by simp only[AG,AJ,Nat.reduceEqDiff,↓reduceIte,X5]) (by simp only[AG,AJ,Nat.reduceEqDiff,↓reduceIte,h21]) (by simp only[AG,Nat.reduceEqDiff,↓reduceIte]) (by simp only[AG,↓reduceIte]) ?_;rw[decide_eq_true_eq];omega
  ·have hkd:¬BR c ix k=2:=by simpa using hkd
   rw[aad hkd,FF Nx]at hG
   have k49:∀(e1:Env) (w:Int),A9 kyE e0 e1→e1 15=.int .i64 fd→e1 21=.int .i64 k→e1 22=.int .i64 w→w=J_ m→((m:Int)≤2000000000↔-1000000000≤w∧w≤1000000000)→(XL none (G4 (VlS A Ws rb bx vb ty b c ix many n m9 m_ e0) k n K)) .normal e1 [] W3:=by
    intro e1 w SX q15 q21 q22 hw AN1
    have k48:∀(e2:Env) (x:Bool),A9 kyE e0 e2→e2 15=.int .i64 fd→e2 21=.int .i64 k→e2 22=.int .i64 w→e2 171=.bool x→(x=true↔¬(m:Int)≤2000000000)→(XK none (G4 (VlS A Ws rb bx vb ty b c ix many n m9 m_ e0) k n K)) .normal e2 [] W3:=by
     intro e2 x M8 p15 p21 p22 AMb hx;simp only[XK,Aj,AMb]
     refine AF (λhb=>?_) (λhb=>?_)
     ·have hb:=hx.1 hb;rw[aad hb]at hG;simp only[Ux,PT,GL,Ib];exact bad _ W3 (by simp only[AG,Nat.reduceEqDiff,↓reduceIte]) (by simp only[AG,Nat.reduceEqDiff,↓reduceIte]) (by simp only[AG,↓reduceIte]) r3.kp r3.top ⟨_,hG⟩
     ·have hb:(m:Int)≤2000000000:=abY λhh=>by rw[hx.2 hh]at hb;cases hb
      rw[aae hb]at hG;simp only at hG;rw[←hw]at hG;exact push e2 fd w M8 p15 p21 p22 lR hG
    simp only[tz,Aj,q22,AP,Ae,AA]
    refine AF (λhb=>?_) (λhb=>?_)
    ·have hb:=of_decide_eq_true hb;exact k48 _ true (SX.trans (.put rfl)) (by simp only[AG,AJ,Nat.reduceEqDiff,↓reduceIte,q15]) (by simp only[AG,AJ,Nat.reduceEqDiff,↓reduceIte,q21]) (by simp only[AG,AJ,Nat.reduceEqDiff,↓reduceIte,q22]) (by simp only[AG,↓reduceIte]) ⟨λ_=>by omega,λ_=>rfl⟩
    ·have hb:=of_decide_eq_false hb;refine k48 _ (decide (w>1000000000)) (SX.trans (.put rfl)) (by simp only[AG,AJ,Nat.reduceEqDiff,↓reduceIte,q15]) (by simp only[AG,AJ,Nat.reduceEqDiff,↓reduceIte,q21]) (by simp only[AG,AJ,Nat.reduceEqDiff,↓reduceIte,q22]) (by simp only[AG,↓reduceIte]) ?_;rw[decide_eq_true_eq];omega
   rw[TA _ _ _ (by decide)];rw[show((m:Int).tmod 2)=((m%2:Nat):Int) by rw[ab0 (by omega)];rfl];simp only[AA,BD]
   refine AF (λhb=>?_) (λhb=>?_)
   ·have hb:m%2=1:=by have:=eq_of_beq hb;omega
    simp only[AK,AA];rw[wrap64 (by omega) (by omega)]
    have U':neg (.int .i64 ((m:Int)+1))=some (.int .i64 (-((m:Int)+1))):=by
     show some (Value.int .i64 (IntKind.i64.wrap (0-((m:Int)+1))))=_;rw[wrap64 (by omega) (by omega)];rw[show(0:Int)-((m:Int)+1)=-((m:Int)+1) by omega]
    rw[U'];simp only[AA];rw[Ot _ _ _ (by decide)]
    have hq:(-((m:Int)+1)).tdiv 2=J_ m:=by
     unfold J_;rw[aae hb,Int.neg_tdiv,abN (by omega)];congr 1
    have hu:J_ m=-((((m+1)/2:Nat)):Int):=by unfold J_;rw[aae hb]
    rw[hq,wrap64 (by rw[hu];omega) (by rw[hu];omega)];simp only[AA];exact k49 _ (J_ m) (R0.trans (.put rfl)) (by simp only[AG,AJ,Nat.reduceEqDiff,↓reduceIte,X5]) (by simp only[AG,AJ,Nat.reduceEqDiff,↓reduceIte,h21]) (by simp only[AG,↓reduceIte]) rfl (by rw[hu];omega)
   ·have hb:¬m%2=1:=by intro hh;rw[hh]at hb;simp at hb
    rw[Ot _ _ _ (by decide)];have hu:J_ m=((m/2:Nat):Int):=by unfold J_;rw[aad hb]
    have hq:(m:Int).tdiv 2=J_ m:=by
     rw[hu,abN (by omega)]<;>rfl
    rw[hq,wrap64 (by rw[hu];omega) (by rw[hu];omega)];simp only[AA];exact k49 _ (J_ m) (R0.trans (.put rfl)) (by simp only[AG,AJ,Nat.reduceEqDiff,↓reduceIte,X5]) (by simp only[AG,AJ,Nat.reduceEqDiff,↓reduceIte,h21]) (by simp only[AG,↓reduceIte]) rfl (by rw[hu];omega)
theorem aO{b:List UInt8}{c:List Aq}{ix many:Nat}:∀{m k at_ fd:Nat} {vs:List Int} {vs':List Int} {Fl a:Nat},DR b c ix many m k at_ fd vs=.ok (vs',Fl,a)→fd≤many→fd≤Fl∧Fl≤many
 |0,_,_,_,_,_,_,_,h,hf=>by cases h;exact⟨aag _,hf⟩
 | m+1,k,at_,fd,vs,vs',Fl,a,h,hf=>by
  unfold DR at h
  split at h
  ·split at h
   ·cases h
   ·rename_i n a' hn;obtain⟨h1,_,_⟩:=F' hn;have:=aO h (by omega);omega
  ·split at h
   ·cases h
   ·exact aO h hf
theorem FO.rd{B:Nat}{W W':CW}{v:Value}{ps:List (CD×Value)}{rb:Nat}{x:List Value}(h:FO B W v ps)(ht:Ai W)(hr:A0 W rb 145 x)(c:Bw (LQ rb) W W'):FO B W' v ps:=by
 have key:∀{el n:Nat} {v:Value} {cs:List Value},Bu W el n v cs→el≠145→Bu W' el n v cs:=by
  intro el n v cs ho D3;refine c.own ht ho λj hj e=>?_;have e:j=rb:=e;subst e;exact D3 (BE (CR ho hj) hr)
 exact⟨key h.own (by decide),h.new,λp hp=>key (h.pv p hp) (by decide)⟩
theorem iM{W:CW}{el n:Nat}{v:Value}{cs:List Value}(h:Bu W el n v cs):∃a n m,v=.slice a n m:=by cases h<;>exact⟨_,_,_,rfl⟩
def kyL:List Nat:=[0,1,2,10,11,12]
theorem AMc{e e':Env}(h:A9 kyE e e'):A9 kyL e e':=λt ht=>h t (by
 simp only[kyL,aaJ,ach,or_false]at ht;simp only[kyE,aaJ,ach,or_false]
 omega)
def ThS(A W1:CW)(rb:Nat)(vb:Value)(b:List UInt8)(c:List Aq)(ts:List ByteArray)(many a2:Nat)(e0:Env)(i:Nat)(e:Env)(ds:List Deferred)(W':CW):Prop :=
 ds=[]∧A9 kyL e0 e∧e 16=.int .i64 i∧∃(BY used fd:Nat) (vo:Value) (ps:List (CD×Value)),e 13=vo∧e 14=.int .i64 used∧e 15=.int .i64 fd∧RR A W' rb vb BY false∧BY≤b.length∧Bw (LQ rb) W1 W'∧FO W1.sz W' vo ps∧ps.length=i∧used≤ts.length∧i≤fd∧fd≤many∧CZ b c ts many many 0 a2 0 (min many 1) []=CZ b c ts many (many-i) i BY used fd (ps.map (·.1))
theorem Jc{W:CW}{v:Value}{l:List ByteArray}(h:Bu W 9 1 v (strs l)):Ab 1 (kZ W) v l:=by
 have:=O1 (f:=λ(s:ByteArray)=>Value.string s) h;exact this
theorem ve{A W1:CW}{rb:Nat}{vb v0 tv:Value}{b:List UInt8}{c:List Aq}{ts:List ByteArray}{many a2:Nat}{e0:Env}{K:AD}(I:QG A vb b)(hc:Ab 5 (EI A) v0 c)(hC:QD c)(M5:Bu W1 9 1 tv (strs ts))(ie:ts.length≤100)(OT:∀s,s∈ts→(A3 c s).isSome=true)(lP:many≤1000)
  (h:RR A W1 rb vb a2 false) (No:a2≤b.length)
  (g0:e0 0=v0) (bJ:e0 10=.pointer (some ⟨rb,0,none⟩)) (g11:e0 11=tv) (pY:e0 12=.int .i64 many) (g13:e0 13=.slice none 0 0) (g14:e0 14=.int .i64 0) (g15:e0 15=.int .i64 ((min many 1:Nat):Int)) (g16:e0 16=.int .i64 0)
  (Al:∀e' W' (BY used:Nat) vo ps,A9 kyL e0 e'→e' 13=vo→e' 14=.int .i64 used→RR A W' rb vb BY false→Bw (LQ rb) W1 W'→FO W1.sz W' vo ps→ps.length=many→CZ b c ts many many 0 a2 0 (min many 1) []=.ok (ps.map (·.1),used,many,BY)→K (.exit 0) e' [] W')
  (D8:∀e' W',e' 6=.slice none 0 0→e' 7=.int .i64 0→e' 8=.int .i64 4→Kp A W'→Ai W'→(∃x,CZ b c ts many many 0 a2 0 (min many 1) []=.error x)→K .ret e' [] W') :
  FX prog Bs none 29 214 (.loop (D6 prog 29 0)) e0 [] W1 K:=by
 refine C2 (ThS A W1 rb vb b c ts many a2 e0) many ⟨rfl,.refl _ _,g16,a2,0,min many 1,.slice none 0 0,[],g13,g14,g15,h,No,.refl _ _,⟨Bu.nil,Aw.nil _ _ _,λp hp=>(by cases hp)⟩,rfl,aa1 _,aa1 _,Nat.min_le_left _ _,rfl⟩ ?_;rintro i e ds W2 hi ⟨rfl,R0,h16,BY,used,fd,vo,ps,y9,w9,X5,hr,gv,Jt,hO,Wk,hus,hif,hfm,hG⟩;have q:=λt (ht:t∈kyL)=>R0 t ht;rw[ADr,h16,w9,X5,q 10 (by decide),q 11 (by decide),q 12 (by decide),bJ,g11,pY];simp only[AP,AA];refine Eh (λAd=>?_) (λGZ=>?_)
 rotate_left
 ·have him:i=many:=by omega
  subst him;simp only[Jp];rw[abn]at hG;have hfe:fd=i:=by omega
  subst hfe;exact Al _ W2 BY used vo ps (R0.trans (.put rfl)) (by simp only[AG,AJ,Nat.reduceEqDiff,↓reduceIte,y9]) (by simp only[AG,AJ,Nat.reduceEqDiff,↓reduceIte,w9]) hr Jt hO Wk hG
 obtain⟨f,hf⟩:∃f,many-i=f+1:=⟨many-i-1,by omega⟩
 rw[hf]at hG
 have LC:CZ b c ts many (f+1) i BY used fd (ps.map (·.1))=if i<fd then
   (match ED b BY (min (used:Int) ((ts.length:Int)-1))with
   | .error e=>.error e
   | .ok (t,a1)=>match ts[t]? with
    |none=>.error 4
    | some ty=>match A3 c ty with
     |none=>.error 4
     | some ix=>match(if elemAt c ix≠0 then ED b a1 200 else .ok ((AX c ix).length,a1))with
      | .error e=>.error e
      | .ok (n,a2)=>match DR b c ix many n 0 a2 fd []with
       | .error e=>.error e
       | .ok (vs,Fl,a3)=>CZ b c ts many f (i+1) a3 (if t=used then used+1 else used) Fl (ps.map (·.1)++[⟨ty,vs⟩]))
  else .error 4:=rfl
 rw[LC]at hG
 have bad:∀e' W',e' 6=.slice none 0 0→e' 7=.int .i64 0→e' 8=.int .i64 4→Kp A W'→Ai W'→(∃x,CZ b c ts many many 0 a2 0 (min many 1) []=.error x)→G4 (ThS A W1 rb vb b c ts many a2 e0) i many K .ret e' [] W':=by
  intro e' W' a1 a2 a3 a4 a5 a6;rw[Ng];exact D8 e' W' a1 a2 a3 a4 a5 a6
 have ACF:∀(e1:Env) W3,e1 93=.bool true→Kp A W3→Ai W3→(∃x,CZ b c ts many many 0 a2 0 (min many 1) []=.error x)→(NS none (G4 (ThS A W1 rb vb b c ts many a2 e0) i many K)) .normal e1 [] W3:=by
  intro e1 W3 h93 k t hx;simp only[NS,Aj,h93,Af,cy,PS,GL,Ib];exact bad _ W3 (by simp only[AG,Nat.reduceEqDiff,↓reduceIte]) (by simp only[AG,Nat.reduceEqDiff,↓reduceIte]) (by simp only[AG,↓reduceIte]) k t hx
 refine(Mv I hr gv).mono λen W3 ⟨c3,hp⟩=>?_
 cases Nx:EC b 6 BY 0 0 with
 |error x=>
  rw[Nx]at hp;obtain⟨m,a3,rfl,ha3,r3⟩:=hp;refine AL ?_;simp only[By,CF,AA,r3.ik,Af];refine ACF _ W3 (by simp only[AG,↓reduceIte]) r3.kp r3.top ⟨4,?_⟩;rw[hG]
  split
  ·rw[Gu Nx]
  ·rfl
 | ok r=>
  obtain⟨t,a1⟩:=r;rw[Nx]at hp;obtain⟨rfl,r3⟩:=hp;have AMW:=Zz Nx;obtain⟨_,DS⟩:=L5 Nx
  have AJ4:∀j,FA tv j→¬LQ rb j:=λj hj e=>by
   have e:j=rb:=e;subst e;have:=BE (CR M5 hj) h.Fk;cases this
  have c13:Bw (LQ rb) W1 W3:=Jt.rd c3;have AJ5:Bu W3 9 1 tv (strs ts):=c13.own h.top M5 AJ4;have lN:FO W1.sz W3 vo ps:=hO.rd hr.top hr.Fk c3;refine AL ?_;simp only[By,CF,AA,r3.ik,AT];rw[Hu (m:=ts.length) LW AJ5 (by omega) (by rw[EY];omega)];simp only[AA,Bt,Ae]
  refine AF (λhb=>?_) (λhb=>?_)
  ·have hb:=of_decide_eq_true hb;refine ACF _ W3 (by simp only[AG,↓reduceIte]) r3.kp r3.top ⟨4,?_⟩;rw[hG]
   split
   ·rw[FF Nx,aad (by omega)]
   ·rfl
  have hb1:=of_decide_eq_false hb
  refine AF (λhb=>?_) (λhb=>?_)
  ·have hb:=of_decide_eq_true hb;refine ACF _ W3 (by simp only[AG,↓reduceIte]) r3.kp r3.top ⟨4,?_⟩;rw[hG]
   split
   ·rw[FF Nx,aad (by omega)]
   ·rfl
  have UY:=of_decide_eq_false hb
  by_cases hb3:(i:Int)≥(fd:Int)
  ·refine ACF _ W3 (by simp only[AG,↓reduceIte];rw[decide_eq_true hb3]) r3.kp r3.top ⟨4,?_⟩;rw[hG,aad (by omega)]
  rw[decide_eq_false hb3];rw[aae (by omega),FF Nx,aae (by omega)]at hG;have AF3:t<ts.length:=by omega
  obtain⟨ty,Wy⟩:∃ty,ts[t]?=some ty:=⟨_,ck AF3⟩
  obtain⟨ix,N5⟩:=abr.1 (OT ty (aan Wy));have ACG:=FT N5;simp only[Wy,N5]at hG;simp only[NS,Aj];simp only[AG,↓reduceIte,AT];simp only[cy,Aj];simp only[AG,AJ,Nat.reduceEqDiff,↓reduceIte,w9,AK,AA];rw[CE (by omega),zr];simp only[On];rw[show max (used:Int) ((t+1:Nat):Int)=(((if t=used then used+1 else used):Nat):Int) by split<;>omega];have AJ6:(if t=used then used+1 else used)≤ts.length:=by split<;>omega
  generalize (if t=used then used+1 else used)=JC at hG AJ6;obtain⟨at_,ct,OH,y_⟩:=Jc AJ5;obtain⟨p,rfl,hp⟩:=y_ t _ Wy;have JT:UK prog 51 tv (.int .i64 t)=some (.pointer (some ⟨p.block,p.off+t*1,none⟩)):=by rw[OH];exact AY (i:=t) LW s9 AF3
  have Q6:∀W',Kp W3 W'→ld prog 9 (.pointer (some ⟨p.block,p.off+t*1,none⟩)) W'=some (.string ty):=λW' k'=>AH a9 (a:=⟨p.block,p.off+t*1,none⟩) (k'.cell r3.top hp);rw[q 11 (by decide),g11,JT];simp only[AA,Q6 W3 (.refl _)];rw[q 0 (by decide),g0];refine As (Ks (s:=ty) (hc.imp λ_ _ _ JY=>JY.kp I.top r3.kp) (by have:=hC.len;omega)) ?_;rw[mF N5];refine(VA r3.top (hc.imp λ_ _ _ JY=>JY.kp I.top r3.kp) hC.len hC.fields ACG).mono λen W4 ⟨k4,t4,vr,he,hO4,_⟩=>?_;subst he;refine AL ?_;have r4:=r3.X4 k4 t4;have c14:Bw (LQ rb) W1 W4:=c13.rd k4.rd;have AJ7:FO W1.sz W4 vo ps:=⟨lN.own.kp r3.top k4,lN.new,λp hp=>(lN.pv p hp).kp r3.top k4⟩
  rw[iI hO4];obtain⟨ac,cc,hv0,Fh⟩:=id (hc.imp λ_ _ _ JY=>JY.kp I.top r4.kp:Ab 5 (EI W4) v0 c);have ml:=ck ACG;obtain⟨pc,rfl,pO⟩:=Fh ix _ ml;have AJ8:UK prog 22 v0 (.int .i64 ix)=some (.pointer (some ⟨pc.block,pc.off+ix*5,none⟩)):=by rw[hv0];exact AY (i:=ix) UG WQ ACG
  have NG:elemAt c ix=c[ix].elem:=by unfold elemAt;rw[ml]
  simp only[AA,AJ8,Ko,AH a5 (a:=⟨pc.block,pc.off+ix*5+3,none⟩) pO.elem,BX];have WK:=To hC ix
  have k30:∀(e1:Env) W5 (n a5:Nat),A9 kyL e0 e1→e1 13=vo→e1 14=.int .i64 JC→e1 15=.int .i64 fd→e1 16=.int .i64 i→e1 17=.int .i64 t→e1 18=.int .i64 ix→e1 19=.int .i64 n→RR A W5 rb vb a5 false→a5≤b.length→Bw (LQ rb) W1 W5→FO W1.sz W5 vo ps→n≤30000→(∀k,k<n→c[ix].elem=0→k<(AX c ix).length)→
    CZ b c ts many many 0 a2 0 (min many 1) []=(match DR b c ix many n 0 a5 fd []with
     | .error e=>.error e
     | .ok (vs,Fl,a3)=>CZ b c ts many f (i+1) a3 JC Fl (ps.map (·.1)++[⟨ty,vs⟩]))→(NR none (G4 (ThS A W1 rb vb b c ts many a2 e0) i many K)) .normal e1 [] W5:=by
   intro e1 W5 n a5 SX q13 q14 q15 q16 q17 q18 q19 r5 ha5 c15 m8 hn nQ hG5;have AMd:Bu W5 9 1 tv (strs ts):=c15.own h.top M5 AJ4;obtain⟨at_,ct,OH,y_⟩:=Jc AMd;obtain⟨p,rfl,hp⟩:=y_ t _ Wy;have JT:UK prog 51 tv (.int .i64 t)=some (.pointer (some ⟨p.block,p.off+t*1,none⟩)):=by rw[OH];exact AY (i:=t) LW s9 AF3
   have Q6:ld prog 9 (.pointer (some ⟨p.block,p.off+t*1,none⟩)) W5=some (.string ty):=AH a9 (a:=⟨p.block,p.off+t*1,none⟩) hp;simp only[cw,Aj,q17];rw[SX 11 (by decide),g11,JT];simp only[AA,Q6];refine Ap (AIn _) ?_;refine EH (ws:=[.string ty,.slice none 0 0]) m0 IH rfl rfl rfl r5.top λW6 k6 t6 z6 sQ=>?_;have r6:=r5.X4 k6 t6;have c16:Bw (LQ rb) W1 W6:=c15.rd k6.rd;have hO6:FO W1.sz W6 vo ps:=⟨m8.own.kp r5.top k6,m8.new,λp hp=>(m8.pv p hp).kp r5.top k6⟩
   have z5:=c15.sz;have zA:=r5.kp.sz
   refine AAa (m9:=a5) (m_:=fd) (n:=n) (many:=many) I hc hC ACG nQ hn lP r6 ha5 (by omega) sQ zA
    (by simp only[AG,AJ,Nat.reduceEqDiff,↓reduceIte];rw[SX 0 (by decide),g0]) (by simp only[AG,AJ,Nat.reduceEqDiff,↓reduceIte];rw[SX 10 (by decide),bJ]) (by simp only[AG,AJ,Nat.reduceEqDiff,↓reduceIte];rw[SX 12 (by decide),pY]) (by simp only[AG,AJ,Nat.reduceEqDiff,↓reduceIte,q15]) (by simp only[AG,AJ,Nat.reduceEqDiff,↓reduceIte,q18]) (by simp only[AG,AJ,Nat.reduceEqDiff,↓reduceIte,q19]) (by simp only[AG,Nat.reduceEqDiff,↓reduceIte]) (by simp only[AG,↓reduceIte])
    (λe' W7 a7 Fl vs vv M8 p15 r7 ha7 lR c7 AMe hO7 hN7 eK hV=>?_) (λe' W7 p6 p7 p8 k7 t7 ⟨x,hx⟩=>?_)
   rotate_left
   ·simp only[Ib,cu,PS,GL];refine bad e' W7 p6 p7 p8 k7 t7 ⟨x,?_⟩;rw[hG5,hx]
   ·obtain⟨Ny,AMf⟩:=aO hV hfm;rw[hV]at hG5;simp only at hG5;have p13:e' 13=vo:=(M8 13 (by decide)).trans (by simp only[AG,AJ,Nat.reduceEqDiff,↓reduceIte,q13]);have p14:e' 14=.int .i64 JC:=(M8 14 (by decide)).trans (by simp only[AG,AJ,Nat.reduceEqDiff,↓reduceIte,q14]);have p16:e' 16=.int .i64 i:=(M8 16 (by decide)).trans (by simp only[AG,AJ,Nat.reduceEqDiff,↓reduceIte,q16]);have p20:e' 20=.pointer (some ⟨W5.sz,0,none⟩):=(M8 20 (by decide)).trans (by simp only[AG,Nat.reduceEqDiff,↓reduceIte]);have hAe:A9 kyL e0 e':=(SX.trans (.put rfl)).trans (AMc M8);simp only[Er,aar,cu,Aj,p20];obtain⟨av,nv,mv,rfl⟩:=iM hO7;rw[DC (vs:=[.string ty,.slice av nv mv]) (a:=⟨W5.sz,0,none⟩) bG IH rfl (by omega) AMe.cells,p13];simp only[AA]
    have ACH:∀{el n0:Nat} {v:Value} {cs:List Value},Bu W5 el n0 v cs→el≠145→Bu W7 el n0 v cs:=by
     intro el n0 v cs ho D3;refine N6 ho λj hj=>?_;have Ad:=Zc r5.top ho hj
     rw[c7.obj j (by have:=k6.sz;omega) (λhs=>by
      rcases hs with hs|hs
      ·subst hs;exact D3 (BE (CR ho hj) r5.Fk)
      ·omega),k6.obj j Ad]
    have AAb:FO W1.sz W7 vo ps:=⟨ACH m8.own (by decide),m8.new,λp hp=>ACH (m8.pv p hp) (by decide)⟩
    have Hp:=DE ps;have t7:=r7.top;refine Ig M' IH m0 rfl (by omega) pV (by omega) (aN _ _ _ _) rfl rfl t7 AAb.own (by rw[Hp];omega) λu Wa V7 W8 ka ta IF t8 o8 n8=>?_;have hnr:=Zb AAb.own r7.Fk (by decide)
    have r8:RR A W8 rb vb a7 false:=r7.Dk IF.Dk t8 (λj hj=>by
     have:=m8.new.in hj;have:=h.kp.sz
     omega) λhj=>by
     obtain⟨b',l',c',e1,e2⟩:=hj;exact hnr _ _ _ e1 e2
    have c17:Bw (LQ rb) W1 W7:=c16.then c7 λj hj hs=>by
     rcases hs with hs|hs
     ·exact hs
     ·omega
    have c18:Bw (LQ rb) W1 W8:=c17.then IF.Dk λj hj hi=>by have:=m8.new.in hi;omega
    have z17:=c17.sz;simp only[PS,Aj];simp only[AG,AJ,Nat.reduceEqDiff,↓reduceIte,p16,AK,AA,FH]
    refine⟨Ad,rfl,(hAe.trans (.put rfl)).trans (.put rfl),by rw[←CE (by omega)];first|rfl|(simp only[AG,AJ,Lc,Nat.reduceEqDiff,↓reduceIte,Nb,bF,Kn,and_self]),a7,JC,Fl,V7,ps++[(⟨ty,vs⟩,.slice av nv mv)],by simp only[AG,AJ,Nat.reduceEqDiff,↓reduceIte],by simp only[AG,AJ,Nat.reduceEqDiff,↓reduceIte,p14],by simp only[AG,AJ,Nat.reduceEqDiff,↓reduceIte,p15],r8,ha7,c18,⟨?_,n8 _ z17,λp hp=>?_⟩,by simp[Wk],AJ6,by omega,AMf,?_⟩
    ·rw[abd]
     simpa[DV]using o8
    ·rcases aaB.1 hp with hp|hp
     ·have h5:=AAb.pv p hp;exact IF.Dk.own t7 h5 (Np h5 AAb.own (by decide))
     ·cases dy.1 hp
      exact IF.Dk.own t7 hO7 (Np hO7 AAb.own (by decide))
    ·rw[hG5,show many-(i+1)=f by omega,aaI];rfl
  refine AF (λhb=>?_) (λhb=>?_)
  ·have hb:elemAt c ix≠0:=by rw[NG];simpa using hb
   rw[aae hb]at hG;rw[q 10 (by decide),bJ];refine(Mv I r4 DS).mono λen W5 ⟨c5,hp5⟩=>?_;have c15:=c14.rd c5
   have AJ9:∀(e1:Env) W6,e1 123=.bool true→Kp A W6→Ai W6→(∃x,CZ b c ts many many 0 a2 0 (min many 1) []=.error x)→(Sv none (G4 (ThS A W1 rb vb b c ts many a2 e0) i many K)) .normal e1 [] W6:=by
    intro e1 W6 AMg k t hx;simp only[Sv,Aj,AMg,Af,cw,PS,GL,Ib];exact bad _ W6 (by simp only[AG,Nat.reduceEqDiff,↓reduceIte]) (by simp only[AG,Nat.reduceEqDiff,↓reduceIte]) (by simp only[AG,↓reduceIte]) k t hx
   cases QK:EC b 6 a1 0 0 with
   |error x=>
    rw[QK]at hp5;obtain⟨m,a5,rfl,ha5,r5⟩:=hp5;refine AL ?_;simp only[By,CF,AA,r5.ik,Af];refine AJ9 _ W5 (by simp only[AG,↓reduceIte]) r5.kp r5.top ⟨4,?_⟩;rw[hG,Gu QK]
   |ok r=>
    obtain⟨n,a5⟩:=r;rw[QK]at hp5;obtain⟨rfl,r5⟩:=hp5;obtain⟨_,ha5⟩:=L5 QK;refine AL ?_;simp only[By,CF,AA,r5.ik,AT,Ae]
    by_cases AB_:(n:Int)>200
    ·refine AJ9 _ W5 (by simp only[AG,↓reduceIte];rw[decide_eq_true AB_]) r5.kp r5.top ⟨4,?_⟩;rw[hG,FF QK,aad (by omega)]
    rw[decide_eq_false AB_];rw[FF QK,aae (by omega)]at hG;simp only at hG;have AMh:FO W1.sz W5 vo ps:=AJ7.rd t4 r4.Fk c5;simp only[Sv,Aj];simp only[AG,↓reduceIte,AT];refine k30 _ W5 n a5 (R0.trans ((A9.put rfl).trans (A9.put rfl))) (by simp only[AG,AJ,Nat.reduceEqDiff,↓reduceIte,y9]) (by simp only[AG,Nat.reduceEqDiff,↓reduceIte]) (by simp only[AG,AJ,Nat.reduceEqDiff,↓reduceIte,X5]) (by simp only[AG,AJ,Nat.reduceEqDiff,↓reduceIte,h16]) (by simp only[AG,AJ,Nat.reduceEqDiff,↓reduceIte]) (by simp only[AG,Nat.reduceEqDiff,↓reduceIte]) (by simp only[AG,Nat.reduceEqDiff,↓reduceIte]) r5 ha5 c15 AMh (by omega) (λk _ h0=>(hb (NG.trans h0)).elim) hG
  ·have hb:elemAt c ix=0:=by rw[NG];simpa using hb
   rw[aad (by omega)]at hG;simp only at hG;refine k30 _ W4 (AX c ix).length a1 (R0.trans ((A9.put rfl).trans (A9.put rfl))) (by simp only[AG,AJ,Nat.reduceEqDiff,↓reduceIte,y9]) (by simp only[AG,Nat.reduceEqDiff,↓reduceIte]) (by simp only[AG,AJ,Nat.reduceEqDiff,↓reduceIte,X5]) (by simp only[AG,AJ,Nat.reduceEqDiff,↓reduceIte,h16]) (by simp only[AG,AJ,Nat.reduceEqDiff,↓reduceIte]) (by simp only[AG,Nat.reduceEqDiff,↓reduceIte]) (by simp only[AG,Nat.reduceEqDiff,↓reduceIte]) r4 DS c14 AJ7 (by omega) (λk hk _=>hk) hG
theorem se(a:Option Addr)(n m:Nat):wu prog 145 [(0,.slice a n m)]=some (.agg [.slice a n m,.int .i64 0,.bool false].toArray):=by kernel_rfl
theorem AAc{B:Nat}{W:CW}{v:Value}{ps:List (CD×Value)}(h:FO B W v ps)(ht:Ai W){i:Nat}{p:CD×Value}(hp:ps[i]?=some p):∃a,UK prog 24 v (.int .i64 i)=some (.pointer (some a))∧∀W',Kp W W'→ld prog 56 (.pointer (some a)) W'=some (.agg #[.string p.1.type,p.2]):=by
 have hl:=DE ps;obtain⟨hO,_,_⟩:=h;generalize UZ:ps.flatMap DV=cs at hO hl;have La:=(dx.1 hp).1
 cases hO with
 |nil=>simp at hl;omega
 | @some b0 len _ hB MV=>
  refine⟨_,AY M' IH (show i<len by omega),λW' k=>?_⟩;refine DC (vs:=DV p) (a:=⟨b0,0+i*2,none⟩) bG IH rfl (by omega) λj w hj=>?_;have rA:j<2:=(dx.1 hj).1;refine k.cell ht ?_;show W.cell b0 (0+i*2+j)=_;rw[show 0+i*2+j=i*2+j by omega];refine hB.cell ?_;rw[←UZ,Im,show(i*2+j)/2=i by omega,show(i*2+j)%2=j by omega,hp];exact hj
theorem vg{c:List Aq}{l:List DD}{x:CD}(hs:Be c l=true)(hr:eM c x):∀s,OC l x.type=some s→s.map.length=x.AO.length∧∃t,A3 c s.type=some t∧∀m,m∈s.map→0≤m∧m.toNat<(AX c t).length:=by
 intro s Js;unfold OC at Js;have hto:s.to=x.type:=by simpa using ac0 Js
 obtain⟨j,hj⟩:=abg (abU Js);obtain⟨t,a,S⟩:=ox hs hj;obtain⟨ix,N5,WK⟩:=hr;rw[←hto,S.ai]at N5
 cases N5
 refine⟨by rw[WK S.ea,S.len],t,S.ti,λm RG=>?_⟩;obtain⟨k,hk⟩:=abg RG;have O2:k<(AX c a).length:=by rw[←S.len];exact(dx.1 hk).1
 obtain⟨n,Nx,QK,w5,_⟩:=S.map k O2;rw[hk]at Nx
 cases Nx
 omega
def sg(r:List CD×Int×Int)(W:CW):Ending→CW→Prop:=λen W'=>Kp W W'∧Ai W'∧∃v ps,en=.returned (.tuple #[v,.int .i64 r.2.1,.int .i64 r.2.2])∧FO W.sz W' v ps∧ps.map (·.1)=r.1∧∀p,p∈ps→hM p.1
theorem vh{A:CW}{v0 v1 vp:Value}{c:List Aq}{l:List DD}{ps:List (CD×Value)}{e0:Env}{K:AD}{B:Nat}(tA:Ai A)(hc:Ab 5 (EI A) v0 c)(hC:QD c)(hl:Ab 3 (Hs A) v1 l)(OU:l.length<100000)(hs:Be c l=true)(hP:FO B A vp ps)(PM:∀p,p∈ps→hM p.1)(Mt:∀p,p∈ps→eM c p.1∧p.1.AO.length<100000)(Wk:ps.length≤1000)
  (g0:e0 0=v0) (g1:e0 1=v1) (g13:e0 13=vp) (g23:e0 23=.slice none 0 0) (g24:e0 24=.int .i64 0)
  (Al:∀e' W' vo qs,e' 12=e0 12→e' 23=vo→Kp A W'→Ai W'→FO A.sz W' vo qs→qs.map (·.1)=ps.map (λp=>A_ c l p.1)→K (.exit 4) e' [] W') :
  FX prog Bs none 29 214 (.loop (D6 prog 29 2)) e0 [] A K:=by
 refine C2 (λi e ds W'=>ds=[]∧A9 [0,1,12,13] e0 e∧e 24=.int .i64 i∧Kp A W'∧Ai W'∧∃vo qs,e 23=vo∧FO A.sz W' vo qs∧qs.map (·.1)=(ps.take i).map λp=>A_ c l p.1) ps.length ⟨rfl,.refl _ _,g24,.refl _,tA,_,[],g23,⟨Bu.nil,Aw.nil _ _ _,λp hp=>(by cases hp)⟩,rfl⟩ ?_;rintro i e ds W' hi ⟨rfl,R0,h24,kA,t',vo,qs,h23,hO,vA⟩;have Hp:=DE ps;rw[ADt,h24,h23,R0 13 (by decide),g13,Hu (m:=ps.length) M' hP.own (by omega) (by omega)];simp only[AA,AP];refine Eh (λAd=>?_) (λGZ=>?_)
 rotate_left
 ·simp only[Jp];rw[abO GZ]at vA;exact Al _ W' vo qs (by simp only[AG,AJ,Nat.reduceEqDiff,↓reduceIte,R0 12 (by decide)]) (by simp only[AG,AJ,Nat.reduceEqDiff,↓reduceIte,h23]) kA t' hO vA
 have hx:=ck Ad;generalize ps[i]=p at hx;have pX:=aan hx;obtain⟨a,a1,a2⟩:=AAc hP tA hx;obtain⟨hr,hv⟩:=Mt p pX;have hpv:=hP.pv p pX;have gp:Ab 1 (F9 W') p.2 p.1.AO:=X' (hpv.kp tA kA) (PM p pX);rw[a1];simp only[AA,a2 W' kA];rw[R0 0 (by decide),R0 1 (by decide),g0,g1];refine(vP t' (hc.imp λ_ _ _ hr=>hr.kp tA kA) hC (hl.imp λ_ _ _ hr=>hr.kp tA kA) OU gp hv (vg hs hr)).mono λen W2 ⟨k2,t2,vv,he,UX⟩=>?_;subst he;refine AL ?_;generalize hy:A_ c l p.1=y at UX
 have hov:Bu W2 3 1 vv (DA y.AO):=by
  rcases UX with⟨rfl,e⟩|⟨bv,rfl,hB,_⟩
  ·rw[e];exact hpv.kp tA (kA.trans k2)
  ·exact Bu.some hB (by rw[Ij];omega)
 obtain⟨av,nv,mv,rfl⟩:=iM hov
 have hql:qs.length=i:=by
  have:=ab3 List.length vA;rw[aaq,aaq,aaE]at this;omega
 have hcq:=DE qs;have gq:=hO.own.kp t' k2;refine Ig M' IH m0 rfl (by omega) pV (by omega) (aN _ _ _ _) rfl rfl t2 gq (by rw[hcq];omega) λu Wa V7 W4 ka ta IF t4 o4 n4=>?_;simp only[t_,Aj,FH];simp only[AG,AJ,Nat.reduceEqDiff,↓reduceIte,h24,AK,AA];have WX:=kA.trans k2;have z2:=WX.sz
 refine⟨Ad,trivial,R0.trans ((A9.put rfl).trans (A9.put rfl)),by rw[CE (by omega)],IF.kp WX hO.new,t4,V7,qs++[(y,.slice av nv mv)],(by first|rfl|simp only[AG,AJ,Lc,Nat.reduceEqDiff,↓reduceIte,Nb,bF,Kn,and_self]),⟨?_,n4 _ z2,λp hp=>?_⟩,?_⟩
 ·rw[abd]
  simpa[DV]using o4
 ·rcases aaB.1 hp with hp|hp
  ·have h5:=(hO.pv p hp).kp t' k2;exact IF.Dk.own t2 h5 (Np h5 gq (by decide))
  ·cases dy.1 hp
   exact IF.Dk.own t2 hov (Np hov gq (by decide))
 ·rw[aaI,vA,aaP,hx,aa9,aaI];simp[hy]
theorem aP{b:List UInt8}:(Au b).1.length≤100:=by
 have key:∀(k at_:Nat) (out:List ByteArray),(D9 b k at_ out).1.length≤out.length+k:=by
  intro k
  induction k with
  |zero=>intro at_ out;simp[D9]
  | succ k ih=>
   intro at_ out;rw[D9]
   split
   ·simp
   ·rename_i s a2 _
    split
    ·have:=ih a2 (out++[s]);simp only[aas,aaH]at this;omega
    ·simp
 unfold Au
 split
 ·simp
 ·split
  ·split
   ·simp
   ·split
    ·rename_i n a1 _ h;have:=key n a1 [];simp at this;omega
    ·simp
  ·simp
theorem aQ{ask:ByteArray→Option Int}:∀{ts:List ByteArray},IC ask ts=none→∀s,s∈ts→ask s=none
 |[],_,s,h=>by cases h
 | t::ts,h,s,hs=>by
  unfold IC at h
  cases ha:ask t with
  |some e=>rw[ha]at h;cases h
  |none=>
   rw[ha]at h
   rcases aaJ.1 hs with rfl|hs
   ·exact ha
   ·exact aQ h s hs
theorem mG{c:List Aq}{l:List DD}{e:Int}:∀{ts:List ByteArray},IC (F_ c l) ts=some e→e≠0
 |[],h=>by cases h
 |t::ts,h=>by
  unfold IC at h
  cases ha:F_ c l t with
  |some e'=>rw[ha]at h;cases h;exact Z3 _ _ ha
  |none=>rw[ha]at h;exact mG h
theorem Rr{b:List UInt8}{c:List Aq}{ix many:Nat}{x:Int}:∀{m k at_ fd:Nat} {vs:List Int},DR b c ix many m k at_ fd vs=.error x→x=4
 |0,_,_,_,_,h=>by cases h
 | m+1,k,at_,fd,vs,h=>by
  unfold DR at h
  split at h
  ·split at h
   ·rename_i e hn;cases h;exact Mx hn
   ·exact Rr h
  ·split at h
   ·rename_i e hn;cases h;exact Mx hn
   ·exact Rr h
theorem Wc{b:List UInt8}{c:List Aq}{ts:List ByteArray}{many:Nat}{x:Int}:∀{m i at_ used fd:Nat} {out:List CD},CZ b c ts many m i at_ used fd out=.error x→x=4
 |0,_,_,_,_,_,h=>by cases h
 | m+1,i,at_,used,fd,out,h=>by
  unfold CZ at h
  split at h
  ·split at h
   ·rename_i e hn;cases h;exact Mx hn
   ·split at h
    ·cases h;rfl
    ·split at h
     ·cases h;rfl
     ·split at h
      ·rename_i e hn
       cases h
       split at hn
       ·exact Mx hn
       ·cases hn
      ·split at h
       ·rename_i e hn;cases h;exact Rr hn
       ·exact Wc h
  ·cases h;rfl
theorem Rs{b:List UInt8}{c:List Aq}{ix many:Nat}:∀{m k at_ fd:Nat} {vs:List Int} {r:List Int×Nat×Nat},DR b c ix many m k at_ fd vs=.ok r→r.1.length=vs.length+m
 |0,_,_,_,_,_,h=>by cases h;rfl
 | m+1,k,at_,fd,vs,r,h=>by
  unfold DR at h
  split at h
  ·split at h
   ·cases h
   ·rw[Rs h,aas,aaH];omega
  ·split at h
   ·cases h
   ·rw[Rs h,aas,aaH];omega
theorem Tw{b:List UInt8}{c:List Aq}(hC:QD c){ts:List ByteArray}{many:Nat}:∀{m i at_ used fd:Nat} {out:List CD} {r:List CD×Nat×Nat×Nat},CZ b c ts many m i at_ used fd out=.ok r→(∀x,x∈out→x.AO.length<100000)→∀x,x∈r.1→x.AO.length<100000
 |0,_,_,_,_,_,_,h,ho=>by cases h;exact ho
 | m+1,i,at_,used,fd,out,r,h,ho=>by
  unfold CZ at h
  split at h
  ·split at h
   ·cases h
   ·split at h
    ·cases h
    ·split at h
     ·cases h
     ·rename_i ix _
      split at h
      ·cases h
      ·rename_i n a2 hn
       split at h
       ·cases h
       ·rename_i vs Fl a3 hv;refine Tw hC h λx hx=>?_
        rcases aaB.1 hx with hx|hx
        ·exact ho x hx
        ·cases dy.1 hx
         have h1:=Rs hv
         have h2:n≤30000:=by
          split at hn
          ·have:=(F' hn).1;omega
          ·cases hn;have:=To hC ix;omega
         simp at h1;show vs.length<100000;omega
  ·cases h
theorem b_{b:List UInt8}{c:List Aq}(hC:QD c){ask:ByteArray→Option Int}{at_:Nat}{r:List CD×Nat}(h:Bf b c ask at_=.ok r):∀x,x∈r.1→x.AO.length<100000:=by
 unfold Bf at h
 split at h
 ·cases h
 ·split at h
  ·cases h
  ·split at h
   ·cases h
   ·rename_i out used fd a3 hL
    split at h
    ·cases h
     exact Tw hC hL λx hx=>by cases hx
    ·cases h
theorem mH{v0 v1 vb:Value}{c:List Aq}{l:List DD}{b:List UInt8}{W:CW}(ht:Ai W)(hc:Ab 5 (EI W) v0 c)(hC:QD c)(hl:Ab 3 (Hs W) v1 l)(OU:l.length<100000)(hb:Ts W vb b)(hE:J8 W 5 vb) :
  Ac prog Bs 29 [v0,v1,vb] W (sg (Br c l b) W):=by
 refine AHh ?_;rw[AHf];generalize FI:AM prog Tryz.f29 (sg (Br c l b) W)=KK
 have DU:∀(e':Env) W' v n m ps,Kp W W'→Ai W'→e' 6=v→e' 7=.int .i64 n→e' 8=.int .i64 m→FO W.sz W' v ps→(∀p,p∈ps→hM p.1)→Br c l b=(ps.map (·.1),n,m)→KK .ret e' [] W':=by
  intro e' W' v n m ps k t h6 h7 h8 hO PM hn;rw[←FI,uA,h6,h7,h8,hn];exact⟨k,t,v,ps,rfl,hO,rfl,PM⟩
 have GY:∀(e':Env) W' m,Kp W W'→Ai W'→e' 6=.slice none 0 0→e' 7=.int .i64 0→e' 8=.int .i64 m→Br c l b=([],0,m)→KK .ret e' [] W':=λe' W' m k t h6 h7 h8 hn=>DU e' W' _ 0 m [] k t h6 h7 h8 ⟨Bu.nil,Aw.nil _ _ _,λp hp=>(by cases hp)⟩ (λp hp=>by cases hp) hn;refine JA (km ht hc hC hl OU) λW1 k1 t1=>?_;simp only[BX,AA]
 refine AF (λhe=>?_) (λhe=>?_)
 ·have he:JB c l≠0:=by simpa using he
  refine GY _ W1 (JB c l) k1 t1 (by simp only[AG,Nat.reduceEqDiff,↓reduceIte]) (by simp only[AG,Nat.reduceEqDiff,↓reduceIte]) (by simp only[AG,↓reduceIte]) ?_;unfold Br JB;unfold JB at he
  cases Al:Bk c with
  |false=>rfl
  |true=>
   cases hs:Be c l with
   |false=>rfl
   |true=>rw[Al,hs]at he;simp at he
 have he:JB c l=0:=by simpa using he
 have Al:Bk c=true:=by
  cases h:Bk c with
  |true=>rfl
  |false=>unfold JB at he;rw[h]at he;simp at he
 have hs:Be c l=true:=by
  cases h:Be c l with
  |true=>rfl
  |false=>unfold JB at he;rw[Al,h]at he;simp at he
 have J5:Br c l b=(if 100000<b.length then([],0,2)else match Bf b c (F_ c l) 0 with
  | .error e=>([],0,e)
  | .ok (xs,_)=>(xs.map (A_ c l),min (xs.length:Int) 1,0)):=by
  unfold Br;rw[aad (by rw[Al];simp),aad (by rw[hs];simp)]<;>rfl
 obtain⟨a,cap,N1,OR,TK⟩:=(hb.kp ht k1).sl;have AN2:=N1;rw[N1,AQ LS];simp only[AA,Ae]
 refine AF (λLX=>?_) (λLX=>?_)
 ·have LX:=of_decide_eq_true LX;exact GY _ W1 2 k1 t1 (by simp only[AG,Nat.reduceEqDiff,↓reduceIte]) (by simp only[AG,Nat.reduceEqDiff,↓reduceIte]) (by simp only[AG,↓reduceIte]) (by rw[J5,aae (by omega)])
 have LX:=of_decide_eq_false LX;rw[aad (by omega)]at J5;refine Ap (se _ _ _) ?_;refine G8 AJV t1 λW2 k2 t2 z2 vB=>?_;have vB:A0 W2 W1.sz 145 [.slice a b.length cap,.int .i64 (0:Nat),.bool false]:=vB;rw[←N1]at vB ⊢;have I:QG W1 vb b:=⟨t1,⟨a,cap,N1,OR,TK⟩,by omega⟩
 have hE1:J8 W1 5 vb:=hE.kp ht k1;have R:RR W1 W2 W1.sz vb 0 false:=⟨k2,t2,aag _,vB⟩
 have UM:Ab 5 (EI W1) v0 c:=hc.imp λ_ _ _ hr=>hr.kp ht k1;have XE:Ab 3 (Hs W1) v1 l:=hl.imp λ_ _ _ hr=>hr.kp ht k1;refine(Z0 I hE1 R).mono λen W3 ⟨c3,tv,Hx,M5,_,MW⟩=>?_;subst Hx;refine AL ?_
 obtain⟨at3,w3,AMi,R3,hw3⟩:∃(at3:Nat) (w3:Bool),at3≤b.length∧RR W1 W3 W1.sz vb at3 w3∧((Au b).2=if w3 then none else some at3):=by
  cases hq:(Au b).2 with
  |none=>rw[hq]at MW;obtain⟨x,h1,h2⟩:=MW;exact⟨x,true,h1,h2,rfl⟩
  |some x=>rw[hq]at MW;exact⟨x,false,MW.1,MW.2,rfl⟩
 have ie:(Au b).1.length≤100:=aP;have hhd:=head_eq b (F_ c l);have kp0:∀{W'},Kp W1 W'→Kp W W':=λh=>k1.trans h;refine As (u7 (UM.imp λ_ _ _ hr=>hr.kp t1 R3.kp) (by have:=hC.len;omega) (XE.imp λ_ _ _ hr=>hr.kp t1 R3.kp) (by omega) (Jc M5) (by omega)) ?_;simp only[BX,AA]
 cases D3:IC (F_ c l) (Au b).1 with
 |some x=>
  have hx:=mG D3;rw[D3]at hhd;simp only[Kn];rw[show(x !=0)=true by simpa using hx,Af];exact GY _ W3 x (kp0 R3.kp) R3.top (by simp only[AG,Nat.reduceEqDiff,↓reduceIte]) (by simp only[AG,Nat.reduceEqDiff,↓reduceIte]) (by simp only[AG,↓reduceIte]) (by rw[J5];unfold Bf;rw[hhd])
 | none =>
  rw[D3]at hhd;simp only[Option.getD_none];rw[show((0:Int) !=0)=false from rfl,AT];have OT:∀s,s∈(Au b).1→(A3 c s).isSome=true:=λs hs=>(VR (aQ D3 s hs)).1;have AAd:∀(e1:Env) W',Kp W1 W'→Ai W'→(∃x,Bf b c (F_ c l) 0=.error x∧x=4)→e1 6=.slice none 0 0→e1 7=.int .i64 0→e1 8=.int .i64 4→KK .ret e1 [] W':=λe1 W' k t ⟨x,hx,hx4⟩ h6 h7 h8=>GY e1 W' 4 (kp0 k) t h6 h7 h8 (by rw[J5,hx,hx4])
  have ACI:∀(e1:Env) W',e1 64=.bool true→Kp W1 W'→Ai W'→(∃x,Bf b c (F_ c l) 0=.error x∧x=4)→(Lu none KK) .normal e1 [] W':=by
   intro e1 W' h64 k t hx;simp only[Lu,Aj,h64,Af,cq,GL];exact AAd _ W' k t hx (by simp only[AG,Nat.reduceEqDiff,↓reduceIte]) (by simp only[AG,Nat.reduceEqDiff,↓reduceIte]) (by simp only[AG,↓reduceIte])
  refine(Mv I R3 AMi).mono λen W4 ⟨c4,hp⟩=>?_
  cases w3 with
  | true=>
   simp only[aar]at hw3;rw[hw3]at hhd;have hT:∃x,Bf b c (F_ c l) 0=.error x∧x=4:=⟨4,by unfold Bf;rw[hhd],rfl⟩
   obtain⟨n,at4,Hx,R4⟩:∃(n:Int) (at4:Nat),en=.returned (.int .i64 n)∧RR W1 W4 W1.sz vb at4 true:=by
    cases hn:EC b 6 at3 0 0 with
    |error x=>rw[hn]at hp;obtain⟨n,a',h1,_,h2⟩:=hp;exact⟨n,a',h1,h2⟩
    |ok r=>obtain⟨n,a'⟩:=r;rw[hn]at hp;exact⟨n,a',hp.1,hp.2⟩
   subst Hx;refine AL ?_;simp only[By,CF,AA,R4.ik,Af];exact ACI _ W4 (by simp only[AG,↓reduceIte]) R4.kp R4.top hT
  | false=>
   simp only[aaD,abf]at hw3;rw[hw3]at hhd
   have hR:Bf b c (F_ c l) 0=(match ED b at3 1000 with
    | .error e=>.error e
    | .ok (many,a2)=>match CZ b c (Au b).1 many many 0 a2 0 (min many 1) []with
     | .error e=>.error e
     | .ok (out,used,fd,a3)=>if fd=many∧used=(Au b).1.length∧a3=b.length then .ok (out,a3)else .error 4):=by
    unfold Bf;rw[hhd]<;>rfl
   cases hn:EC b 6 at3 0 0 with
   |error x=>
    rw[hn]at hp;obtain⟨n,at4,rfl,_,R4⟩:=hp;refine AL ?_;simp only[By,CF,AA,R4.ik,Af];exact ACI _ W4 (by simp only[AG,↓reduceIte]) R4.kp R4.top ⟨4,by rw[hR,Gu hn],rfl⟩
   | ok r=>
    obtain⟨many,at4⟩:=r;rw[hn]at hp;obtain⟨rfl,R4⟩:=hp;obtain⟨_,AMj⟩:=L5 hn;rw[FF hn]at hR
    have AF4:Bu W4 9 1 tv (strs (Au b).1):=c4.own R3.top M5 λj hj e=>by
     have e:j=W1.sz:=e;subst e;have:=BE (CR M5 hj) R3.Fk;cases this
    refine AL ?_;simp only[By,CF,AA,R4.ik,AT,Ae]
    refine AF (λhg=>?_) (λhg=>?_)
    ·have hg:=of_decide_eq_true hg;exact ACI _ W4 (by simp only[AG,↓reduceIte]) R4.kp R4.top ⟨4,by rw[hR,aad (by omega)],rfl⟩
    have hg:=of_decide_eq_false hg;rw[aae (by omega)]at hR;simp only at hR
    have k16:∀(e1:Env),e1 64=.bool false→e1 0=v0→e1 1=v1→e1 2=vb→e1 10=.pointer (some ⟨W1.sz,0,none⟩)→e1 11=tv→e1 12=.int .i64 many→(Lu none KK) .normal e1 [] W4:=by
     intro e1 h64 q0 q1 q2 w8 q11 q12;simp only[Lu,Aj,h64,AT,cq,q12];rw[eJ];simp only[On];rw[show min (1:Int) (many:Int)=((min many 1:Nat):Int) by omega]
     refine ve (a2:=at4) (many:=many) I UM hC AF4 ie OT (by omega) R4 AMj (by simp only[AG,AJ,Nat.reduceEqDiff,↓reduceIte,q0]) (by simp only[AG,AJ,Nat.reduceEqDiff,↓reduceIte,w8]) (by simp only[AG,AJ,Nat.reduceEqDiff,↓reduceIte,q11]) (by simp only[AG,AJ,Nat.reduceEqDiff,↓reduceIte,q12]) (by simp only[AG,Nat.reduceEqDiff,↓reduceIte]) (by simp only[AG,Nat.reduceEqDiff,↓reduceIte]) (by simp only[AG,Nat.reduceEqDiff,↓reduceIte]) (by simp only[AG,↓reduceIte])
      (λe' W5 at5 used vo ps hA p13 p14 R5 c5 hO Wk hL=>?_) (λe' W5 p6 p7 p8 k5 t5 ⟨x,hx⟩=>?_)
     rotate_left
     ·simp only[Ib,cn,GL];exact AAd e' W5 k5 t5 ⟨x,by rw[hR,hx],Wc hx⟩ p6 p7 p8
     ·rw[hL]at hR;simp only[true_and]at hR;have r:=λt (ht:t∈kyL)=>hA t ht;have r0:e' 0=v0:=(r 0 (by decide)).trans (by simp only[AG,AJ,Nat.reduceEqDiff,↓reduceIte,q0]);have r1:e' 1=v1:=(r 1 (by decide)).trans (by simp only[AG,AJ,Nat.reduceEqDiff,↓reduceIte,q1]);have r2:e' 2=vb:=(r 2 (by decide)).trans (by simp only[AG,AJ,Nat.reduceEqDiff,↓reduceIte,q2]);have r10:e' 10=.pointer (some ⟨W1.sz,0,none⟩):=(r 10 (by decide)).trans (by simp only[AG,AJ,Nat.reduceEqDiff,↓reduceIte,w8]);have r11:e' 11=tv:=(r 11 (by decide)).trans (by simp only[AG,AJ,Nat.reduceEqDiff,↓reduceIte,q11]);have r12:e' 12=.int .i64 many:=(r 12 (by decide)).trans (by simp only[AG,AJ,Nat.reduceEqDiff,↓reduceIte,q12]);have hlen:∀W',It prog 29 vb W'=some (.int .i64 b.length):=λW'=>by rw[N1];exact AQ LS _ _ _ _
      have AJ':∀W',It prog 51 tv W'=some (.int .i64 (Au b).1.length):=λW'=>Hu (m:=(Au b).1.length) LW AF4 (by omega) (by rw[EY];omega)
      have AJ_:∀(e2:Env),e2 194=.bool true→¬(used=(Au b).1.length∧at5=b.length)→(Su none KK) .normal e2 [] W5:=by
       intro e2 AMk G_;simp only[Su,Aj,AMk,Af,cj,GL];exact AAd _ W5 R5.kp R5.top ⟨4,by rw[hR,aad G_],rfl⟩ (by simp only[AG,Nat.reduceEqDiff,↓reduceIte]) (by simp only[AG,Nat.reduceEqDiff,↓reduceIte]) (by simp only[AG,↓reduceIte])
      simp only[Er,aar,cn,Aj,r10,r2,r11,p14,By,O',AA,R5.wq,hlen,AJ',BX]
      refine AF (λhq=>?_) (λhq=>?_)
      ·have hq:at5≠b.length:=by intro e;rw[e]at hq;simp at hq
       exact AJ_ _ (by simp only[AG,↓reduceIte]) λh=>hq h.2
      have hq:at5=b.length:=by
       have:((at5:Int) !=(b.length:Int))=false:=hq;have h2:(at5:Int)=(b.length:Int):=by simpa using this
       omega
      by_cases hu:used=(Au b).1.length
      rotate_left
      ·refine AJ_ _ ?_ λh=>hu h.1;simp only[AG,↓reduceIte];congr 1;simp;omega
      rw[show((used:Int) !=((Au b).1.length:Int))=false by rw[hu];simp];rw[aae ⟨hu,hq⟩]at hR;rw[hR]at J5;simp only at J5;simp only[Su,Aj];simp only[AG,↓reduceIte,AT];simp only[cj,Aj];have kA5:=R5.kp;obtain⟨Mt,_⟩:=WW hR;have AKA:=Z7 hR;have PM:∀p,p∈ps→hM p.1:=λp hp=>AKA _ (aaS hp)
      refine vh (ps:=ps) R5.top (UM.imp λ_ _ _ hr=>hr.kp t1 kA5) hC (XE.imp λ_ _ _ hr=>hr.kp t1 kA5) OU hs hO PM (λp hp=>⟨Mt _ (aaS hp),?_⟩) (by omega) (by simp only[AG,AJ,Nat.reduceEqDiff,↓reduceIte,r0]) (by simp only[AG,AJ,Nat.reduceEqDiff,↓reduceIte,r1]) (by simp only[AG,AJ,Nat.reduceEqDiff,↓reduceIte,p13]) (by simp only[AG,Nat.reduceEqDiff,↓reduceIte]) (by simp only[AG,↓reduceIte])
       (λe3 W6 vo2 qs s12 s23 k6 t6 hO6 vA=>?_)
      ·exact b_ hC hR _ (aaS hp)
      ·have s12:e3 12=.int .i64 many:=s12.trans (by simp only[AG,AJ,Nat.reduceEqDiff,↓reduceIte,r12]);simp only[Er,aar,rP,Aj,s12];rw[eJ];simp only[On];have vi:qs.map (·.1)=(ps.map (·.1)).map (A_ c l):=by rw[vA,ac7];rfl
       refine DU _ W6 vo2 (min 1 (many:Int)) 0 qs (kp0 (kA5.trans k6)) t6 (by simp only[AG,Nat.reduceEqDiff,↓reduceIte,s23]) (by simp only[AG,Nat.reduceEqDiff,↓reduceIte]) (by simp only[AG,↓reduceIte]) ⟨hO6.own,λb' l' c' e=>by
        have:=hO6.new b' l' c' e;have:=k1.sz;have:=kA5.sz
        omega,hO6.pv⟩ (λq hq=>?_) ?_
       ·have:q.1∈(ps.map (·.1)).map (A_ c l):=by rw[←vi];exact aaS hq
        obtain⟨y,hy,e⟩:=aaM.1 this;rw[←e];exact lY (AKA y hy)
       ·rw[J5,vi];simp only[aaq];rw[Wk,Int.min_comm]
    refine AF (λhz=>?_) (λhz=>?_)
    ·have hz:many=0:=by have:=eq_of_beq hz;omega
     rw[Hu (m:=(Au b).1.length) LW AF4 (by omega) (by rw[EY];omega)];simp only[AA,Ae]
     by_cases hq:(((Au b).1.length:Nat):Int)>0
     ·refine ACI _ W4 (by simp only[AG,↓reduceIte];rw[decide_eq_true hq]) R4.kp R4.top ⟨4,?_,rfl⟩;rw[hR];subst hz;simp only[CZ];rw[aad (by omega)]
     ·exact k16 _ (by simp only[AG,↓reduceIte];rw[decide_eq_false hq]) (by simp only[AG,AJ,Lc,Nat.reduceEqDiff,↓reduceIte,Nb,Kn]) (by simp only[AG,AJ,Lc,Nat.reduceEqDiff,↓reduceIte,Nb,bF,Kn]) (by simp only[AG,AJ,Lc,Nat.reduceEqDiff,↓reduceIte,Nb,bF,Kn]) (by simp only[AG,Nat.reduceEqDiff,↓reduceIte]) (by simp only[AG,Nat.reduceEqDiff,↓reduceIte]) (by simp only[AG,Nat.reduceEqDiff,↓reduceIte])
    ·exact k16 _ (by simp only[AG,↓reduceIte]) (by simp only[AG,AJ,Lc,Nat.reduceEqDiff,↓reduceIte,Nb,Kn]) (by simp only[AG,AJ,Lc,Nat.reduceEqDiff,↓reduceIte,Nb,bF,Kn]) (by simp only[AG,AJ,Lc,Nat.reduceEqDiff,↓reduceIte,Nb,bF,Kn]) (by simp only[AG,Nat.reduceEqDiff,↓reduceIte]) (by simp only[AG,Nat.reduceEqDiff,↓reduceIte]) (by simp only[AG,Nat.reduceEqDiff,↓reduceIte])
def AF5(v0:Value)(K:AD)(W:CW):=by
 have h:GQ 116 8 v0 W K=DF 139 v0 W (λa b=>GS K (CQ v0) (BN 2 a 7 a 6 v0 2 At) b) λa b=>LF K a (CQ v0) (KH 6 v0 2 At) b:=by kernel_rfl
 dsimp at h;exact h
theorem qA(Q:Ending→CW→Prop)(e:Env)(W:CW):AM prog Tryz.f116 Q .ret e [] W=Q (.returned (e 2)) W:=by kernel_rfl
def AF6{Q v0 W}:=FM 116 8 [v0] Tryz.f116 Q W Tryz.func116 (by kernel_rfl)
def X_(ro:Option Nat)(K:AD):AD:=AU (λa b c=>wV (jn prog 197 5 (BA a)) λd=>wV (idx prog 9 (.string ⟨#[0,1,2,2,3,3,3,3,4,4,4,4,4,4,4,4,5,5,5,5,5,5,5,5,5,5,5,5,5,5,5,5,6,6,6,6,6,6,6,6,6,6,6,6,6,6,6,6,6,6,6,6,6,6,6,6,6,6,6,6,6,6,6,6,7,7,7,7,7,7,7,7,7,7,7,7,7,7,7,7,7,7,7,7,7,7,7,7,7,7,7,7,7,7,7,7,7,7,7,7,7,7,7,7,7,7,7,7,7,7,7,7,7,7,7,7,7,7,7,7,7,7,7,7,7,7,7,7,8,8,8,8,8,8,8,8,8,8,8,8,8,8,8,8,8,8,8,8,8,8,8,8,8,8,8,8,8,8,8,8,8,8,8,8,8,8,8,8,8,8,8,8,8,8,8,8,8,8,8,8,8,8,8,8,8,8,8,8,8,8,8,8,8,8,8,8,8,8,8,8,8,8,8,8,8,8,8,8,8,8,8,8,8,8,8,8,8,8,8,8,8,8,8,8,8,8,8,8,8,8,8,8,8,8,8,8,8,8,8,8,8,8,8,8,8,8,8,8,8,8,8,8,8,8,8,8]⟩) d) λf=>wV (jn prog 5 3 f) λg=>Jl 3 a 2 g λh=>J6 K a (EW 2 h 24 23 g (Ls 22 f 21 d 20 a 19 a 2)) b c) K
def vj:=by
 have h:=@X_.eq_1;dsimp at h;exact h
def YA(ro:Option Nat)(K:AD):AD:=AU (λa b c=>ZC .geq 197 true (BA a) .u64 256 λd=>C1 d (ZC .shr 197 true (BA a) .u64 8 λf=>rO a 2 8 λg=>K4 (X_ ro K) a (Bc 2 g 18 17 (B7 a) 0 f (CC 16 f 15 (BA a) 14 d 13 a 0)) b c) (X_ ro K) a (KH 14 d 13 (BA a)) b c) K
def vk:=by
 have h:=@YA.eq_1;dsimp at h;exact h
def iN(ro:Option Nat)(K:AD):AD:=AU (λa b c=>ZC .geq 197 true (BA a) .u64 65536 λd=>C1 d (ZC .shr 197 true (BA a) .u64 16 λf=>rO a 2 16 λg=>K4 (YA ro K) a (Bc 2 g 12 11 (B7 a) 0 f (CC 10 f 9 (BA a) 8 d 7 a 0)) b c) (YA ro K) a (KH 8 d 7 (BA a)) b c) K
def vn:=by
 have h:=@iN.eq_1;dsimp at h;exact h
def AF7(v0:Value)(K:AD)(W:CW):=by
 have h:GQ 139 25 v0 W K=ZC .geq 197 true v0 .u64 4294967296 λa=>let b:=D4 4 a 3 v0 2 At;C1 a (ZC .shr 197 true v0 .u64 32 λa=>K4 (iN none K) (CQ v0) (BL 2 (RM 32) 0 a 6 a 5 v0 b) [] W) (iN none K) (CQ v0) b [] W:=by kernel_rfl
 dsimp at h;exact h
theorem qB(Q:Ending→CW→Prop)(e:Env)(W:CW):AM prog Tryz.f139 Q .ret e [] W=Q (.returned (e 2)) W:=by kernel_rfl
def AF8{Q v0 W}:=FM 139 25 [v0] Tryz.f139 Q W Tryz.func139 (by kernel_rfl)
def AF9(v0:Value)(K:AD)(W:CW):=by
 have h:GQ 151 7 v0 W K=wV (jn prog 3 164 v0) λa=>let b:=D4 4 a 3 v0 2 (.int .u64 0);DF 116 a W (λa c=>ZB .shl 164 true (.int .u64 1) a λd=>GS K (CQ v0) (EW 2 d 6 5 a b) c) λa c=>LF K a (CQ v0) b c:=by kernel_rfl
 dsimp at h;exact h
theorem qC(Q:Ending→CW→Prop)(e:Env)(W:CW):AM prog Tryz.f151 Q .ret e [] W=Q (.returned (e 2)) W:=by kernel_rfl
def AF'{Q v0 W}:=FM 151 7 [v0] Tryz.f151 Q W Tryz.func151 (by kernel_rfl)
def AF_(v0:Value)(K:AD)(W:CW):=by
 have h:GQ 152 33 v0 W K=Gy v0 λa=>BH 205 a W λb=>Gy v0 λc=>BH 205 c W λd=>ZC .shl 205 true d .u64 13 λf=>NQ .xor 205 b f λg=>Gy v0 λh=>CL 205 h g W λi=>F6 (Gq 205 c W d a b) (Gy v0 λj=>BH 205 j i λk=>Gy v0 λl=>BH 205 l i λm=>ZC .shr 205 true m .u64 7 λn=>NQ .xor 205 k n λo=>Gy v0 λp=>CL 205 p o i λq=>F6 (Gq 205 l i m j k) (Gy v0 λi=>BH 205 i q λr=>Gy v0 λs=>BH 205 s q λt=>ZC .shl 205 true t .u64 17 λu=>NQ .xor 205 r u λv=>Gy v0 λw=>CL 205 w v q λy=>F6 (Gq 205 s q t i r) (Gy v0 λq=>BH 205 q y λz=>GS K (CQ v0) (Bc 2 z 32 31 q 30 v0 (BL 29 w 28 v 27 u 26 t (BL 25 s 24 v0 23 r 22 i (BL 21 v0 20 p 19 o 18 n (BL 17 m 16 l 15 v0 14 k (BL 13 j 12 v0 11 h 10 g (BL 9 f 8 d 7 c 6 v0 (BN 5 b 4 a 3 v0 2 (.int .u64 0))))))))) y))):=by kernel_rfl
 dsimp at h;exact h
theorem qD(Q:Ending→CW→Prop)(e:Env)(W:CW):AM prog Tryz.f152 Q .ret e [] W=Q (.returned (e 2)) W:=by kernel_rfl
def AGA{Q v0 W}:=FM 152 33 [v0] Tryz.f152 Q W Tryz.func152 (by kernel_rfl)
theorem AAe{x d:Int}(h0:0≤x)(h1:x≤1000000)(hd:0<d):DL prog .quo 3 true (.int .i64 x) (.int .i64 d)=some (.int .i64 (x/d)):=by
 rw[Ot _ _ _ (by omega),abN h0];have h2:x/d≤x:=Int.ediv_le_self _ h0;have h3:0≤x/d:=Int.ediv_nonneg h0 (by omega);rw[wrap64 (by omega) (by omega)]
theorem Nq{x y:Int}{X Y:Prop}(h1:x≤y→X)(h2:y<x→Y):wI (.bool (decide (x≤y))) X Y:=AF (λh=>h1 (of_decide_eq_true h)) (λh=>h2 (by have:=of_decide_eq_false h;omega))
theorem Rt{x y:Int}{X Y:Prop}(h1:x<y→X)(h2:y≤x→Y):wI (.bool (decide (x<y))) X Y:=AF (λh=>h1 (of_decide_eq_true h)) (λh=>h2 (by have:=of_decide_eq_false h;omega))
theorem Ru{x y:Int}{X Y:Prop}(h1:y≤x→X)(h2:x<y→Y):wI (.bool (decide (x≥y))) X Y:=AF (λh=>h1 (of_decide_eq_true h)) (λh=>h2 (by have:=of_decide_eq_false h;omega))
theorem aR{x y:Int}{X Y:Prop}(h1:y<x→X)(h2:x≤y→Y):wI (.bool (decide (x>y))) X Y:=AF (λh=>h1 (of_decide_eq_true h)) (λh=>h2 (by have:=of_decide_eq_false h;omega))
structure PE(e:Env)(b n:Nat)(ki kj:Nat)(a i j:Int):Prop where
 e0:e 0=.slice (some ⟨b,0,none⟩) n n
 e1:e 1=.int .i64 a
 ei:e ki=.int .i64 i
 ej:e kj=.int .i64 j
def Ip(n:Nat):Nat:=if n=0 then 0 else Nat.log2 n+1
theorem AGB(n:Int):jn prog 197 5 (.int .u64 n)=some (.int .u8 (IntKind.u8.wrap n)):=by kernel_rfl
theorem AKB(n:Int):jn prog 5 3 (.int .u8 n)=some (.int .i64 (IntKind.i64.wrap n)):=by kernel_rfl
theorem AAf(n:Int):jn prog 3 164 (.int .i64 n)=some (.int .u64 (IntKind.u64.wrap n)):=by kernel_rfl
theorem AKC(n:Int):jn prog 3 205 (.int .i64 n)=some (.int .u64 (IntKind.u64.wrap n)):=by kernel_rfl
theorem AKD(n:Int):jn prog 164 3 (.int .u64 n)=some (.int .i64 (IntKind.i64.wrap n)):=by kernel_rfl
theorem eV{x:Int}(h1:0≤x)(h2:x<18446744073709551616):IntKind.u64.wrap x=x:=by
 unfold IntKind.wrap;simp[IntKind.bits,IntKind.signed];omega
theorem AMl:agg? prog 205=some false:=by kernel_rfl
theorem AAg:EM prog 205=some 1:=by kernel_rfl
theorem AMm:Is prog 205=some (.int .u64 0):=by kernel_rfl
theorem AAh(x c:Int)(hc:0≤c):∃y,DL prog .shl 205 true (.int .u64 x) (.int .u64 c)=some (.int .u64 y):=by
 refine⟨IntKind.u64.wrap (x*2^(min c.toNat IntKind.u64.bits)),?_⟩;simp only[DL];rw[decide_eq_false (by omega)];rfl
theorem AGC(x c:Int)(hc:0≤c):∃y,DL prog .shr 205 true (.int .u64 x) (.int .u64 c)=some (.int .u64 y):=by
 refine⟨x.fdiv (2^(min c.toNat IntKind.u64.bits)),?_⟩;simp only[DL];rw[decide_eq_false (by omega)];rfl
theorem qE(x y:Int):∃z,DL prog .xor 205 false (.int .u64 x) (.int .u64 y)=some (.int .u64 z):=⟨IntKind.u64.wrap ((BitVec.ofInt 64 x^^^BitVec.ofInt 64 y).toNat),by simp only[DL,P',decide_true,cond_true];rfl⟩
theorem qF{W:CW}{s:Nat}{k:Int}(ht:Ai W)(hs:A0 W s 205 [.int .u64 k]):Ac prog Bs 152 [.pointer (some ⟨s,0,none⟩)] W (λen W'=>Bw (·=s) W W'∧Ai W'∧∃k',A0 W' s 205 [.int .u64 k']∧en=.returned (.int .u64 k')):=by
 refine AGA ?_;rw[AF_];have ld:∀{V:CW} {k:Int},A0 V s 205 [.int .u64 k]→Go.Ce.ld prog 205 (.pointer (some ⟨s,0,none⟩)) V=some (.int .u64 k):=λhB=>AH AMl (a:=⟨s,0,none⟩) (hB.cell rfl);obtain⟨x1,h1⟩:=AAh k 13 (by omega);obtain⟨x2,h2⟩:=qE k x1;simp only[By,ld hs,h1,h2,AA];refine Ar AAg (a:=⟨s,0,none⟩) (v:=.int .u64 x2) rfl hs (by simp) λW1 cR Rz=>?_;have cR:Ep s W W1:=cR;have Rz:A0 W1 s 205 [.int .u64 x2]:=Rz;have t1:=ht.Ba (hs.lt ht) cR;refine⟨by simp only[and_self],trivial,?_⟩;obtain⟨x3,h3⟩:=AGC x2 7 (by omega);obtain⟨x4,h4⟩:=qE x2 x3;simp only[ld Rz,h3,h4,AA];refine Ar AAg (a:=⟨s,0,none⟩) (v:=.int .u64 x4) rfl Rz (by simp) λW2 QC HD=>?_;have QC:Ep s W1 W2:=QC;have HD:A0 W2 s 205 [.int .u64 x4]:=HD;have t2:=t1.Ba (Rz.lt t1) QC;refine⟨by simp only[and_self],trivial,?_⟩;obtain⟨x5,h5⟩:=AAh x4 17 (by omega);obtain⟨x6,h6⟩:=qE x4 x5;simp only[ld HD,h5,h6,AA];refine Ar AAg (a:=⟨s,0,none⟩) (v:=.int .u64 x6) rfl HD (by simp) λW3 UN IG=>?_;have UN:Ep s W2 W3:=UN;have IG:A0 W3 s 205 [.int .u64 x6]:=IG;refine⟨by simp only[and_self],trivial,?_⟩;simp only[ld IG,AA];rw[qD];exact⟨(cR.Dk.then QC.Dk λ_ _ h=>h).then UN.Dk λ_ _ h=>h,t2.Ba (HD.lt t2) UN,x6,IG,rfl⟩
def at_(l:List Int)(i:Int):Int:=(l[i.toNat]?).getD 0
def mI(l:List Int)(i j:Int):List Int:=(l.set j.toNat (at_ l i)).set i.toNat (at_ l j)
theorem ACJ(l:List Int)(i j:Int):(mI l i j).length=l.length:=by unfold mI;rw[abZ,abZ]
theorem PB{l:List Int}{i j k:Int}(hi:0≤i)(La:i<l.length)(hj:0≤j)(UL:j<l.length)(hk:0≤k):at_ (mI l i j) k=if k=i then at_ l j else if k=j then at_ l i else at_ l k:=by
 unfold mI;show((((l.set j.toNat (at_ l i)).set i.toNat (at_ l j))[k.toNat]?).getD 0)=_;rw[abw,abw,abZ]
 by_cases h1:k=i
 ·subst h1;rw[aae rfl,aae rfl,aae (by omega)];rfl
 ·rw[aad (by omega),aad h1]
  by_cases h2:k=j
  ·subst h2;rw[aae rfl,aae rfl,aae (by omega)];rfl
  ·rw[aad (by omega),aad h2];rfl
inductive SW(lo hi:Int)(l:List Int):List Int→Prop
 |refl:SW lo hi l l
 |step {m:List Int} {i j:Int}:SW lo hi l m→lo≤i→i<hi→lo≤j→j<hi→SW lo hi l (mI m i j)
theorem SW.len{lo hi:Int}{l m:List Int}(h:SW lo hi l m):m.length=l.length:=by
 induction h with
 |refl=>rfl
 |step h _ _ _ _ ih=>rw[ACJ,ih]
theorem SW.trans{lo hi:Int}{l m r:List Int}(h:SW lo hi l m)(k:SW lo hi m r):SW lo hi l r:=by
 induction k with
 |refl=>exact h
 |step _ a b c d ih=>exact ih.step a b c d
theorem SW.mono{lo hi wa LB:Int}{l m:List Int}(h:SW lo hi l m)(h1:wa≤lo)(h2:hi≤LB):SW wa LB l m:=by
 induction h with
 |refl=>exact .refl
 |step _ a b c d ih=>exact ih.step (by omega) (by omega) (by omega) (by omega)
theorem SW.out{lo hi:Int}{l m:List Int}(h:SW lo hi l m)(h0:0≤lo)(h1:hi≤l.length){k:Int}(nR:0≤k)(hk:k<lo∨hi≤k):at_ m k=at_ l k:=by
 induction h with
 |refl=>rfl
 |step h a b c d ih=>
  have:=h.len;rw[PB (by omega) (by omega) (by omega) (by omega) nR,aad (by omega),aad (by omega),ih]
theorem SW.all{lo hi:Int}{l m:List Int}(h:SW lo hi l m)(h0:0≤lo)(h1:hi≤l.length){P:Int→Prop}(hp:∀k,lo≤k→k<hi→P (at_ l k)):∀k,lo≤k→k<hi→P (at_ m k):=by
 induction h with
 |refl=>exact hp
 | step h a b c d ih=>
  intro k nR bD;have:=h.len;rw[PB (by omega) (by omega) (by omega) (by omega) (by omega)]
  split
  ·exact ih _ c d
  ·split
   ·exact ih _ a b
   ·exact ih k nR bD
theorem SW.perm{lo hi:Int}{l m:List Int}(h:SW lo hi l m)(h0:0≤lo)(h1:hi≤l.length):m.Perm l:=by
 induction h with
 |refl=>exact acO _
 | @step m i j h a b c d ih=>
  have hl:=h.len;refine List.Perm.trans ?_ ih;have LB:i.toNat<m.length:=by omega
  have hj':j.toNat<m.length:=by omega
  have e1:at_ m i=m[i.toNat]:=by unfold at_;rw[ck LB];rfl
  have e2:at_ m j=m[j.toNat]:=by unfold at_;rw[ck hj'];rfl
  unfold mI;rw[e1,e2];exact List.set_set_perm hj' LB
def Std(lo hi:Int)(l:List Int):Prop:=∀i j:Int,lo≤i→i<j→j<hi→at_ l i≤at_ l j
def mJ(lo i j:Int)(m:List Int):Prop:=∀x y:Int,lo≤x→x<y→y≤i→y≠j→at_ m x≤at_ m y
theorem mJ.step{lo i j:Int}{m:List Int}(h:mJ lo i j m)(h0:0≤lo)(hj:lo<j)(hji:j≤i)(La:i<m.length)(Ad:at_ m j<at_ m (j-1)):mJ lo i (j-1) (mI m (j-1) j):=by
 intro x y hx MY hy D3;have e:=λk (hk:0≤k)=>PB (l:=m) (i:=j-1) (j:=j) (k:=k) (by omega) (by omega) (by omega) (by omega) hk;rw[e x (by omega),e y (by omega)]
 by_cases hyj:y=j
 ·subst hyj;rw[aad (show¬y=y-1 by omega),aae rfl]
  by_cases bo:x=y-1
  ·rw[aae bo];omega
  ·rw[aad bo,aad (by omega)];exact h x (y-1) hx (by omega) (by omega) (by omega)
 ·rw[aad D3,aad hyj]
  split
  ·exact h j y (by omega) (by omega) hy hyj
  ·split
   ·exact h (j-1) y (by omega) (by omega) hy hyj
   ·exact h x y hx MY hy hyj
theorem mJ.done{lo i j:Int}{m:List Int}(h:mJ lo i j m)(hj:lo≤j)(hs:j=lo∨at_ m (j-1)≤at_ m j)(hd:lo≤i):Std lo (i+1) m:=by
 intro x y hx MY hy
 by_cases e:y=j
 ·subst e
  rcases hs with hs|hs
  ·omega
  ·by_cases Ht:x=y-1
   ·rw[Ht];exact hs
   ·have:=h x (y-1) hx (by omega) (by omega) (by omega);omega
 ·exact h x y hx MY (by omega) e
def HP(m:List Int)(f lo hi:Int):Prop:=∀c p:Int,lo≤p→p<c→c<hi→(c=2*p+1∨c=2*p+2)→at_ m (f+c)≤at_ m (f+p)
def SiP(m:List Int)(f lo hi r:Int):Prop:=(∀c p:Int,lo≤p→p≠r→p<c→c<hi→(c=2*p+1∨c=2*p+2)→at_ m (f+c)≤at_ m (f+p))∧∀c p:Int,lo≤p→p<r→(r=2*p+1∨r=2*p+2)→r<c→c<hi→(c=2*r+1∨c=2*r+2)→at_ m (f+c)≤at_ m (f+p)
theorem SiP.step{m:List Int}{f lo hi r d:Int}(h:SiP m f lo hi r)(OB:0≤lo)(hr:lo≤r)(hf:0≤f)(hl:f+hi≤m.length)(hd:d=2*r+1∨d=2*r+2)(hdh:d<hi)(Ad:at_ m (f+r)<at_ m (f+d))(nH:∀c,r<c→c<hi→(c=2*r+1∨c=2*r+2)→at_ m (f+c)≤at_ m (f+d)):SiP (mI m (f+d) (f+r)) f lo hi d:=by
 obtain⟨h1,h2⟩:=h;have e:=λk (hk:0≤k)=>PB (l:=m) (i:=f+d) (j:=f+r) (k:=k) (by omega) (by omega) (by omega) (by omega) hk
 constructor
 ·intro c p hp hpd pO hc hcp;rw[e (f+c) (by omega),e (f+p) (by omega),aad (show¬f+p=f+d by omega)]
  by_cases OG:p=r
  ·subst OG;rw[aae rfl]
   by_cases hcd:c=d
   ·rw[aae (by omega)];omega
   ·rw[aad (by omega),aad (by omega)];exact nH c pO hc hcp
  ·rw[aad (show¬f+p=f+r by omega),aad (show¬f+c=f+d by omega)]
   by_cases hcr:c=r
   ·rw[aae (by omega)];exact h2 d p hp (by omega) (by omega) (by omega) hdh hd
   ·rw[aad (by omega)];exact h1 c p hp OG pO hc hcp
 ·intro c p hp hpd hdp hdc hc hcd;have OG:p=r:=by omega
  subst OG;rw[e (f+c) (by omega),e (f+p) (by omega),aad (show¬f+c=f+d by omega),aad (show¬f+c=f+p by omega),aad (show¬f+p=f+d by omega),aae rfl];exact h1 c d (by omega) (by omega) hdc hc hcd
theorem HP.root{m:List Int}{f s:Int}(h:HP m f 0 s):∀(n:Nat) (x:Int),x.toNat=n→0≤x→x<s→at_ m (f+x)≤at_ m (f+0):=by
 intro n
 induction n using Nat.strongRecOn with
 |ind n ih=>
  intro x hn h0 hs
  by_cases hx:x=0
  ·rw[hx];exact abD _
  ·have h1:=h x ((x-1)/2) (by omega) (by omega) hs (by omega);have h2:=ih ((x-1)/2).toNat (by omega) ((x-1)/2) rfl (by omega) (by omega);omega
theorem aS{m:List Int}{i j k:Int}{n:Nat}(hm:m.length=n)(hi:0≤i)(La:i<n)(hj:0≤j)(UL:j<n)(hk:0≤k):at_ (mI m i j) k=if k=i then at_ m j else if k=j then at_ m i else at_ m k:=PB hi (by omega) hj (by omega) hk
def N7(a hi FU:Int)(m:List Int):Prop:=(∀x,a≤x→x<FU→at_ m x<at_ m FU)∧∀x,FU<x→x<hi→at_ m FU≤at_ m x
theorem mK{a hi j:Int}{m:List Int}{n:Nat}(hm:m.length=n)(ha:0≤a)(haj:a≤j)(hjh:j<hi)(L_:hi≤n)(hL:∀x,a+1≤x→x<j+1→at_ m x<at_ m a)(hR:∀x,j<x→x≤hi-1→¬at_ m x<at_ m a):N7 a hi j (mI m a j):=by
 have e:=λk (hk:0≤k)=>aS (m:=m) (i:=a) (j:=j) (k:=k) hm ha (by omega) (by omega) (by omega) hk
 have ej:at_ (mI m a j) j=at_ m a:=by
  rw[e j (by omega)]
  split
  ·rename_i h;rw[h]
  ·rw[aae rfl]
 constructor
 ·intro x hx0 NK;rw[ej,e x (by omega)]
  split
  ·exact hL j (by omega) (by omega)
  ·rw[aad (by omega)];exact hL x (by omega) (by omega)
 ·intro x hx0 NK;rw[ej,e x (by omega),aad (by omega),aad (by omega)];have:=hR x hx0 (by omega);omega
structure QE(e:Env)(b n:Nat)(a hi Ld:Int)(wb wp:Bool):Prop where
 e0:e 0=.slice (some ⟨b,0,none⟩) n n
 e1:e 1=.int .i64 a
 e2:e 2=.int .i64 hi
 e3:e 3=.int .i64 Ld
 e8:e 8=.bool wb
 e9:e 9=.bool wp
end Go.Ce
