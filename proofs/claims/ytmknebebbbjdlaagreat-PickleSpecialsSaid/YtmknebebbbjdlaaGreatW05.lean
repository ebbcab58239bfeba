/- A part of the proof: Ri, Rj, Rk, Rl, Rm, Rn, Ro, Rp, Sa, Sb, Sc, Sd, Sf, Sg, Si, ShL4, Ed, Qt, ShE, Qu, Qv, Qw, Qx, Se, Sj, Sk, ShL6, Sl, Sm, Sn, So. -/
import Derived.Test.YtmknebebbbjdlaaGreatW01
import Derived.Test.YtmknebebbbjdlaaGreatW02
import Derived.Test.YtmknebebbbjdlaaGreatW04
import Derived.Test.YtmknebebbbjdlaaGreatProg
set_option linter.unusedSectionVars false
set_option linter.unusedVariables false
set_option linter.unusedSimpArgs false
set_option maxRecDepth 200000
namespace Go.Ce
open Go Go.Proofs Go.Proofs.Tryz
theorem zYv:(prog.info? 56).map (·.bytes)=some 40:=by kernel_rfl
theorem zYB (s:ByteArray) (a:Addr) (n m:Nat) (W:CW):bsl prog 24 1 [(0,.agg [.string s,.slice (some a) n m].toArray)] W=some (.slice (some ⟨W.sz,0,none⟩) 1 1,W.new (.cells (Tr.nil.putFrom 0 [.string s,.slice (some a) n m]) [Value.string s,.slice (some a) n m].length #[] 56)):=by kernel_rfl
theorem zYg:siz prog 40=some 1:=by kernel_rfl
theorem zSW (n:Nat):zIu n []=List.replicate n (.int .i64 0):=by
 unfold zIu zCt; simp
theorem zSX {n:Nat} {vs:List Int} (h:vs.length=n):zIu n vs=zCt vs:=by
 unfold zIu; rw [h,Nat.sub_self]; simp
theorem zDa:∀ ps:List (Thg × Value),(ps.flatMap zGN).length=ps.length*2
 | []=>rfl
 | q::ps=>by
  have ih:=zDa ps; simp only [List.flatMap_cons,List.length_append,ih,List.length_cons,zGN,List.length_nil]; omega
theorem zSn {a b:Nat} (h:zFA a=zFA b):a=b:=by
 unfold zFA at h
 injection h with h1 h2
 injection h1
theorem zPL {p:TP} (I:TIn p) {K:zAI} {W:CW} {e:Env} {ds:List Deferred} {i n ix b14 at_ fd used m:Nat} {vo:Value} {ps:List (Thg × Value)} {ty:ByteArray} (J:TJ p W at_ fd vo ps ds) (E:TE p e i used vo)
  (h14:e 14=.pointer (some ⟨b14,0,none⟩)) (h15:e 15=.int .i64 n) (hx:Blk W b14 56 [.string ty,.slice none 0 0]) (hB14:p.L.sz≤b14) (hne:∀ j,zA7 vo j→j≠b14) (hix:zBQ p.c ty=some ix) (hrow:zAN p.c ix=0→n≤(zAj p.c ix).length) (hn:n≤20100) (hat:at_≤p.b.length) (hfd:fd≤1000) (hi:i<1000)
  (hlen:ps.length=i)
  (hG:p.G=match zDF p.b p.c ix p.many n 0 at_ fd [] with | .error e=>.error e | .ok (vs,fd',a3)=>zCY p.b p.c p.ts p.many m (i+1) a3 used fd' (ps.map (·.1)++[⟨ty,vs⟩]))
  (hpan:∀ e' ds' W' x,Marks p.L.sz W' ds'→Chg (S2 p.rb p.b10) p.L W'→Top W'→p.G=.error x→K (.panic (zB5 x)) e' ds' W')
  (hok:∀ e' ds' W' at' fd' vo' q,TJ p W' at' fd' vo' (ps++[q]) ds'→TE p e' (i+1) used vo'→at'≤p.b.length→fd'≤1000→p.G=zCY p.b p.c p.ts p.many m (i+1) at' used fd' ((ps++[q]).map (·.1))→K .normal e' ds' W') :
  (zFl none K) .normal e ds W:=by
 obtain ⟨hl1,hl2⟩:=I.lts; have hs:=J.chg.sz; simp only [zFl,qKn,qKr,qKx,qKp,bKn,bKr,bKp,bKx,tKn,tKr,tKx,tKp,zKn,zKr,zKx,zKp]; rw [h15,h14]; refine zT2 u40 s3 z3 rfl by3 (by omega) (n:=n) (by omega) J.rd.top fun W1 k1 t1 z1 hBv=>?_; simp only [zCH,zAA]; have hx1:=hx.ext J.rd.top k1; refine zAX zYg (a:=⟨b14,0+1,none⟩) (v:=.slice (some ⟨W.sz,0,none⟩) n n) rfl hx1 (by simp) fun W2 hu hB2=>?_; have hu:Upd b14 W1 W2:=hu; have hB2:Blk W2 b14 56 [.string ty,.slice (some ⟨W.sz,0,none⟩) n n]:=by simpa [zDz] using hB2
 have h14l:=hx.lt J.rd.top; have t2:=t1.upd (hx1.lt t1) hu; have hu2:∀ j,j<W.sz→j≠b14→W2.obj j=W.obj j:=fun j hj hne=>by rw [hu.obj j hne,k1.obj j hj]
 have hC2:Chg (S2 p.rb p.b10) p.L W2:=⟨by rw [hu.sz]; have:=k1.sz; omega,fun j hj hS=>by rw [hu2 j (by omega) (by omega)]; exact J.chg.obj j hj hS⟩
 have hr2:Rd p.A W2 p.rb p.vb at_:=⟨(J.rd.kp.trans k1).upd (by have:=I.kA.sz; omega) hu,t2,J.rd.hb,J.rd.blk.congr (hu2 _ (by omega) (by omega))⟩
 have hbv2:Blk W2 W.sz 3 (zIu n []):=by
  rw [zSW]; exact hBv.congr (hu.obj _ (by omega))
 have J2:TJ p W2 at_ fd vo ps ds:=by
  refine ⟨hC2,hr2,J.f.congr (hu2 _ (by omega) (by omega)),⟨zIv J.heap.own fun j hj=>hu2 j (zH7 J.rd.top J.heap.own hj) (hne j hj),J.heap.new,fun q hq=>?_⟩,J.marks.chg fun j hj hB=>?_⟩
  ·obtain ⟨bv,h1,h2,h3⟩:=J.heap.pv q hq; exact ⟨bv,h1,h2.congr (hu2 _ (h2.lt J.rd.top) (by rintro rfl; have:=zAw h2 hx; cases this)),h3⟩
  ·rw [hu2 j (J.rd.top _ _ hj) (by
    rintro rfl; obtain ⟨c,nn,z,ho,_⟩:=hx
    rw [ho] at hj; cases hj)]
   exact hj
 obtain ⟨l3,B4,B3,B8,BT⟩:=I.at hC2; rw [E.e4,zMz B4,zA8 (vs:=[.string ty,.slice (some ⟨W.sz,0,none⟩) n n]) (a:=⟨b14,0,none⟩) a56 s56 rfl (by omega) hB2.cells]; simp only [zAA]; refine (zHe (r1:=p.r1) (r2:=p.r2) (ty:=ty) (vx:=.slice (some ⟨W.sz,0,none⟩) n n) t2).mono fun en W3 ⟨k3,t3,bk,bx,hen,hbk,hbx,hBk,hBx⟩=>?_; subst hen; refine zAY ?_; have z2:W.sz<W2.sz:=by rw [hu.sz,z1]; omega
 have hs3:=k3.sz; have J3:TJ p W3 at_ fd vo ps ds:=J2.step I k3.rd (hr2.kp' k3 t3); have hC3:=J3.chg; obtain ⟨l3',B4',B3',B8',BT'⟩:=I.at hC3; have hBx3:Blk W3 b14 56 [.string ty,.slice (some ⟨W.sz,0,none⟩) n n]:=hB2.ext t2 k3; have hbv3:Blk W3 W.sz 3 (zIu n []):=hbv2.ext t2 k3; have V:VIn p.A W3 p.rb p.b3 p.b8 p.b10 b14 W.sz n p.many ty:=⟨t3,B3',B8',hBx3,⟨I.hrb.1,I.hrb.2,by have:=I.kA.sz; omega⟩,⟨I.ne,by have:=I.c8.lt I.top; omega,by omega⟩,I.many⟩
 have nS:∀ j,W3.sz≤j→¬S3 p.rb p.b10 W.sz j:=by
  rintro j hj (rfl | rfl | rfl) <;> omega
 have mk:∀ W',Chg (S3 p.rb p.b10 W.sz) W3 W'→W'.obj W3.sz=some .deferred→(∀ j o,W.obj j=some o→p.L.sz≤j→j≠b14→W'.obj j=some o)∧Marks p.L.sz W' (zFA W3.sz::ds)∧Chg (S2 p.rb p.b10) p.L W':=by
  intro W' hc hd
  have hob:∀ j o,W.obj j=some o→p.L.sz≤j→j≠b14→W'.obj j=some o:=by
   intro j o hj hB hn14; have hjl:=J.rd.top _ _ hj; rw [hc.obj j (by omega) (by rintro (rfl | rfl | rfl) <;> omega),k3.obj j (by omega),hu2 j hjl hn14]; exact hj
  refine ⟨hob,Marks.push (J.marks.chg fun j hj hB=>?_) hd (by omega) fun hm=>?_,⟨by have:=hc.sz; omega,fun j hj hS=>by rw [hc.obj j (by omega) (by rintro (e | e | e); exact hS (.inl e); exact hS (.inr e); omega)]; exact hC3.obj j hj hS⟩⟩
  ·exact hob j _ hj hB (by
    rintro rfl; obtain ⟨c,nn,z,ho,_⟩:=hx
    rw [ho] at hj; cases hj)
  ·obtain ⟨rs,hrs,_,hr⟩:=J.marks; rw [hrs] at hm; obtain ⟨r,hr1,hr2⟩:=List.mem_map.1 hm; have:=zSn hr2; subst this; have:=J.rd.top _ _ (hr _ hr1).1; omega
 have fin:∀ (W':CW) at' fd' vs,VJ p.A W3 p.rb p.b10 W.sz n p.vb W' at' fd' vs→W'.obj W3.sz=some .deferred→vs.length=n→TJ p W' at' fd' vo ps (zFA W3.sz::ds)∧Blk W' W.sz 3 (zCt vs)∧Blk W' b14 56 [.string ty,.slice (some ⟨W.sz,0,none⟩) n n]:=by
  intro W' at' fd' vs hv hd hvl; obtain ⟨hob,hmk,hcL⟩:=mk W' hv.chg hd
  refine ⟨⟨hcL,hv.rd,hv.f,⟨zIv J.heap.own fun j hj=>?_,J.heap.new,fun q hq=>?_⟩,hmk⟩,?_,?_⟩
  ·obtain ⟨c,nn,z,ho,_⟩:=zB3 J.heap.own hj; rw [ho]; exact hob j _ ho (J.heap.new.in hj) (hne j hj)
  ·obtain ⟨bv,h1,h2,h3⟩:=J.heap.pv q hq; refine ⟨bv,h1,?_,h3⟩; obtain ⟨c,nn,z,ho,hx'⟩:=h2
   exact ⟨c,nn,z,hob bv _ ho h3 (by
    rintro rfl
    have:=zAw (⟨c,nn,z,ho,hx'⟩:Blk W bv 3 _) hx; cases this),hx'⟩
  ·rw [←zSX hvl]; exact hv.v
  ·refine hBx3.congr (hv.chg.obj _ (by omega) ?_); rintro (e | e | e) <;> omega
 have xr3:=J3.rd.blk; have xf3:=J3.f
 refine zR5 (bk:=bk) (bx:=bx) (r1:=p.r1) (r2:=p.r2) (n:=n) (ix:=ix) (c:=p.c) (ty:=ty) t3 rfl hix (by omega) hrow (fun ro e0 ds K W=>zVP ro e0 ds K W) ⟨by decide,by decide⟩
  (fun j W'=>W'.obj W3.sz=some .deferred∧W3.sz+2≤W'.sz∧∃ at' fd' vs,VJ p.A W3 p.rb p.b10 W.sz n p.vb W' at' fd' vs∧at'≤p.b.length∧fd'≤1000∧vs.length=j∧zDF p.b p.c ix p.many n 0 at_ fd []=zDF p.b p.c ix p.many (n-j) j at' fd' vs)
  (fun ch W'=>W'.obj W3.sz=some .deferred∧∃ x,ch=zB5 x∧Chg (S3 p.rb p.b10 W.sz) W3 W'∧Top W'∧zDF p.b p.c ix p.many n 0 at_ fd []=.error x)
  ?_ ?_ ?_ ?_ ?_ ?_
 ·rintro j W' ⟨_,_,at',fd',vs,hv,_⟩; have hk:=hv.chg.blk t3 (zOe hBk xr3 xf3 hbv3 (by decide) (by decide)) hBk; have hxx:=hv.chg.blk t3 (zOe hBx xr3 xf3 hbv3 (by decide) (by decide)) hBx; exact ⟨hk.cell rfl,hk.cell rfl,I.cat.kp I.rd.top hv.rd.kp,hxx.cell rfl,_,_,hxx.cell rfl⟩
 ·rintro j W1' W2' ⟨hd,hsz,at',fd',vs,hv,h1,h2,h3,h4⟩ hul _; refine ⟨by rw [hul.obj _ (by omega)]; exact hd,by rw [hul.sz]; exact hsz,at',fd',vs,⟨⟨by rw [hul.sz]; exact hv.chg.sz,fun j hj hS=>by rw [hul.obj j (by omega)]; exact hv.chg.obj j hj hS⟩,⟨hv.rd.kp.upd (by have:=I.kA.sz; omega) hul,hv.rd.top.upd (by omega) hul,hv.rd.hb,hv.rd.blk.congr (hul.obj _ (by omega))⟩,hv.f.congr (hul.obj _ (by omega)),hv.v.congr (hul.obj _ (by omega))⟩,h1,h2,h3,h4⟩
 ·rintro W4 k4 t4 z4 hd4; exact ⟨hd4,by omega,at_,fd,[],⟨Chg.of_kp k4,J3.rd.kp' k4 t4,xf3.ext t3 k4,hbv3.ext t3 k4⟩,hat,hfd,rfl,rfl⟩
 ·rintro j W1 Kb E' hE ha1 ha2 hj ⟨hd,hsz,at',fd',vs,hv,hat',hfd',hvl,hv2⟩ hlo hnorm hpanb
  refine zS8 (m:=n-j-1) (G:=zDF p.b p.c ix p.many n 0 at_ fd []) I.rd V xr3 xf3 hbv3 hv hat' hvl hj hfd' ((hE 3 (by decide) (by decide) (by decide) (by decide)).trans (by simp only [eKc,eKn,eKa,Nat.reduceEqDiff,↓reduceIte,gKz,gKs,dKs,and_self,E.e3])) ((hE 8 (by decide) (by decide) (by decide) (by decide)).trans (by simp only [eKc,eKn,eKa,Nat.reduceEqDiff,↓reduceIte,gKz,gKs,dKs,and_self,E.e8])) ((hE 10 (by decide) (by decide) (by decide) (by decide)).trans (by simp only [eKc,eKn,eKa,Nat.reduceEqDiff,↓reduceIte,gKz,gKs,dKs,and_self,E.e10])) ((hE 14 (by decide) (by decide) (by decide) (by decide)).trans (by simp only [eKc,eKn,eKa,Nat.reduceEqDiff,↓reduceIte,gKz,gKs,dKs,and_self,h14])) ha1 ha2 (by rw [hv2,Nat.sub_add_cancel (show 1≤n-j by omega)]) (fun e' W' at'' fd'' vs'' hcw hv' ha'' hf'' hl'' hG''=>?_) (fun e' W' x hcw hc' ht' hx'=>?_)
  ·have:=hcw.sz; exact hnorm e' [] W' (hcw.obj _ (by omega) (nS _ (by omega))) ⟨by rw [hcw.obj _ (by omega) (nS _ (by omega))]; exact hd,by omega,at'',fd'',vs'',hv',ha'',hf'',hl'',by rw [hG'',show n-j-1=n-(j+1) by omega]⟩
  ·exact hpanb _ e' W' (hcw.obj _ (by omega) (nS _ (by omega))) ⟨by rw [hcw.obj _ (by omega) (nS _ (by omega))]; exact hd,x,rfl,hc',ht',hx'⟩
 ·rintro W' ⟨hd,hsz,at',fd',vs,hv,hat',hfd',hvl,hv2⟩; rw [Nat.sub_self] at hv2; obtain ⟨JF,hBv',hBx'⟩:=fin W' at' fd' vs hv hd hvl; have hv2:zDF p.b p.c ix p.many n 0 at_ fd []=.ok (vs,fd',at'):=hv2; rw [hv2] at hG; simp only [zKW,qKn,qKr,qKx,qKp,bKn,bKr,bKp,bKx,tKn,tKr,tKx,tKp,zKn,zKr,zKx,zKp]; simp only [eKc,eKn,eKa,Nat.reduceEqDiff,↓reduceIte,gKz,gKs,dKs,and_self,h14,E.e11]; rw [zA8 (vs:=[.string ty,.slice (some ⟨W.sz,0,none⟩) n n]) (a:=⟨b14,0,none⟩) a56 s56 rfl (by omega) hBx'.cells]; simp only [zAA]; have hcl:=zDa ps; refine zGb u24 s56 z56 rfl (by omega) zYv (by omega) (zYB _ _ _ _) rfl rfl hv.rd.top JF.heap.own (by rw [hcl]; omega) fun u Wa v1' W10 ka ta hpu t10 o10 n10=>?_; have hz10:=hpu.sz; have hzv:=hv.chg.sz; have hpo:∀ j o,W'.obj j=some o→¬zA7 vo j→W10.obj j=some o:=fun j o hj hS=>by rw [hpu.chg.obj j (hv.rd.top _ _ hj) hS]; exact hj
  have hnS:∀ j,j<p.L.sz→¬zA7 vo j:=fun j hj hi=>by have:=J.heap.new.in hi; omega
  have hnB:∀ {j:Nat} {el:TypeId} {ws:List Value},Blk W' j el ws→el≠56→¬zA7 vo j:=fun hB he hi=>he (zAw hB (zB3 JF.heap.own hi))
  have keepB:∀ {j:Nat} {ws:List Value},Blk W' j 3 ws→Blk W10 j 3 ws:=fun {j ws} hB=>by
   obtain ⟨c,nn,z,ho,hx'⟩:=hB; exact ⟨c,nn,z,hpo j _ ho (hnB (⟨c,nn,z,ho,hx'⟩:Blk W' j 3 ws) (by decide)),hx'⟩
  simp only [zDN,qKn,qKr,qKx,qKp,bKn,bKr,bKp,bKx,tKn,tKr,tKx,tKp,zKn,zKr,zKx,zKp]; simp only [eKc,eKn,eKa,Nat.reduceEqDiff,↓reduceIte,gKz,gKs,dKs,and_self,E.e27,zAW,zAA]
  refine hok _ _ W10 at' fd' v1' (⟨ty,vs⟩,.slice (some ⟨W.sz,0,none⟩) n n) ⟨?_,⟨?_,t10,hv.rd.hb,?_⟩,keepB hv.f,⟨?_,n10 _ (by omega),fun q hq=>?_⟩,JF.marks.chg fun j hj hB=>?_⟩ ⟨?_,?_,?_,?_,?_,?_,?_,?_,?_⟩ hat' hfd' ?_
  ·exact JF.chg.then hpu.chg fun j hj hi=>(hnS j hj hi).elim
  ·exact hpu.kp hv.rd.kp fun b' l' c' e'=>by have:=J.heap.new b' l' c' e'; have:=I.kA.sz; omega
  ·exact hv.rd.blk.congr (hpu.chg.obj _ (by omega) (hnS _ hl1))
  ·rw [List.flatMap_append]
   simpa [zGN] using o10
  ·rcases List.mem_append.1 hq with hq | hq
   ·obtain ⟨bv,h1,h2,h3⟩:=JF.heap.pv q hq; exact ⟨bv,h1,keepB h2,h3⟩
   ·cases List.mem_singleton.1 hq
    exact ⟨W.sz,by rw [←hvl],keepB hBv',by omega⟩
  ·refine hpo j _ hj fun hi=>?_; obtain ⟨c,nn,z,ho,_⟩:=zB3 JF.heap.own hi; rw [ho] at hj; cases hj
  ·simp only [eKc,eKn,eKa,Nat.reduceEqDiff,↓reduceIte,gKz,gKs,dKs,and_self,E.e3]
  ·simp only [eKc,eKn,eKa,Nat.reduceEqDiff,↓reduceIte,gKz,gKs,dKs,and_self,E.e4]
  ·simp only [eKc,eKn,eKa,Nat.reduceEqDiff,↓reduceIte,gKz,gKs,dKs,and_self,E.e7]
  ·simp only [eKc,eKn,eKa,Nat.reduceEqDiff,↓reduceIte,gKz,gKs,dKs,and_self,E.e8]
  ·simp only [eKc,eKn,eKa,Nat.reduceEqDiff,↓reduceIte,gKz,gKs,dKs,and_self,E.e9]
  ·simp only [eKc,eKn,eKa,Nat.reduceEqDiff,↓reduceIte,gKz,gKs,dKs,and_self,E.e10]
  ·first | rfl | (simp only [eKc,eKn,eKa,Nat.reduceEqDiff,↓reduceIte,gKz,gKs,dKs,and_self])
  ·simp only [eKc,eKn,eKa,Nat.reduceEqDiff,↓reduceIte,gKz,gKs,dKs,and_self,E.e26]
  ·rw [zCT (by omega)]; rfl
  ·rw [hG,List.map_append]; rfl
 ·rintro ch W' ⟨hd,x,rfl,hc,ht',hx'⟩; obtain ⟨_,hmk,hcL⟩:=mk W' hc hd; simp only [zKW,zDN,qKn,qKr,qKx,qKp,bKn,bKr,bKp,bKx,tKn,tKr,tKx,tKp,zKn,zKr,zKx,zKp]; exact hpan _ _ W' x hmk hcL ht' (by rw [hG,hx'])
end Go.Ce
namespace Go.Ce
open Go Go.Proofs Go.Proofs.Tryz
theorem zWb (s:ByteArray):bld prog 56 [(0,.string s)]=some (.agg [.string s,.slice none 0 0].toArray):=by kernel_rfl
theorem zYk:siz prog 124=some 1:=by kernel_rfl
theorem zQK {c:List Shp} (C:Cat c) (i:Nat):(zAj c i).length≤20100:=by
 unfold zAj; rw [List.length_map]; exact zFj C.len C.fields i
theorem zLd {b:List UInt8} {ask:ByteArray→Option Int}:∀ {k at_:Nat} {out ts:List ByteArray} {a:Nat},zF9 b ask k at_ out=.ok (ts,a)→at_≤b.length→(∀ s,s ∈ ts→s ∈ out∨ask s=none)∧ts.length=k+out.length∧a≤b.length
 | 0,at_,out,ts,a,h,ha=>by cases h; exact ⟨fun s hs=>.inl hs,by omega,ha⟩
 | k+1,at_,out,ts,a,h,ha=>by
  unfold zF9 at h
  split at h
  ·cases h
  ·rename_i n a1 hn
   split at h
   ·cases h
   ·rename_i a2 ht
    split at h
    ·split at h
     ·cases h
     ·rename_i hask; obtain ⟨h1,h2,h3⟩:=zLd h (zNl ht).2; refine ⟨fun s hs=>?_,by rw [h2]; simp; omega,h3⟩
      rcases h1 s hs with h | h
      ·rcases List.mem_append.1 h with h | h
       ·exact .inl h
       ·rw [List.mem_singleton.1 h]; exact .inr hask
      ·exact .inr h
    ·cases h
theorem zQt {b:List UInt8} {ask:ByteArray→Option Int} {at_:Nat} {ts:List ByteArray} {a:Nat} (h:zFi b ask at_=.ok (ts,a)):(∀ s,s ∈ ts→ask s=none)∧ts.length≤100∧a≤b.length:=by
 unfold zFi at h
 split at h
 ·cases h
 ·split at h
  ·split at h
   ·cases h
   ·rename_i k a2 hn; obtain ⟨h1,h2,h3⟩:=zCd hn; obtain ⟨h4,h5,h6⟩:=zLd h h3; refine ⟨fun s hs=>?_,by simp at h5; omega,h6⟩
    rcases h4 s hs with h | h
    ·cases h
    ·exact h
  ·cases h
theorem zS9 {p:TP} (I:TIn p) {K:zAI} {e:Env} {W:CW} (h0:p.J 0 e [] W)
  (hpan:∀ e' ds' W' x,Marks p.L.sz W' ds'→Chg (S2 p.rb p.b10) p.L W'→Top W'→p.G=.error x→K (.panic (zB5 x)) e' ds' W')
  (hend:∀ e' ds' W',p.J p.many e' ds' W'→K (.exit 0) e' ds' W'):zCg prog pkL none 74 140 (.loop (zAS prog 74 0)) e [] W K:=by
 obtain ⟨hl1,hl2⟩:=I.lts; have hmany:=I.many; refine zCX p.J p.many h0 ?_; rintro i e ds W hi ⟨at_,fd,used,vo,ps,J,E,hat,hfd,hus,hlen,hG⟩; rw [zVN,E.e27,E.e26]; simp only [zAZ,zAA]; refine zGZ (fun hlt=>?_) (fun hge=>?_)
 rotate_left
 ·have:i=p.many:=by omega
  subst this; simp only [qKn,qKr,qKx,qKp,bKn,bKr,bKp,bKx,tKn,tKr,tKx,tKp,zKn,zKr,zKx,zKp]; exact hend _ ds W ⟨at_,fd,used,vo,ps,J,⟨by simp only [eKc,eKn,eKa,Nat.reduceEqDiff,↓reduceIte,gKz,gKs,dKs,and_self,E.e3],by simp only [eKc,eKn,eKa,Nat.reduceEqDiff,↓reduceIte,gKz,gKs,dKs,and_self,E.e4],by simp only [eKc,eKn,eKa,Nat.reduceEqDiff,↓reduceIte,gKz,gKs,dKs,and_self,E.e7],by simp only [eKc,eKn,eKa,Nat.reduceEqDiff,↓reduceIte,gKz,gKs,dKs,and_self,E.e8],by simp only [eKc,eKn,eKa,Nat.reduceEqDiff,↓reduceIte,gKz,gKs,dKs,and_self,E.e9],by simp only [eKc,eKn,eKa,Nat.reduceEqDiff,↓reduceIte,gKz,gKs,dKs,and_self,E.e10],by simp only [eKc,eKn,eKa,Nat.reduceEqDiff,↓reduceIte,gKz,gKs,dKs,and_self,E.e11],by simp only [eKc,eKn,eKa,Nat.reduceEqDiff,↓reduceIte,gKz,gKs,dKs,and_self,E.e26],by simp only [eKc,eKn,eKa,Nat.reduceEqDiff,↓reduceIte,gKz,gKs,dKs,and_self,E.e27]⟩,hat,hfd,hus,hlen,hG⟩
 ·obtain ⟨m,hm⟩:∃ m,p.many-i=m+1:=⟨p.many-i-1,by omega⟩
  rw [hm,zCY] at hG; have pan:∀ e' W' x,Marks p.L.sz W' ds→Chg (S2 p.rb p.b10) p.L W'→Top W'→p.G=.error x→(zJQ p.J i p.many K) (.panic (zB5 x)) e' ds W':=fun e' W' x h1 h2 h3 h4=>hpan e' ds W' x h1 h2 h3 h4; obtain ⟨l3,B4,B3,B8,BT⟩:=I.at J.chg; have l10:ld prog 3 (.pointer (some ⟨p.b10,0,none⟩)) W=some (.int .i64 fd):=zAB a3 (a:=⟨p.b10,0,none⟩) (J.f.cell rfl); rw [E.e10,l10]; simp only [zAZ,zAA]; refine zDU (fun hb=>?_) (fun hb=>?_)
  rotate_left
  ·have hb:¬i<fd:=by have:=of_decide_eq_false hb; omega
   rw [if_neg hb] at hG; simp only [zDN,qKn,qKr,qKx,qKp,bKn,bKr,bKp,bKx,tKn,tKr,tKx,tKp,zKn,zKr,zKx,zKp]; exact hpan _ ds W 4 J.marks J.chg J.rd.top hG
  have hb:i<fd:=by have:=of_decide_eq_true hb; omega
  rw [if_pos hb] at hG; rw [E.e3,l3,E.e7,zNz u51 BT,zFv]; simp only [zCD,zAA]; have htl:=I.tl; rw [zBU (by omega) (by omega),E.e9]; refine zDV (zR4 _ _ W) ?_; refine (zEb I.rd J.rd hat).mono fun en W1 ⟨hc1,t1,hp⟩=>?_
  cases hn:zER p.b at_ (min (used:Int) ((p.ts.length:Int)-1)) with
  | error x =>
   rw [hn] at hp hG; have hp:en=.panicked (zB5 x):=hp; subst hp; refine zBt ?_; simp only [zDN,qKn,qKr,qKx,qKp,bKn,bKr,bKp,bKx,tKn,tKr,tKx,tKp,zKn,zKr,zKx,zKp]; refine hpan _ ds W1 x (J.marks.chg fun j hj hB=>?_) (J.chg.then hc1 fun j _ h=>.inl h) t1 hG; rw [hc1.obj j (J.rd.top _ _ hj) (fun h=>by have h:j=p.rb:=h; omega)]; exact hj
  | ok r =>
   obtain ⟨t,a1⟩:=r; rw [hn] at hp hG; obtain ⟨v,rfl,rfl,hr1⟩:=hp; obtain ⟨htm,_,ha1⟩:=zCd hn; have htl':t<p.ts.length:=by omega
   have htu:t≤used:=by omega
   refine zAY ?_; have J1:TJ p W1 a1 fd vo ps ds:=J.step I hc1 hr1; obtain ⟨l3',B4',B3',B8',BT'⟩:=I.at J1.chg; simp only at hG; have hty:=List.getElem?_eq_getElem htl'; rw [hty] at hG; simp only at hG; obtain ⟨ix,hix⟩:=Option.isSome_iff_exists.1 (I.known _ (List.getElem_mem htl')); rw [hix] at hG; simp only at hG; generalize hgt:p.ts[t]=ty at hG hix
   have k36:∀ (e1:Env) (used':Nat),TE p e1 i used' vo→e1 13=.int .i64 t→used'=(if t=used then used+1 else used)→(zKV none (zJQ p.J i p.many K)) .normal e1 ds W1:=by
    intro e1 used' E1 h13 hu'; rw [←hu'] at hG; have hus':used'≤p.ts.length:=by rw [hu']; split <;> omega
    simp only [zKV,qKn,qKr,qKx,qKp,bKn,bKr,bKp,bKx,tKn,tKr,tKx,tKp,zKn,zKr,zKx,zKp]; obtain ⟨ao,co,hvt,hoc⟩:=zEe (f:=fun (s:ByteArray)=>Value.string s) BT'; obtain ⟨q,rfl,hq⟩:=hoc t _ hty; rw [hgt] at hq; rw [E1.e7,h13,hvt,zAb u51 s9 htl']; simp only [zAA]; rw [zAB a9 (a:=⟨q.block,q.off+t*1,none⟩) hq]; simp only [zAA]; refine zAu (zWb _) ?_; refine zBx (ws:=[.string ty,.slice none 0 0]) z56 s56 rfl rfl rfl t1 fun W2 k2 t2 z2 hB14=>?_; have hr2:=hr1.kp' k2 t2; have J2:TJ p W2 a1 fd vo ps ds:=J1.step I k2.rd hr2; obtain ⟨l3'',B4'',B3'',B8'',BT''⟩:=I.at J2.chg; have cat2:=I.cat.kp I.rd.top hr2.kp; obtain ⟨ea,eb,ef,eg,hel⟩:=cat2.sh.elem hix; obtain ⟨ar,cr,lr,hrr⟩:=cat2.rw.some hix; have l9:ld prog 9 (.pointer (some ⟨W1.sz,0,none⟩)) W2=some (.string ty):=zAB a9 (a:=⟨W1.sz,0,none⟩) (hB14.cell rfl); have l76:ld prog 76 (.pointer (some ⟨p.b4,0+1,none⟩)) W2=some (.map (some p.r2)):=zAB a76 (a:=⟨p.b4,0+1,none⟩) (B4''.cell rfl); have l75:ld prog 75 (.pointer (some ⟨p.b4,0,none⟩)) W2=some (.map (some p.r1)):=zAB a75 (a:=⟨p.b4,0,none⟩) (B4''.cell rfl); rw [E1.e4]; simp only [zD6,zDL,zCU,zAA,l76,l75,l9,lr,hel,zAT u29,zGu,zBW]; have hne14:∀ j,zA7 vo j→j≠W1.sz:=fun j hj e=>by have:=zH7 t1 J1.heap.own hj; omega
    have hl14:p.L.sz≤W1.sz:=J1.chg.sz
    have go:∀ (e2:Env) (W3:CW) (a2 n:Nat),TJ p W3 a2 fd vo ps ds→TE p e2 i used' vo→e2 14=.pointer (some ⟨W1.sz,0,none⟩)→e2 15=.int .i64 n→Blk W3 W1.sz 56 [.string ty,.slice none 0 0]→a2≤p.b.length→(zAN p.c ix=0→n≤(zAj p.c ix).length)→n≤20100 →
      (if zAN p.c ix≠0 then zER p.b a1 200 else .ok ((zAj p.c ix).length,a1))=.ok (n,a2)→(zFl none (zJQ p.J i p.many K)) .normal e2 ds W3:=by
     intro e2 W3 a2 n J3 E2 h14 h15 hB3 ha2 hrow hn20 hsel; rw [hsel] at hG; refine zPL I (m:=m) J3 E2 h14 h15 hB3 hl14 hne14 hix hrow hn20 ha2 hfd (by omega) hlen hG (fun e' ds' W' x h1 h2 h3 h4=>hpan e' ds' W' x h1 h2 h3 h4) (fun e' ds' W' at' fd' vo' q hJ' hE' ha' hf' hG'=>?_); refine ⟨hlt,at',fd',used',vo',ps++[q],hJ',hE',ha',hf',hus',by simp [hlen],?_⟩; rw [hG',show p.many-(i+1)=m by omega]
    refine zAH (fun hel0=>?_) (fun hel0=>?_)
    ·have hel0:zAN p.c ix≠0:=by simpa using hel0
     rw [E1.e3,l3'']; simp only [zAA]; refine (zEb (most:=200) I.rd hr2 ha1).mono fun en W3 ⟨hc3,t3,hp⟩=>?_
     cases hn2:zER p.b a1 200 with
     | error x =>
      rw [hn2] at hp; have hp:en=.panicked (zB5 x):=hp; subst hp; rw [if_pos hel0,hn2] at hG; refine zBt ?_; simp only [zFl,zDN,qKn,qKr,qKx,qKp,bKn,bKr,bKp,bKx,tKn,tKr,tKx,tKp,zKn,zKr,zKx,zKp]; refine hpan _ ds W3 x (J2.marks.chg fun j hj hB=>?_) (J2.chg.then hc3 fun j _ h=>.inl h) t3 hG; rw [hc3.obj j (t2 _ _ hj) (fun h=>by have h:j=p.rb:=h; omega)]; exact hj
     | ok r =>
      obtain ⟨n,a2⟩:=r; rw [hn2] at hp; obtain ⟨v,rfl,rfl,hr3⟩:=hp; obtain ⟨hn200,_,ha2⟩:=zCd hn2; refine zAY ?_; refine go _ W3 a2 n (J2.step I hc3 hr3) ⟨by simp only [eKc,eKn,eKa,Nat.reduceEqDiff,↓reduceIte,gKz,gKs,dKs,and_self,E1.e3],by simp only [eKc,eKn,eKa,Nat.reduceEqDiff,↓reduceIte,gKz,gKs,dKs,and_self,E1.e4],by simp only [eKc,eKn,eKa,Nat.reduceEqDiff,↓reduceIte,gKz,gKs,dKs,and_self,E1.e7],by simp only [eKc,eKn,eKa,Nat.reduceEqDiff,↓reduceIte,gKz,gKs,dKs,and_self,E1.e8],by simp only [eKc,eKn,eKa,Nat.reduceEqDiff,↓reduceIte,gKz,gKs,dKs,and_self,E1.e9],by simp only [eKc,eKn,eKa,Nat.reduceEqDiff,↓reduceIte,gKz,gKs,dKs,and_self,E1.e10],by simp only [eKc,eKn,eKa,Nat.reduceEqDiff,↓reduceIte,gKz,gKs,dKs,and_self,E1.e11],by simp only [eKc,eKn,eKa,Nat.reduceEqDiff,↓reduceIte,gKz,gKs,dKs,and_self,E1.e26],by simp only [eKc,eKn,eKa,Nat.reduceEqDiff,↓reduceIte,gKz,gKs,dKs,and_self,E1.e27]⟩ (by simp only [eKc,eKn,eKa,Nat.reduceEqDiff,↓reduceIte,gKz,gKs,dKs,and_self]) (by simp only [eKc,eKn,eKa,Nat.reduceEqDiff,↓reduceIte,gKz,gKs,dKs,and_self]) (hB14.congr (hc3.obj _ (by omega) (fun h=>by have h:W1.sz=p.rb:=h; omega))) ha2 (fun h=>(hel0 h).elim) (by omega) (by rw [if_pos hel0,hn2])
    ·have hel0:zAN p.c ix=0:=by simpa using hel0
     refine go _ W2 a1 _ J2 ⟨by simp only [eKc,eKn,eKa,Nat.reduceEqDiff,↓reduceIte,gKz,gKs,dKs,and_self,E1.e3],by simp only [eKc,eKn,eKa,Nat.reduceEqDiff,↓reduceIte,gKz,gKs,dKs,and_self,E1.e4],by simp only [eKc,eKn,eKa,Nat.reduceEqDiff,↓reduceIte,gKz,gKs,dKs,and_self,E1.e7],by simp only [eKc,eKn,eKa,Nat.reduceEqDiff,↓reduceIte,gKz,gKs,dKs,and_self,E1.e8],by simp only [eKc,eKn,eKa,Nat.reduceEqDiff,↓reduceIte,gKz,gKs,dKs,and_self,E1.e9],by simp only [eKc,eKn,eKa,Nat.reduceEqDiff,↓reduceIte,gKz,gKs,dKs,and_self,E1.e10],by simp only [eKc,eKn,eKa,Nat.reduceEqDiff,↓reduceIte,gKz,gKs,dKs,and_self,E1.e11],by simp only [eKc,eKn,eKa,Nat.reduceEqDiff,↓reduceIte,gKz,gKs,dKs,and_self,E1.e26],by simp only [eKc,eKn,eKa,Nat.reduceEqDiff,↓reduceIte,gKz,gKs,dKs,and_self,E1.e27]⟩ (by simp only [eKc,eKn,eKa,Nat.reduceEqDiff,↓reduceIte,gKz,gKs,dKs,and_self]) (by simp only [eKc,eKn,eKa,Nat.reduceEqDiff,↓reduceIte,gKz,gKs,dKs,and_self]) hB14 ha1 (fun _=>Nat.le_refl _) (zQK I.C ix) (by rw [if_neg (by simp [hel0])])
   refine zAu (zAz _ _ _) ?_
   refine zAH (fun hq=>?_) (fun hq=>?_)
   ·have hq:t=used:=by have:=eq_of_beq hq; omega
    simp only [zAW,zAA]; refine k36 _ (used+1) ⟨by simp only [eKc,eKn,eKa,Nat.reduceEqDiff,↓reduceIte,gKz,gKs,dKs,and_self,E.e3],by simp only [eKc,eKn,eKa,Nat.reduceEqDiff,↓reduceIte,gKz,gKs,dKs,and_self,E.e4],by simp only [eKc,eKn,eKa,Nat.reduceEqDiff,↓reduceIte,gKz,gKs,dKs,and_self,E.e7],by simp only [eKc,eKn,eKa,Nat.reduceEqDiff,↓reduceIte,gKz,gKs,dKs,and_self,E.e8],?_,by simp only [eKc,eKn,eKa,Nat.reduceEqDiff,↓reduceIte,gKz,gKs,dKs,and_self,E.e10],by simp only [eKc,eKn,eKa,Nat.reduceEqDiff,↓reduceIte,gKz,gKs,dKs,and_self,E.e11],by simp only [eKc,eKn,eKa,Nat.reduceEqDiff,↓reduceIte,gKz,gKs,dKs,and_self,E.e26],by simp only [eKc,eKn,eKa,Nat.reduceEqDiff,↓reduceIte,gKz,gKs,dKs,and_self,E.e27]⟩ (by simp only [eKc,eKn,eKa,Nat.reduceEqDiff,↓reduceIte,gKz,gKs,dKs,and_self]) (by rw [if_pos hq]); rw [zCT (by omega)]; rfl
   ·have hq:¬t=used:=by rintro rfl; simp at hq
    exact k36 _ used ⟨by simp only [eKc,eKn,eKa,Nat.reduceEqDiff,↓reduceIte,gKz,gKs,dKs,and_self,E.e3],by simp only [eKc,eKn,eKa,Nat.reduceEqDiff,↓reduceIte,gKz,gKs,dKs,and_self,E.e4],by simp only [eKc,eKn,eKa,Nat.reduceEqDiff,↓reduceIte,gKz,gKs,dKs,and_self,E.e7],by simp only [eKc,eKn,eKa,Nat.reduceEqDiff,↓reduceIte,gKz,gKs,dKs,and_self,E.e8],by simp only [eKc,eKn,eKa,Nat.reduceEqDiff,↓reduceIte,gKz,gKs,dKs,and_self,E.e9],by simp only [eKc,eKn,eKa,Nat.reduceEqDiff,↓reduceIte,gKz,gKs,dKs,and_self,E.e10],by simp only [eKc,eKn,eKa,Nat.reduceEqDiff,↓reduceIte,gKz,gKs,dKs,and_self,E.e11],by simp only [eKc,eKn,eKa,Nat.reduceEqDiff,↓reduceIte,gKz,gKs,dKs,and_self,E.e26],by simp only [eKc,eKn,eKa,Nat.reduceEqDiff,↓reduceIte,gKz,gKs,dKs,and_self,E.e27]⟩ (by simp only [eKc,eKn,eKa,Nat.reduceEqDiff,↓reduceIte,gKz,gKs,dKs,and_self]) (by rw [if_neg hq])
end Go.Ce
namespace Go.Ce
open Go Go.Proofs Go.Proofs.Tryz
theorem zQU {W W':CW} {v:Value} {ts:List ByteArray} (h:Own W 9 1 v (zK2 ts)):zAm prog 51 v W'=some (.int .i64 ts.length):=by
 rw [zNz u51 h,zFv]
theorem zMe {A W:CW} {rb at_ r1 r2:Nat} {vb vf:Value} {b:List UInt8} {c:List Shp} {ask:ByteArray→Option Int} (I:RdIn A vb b) (h:Rd A W rb vb at_) (ha:at_≤b.length) (hask:zUu A vf ask) (hak:∀ s,ask s=none→(zBQ c s).isSome=true) (hcat:CatAt A r1 r2 c) (hok:zA9 c=true) (hC:Cat c) :
  WCall prog pkL 74 [.pointer (some ⟨rb,0,none⟩),zI2 r1 r2,vf] W (zHU A rb vb (fun v xs W'=>∃ ps,ps.map (·.1)=xs∧HeapAt W.sz W' v ps) (zBC b c ask at_) W):=by
 refine zXK ?_; rw [zXL]; generalize hPost:zHU A rb vb (fun v xs W'=>∃ ps,ps.map (·.1)=xs∧HeapAt W.sz W' v ps) (zBC b c ask at_) W=Post; generalize hKK:zAE prog Tryz.f74 Post=KK; have hrbl:=h.blk.lt h.top
 have hpan:∀ (e:Env) (ds:List Deferred) W' x,Marks W.sz W' ds→Chg (RdS rb) W W'→Top W'→zBC b c ask at_=.error x→KK (.panic (zB5 x)) e ds W':=by
  intro e ds W' x hm hc ht hn; rw [←hKK]; refine zIC ht hm fun W2 h1 h2 h3 t2=>?_; show Post (.panicked (zB5 x)) W2; rw [←hPost]; refine ⟨⟨by rw [h3]; exact hc.sz,fun j hj hS=>by rw [h2 j hj]; exact hc.obj j hj hS⟩,t2,?_⟩; rw [hn]
 unfold zI2; refine zDC zYk h.top fun W0 k0 t0 z0 hB3=>?_; have hB3:Blk W0 W.sz 124 [.pointer (some ⟨rb,0,none⟩)]:=hB3; refine zDC s78 t0 fun W1 k1 t1 z1 hB4=>?_; have hB4:Blk W1 W0.sz 78 [.map (some r1),.map (some r2)]:=hB4; have hr1:=(h.kp' k0 t0).kp' k1 t1; have hB3:=hB3.ext t0 k1; have l3:∀ W',W'.obj W.sz=W1.obj W.sz→ld prog 124 (.pointer (some ⟨W.sz,0,none⟩)) W'=some (.pointer (some ⟨rb,0,none⟩)):=fun W' ho=>zAB zYK (a:=⟨W.sz,0,none⟩) ((hB3.congr ho).cell rfl); rw [l3 W1 rfl]; simp only [zAA]; have hc1:Chg (RdS rb) W W1:=(k0.trans k1).rd; refine (zUW I hr1 ha hask).mono fun en W2 ⟨hc2,t2,hp⟩=>?_; have hC2:=hc1.rd hc2
 cases hh:zFi b ask at_ with
 | error x =>
  rw [hh] at hp; have hp:en=.panicked (zB5 x):=hp; subst hp; refine zBt ?_; exact hpan _ [] W2 x (.nil _ _) hC2 t2 (by unfold zBC; rw [hh])
 | ok r =>
  obtain ⟨ts,a1⟩:=r; rw [hh] at hp; obtain ⟨vt,rfl,⟨hvt,hnt⟩,hr2⟩:=hp; obtain ⟨hts,htl,ha1⟩:=zQt hh; refine zAY ?_; have h12:∀ j,j<W1.sz→j≠rb→W2.obj j=W1.obj j:=fun j hj hne=>hc2.obj j hj hne; rw [l3 W2 (h12 _ (by omega) (by omega))]; simp only [zAA]; refine (zEb (most:=1000) I hr2 ha1).mono fun en W4 ⟨hc4,t4,hp⟩=>?_; have hC4:=hC2.rd hc4
  cases hn:zER b a1 1000 with
  | error x =>
   rw [hn] at hp; have hp:en=.panicked (zB5 x):=hp; subst hp; refine zBt ?_; exact hpan _ [] W4 x (.nil _ _) hC4 t4 (by unfold zBC; rw [hh]; simp only; rw [hn])
  | ok r =>
   obtain ⟨many,a2⟩:=r; rw [hn] at hp; obtain ⟨v,rfl,rfl,hr4⟩:=hp; obtain ⟨hmany,_,ha2⟩:=zCd hn; have hs1:W.sz<W1.sz:=by omega
   have hs2:=hc2.sz; have hs4:=hc4.sz; refine zAY ?_; refine zFa z3 s3 t4 fun W6 k6 t6 z6 hB8=>?_; have hB8:Blk W6 W4.sz 3 [.int .i64 0]:=hB8; refine zAX s3 (a:=⟨W4.sz,0,none⟩) (v:=.int .i64 many) rfl hB8 (by simp) fun W7 hu7 hB8=>?_; have hu7:Upd W4.sz W6 W7:=hu7; have hB8:Blk W7 W4.sz 3 [.int .i64 many]:=hB8; have t7:=t6.upd (by omega) hu7; have z7:W7.sz=W4.sz+1:=by rw [hu7.sz,z6]
   have kn:Kp W7 (W7.new (.cells .nil 1 #[.int .i64 0] 3)):=.new _; have tn:=t7.new (.cells .nil 1 #[.int .i64 0] 3); have hon:(W7.new (.cells .nil 1 #[.int .i64 0] 3)).obj W7.sz=some (.cells .nil 1 #[.int .i64 0] 3):=by rw [zAp,if_pos rfl]
   have hBn:Blk (W7.new (.cells .nil 1 #[.int .i64 0] 3)) W7.sz 3 [.int .i64 0]:=⟨.nil,1,_,hon,rfl,fun k v hk=>by
    match k,hk with
    | 0,hk=>cases hk; rfl⟩
   have hszn:(W7.new (.cells .nil 1 #[.int .i64 0] 3)).sz=W7.sz+1:=rfl; have hfl:zM7 (.pointer (some ⟨W7.sz,0,none⟩)) ((W7.new (.cells .nil 1 #[.int .i64 0] 3)).obj W7.sz) (W7.new (.cells .nil 1 #[.int .i64 0] 3))=true:=zGC hon rfl; generalize hAn:W7.new (.cells .nil 1 #[.int .i64 0] 3)=An at kn tn hon hBn hszn hfl ⊢; have l8:∀ W',W'.obj W4.sz=W7.obj W4.sz→ld prog 3 (.pointer (some ⟨W4.sz,0,none⟩)) W'=some (.int .i64 many):=fun W' ho=>zAB a3 (a:=⟨W4.sz,0,none⟩) ((hB8.congr ho).cell rfl); have ho8:=kn.obj W4.sz (by omega); rw [l8 An ho8]; simp only [zAA]; refine zDV (zR4 _ _ An) ?_; rw [show min (many:Int) 1=((min many 1:Nat):Int) by omega]; refine ⟨trivial,?_⟩; refine zAX s3 (a:=⟨W7.sz,0,none⟩) (v:=.int .i64 ((min many 1:Nat):Int)) rfl hBn (by simp) fun L hu9 hB10=>?_; have hu9:Upd W7.sz An L:=hu9; have hB10:Blk L W7.sz 3 [.int .i64 ((min many 1:Nat):Int)]:=hB10; refine ⟨by simp only [l8 An ho8,and_self],by simp only [hfl,and_self],?_⟩; have hoL:∀ j,j<W7.sz→L.obj j=W7.obj j:=fun j hj=>by rw [hu9.obj j (by omega),kn.obj j hj]
   rw [l8 L (hoL _ (by omega))]; simp only [zAA]; have tL:=tn.upd (by omega) hu9; have zL:L.sz=W7.sz+1:=by rw [hu9.sz,hszn]
   have ho4:∀ j,j<W4.sz→L.obj j=W4.obj j:=fun j hj=>by rw [hoL j (by omega),hu7.obj j (by omega),k6.obj j hj]
   have k4L:Kp W4 L:=⟨by omega,ho4⟩
   have hCL:Chg (RdS rb) W L:=hC4.rd k4L.rd; have hrL:=hr4.kp' k4L tL; have h14:∀ j,j<W1.sz→j≠rb→L.obj j=W1.obj j:=fun j hj hne=>by rw [ho4 j (by omega),hc4.obj j (by omega) hne,h12 j hj hne]
   have hvt4:Own L 9 1 vt (zK2 ts):=zIv hvt fun j hj=>by
    have:=zH7 t2 hvt hj; have hne:j≠rb:=by rintro rfl; have:=zAw hr2.blk (zB3 hvt hj); cases this
    rw [ho4 j (by omega),hc4.obj j this hne]
   let p:TP:={ A:=A,L:=L,rb:=rb,b3:=W.sz,b4:=W0.sz,b8:=W4.sz,b10:=W7.sz,r1:=r1,r2:=r2,vb:=vb,vt:=vt,b:=b,c:=c,ts:=ts,many:=many,G:=zCY b c ts many many 0 a2 0 (min many 1) [] }
   have hAW:=h.kp.sz; have IN:TIn p:=⟨I,hcat,hok,hC,tL,hrL.kp,hB3.congr (h14 _ (by omega) (by omega)),hB4.congr (h14 _ (by omega) (by omega)),hB8.congr (hoL _ (by omega)),hvt4,htl,fun s hs=>hak s (hts s hs),⟨_,hrL.blk⟩,⟨_,hB10⟩,⟨h.hb,by show A.sz≤W7.sz; omega⟩,by show W4.sz≠W7.sz; omega,by show many≤1000; omega⟩
   have J0:TJ p L a2 (min many 1) (.slice none 0 0) [] []:=⟨.refl _ _,hrL,hB10,⟨Own.nil,Newer.nil _ _ _,fun q hq=>by cases hq⟩,.nil _ _⟩
   have hcW:∀ W',Chg (S2 p.rb p.b10) p.L W'→Chg (RdS rb) W W':=fun W' hc=>⟨by have:=hc.sz; have:L.sz≤W'.sz:=this; omega,fun j hj hS=>by
    rw [hc.obj j (show j<L.sz by omega) (by
     rintro (e | e)
     ·exact hS e
     ·have e:j=W7.sz:=e
      omega),]
    exact hCL.obj j hj hS⟩
   have hmW:∀ W' ds,Marks p.L.sz W' ds→Marks W.sz W' ds:=fun W' ds ⟨rs,h1,h2,h3⟩=>⟨rs,h1,h2,fun r hr=>⟨(h3 r hr).1,by have:L.sz≤r:=(h3 r hr).2; omega⟩⟩
   have hR:zBC b c ask at_=match p.G with | .error e=>.error e | .ok (out,used,fd,a3)=>if fd=many∧used=ts.length∧a3=b.length then .ok (out,a3) else .error 4:=by
    unfold zBC; rw [hh]; simp only; rw [hn] <;> rfl
   refine zS9 IN ⟨a2,min many 1,0,.slice none 0 0,[],J0,⟨rfl,rfl,rfl,rfl,rfl,rfl,rfl,rfl,rfl⟩,ha2,by omega,Nat.zero_le _,rfl,rfl⟩ (fun e' ds' W' x h1 h2 h3 h4=>?_) (fun e' ds' W' hj=>?_)
   ·simp only [bKp,zNF,qKp]; exact hpan e' ds' W' x (hmW _ _ h1) (hcW _ h2) h3 (by rw [hR,h4])
   ·obtain ⟨at',fd',used',vo,ps,J,E,hat',hfd',hus',hpl,hG⟩:=hj; have hG:p.G=zCY b c ts many (many-many) many at' used' fd' (ps.map (·.1)):=hG; rw [Nat.sub_self] at hG; have hG:p.G=.ok (ps.map (·.1),used',fd',at'):=hG; rw [hG] at hR; have hR:zBC b c ask at_=if fd'=many∧used'=ts.length∧at'=b.length then .ok (ps.map (·.1),at') else .error 4:=hR; obtain ⟨q3,Q4,Q3,Q8,QT⟩:=IN.at J.chg; have q10:ld prog 3 (.pointer (some ⟨W7.sz,0,none⟩)) W'=some (.int .i64 fd'):=zAB a3 (a:=⟨W7.sz,0,none⟩) (J.f.cell rfl); have q8:ld prog 3 (.pointer (some ⟨W4.sz,0,none⟩)) W'=some (.int .i64 many):=zAB a3 (a:=⟨W4.sz,0,none⟩) (Q8.cell rfl); have q3:ld prog 124 (.pointer (some ⟨W.sz,0,none⟩)) W'=some (.pointer (some ⟨rb,0,none⟩)):=q3; have e3:e' 3=.pointer (some ⟨W.sz,0,none⟩):=E.e3; have e7:e' 7=vt:=E.e7; have e8:e' 8=.pointer (some ⟨W4.sz,0,none⟩):=E.e8; have e10:e' 10=.pointer (some ⟨W7.sz,0,none⟩):=E.e10; have qT:zAm prog 51 vt W'=some (.int .i64 ts.length):=zQU QT; simp only [bKx,if_true,zNF,qKn,e3,e7,e8,e10,E.e9,q10,q8,zAz,zAA]
    have bad:∀ e2,¬(fd'=many∧used'=ts.length∧at'=b.length)→(zD9 none KK) (.panic (zB5 4)) e2 ds' W':=by
     intro e2 hno; simp only [zD9,qKp]; exact hpan _ ds' W' 4 (hmW _ _ J.marks) (hcW _ J.chg) J.rd.top (by rw [hR,if_neg hno])
    refine zAH (fun h1=>?_) (fun h1=>?_)
    ·have h1:fd'=many:=by have:=eq_of_beq h1; omega
     simp only [qT,zAA,zAz]
     refine zAH (fun h2=>?_) (fun h2=>?_)
     ·have h2:used'=ts.length:=by have:=eq_of_beq h2; omega
      obtain ⟨av,cv,hvb,_,_⟩:=I.sl; have lb:zAm prog 29 vb W'=some (.int .i64 b.length):=by rw [hvb]; exact zAT u29 _ _ _ _
      have ld0':ld prog 29 (.pointer (some ⟨rb,0,none⟩)) W'=some vb:=J.rd.ld0; have ld1':ld prog 3 (.pointer (some ⟨rb,0+1,none⟩)) W'=some (.int .i64 at'):=J.rd.ld1; simp only [q3,zBX,zOB,zOA,zAA,ld0',ld1',lb,zAz]
      refine zDU (fun h3=>?_) (fun h3=>?_)
      ·have h3:at'=b.length:=by have:=eq_of_beq h3; omega
       refine ⟨by simp only [and_self],trivial,?_⟩; simp only [zD9,qKn]; rw [←hKK]; refine zIC J.rd.top (hmW _ _ J.marks) fun W2 g1 g2 g3 t2'=>?_; rw [zQ4,←hPost]; have hcWW:=hcW _ J.chg; refine ⟨⟨by rw [g3]; exact hcWW.sz,fun j hj hS=>by rw [g2 j hj]; exact hcWW.obj j hj hS⟩,t2',?_⟩; rw [hR,if_pos ⟨h1,h2,h3⟩]; have hz:p.L.sz=L.sz:=rfl
       refine ⟨_,rfl,⟨ps,rfl,?_⟩,⟨⟨by rw [g3]; exact J.rd.kp.sz,fun j hj=>by rw [g2 j (by omega)]; exact J.rd.kp.obj j hj⟩,t2',h.hb,?_⟩⟩
       ·have hH:=J.heap.of fun j o hB hj ho=>g1 j o hj ho; simp only [eKc,eKn,eKa,Nat.reduceEqDiff,↓reduceIte,gKz,gKs,dKs,and_self,E.e11]
        refine ⟨hH.own,fun b' l' c' e=>?_,fun q hq=>?_⟩
        ·have:=hH.new b' l' c' e; omega
        ·obtain ⟨bv,k1,k2,k3⟩:=hH.pv q hq; exact ⟨bv,k1,k2,by omega⟩
       ·obtain ⟨cc,nn,zz,ho,hx⟩:=J.rd.blk; exact ⟨cc,nn,zz,g1 _ _ ho (by simp),hx⟩
      ·have h3:¬at'=b.length:=by rintro rfl; simp at h3
       exact ⟨by simp only [and_self],bad _ fun hh=>h3 hh.2.2⟩
     ·have h2:¬used'=ts.length:=by rintro rfl; simp at h2
      refine zDU (fun hf=>by cases hf) (fun _=>?_); exact ⟨by simp only [and_self],bad _ fun hh=>h2 hh.2.1⟩
    ·have h1:¬fd'=many:=by rintro rfl; simp at h1
     refine zDU (fun hf=>by cases hf) (fun _=>?_); exact ⟨by simp only [and_self],bad _ fun hh=>h1 hh.1⟩
end Go.Ce
namespace Go.Ce
open Go Go.Proofs Go.Proofs.Tryz
theorem zVD (v:Value):zAL prog .neq 20 true (.iface 167 v) .nilIface=some (.bool true):=by kernel_rfl
theorem zVC:zAL prog .neq 20 true .nilIface .nilIface=some (.bool false):=by kernel_rfl
theorem zU3 (v:Value):tas prog 167 (.iface 167 v) true=some (.tuple #[v,.bool true]):=by kernel_rfl
theorem zYd:zer prog 167=some (.agg #[.int .i64 0]):=by kernel_rfl
theorem zYi:siz prog 167=some 1:=by kernel_rfl
theorem zVJ (a:Addr):fad prog 167 (.pointer (some a)) 0=some (.pointer (some ⟨a.block,a.off,none⟩)):=by kernel_rfl
theorem a30:agg? prog 30=some false:=by kernel_rfl
theorem s30:siz prog 30=some 1:=by kernel_rfl
theorem z30:zer prog 30=some (.int .i64 0):=by kernel_rfl
theorem zWc (v:Value) (a:Option Addr) (n m:Nat) (h:v=.slice a n m):bld prog 170 [(0,v)]=some (.agg [v,.int .i64 0].toArray):=by subst h; kernel_rfl
theorem zHI:Tryz.f109.results.toList=[]:=by kernel_rfl
theorem zNG:∃ ty,Tryz.f72.results.toList=[.cell 4 ty]∧ty=30:=⟨30,by kernel_rfl,rfl⟩
theorem zWs (x:Int) (K:Value→FrameMode→Prop):zU2 (.panicking (zB5 x)) K=K (.iface 167 (.agg #[.int .i64 x])) (.panicking [{ v:=.iface 167 (.agg #[.int .i64 x]),recovered:=true }]):=rfl
theorem zWt (K:Value→FrameMode→Prop):zU2 .returning K=K .nilIface .returning:=rfl
structure Upd1 (b:Nat) (W W':CW):Prop where
 sz:W.sz≤W'.sz
 obj:∀ j,j<W.sz→j≠b→W'.obj j=W.obj j
theorem zU6 {W:CW} {b:Nat} {x y:Int} (ht:Top W) (hB:Blk W b 30 [.int .i64 y]) {Q:FrameMode→CW→Prop} (hq:∀ W',Upd1 b W W'→Top W'→Blk W' b 30 [.int .i64 x]→Q (.panicking [{ v:=.iface 167 (.agg #[.int .i64 x]),recovered:=true }]) W'):zHT prog pkL 109 [.pointer (some ⟨b,0,none⟩)] (.panicking (zB5 x)) W Q:=by
 refine zK8 (fn:=Tryz.f109) (c:=zAG prog 109) (by kernel_rfl) Tryz.func109 (by kernel_rfl) (by kernel_rfl) ?_; have:=zTk (.pointer (some ⟨b,0,none⟩)) (.panicking (zB5 x)) (fun x e u W=>(x=.normal∨x=.ret)∧(∃ v,zBB prog Tryz.f109.results.toList e W=some v)∧Q u W) W; refine this.mpr ?_; rw [zWs]; refine zAu (zVD _) ?_; simp only [zAn]; refine zAu (zU3 _) ?_; refine zAu (zBF _ _) ?_; refine zAu (zBE _ _) ?_; refine zBx (ws:=[.int .i64 x]) zYd zYi rfl rfl rfl ht fun W2 k2 t2 z2 hB2=>?_; simp only [zAR,zAA,Bool.not_true,zAP,zVJ]; refine ⟨by first | rfl | trivial,?_⟩; rw [zAB a30 (a:=⟨W.sz,0,none⟩) (hB2.cell rfl)]; simp only [zAA]; have hb:=hB.lt ht; have hB':=hB.ext ht k2; refine zAX s30 (a:=⟨b,0,none⟩) (v:=.int .i64 x) rfl hB' (by simp) fun W3 hu hB3=>?_; have hu:Upd b W2 W3:=hu; refine ⟨.inl (by first | rfl | trivial),⟨.tuple #[],by simp only [zBB,zHI,zFu]⟩,hq W3 ⟨by rw [hu.sz]; exact k2.sz,fun j hj hne=>by rw [hu.obj j hne,k2.obj j hj]⟩ (t2.upd (hB'.lt t2) hu) hB3⟩
theorem zUI {W:CW} {b:Nat} {Q:FrameMode→CW→Prop} (hq:Q .returning W):zHT prog pkL 109 [.pointer (some ⟨b,0,none⟩)] .returning W Q:=by
 refine zK8 (fn:=Tryz.f109) (c:=zAG prog 109) (by kernel_rfl) Tryz.func109 (by kernel_rfl) (by kernel_rfl) ?_; have:=zTk (.pointer (some ⟨b,0,none⟩)) .returning (fun x e u W=>(x=.normal∨x=.ret)∧(∃ v,zBB prog Tryz.f109.results.toList e W=some v)∧Q u W) W; refine this.mpr ?_; rw [zWt]; refine zAu zVC ?_; simp only [zAP]; exact ⟨by first | rfl | trivial,.inl (by first | rfl | trivial),⟨.tuple #[],by simp only [zBB,zHI,zFu]⟩,hq⟩
theorem zOp {W:CW} {a:Option Addr} {n cap:Nat} {vf:Value} (ht:Top W) {Q:Ending→CW→Prop}
  (hbig:100000<n→∀ W',Kp W W'→Top W'→Q (.returned (.int .i64 2)) W')
  (hdo:n≤100000→∀ W0,Kp W W0→Top W0→W0.sz=W.sz+2→Blk W0 W.sz 30 [.int .i64 0]→Blk W0 (W.sz+1) 170 [.slice a n cap,.int .i64 0]→zBq prog pkL vf [.pointer (some ⟨W.sz+1,0,none⟩)] W0
   (fun _ W3=>Top W3∧Blk W3 W.sz 30 [.int .i64 0]∧∀ W',Upd1 W.sz W3 W'→Top W'→Q (.returned (.int .i64 0)) W')
   (fun ch W4=>∃ x,ch=zB5 x∧Top W4∧Blk W4 W.sz 30 [.int .i64 0]∧∀ W',Upd1 W.sz W4 W'→Top W'→Q (.returned (.int .i64 x)) W')) :
  WCall prog pkL 72 [.slice a n cap,vf] W Q:=by
 obtain ⟨ty,hres,rfl⟩:=zNG; refine zSA (fn:=Tryz.f72) (c:=zAG prog 72) (by kernel_rfl) (by kernel_rfl) (by kernel_rfl) Tryz.func72 (by kernel_rfl) (by kernel_rfl) ?_; refine (zXO (.slice a n cap) vf _ W).mpr ?_
 have ret:∀ (e:Env) W' x,e 4=.pointer (some ⟨W.sz,0,none⟩)→Blk W' W.sz 30 [.int .i64 x]→Q (.returned (.int .i64 x)) W'→wLv prog pkL Tryz.f72 Q e [] .returning W':=by
  intro e W' x h4 hB hq; have hv:zHY prog 30 ⟨W.sz,0,none⟩ W'=some (.int .i64 x):=zAB a30 (a:=⟨W.sz,0,none⟩) (hB.cell rfl); simp only [wLv,zBB,hres,zFu,zU1,h4,hv,zAA]; exact hq
 refine zFa z30 s30 ht fun W1 k1 t1 z1 hB=>?_; have hB:Blk W1 W.sz 30 [.int .i64 0]:=hB; rw [zAT u29]; simp only [zBO,zAA]
 refine zAH (fun hb=>?_) (fun hb=>?_)
 ·have hb:100000<n:=by have:=of_decide_eq_true hb; omega
  refine zAX s30 (a:=⟨W.sz,0,none⟩) (v:=.int .i64 2) rfl hB (by simp) fun W2 hu hB2=>?_; have hu:Upd W.sz W1 W2:=hu; exact ret _ W2 2 rfl hB2 (hbig hb W2 (k1.upd (Nat.le_refl _) hu) (t1.upd (hB.lt t1) hu))
 ·have hb:n≤100000:=by have:=of_decide_eq_false hb; omega
  refine zAu (zWc _ a n cap rfl) ?_; refine zDC zYh t1 fun W2 k2 t2 z2 hB170=>?_; rw [z1] at hB170 z2 ⊢; have hB170:Blk W2 (W.sz+1) 170 [.slice a n cap,.int .i64 0]:=hB170; have hB2:=hB.ext t1 k2
  have hcap:∀ (d:Deferred) (l:List Value) (m:FrameMode) W' Q',d=({ target:=.fn (.func 109) #[.pointer (some ⟨W.sz,0,none⟩)],args:=#[] }:Deferred)→zHT prog pkL 109 [.pointer (some ⟨W.sz,0,none⟩)] m W' Q'→zHT prog pkL 109 (d.args.toList++[Value.pointer (some ⟨W.sz,0,none⟩)]) m W' Q':=by
   intro d l m W' Q' hd h; subst hd; exact h
  have hcall:=hdo hb W2 (k1.trans k2) t2 (by rw [z2]) hB2 hB170; unfold zBq at hcall ⊢
  have good:∀ (v:Value) (W3:CW),(Top W3∧Blk W3 W.sz 30 [.int .i64 0]∧∀ W',Upd1 W.sz W3 W'→Top W'→Q (.returned (.int .i64 0)) W')→∀ (e:Env),e 4=.pointer (some ⟨W.sz,0,none⟩)→wV (sto prog 30 (.pointer (some ⟨W.sz,0,none⟩)) (.int .i64 0) W3) fun W5=>wLv prog pkL Tryz.f72 Q e [({ target:=.fn (.func 109) #[.pointer (some ⟨W.sz,0,none⟩)],args:=#[] }:Deferred)] .returning W5:=by
   rintro v W3 ⟨t3,hB3,hq⟩ e h4; refine zAX s30 (a:=⟨W.sz,0,none⟩) (v:=.int .i64 0) rfl hB3 (by simp) fun W5 hu hB5=>?_; have hu:Upd W.sz W3 W5:=hu; show zHT _ _ _ _ _ _ _; refine zUI ?_; exact ret e W5 0 h4 hB5 (hq W5 ⟨by rw [hu.sz]; exact Nat.le_refl _,fun j hj hne=>hu.obj j hne⟩ (t3.upd (hB3.lt t3) hu))
  have bad:∀ ch W4,(∃ x,ch=zB5 x∧Top W4∧Blk W4 W.sz 30 [.int .i64 0]∧∀ W',Upd1 W.sz W4 W'→Top W'→Q (.returned (.int .i64 x)) W')→∀ (e:Env),e 4=.pointer (some ⟨W.sz,0,none⟩)→wLv prog pkL Tryz.f72 Q e [({ target:=.fn (.func 109) #[.pointer (some ⟨W.sz,0,none⟩)],args:=#[] }:Deferred)] (.panicking ch) W4:=by
   rintro ch W4 ⟨x,rfl,t4,hB4,hq⟩ e h4; show zHT _ _ _ _ _ _ _; refine zU6 t4 hB4 fun W' hu t' hB'=>?_; exact ret e W' x h4 hB' (hq W' hu t')
  have hmono:∀ {f:FuncId} {xs:List Value} {K K':Value→CW→Prop} {KP KP':List PanicEntry→CW→Prop},WCall prog pkL f xs W2 (zAK K KP)→(∀ v W,K v W→K' v W)→(∀ v W,KP v W→KP' v W)→WCall prog pkL f xs W2 (zAK K' KP'):=fun h h1 h2=>h.mono fun en W' he=>by
   cases en with
   | returned v=>exact h1 _ _ he
   | panicked ch=>exact h2 _ _ he
   | outgrown=>exact he
  have hmonoR:∀ {f:Nat} {xs:List Value} {K K':Value→CW→Prop} {KP KP':List PanicEntry→CW→Prop},WRound prog pkL f xs W2 (zAK K KP)→(∀ v W,K v W→K' v W)→(∀ v W,KP v W→KP' v W)→WRound prog pkL f xs W2 (zAK K' KP'):=fun h h1 h2=>h.mono fun en W' he=>by
   cases en with
   | returned v=>exact h1 _ _ he
   | panicked ch=>exact h2 _ _ he
   | outgrown=>exact he
  split at hcall
  ·split at hcall
   ·exact good (.bool false) _ hcall _ rfl
   ·exact hmono hcall (fun v W h=>good v W h _ rfl) (fun ch W h=>⟨fun k n m hh=>(by cases hh),bad ch W h _ rfl⟩)
  ·exact hmonoR hcall (fun v W h=>good v W h _ rfl) (fun ch W h=>⟨fun k n m hh=>(by cases hh),bad ch W h _ rfl⟩)
  ·exact hcall.elim
end Go.Ce
namespace Go.Ce
open Go Go.Proofs Go.Proofs.Tryz
def zP1 (l:List Spc) (s:ByteArray):Option Spc:=l.find? fun x=>decide (x.to=s)
def zDT (mp vs z:List Int):Nat→List Int
 | 0=>z
 | n+1=>(zDT mp vs z n).set ((mp[n]?).getD 0).toNat ((vs[n]?).getD 0)
def zBn (c:List Shp) (l:List Spc) (x:Thg):Thg:=match zP1 l x.type with
 | none=>x
 | some s=>match zBQ c s.type with
  | none=>x
  | some t=>⟨s.type,zDT s.map x.vals (List.replicate (zAj c t).length 0) s.map.length⟩
theorem zE4 (mp vs z:List Int):∀ n,(zDT mp vs z n).length=z.length
 | 0=>rfl
 | n+1=>by rw [zDT,List.length_set,zE4 mp vs z n]
theorem zNE:∃ ty,Tryz.f77.results.toList=[.cell 6 ty]∧ty=56:=⟨56,by kernel_rfl,rfl⟩
theorem zWa (s:ByteArray) (a:Addr) (n m:Nat):bld prog 56 [(0,.string s),(1,.slice (some a) n m)]=some (.agg [.string s,.slice (some a) n m].toArray):=by kernel_rfl
def zOh (vx:Value) (x y:Thg) (W:CW):Ending→CW→Prop:=fun e W'=>Kp W W'∧Top W'∧∃ vv,e=.returned (.agg #[.string y.type,vv])∧((vv=vx∧y.vals=x.vals)∨∃ bv,vv=.slice (some ⟨bv,0,none⟩) y.vals.length y.vals.length∧Blk W' bv 3 (zCt y.vals)∧W.sz≤bv)
theorem zUD {z:List Int} {k:Nat} (hk:k<z.length) (x:Int):zDz (zCt z) (0+k*1) [.int .i64 x]=zCt (z.set k x):=by
 apply List.ext_getElem?; intro j; have hl:(zCt z).length=z.length:=by simp [zCt]
 rw [zDq (by rw [hl]; simp; omega)]; unfold zCt; simp only [List.length_singleton,List.getElem?_map,List.getElem?_set]
 by_cases e:k=j
 ·subst e; rw [if_pos ⟨by omega,by omega⟩,if_pos rfl,if_pos hk]; simp
 ·rw [if_neg (by omega),if_neg e]
theorem zRm {w r r1 r2:Nat} {vx:Value} {c:List Shp} {l:List Spc} {x:Thg} {W:CW} (ht:Top W) (hr:SpM Spc.to W r l) (hcat:CatAt W r1 r2 c) (hC:Cat c) (hvx:IsSl 1 (RInt W) vx x.vals)
  (hm:∀ s,zP1 l x.type=some s→s.map.length≤x.vals.length∧∃ t,zBQ c s.type=some t∧∀ m,m ∈ s.map→0≤m∧m.toNat<(zAj c t).length) (hml:∀ s,s ∈ l→s.map.length<100000) :
  WCall prog pkL 77 [.agg #[.map (some w),.map (some r)],zI2 r1 r2,.agg #[.string x.type,vx]] W (zOh vx x (zBn c l x) W):=by
 obtain ⟨ty,hres,rfl⟩:=zNE; refine zXE ?_; rw [zXF]; unfold zI2; obtain ⟨ax,cx,rfl,hxc⟩:=id hvx; refine zDC s83 ht fun W0 k0 t0 z0 hB3=>?_; have hB3:Blk W0 W.sz 83 [.map (some w),.map (some r)]:=hB3; refine zDC s78 t0 fun W1 k1 t1 z1 hB4=>?_; have hB4:Blk W1 W0.sz 78 [.map (some r1),.map (some r2)]:=hB4; refine zDC s56 t1 fun W2 k2 t2 z2 hB5=>?_; have hB5:Blk W2 W1.sz 56 [.string x.type,.slice ax x.vals.length cx]:=hB5; refine zFa z56 s56 t2 fun A kA tA zA hB6=>?_; have hB6:Blk A W2.sz 56 [.string ⟨#[]⟩,.slice none 0 0]:=hB6; have k:=((k0.trans k1).trans k2).trans kA; have hB3:=hB3.ext t0 ((k1.trans k2).trans kA); have hB4:=hB4.ext t1 (k2.trans kA); have hB5:=hB5.ext t2 kA; have hb6W:W.sz≤W2.sz:=((k0.trans k1).trans k2).sz; have hrA:=hr.kp ht k; have hcatA:=hcat.kp ht k; simp only [zKP,zCU,zAA]; rw [zAB a81 (a:=⟨W.sz,0+1,none⟩) (hB3.cell rfl),zAB a9 (a:=⟨W1.sz,0,none⟩) (hB5.cell rfl)]; simp only [zAA]; generalize hKK:zAE prog Tryz.f77 (zOh (.slice ax x.vals.length cx) x (zBn c l x) W)=K
 have hfin:∀ W1' vv,Kp A W1'→Top W1'→zAg vv=true→(∀ W3,Upd W2.sz W1' W3→(vv=.slice ax x.vals.length cx∧(zBn c l x).vals=x.vals)∨∃ bv,vv=.slice (some ⟨bv,0,none⟩) (zBn c l x).vals.length (zBn c l x).vals.length∧Blk W3 bv 3 (zCt (zBn c l x).vals)∧W.sz≤bv)→∀ {K':CW→Prop},(∀ W3,(∀ e',e' 6=.pointer (some ⟨W2.sz,0,none⟩)→K .ret e' [] W3)→K' W3) →
   wV (sto prog 56 (.pointer (some ⟨W2.sz,0,none⟩)) (.agg [.string (zBn c l x).type,vv].toArray) W1') K':=by
  intro W1' vv k1' t1' hone hor K' hK'; have hB:=hB6.ext tA k1'; refine zB6 s56 (a:=⟨W2.sz,0,none⟩) (by simp only [List.all_cons,List.all_nil,hone,Bool.and_true]; rfl) rfl hB (by simp) fun W3 hu hB3=>hK' W3 fun e' h6'=>?_; have hu:Upd W2.sz W1' W3:=hu; rw [←hKK]; have hB3:Blk W3 W2.sz 56 [.string (zBn c l x).type,vv]:=hB3; refine zFB hres (p:=⟨W2.sz,0,none⟩) h6' (zA8 (vs:=[.string (zBn c l x).type,vv]) a56 s56 rfl (by omega) hB3.cells) ?_; exact ⟨(k.trans k1').upd hb6W hu,t1'.upd (hB.lt t1') hu,vv,rfl,hor W3 hu⟩
 cases hsp:zP1 l x.type with
 | none =>
  have hwr:zBn c l x=x:=by unfold zBn; rw [hsp]
  rw [hrA.none hsp]; simp only [zAA,zBF,zBE]; unfold zWj; refine zBx (ws:=[.string ⟨#[]⟩,.string ⟨#[]⟩,.slice none 0 0]) z58 s58 rfl rfl rfl tA fun W4 k4 t4 z4 hB7=>?_; simp only [zAR,zAA,Bool.not_false,zAn]; rw [zA8 (vs:=[.string x.type,.slice ax x.vals.length cx]) a56 s56 rfl (by omega) (hB5.ext tA k4).cells]; simp only [zAA]; have hty:x.type=(zBn c l x).type:=by rw [hwr]
  rw [hty]; refine hfin W4 _ k4 t4 rfl (fun W3 hu=>.inl ⟨rfl,by rw [hwr]⟩) fun W3 hr=>hr _ rfl
 | some s =>
  obtain ⟨hsl,t,hst,hmm⟩:=hm s hsp; have hwr:zBn c l x=⟨s.type,zDT s.map x.vals (List.replicate (zAj c t).length 0) s.map.length⟩:=by unfold zBn; rw [hsp]; simp only; rw [hst]
  have hsm:=hml s (List.mem_of_find?_eq_some hsp); have hrl:=zQK hC t; obtain ⟨u,hu,L⟩:=hrA.some hsp; obtain ⟨am,cm,rfl,hum⟩:=hu; rw [L]; simp only [zAA,zBF,zBE]; refine zBx (ws:=[.string s.type,.string s.to,.slice am s.map.length cm]) z58 s58 rfl rfl rfl tA fun W5 k5 t5 z5 hB7=>?_; simp only [zAR,zAA,Bool.not_true,zAP,zEs,zFk,zD6]; obtain ⟨ar,cr,lr,_⟩:=hcatA.rw.some hst; obtain ⟨mr,hmr,_⟩:=hcatA.rw; have kn:Kp W5 (W5.new (.cells .nil 2 #[.string ⟨#[]⟩,.slice none 0 0] 56)):=.new _; have tn:=t5.new (.cells .nil 2 #[.string ⟨#[]⟩,.slice none 0 0] 56); have hon:(W5.new (.cells .nil 2 #[.string ⟨#[]⟩,.slice none 0 0] 56)).obj W5.sz=some (.cells .nil 2 #[.string ⟨#[]⟩,.slice none 0 0] 56):=by rw [zAp,if_pos rfl]
  have hBn:Blk (W5.new (.cells .nil 2 #[.string ⟨#[]⟩,.slice none 0 0] 56)) W5.sz 56 [.string ⟨#[]⟩,.slice none 0 0]:=⟨.nil,2,_,hon,rfl,fun k v hk=>by
   match k,hk with
   | 0,hk=>cases hk; rfl
   | 1,hk=>cases hk; rfl⟩
  have hszn:(W5.new (.cells .nil 2 #[.string ⟨#[]⟩,.slice none 0 0] 56)).sz=W5.sz+1:=rfl; have hfl:∀ W0:CW,W0.obj W5.sz=some (.cells .nil 2 #[.string ⟨#[]⟩,.slice none 0 0] 56)→zM7 (.pointer (some ⟨W5.sz,0,none⟩)) ((W5.new (.cells .nil 2 #[.string ⟨#[]⟩,.slice none 0 0] 56)).obj W5.sz) W0=true:=fun W0 h0=>zGC h0 (by rfl); generalize hAn:W5.new (.cells .nil 2 #[.string ⟨#[]⟩,.slice none 0 0] 56)=An at kn tn hon hBn hszn hfl ⊢; have kAn:=k5.trans kn; have l9:∀ W',Kp An W'→ld prog 9 (.pointer (some ⟨A.sz,0,none⟩)) W'=some (.string s.type):=fun W' k'=>zAB a9 (a:=⟨A.sz,0,none⟩) ((hB7.ext t5 (kn.trans k')).cell rfl); have l76:ld prog 76 (.pointer (some ⟨W0.sz,0+1,none⟩)) An=some (.map (some r2)):=zAB a76 (a:=⟨W0.sz,0+1,none⟩) ((hB4.ext tA kAn).cell rfl)
  have lrn:lkp prog 76 (.map (some r2)) (.string s.type) false An=some (.slice ar (zAj c t).length cr):=by
   rw [zLY (kAn.obj _ (hmr.lt tA))]; exact lr
  rw [l9 An (.refl _),l76]; simp only [zAA,lrn,zAT u29]; refine zT2 u40 s3 z3 rfl by3 (by omega) (n:=(zAj c t).length) (by omega) tn fun W7 k7 t7 z7 hBv=>?_; refine zAu (zWa _ _ _ _) ?_; refine ⟨trivial,?_⟩; have hBn7:=hBn.ext tn k7; refine zB6 s56 (a:=⟨W5.sz,0,none⟩) (ws:=[.string s.type,.slice (some ⟨An.sz,0,none⟩) (zAj c t).length (zAj c t).length]) rfl rfl hBn7 (by simp) fun W8 hu8 hBo=>?_; have hu8:Upd W5.sz W7 W8:=hu8; have hBo:Blk W8 W5.sz 56 [.string s.type,.slice (some ⟨An.sz,0,none⟩) (zAj c t).length (zAj c t).length]:=hBo; refine ⟨by simp only [l9 An (.refl _),l9 W7 k7,and_self],by simp only [hfl An hon,hfl W7 (by rw [k7.obj _ (by omega)]; exact hon),and_self],?_⟩; have h5l:W5.sz<W7.sz:=by rw [z7]; omega
  have t8:=t7.upd h5l hu8; have hzA:A.sz≤W5.sz:=by rw [z5]; omega
  have k58:Kp W5 W8:=(kn.trans k7).upd (Nat.le_refl _) hu8; have kA8:Kp A W8:=k5.trans k58; rw [zAB a40 (a:=⟨A.sz,0+2,none⟩) ((hB7.ext t5 k58).cell rfl)]; simp only [zAA,zAT u40]
  have hBv8:Blk W8 An.sz 3 (zCt (zDT s.map x.vals (List.replicate (zAj c t).length 0) 0)):=by
   have:zCt (zDT s.map x.vals (List.replicate (zAj c t).length 0) 0)=List.replicate (zAj c t).length (.int .i64 0):=by simp [zDT,zCt]
   rw [this]; exact hBv.congr (hu8.obj _ (by omega))
  refine zCX (fun n e ds W'=>ds=[]∧Kp A W'∧Top W'∧Blk W' W5.sz 56 [.string s.type,.slice (some ⟨An.sz,0,none⟩) (zAj c t).length (zAj c t).length]∧Blk W' An.sz 3 (zCt (zDT s.map x.vals (List.replicate (zAj c t).length 0) n))∧e 5=.pointer (some ⟨W1.sz,0,none⟩)∧e 6=.pointer (some ⟨W2.sz,0,none⟩)∧e 9=.pointer (some ⟨W5.sz,0,none⟩)∧e 34=.slice am s.map.length cm∧e 35=.int .i64 s.map.length∧e 36=.int .i64 n) s.map.length
   ⟨rfl,kA8,t8,hBo,hBv8,rfl,rfl,rfl,rfl,rfl,rfl⟩ ?_
  rintro n e ds W' hn ⟨rfl,kA',t',hBo',hBv',h5,h6,h9,h34,h35,h36⟩; rw [zVM,h34,h35,h36]; simp only [zAZ,zAA]
  refine zGZ (fun hlt=>?_) (fun hge=>?_)
  ·obtain ⟨_,_,he,hmc⟩:=hum
   cases he
   have hmn:=List.getElem?_eq_getElem hlt; obtain ⟨q,rfl,hq⟩:=hmc n _ hmn; rw [zAb u40 s3 hlt]; simp only [zAA]; have hqc:=kA'.cell tA hq.1; rw [zAB a3 (a:=⟨q.block,q.off+n*1,none⟩) hqc,h9,h5]; simp only [zAA,zCH]; have hxl:n<x.vals.length:=by omega
   have hxn:=List.getElem?_eq_getElem hxl; obtain ⟨p,rfl,hp⟩:=hxc n _ hxn; have hB5':=hB5.ext tA kA'; rw [zAB a40 (a:=⟨W5.sz,0+1,none⟩) (hBo'.cell rfl),zAB a40 (a:=⟨W1.sz,0+1,none⟩) (hB5'.cell rfl)]; simp only [zAA]; rw [zAb u40 s3 hxl]; simp only [zAA]; have hpc:=(k.trans kA').cell ht hp.1; rw [zAB a3 (a:=⟨p.block,p.off+n*1,none⟩) hpc]; simp only [zAA]; obtain ⟨hm0,hm1⟩:=hmm _ (List.getElem_mem hlt); have hmi:(s.map[n]:Int)=((s.map[n].toNat:Nat):Int):=by omega
   rw [hmi,zAb u40 s3 hm1]; simp only [zAA]; have hbl:(zDT s.map x.vals (List.replicate (zAj c t).length 0) n).length=(zAj c t).length:=by rw [zE4]; simp
   refine zAX s3 (a:=⟨An.sz,0+s.map[n].toNat*1,none⟩) (v:=.int .i64 x.vals[n]) rfl hBv' (by simp only [zCt,List.length_map,hbl]; omega) fun W9 hu9 hBv9=>?_; have hu9:Upd An.sz W' W9:=hu9
   have hBv9:Blk W9 An.sz 3 (zCt (zDT s.map x.vals (List.replicate (zAj c t).length 0) (n+1))):=by
    rw [zDT,hmn,hxn,Option.getD_some,Option.getD_some,←zUD (by rw [hbl]; exact hm1)]; exact hBv9
   have l40a:ld prog 40 (.pointer (some ⟨W5.sz,0+1,none⟩)) W'=some (.slice (some ⟨An.sz,0,none⟩) (zAj c t).length (zAj c t).length):=zAB a40 (a:=⟨W5.sz,0+1,none⟩) (hBo'.cell rfl); refine ⟨by simp only [zAB a40 (a:=⟨W5.sz,0+1,none⟩) (hBo'.cell rfl),zAB a40 (a:=⟨W1.sz,0+1,none⟩) (hB5'.cell rfl),zAB a3 (a:=⟨p.block,p.off+n*1,none⟩) hpc,and_self],trivial,?_⟩; simp only [zQ2,qKn,qKr,qKx,qKp,bKn,bKr,bKp,bKx,tKn,tKr,tKx,tKp,zKn,zKr,zKx,zKp]; simp only [eKc,eKn,eKa,Nat.reduceEqDiff,↓reduceIte,gKz,gKs,dKs,and_self,h36,zAW,zAA,qKn,qKr,qKx,qKp,bKn,bKr,bKp,bKx,tKn,tKr,tKx,tKp,zKn,zKr,zKx,zKp]
   refine ⟨hlt,trivial,kA'.upd (by omega) hu9,t'.upd (hBv'.lt t') hu9,hBo'.congr (hu9.obj _ (by omega)),hBv9,?_,?_,?_,?_,?_,?_⟩
   ·simp only [eKc,eKn,eKa,Nat.reduceEqDiff,↓reduceIte,gKz,gKs,dKs,and_self,h5]
   ·simp only [eKc,eKn,eKa,Nat.reduceEqDiff,↓reduceIte,gKz,gKs,dKs,and_self,h6]
   ·simp only [eKc,eKn,eKa,Nat.reduceEqDiff,↓reduceIte,gKz,gKs,dKs,and_self,h9]
   ·simp only [eKc,eKn,eKa,Nat.reduceEqDiff,↓reduceIte,gKz,gKs,dKs,and_self,h34]
   ·simp only [eKc,eKn,eKa,Nat.reduceEqDiff,↓reduceIte,gKz,gKs,dKs,and_self,h35]
   ·rw [zCT (by omega)]
  ·have hn':n=s.map.length:=by omega
   subst hn'; simp only [qKn,qKr,qKx,qKp,bKn,bKr,bKp,bKx,tKn,tKr,tKx,tKp,zKn,zKr,zKx,zKp,bKx,if_true,zQ3]; simp only [eKc,eKn,eKa,Nat.reduceEqDiff,↓reduceIte,gKz,gKs,dKs,and_self,h6,h9]; rw [zA8 (vs:=[.string s.type,.slice (some ⟨An.sz,0,none⟩) (zAj c t).length (zAj c t).length]) (a:=⟨W5.sz,0,none⟩) a56 s56 rfl (by omega) hBo'.cells]; simp only [zAA]; have hty:s.type=(zBn c l x).type:=by rw [hwr]
   have hvl:(zAj c t).length=(zBn c l x).vals.length:=by rw [hwr]; simp only [zE4,List.length_replicate]
   rw [hty]; refine hfin W' _ kA' t' rfl (fun W3 hu=>.inr ⟨An.sz,by rw [hvl],?_,by have:=k.sz; omega⟩) fun W3 hr=>hr _ (by simp only [eKc,eKn,eKa,Nat.reduceEqDiff,↓reduceIte,gKz,gKs,dKs,and_self,h6]); have:(zBn c l x).vals=zDT s.map x.vals (List.replicate (zAj c t).length 0) s.map.length:=by rw [hwr]
   rw [this]; exact hBv'.congr (hu.obj _ (by have:=zA; omega))
end Go.Ce
namespace Go.Ce
open Go Go.Proofs Go.Proofs.Tryz
def zJs (c:List Shp) (l:List Spc) (s:ByteArray):Option Int:=if (zBQ c s).isSome then (if (l.find? fun x=>decide (x.type=s)).isSome then some 214 else none) else some 213
structure AskIn (A:CW) (bk br r1 r2 w r:Nat) (c:List Shp) (l:List Spc):Prop where
 top:Top A
 k:Blk A bk 78 [.map (some r1),.map (some r2)]
 rr:Blk A br 83 [.map (some w),.map (some r)]
 cat:CatAt A r1 r2 c
 w:SpM Spc.type A w l
 rd:SpM Spc.to A r l
theorem zYN:zer prog 48=some zWk:=by kernel_rfl
theorem zYR:siz prog 48=some 5:=by kernel_rfl
theorem zTS {A:CW} {bk br r1 r2 w r:Nat} {c:List Shp} {l:List Spc} (I:AskIn A bk br r1 r2 w r c l):zUu A (.func (.func 75) #[] #[.pointer (some ⟨bk,0,none⟩),.pointer (some ⟨br,0,none⟩)]) (zJs c l):=by
 intro s W K KP kA ht hno hyes; refine zDd Tryz.func75 (by kernel_rfl) ?_; refine zXI (v0:=.string s) (v1:=.pointer (some ⟨bk,0,none⟩)) (v2:=.pointer (some ⟨br,0,none⟩)) ?_; rw [zXJ]; have hk:=I.k.ext I.top kA; have hr:=I.rr.ext I.top kA; have hcat:=I.cat.kp I.top kA; simp only [zDL,zAA]; rw [zAB a75 (a:=⟨bk,0,none⟩) (hk.cell rfl)]; simp only [zAA]; obtain ⟨ws,hl1,hwl,hwo,_⟩:=zLI hcat.sh s; rw [hl1]; simp only [zAA,zBF,zBE]; refine zBx (ws:=ws) zYN zYR rfl hwo hwl ht fun W2 k2 t2 z2 hB=>?_
 refine zDU (fun h1=>?_) (fun h1=>?_)
 ·have hw2:=(I.w.kp I.top (kA.trans k2))
  obtain ⟨ws2,hl2,hwl2,hwo2⟩:=zNp hw2 s; simp only [zKQ,zAA]; rw [zAB a81 (a:=⟨br,0,none⟩) ((hr.ext ht k2).cell rfl)]; simp only [zAA]; rw [hl2]; simp only [zAA,zBF,zBE]; refine zBx (ws:=ws2) z58 s58 rfl hwo2 hwl2 t2 fun W5 k5 t5 z5 hB5=>?_; simp only [zAR,zAA]
  refine zDU (fun h2=>?_) (fun h2=>?_)
  ·have h2:(l.find? fun x=>decide (Spc.type x=s)).isSome=false:=by simpa using h2
   exact zEm (by kernel_rfl) _ _ (.inl rfl) _ _ (hno (by unfold zJs; rw [if_pos h1,if_neg (by rw [h2]; simp)]) _ W5 (k2.trans k5) t5)
  ·have h2:(l.find? fun x=>decide (Spc.type x=s)).isSome=true:=by simpa using h2
   exact hyes 214 (by unfold zJs; rw [if_pos h1,if_pos h2]) W5 (k2.trans k5) t5
 ·exact hyes 213 (by unfold zJs; rw [if_neg (by rw [h1]; simp)]) W2 k2 t2
theorem zRp {c:List Shp} {l:List Spc} {s:ByteArray} (h:zJs c l s=none):(zBQ c s).isSome=true∧(l.find? fun x=>decide (x.type=s))=none:=by
 unfold zJs at h
 split at h
 ·rename_i h1
  split at h
  ·cases h
  ·rename_i h2; exact ⟨h1,by simpa using h2⟩
 ·cases h
theorem headL_err {b:List UInt8} {ask:ByteArray→Option Int} (ha:∀ s e,ask s=some e→e≠0):∀ {k at_:Nat} {out:List ByteArray} {e:Int},zF9 b ask k at_ out=.error e→e≠0
 | 0,at_,out,e,h=>by cases h
 | k+1,at_,out,e,h=>by
  unfold zF9 at h
  split at h
  ·rename_i hn; cases h; exact numR_err hn
  ·split at h
   ·rename_i ht; cases h; rw [zP8 ht]; decide
   ·split at h
    ·split at h
     ·rename_i hq; cases h; exact ha _ _ hq
     ·exact headL_err ha h
    ·cases h; decide
where
 numR_err {b:List UInt8} {at_:Nat} {m e:Int} (h:zER b at_ m=.error e):e≠0:=by
  unfold zER at h
  split at h
  ·rename_i hg; cases h; exact numG_err hg
  ·split at h
   ·cases h
   ·cases h; decide
 numG_err {b:List UInt8}:∀ {f at_ n sh:Nat} {e:Int},zLT b f at_ n sh=.error e→e≠0
  | 0,_,_,_,_,h=>by cases h; decide
  | f+1,at_,n,sh,e,h=>by
   unfold zLT at h
   split at h
   ·cases h; decide
   ·split at h
    ·split at h
     ·cases h
     ·cases h; decide
    ·exact numG_err h
theorem numR_err {b:List UInt8} {at_:Nat} {m e:Int} (h:zER b at_ m=.error e):e≠0:=headL_err.numR_err h
theorem zHv {b:List UInt8} {c:List Shp} {ix many:Nat}:∀ {m k at_ fd:Nat} {vs:List Int} {e:Int},zDF b c ix many m k at_ fd vs=.error e→e≠0
 | 0,_,_,_,_,_,h=>by cases h
 | m+1,k,at_,fd,vs,e,h=>by
  unfold zDF at h
  split at h
  ·split at h
   ·rename_i hn; cases h; exact numR_err hn
   ·exact zHv h
  ·split at h
   ·rename_i hn; cases h; exact numR_err hn
   ·exact zHv h
theorem zI7 {b:List UInt8} {c:List Shp} {ts:List ByteArray} {many:Nat}:∀ {m i at_ used fd:Nat} {out:List Thg} {e:Int},zCY b c ts many m i at_ used fd out=.error e→e≠0
 | 0,_,_,_,_,_,_,h=>by cases h
 | m+1,i,at_,used,fd,out,e,h=>by
  unfold zCY at h
  split at h
  ·split at h
   ·rename_i hn; cases h; exact numR_err hn
   ·split at h
    ·cases h; decide
    ·split at h
     ·cases h; decide
     ·split at h
      ·rename_i hn
       cases h
       split at hn
       ·exact numR_err hn
       ·cases hn
      ·split at h
       ·rename_i hv; cases h; exact zHv hv
       ·exact zI7 h
  ·cases h; decide
theorem zMd {b:List UInt8} {c:List Shp} {ask:ByteArray→Option Int} (ha:∀ s e,ask s=some e→e≠0) {at_:Nat} {e:Int} (h:zBC b c ask at_=.error e):e≠0:=by
 unfold zBC at h
 split at h
 ·rename_i hh
  cases h
  unfold zFi at hh
  split at hh
  ·rename_i hn; cases hh; exact numR_err hn
  ·split at hh
   ·split at hh
    ·rename_i hn; cases hh; exact numR_err hn
    ·exact headL_err ha hh
   ·cases hh; decide
 ·split at h
  ·rename_i hn; cases h; exact numR_err hn
  ·split at h
   ·rename_i hg; cases h; exact zI7 hg
   ·split at h
    ·cases h
    ·cases h; decide
theorem zTR {c:List Shp} {l:List Spc}:∀ s e,zJs c l s=some e→e≠0:=by
 intro s e h; unfold zJs at h
 split at h
 ·split at h
  ·cases h; decide
  ·cases h
 ·cases h; decide
theorem zHu {b:List UInt8} {c:List Shp} {ix many:Nat}:∀ {m k at_ fd:Nat} {vs:List Int} {r:List Int × Nat × Nat},zDF b c ix many m k at_ fd vs=.ok r→r.1.length=vs.length+m
 | 0,_,_,_,_,_,h=>by cases h; rfl
 | m+1,k,at_,fd,vs,r,h=>by
  unfold zDF at h
  split at h
  ·split at h
   ·cases h
   ·have:=zHu h; rw [this]; simp; omega
  ·split at h
   ·cases h
   ·have:=zHu h; rw [this]; simp; omega
def zTX (c:List Shp) (x:Thg):Prop:=∃ ix,zBQ c x.type=some ix∧(zAN c ix=0→x.vals.length=(zAj c ix).length)
theorem zI6 {b:List UInt8} {c:List Shp} {ts:List ByteArray} {many:Nat}:∀ {m i at_ used fd:Nat} {out:List Thg} {r:List Thg × Nat × Nat × Nat},zCY b c ts many m i at_ used fd out=.ok r→(∀ x,x ∈ out→zTX c x)→∀ x,x ∈ r.1→zTX c x
 | 0,_,_,_,_,_,_,h,ho=>by cases h; exact ho
 | m+1,i,at_,used,fd,out,r,h,ho=>by
  unfold zCY at h
  split at h
  ·split at h
   ·cases h
   ·split at h
    ·cases h
    ·rename_i ty _
     split at h
     ·cases h
     ·rename_i ix hix
      split at h
      ·cases h
      ·rename_i n a2 hn
       split at h
       ·cases h
       ·rename_i vs fd' a3 hv; refine zI6 h fun x hx=>?_
        rcases List.mem_append.1 hx with hx | hx
        ·exact ho x hx
        ·cases List.mem_singleton.1 hx
         refine ⟨ix,hix,fun he=>?_⟩; rw [if_neg (by simp [he])] at hn
         cases hn
         have:=zHu hv
         simpa using this
  ·cases h
theorem zMc {b:List UInt8} {c:List Shp} {ask:ByteArray→Option Int} {at_:Nat} {r:List Thg × Nat} (h:zBC b c ask at_=.ok r):(∀ x,x ∈ r.1→zTX c x)∧r.1.length≤1000:=by
 unfold zBC at h
 split at h
 ·cases h
 ·split at h
  ·cases h
  ·rename_i many a2 hn
   split at h
   ·cases h
   ·rename_i hg
    split at h
    ·cases h
     obtain ⟨hm,_,_⟩:=zCd hn; exact ⟨zI6 hg (fun x hx=>by cases hx),by have:=thingL_len hg; simp at this; simp only; omega⟩
    ·cases h
where
 thingL_len {b:List UInt8} {c:List Shp} {ts:List ByteArray} {many:Nat}:∀ {m i at_ used fd:Nat} {out:List Thg} {r:List Thg × Nat × Nat × Nat},zCY b c ts many m i at_ used fd out=.ok r→r.1.length=out.length+m
  | 0,_,_,_,_,_,_,h=>by cases h; rfl
  | m+1,i,at_,used,fd,out,r,h=>by
   unfold zCY at h
   split at h
   ·split at h
    ·cases h
    ·split at h
     ·cases h
     ·split at h
      ·cases h
      ·split at h
       ·cases h
       ·split at h
        ·cases h
        ·rw [thingL_len h]; simp; omega
   ·cases h
end Go.Ce
namespace Go.Ce
open Go Go.Proofs Go.Proofs.Tryz
def BdT (x:Thg):Prop:=∀ v,v ∈ x.vals→-9223372036854775808≤v∧v≤9223372036854775807
theorem zJz {b:List UInt8} {c:List Shp} {ix many:Nat} (hm:many≤1000):∀ {m k at_ fd:Nat} {vs:List Int} {r:List Int × Nat × Nat},zDF b c ix many m k at_ fd vs=.ok r→(∀ v,v ∈ vs→-9223372036854775808≤v∧v≤9223372036854775807)→∀ v,v ∈ r.1→-9223372036854775808≤v∧v≤9223372036854775807
 | 0,_,_,_,_,_,h,hv=>by cases h; exact hv
 | m+1,k,at_,fd,vs,r,h,hv=>by
  unfold zDF at h
  split at h
  ·split at h
   ·cases h
   ·rename_i n a hn; obtain ⟨h1,_,_⟩:=zCd hn; refine zJz hm h fun v hvv=>?_
    rcases List.mem_append.1 hvv with hq | hq
    ·exact hv v hq
    ·rw [List.mem_singleton.1 hq]; omega
  ·split at h
   ·cases h
   ·rename_i n a hn; obtain ⟨h1,_,_⟩:=zCd hn; refine zJz hm h fun v hvv=>?_
    rcases List.mem_append.1 hvv with hq | hq
    ·exact hv v hq
    ·rw [List.mem_singleton.1 hq]; unfold zRx; split <;> omega
theorem zLB {b:List UInt8} {c:List Shp} {ts:List ByteArray} {many:Nat} (hmn:many≤1000):∀ {m i at_ used fd:Nat} {out:List Thg} {r:List Thg × Nat × Nat × Nat},zCY b c ts many m i at_ used fd out=.ok r→(∀ x,x ∈ out→BdT x)→∀ x,x ∈ r.1→BdT x
 | 0,_,_,_,_,_,_,h,ho=>by cases h; exact ho
 | m+1,i,at_,used,fd,out,r,h,ho=>by
  unfold zCY at h
  split at h
  ·split at h
   ·cases h
   ·split at h
    ·cases h
    ·split at h
     ·cases h
     ·split at h
      ·cases h
      ·split at h
       ·cases h
       ·rename_i vs fd' a3 hv; refine zLB hmn h fun x hx=>?_
        rcases List.mem_append.1 hx with hx | hx
        ·exact ho x hx
        ·cases List.mem_singleton.1 hx
         exact zJz hmn hv (fun v hv=>by cases hv)
  ·cases h
theorem zOq {b:List UInt8} {c:List Shp} {ask:ByteArray→Option Int} {at_:Nat} {r:List Thg × Nat} (h:zBC b c ask at_=.ok r):∀ x,x ∈ r.1→BdT x:=by
 unfold zBC at h
 split at h
 ·cases h
 ·split at h
  ·cases h
  ·rename_i many a2 hn
   split at h
   ·cases h
   ·rename_i hg
    split at h
    ·cases h
     obtain ⟨hm,_,_⟩:=zCd hn; exact zLB (by omega) hg (fun x hx=>by cases hx)
    ·cases h
theorem zOZ {mp vs z:List Int} (hz:∀ v,v ∈ z→-9223372036854775808≤v∧v≤9223372036854775807) (hv:∀ v,v ∈ vs→-9223372036854775808≤v∧v≤9223372036854775807):∀ n v,v ∈ zDT mp vs z n→-9223372036854775808≤v∧v≤9223372036854775807
 | 0,v,h=>hz v h
 | n+1,v,h=>by
  rw [zDT] at h
  rcases List.mem_or_eq_of_mem_set h with h | h
  ·exact zOZ hz hv n v h
  ·rw [h]
   cases hq:vs[n]? with
   | none=>rw [Option.getD_none]; omega
   | some w=>rw [Option.getD_some]; exact hv w (List.mem_of_getElem? hq)
theorem zTP {c:List Shp} {l:List Spc} {x:Thg} (h:BdT x):BdT (zBn c l x):=by
 unfold zBn
 split
 ·exact h
 ·split
  ·exact h
  ·exact zOZ (fun v hv=>by rw [List.eq_of_mem_replicate hv]; omega) h _
theorem zGB:∀ (l:List (Thg × Value)) (k:Nat),(l.flatMap zGN)[k]?=(l[k / 2]?).bind fun q=>(zGN q)[k % 2]?
 | [],k=>by simp
 | q::l,0=>rfl
 | q::l,1=>rfl
 | q::l,k+2=>by
  have h:((q::l).flatMap zGN)[k+2]?=(l.flatMap zGN)[k]?:=by
   simp only [List.flatMap_cons]; rfl
  rw [h,zGB l k,show (k+2) / 2=k / 2+1 by omega,show (k+2) % 2=k % 2 by omega]; rfl
theorem zS1 {l:List (Thg × Value)} {i:Nat} (hi:i<l.length) (q:Thg × Value):zDz (l.flatMap zGN) (0+i*2) (zGN q)=(l.set i q).flatMap zGN:=by
 apply List.ext_getElem?; intro k; have hl:=zDa l; have h2:(zGN q).length=2:=rfl; rw [zDq (by rw [hl,h2]; omega),zGB,zGB,h2,List.getElem?_set]
 by_cases e:i=k / 2
 ·rw [if_pos ⟨by omega,by omega⟩,if_pos e,if_pos hi]; show _=(zGN q)[k % 2]?; congr 1; omega
 ·rw [if_neg (by omega),if_neg e]
theorem zSz {B:Nat} {W:CW} {v:Value} {ps:List (Thg × Value)} (h:HeapAt B W v ps) (hb:∀ p,p ∈ ps→BdT p.1):IsSl 2 (RThg W) v (ps.map (·.1)):=by
 have hl:=zDa ps; have hpv:=h.pv; obtain ⟨hO,_,_⟩:=h; generalize hcs:ps.flatMap zGN=cs at hO hl
 cases hO with
 | nil =>
  have:ps=[]:=List.length_eq_zero_iff.1 (by simp at hl; omega); subst this; exact ⟨none,0,rfl,fun i x hx=>by cases hx⟩
 | @some b0 len _ hB hl2 =>
  have hpl:len=ps.length:=by omega
  refine ⟨some ⟨b0,0,none⟩,len,by rw [List.length_map,hpl],fun i x hx=>⟨_,rfl,?_⟩⟩; rw [List.getElem?_map,Option.map_eq_some_iff] at hx; obtain ⟨p,hp,rfl⟩:=hx; have hpm:=List.mem_of_getElem? hp; obtain ⟨bv,h1,h2,_⟩:=hpv p hpm
  have hg:∀ j,j<2→cs[i*2+j]?=(zGN p)[j]?:=fun j hj=>by
   rw [←hcs,zGB,show (i*2+j) / 2=i by omega,show (i*2+j) % 2=j by omega,hp]; rfl
  refine ⟨?_,p.2,?_,?_⟩
  ·show W.cell b0 (0+i*2)=_; rw [Nat.zero_add]; exact hB.cell (hg 0 (by omega))
  ·show W.cell b0 (0+i*2+1)=_; rw [Nat.zero_add]; exact hB.cell (hg 1 (by omega))
  ·refine ⟨some ⟨bv,0,none⟩,p.1.vals.length,h1,fun j y hy=>⟨_,rfl,?_,hb p hpm y (List.mem_of_getElem? hy)⟩⟩; show W.cell bv (0+j*1)=_; rw [show 0+j*1=j by omega]; refine h2.cell ?_; unfold zCt; rw [List.getElem?_map,hy]; rfl
theorem zTB {A W:CW} {K:zAI} {e:Env} {bk br b12 B r1 r2 w r:Nat} {vo:Value} {c:List Shp} {l:List Spc} {ps:List (Thg × Value)} (Q:AskIn A bk br r1 r2 w r c l) (hC:Cat c) (hs:zAq c l=true) (hml:∀ s,s ∈ l→s.map.length<100000) (hrow:∀ p,p ∈ ps→zTX c p.1) (hbd:∀ p,p ∈ ps→BdT p.1) (hpl:ps.length≤1000)
  (kA:Kp A W) (t0:Top W) (hAB:A.sz≤B) (hB12:A.sz≤b12) (hb12:Blk W b12 24 [vo]) (hH:HeapAt B W vo ps)
  (g9:e 9=.pointer (some ⟨bk,0,none⟩)) (g11:e 11=.pointer (some ⟨br,0,none⟩)) (g12:e 12=.pointer (some ⟨b12,0,none⟩)) (g37:e 37=vo) (g38:e 38=.int .i64 ps.length) (g39:e 39=.int .i64 0)
  (hend:∀ e' W' qs,Kp A W'→Top W'→Blk W' b12 24 [vo]→HeapAt B W' vo qs→qs.map (·.1)=ps.map (fun p=>zBn c l p.1)→e' 12=.pointer (some ⟨b12,0,none⟩)→K (.exit 0) e' [] W') :
  zCg prog pkL none 19 56 (.loop (zAS prog 19 0)) e [] W K:=by
 refine zCX (fun i e' ds' W'=>ds'=[]∧Kp A W'∧Top W'∧Blk W' b12 24 [vo]∧e' 9=.pointer (some ⟨bk,0,none⟩)∧e' 11=.pointer (some ⟨br,0,none⟩)∧e' 12=.pointer (some ⟨b12,0,none⟩)∧e' 37=vo∧e' 38=.int .i64 ps.length∧e' 39=.int .i64 i∧∃ qs,qs.length=i∧HeapAt B W' vo (qs++ps.drop i)∧qs.map (·.1)=(ps.take i).map (fun p=>zBn c l p.1)) ps.length
  ⟨rfl,kA,t0,hb12,g9,g11,g12,g37,g38,g39,[],rfl,hH,rfl⟩ ?_
 rintro i e' ds' W' hi ⟨rfl,kA',t',hb12',h9,h11,h12,h37,h38,h39,qs,hql,hH',hqs⟩; rw [zVg,h37,h38,h39]; simp only [zAZ,zAA]; refine zGZ (fun hlt=>?_) (fun hge=>?_)
 rotate_left
 ·have hin:i=ps.length:=by omega
  subst hin; simp only [qKn,qKr,qKx,qKp,bKn,bKr,bKp,bKx,tKn,tKr,tKx,tKp,zKn,zKr,zKx,zKp]; refine hend _ W' qs kA' t' hb12' ?_ (by rw [hqs,List.take_length]) (by simp only [eKc,eKn,eKa,Nat.reduceEqDiff,↓reduceIte,gKz,gKs,dKs,and_self,h12])
  simpa using hH'
 ·have hp:=List.getElem?_eq_getElem hlt; generalize hpp:ps[i]=p at hp; have hpm:p ∈ ps:=List.mem_of_getElem? hp; have hdrop:ps.drop i=p::ps.drop (i+1):=by rw [←hpp]; exact List.drop_eq_getElem_cons hlt
  have hat:(qs++ps.drop i)[i]?=some p:=by rw [List.getElem?_append_right (by omega),hql,Nat.sub_self,hdrop]; rfl
  have hll:(qs++ps.drop i).length=ps.length:=by rw [List.length_append,List.length_drop,hql]; omega
  have hcl:=zDa (qs++ps.drop i); obtain ⟨bv,hv,hBv,hBB⟩:=hH'.pv p (List.mem_of_getElem? hat)
  obtain ⟨b0,hvo,hB0,hbB0⟩:∃ b0,vo=.slice (some ⟨b0,0,none⟩) ps.length ps.length∧Blk W' b0 56 ((qs++ps.drop i).flatMap zGN)∧B≤b0:=by
   have hO:=hH'.own; have hN:=hH'.new; generalize (qs++ps.drop i).flatMap zGN=cs at hO hcl
   cases hO with
   | nil=>simp at hcl; omega
   | @some b0 len _ hB hl =>
    have:len=ps.length:=by omega
    subst this; exact ⟨b0,rfl,hB,hN _ _ _ rfl⟩
  subst hvo; rw [zAb u24 s56 hlt]; simp only [zAA]
  have hcell:Cells W' b0 (0+i*2) (zGN p):=fun j v hj=>by
   have hj2:j<2:=by have:=(List.getElem?_eq_some_iff.1 hj).1; simpa [zGN] using this
   refine hB0.cell ?_; rw [zGB,show (0+i*2+j) / 2=i by omega,show (0+i*2+j) % 2=j by omega,hat]; exact hj
  rw [zA8 (vs:=zGN p) (a:=⟨b0,0+i*2,none⟩) a56 s56 rfl (by omega) hcell]; simp only [zAA]; have hone:(zGN p).all zAg=true:=by unfold zGN; rw [hv]; rfl
  refine zBx (ws:=zGN p) z56 s56 rfl hone rfl t' fun W2 k2 t2 z2 hB15=>?_; have kA2:=kA'.trans k2; have hb12_2:=hb12'.ext t' k2; rw [h12,h11,h9]; rw [zAB a24 (a:=⟨b12,0,none⟩) (hb12_2.cell rfl),zSs ((Q.rr.ext Q.top kA2)),zMz (Q.k.ext Q.top kA2),zA8 (vs:=zGN p) (a:=⟨W'.sz,0,none⟩) a56 s56 rfl (by omega) hB15.cells]; simp only [zAA]; have hBv2:=hBv.ext t' k2
  have hvx:IsSl 1 (RInt W2) p.2 p.1.vals:=by
   refine ⟨some ⟨bv,0,none⟩,p.1.vals.length,hv,fun j y hy=>⟨_,rfl,?_,hbd p hpm y (List.mem_of_getElem? hy)⟩⟩; show W2.cell bv (0+j*1)=_; rw [show 0+j*1=j by omega]; refine hBv2.cell ?_; unfold zCt; rw [List.getElem?_map,hy]; rfl
  have hm:∀ s,zP1 l p.1.type=some s→s.map.length≤p.1.vals.length∧∃ t,zBQ c s.type=some t∧∀ m,m ∈ s.map→0≤m∧m.toNat<(zAj c t).length:=by
   intro s hsp; unfold zP1 at hsp; have hto:s.to=p.1.type:=by simpa using List.find?_some hsp
   obtain ⟨j,hj⟩:=List.getElem?_of_mem (List.mem_of_find?_eq_some hsp); obtain ⟨t,a,S⟩:=zLE hs hj; obtain ⟨ix,hix,hrl⟩:=hrow p hpm; rw [←hto,S.ai] at hix
   cases hix
   refine ⟨by rw [hrl S.ea,S.len]; exact Nat.le_refl _,t,S.ti,fun m hmm=>?_⟩; obtain ⟨k,hk⟩:=List.getElem?_of_mem hmm; have hkl:k<(zAj c a).length:=by rw [←S.len]; exact (List.getElem?_eq_some_iff.1 hk).1
   obtain ⟨n,hn1,hn2,hn3,_⟩:=S.map k hkl; rw [hk] at hn1
   cases hn1
   omega
  refine (zRm (w:=w) (r:=r) (r1:=r1) (r2:=r2) t2 (Q.rd.kp Q.top kA2) (Q.cat.kp Q.top kA2) hC hvx hm hml).mono fun en W3 ⟨k3,t3,vv,hen,hor⟩=>?_; subst hen; refine zAY ?_; have k23:=k2.trans k3; have kA3:=kA2.trans k3; have hb12_3:=hb12_2.ext t2 k3; have hB0_3:=hB0.ext t' k23; rw [zAb u24 s56 hlt]; simp only [zAA]; generalize hy:zBn c l p.1=y at hor
  have hone2:(zGN (y,vv)).all zAg=true:=by
   rcases hor with ⟨rfl,_⟩ | ⟨bv2,rfl,_⟩
   ·unfold zGN; rw [hv]; rfl
   ·rfl
  refine zB6 s56 (a:=⟨b0,0+i*2,none⟩) (ws:=zGN (y,vv)) hone2 rfl hB0_3 (by show 0+i*2+2≤_; rw [hcl,hll]; omega) fun W4 hu4 hB4=>?_; have hu4:Upd b0 W3 W4:=hu4
  have hset:(qs++ps.drop i).set i (y,vv)=(qs++[(y,vv)])++ps.drop (i+1):=by
   rw [hdrop,List.set_append_right _ _ (by omega),hql,Nat.sub_self]; simp
  have hB4:Blk W4 b0 56 (((qs++[(y,vv)])++ps.drop (i+1)).flatMap zGN):=by
   rw [←hset,←zS1 (by rw [hll]; exact hlt)]; exact hB4
  have hne12:b12≠b0:=by
   rintro rfl; have:=zAw hb12' hB0; cases this
  have hb0l:=hB0_3.lt t3; have t4:=t3.upd hb0l hu4; have l15:∀ W0,Kp W2 W0→ld prog 24 (.pointer (some ⟨b12,0,none⟩)) W0=some (.slice (some ⟨b0,0,none⟩) ps.length ps.length):=fun W0 k0=>zAB a24 (a:=⟨b12,0,none⟩) ((hb12_2.ext t2 k0).cell rfl); refine ⟨by simp only [zA8 (vs:=zGN p) (a:=⟨W'.sz,0,none⟩) a56 s56 rfl (by omega) hB15.cells,l15 W2 (.refl _),l15 W3 k3,zSs ((Q.rr.ext Q.top kA2)),zMz (Q.k.ext Q.top kA2),and_self],trivial,?_⟩; simp only [zRL,qKn,qKr,qKx,qKp,bKn,bKr,bKp,bKx,tKn,tKr,tKx,tKp,zKn,zKr,zKx,zKp]; simp only [eKc,eKn,eKa,Nat.reduceEqDiff,↓reduceIte,gKz,gKs,dKs,and_self,h39,zAW,zAA,qKn,qKr,qKx,qKp,bKn,bKr,bKp,bKx,tKn,tKr,tKx,tKp,zKn,zKr,zKx,zKp]
  have keep3:∀ {j:Nat} {ws:List Value},Blk W3 j 3 ws→Blk W4 j 3 ws:=fun {j ws} hB=>hB.congr (hu4.obj j (by
   rintro rfl
   have:=zAw hB hB0_3; cases this))
  refine ⟨hlt,trivial,kA3.upd (by omega) hu4,t4,hb12_3.congr (hu4.obj _ hne12),?_,?_,?_,?_,?_,?_,qs++[(y,vv)],by simp [hql],⟨?_,hH'.new,fun q hq=>?_⟩,?_⟩
  ·simp only [eKc,eKn,eKa,Nat.reduceEqDiff,↓reduceIte,gKz,gKs,dKs,and_self,h9]
  ·simp only [eKc,eKn,eKa,Nat.reduceEqDiff,↓reduceIte,gKz,gKs,dKs,and_self,h11]
  ·simp only [eKc,eKn,eKa,Nat.reduceEqDiff,↓reduceIte,gKz,gKs,dKs,and_self,h12]
  ·simp only [eKc,eKn,eKa,Nat.reduceEqDiff,↓reduceIte,gKz,gKs,dKs,and_self,h37]
  ·simp only [eKc,eKn,eKa,Nat.reduceEqDiff,↓reduceIte,gKz,gKs,dKs,and_self,h38]
  ·rw [zCT (by omega)]
  ·refine Own.some hB4 ?_; rw [zDa,←hset,List.length_set,hll]
  ·have old:∀ q,q ∈ qs++ps.drop i→∃ bv,q.2=.slice (some ⟨bv,0,none⟩) q.1.vals.length q.1.vals.length∧Blk W4 bv 3 (zCt q.1.vals)∧B≤bv:=fun q hq=>by
    obtain ⟨bq,h1,h2,h3⟩:=hH'.pv q hq; exact ⟨bq,h1,keep3 (h2.ext t' k23),h3⟩
   rw [List.append_assoc] at hq
   rcases List.mem_append.1 hq with hq | hq
   ·exact old q (List.mem_append_left _ hq)
   ·rcases List.mem_append.1 hq with hq | hq
    ·cases List.mem_singleton.1 hq
     rcases hor with ⟨h1,h2⟩ | ⟨bv2,h1,h2,h3⟩
     ·refine ⟨bv,?_,?_,hBB⟩
      ·show vv=_; rw [h1,hv]; show _=Value.slice _ y.vals.length y.vals.length; rw [h2]
      ·show Blk W4 bv 3 (zCt y.vals); rw [h2]; exact keep3 (hBv.ext t' k23)
     ·have:=k2.sz; have:=zH7 t' hH'.own (⟨_,_,_,rfl,rfl⟩:zA7 (.slice (some ⟨b0,0,none⟩) ps.length ps.length) b0); exact ⟨bv2,h1,keep3 h2,by omega⟩
    ·exact old q (List.mem_append_right _ (by rw [hdrop]; exact List.mem_cons_of_mem _ hq))
  ·rw [List.map_append,hqs,List.take_add_one,hp,List.map_append,←hy]; rfl
end Go.Ce
namespace Go.Ce
open Go Go.Proofs Go.Proofs.Tryz
theorem zYc:zer prog 24=some (.slice none 0 0):=by kernel_rfl
theorem HeapAt.low {B B':Nat} {W:CW} {v:Value} {ps:List (Thg × Value)} (h:HeapAt B W v ps) (hB:B'≤B):HeapAt B' W v ps:=⟨h.own,fun b l c e=>by have:=h.new b l c e; omega,fun p hp=>by
 obtain ⟨bv,h1,h2,h3⟩:=h.pv p hp
 exact ⟨bv,h1,h2,by omega⟩⟩
def zHW (c:List Shp) (l:List Spc) (b:List UInt8):List Thg × Int × Int :=
 if zA9 c=false then ([],0,210) else if zAq c l=false then ([],0,212) else if 100000<b.length then ([],0,2) else match zBC b c (zJs c l) 0 with
 | .error e=>([],0,e)
 | .ok (xs,_)=>(xs.map (zBn c l),min (xs.length:Int) 1,0)
def zOf (r:List Thg × Int × Int) (W:CW):Ending→CW→Prop:=fun en W'=>Kp W W'∧Top W'∧∃ v qs,en=.returned (.tuple #[v,.int .i64 r.2.1,.int .i64 r.2.2])∧HeapAt W.sz W' v qs∧qs.map (·.1)=r.1∧∀ q,q ∈ qs→BdT q.1
structure BsIn (A:CW) (vb:Value) (b:List UInt8):Prop where
 sl:∃ a cap,vb=.slice a b.length cap∧b.length≤cap∧∀ i x,b[i]?=some x→∃ p,a=some p∧RByte A p.block (p.off+i*1) x
theorem BsIn.kp {A W:CW} {vb:Value} {b:List UInt8} (h:BsIn A vb b) (ht:Top A) (k:Kp A W):BsIn W vb b:=by
 obtain ⟨a,cap,h1,h2,h3⟩:=h.sl
 exact ⟨a,cap,h1,h2,fun i x hx=>by
  obtain ⟨p,q1,q2⟩:=h3 i x hx
  exact ⟨p,q1,k.cell ht q2⟩⟩
theorem zUj {A W:CW} {bk br r1 r2 w r b12 rb:Nat} {vb:Value} {b:List UInt8} {c:List Shp} {l:List Spc} (Q:AskIn A bk br r1 r2 w r c l) (I:RdIn A vb b) (h:Rd A W rb vb 0) (hb12:Blk W b12 24 [.slice none 0 0]) (hAb:A.sz≤b12) (hne:b12≠rb) (hok:zA9 c=true) (hC:Cat c) {K:Value→CW→Prop} {KP:List PanicEntry→CW→Prop}
  (hk:∀ W' v xs at' ps,zBC b c (zJs c l) 0=.ok (xs,at')→Chg (fun j=>j=rb∨j=b12) W W'→Top W'→Blk W' b12 24 [v]→HeapAt W.sz W' v ps→ps.map (·.1)=xs→K (.tuple #[]) W')
  (hp:∀ W' x,zBC b c (zJs c l) 0=.error x→Chg (RdS rb) W W'→Top W'→KP (zB5 x) W') :
  zBq prog pkL (.func (.func 73) #[] #[.pointer (some ⟨bk,0,none⟩),.pointer (some ⟨br,0,none⟩),.pointer (some ⟨b12,0,none⟩)]) [.pointer (some ⟨rb,0,none⟩)] W K KP:=by
 refine zDd Tryz.func73 (by kernel_rfl) ?_; refine zXM (v0:=.pointer (some ⟨rb,0,none⟩)) (v1:=.pointer (some ⟨bk,0,none⟩)) (v2:=.pointer (some ⟨br,0,none⟩)) (v3:=.pointer (some ⟨b12,0,none⟩)) ?_; rw [zXN]; rw [zMz (Q.k.ext Q.top h.kp)]; simp only [zAA]; refine (zMe (c:=c) I h (Nat.zero_le _) (zTS Q) (fun s hs=>(zRp hs).1) Q.cat hok hC).mono fun en W1 ⟨k1,t1,hr⟩=>?_
 cases hth:zBC b c (zJs c l) 0 with
 | error x =>
  rw [hth] at hr; simp only at hr; subst hr; exact hp W1 x hth k1 t1
 | ok r =>
  obtain ⟨xs,at'⟩:=r; rw [hth] at hr; obtain ⟨v,hen,⟨ps,h1,h2⟩,_⟩:=hr; subst hen; refine zAY ?_; have hB1:=k1.blk h.top (b:=b12) hne hb12; refine zAX s24 (a:=⟨b12,0,none⟩) (v:=v) (zH6 h2.own) hB1 (by simp) fun W2 hu hB2=>?_; have hu:Upd b12 W1 W2:=hu; have hl:=hb12.lt h.top; refine zEm (by kernel_rfl) _ _ (.inl rfl) _ _ (hk W2 v xs at' ps hth ⟨by rw [hu.sz]; exact k1.sz,fun j hj hS=>?_⟩ (t1.upd (hB1.lt t1) hu) hB2 (h2.of fun j o hj ho _=>by rw [hu.obj j (by omega)]; exact ho) h1); rw [hu.obj j (fun e=>hS (.inr e)),k1.obj j hj (fun e=>hS (.inl e))]
theorem zQN {v0 v1 vb:Value} {c:List Shp} {l:List Spc} {b:List UInt8} {W:CW} (ht:Top W) (hc:IsSl 5 (RShp W) v0 c) (hC:Cat c) (hl:IsSl 3 (RSpc W) v1 l) (hll:l.length<100000) (hml:∀ s,s ∈ l→s.map.length<100000) (hb:BsIn W vb b) :
  WCall prog pkL 19 [v0,v1,vb] W (zOf (zHW c l b) W):=by
 refine zXx ?_; rw [zXy]; generalize hKK:zAE prog Tryz.f19 (zOf (zHW c l b) W)=KK
 have hfin:∀ (e':Env) W' v n m qs,Kp W W'→Top W'→e' 6=v→e' 7=.int .i64 n→e' 8=.int .i64 m→HeapAt W.sz W' v qs→(∀ q,q ∈ qs→BdT q.1)→zHW c l b=(qs.map (·.1),n,m)→KK .ret e' [] W':=by
  intro e' W' v n m qs k t h6 h7 h8 hH hbd hn; rw [←hKK,zRK,h6,h7,h8,hn]; exact ⟨k,t,v,qs,rfl,hH,rfl,hbd⟩
 have hnil:∀ W',HeapAt W.sz W' (.slice none 0 0) []:=fun W'=>⟨Own.nil,Newer.nil _ _ _,fun p hp=>by cases hp⟩
 refine (zHd ht hc hC).mono fun en W1 ⟨k1,t1,r1,r2,hen,hr1,hr2,hcat⟩=>?_; subst hen; refine zAY ?_; refine zAu (zBF _ _) ?_; refine zAu (zBE _ _) ?_; unfold zI2; refine zBx (ws:=[.map (some r1),.map (some r2)]) z78 s78 rfl rfl rfl t1 fun W3 k3 t3 z3 hB9=>?_; have k03:=k1.trans k3; simp only [zAR,zAA]
 cases hok:zA9 c with
 | false =>
  simp only [Bool.not_false,zAn]; exact hfin _ W3 _ 0 210 [] k03 t3 rfl rfl rfl (hnil _) (fun q hq=>by cases hq) (by unfold zHW; rw [if_pos hok]; rfl)
 | true =>
  simp only [Bool.not_true,zAP]; have hcat3:=(hcat hok).kp t1 k3; rw [zMz hB9]; simp only [zAA]; refine (zNs t3 hcat3 hC (hl.imp fun _ _ _ hr=>hr.kp ht k03) hll hml).mono fun en W4 ⟨k4,t4,w,r,hen,hsp⟩=>?_; subst hen; refine zAY ?_; refine zAu (zBF _ _) ?_; refine zAu (zBE _ _) ?_; refine zBx (ws:=[.map (some w),.map (some r)]) z83 s83 rfl rfl rfl t4 fun A k7 tA z7 hB11=>?_; have k3A:=k4.trans k7; have k0A:=k03.trans k3A; simp only [zAR,zAA]
  cases hs:zAq c l with
  | false =>
   simp only [Bool.not_false,zAn]; exact hfin _ A _ 0 212 [] k0A tA rfl rfl rfl (hnil _) (fun q hq=>by cases hq) (by unfold zHW; rw [if_neg (by rw [hok]; simp),if_pos hs]; rfl)
  | true =>
   simp only [Bool.not_true,zAP]; obtain ⟨hsw,hsr⟩:=hsp hs; have Q:AskIn A W1.sz W4.sz r1 r2 w r c l:=⟨tA,hB9.ext t3 k3A,hB11,hcat3.kp t3 k3A,hsw.kp t4 k7,hsr.kp t4 k7⟩
   have hbA:=hb.kp ht k0A; refine zFa zYc s24 tA fun T k8 tT zT hB12=>?_; have hB12:Blk T A.sz 24 [.slice none 0 0]:=hB12; obtain ⟨a,cap,hvb,hcap,hbt⟩:=hbA.sl; rw [hvb]
   have hrd:zHW c l b=(if 100000<b.length then ([],0,2) else match zBC b c (zJs c l) 0 with
    | .error e=>([],0,e)
    | .ok (xs,_)=>(xs.map (zBn c l),min (xs.length:Int) 1,0)):=by
    unfold zHW; rw [if_neg (by rw [hok]; simp),if_neg (by rw [hs]; simp)]
   have hxs:∀ x,zBC b c (zJs c l) 0=.error x→x≠0:=fun x=>zMd zTR; have hTn:Kp A T:=k8
   refine (zOp (Q:=fun en W'=>Kp A W'∧Top W'∧∃ x,en=.returned (.int .i64 x)∧((x≠0∧zHW c l b=([],0,x))∨(x=0∧∃ v xs at' ps,zHW c l b=(xs.map (zBn c l),min (xs.length:Int) 1,0)∧zBC b c (zJs c l) 0=.ok (xs,at')∧Blk W' A.sz 24 [v]∧HeapAt A.sz W' v ps∧ps.map (·.1)=xs))) tT (fun hbig W' k t=>⟨k8.trans k,t,2,rfl,.inl ⟨by decide,by rw [hrd,if_pos hbig]⟩⟩) (fun hlim W0 k t hz hBe hBr=>?_)).mono fun en W' ⟨kk,tt,x,hen,hor⟩=>?_
   ·have hkA:=k8.trans k
    have hrd':zHW c l b=(match zBC b c (zJs c l) 0 with
     | .error e=>([],0,e)
     | .ok (xs,_)=>(xs.map (zBn c l),min (xs.length:Int) 1,0)):=by rw [hrd,if_neg (by omega)]
    have I:RdIn A (.slice a b.length cap) b:=⟨tA,⟨a,cap,rfl,hcap,hbt⟩,hlim⟩
    have R:Rd A W0 (T.sz+1) (.slice a b.length cap) 0:=⟨hkA,t,by omega,hBr⟩
    refine zUj Q I R (hB12.ext tT k) (Nat.le_refl _) (by omega) hok hC (fun W3 v xs at' ps hth hch t3 hB3 hH3 hps=>?_) (fun W4 x hth hch t4=>?_)
    ·refine ⟨t3,hch.blk t (fun h=>by omega) hBe,fun W' hu t'=>⟨⟨?_,fun j hj=>?_⟩,t',0,rfl,.inr ⟨rfl,v,xs,at',ps,?_,hth,?_,?_,hps⟩⟩⟩
     ·have h1:=hkA.sz; have h2:=hch.sz; have h3:=hu.sz; omega
     ·have h1:=hkA.sz; have h2:=hch.sz; rw [hu.obj j (by omega) (by omega),hch.obj j (by omega) (fun h=>by omega),hkA.obj j hj]
     ·rw [hrd',hth]
     ·exact hB3.congr (hu.obj _ (hB3.lt t3) (by omega))
     ·exact (hH3.of fun j o hj ho _=>by rw [hu.obj j (t3 _ _ ho) (by omega)]; exact ho).low hkA.sz
    ·refine ⟨x,rfl,t4,hch.blk t (fun h=>by have:T.sz=T.sz+1:=h; omega) hBe,fun W' hu t'=>⟨⟨?_,fun j hj=>?_⟩,t',x,rfl,.inl ⟨hxs x hth,by rw [hrd',hth]⟩⟩⟩
     ·have h1:=hkA.sz; have h2:=hch.sz; have h3:=hu.sz; omega
     ·have h1:=hkA.sz; have h2:=hch.sz; rw [hu.obj j (by omega) (by omega),hch.obj j (by omega) (fun h=>by have:j=T.sz+1:=h; omega),hkA.obj j hj]
   ·subst hen; refine zAY ?_; simp only [zBW,zAA]
    rcases hor with ⟨hx,hr⟩ | ⟨rfl,v,xs,at',ps,hr,hth,hB,hH,hps⟩
    ·rw [show (x != 0)=true by simpa using hx,zAn]; exact hfin _ W' _ 0 x [] (k0A.trans kk) tt rfl rfl rfl (hnil _) (fun q hq=>by cases hq) hr
    ·rw [show ((0:Int) != 0)=false from rfl,zAP]; rw [zAB a24 (a:=⟨A.sz,0,none⟩) (hB.cell rfl)]; simp only [zAA]; obtain ⟨hrow,h1000⟩:=zMc hth; have hbd:=zOq hth; subst hps; rw [List.length_map] at h1000
     have hlen:zAm prog 24 v W'=some (.int .i64 ps.length):=by
      have:=zDa ps; exact zEK u24 hH.own (by omega) (by omega)
     rw [hlen]; simp only [zAA]; refine zTB (c:=c) (l:=l) (ps:=ps) Q hC hs hml (fun p hp=>hrow _ (List.mem_map_of_mem hp)) (fun p hp=>hbd _ (List.mem_map_of_mem hp)) h1000 kk tt (Nat.le_refl _) (Nat.le_refl _) hB hH rfl rfl rfl rfl rfl rfl (fun e' W2 qs kA2 t2 hB2 hH2 hqs h12=>?_); simp only [zRM,qKn,qKr,qKx,qKp,bKn,bKr,bKp,bKx,tKn,tKr,tKx,tKp,zKn,zKr,zKx,zKp]; rw [h12]; have hl2:ld prog 24 (.pointer (some ⟨A.sz,0,none⟩)) W2=some v:=zAB a24 (a:=⟨A.sz,0,none⟩) (hB2.cell rfl); rw [hl2]
     have hql:qs.length=ps.length:=by
      have:=congrArg List.length hqs
      simpa using this
     have hlen2:zAm prog 24 v W2=some (.int .i64 qs.length):=by
      have:=zDa qs; exact zEK u24 hH2.own (by omega) (by omega)
     simp only [zAA]; rw [hlen2]; simp only [zAA]; rw [zR4]; simp only [zR7]; refine ⟨by simp only [hl2,and_self],trivial,?_⟩; refine hfin _ W2 v (min (qs.length:Int) 1) 0 qs (k0A.trans kA2) t2 rfl rfl rfl (hH2.low (by have:=k0A.sz; omega)) (fun q hq=>?_) (by rw [hr,List.map_map,hqs,List.length_map,hql]; rfl); have:q.1 ∈ ps.map (fun p=>zBn c l p.1):=by rw [←hqs]; exact List.mem_map_of_mem hq
     obtain ⟨p,hp,he⟩:=List.mem_map.1 this; rw [←he]; exact zTP (hbd _ (List.mem_map_of_mem hp))
end Go.Ce
namespace Go.Ce
open Go Go.Proofs Go.Proofs.Tryz
def bI (b:List UInt8):List Int:=b.map fun x=>((x.toNat:Nat):Int)
theorem zFX (b:List UInt8):(bI b).length=b.length:=List.length_map _
structure Seg (b:List UInt8) (i j:Nat) (e:List Int):Prop where
 le:j≤b.length
 ij:j=i+e.length
 eq:(bI b).drop i=e++(bI b).drop j
theorem Seg.split {b:List UInt8} {i k:Nat} {e f:List Int} (h:Seg b i k (e++f)):∃ j,Seg b i j e∧Seg b j k f:=by
 have hl:=h.ij; have hle:=h.le; rw [List.length_append] at hl
 have hd:(bI b).drop (i+e.length)=f++(bI b).drop k:=by
  rw [←List.drop_drop,h.eq,List.append_assoc,List.drop_left]
 exact ⟨i+e.length,⟨by omega,rfl,by rw [h.eq,hd,List.append_assoc]⟩,⟨h.le,by omega,hd⟩⟩
theorem Seg.head {b:List UInt8} {i k:Nat} {n:Int} {f:List Int} (h:Seg b i k (n::f)):∃ x,b[i]?=some x∧n=((x.toNat:Nat):Int)∧Seg b (i+1) k f:=by
 have hl:=h.ij; have hle:=h.le; rw [List.length_cons] at hl; have hil:i<b.length:=by omega
 have he:=h.eq; unfold bI at he; rw [←List.map_drop,List.drop_eq_getElem_cons hil,List.map_cons,List.cons_append] at he
 injection he with h1 h2
 refine ⟨b[i],List.getElem?_eq_getElem hil,h1.symm,⟨hle,by omega,?_⟩⟩; unfold bI; rw [←List.map_drop]; exact h2
theorem zKC {n:Nat} (h:n<128):zCB n=[(n:Int)]:=by unfold zCB; rw [if_pos h]
theorem zUQ {n:Nat} (h:128≤n):zCB n=((n % 128+128:Nat):Int)::zCB (n / 128):=by
 conv=>lhs; unfold zCB
 rw [if_neg (by omega)]
theorem zQb {b:List UInt8}:∀ {f at_ n sh v j:Nat},0<f→v<128 ^ f→(0<v∨sh=0)→Seg b at_ j (zCB v)→zLT b f at_ n sh=.ok (n+v*2 ^ sh,j)
 | f+1,at_,n,sh,v,j,_,h,h0,hs=>by
  unfold zLT
  by_cases hv:v<128
  ·rw [zKC hv] at hs; obtain ⟨x,hx,he,hq⟩:=hs.head; have:v=x.toNat:=by omega
   subst this; rw [hx]; simp only [if_pos hv]; rw [if_pos h0]; have:=hq.ij; rw [List.length_nil] at this; rw [this]
  ·rw [zUQ (by omega)] at hs; obtain ⟨x,hx,he,hq⟩:=hs.head; have:v % 128+128=x.toNat:=by omega
   rw [hx]; simp only; rw [if_neg (by omega),zQb (Nat.pos_of_ne_zero (by rintro rfl; omega)) (by rw [Nat.pow_succ] at h; omega) (.inl (by omega)) hq,show x.toNat % 128=v % 128 by omega]; congr 2; rw [Nat.pow_add,show (2:Nat) ^ 7=128 from rfl,Nat.mul_comm (2 ^ sh) 128,←Nat.mul_assoc,Nat.add_assoc,←Nat.add_mul]; congr 2; omega
theorem zEf {b:List UInt8} {at_:Nat} {m:Int} {n j:Nat} (h:Seg b at_ j (zCB n)) (hm:(n:Int)≤m) (hn:n<4398046511104):zER b at_ m=.ok (n,j):=by
 unfold zER; rw [zQb (f:=6) (n:=0) (sh:=0) (by omega) (by omega) (.inr rfl) h]; simp only [Nat.zero_add,Nat.pow_zero,Nat.mul_one]; rw [if_pos hm]
inductive ValsC (c:List Shp) (ix many:Nat):Nat→Nat→List Int→Nat→Prop
 | nil (k fd:Nat):ValsC c ix many k fd [] fd
 | ref {k fd v:Nat} {vs:List Int} {fd':Nat} (hk:zA3 c ix k=2) (hv:v≤min (fd+1) many) (h:ValsC c ix many (k+1) (max fd v) vs fd'):ValsC c ix many k fd ((v:Int)::vs) fd'
 | word {k fd:Nat} {v:Int} {vs:List Int} {fd':Nat} (hk:zA3 c ix k≠2) (h1:-1000000000≤v) (h2:v≤1000000000) (h:ValsC c ix many (k+1) fd vs fd'):ValsC c ix many k fd (v::vs) fd'
def zR0 (c:List Shp) (ix:Nat):Nat→List Int→List Int
 | _,[]=>[]
 | k,v::vs=>(if zA3 c ix k=2 then zCB v.toNat else zCB (zGa v).toNat)++zR0 c ix (k+1) vs
theorem zSH (v:Int):zRx (zGa v).toNat=v:=by
 unfold zGa zRx; split <;> split <;> omega
theorem zTz {v:Int} (h1:-1000000000≤v) (h2:v≤1000000000):(zGa v).toNat≤2000000000:=by
 unfold zGa; split <;> omega
theorem zSF {b:List UInt8} {c:List Shp} {ix many:Nat} (hm:many≤1000) {k fd fd':Nat} {new:List Int} (h:ValsC c ix many k fd new fd'):∀ {at_ j:Nat} {vs:List Int},Seg b at_ j (zR0 c ix k new)→zDF b c ix many new.length k at_ fd vs=.ok (vs++new,fd',j):=by
 induction h with
 | nil k fd =>
  intro at_ j vs hs; have:=hs.ij; rw [show zR0 c ix k []=[] from rfl] at this; rw [this,List.append_nil]; rfl
 | @ref k fd v vs' fd' hk hv h ih =>
  intro at_ j vs hs; rw [zR0,if_pos hk,Int.toNat_natCast] at hs; obtain ⟨a,h1,h2⟩:=hs.split; rw [List.length_cons,zDF,if_pos hk,zEf h1 (by omega) (by omega)]; simp only; rw [ih h2]; simp
 | @word k fd v vs' fd' hk hv1 hv2 h ih =>
  intro at_ j vs hs; rw [zR0,if_neg hk] at hs; obtain ⟨a,h1,h2⟩:=hs.split; have:=zTz hv1 hv2; rw [List.length_cons,zDF,if_neg hk,zEf h1 (by omega) (by omega)]; simp only; rw [ih h2,zSH]; simp
end Go.Ce
namespace Go.Ce
open Go Go.Proofs Go.Proofs.Tryz
theorem zQs {ts:List ByteArray} (hn:ts.Nodup) {t:Nat} {s:ByteArray} (h:ts[t]?=some s):zIp ts (fun x=>decide (x=s))=t:=by
 obtain ⟨hl,he⟩:=List.getElem?_eq_some_iff.1 h; refine zEn hl (by rw [he]; simp) fun j x hj hx=>?_; obtain ⟨hjl,hje⟩:=List.getElem?_eq_some_iff.1 hx
 have:x≠s:=by
  rintro rfl; have:=(List.getElem_inj hn).1 (hje.trans he.symm); omega
 simpa using this
inductive ThingsC (c:List Shp) (ts:List ByteArray) (many:Nat):Nat→Nat→Nat→List Thg→Nat→Nat→Prop
 | nil (i u f:Nat):ThingsC c ts many i u f [] u f
 | cons {i u f:Nat} {x:Thg} {xs:List Thg} {t ix f1 u' f':Nat} (hi:i<f) (ht:ts[t]?=some x.type) (htu:t≤u) (hx:zBQ c x.type=some ix) (hn:if zAN c ix≠0 then x.vals.length≤200 else x.vals.length=(zAj c ix).length) (hv:ValsC c ix many 0 f x.vals f1) (h:ThingsC c ts many (i+1) (if t=u then u+1 else u) f1 xs u' f'):ThingsC c ts many i u f (x::xs) u' f'
def zLz (c:List Shp) (ts:List ByteArray) (x:Thg):List Int:=match zBQ c x.type with
 | some i=>zCB (zIp ts fun y=>decide (y=x.type)).toNat++(if zAN c i≠0 then zCB x.vals.length else [])++zR0 c i 0 x.vals
 | none=>[]
theorem zP2 {b:List UInt8} {c:List Shp} {ts:List ByteArray} {many:Nat} (hm:many≤1000) (hnd:ts.Nodup) (htl:ts.length≤100) {i u f u' f':Nat} {new:List Thg} (h:ThingsC c ts many i u f new u' f'):∀ {at_ j:Nat} {out:List Thg},Seg b at_ j (new.flatMap (zLz c ts))→zCY b c ts many new.length i at_ u f out=.ok (out++new,u',f',j):=by
 induction h with
 | nil i u f =>
  intro at_ j out hs; have:=hs.ij; rw [show List.flatMap (zLz c ts) []=[] from rfl] at this; rw [this,List.append_nil]; rfl
 | @cons i u f x xs t ix f1 u' f' hi ht htu hx hn hv h ih =>
  intro at_ j out hs; rw [List.flatMap_cons] at hs; obtain ⟨a3,hs,hs'⟩:=hs.split; unfold zLz at hs; rw [hx] at hs; obtain ⟨a2,hs,hsv⟩:=hs.split; obtain ⟨a1,hst,hsn⟩:=hs.split; have htlt:=(List.getElem?_eq_some_iff.1 ht).1; rw [zQs hnd ht] at hst; have hst:Seg b at_ a1 (zCB t):=hst; rw [List.length_cons,zCY,if_pos hi,zEf hst (by omega) (by omega)]; simp only; rw [ht]; simp only; rw [hx]; simp only
  have hn2:(if zAN c ix≠0 then zER b a1 200 else .ok ((zAj c ix).length,a1))=.ok (x.vals.length,a2):=by
   split
   ·rename_i he; rw [if_pos he] at hn hsn; exact zEf hsn (by omega) (by omega)
   ·rename_i he; rw [if_neg he] at hn hsn; have:=hsn.ij; rw [hn,this]; rfl
  rw [hn2]; simp only; rw [zSF hm hv hsv]; simp only; rw [ih hs']; simp
theorem zOv (l:List UInt8):(zFd l).size=l.length:=by
 unfold zFd; show l.toArray.size=_; simp
theorem zNn (s:ByteArray):zFd (sb s)=s:=by
 unfold zFd sb; simp
theorem Seg.bytes {b:List UInt8} {a j:Nat} {l:List UInt8} (h:Seg b a j (bI l)):(b.drop a).take l.length=l∧a+l.length=j∧j≤b.length:=by
 have h1:=h.ij; rw [zFX] at h1; refine ⟨?_,h1.symm,h.le⟩
 have he:((bI b).drop a).take l.length=bI l:=by
  rw [h.eq,List.take_append_of_le_length (by rw [zFX]; omega),List.take_of_length_le (by rw [zFX]; omega)]
 unfold bI at he; rw [←List.map_drop,←List.map_take] at he
 have hinj:∀ (x y:List UInt8),x.map (fun x=>((x.toNat:Nat):Int))=y.map (fun x=>((x.toNat:Nat):Int))→x=y:=by
  intro x y hxy; refine List.map_inj_right (f:=fun x:UInt8=>((x.toNat:Nat):Int)) (fun p q hpq=>?_) |>.1 hxy; exact UInt8.toNat_inj.1 (Int.ofNat.inj hpq)
 exact hinj _ _ he
theorem zN6 {b:List UInt8} {ask:ByteArray→Option Int}:∀ {new:List ByteArray} {at_ j:Nat} {out:List ByteArray},(∀ s,s ∈ new→zDh s=true∧ask s=none)→(out++new).Nodup→Seg b at_ j (new.flatMap zDy)→zF9 b ask new.length at_ out=.ok (out++new,j)
 | [],at_,j,out,_,_,hs=>by
  have:=hs.ij; rw [show List.flatMap zDy []=[] from rfl] at this; rw [this,List.append_nil]; rfl
 | s::new,at_,j,out,hn,hnd,hs=>by
  rw [List.flatMap_cons] at hs; obtain ⟨a2,hs,hs'⟩:=hs.split; unfold zDy at hs; obtain ⟨a1,h1,h2⟩:=hs.split; obtain ⟨hsy,hask⟩:=hn s (by simp)
  have hsz:s.size≤60:=by
   unfold zDh at hsy; simp only [Bool.and_eq_true,decide_eq_true_eq] at hsy; omega
  have hb:zEN s=bI (sb s):=rfl; rw [hb] at h2; obtain ⟨q1,q2,q3⟩:=h2.bytes; have hl:(sb s).length=s.size:=by rw [←zOv,zNn]
  rw [hl] at q1 q2; have hS:zFd ((b.drop a1).take s.size)=s:=by rw [q1,zNn]
  rw [List.length_cons,zF9,zEf h1 (by omega) (by omega)]; simp only; rw [zEW,if_pos (by omega)]; simp only
  have hany:(out.any fun x=>decide (x=s))=false:=by
   refine List.any_eq_false.2 fun x hx=>?_; have:=(List.nodup_append.1 hnd).2.2 x hx s (by simp)
   simpa using this
  rw [hS,if_pos ⟨hsy,hany⟩,hask]; rw [q2,zN6 (fun x hx=>hn x (by simp [hx])) (by simpa using hnd) hs']; simp
structure Canon (c:List Shp) (ask:ByteArray→Option Int) (ts:List ByteArray) (xs:List Thg):Prop where
 tsl:ts.length≤100
 sym:∀ s,s ∈ ts→zDh s=true∧ask s=none
 nodup:ts.Nodup
 len:xs.length≤1000
 scan:ThingsC c ts xs.length 0 0 (min xs.length 1) xs ts.length xs.length
def zHJ (c:List Shp) (ts:List ByteArray) (xs:List Thg):List Int:=[1]++zCB ts.length++ts.flatMap zDy++zCB xs.length++xs.flatMap (zLz c ts)
theorem Seg.all {b:List UInt8} {e:List Int}:Seg b 0 b.length e↔bI b=e:=by
 constructor
 ·intro h; have:=h.eq; rw [List.drop_zero,List.drop_of_length_le (by rw [zFX]; omega),List.append_nil] at this; exact this
 ·rintro rfl; refine ⟨by omega,by rw [zFX]; omega,?_⟩; rw [List.drop_zero,List.drop_of_length_le (by rw [zFX]; omega),List.append_nil]
end Go.Ce
namespace Go.Ce
open Go Go.Proofs Go.Proofs.Tryz
theorem zH0 {c:List Shp} {l:List Spc} (h:zAq c l=true) {i:Nat} {s:Spc} (hs:l[i]?=some s):zDe l s i=false∧∀ k,k<l.length→zEh l s i k=false:=by
 unfold zAq at h; simp only [Bool.and_eq_true,Bool.not_eq_true'] at h; have hb:=zBi h.2 (List.getElem?_eq_some_iff.1 hs).1; unfold zI8 at hb; rw [hs] at hb; simp only at hb
 split at hb
 ·simp only [Bool.or_eq_false_iff] at hb; exact ⟨hb.1.2,fun k hk=>zBi hb.2.1 hk⟩
 ·cases hb
theorem zSI {c:List Shp} {l:List Spc} (h:zAq c l=true):∀ (k j:Nat) (x y:Spc),j<k→l[j]?=some x→l[k]?=some y→bLt (sb x.type) (sb y.type)=true:=by
 intro k
 induction k with
 | zero=>intro j x y hj; omega
 | succ k ih =>
  intro j x y hj hx hy; have hp:=(zH0 h hy).1; unfold zDe at hp; have hkl:k<l.length:=by have:=(List.getElem?_eq_some_iff.1 hy).1; omega
  have hz:=List.getElem?_eq_getElem hkl; simp only [hz,Bool.not_eq_false'] at hp
  rcases Nat.lt_succ_iff_lt_or_eq.1 hj with h1 | rfl
  ·exact zGU _ _ _ (ih j x _ h1 hx hz) hp
  ·rw [hx] at hz; cases hz; exact hp
theorem zLF {c:List Shp} {l:List Spc} (h:zAq c l=true) {s:Spc} (hs:s ∈ l):zFL l s.type=some s:=by
 obtain ⟨i,hi,he⟩:=List.mem_iff_getElem.1 hs; have hi':=List.getElem?_eq_getElem hi; rw [he] at hi'
 have:=zS2 (l:=l) (s:=s.type) hi (by rw [he]; simp) (fun j hj=>by
  have hjl:j<l.length:=by omega
  have hj':=List.getElem?_eq_getElem hjl; rw [hj']; have hlt:=zSI h i j _ _ hj hj' hi'; simp only [Option.map_some,Option.some.injEq,decide_eq_false_iff_not]; intro e
  rw [e,zIk] at hlt; cases hlt)
 rw [this,he]
theorem zWw {c:List Shp} {l:List Spc} (h:zAq c l=true) {s x:Spc} (hs:s ∈ l) (hx:x ∈ l):x.type≠s.to:=by
 obtain ⟨i,hi,he⟩:=List.mem_iff_getElem.1 hs; obtain ⟨k,hk,hke⟩:=List.mem_iff_getElem.1 hx; have hi':=List.getElem?_eq_getElem hi; rw [he] at hi'; have:=(zH0 h hi').2 k hk; unfold zEh at this; rw [List.getElem?_eq_getElem hk,hke] at this; simp only [Bool.or_eq_false_iff,decide_eq_false_iff_not] at this; exact this.1
theorem zSJ {c:List Shp} {l:List Spc} (h:zAq c l=true) {s:Spc} (hs:s ∈ l):zP1 l s.to=some s:=by
 unfold zP1; obtain ⟨i,hi,he⟩:=List.mem_iff_getElem.1 hs; have hi':=List.getElem?_eq_getElem hi; rw [he] at hi'; rw [List.find?_eq_some_iff_getElem]; refine ⟨by simp,i,hi,he,fun j hj=>?_⟩; have hjl:j<l.length:=by omega
 have:=(zH0 h hi').2 j hjl; unfold zEh at this; rw [List.getElem?_eq_getElem hjl] at this; simp only [Bool.or_eq_false_iff,Bool.and_eq_false_iff,decide_eq_false_iff_not] at this
 rcases this.2 with h1 | h1
 ·exact (h1 hj).elim
 ·simpa using h1
theorem zQf {mp:List Int} {k:Nat} {n:Int} (h:zJH mp k n=false) {j:Nat} (hj:j<k):mp[j]?≠some n:=by
 have:=zBi h hj
 simpa using this
theorem zOa {mp vs z:List Int} (hin:∀ (k:Nat) m,mp[k]?=some m→0≤m∧m.toNat<z.length) (hd:∀ (k j:Nat) m,j<k→mp[k]?=some m→mp[j]?≠some m):∀ n,n≤mp.length→∀ (j:Nat) m,j<n→mp[j]?=some m→(zDT mp vs z n)[m.toNat]?=some ((vs[j]?).getD 0)
 | 0,_,j,m,hj,_=>by omega
 | n+1,hn,j,m,hj,hm=>by
  have hnl:n<mp.length:=by omega
  have hx:=List.getElem?_eq_getElem hnl; have hb:=hin n _ hx; have hb2:=hin j _ hm; rw [zDT,hx,Option.getD_some,List.getElem?_set]
  by_cases e:n=j
  ·subst e; rw [hx] at hm
   cases hm
   rw [if_pos rfl,if_pos (by rw [zE4]; exact hb.2)]
  ·have hjn:j<n:=by omega
   have hne:mp[n]≠m:=fun e'=>hd n j m hjn (by rw [hx,e']) hm; rw [if_neg (by omega)]; exact zOa hin hd n (by omega) j m hjn hm
theorem zMO {mp vs z:List Int} (hin:∀ (k:Nat) m,mp[k]?=some m→0≤m) {i:Nat} (hi:∀ m,m ∈ mp→m.toNat≠i):∀ n,n≤mp.length→(zDT mp vs z n)[i]?=z[i]?
 | 0,_=>rfl
 | n+1,hn=>by
  have hnl:n<mp.length:=by omega
  have hx:=List.getElem?_eq_getElem hnl; rw [zDT,hx,Option.getD_some,List.getElem?_set,if_neg (hi _ (List.mem_of_getElem? hx))]; exact zMO hin hi n (by omega)
theorem zUA {c:List Shp} {s:Spc} {t a:Nat} (S:SpcIs c s t a):(∀ (k:Nat) m,s.map[k]?=some m→0≤m∧m.toNat<(zAj c t).length)∧∀ (k j:Nat) m,j<k→s.map[k]?=some m→s.map[j]?≠some m:=by
 constructor
 ·intro k m hk; obtain ⟨n,h1,h2,h3,_⟩:=S.map k (by rw [←S.len]; exact (List.getElem?_eq_some_iff.1 hk).1); rw [hk] at h1; cases h1; omega
 ·intro k j m hj hk; obtain ⟨n,h1,_,_,_,h5⟩:=S.map k (by rw [←S.len]; exact (List.getElem?_eq_some_iff.1 hk).1); rw [hk] at h1; cases h1; exact zQf h5 hj
end Go.Ce
namespace Go.Ce
open Go Go.Proofs Go.Proofs.Tryz
def zDH (g:Nat→Int→List Int):Nat→List Int→List Int
 | _,[]=>[]
 | k,v::vs=>g k v++zDH g (k+1) vs
theorem zJA (g:Nat→Int→List Int) (v:Int):∀ (vs:List Int) (k:Nat),zDH g k (vs++[v])=zDH g k vs++g (k+vs.length) v
 | [],k=>by simp [zDH]
 | u::vs,k=>by
  rw [List.cons_append,zDH,zJA g v vs (k+1),zDH,List.append_assoc,List.length_cons]; congr 2; congr 1; omega
theorem zMj {g:Nat→Int→List Int} {vs:List Int} {T:Nat→List Int} (h0:T 0=[]) (h1:∀ n v,vs[n]?=some v→T (n+1)=T n++g n v):∀ n,n≤vs.length→T n=zDH g 0 (vs.take n)
 | 0,_=>by rw [h0,List.take_zero]; rfl
 | n+1,hn=>by
  have hx:=List.getElem?_eq_getElem (show n<vs.length by omega); rw [h1 n _ hx,zMj h0 h1 n (by omega),List.take_add_one,hx,Option.toList_some,zJA,List.length_take,Nat.min_eq_left (by omega),Nat.zero_add]
def zPk (c:List Shp) (ix k:Nat) (v:Int):List Int:=if zA3 c ix k=2 then [v] else []
theorem zLL (c:List Shp) (i:Nat) (vs:List Int):zCo c i vs vs.length=zDH (zPk c i) 0 vs:=by
 rw [zMj (T:=zCo c i vs) (g:=zPk c i) rfl (fun n v hv=>by rw [zCo,hv]; rfl) vs.length (Nat.le_refl _),List.take_length]
theorem zP0 (c:List Shp) (o:List Int) (i:Nat) (vs:List Int):zDE c o i vs vs.length=zDH (fun k v=>zRw o (zA3 c i k) v) 0 vs:=by
 rw [zMj (T:=zDE c o i vs) (g:=fun k v=>zRw o (zA3 c i k) v) rfl (fun n v hv=>by rw [zDE,hv]) vs.length (Nat.le_refl _),List.take_length]
end Go.Ce
namespace Go.Ce
open Go Go.Proofs Go.Proofs.Tryz
theorem zK9 (o:List Int) (v:Int):o <+: visit o v:=by
 unfold visit
 split
 ·exact List.prefix_append _ _
 ·exact List.prefix_refl _
theorem zKH:∀ (vs o:List Int),o <+: vs.foldl visit o
 | [],o=>List.prefix_refl _
 | v::vs,o=>(zK9 o v).trans (zKH vs _)
theorem zDA (refs:Int→List Int):∀ (m:Nat) (o:List Int) (n:Nat),o <+: zBH refs m o n
 | 0,o,_=>List.prefix_refl _
 | m+1,o,n=>by
  unfold zBH
  split
  ·exact List.prefix_refl _
  ·exact (zKH _ _).trans (zDA refs m _ _)
theorem zJR {n:Nat}:∀ (vs o:List Int),Found o n→(∀ v,v ∈ vs→v≤n)→Found (vs.foldl visit o) n
 | [],o,h,_=>h
 | v::vs,o,h,hv=>zJR vs _ (h.visit (hv v (by simp))) fun w hw=>hv w (by simp [hw])
theorem zEZ {refs:Int→List Int} {n:Nat} (hr:∀ v w,w ∈ refs v→w≤n):∀ (m:Nat) (o:List Int) (k:Nat),Found o n→Found (zBH refs m o k) n
 | 0,o,_,h=>h
 | m+1,o,k,h=>by
  unfold zBH
  split
  ·exact h
  ·exact zEZ hr m _ _ (zJR _ _ h fun w hw=>hr _ w hw)
theorem zLN {o O:List Int} (h:o <+: O) {v:Int} (hv:v ∈ o):zAo O v=zAo o v:=by
 obtain ⟨r,rfl⟩:=h; unfold zAo; rw [List.findIdx?_append]
 cases hf:o.findIdx? (fun x=>decide (x=v)) with
 | some i=>rfl
 | none =>
  rw [List.findIdx?_eq_none_iff] at hf; have:=hf v hv; simp at this
theorem zO3 {o:List Int} {v:Int}:zAo o v≤o.length:=(zGo o v).2
def zIt (c:List Shp) (ix:Nat) (O:List Int):Nat→List Int→List Int
 | _,[]=>[]
 | k,v::vs=>(if zA3 c ix k=2 then zAo O v else v)::zIt c ix O (k+1) vs
theorem zHZ {c:List Shp} {ix:Nat} {O:List Int}:∀ (vs:List Int) (k:Nat),(zIt c ix O k vs).length=vs.length
 | [],_=>rfl
 | v::vs,k=>by rw [zIt,List.length_cons,List.length_cons,zHZ vs]
theorem zNt {c:List Shp} {ix:Nat} {O:List Int}:∀ (vs:List Int) (k j:Nat),(zIt c ix O k vs)[j]?=(vs[j]?).map fun v=>if zA3 c ix (k+j)=2 then zAo O v else v
 | [],_,_=>rfl
 | v::vs,k,0=>by rw [zIt]; rfl
 | v::vs,k,j+1=>by
  rw [zIt,List.getElem?_cons_succ,List.getElem?_cons_succ,zNt vs (k+1) j,show k+1+j=k+(j+1) by omega]
theorem zNu {c:List Shp} {ix:Nat} {O:List Int}:∀ (vs:List Int) (k:Nat),zDH (fun k v=>zRw O (zA3 c ix k) v) k vs=zR0 c ix k (zIt c ix O k vs)
 | [],_=>rfl
 | v::vs,k=>by
  rw [zDH,zIt,zR0,zNu vs (k+1),zRw]
  by_cases hk:zA3 c ix k=2
  ·simp only [if_pos hk]
  ·simp only [if_neg hk]
theorem zGl {c:List Shp} {ix:Nat} {O:List Int} (h0:(0:Int) ∉ O):∀ (vs:List Int) (k:Nat) (o:List Int),(∀ (j:Nat) v,vs[j]?=some v→zA3 c ix (k+j)=2→0≤v)→(∀ (j:Nat) v,vs[j]?=some v→zA3 c ix (k+j)≠2→-1000000000≤v∧v≤1000000000)→(zDH (zPk c ix) k vs).foldl visit o <+: O→ValsC c ix O.length k o.length (zIt c ix O k vs) ((zDH (zPk c ix) k vs).foldl visit o).length
 | [],k,o,_,_,_=>.nil _ _
 | v::vs,k,o,h1,h2,hp=>by
  have n1:∀ (j:Nat) w,vs[j]?=some w→zA3 c ix (k+1+j)=2→0≤w:=fun j w hw hk=>h1 (j+1) w hw (by rw [show k+(j+1)=k+1+j by omega]; exact hk); have n2:∀ (j:Nat) w,vs[j]?=some w→zA3 c ix (k+1+j)≠2→-1000000000≤w∧w≤1000000000:=fun j w hw hk=>h2 (j+1) w hw (by rw [show k+(j+1)=k+1+j by omega]; exact hk)
  by_cases hk:zA3 c ix k=2
  ·have hs:(zDH (zPk c ix) k (v::vs)).foldl visit o=(zDH (zPk c ix) (k+1) vs).foldl visit (visit o v):=by
    rw [zDH,zPk,if_pos hk,List.foldl_append]; rfl
   rw [hs] at hp ⊢; have ih:=zGl h0 vs (k+1) (visit o v) n1 n2 hp; have hpv:visit o v <+: O:=(zKH _ _).trans hp; have hple:=hpv.length_le; have hv0:=h1 0 v rfl hk; rw [zIt,if_pos hk]; have hnn:=(zGo O v).1; have hcast:zAo O v=((zAo O v).toNat:Int):=by omega
   rw [hcast]
   by_cases hn:0<v∧v ∉ o
   ·have hvis:visit o v=o++[v]:=by unfold visit; rw [if_pos hn]
    rw [hvis] at hpv ih hple ⊢
    have hpl:zAo O v=o.length+1:=by
     rw [zLN hpv (by simp),zH5 hn.2,if_pos rfl]
    rw [List.length_append,List.length_singleton] at ih hple; refine .ref hk (by omega) ?_; rw [show max o.length (zAo O v).toNat=o.length+1 by omega]; exact ih
   ·have hvis:visit o v=o:=by unfold visit; rw [if_neg hn]
    rw [hvis] at hpv ih hple ⊢
    have hpl:zAo O v≤o.length:=by
     by_cases hvo:v ∈ o
     ·rw [zLN hpv hvo]; exact zO3
     ·have:v=0:=by
       by_cases hz:0<v
       ·exact (hn ⟨hz,hvo⟩).elim
       ·omega
      subst this; rw [zCq h0]; omega
    refine .ref hk (by omega) ?_; rw [show max o.length (zAo O v).toNat=o.length by omega]; exact ih
  ·have hs:(zDH (zPk c ix) k (v::vs)).foldl visit o=(zDH (zPk c ix) (k+1) vs).foldl visit o:=by
    rw [zDH,zPk,if_neg hk]; rfl
   rw [hs] at hp ⊢; obtain ⟨b1,b2⟩:=h2 0 v rfl hk; rw [zIt,if_neg hk]; exact .word hk b1 b2 (zGl h0 vs (k+1) o n1 n2 hp)
end Go.Ce
namespace Go.Ce
open Go Go.Proofs Go.Proofs.Tryz
theorem zNf (t:List ByteArray) (s:ByteArray):t <+: zA1 t s:=by
 unfold zA1
 split
 ·exact List.prefix_refl _
 ·exact List.prefix_append _ _
theorem zHR {α:Type} (f:α→ByteArray):∀ (xs:List α) (t:List ByteArray),t <+: xs.foldl (fun t x=>zA1 t (f x)) t
 | [],t=>List.prefix_refl _
 | x::xs,t=>(zNf t (f x)).trans (zHR f xs _)
theorem zGX {t:List ByteArray} (h:t.Nodup) (s:ByteArray):(zA1 t s).Nodup:=by
 unfold zA1
 split
 ·exact h
 ·rename_i hn; rw [List.nodup_append]; refine ⟨h,List.pairwise_singleton _ _,fun x hx y hy=>?_⟩; rw [List.mem_singleton.1 hy]; rintro rfl; exact hn (List.any_eq_true.2 ⟨x,hx,by simp⟩)
theorem zFY {α:Type} (f:α→ByteArray):∀ (xs:List α) (t:List ByteArray),t.Nodup→(xs.foldl (fun t x=>zA1 t (f x)) t).Nodup
 | [],t,h=>h
 | x::xs,t,h=>zFY f xs _ (zGX h _)
theorem zMr {α:Type} {a b:List α} (h:a <+: b) {i:Nat} {x:α} (hx:a[i]?=some x):b[i]?=some x:=by
 obtain ⟨r,rfl⟩:=h; rw [List.getElem?_append_left (List.getElem?_eq_some_iff.1 hx).1]; exact hx
def zNv (c:List Shp) (O:List Int) (y:Thg):Thg:=match zBQ c y.type with
 | some ix=>⟨y.type,zIt c ix O 0 y.vals⟩
 | none=>y
def zDR (c:List Shp) (l:List Spc) (h:List Thg) (O:List Int):List Thg:=(zAF h O).map fun x=>zNv c O (zAD l x)
theorem zVG {c:List Shp} {y:Thg} {n i:Nat} {s:Shp} (Y:ThgIs c y n i s):if zAN c i≠0 then y.vals.length≤200 else y.vals.length=(zAj c i).length:=by
 have hm:=Y.many; unfold zC0 at hm; have he:zAN c i=s.elem:=by unfold zAN; rw [Y.si]
 rw [he]
 split
 ·rename_i h; rw [if_pos h] at hm; simpa using hm
 ·rename_i h; rw [if_neg h] at hm; simpa using hm
theorem zFc {h:List Thg} {v:Int} {x:Thg} (hx:h[(v-1).toNat]?=some x) (r:List Int):zAF h (v::r)=x::zAF h r:=by
 unfold zAF; rw [List.flatMap_cons,hx]; rfl
theorem zN7 {h:List Thg} {O:List Int} (hO:Found O h.length) {v:Int} (hv:v ∈ O):∃ x,h[(v-1).toNat]?=some x:=by
 have h1:=hO.low v hv; have h2:=hO.high v hv; exact ⟨_,List.getElem?_eq_getElem (by omega)⟩
theorem zHw {h:List Thg} {N:Nat} (hN:N=h.length):∀ {O:List Int},(∀ v,v ∈ O→0<v∧v≤N)→(zAF h O).length=O.length
 | [],_=>rfl
 | v::O,hO=>by
  have hv:=hO v (by simp); have hx:=List.getElem?_eq_getElem (show (v-1).toNat<h.length by omega); rw [zFc hx,List.length_cons,List.length_cons,zHw hN fun w hw=>hO w (by simp [hw])]
theorem zFw {c:List Shp} {l:List Spc} {h:List Thg} {O:List Int} {ts:List ByteArray} (hok:zA9 c=true) (hs:zAq c l=true) (hth:∀ x,x ∈ h→zAs c x h.length=true) (hO:Found O h.length):∀ (m n:Nat) (o:List Int) (T:List ByteArray),n+m=h.length→T.Nodup→zBH (zDp c l h) m o n=O→(zAF h (O.drop n)).foldl (fun t x=>zA1 t (zAD l x).type) T=ts→ThingsC c ts O.length n T.length o.length ((zAF h (O.drop n)).map fun x=>zNv c O (zAD l x)) ts.length O.length
 | 0,n,o,T,hn,hT,hse,hts=>by
  have hse:o=O:=hse; subst hse; have:=hO.len; rw [List.drop_of_length_le (by omega)] at hts ⊢; have hts:T=ts:=hts; subst hts; exact .nil _ _ _
 | m+1,n,o,T,hn,hT,hse,hts=>by
  have hpre:=zDA (zDp c l h) (m+1) o n; rw [hse] at hpre
  cases hon:o[n]? with
  | none =>
   rw [zBH,hon] at hse; have hse:o=O:=hse; subst hse; rw [List.drop_of_length_le (List.getElem?_eq_none_iff.1 hon)] at hts ⊢; have hts:T=ts:=hts; subst hts; exact .nil _ _ _
  | some v =>
   rw [zBH,hon] at hse; simp only at hse; have hnl:=(List.getElem?_eq_some_iff.1 hon).1; have hOn:=zMr hpre hon; obtain ⟨hOl,hOe⟩:=List.getElem?_eq_some_iff.1 hOn; have hvO:v ∈ O:=List.mem_of_getElem? hOn; obtain ⟨x,hx⟩:=zN7 hO hvO; have hdrop:O.drop n=v::O.drop (n+1):=by rw [List.drop_eq_getElem_cons hOl,hOe]
   rw [hdrop,zFc hx] at hts ⊢; rw [List.foldl_cons] at hts; rw [List.map_cons]; obtain ⟨ix,s,Y⟩:=zCA (zA2 hs (hth x (List.mem_of_getElem? hx)))
   have hrefs:zDp c l h v=zDH (zPk c ix) 0 (zAD l x).vals:=by
    unfold zDp; rw [hx]; simp only; unfold zEc; rw [Y.ti]; exact zLL c ix _
   have hpre1:=zDA (zDp c l h) m ((zDp c l h v).foldl visit o) (n+1); rw [hse] at hpre1
   have hV:=zGl (c:=c) (ix:=ix) (O:=O) (fun hz=>by have:=hO.low 0 hz; omega) (zAD l x).vals 0 o
    (fun j w hw hk=>by
     rw [Nat.zero_add] at hk
     rcases zDx hok Y hw with h1 | h1
     ·exact h1.2.1
     ·rw [h1.1] at hk; cases hk)
    (fun j w hw hk=>by
     rw [Nat.zero_add] at hk
     rcases zDx hok Y hw with h1 | h1
     ·exact (hk h1.1).elim
     ·exact h1.2)
    (by rw [←hrefs]; exact hpre1)
   rw [←hrefs] at hV; have ih:=zFw hok hs hth hO m (n+1) ((zDp c l h v).foldl visit o) (zA1 T (zAD l x).type) (by omega) (zGX hT _) hse hts; have hTts:zA1 T (zAD l x).type <+: ts:=by rw [←hts]; exact zHR _ _ _
   have hrel:zNv c O (zAD l x)=⟨(zAD l x).type,zIt c ix O 0 (zAD l x).vals⟩:=by unfold zNv; rw [Y.ti]
   rw [hrel]; have hmn:=zVG Y; have hn':if zAN c ix≠0 then (zIt c ix O 0 (zAD l x).vals).length≤200 else (zIt c ix O 0 (zAD l x).vals).length=(zAj c ix).length:=by rw [zHZ]; exact hmn
   by_cases ha:T.any (fun y=>decide (y=(zAD l x).type))=true
   ·have hadd:zA1 T (zAD l x).type=T:=by unfold zA1; rw [if_pos ha]
    rw [hadd] at ih hTts; obtain ⟨y,hy,hye⟩:=List.any_eq_true.1 ha; have hye:y=(zAD l x).type:=of_decide_eq_true hye; obtain ⟨t,ht⟩:=List.getElem?_of_mem hy; have htl:=(List.getElem?_eq_some_iff.1 ht).1; refine .cons (t:=t) (ix:=ix) hnl (by show ts[t]?=some _; rw [zMr hTts ht,hye]) (by omega) Y.ti hn' hV ?_; rw [if_neg (by omega)]; exact ih
   ·have hadd:zA1 T (zAD l x).type=T++[(zAD l x).type]:=by unfold zA1; rw [if_neg ha]
    rw [hadd] at ih hTts; rw [List.length_append,List.length_singleton] at ih; refine .cons (t:=T.length) (ix:=ix) hnl (by show ts[T.length]?=some _; exact zMr hTts (by simp)) (Nat.le_refl _) Y.ti hn' hV ?_; rw [if_pos rfl]; exact ih
theorem zU4 {c:List Shp} (hok:zA9 c=true) {s:ByteArray} {i:Nat} (h:zBQ c s=some i):zDh s=true:=by
 have hil:=zCF h; obtain ⟨h1,h2,_⟩:=List.findIdx?_eq_some_iff_getElem.1 h; unfold zA9 at hok; simp only [Bool.and_eq_true,Bool.not_eq_true'] at hok; have hb:=zBi hok.2.1 hil; unfold zAk at hb; rw [List.getElem?_eq_getElem hil] at hb; simp only [Bool.or_eq_false_iff,Bool.not_eq_false'] at hb; rw [←of_decide_eq_true h2]; exact hb.1.1
theorem zMU {c:List Shp} {l:List Spc} (hs:zAq c l=true) {x:Thg}:zFL l (zAD l x).type=none:=by
 unfold zAD
 cases hsp:zFL l x.type with
 | none=>exact hsp
 | some s =>
  show zFL l s.to=none; unfold zFL; rw [List.find?_eq_none]; intro y hy
  have hsm:s ∈ l:=by
   obtain ⟨i,hi,_⟩:=zDm hsp; exact List.mem_of_getElem? hi
  have:=zWw hs hsm hy
  simpa using this
theorem zHl {c:List Shp} {l:List Spc} {h:List Thg} {root:Int} (hz:zKt c l h root=0) (h40:h.length≤40):Canon c (zJs c l) (zBr l (zAF h (zAd c l h root))) (zDR c l h (zAd c l h root))∧zC2 c l h (zAd c l h root)=zHJ c (zBr l (zAF h (zAd c l h root))) (zDR c l h (zAd c l h root))∧Found (zAd c l h root) h.length∧start root <+: zAd c l h root:=by
 obtain ⟨hok,hs,hthi,hr0,hr1⟩:=zDS hz; obtain ⟨h1000,hth⟩:=zDl hthi; have hF:Found (zAd c l h root) h.length:=zEZ (fun v w hw=>(zMn hok hs hth w hw).2) _ _ _ (Found.start hr1); have hpre:start root <+: zAd c l h root:=zDA _ _ _ _; have hfd:zAd c l h root=zBH (zDp c l h) h.length (start root) 0:=rfl; generalize hO:zAd c l h root=O at hF hpre hfd ⊢; have hlen:=zHw rfl fun v hv=>⟨hF.low v hv,hF.high v hv⟩
 have hol:=hF.len
 have hth1:∀ x,x ∈ zAF h O→zAs c x h.length=true:=fun x hx=>by
  unfold zAF at hx; obtain ⟨v,_,hv⟩:=List.mem_flatMap.1 hx
  cases hg:h[(v-1).toNat]? with
  | none=>rw [hg] at hv; cases hv
  | some y=>rw [hg] at hv; rw [List.mem_singleton.1 hv]; exact hth _ (List.mem_of_getElem? hg)
 have hnd:(zBr l (zAF h O)).Nodup:=zFY _ _ _ List.nodup_nil
 refine ⟨⟨?_,fun s hs'=>?_,hnd,?_,?_⟩,?_,hF,hpre⟩
 ·have h1:=zES l (zAF h O) []; unfold zBr; simp only [List.length_nil] at h1; omega
 ·rcases zGf l (zAF h O) [] hs' with h' | ⟨x,hx,rfl⟩
  ·cases h'
  ·obtain ⟨i,s,Y⟩:=zCA (zA2 hs (hth1 x hx)); refine ⟨zU4 hok Y.ti,?_⟩; have:=zMU hs (x:=x); unfold zFL at this; unfold zJs; rw [Y.ti,this]; rfl
 ·unfold zDR; rw [List.length_map]; omega
 ·have:=zFw (ts:=zBr l (zAF h O)) hok hs hth hF h.length 0 (start root) [] (by omega) List.nodup_nil hfd.symm (by rw [List.drop_zero]; rfl); rw [List.drop_zero] at this; have e1:(zDR c l h O).length=O.length:=by unfold zDR; rw [List.length_map,hlen]
  have e2:(start root).length=min O.length 1:=by
   have hle:=hpre.length_le
   by_cases h0:root>0
   ·have:(start root).length=1:=by unfold start; rw [if_pos h0]; rfl
    omega
   ·have hst:start root=[]:=by unfold start; rw [if_neg h0]
    rw [hst] at hfd
    have:O=[]:=by
     rw [hfd]
     cases h.length with
     | zero=>rfl
     | succ m=>rfl
    rw [hst,this]; rfl
  rw [e1,←e2]; exact this
 ·unfold zC2 zHJ; have e1:(zDR c l h O).length=O.length:=by unfold zDR; rw [List.length_map,hlen]
  rw [e1]; congr 1; unfold zDR; rw [List.flatMap_map]
  have key:∀ (ys:List Thg),(∀ x,x ∈ ys→x ∈ zAF h O)→ys.flatMap (fun x=>zDW c (zBr l (zAF h O)) O (zAD l x))=ys.flatMap (fun x=>zLz c (zBr l (zAF h O)) (zNv c O (zAD l x))):=by
   intro ys
   induction ys with
   | nil=>intro _; rfl
   | cons y ys ih =>
    intro hy; rw [List.flatMap_cons,List.flatMap_cons,ih fun x hx=>hy x (by simp [hx])]; congr 1; obtain ⟨i,s,Y⟩:=zCA (zA2 hs (hth1 y (hy y (by simp)))); unfold zNv; rw [Y.ti]; unfold zDW zLz; simp only; rw [Y.ti]; simp only; rw [zP0,zNu,zHZ]
  exact key _ fun x hx=>hx
end Go.Ce
namespace Go.Ce
open Go Go.Proofs Go.Proofs.Tryz
theorem Seg.more {b m:List UInt8} {i j:Nat} {e:List Int} (h:Seg b i j e):Seg (b++m) i j e:=by
 have h1:=h.le; have h2:=h.ij; refine ⟨by rw [List.length_append]; omega,h.ij,?_⟩; have he:bI (b++m)=bI b++bI m:=by unfold bI; rw [List.map_append]
 rw [he,List.drop_append_of_le_length (by rw [zFX]; omega),List.drop_append_of_le_length (by rw [zFX]; omega),h.eq,List.append_assoc]
theorem zMb {b:List UInt8} {c:List Shp} {ask:ByteArray→Option Int} {ts:List ByteArray} {xs:List Thg} {j:Nat} (h:Canon c ask ts xs) (hb:Seg b 0 j (zHJ c ts xs)):zBC b c ask 0=if j=b.length then .ok (xs,j) else .error 4:=by
 unfold zHJ at hb; obtain ⟨a4,hb,h5⟩:=hb.split; obtain ⟨a3,hb,h4⟩:=hb.split; obtain ⟨a2,hb,h3⟩:=hb.split; obtain ⟨a1,h1,h2⟩:=hb.split; rw [←zTd] at h1; have hl:=h.tsl; have hx:=h.len
 have hh:zFi b ask 0=.ok (ts,a3):=by
  unfold zFi; rw [zEf h1 (by omega) (by omega)]; simp only [if_pos]; rw [zEf h2 (by omega) (by omega)]; simp only; rw [zN6 (out:=[]) h.sym (by simpa using h.nodup) h3]; simp
 unfold zBC; rw [hh]; simp only; rw [zEf h4 (by omega) (by omega)]; simp only; rw [zP2 (out:=[]) h.len h.nodup h.tsl h.scan h5]; simp
theorem zMp {c:List Shp} {l:List Spc} {ts:List ByteArray} {xs:List Thg} {b m:List UInt8} (hok:zA9 c=true) (hs:zAq c l=true) (h:Canon c (zJs c l) ts xs) (hb:bI b=zHJ c ts xs) (hl:(b++m).length≤100000):zHW c l (b++m)=if m=[] then (xs.map (zBn c l),min (xs.length:Int) 1,0) else ([],0,4):=by
 have hseg:=(Seg.all.2 hb).more (m:=m); have ht:=zMb h hseg; unfold zHW; rw [if_neg (by rw [hok]; simp),if_neg (by rw [hs]; simp),if_neg (by omega),ht]
 by_cases hm:m=[]
 ·subst hm; rw [if_pos rfl,if_pos (by simp)]
 ·have:0<m.length:=List.length_pos_iff.2 hm; rw [if_neg hm,if_neg (by rw [List.length_append]; omega)]
end Go.Ce
namespace Go.Ce
open Go Go.Proofs Go.Proofs.Tryz
end Go.Ce
namespace Go.Ce
section
variable {P:Program}
def Leaf (P:Program) (W:CW) (t:TypeId) (v:Value):Prop:=∃ m,CT P m t W [v]
theorem Leaf.int {W:CW} {t:TypeId} {k:IntKind} {v:Value} (ht:P.underlying t=some (.int k)) (h:Leaf P W t v):∃ x,v=.int k x∧(Lit.int k x).wf=true:=by
 obtain ⟨m,h⟩:=h
 cases m with
 | zero=>exact h.elim
 | succ m =>
  simp only [CT,ht] at h; obtain ⟨x,hx,hw⟩:=h
  cases hx
  exact ⟨x,rfl,hw⟩
theorem Leaf.string {W:CW} {t:TypeId} {v:Value} (ht:P.underlying t=some .string) (h:Leaf P W t v):∃ x:ByteArray,v=.string x∧x.size≤maxLen:=by
 obtain ⟨m,h⟩:=h
 cases m with
 | zero=>exact h.elim
 | succ m =>
  simp only [CT,ht] at h; obtain ⟨x,hx,hw⟩:=h
  cases hx
  exact ⟨x,rfl,hw⟩
theorem Leaf.slice {W:CW} {t e:TypeId} {v:Value} (ht:P.underlying t=some (.slice e)) (h:Leaf P W t v):v=.slice none 0 0∨v=.slice (some ⟨0,0,some 0⟩) 0 0∨∃ k len cap f m,v=.slice (some ⟨k,0,none⟩) len cap∧0<cap∧len≤cap∧cap≤maxLen ∧
  W.obj k=some (.fixed f (len*P.cellsOf e) e)∧∀ i,i<len→CT P m e W (zCG f (P.cellsOf e) (i*P.cellsOf e)):=by
 obtain ⟨m,h⟩:=h
 cases m with
 | zero=>exact h.elim
 | succ m =>
  simp only [CT,ht] at h
  rcases h with h | h | ⟨k,len,cap,f,h1,h2,h3,h4,h5,h6⟩
  ·cases h; exact .inl rfl
  ·cases h; exact .inr (.inl rfl)
  ·cases h1; exact .inr (.inr ⟨k,len,cap,f,m,rfl,h2,h3,h4,h5,h6⟩)
theorem CTs.cons {W:CW} {t:TypeId} {ts:List TypeId} {vs:List Value} (h:CTs P (t::ts) W vs):∃ cs vs',vs=zPi P t cs::vs'∧CT P 20 t W cs∧CTs P ts W vs':=by
 cases vs with
 | nil=>exact h.elim
 | cons v vs =>
  obtain ⟨⟨cs,rfl,hc⟩,h2⟩:=h; exact ⟨cs,vs,rfl,hc,h2⟩
theorem CTs.nil {W:CW} {vs:List Value} (h:CTs P [] W vs):vs=[]:=by
 cases vs with
 | nil=>rfl
 | cons=>exact h.elim
end
end Go.Ce
namespace Go.Ce
open Go Go.Proofs Go.Proofs.Tryz
def zKM (P:Program) (t:TypeId):List (TypeId × Nat):=match P.underlying t with
 | some (.struct fs)=>fs.toList.map fun f=>(f.type,f.offset)
 | _=>[]
theorem zFI {P:Program} {m:Nat} {t ty:TypeId} {off n:Nat} {W:CW} {cs:List Value} (hm:(zKM P t).any (fun x=>Nat.beq x.1 ty && Nat.beq x.2 off)=true) (hn:P.cellsOf t=n) (h1:P.cellsOf ty=1) (ho:off<n) (h:CT P m t W cs):∃ v,cs[off]?=some v∧Leaf P W ty v:=by
 cases m with
 | zero=>exact h.elim
 | succ m =>
  unfold zKM at hm; simp only [CT] at h
  split at hm
  ·rename_i fs hu; rw [hu] at h; obtain ⟨hl,hf⟩:=h; obtain ⟨x,hx,he⟩:=List.any_eq_true.1 hm; obtain ⟨f,hfm,rfl⟩:=List.mem_map.1 hx; simp only [Bool.and_eq_true] at he; have e1:f.type=ty:=Nat.eq_of_beq_eq_true he.1; have e2:f.offset=off:=Nat.eq_of_beq_eq_true he.2; have:=hf f hfm; rw [e1,e2,h1] at this; have hlt:off<cs.length:=by omega
   refine ⟨cs[off],List.getElem?_eq_getElem hlt,m,?_⟩; rw [List.drop_eq_getElem_cons hlt,List.take_succ_cons,List.take_zero] at this; exact this
  ·cases hm
theorem zJF (f:Nat→Value):∀ (m k j:Nat),j<m→(zCG f m k)[j]?=some (f (k+j))
 | 0,k,j,h=>by omega
 | m+1,k,0,h=>rfl
 | m+1,k,j+1,h=>by
  unfold zCG; rw [List.getElem?_cons_succ,zJF f m (k+1) j (by omega)]; congr 2; omega
theorem zQh {α:Type} {Q:Nat→α→Prop}:∀ n:Nat,(∀ i,i<n→∃ x,Q i x)→∃ l:List α,l.length=n∧∀ i x,l[i]?=some x→Q i x
 | 0,_=>⟨[],rfl,fun i x h=>by simp at h⟩
 | n+1,h=>by
  obtain ⟨l,hl,hq⟩:=zQh n fun i hi=>h i (by omega); obtain ⟨x,hx⟩:=h n (by omega); refine ⟨l++[x],by simp [hl],fun i y hy=>?_⟩
  by_cases hi:i<l.length
  ·rw [List.getElem?_append_left hi] at hy; exact hq i y hy
  ·rw [List.getElem?_append_right (by omega)] at hy
   have h0:i-l.length=0:=by
    cases hd:i-l.length with
    | zero=>rfl
    | succ k=>rw [hd] at hy; simp at hy
   rw [h0] at hy
   cases hy
   have:i=n:=by omega
   subst this; exact hx
theorem zHt {P:Program} {α:Type} {R:Nat→Nat→α→Prop} {t e:TypeId} {n:Nat} (ht:P.underlying t=some (.slice e)) (hn:P.cellsOf e=n) {W:CW} {v:Value} (h:Leaf P W t v)
  (hel:∀ m cs k off,CT P m e W cs→(∀ j,j<n→W.cell k (off+j)=cs[j]?)→∃ x,R k off x):∃ l,IsSl n R v l∧ElOk W e v∧l.length≤maxLen:=by
 rcases h.slice ht with rfl | rfl | ⟨k,len,cap,f,m,rfl,h1,h2,h3,h4,h5⟩
 ·exact ⟨[],⟨none,0,rfl,fun i x hx=>by simp at hx⟩,fun a l c hv=>by cases hv; exact ⟨rfl,Nat.le_refl _⟩,Nat.zero_le _⟩
 ·exact ⟨[],⟨_,0,rfl,fun i x hx=>by simp at hx⟩,fun a l c hv=>by cases hv; exact ⟨rfl,Nat.le_refl _⟩,Nat.zero_le _⟩
 ·rw [hn] at h4 h5
  obtain ⟨l,hl,hq⟩:=zQh (Q:=fun i x=>R k (i*n) x) len fun i hi=>hel m _ k (i*n) (h5 i hi) fun j hj=>by
   rw [zJF f n (i*n) j hj]; unfold CW.cell; rw [h4]
   have:i*n+j<len*n:=by
    have:(i+1)*n≤len*n:=Nat.mul_le_mul_right _ hi; rw [Nat.succ_mul] at this; omega
   simp only [if_pos this]
  refine ⟨l,⟨_,cap,by rw [hl],fun i x hx=>⟨_,rfl,by simpa using hq i x hx⟩⟩,fun a l c hv=>?_,by omega⟩
  cases hv
  refine ⟨?_,h2⟩; simp [zL0,h4]
theorem zU0 {x:Int} (h:(Lit.int .i64 x).wf=true):-9223372036854775808≤x∧x≤9223372036854775807:=by
 simp only [Lit.wf,Bool.and_eq_true,decide_eq_true_eq] at h; have h1:IntKind.i64.min=-9223372036854775808:=by rfl
 have h2:IntKind.i64.max=9223372036854775807:=by rfl
 omega
theorem zWp {x:Int} (h:(Lit.int .u8 x).wf=true):0≤x∧x<256:=by
 simp only [Lit.wf,Bool.and_eq_true,decide_eq_true_eq] at h; have h1:IntKind.u8.min=0:=by rfl
 have h2:IntKind.u8.max=255:=by rfl
 omega
section
variable {W:CW} {m:Nat} {cs:List Value} {k off:Nat}
theorem u46:∃ e,prog.underlying 46=some (.slice e):=⟨match prog.underlying 46 with | some (.slice e)=>e | _=>0,by kernel_rfl⟩
theorem c3:prog.cellsOf 3=1:=by kernel_rfl
theorem c5:prog.cellsOf 5=1:=by kernel_rfl
theorem c9:prog.cellsOf 9=1:=by kernel_rfl
theorem c40:prog.cellsOf 40=1:=by kernel_rfl
theorem c45:prog.cellsOf 45=1:=by kernel_rfl
theorem c46:prog.cellsOf 46=1:=by kernel_rfl
theorem c48:prog.cellsOf 48=5:=by kernel_rfl
theorem c56:prog.cellsOf 56=2:=by kernel_rfl
theorem c58:prog.cellsOf 58=3:=by kernel_rfl
theorem c72:prog.cellsOf 72=2:=by kernel_rfl
theorem ut3:prog.underlying 3=some (.int .i64):=by kernel_rfl
theorem ut5:prog.underlying 5=some (.int .u8):=by kernel_rfl
theorem zNj {v:Value} (h:Leaf prog W 40 v):∃ l,IsSl 1 (RInt W) v l∧ElOk W 3 v∧l.length≤maxLen :=
 zHt u40 c3 h fun m cs k off hc hj=>by
  cases m with
  | zero=>exact hc.elim
  | succ m =>
   simp only [CT,ut3] at hc; obtain ⟨x,rfl,hw⟩:=hc; exact ⟨x,by have:=hj 0 (by omega); simpa using this,zU0 hw⟩
theorem zJr {n:Nat} {t:TypeId} {o:Nat} (hm:(zKM prog t).any (fun x=>Nat.beq x.1 9 && Nat.beq x.2 o)=true) (hn:prog.cellsOf t=n) (ho:o<n) (hc:CT prog m t W cs) (hj:∀ j,j<n→W.cell k (off+j)=cs[j]?):∃ s:ByteArray,W.cell k (off+o)=some (.string s):=by
 obtain ⟨v,hv,hl⟩:=zFI hm hn c9 ho hc; obtain ⟨s,rfl,_⟩:=hl.string u9; exact ⟨s,(hj o ho).trans hv⟩
theorem zWg {n:Nat} {t:TypeId} {o:Nat} (hm:(zKM prog t).any (fun x=>Nat.beq x.1 5 && Nat.beq x.2 o)=true) (hn:prog.cellsOf t=n) (ho:o<n) (hc:CT prog m t W cs) (hj:∀ j,j<n→W.cell k (off+j)=cs[j]?):∃ x:Int,W.cell k (off+o)=some (.int .u8 x)∧0≤x∧x<256:=by
 obtain ⟨v,hv,hl⟩:=zFI hm hn c5 ho hc; obtain ⟨x,rfl,hw⟩:=hl.int ut5; exact ⟨x,(hj o ho).trans hv,zWp hw⟩
theorem zSE {v:Value} (h:Leaf prog W 45 v):∃ l,IsSl 2 (RFld W) v l∧ElOk W 72 v∧l.length≤maxLen :=
 zHt u45 c72 h fun m cs k off hc hj=>by
  obtain ⟨s,h0⟩:=zJr (o:=0) (by kernel_rfl) c72 (by omega) hc hj; obtain ⟨x,h1,h2,h3⟩:=zWg (o:=1) (by kernel_rfl) c72 (by omega) hc hj; exact ⟨⟨s,x⟩,h0,h1,h2,h3⟩
theorem zSD {v:Value} (h:Leaf prog W 22 v):∃ l,IsSl 5 (RShp W) v l∧ElOk W 48 v∧l.length≤maxLen :=
 zHt u22 c48 h fun m cs k off hc hj=>by
  obtain ⟨s,h0⟩:=zJr (o:=0) (by kernel_rfl) c48 (by omega) hc hj; obtain ⟨s2,h1⟩:=zJr (o:=1) (by kernel_rfl) c48 (by omega) hc hj; obtain ⟨v2,hv2,hl2⟩:=zFI (ty:=45) (off:=2) (by kernel_rfl) c48 c45 (by omega) hc; obtain ⟨fs,hfs,_⟩:=zSE hl2; obtain ⟨x,h3,h4,h5⟩:=zWg (o:=3) (by kernel_rfl) c48 (by omega) hc hj; obtain ⟨v4,hv4,hl4⟩:=zFI (ty:=46) (off:=4) (by kernel_rfl) c48 c46 (by omega) hc; obtain ⟨e,he⟩:=u46
  have hb:∃ a l k,v4=.slice a l k:=by
   rcases hl4.slice he with rfl | rfl | ⟨k,len,cap,f,m,rfl,_⟩ <;> exact ⟨_,_,_,rfl⟩
  obtain ⟨a,l,c,rfl⟩:=hb; exact ⟨⟨s,s2,fs,x⟩,h0,h1,⟨v2,(hj 2 (by omega)).trans hv2,hfs⟩,h3,⟨a,l,c,(hj 4 (by omega)).trans hv4⟩,h4,h5⟩
theorem zSC {v:Value} (h:Leaf prog W 23 v):∃ l,IsSl 3 (RSpc W) v l∧ElOk W 58 v∧l.length≤maxLen :=
 zHt u23 c58 h fun m cs k off hc hj=>by
  obtain ⟨s,h0⟩:=zJr (o:=0) (by kernel_rfl) c58 (by omega) hc hj; obtain ⟨s2,h1⟩:=zJr (o:=1) (by kernel_rfl) c58 (by omega) hc hj; obtain ⟨v2,hv2,hl2⟩:=zFI (ty:=40) (off:=2) (by kernel_rfl) c58 c40 (by omega) hc; obtain ⟨fs,hfs,hok,_⟩:=zNj hl2; exact ⟨⟨s,s2,fs⟩,h0,h1,⟨v2,(hj 2 (by omega)).trans hv2,hfs,hok⟩⟩
theorem zSB {v:Value} (h:Leaf prog W 24 v):∃ l,IsSl 2 (RThg W) v l∧ElOk W 56 v∧l.length≤maxLen :=
 zHt u24 c56 h fun m cs k off hc hj=>by
  obtain ⟨s,h0⟩:=zJr (o:=0) (by kernel_rfl) c56 (by omega) hc hj; obtain ⟨v2,hv2,hl2⟩:=zFI (ty:=40) (off:=1) (by kernel_rfl) c56 c40 (by omega) hc; obtain ⟨fs,hfs,_⟩:=zNj hl2; exact ⟨⟨s,fs⟩,h0,⟨v2,(hj 1 (by omega)).trans hv2,hfs⟩⟩
end
end Go.Ce
namespace Go.Ce
open Go Go.Proofs Go.Proofs.Tryz
def zJg (ro:Option Nat) (K:zAI):zAI:=zA5 (fun e ds W=>K .ret e ds W) K
def zJf (ro:Option Nat) (K:zAI):zAI:=zA5 (fun e ds W=>wV (zAm prog 22 (e 0) W) fun v71=>wV (zAL prog .leq 3 true v71 (.int .i64 12)) fun v72=>wI v72 ((zJg ro K) .normal (Env.of e [(2,(.bool true)),(82,(.bool true)),(81,undef),(73,(.bool true)),(80,undef),(79,undef),(78,undef),(77,undef),(73,(.bool true)),(76,undef),(73,(.bool true)),(75,undef),(73,(.bool true)),(74,undef),(73,(.bool true)),(73,v72),(72,v72),(71,v71),(70,(e 0))]) ds W) (wV (zAm prog 22 (e 0) W) fun v75=>wV (zAL prog .gtr 3 true v75 (.int .i64 100)) fun v76=>wI v76 (wV (zAm prog 22 (e 0) W) fun v79=>wV (zAL prog .leq 3 true v79 (.int .i64 102)) fun v80=>(zJg ro K) .normal (Env.of e [(2,v80),(82,v80),(81,v80),(73,(.bool false)),(80,v80),(77,(.bool true)),(79,v79),(77,(.bool true)),(78,(e 0)),(77,(.bool true)),(77,v76),(73,(.bool false)),(76,v76),(73,(.bool false)),(75,v75),(73,(.bool false)),(74,(e 0)),(73,(.bool false)),(73,v72),(72,v72),(71,v71),(70,(e 0))]) ds W) ((zJg ro K) .normal (Env.of e [(2,(.bool false)),(82,(.bool false)),(81,(.bool false)),(73,(.bool false)),(80,undef),(77,(.bool false)),(79,undef),(77,(.bool false)),(78,undef),(77,(.bool false)),(77,v76),(73,(.bool false)),(76,v76),(73,(.bool false)),(75,v75),(73,(.bool false)),(74,(e 0)),(73,(.bool false)),(73,v72),(72,v72),(71,v71),(70,(e 0))]) ds W))) K
theorem zX6 (v0:Value) (K:zAI) (W:CW):zAJ prog pkL none 13 83 (zAG prog 13) (Env.args [v0]) [] W K=(zCg prog pkL none 13 83 (.loop (zAS prog 13 0)) (Env.of (Env.args [v0]) [(3,(.int .i64 0)),(2,(.bool false))]) [] W (zBm 0 (zJf none K))):=by kernel_rfl
def zLs (ro:Option Nat) (K:zAI):zAI:=zA5 (fun e ds W=>wV (zAL prog .add 3 true (e 3) (.int .i64 1)) fun v14=>K .normal (Env.of e [(3,v14),(14,v14),(13,(e 3))]) ds W) K
def zLr (ro:Option Nat) (K:zAI):zAI:=zA5 (fun e ds W=>zCg prog pkL ro 13 83 (.loop (zAS prog 13 1)) (Env.of e [(4,(.int .i64 0))]) ds W (zBm 2 (zBm 1 (zLs ro K)))) (zBm 1 (zLs ro K))
def zJe (ro:Option Nat) (K:zAI):zAI:=zA5 (fun e ds W=>wI (e 48) ((zLr ro K) .ret (Env.of e [(2,(.bool false))]) ds W) ((zLr ro K) .normal e ds W)) (zLr ro K)
def zJd (ro:Option Nat) (K:zAI):zAI:=zA5 (fun e ds W=>wV (iad prog 22 (e 0) (e 3)) fun v17=>wV (fad prog 48 v17 0) fun v18=>wV (ld prog 9 v18 W) fun v19=>wV (zAm prog 9 v19 W) fun v20=>wV (zAL prog .gtr 3 true v20 (.int .i64 70)) fun v21=>wI v21 ((zJe ro K) .normal (Env.of e [(48,(.bool true)),(47,undef),(40,(.bool true)),(46,undef),(40,(.bool true)),(45,undef),(40,(.bool true)),(44,undef),(40,(.bool true)),(43,undef),(40,(.bool true)),(42,undef),(40,(.bool true)),(41,undef),(40,(.bool true)),(40,(.bool true)),(39,(.bool true)),(38,undef),(31,(.bool true)),(37,undef),(31,(.bool true)),(36,undef),(31,(.bool true)),(35,undef),(31,(.bool true)),(34,undef),(31,(.bool true)),(33,undef),(31,(.bool true)),(32,undef),(31,(.bool true)),(31,(.bool true)),(30,(.bool true)),(29,undef),(22,(.bool true)),(28,undef),(22,(.bool true)),(27,undef),(22,(.bool true)),(26,undef),(22,(.bool true)),(25,undef),(22,(.bool true)),(24,undef),(22,(.bool true)),(23,undef),(22,(.bool true)),(22,v21),(21,v21),(20,v20),(19,v19),(18,v18),(17,v17),(16,(e 3)),(15,(e 0))]) ds W) (wV (iad prog 22 (e 0) (e 3)) fun v25=>wV (fad prog 48 v25 1) fun v26=>wV (ld prog 9 v26 W) fun v27=>wV (zAm prog 9 v27 W) fun v28=>wV (zAL prog .gtr 3 true v28 (.int .i64 70)) fun v29=>wI v29 ((zJe ro K) .normal (Env.of e [(48,(.bool true)),(47,undef),(40,(.bool true)),(46,undef),(40,(.bool true)),(45,undef),(40,(.bool true)),(44,undef),(40,(.bool true)),(43,undef),(40,(.bool true)),(42,undef),(40,(.bool true)),(41,undef),(40,(.bool true)),(40,(.bool true)),(39,(.bool true)),(38,undef),(31,(.bool true)),(37,undef),(31,(.bool true)),(36,undef),(31,(.bool true)),(35,undef),(31,(.bool true)),(34,undef),(31,(.bool true)),(33,undef),(31,(.bool true)),(32,undef),(31,(.bool true)),(31,v29),(30,v29),(29,v29),(22,(.bool false)),(28,v28),(22,(.bool false)),(27,v27),(22,(.bool false)),(26,v26),(22,(.bool false)),(25,v25),(22,(.bool false)),(24,(e 3)),(22,(.bool false)),(23,(e 0)),(22,(.bool false)),(22,v21),(21,v21),(20,v20),(19,v19),(18,v18),(17,v17),(16,(e 3)),(15,(e 0))]) ds W) (wV (iad prog 22 (e 0) (e 3)) fun v34=>wV (fad prog 48 v34 2) fun v35=>wV (ld prog 45 v35 W) fun v36=>wV (zAm prog 45 v36 W) fun v37=>wV (zAL prog .gtr 3 true v37 (.int .i64 24)) fun v38=>wI v38 ((zJe ro K) .normal (Env.of e [(48,(.bool true)),(47,undef),(40,(.bool true)),(46,undef),(40,(.bool true)),(45,undef),(40,(.bool true)),(44,undef),(40,(.bool true)),(43,undef),(40,(.bool true)),(42,undef),(40,(.bool true)),(41,undef),(40,(.bool true)),(40,v38),(39,v38),(38,v38),(31,(.bool false)),(37,v37),(31,(.bool false)),(36,v36),(31,(.bool false)),(35,v35),(31,(.bool false)),(34,v34),(31,(.bool false)),(33,(e 3)),(31,(.bool false)),(32,(e 0)),(31,(.bool false)),(31,v29),(30,v29),(29,v29),(22,(.bool false)),(28,v28),(22,(.bool false)),(27,v27),(22,(.bool false)),(26,v26),(22,(.bool false)),(25,v25),(22,(.bool false)),(24,(e 3)),(22,(.bool false)),(23,(e 0)),(22,(.bool false)),(22,v21),(21,v21),(20,v20),(19,v19),(18,v18),(17,v17),(16,(e 3)),(15,(e 0))]) ds W) (wV (iad prog 22 (e 0) (e 3)) fun v43=>wV (fad prog 48 v43 4) fun v44=>wV (ld prog 46 v44 W) fun v45=>wV (zAm prog 46 v45 W) fun v46=>wV (zAL prog .gtr 3 true v46 (.int .i64 20)) fun v47=>(zJe ro K) .normal (Env.of e [(48,v47),(47,v47),(40,(.bool false)),(46,v46),(40,(.bool false)),(45,v45),(40,(.bool false)),(44,v44),(40,(.bool false)),(43,v43),(40,(.bool false)),(42,(e 3)),(40,(.bool false)),(41,(e 0)),(40,(.bool false)),(40,v38),(39,v38),(38,v38),(31,(.bool false)),(37,v37),(31,(.bool false)),(36,v36),(31,(.bool false)),(35,v35),(31,(.bool false)),(34,v34),(31,(.bool false)),(33,(e 3)),(31,(.bool false)),(32,(e 0)),(31,(.bool false)),(31,v29),(30,v29),(29,v29),(22,(.bool false)),(28,v28),(22,(.bool false)),(27,v27),(22,(.bool false)),(26,v26),(22,(.bool false)),(25,v25),(22,(.bool false)),(24,(e 3)),(22,(.bool false)),(23,(e 0)),(22,(.bool false)),(22,v21),(21,v21),(20,v20),(19,v19),(18,v18),(17,v17),(16,(e 3)),(15,(e 0))]) ds W)))) K
def zOO (ro:Option Nat) (K:zAI):zAI:=zA5 (fun e ds W=>wI (e 12) ((zJd ro K) .normal e ds W) ((zJd ro K) (.exit 0) e ds W)) (zJd ro K)
theorem zVn (ro:Option Nat) (e:Env) (ds:List Deferred) (K:zAI) (W:CW):zAJ prog pkL ro 13 83 (zAS prog 13 0) e ds W K=(wV (zAm prog 22 (e 0) W) fun v7=>wV (zAL prog .lss 3 false (e 3) v7) fun v8=>wI v8 (wV (zAL prog .lss 3 true (e 3) (.int .i64 103)) fun v11=>(zOO ro K) .normal (Env.of e [(12,v11),(11,v11),(9,(.bool true)),(10,(e 3)),(9,(.bool true)),(9,v8),(8,v8),(7,v7),(6,(e 0)),(5,(e 3))]) ds W) ((zOO ro K) .normal (Env.of e [(12,(.bool false)),(11,undef),(9,(.bool false)),(10,undef),(9,(.bool false)),(9,v8),(8,v8),(7,v7),(6,(e 0)),(5,(e 3))]) ds W)):=by kernel_rfl
def zON (ro:Option Nat) (K:zAI):zAI:=zA5 (fun e ds W=>wV (zAL prog .add 3 true (e 4) (.int .i64 1)) fun v58=>K .normal (Env.of e [(4,v58),(58,v58),(57,(e 4))]) ds W) K
theorem zVm (ro:Option Nat) (e:Env) (ds:List Deferred) (K:zAI) (W:CW):zAJ prog pkL ro 13 83 (zAS prog 13 1) e ds W K=(wV (iad prog 22 (e 0) (e 3)) fun v52=>wV (fad prog 48 v52 2) fun v53=>wV (ld prog 45 v53 W) fun v54=>wV (zAm prog 45 v54 W) fun v55=>wV (zAL prog .lss 3 false (e 4) v55) fun v56=>wI v56 (wV (iad prog 22 (e 0) (e 3)) fun v61=>wV (fad prog 48 v61 2) fun v62=>wV (ld prog 45 v62 W) fun v63=>wV (iad prog 45 v63 (e 4)) fun v65=>wV (fad prog 72 v65 0) fun v66=>wV (ld prog 9 v66 W) fun v67=>wV (zAm prog 9 v67 W) fun v68=>wV (zAL prog .gtr 3 true v68 (.int .i64 70)) fun v69=>wI v69 ((zON ro K) .ret (Env.of e [(2,(.bool false)),(69,v69),(68,v68),(67,v67),(66,v66),(65,v65),(64,(e 4)),(63,v63),(62,v62),(61,v61),(60,(e 3)),(59,(e 0)),(56,v56),(55,v55),(54,v54),(53,v53),(52,v52),(51,(e 3)),(50,(e 0)),(49,(e 4))]) ds W) ((zON ro K) .normal (Env.of e [(69,v69),(68,v68),(67,v67),(66,v66),(65,v65),(64,(e 4)),(63,v63),(62,v62),(61,v61),(60,(e 3)),(59,(e 0)),(56,v56),(55,v55),(54,v54),(53,v53),(52,v52),(51,(e 3)),(50,(e 0)),(49,(e 4))]) ds W)) (K (.exit 2) (Env.of e [(56,v56),(55,v55),(54,v54),(53,v53),(52,v52),(51,(e 3)),(50,(e 0)),(49,(e 4))]) ds W)):=by kernel_rfl
theorem zRR (Q:Ending→CW→Prop) (e:Env) (W:CW):zAE prog Tryz.f13 Q .ret e [] W=Q (.returned (e 2)) W:=by kernel_rfl
theorem zX5 {Q:Ending→CW→Prop} {v0:Value} {W:CW} (h:zAJ prog pkL none 13 83 (zAG prog 13) (Env.args [v0]) [] W (zAE prog Tryz.f13 Q)):WCall prog pkL 13 [v0] W Q:=zAM Tryz.func13 (by kernel_rfl) (by kernel_rfl) (by kernel_rfl) (by kernel_rfl) (by kernel_rfl) h
def zOM (ro:Option Nat) (K:zAI):zAI:=zA5 (fun e ds W=>wV (zAm prog 23 (e 0) W) fun v40=>wV (zAL prog .leq 3 true v40 (.int .i64 22)) fun v41=>K .ret (Env.of e [(2,v41),(41,v41),(40,v40),(39,(e 0))]) ds W) K
theorem zX4 (v0:Value) (K:zAI) (W:CW):zAJ prog pkL none 14 42 (zAG prog 14) (Env.args [v0]) [] W K=(zCg prog pkL none 14 42 (.loop (zAS prog 14 0)) (Env.of (Env.args [v0]) [(3,(.int .i64 0)),(2,(.bool false))]) [] W (zBm 0 (zOM none K))):=by kernel_rfl
def zJb (ro:Option Nat) (K:zAI):zAI:=zA5 (fun e ds W=>wV (zAL prog .add 3 true (e 3) (.int .i64 1)) fun v13=>K .normal (Env.of e [(3,v13),(13,v13),(12,(e 3))]) ds W) K
def zJa (ro:Option Nat) (K:zAI):zAI:=zA5 (fun e ds W=>wI (e 38) ((zJb ro K) .ret (Env.of e [(2,(.bool false))]) ds W) ((zJb ro K) .normal e ds W)) (zBm 1 (zJb ro K))
def zJZ (ro:Option Nat) (K:zAI):zAI:=zA5 (fun e ds W=>wV (iad prog 23 (e 0) (e 3)) fun v16=>wV (fad prog 58 v16 0) fun v17=>wV (ld prog 9 v17 W) fun v18=>wV (zAm prog 9 v18 W) fun v19=>wV (zAL prog .gtr 3 true v19 (.int .i64 70)) fun v20=>wI v20 ((zJa ro K) .normal (Env.of e [(38,(.bool true)),(37,undef),(30,(.bool true)),(36,undef),(30,(.bool true)),(35,undef),(30,(.bool true)),(34,undef),(30,(.bool true)),(33,undef),(30,(.bool true)),(32,undef),(30,(.bool true)),(31,undef),(30,(.bool true)),(30,(.bool true)),(29,(.bool true)),(28,undef),(21,(.bool true)),(27,undef),(21,(.bool true)),(26,undef),(21,(.bool true)),(25,undef),(21,(.bool true)),(24,undef),(21,(.bool true)),(23,undef),(21,(.bool true)),(22,undef),(21,(.bool true)),(21,v20),(20,v20),(19,v19),(18,v18),(17,v17),(16,v16),(15,(e 3)),(14,(e 0))]) ds W) (wV (iad prog 23 (e 0) (e 3)) fun v24=>wV (fad prog 58 v24 1) fun v25=>wV (ld prog 9 v25 W) fun v26=>wV (zAm prog 9 v26 W) fun v27=>wV (zAL prog .gtr 3 true v27 (.int .i64 70)) fun v28=>wI v28 ((zJa ro K) .normal (Env.of e [(38,(.bool true)),(37,undef),(30,(.bool true)),(36,undef),(30,(.bool true)),(35,undef),(30,(.bool true)),(34,undef),(30,(.bool true)),(33,undef),(30,(.bool true)),(32,undef),(30,(.bool true)),(31,undef),(30,(.bool true)),(30,v28),(29,v28),(28,v28),(21,(.bool false)),(27,v27),(21,(.bool false)),(26,v26),(21,(.bool false)),(25,v25),(21,(.bool false)),(24,v24),(21,(.bool false)),(23,(e 3)),(21,(.bool false)),(22,(e 0)),(21,(.bool false)),(21,v20),(20,v20),(19,v19),(18,v18),(17,v17),(16,v16),(15,(e 3)),(14,(e 0))]) ds W) (wV (iad prog 23 (e 0) (e 3)) fun v33=>wV (fad prog 58 v33 2) fun v34=>wV (ld prog 40 v34 W) fun v35=>wV (zAm prog 40 v35 W) fun v36=>wV (zAL prog .gtr 3 true v36 (.int .i64 70)) fun v37=>(zJa ro K) .normal (Env.of e [(38,v37),(37,v37),(30,(.bool false)),(36,v36),(30,(.bool false)),(35,v35),(30,(.bool false)),(34,v34),(30,(.bool false)),(33,v33),(30,(.bool false)),(32,(e 3)),(30,(.bool false)),(31,(e 0)),(30,(.bool false)),(30,v28),(29,v28),(28,v28),(21,(.bool false)),(27,v27),(21,(.bool false)),(26,v26),(21,(.bool false)),(25,v25),(21,(.bool false)),(24,v24),(21,(.bool false)),(23,(e 3)),(21,(.bool false)),(22,(e 0)),(21,(.bool false)),(21,v20),(20,v20),(19,v19),(18,v18),(17,v17),(16,v16),(15,(e 3)),(14,(e 0))]) ds W))) K
def zOL (ro:Option Nat) (K:zAI):zAI:=zA5 (fun e ds W=>wI (e 11) ((zJZ ro K) .normal e ds W) ((zJZ ro K) (.exit 0) e ds W)) (zJZ ro K)
theorem zVj (ro:Option Nat) (e:Env) (ds:List Deferred) (K:zAI) (W:CW):zAJ prog pkL ro 14 42 (zAS prog 14 0) e ds W K=(wV (zAm prog 23 (e 0) W) fun v6=>wV (zAL prog .lss 3 false (e 3) v6) fun v7=>wI v7 (wV (zAL prog .lss 3 true (e 3) (.int .i64 22)) fun v10=>(zOL ro K) .normal (Env.of e [(11,v10),(10,v10),(8,(.bool true)),(9,(e 3)),(8,(.bool true)),(8,v7),(7,v7),(6,v6),(5,(e 0)),(4,(e 3))]) ds W) ((zOL ro K) .normal (Env.of e [(11,(.bool false)),(10,undef),(8,(.bool false)),(9,undef),(8,(.bool false)),(8,v7),(7,v7),(6,v6),(5,(e 0)),(4,(e 3))]) ds W)):=by kernel_rfl
theorem zRQ (Q:Ending→CW→Prop) (e:Env) (W:CW):zAE prog Tryz.f14 Q .ret e [] W=Q (.returned (e 2)) W:=by kernel_rfl
theorem zX3 {Q:Ending→CW→Prop} {v0:Value} {W:CW} (h:zAJ prog pkL none 14 42 (zAG prog 14) (Env.args [v0]) [] W (zAE prog Tryz.f14 Q)):WCall prog pkL 14 [v0] W Q:=zAM Tryz.func14 (by kernel_rfl) (by kernel_rfl) (by kernel_rfl) (by kernel_rfl) (by kernel_rfl) h
def zJY (ro:Option Nat) (K:zAI):zAI:=zA5 (fun e ds W=>K .ret e ds W) K
def zOK (ro:Option Nat) (K:zAI):zAI:=zA5 (fun e ds W=>wV (zAm prog 24 (e 0) W) fun v45=>wV (zAL prog .leq 3 true v45 (.int .i64 40)) fun v46=>wI v46 ((zJY ro K) .normal (Env.of e [(2,(.bool true)),(56,(.bool true)),(55,undef),(47,(.bool true)),(54,undef),(53,undef),(52,undef),(51,undef),(47,(.bool true)),(50,undef),(47,(.bool true)),(49,undef),(47,(.bool true)),(48,undef),(47,(.bool true)),(47,v46),(46,v46),(45,v45),(44,(e 0))]) ds W) (wV (zAm prog 24 (e 0) W) fun v49=>wV (zAL prog .gtr 3 true v49 (.int .i64 1000)) fun v50=>wI v50 (wV (zAm prog 24 (e 0) W) fun v53=>wV (zAL prog .leq 3 true v53 (.int .i64 1002)) fun v54=>(zJY ro K) .normal (Env.of e [(2,v54),(56,v54),(55,v54),(47,(.bool false)),(54,v54),(51,(.bool true)),(53,v53),(51,(.bool true)),(52,(e 0)),(51,(.bool true)),(51,v50),(47,(.bool false)),(50,v50),(47,(.bool false)),(49,v49),(47,(.bool false)),(48,(e 0)),(47,(.bool false)),(47,v46),(46,v46),(45,v45),(44,(e 0))]) ds W) ((zJY ro K) .normal (Env.of e [(2,(.bool false)),(56,(.bool false)),(55,(.bool false)),(47,(.bool false)),(54,undef),(51,(.bool false)),(53,undef),(51,(.bool false)),(52,undef),(51,(.bool false)),(51,v50),(47,(.bool false)),(50,v50),(47,(.bool false)),(49,v49),(47,(.bool false)),(48,(e 0)),(47,(.bool false)),(47,v46),(46,v46),(45,v45),(44,(e 0))]) ds W))) K
theorem zX2 (v0:Value) (K:zAI) (W:CW):zAJ prog pkL none 15 57 (zAG prog 15) (Env.args [v0]) [] W K=(zCg prog pkL none 15 57 (.loop (zAS prog 15 0)) (Env.of (Env.args [v0]) [(3,(.int .i64 0)),(2,(.bool false))]) [] W (zBm 0 (zOK none K))):=by kernel_rfl
def zLq (ro:Option Nat) (K:zAI):zAI:=zA5 (fun e ds W=>wV (zAL prog .add 3 true (e 3) (.int .i64 1)) fun v9=>K .normal (Env.of e [(3,v9),(9,v9),(8,(e 3))]) ds W) K
def zJX (ro:Option Nat) (K:zAI):zAI:=zA5 (fun e ds W=>wI (e 43) ((zLq ro K) .ret (Env.of e [(2,(.bool false))]) ds W) ((zLq ro K) .normal e ds W)) (zBm 1 (zLq ro K))
theorem zVi (ro:Option Nat) (e:Env) (ds:List Deferred) (K:zAI) (W:CW):zAJ prog pkL ro 15 57 (zAS prog 15 0) e ds W K=(wV (zAm prog 24 (e 0) W) fun v6=>wV (zAL prog .lss 3 false (e 3) v6) fun v7=>wI v7 (wV (iad prog 24 (e 0) (e 3)) fun v12=>wV (fad prog 56 v12 0) fun v13=>wV (ld prog 9 v13 W) fun v14=>wV (zAm prog 9 v14 W) fun v15=>wV (zAL prog .gtr 3 true v15 (.int .i64 70)) fun v16=>wI v16 ((zJX ro K) .normal (Env.of e [(43,(.bool true)),(42,undef),(35,(.bool true)),(41,undef),(35,(.bool true)),(40,undef),(35,(.bool true)),(39,undef),(35,(.bool true)),(38,undef),(35,(.bool true)),(37,undef),(35,(.bool true)),(36,undef),(35,(.bool true)),(35,(.bool true)),(34,(.bool true)),(33,undef),(17,(.bool true)),(32,undef),(31,undef),(30,undef),(29,undef),(28,undef),(27,undef),(26,undef),(25,undef),(17,(.bool true)),(24,undef),(17,(.bool true)),(23,undef),(17,(.bool true)),(22,undef),(17,(.bool true)),(21,undef),(17,(.bool true)),(20,undef),(17,(.bool true)),(19,undef),(17,(.bool true)),(18,undef),(17,(.bool true)),(17,v16),(16,v16),(15,v15),(14,v14),(13,v13),(12,v12),(11,(e 3)),(10,(e 0)),(7,v7),(6,v6),(5,(e 0)),(4,(e 3))]) ds W) (wV (iad prog 24 (e 0) (e 3)) fun v20=>wV (fad prog 56 v20 1) fun v21=>wV (ld prog 40 v21 W) fun v22=>wV (zAm prog 40 v22 W) fun v23=>wV (zAL prog .gtr 3 true v23 (.int .i64 70)) fun v24=>wI v24 (wV (iad prog 24 (e 0) (e 3)) fun v28=>wV (fad prog 56 v28 1) fun v29=>wV (ld prog 40 v29 W) fun v30=>wV (zAm prog 40 v30 W) fun v31=>wV (zAL prog .leq 3 true v31 (.int .i64 200)) fun v32=>wI v32 ((zJX ro K) .normal (Env.of e [(43,(.bool true)),(42,undef),(35,(.bool true)),(41,undef),(35,(.bool true)),(40,undef),(35,(.bool true)),(39,undef),(35,(.bool true)),(38,undef),(35,(.bool true)),(37,undef),(35,(.bool true)),(36,undef),(35,(.bool true)),(35,v32),(34,v32),(33,v32),(17,(.bool false)),(32,v32),(25,(.bool true)),(31,v31),(25,(.bool true)),(30,v30),(25,(.bool true)),(29,v29),(25,(.bool true)),(28,v28),(25,(.bool true)),(27,(e 3)),(25,(.bool true)),(26,(e 0)),(25,(.bool true)),(25,v24),(17,(.bool false)),(24,v24),(17,(.bool false)),(23,v23),(17,(.bool false)),(22,v22),(17,(.bool false)),(21,v21),(17,(.bool false)),(20,v20),(17,(.bool false)),(19,(e 3)),(17,(.bool false)),(18,(e 0)),(17,(.bool false)),(17,v16),(16,v16),(15,v15),(14,v14),(13,v13),(12,v12),(11,(e 3)),(10,(e 0)),(7,v7),(6,v6),(5,(e 0)),(4,(e 3))]) ds W) (wV (iad prog 24 (e 0) (e 3)) fun v38=>wV (fad prog 56 v38 1) fun v39=>wV (ld prog 40 v39 W) fun v40=>wV (zAm prog 40 v40 W) fun v41=>wV (zAL prog .gtr 3 true v41 (.int .i64 203)) fun v42=>(zJX ro K) .normal (Env.of e [(43,v42),(42,v42),(35,(.bool false)),(41,v41),(35,(.bool false)),(40,v40),(35,(.bool false)),(39,v39),(35,(.bool false)),(38,v38),(35,(.bool false)),(37,(e 3)),(35,(.bool false)),(36,(e 0)),(35,(.bool false)),(35,v32),(34,v32),(33,v32),(17,(.bool false)),(32,v32),(25,(.bool true)),(31,v31),(25,(.bool true)),(30,v30),(25,(.bool true)),(29,v29),(25,(.bool true)),(28,v28),(25,(.bool true)),(27,(e 3)),(25,(.bool true)),(26,(e 0)),(25,(.bool true)),(25,v24),(17,(.bool false)),(24,v24),(17,(.bool false)),(23,v23),(17,(.bool false)),(22,v22),(17,(.bool false)),(21,v21),(17,(.bool false)),(20,v20),(17,(.bool false)),(19,(e 3)),(17,(.bool false)),(18,(e 0)),(17,(.bool false)),(17,v16),(16,v16),(15,v15),(14,v14),(13,v13),(12,v12),(11,(e 3)),(10,(e 0)),(7,v7),(6,v6),(5,(e 0)),(4,(e 3))]) ds W)) (wV (iad prog 24 (e 0) (e 3)) fun v38=>wV (fad prog 56 v38 1) fun v39=>wV (ld prog 40 v39 W) fun v40=>wV (zAm prog 40 v40 W) fun v41=>wV (zAL prog .gtr 3 true v41 (.int .i64 203)) fun v42=>(zJX ro K) .normal (Env.of e [(43,v42),(42,v42),(35,(.bool false)),(41,v41),(35,(.bool false)),(40,v40),(35,(.bool false)),(39,v39),(35,(.bool false)),(38,v38),(35,(.bool false)),(37,(e 3)),(35,(.bool false)),(36,(e 0)),(35,(.bool false)),(35,(.bool false)),(34,(.bool false)),(33,(.bool false)),(17,(.bool false)),(32,undef),(25,(.bool false)),(31,undef),(25,(.bool false)),(30,undef),(25,(.bool false)),(29,undef),(25,(.bool false)),(28,undef),(25,(.bool false)),(27,undef),(25,(.bool false)),(26,undef),(25,(.bool false)),(25,v24),(17,(.bool false)),(24,v24),(17,(.bool false)),(23,v23),(17,(.bool false)),(22,v22),(17,(.bool false)),(21,v21),(17,(.bool false)),(20,v20),(17,(.bool false)),(19,(e 3)),(17,(.bool false)),(18,(e 0)),(17,(.bool false)),(17,v16),(16,v16),(15,v15),(14,v14),(13,v13),(12,v12),(11,(e 3)),(10,(e 0)),(7,v7),(6,v6),(5,(e 0)),(4,(e 3))]) ds W))) (K (.exit 0) (Env.of e [(7,v7),(6,v6),(5,(e 0)),(4,(e 3))]) ds W)):=by kernel_rfl
theorem zRP (Q:Ending→CW→Prop) (e:Env) (W:CW):zAE prog Tryz.f15 Q .ret e [] W=Q (.returned (e 2)) W:=by kernel_rfl
theorem zX1 {Q:Ending→CW→Prop} {v0:Value} {W:CW} (h:zAJ prog pkL none 15 57 (zAG prog 15) (Env.args [v0]) [] W (zAE prog Tryz.f15 Q)):WCall prog pkL 15 [v0] W Q:=zAM Tryz.func15 (by kernel_rfl) (by kernel_rfl) (by kernel_rfl) (by kernel_rfl) (by kernel_rfl) h
end Go.Ce
namespace Go.Ce
open Go Go.Proofs Go.Proofs.Tryz
def zDu (A:Prop) (W:CW):Ending→CW→Prop:=fun e W'=>W'=W∧∃ b,e=.returned (.bool b)∧(b=true→A)
theorem zJ5 {v0:Value} {l:List Spc} {W:CW} (hl:IsSl 3 (RSpc W) v0 l) :
  WCall prog pkL 14 [v0] W (zDu (l.length≤22∧∀ s,s ∈ l→s.map.length≤70) W):=by
 refine zX3 ?_; rw [zX4]; obtain ⟨a,cap,rfl,hc⟩:=hl; generalize hKK:zAE prog Tryz.f14 (zDu (l.length≤22∧∀ s,s ∈ l→s.map.length≤70) W)=KK
 have hret:∀ (e:Env) (b:Bool),e 2=.bool b→(b=true→l.length≤22∧∀ s,s ∈ l→s.map.length≤70)→KK .ret e [] W:=by
  intro e b h2 hb; rw [←hKK,zRQ]; exact ⟨rfl,b,by rw [h2],hb⟩
 refine zCX (fun i e ds W'=>ds=[]∧W'=W∧e 0=.slice a l.length cap∧e 3=.int .i64 i∧∀ j x,j<i→l[j]?=some x→x.map.length≤70) (min l.length 22) ⟨rfl,rfl,rfl,rfl,by omega⟩ ?_; rintro i e ds W' hi ⟨rfl,rfl,h0,h3,hpre⟩; rw [zVj,h0,h3]; simp only [zAT u23,zAA,zAZ]
 have hend:∀ e1:Env,e1 0=.slice a l.length cap→(l.length≤22→i=l.length)→(zOM none KK) .normal e1 [] W':=by
  intro e1 g0 hil; simp only [zOM,qKn,qKr,qKx,qKp,bKn,bKr,bKp,bKx,tKn,tKr,tKx,tKp,zKn,zKr,zKx,zKp,g0,zAT u23,zAA,zEI]; refine hret _ _ rfl fun hb=>?_; have hb:l.length≤22:=by have:=of_decide_eq_true hb; omega
  have hi2:=hil hb; refine ⟨hb,fun s hs=>?_⟩; obtain ⟨j,hj,rfl⟩:=List.getElem_of_mem hs; exact hpre j _ (by omega) (List.getElem?_eq_getElem hj)
 refine zGZ (fun hlt=>?_) (fun hge=>?_)
 ·simp only [zOL,qKn,qKr,qKx,qKp,bKn,bKr,bKp,bKx,tKn,tKr,tKx,tKp,zKn,zKr,zKx,zKp]; simp only [eKc,eKn,eKa,Nat.reduceEqDiff,↓reduceIte,gKz,gKs,dKs,and_self]
  refine zAH (fun h22=>?_) (fun h22=>?_)
  ·have h22:i<22:=by have:=of_decide_eq_true h22; omega
   have hx:=List.getElem?_eq_getElem hlt; obtain ⟨p,rfl,hp⟩:=hc i _ hx; obtain ⟨vm,hvm,hm,_⟩:=hp.map; obtain ⟨am,cm,rfl,_⟩:=hm; simp only [zJZ,qKn,qKr,qKx,qKp,bKn,bKr,bKp,bKx,tKn,tKr,tKx,tKp,zKn,zKr,zKx,zKp]; simp only [eKc,eKn,eKa,Nat.reduceEqDiff,↓reduceIte,gKz,gKs,dKs,and_self,h0,h3]; rw [zAb u23 s58 hlt]; simp only [zAA,zEs,zEr,zFk]; rw [zAB a9 (a:=⟨p.block,p.off+i*3,none⟩) hp.type,zAB a9 (a:=⟨p.block,p.off+i*3+1,none⟩) hp.to,zAB a40 (a:=⟨p.block,p.off+i*3+2,none⟩) hvm]; simp only [zAA,zFJ u9,zAT u40,zBO]
   have bad:∀ e1:Env,e1 38=.bool true→(zJa none (zJQ (fun i e ds W''=>ds=[]∧W''=W'∧e 0=.slice (some p) l.length cap∧e 3=.int .i64 i∧∀ j x,j<i→l[j]?=some x→x.map.length≤70) i (min l.length 22) (zBm 0 (zOM none KK)))) .normal e1 [] W':=by
    intro e1 h38; simp only [zJa,qKn,qKr,qKx,qKp,bKn,bKr,bKp,bKx,tKn,tKr,tKx,tKp,zKn,zKr,zKx,zKp,h38,zAn,zJb]; exact hret _ false rfl nofun
   refine zAH (fun _=>bad _ rfl) (fun _=>?_); refine zAH (fun _=>bad _ rfl) (fun _=>?_); simp only [zJa,qKn,qKr,qKx,qKp,bKn,bKr,bKp,bKx,tKn,tKr,tKx,tKp,zKn,zKr,zKx,zKp]; simp only [eKc,eKn,eKa,Nat.reduceEqDiff,↓reduceIte,gKz,gKs,dKs,and_self]
   refine zAH (fun _=>?_) (fun hm70=>?_)
   ·simp only [zJb,qKn,qKr,qKx,qKp,bKn,bKr,bKp,bKx,tKn,tKr,tKx,tKp,zKn,zKr,zKx,zKp]; exact hret _ false rfl nofun
   ·simp only [zJb,qKn,qKr,qKx,qKp,bKn,bKr,bKp,bKx,tKn,tKr,tKx,tKp,zKn,zKr,zKx,zKp]; simp only [eKc,eKn,eKa,Nat.reduceEqDiff,↓reduceIte,gKz,gKs,dKs,and_self,h0,h3,zAW,zAA,qKn,qKr,qKx,qKp,bKn,bKr,bKp,bKx,tKn,tKr,tKx,tKp,zKn,zKr,zKx,zKp]; refine ⟨by omega,trivial,trivial,trivial,by rw [zCT (by omega)],fun j x hj hx'=>?_⟩
    rcases Nat.lt_succ_iff_lt_or_eq.1 hj with h2 | rfl
    ·exact hpre j x h2 hx'
    ·rw [hx] at hx'; cases hx'; have:=of_decide_eq_false hm70; omega
  ·have h22:¬i<22:=by have:=of_decide_eq_false h22; omega
   simp only [zJZ,qKn,qKr,qKx,qKp,bKn,bKr,bKp,bKx,tKn,tKr,tKx,tKp,zKn,zKr,zKx,zKp,if_true]; exact hend _ h0 (by omega)
 ·simp only [zOL,qKn,qKr,qKx,qKp,bKn,bKr,bKp,bKx,tKn,tKr,tKx,tKp,zKn,zKr,zKx,zKp]; simp only [eKc,eKn,eKa,Nat.reduceEqDiff,↓reduceIte,gKz,gKs,dKs,and_self,zAP]; simp only [zJZ,qKn,qKr,qKx,qKp,bKn,bKr,bKp,bKx,tKn,tKr,tKx,tKp,zKn,zKr,zKx,zKp,if_true]; exact hend _ h0 (by omega)
end Go.Ce
namespace Go.Ce
open Go Go.Proofs Go.Proofs.Tryz
theorem zVH {i:Nat} (h:i<9223372036854775807):IntKind.i64.wrap ((i:Int)+1)=((i+1:Nat):Int):=by rw [zBU (by omega) (by omega)]; rfl
theorem zMf {v0:Value} {l:List Thg} {W:CW} (hl:IsSl 2 (RThg W) v0 l) (hlm:l.length≤maxLen) :
  WCall prog pkL 15 [v0] W (zDu ((l.length≤40∨1000<l.length)∧l.length≤1002∧∀ x,x ∈ l→x.vals.length≤203) W):=by
 refine zX1 ?_; rw [zX2]; have hmax:maxLen=9223372036854775807:=rfl; obtain ⟨a,cap,rfl,hc⟩:=hl; generalize hKK:zAE prog Tryz.f15 (zDu ((l.length≤40∨1000<l.length)∧l.length≤1002∧∀ x,x ∈ l→x.vals.length≤203) W)=KK
 have hret:∀ (e:Env) (b:Bool),e 2=.bool b→(b=true→(l.length≤40∨1000<l.length)∧l.length≤1002∧∀ x,x ∈ l→x.vals.length≤203)→KK .ret e [] W:=by
  intro e b h2 hb; rw [←hKK,zRP]; exact ⟨rfl,b,by rw [h2],hb⟩
 refine zCX (fun i e ds W'=>ds=[]∧W'=W∧e 0=.slice a l.length cap∧e 3=.int .i64 i∧∀ j x,j<i→l[j]?=some x→x.vals.length≤203) l.length ⟨rfl,rfl,rfl,rfl,by omega⟩ ?_; rintro i e ds W' hi ⟨rfl,rfl,h0,h3,hpre⟩; rw [zVi,h0,h3]; simp only [zAT u24,zAA,zAZ]
 refine zGZ (fun hlt=>?_) (fun hge=>?_)
 ·have hx:=List.getElem?_eq_getElem hlt; obtain ⟨p,rfl,hp⟩:=hc i _ hx; obtain ⟨vm,hvm,hm⟩:=hp.vals; obtain ⟨am,cm,rfl,_⟩:=hm; rw [zAb u24 s56 hlt]; simp only [zAA,zCU,zCH]; rw [zAB a9 (a:=⟨p.block,p.off+i*2,none⟩) hp.type,zAB a40 (a:=⟨p.block,p.off+i*2+1,none⟩) hvm]; simp only [zAA,zFJ u9,zAT u40,zBO,zEI]
  have fin:∀ (e1:Env) (b:Bool),e1 43=.bool b→e1 0=.slice (some p) l.length cap→e1 3=.int .i64 i→(b=false→l[i].vals.length≤203)→(zJX none (zJQ (fun i e ds W''=>ds=[]∧W''=W'∧e 0=.slice (some p) l.length cap∧e 3=.int .i64 i∧∀ j x,j<i→l[j]?=some x→x.vals.length≤203) i l.length (zBm 0 (zOK none KK)))) .normal e1 [] W':=by
   intro e1 b h43 g0 g3 hb; simp only [zJX,qKn,qKr,qKx,qKp,bKn,bKr,bKp,bKx,tKn,tKr,tKx,tKp,zKn,zKr,zKx,zKp,h43]
   refine zAH (fun hbt=>?_) (fun hbf=>?_)
   ·simp only [zLq,qKn,qKr,qKx,qKp,bKn,bKr,bKp,bKx,tKn,tKr,tKx,tKp,zKn,zKr,zKx,zKp,zOK]; exact hret _ false rfl nofun
   ·simp only [zLq,qKn,qKr,qKx,qKp,bKn,bKr,bKp,bKx,tKn,tKr,tKx,tKp,zKn,zKr,zKx,zKp]; simp only [eKc,eKn,eKa,Nat.reduceEqDiff,↓reduceIte,gKz,gKs,dKs,and_self,g0,g3,zAW,zAA,qKn,qKr,qKx,qKp,bKn,bKr,bKp,bKx,tKn,tKr,tKx,tKp,zKn,zKr,zKx,zKp]; refine ⟨hlt,trivial,trivial,trivial,by rw [zVH (by omega)],fun j x hj hx'=>?_⟩
    rcases Nat.lt_succ_iff_lt_or_eq.1 hj with h2 | rfl
    ·exact hpre j x h2 hx'
    ·rw [hx] at hx'; cases hx'; exact hb hbf
  refine zAH (fun _=>fin _ true rfl (by exact h0) (by exact h3) nofun) (fun _=>?_)
  refine zAH (fun h70=>?_) (fun h70=>?_)
  ·refine zAH (fun h200=>fin _ true rfl (by exact h0) (by exact h3) nofun) (fun h200=>?_); refine fin _ _ rfl (by exact h0) (by exact h3) fun hb=>?_; have:=of_decide_eq_false hb; omega
  ·refine fin _ _ rfl (by exact h0) (by exact h3) fun hb=>?_; have:=of_decide_eq_false h70; omega
 ·have hil:i=l.length:=by omega
  simp only [qKn,qKr,qKx,qKp,bKn,bKr,bKp,bKx,tKn,tKr,tKx,tKp,zKn,zKr,zKx,zKp,if_true,zOK]; simp only [eKc,eKn,eKa,Nat.reduceEqDiff,↓reduceIte,gKz,gKs,dKs,and_self,h0,zAT u24,zAA,zEI,zBO]
  have hall:∀ x,x ∈ l→x.vals.length≤203:=fun s hs=>by
   obtain ⟨j,hj,rfl⟩:=List.getElem_of_mem hs; exact hpre j _ (by omega) (List.getElem?_eq_getElem hj)
  refine zAH (fun h40=>?_) (fun h40=>?_)
  ·simp only [zJY,qKn,qKr,qKx,qKp,bKn,bKr,bKp,bKx,tKn,tKr,tKx,tKp,zKn,zKr,zKx,zKp]; have:=of_decide_eq_true h40; exact hret _ true rfl fun _=>⟨.inl (by omega),by omega,hall⟩
  ·refine zAH (fun h1000=>?_) (fun h1000=>?_)
   ·simp only [zJY,qKn,qKr,qKx,qKp,bKn,bKr,bKp,bKx,tKn,tKr,tKx,tKp,zKn,zKr,zKx,zKp]; have h1000:=of_decide_eq_true h1000; refine hret _ _ rfl fun hb=>?_; have:=of_decide_eq_true hb; exact ⟨.inr (by omega),by omega,hall⟩
   ·simp only [zJY,qKn,qKr,qKx,qKp,bKn,bKr,bKp,bKx,tKn,tKr,tKx,tKp,zKn,zKr,zKx,zKp]; exact hret _ false rfl nofun
end Go.Ce
namespace Go.Ce
open Go Go.Proofs Go.Proofs.Tryz
theorem a46:agg? prog 46=some false:=by kernel_rfl
theorem zUZ (a:Addr):fad prog 48 (.pointer (some a)) 4=some (.pointer (some ⟨a.block,a.off+4,none⟩)):=by kernel_rfl
def zUt (x:Shp):Prop:=x.name.size≤70∧x.super.size≤70∧x.fields.length≤24∧∀ f,f ∈ x.fields→f.name.size≤70
theorem zMh {v0:Value} {l:List Shp} {W:CW} (hl:IsSl 5 (RShp W) v0 l) :
  WCall prog pkL 13 [v0] W (zDu (l.length≤102∧∀ x,x ∈ l→zUt x) W):=by
 refine zX5 ?_; rw [zX6]; obtain ⟨a,cap,rfl,hc⟩:=hl; generalize hKK:zAE prog Tryz.f13 (zDu (l.length≤102∧∀ x,x ∈ l→zUt x) W)=KK
 have hret:∀ (e:Env) (b:Bool),e 2=.bool b→(b=true→l.length≤102∧∀ x,x ∈ l→zUt x)→KK .ret e [] W:=by
  intro e b h2 hb; rw [←hKK,zRR]; exact ⟨rfl,b,by rw [h2],hb⟩
 refine zCX (fun i e ds W'=>ds=[]∧W'=W∧e 0=.slice a l.length cap∧e 3=.int .i64 i∧∀ j x,j<i→l[j]?=some x→zUt x) (min l.length 103) ⟨rfl,rfl,rfl,rfl,by omega⟩ ?_; rintro i e ds W' hi ⟨rfl,rfl,h0,h3,hpre⟩; rw [zVn,h0,h3]; simp only [zAT u22,zAA,zAZ]
 have hend:∀ e1:Env,e1 0=.slice a l.length cap→(l.length≤102→i=l.length)→(zJf none KK) .normal e1 [] W':=by
  intro e1 g0 hil
  have hall:l.length≤102→∀ x,x ∈ l→zUt x:=fun h s hs=>by
   have:=hil h; obtain ⟨j,hj,rfl⟩:=List.getElem_of_mem hs; exact hpre j _ (by omega) (List.getElem?_eq_getElem hj)
  simp only [zJf,qKn,qKr,qKx,qKp,bKn,bKr,bKp,bKx,tKn,tKr,tKx,tKp,zKn,zKr,zKx,zKp,g0,zAT u22,zAA,zEI,zBO]
  refine zAH (fun h12=>?_) (fun h12=>?_)
  ·simp only [zJg,qKn,qKr,qKx,qKp,bKn,bKr,bKp,bKx,tKn,tKr,tKx,tKp,zKn,zKr,zKx,zKp]; have:=of_decide_eq_true h12; exact hret _ true rfl fun _=>⟨by omega,hall (by omega)⟩
  ·refine zAH (fun h100=>?_) (fun h100=>?_)
   ·simp only [zJg,qKn,qKr,qKx,qKp,bKn,bKr,bKp,bKx,tKn,tKr,tKx,tKp,zKn,zKr,zKx,zKp]; refine hret _ _ rfl fun hb=>?_; have:=of_decide_eq_true hb; exact ⟨by omega,hall (by omega)⟩
   ·simp only [zJg,qKn,qKr,qKx,qKp,bKn,bKr,bKp,bKx,tKn,tKr,tKx,tKp,zKn,zKr,zKx,zKp]; exact hret _ false rfl nofun
 refine zGZ (fun hlt=>?_) (fun hge=>?_)
 ·simp only [zOO,qKn,qKr,qKx,qKp,bKn,bKr,bKp,bKx,tKn,tKr,tKx,tKp,zKn,zKr,zKx,zKp]; simp only [eKc,eKn,eKa,Nat.reduceEqDiff,↓reduceIte,gKz,gKs,dKs,and_self]
  refine zAH (fun h22=>?_) (fun h22=>?_)
  ·have h22:i<103:=by have:=of_decide_eq_true h22; omega
   have hx:=List.getElem?_eq_getElem hlt; obtain ⟨p,rfl,hp⟩:=hc i _ hx; obtain ⟨vf,hvf,hf⟩:=hp.fields; obtain ⟨af,cf,rfl,hfc⟩:=hf; obtain ⟨ab,lb,cb,hbb⟩:=hp.binds; have q9:ld prog 9 (.pointer (some ⟨p.block,p.off+i*5,none⟩)) W'=some (.string l[i].name):=zAB a9 (a:=⟨p.block,p.off+i*5,none⟩) hp.name; have q9':ld prog 9 (.pointer (some ⟨p.block,p.off+i*5+1,none⟩)) W'=some (.string l[i].super):=zAB a9 (a:=⟨p.block,p.off+i*5+1,none⟩) hp.super; have q45:ld prog 45 (.pointer (some ⟨p.block,p.off+i*5+2,none⟩)) W'=some (.slice af l[i].fields.length cf):=zAB a45 (a:=⟨p.block,p.off+i*5+2,none⟩) hvf; have q46:ld prog 46 (.pointer (some ⟨p.block,p.off+i*5+4,none⟩)) W'=some (.slice ab lb cb):=zAB a46 (a:=⟨p.block,p.off+i*5+4,none⟩) hbb; obtain ⟨eb,heb⟩:=u46; simp only [zJd,qKn,qKr,qKx,qKp,bKn,bKr,bKp,bKx,tKn,tKr,tKx,tKp,zKn,zKr,zKx,zKp]; simp only [eKc,eKn,eKa,Nat.reduceEqDiff,↓reduceIte,gKz,gKs,dKs,and_self,h0,h3]; rw [zAb u22 s48 hlt]; simp only [zAA,zGv,zNC,zIJ,zUZ,q9,q9',q45,q46,zFJ u9,zAT u45,zAT heb,zBO]
   have fin:∀ (e1:Env) (b:Bool),e1 48=.bool b→e1 0=.slice (some p) l.length cap→e1 3=.int .i64 i→(b=false→l[i].name.size≤70∧l[i].super.size≤70∧l[i].fields.length≤24)→(zJe none (zJQ (fun i e ds W''=>ds=[]∧W''=W'∧e 0=.slice (some p) l.length cap∧e 3=.int .i64 i∧∀ j x,j<i→l[j]?=some x→zUt x) i (min l.length 103) (zBm 0 (zJf none KK)))) .normal e1 [] W':=by
    intro e1 b h48 g0 g3 hb; simp only [zJe,qKn,qKr,qKx,qKp,bKn,bKr,bKp,bKx,tKn,tKr,tKx,tKp,zKn,zKr,zKx,zKp,h48]
    refine zAH (fun hbt=>?_) (fun hbf=>?_)
    ·simp only [zLr,zLs,qKn,qKr,qKx,qKp,bKn,bKr,bKp,bKx,tKn,tKr,tKx,tKp,zKn,zKr,zKx,zKp,zJf]; exact hret _ false rfl nofun
    ·obtain ⟨hn,hsu,hfl⟩:=hb hbf; simp only [zLr,qKn,qKr,qKx,qKp,bKn,bKr,bKp,bKx,tKn,tKr,tKx,tKp,zKn,zKr,zKx,zKp]; refine zCX (fun m e ds W''=>ds=[]∧W''=W'∧e 0=.slice (some p) l.length cap∧e 3=.int .i64 i∧e 4=.int .i64 m∧∀ j x,j<m→l[i].fields[j]?=some x→x.name.size≤70) l[i].fields.length ⟨rfl,rfl,by exact g0,by exact g3,rfl,by omega⟩ ?_; rintro m e2 ds2 W2 hm ⟨rfl,rfl,r0,r3,r4,hpre2⟩; rw [zVm,r0,r3,r4,zAb u22 s48 hlt]; simp only [zAA,zIJ,q45,zAT u45,zAZ]
     refine zGZ (fun hmlt=>?_) (fun hmge=>?_)
     ·have hxm:=List.getElem?_eq_getElem hmlt; obtain ⟨q,rfl,hq⟩:=hfc m _ hxm; rw [zAb u45 s72 hmlt]; simp only [zAA,zNA]; rw [zAB a9 (a:=⟨q.block,q.off+m*2,none⟩) hq.name]; simp only [zAA,zFJ u9,zBO]
      refine zAH (fun h70=>?_) (fun h70=>?_)
      ·simp only [zON,zLs,qKn,qKr,qKx,qKp,bKn,bKr,bKp,bKx,tKn,tKr,tKx,tKp,zKn,zKr,zKx,zKp,zJf]; exact hret _ false rfl nofun
      ·simp only [zON,qKn,qKr,qKx,qKp,bKn,bKr,bKp,bKx,tKn,tKr,tKx,tKp,zKn,zKr,zKx,zKp]; simp only [eKc,eKn,eKa,Nat.reduceEqDiff,↓reduceIte,gKz,gKs,dKs,and_self,r0,r3,r4,zAW,zAA,qKn,qKr,qKx,qKp,bKn,bKr,bKp,bKx,tKn,tKr,tKx,tKp,zKn,zKr,zKx,zKp]; refine ⟨hmlt,trivial,trivial,trivial,trivial,by rw [zCT (by omega)],fun j x hj hx'=>?_⟩
       rcases Nat.lt_succ_iff_lt_or_eq.1 hj with h2 | rfl
       ·exact hpre2 j x h2 hx'
       ·rw [hxm] at hx'; cases hx'; have:=of_decide_eq_false h70; omega
     ·simp only [qKn,qKr,qKx,qKp,bKn,bKr,bKp,bKx,tKn,tKr,tKx,tKp,zKn,zKr,zKx,zKp,if_true,zLs]; simp only [eKc,eKn,eKa,Nat.reduceEqDiff,↓reduceIte,gKz,gKs,dKs,and_self,r0,r3,zAW,zAA,qKn,qKr,qKx,qKp,bKn,bKr,bKp,bKx,tKn,tKr,tKx,tKp,zKn,zKr,zKx,zKp]; refine ⟨by omega,trivial,trivial,trivial,by rw [zCT (by omega)],fun j x hj hx'=>?_⟩
      rcases Nat.lt_succ_iff_lt_or_eq.1 hj with h2 | rfl
      ·exact hpre j x h2 hx'
      ·rw [hx] at hx'; cases hx'; refine ⟨hn,hsu,hfl,fun f hf=>?_⟩; obtain ⟨j2,hj2,rfl⟩:=List.getElem_of_mem hf; exact hpre2 j2 _ (by omega) (List.getElem?_eq_getElem hj2)
   refine zAH (fun _=>fin _ true rfl (by exact h0) (by exact h3) nofun) (fun h1=>?_); refine zAH (fun _=>fin _ true rfl (by exact h0) (by exact h3) nofun) (fun h2=>?_); refine zAH (fun _=>fin _ true rfl (by exact h0) (by exact h3) nofun) (fun h4=>?_); refine fin _ _ rfl (by exact h0) (by exact h3) fun _=>?_; have h1:=of_decide_eq_false h1; have h2:=of_decide_eq_false h2; have h4:=of_decide_eq_false h4; exact ⟨by omega,by omega,by omega⟩
  ·have h22:¬i<103:=by have:=of_decide_eq_false h22; omega
   simp only [zJd,qKn,qKr,qKx,qKp,bKn,bKr,bKp,bKx,tKn,tKr,tKx,tKp,zKn,zKr,zKx,zKp,if_true]; exact hend _ h0 (by omega)
 ·simp only [zOO,qKn,qKr,qKx,qKp,bKn,bKr,bKp,bKx,tKn,tKr,tKx,tKp,zKn,zKr,zKx,zKp]; simp only [eKc,eKn,eKa,Nat.reduceEqDiff,↓reduceIte,gKz,gKs,dKs,and_self,zAP]; simp only [zJd,qKn,qKr,qKx,qKp,bKn,bKr,bKp,bKx,tKn,tKr,tKx,tKp,zKn,zKr,zKx,zKp,if_true]; exact hend _ h0 (by omega)
end Go.Ce
namespace Go.Ce
open Go Go.Proofs Go.Proofs.Tryz
def zTO (l:List Int):List UInt8:=l.map fun k=>UInt8.ofNat k.toNat
structure PkArgs (W:CW) (v0 v1 v2:Value) (c:List Shp) (l:List Spc) (h:List Thg):Prop where
 top:Top W
 cat:IsSl 5 (RShp W) v0 c
 spc:IsSl 3 (RSpc W) v1 l
 hp:IsSl 2 (RThg W) v2 h
 hlm:h.length≤maxLen
theorem zWV {c:List Shp} (h1:c.length≤102) (h2:∀ x,x ∈ c→zUt x):Cat c :=
 ⟨by omega,fun x hx=>by have:=(h2 x hx).2.2.1; omega,fun x hx=>by have:=(h2 x hx).1; omega,fun x hx=>by have:=(h2 x hx).2.1; omega,fun x hx f hf=>by have:=(h2 x hx).2.2.2 f hf; omega⟩
theorem zUS:zB1 pkL 16=true:=by kernel_rfl
theorem zQe:zB1 pkL (16+2000000)=true:=by kernel_rfl
def zTv:Ending→CW→Prop:=fun e _=>e=.returned (.bool true)
end Go.Ce
namespace Go.Ce
open Go Go.Proofs Go.Proofs.Tryz
theorem zWO (a b d:Value):ext (.tuple #[a,b,d]) 0=some a:=rfl
theorem zWN (a b d:Value):ext (.tuple #[a,b,d]) 1=some b:=rfl
theorem zWM (a b d:Value):ext (.tuple #[a,b,d]) 2=some d:=rfl
end Go.Ce
namespace Go.Ce
open Go Go.Proofs Go.Proofs.Tryz
def Byt (l:List Int):Prop:=∀ x,x ∈ l→0≤x∧x<256
theorem Byt.app {a b:List Int} (h:Byt a) (g:Byt b):Byt (a++b):=fun x hx=>(List.mem_append.1 hx).elim (h x) (g x)
theorem Byt.flat {α:Type} {f:α→List Int} {l:List α} (h:∀ x,x ∈ l→Byt (f x)):Byt (l.flatMap f):=fun x hx=>by
 obtain ⟨y,hy,hx⟩:=List.mem_flatMap.1 hx; exact h y hy x hx
theorem zG5 (n:Nat):Byt (zCB n):=by
 induction n using Nat.strongRecOn with
 | ind n ih =>
  unfold zCB
  split
  ·intro x hx; rw [List.mem_singleton.1 hx]; omega
  ·intro x hx
   rcases List.mem_cons.1 hx with rfl | hx
   ·omega
   ·exact ih (n / 128) (by omega) x hx
theorem zWW (b:List UInt8):Byt (bI b):=fun x hx=>by
 obtain ⟨y,_,rfl⟩:=List.mem_map.1 hx; have:=y.toNat_lt; omega
theorem zOY (c:List Shp) (ix:Nat):∀ (vs:List Int) (k:Nat),Byt (zR0 c ix k vs)
 | [],_=>fun x hx=>by cases hx
 | v::vs,k=>by
  rw [zR0]; refine Byt.app ?_ (zOY c ix vs _); split <;> exact zG5 _
theorem zRl (c:List Shp) (ts:List ByteArray) (x:Thg):Byt (zLz c ts x):=by
 unfold zLz
 split
 ·refine ((zG5 _).app ?_).app (zOY _ _ _ _)
  split
  ·exact zG5 _
  ·intro x hx; cases hx
 ·intro x hx; cases hx
theorem zUm (c:List Shp) (ts:List ByteArray) (xs:List Thg):Byt (zHJ c ts xs):=by
 unfold zHJ
 refine ((((?_:Byt [1]).app (zG5 _)).app (Byt.flat fun s _=>?_)).app (zG5 _)).app (Byt.flat fun x _=>zRl _ _ _)
 ·intro x hx; rw [List.mem_singleton.1 hx]; omega
 ·exact (zG5 _).app (zWW _)
theorem zTQ {l:List Int} (h:Byt l):bI (zTO l)=l:=by
 unfold bI zTO; rw [List.map_map]
 have:l.map ((fun x:UInt8=>((x.toNat:Nat):Int)) ∘ fun k:Int=>UInt8.ofNat k.toNat)=l.map id:=by
  refine List.map_congr_left fun x hx=>?_; have hb:=h x hx; show ((UInt8.ofNat x.toNat).toNat:Int)=x; rw [UInt8.toNat_ofNat_of_lt' (by show x.toNat<256; omega)]; omega
 rw [this,List.map_id]
theorem zQk (b:List UInt8) (j:Nat):(zAc (bI b))[j]?=(b[j]?).map fun x=>Value.int .u8 ((x.toNat:Nat):Int):=by
 unfold zAc bI; rw [List.map_map,List.getElem?_map]; rfl
theorem zU8 {W:CW} {v:Value} {b:List UInt8} (h:Own W 5 1 v (zAc (bI b))):BsIn W v b:=by
 have hl:=zBz (bI b); rw [zFX] at hl; have hg:=zQk b; generalize zAc (bI b)=cs at h hl hg
 cases h with
 | nil =>
  have:b=[]:=List.length_eq_zero_iff.1 (by simpa using hl.symm); subst this; exact ⟨none,0,rfl,Nat.le_refl _,fun i x hx=>by cases hx⟩
 | @some b0 len _ hB hl2 =>
  have:len=b.length:=by omega
  subst this; refine ⟨some ⟨b0,0,none⟩,b.length,rfl,Nat.le_refl _,fun i x hx=>⟨_,rfl,?_⟩⟩; show W.cell b0 (0+i*1)=_; rw [show 0+i*1=i by omega]; exact hB.cell (by rw [hg,hx]; rfl)
theorem zWY (W:CW):bsl prog 29 0 [] W=some (.slice (some ⟨W.sz,0,none⟩) 0 0,W.new (.cells (Tr.nil.putFrom 0 []) 0 #[] 5)):=by kernel_rfl
structure Wrote (c:List Shp) (l:List Spc) (h:List Thg) (root:Int) (b:List UInt8) (ts:List ByteArray) (xs:List Thg):Prop where
 wr:zCK c l h root=(bI b,0)
 ok:zA9 c=true
 sp:zAq c l=true
 can:Canon c (zJs c l) ts xs
 enc:bI b=zHJ c ts xs
theorem zR1 {c:List Shp} {l:List Spc} {h:List Thg} {root:Int} (hz:zKt c l h root=0) (h40:h.length≤40) (hw:zCK c l h root=(zC2 c l h (zAd c l h root),0)):∃ b,Wrote c l h root b (zBr l (zAF h (zAd c l h root))) (zDR c l h (zAd c l h root)):=by
 obtain ⟨hok,hs,_⟩:=zDS hz; obtain ⟨h1,h2,_⟩:=zHl hz h40; have hb:bI (zTO (zC2 c l h (zAd c l h root)))=zC2 c l h (zAd c l h root):=zTQ (by rw [h2]; exact zUm _ _ _); exact ⟨zTO (zC2 c l h (zAd c l h root)),by rw [hw,hb],hok,hs,h1,by rw [hb,h2]⟩
end Go.Ce
namespace Go.Ce
open Go Go.Proofs Go.Proofs.Tryz
theorem zN8 {v:Int} (hv:0<v):∀ (vs o:List Int),v ∈ vs∨v ∈ o→v ∈ vs.foldl visit o
 | [],o,h=>h.elim (fun h=>by cases h) id
 | u::vs,o,h=>by
  refine zN8 hv vs _ ?_
  rcases h with h | h
  ·rcases List.mem_cons.1 h with rfl | h
   ·right; unfold visit
    by_cases hm:v ∈ o
    ·rw [if_neg (fun q=>q.2 hm)]; exact hm
    ·rw [if_pos ⟨hv,hm⟩]; simp
   ·exact .inl h
  ·exact .inr ((zK9 o u).subset h)
theorem zNr {g:Nat→Int→List Int} {u:Int}:∀ (vs:List Int) (k j:Nat) (v:Int),vs[j]?=some v→u ∈ g (k+j) v→u ∈ zDH g k vs
 | [],k,j,v,h,_=>by simp at h
 | w::vs,k,0,v,h,hu=>by cases h; rw [zDH]; exact List.mem_append_left _ hu
 | w::vs,k,j+1,v,h,hu=>by
  rw [zDH]; exact List.mem_append_right _ (zNr vs (k+1) j v h (by rw [show k+1+j=k+(j+1) by omega]; exact hu))
structure RootRead (c:List Shp) (l:List Spc) (x y:Thg):Prop where
 type:y.type=x.type
 len:y.vals.length=x.vals.length
 spc:∀ s t,s ∈ l→s.type=x.type→zBQ c s.type=some t→(zAj c t).length=x.vals.length∧(∀ m,m ∈ s.map→0≤m∧m.toNat<x.vals.length)∧∀ (k:Nat) v w kd,x.vals[k]?=some v→y.vals[k]?=some w→(zAj c t)[k]?=some kd→if (k:Int) ∈ s.map then (kd=1→w=v)∧(kd=2→(v=0↔w=0)) else w=0
theorem zJ6 {c:List Shp} {l:List Spc} {h:List Thg} {root:Int} (hz:zKt c l h root=0) (hb:zKu l h (zAd c l h root)=false) (hr:root≠0):∃ x y rest,h[(root-1).toNat]?=some x∧(zDR c l h (zAd c l h root)).map (zBn c l)=y::rest∧RootRead c l x y:=by
 obtain ⟨hok,hs,hthi,hr0,hr1⟩:=zDS hz; obtain ⟨h1000,hth⟩:=zDl hthi; have hF:Found (zAd c l h root) h.length:=zEZ (fun v w hw=>(zMn hok hs hth w hw).2) _ _ _ (Found.start hr1); have hst:start root=[root]:=by unfold start; rw [if_pos (by omega)]
 have hpre:start root <+: zAd c l h root:=zDA _ _ _ _; rw [hst] at hpre
 have hfold:(zDp c l h root).foldl visit [root] <+: zAd c l h root:=by
  unfold zAd; rw [hst]; obtain ⟨n,hn⟩:∃ n,h.length=n+1:=⟨h.length-1,by omega⟩
  rw [hn,zBH]; exact zDA _ _ _ _
 generalize zAd c l h root=O at hb hF hpre hfold ⊢; obtain ⟨O',hO⟩:=hpre; have hO:O=root::O':=hO.symm; obtain ⟨x,hx⟩:=zN7 hF (v:=root) (by rw [hO]; simp); have h0O:(0:Int) ∉ O:=fun hm=>by have:=hF.low 0 hm; omega
 have hxm:=List.mem_of_getElem? hx; have hcons:zAF h O=x::zAF h O':=by rw [hO]; exact zFc hx O'
 have hcan:(zDR c l h O).map (zBn c l)=zBn c l (zNv c O (zAD l x))::((zAF h O').map fun x=>zNv c O (zAD l x)).map (zBn c l):=by
  unfold zDR; rw [hcons]; rfl
 refine ⟨x,_,_,hx,hcan,?_⟩; obtain ⟨ix,sx,X⟩:=zCA (hth x hxm)
 cases hsp:zFL l x.type with
 | none =>
  have hw:zAD l x=x:=by unfold zAD; rw [hsp]
  have hto:zP1 l x.type=none:=by
   unfold zP1; rw [List.find?_eq_none]; intro s hs'; have h1:=List.any_eq_false.1 hb x (by rw [hcons]; simp); have h2:=List.any_eq_false.1 (Bool.eq_false_iff.2 h1) s hs'; exact h2
  have hrel:zNv c O x=⟨x.type,zIt c ix O 0 x.vals⟩:=by unfold zNv; rw [X.ti]
  have hbk:zBn c l (zNv c O (zAD l x))=⟨x.type,zIt c ix O 0 x.vals⟩:=by
   rw [hw,hrel]; unfold zBn; show (match zP1 l x.type with | none=>_ | some s=>_)=_; rw [hto]
  rw [hbk]; refine ⟨rfl,zHZ _ _,fun s t hsl hst' _=>?_⟩; have:=zLF hs hsl; rw [hst',hsp] at this
  cases this
 | some s0 =>
  obtain ⟨i,hi,hty⟩:=zDm hsp; have hsm:=List.mem_of_getElem? hi; obtain ⟨t,a,S⟩:=zLE hs hi; have hit:ix=t:=by have h1:=X.ti; rw [←hty,S.ti] at h1; exact (Option.some.inj h1).symm
  subst hit; have hal:=zCF S.ai; have htl:=zCF S.ti; have hml:=zD2 X.si S.et X.many; obtain ⟨hin,hd⟩:=zUA S; have hw:zAD l x=⟨s0.to,s0.map.map (zEO x)⟩:=by unfold zAD; rw [hsp]
  have hrel:zNv c O (zAD l x)=⟨s0.to,zIt c a O 0 (s0.map.map (zEO x))⟩:=by
   rw [hw]; unfold zNv; show (match zBQ c s0.to with | some ix=>_ | none=>_)=_; rw [S.ai]
  have hbk:zBn c l (zNv c O (zAD l x))=⟨s0.type,zDT s0.map (zIt c a O 0 (s0.map.map (zEO x))) (List.replicate (zAj c ix).length 0) s0.map.length⟩:=by
   rw [hrel]; unfold zBn; show (match zP1 l s0.to with | none=>_ | some s=>_)=_; rw [zSJ hs hsm]; simp only; rw [S.ti]
  rw [hbk]; refine ⟨hty,by show (zDT _ _ _ _).length=_; rw [zE4,List.length_replicate,hml],fun s t hsl hst' hti=>?_⟩; have hss:=zLF hs hsl; rw [hst',hsp] at hss; have hss:s0=s:=Option.some.inj hss; subst hss; have htt:ix=t:=by rw [S.ti] at hti; exact Option.some.inj hti
  subst htt
  refine ⟨hml.symm,fun m hm=>?_,fun k v w kd hv hw' hkd=>?_⟩
  ·obtain ⟨j,hj⟩:=List.getElem?_of_mem hm; have:=hin j m hj; omega
  ·have hw':(zDT s0.map (zIt c a O 0 (s0.map.map (zEO x))) (List.replicate (zAj c ix).length 0) s0.map.length)[k]?=some w:=hw'
   split
   ·rename_i hm; obtain ⟨j,hj⟩:=List.getElem?_of_mem hm; have hjl:=(List.getElem?_eq_some_iff.1 hj).1; have hat:=zOa (vs:=zIt c a O 0 (s0.map.map (zEO x))) (z:=List.replicate (zAj c ix).length (0:Int)) (fun k m hk=>by rw [List.length_replicate]; exact hin k m hk) hd s0.map.length (Nat.le_refl _) j (k:Int) hjl hj; rw [Int.toNat_natCast,hw',zNt,List.getElem?_map,hj] at hat; have hval:zEO x (k:Int)=v:=by unfold zEO; rw [Int.toNat_natCast,hv]; rfl
    have hkind:zA3 c a (0+j)=kd:=by
     rw [Nat.zero_add,zD3 S.ea hal]; obtain ⟨n,h1,_,_,h4,_⟩:=S.map j (by rw [←S.len]; exact hjl); rw [hj] at h1; cases h1; rw [Int.toNat_natCast,hkd] at h4; rw [←h4]; rfl
    have hat:w=if kd=2 then zAo O v else v:=by
     have:=Option.some.inj hat; rw [this]; simp only [Option.map_some,Option.getD_some,hkind,hval]
    refine ⟨fun h1=>by rw [hat,if_neg (by omega)],fun h2=>?_⟩; rw [if_pos h2] at hat
    have hv0:0≤v:=by
     have hk2:zA3 c ix k=2:=by rw [zD3 S.et htl,hkd]; exact h2
     rcases zDx hok X hv with q | q
     ·exact q.2.1
     ·rw [q.1] at hk2; cases hk2
    constructor
    ·rintro rfl; rw [hat,zCq h0O]
    ·intro hw0; rw [hw0] at hat; have hn:=placeOf_zero.1 hat.symm
     by_cases hp:0<v
     ·refine (hn (hfold.subset (zN8 hp _ _ (.inl ?_)))).elim; unfold zDp; rw [hx]; simp only; rw [hw]; unfold zEc; show v ∈ (match zBQ c s0.to with | some i=>_ | none=>_); rw [S.ai]; simp only; rw [zLL]; refine zNr _ 0 j v (by rw [List.getElem?_map,hj]; simp only [Option.map_some]; rw [hval]) ?_; unfold zPk; rw [if_pos (by rw [hkind]; exact h2)]; simp
     ·omega
   ·rename_i hm
    rw [zMO (fun k m hk=>(hin k m hk).1) (fun m hmm e=>hm (by
     obtain ⟨j,hj⟩:=List.getElem?_of_mem hmm; have:=(hin j m hj).1; rw [←e,show ((m.toNat:Nat):Int)=m by omega]
     exact hmm)) _ (Nat.le_refl _)] at hw'
    exact List.eq_of_mem_replicate (List.mem_of_getElem? hw')
end Go.Ce
namespace Go.Ce
open Go Go.Proofs Go.Proofs.Tryz
theorem zXD (v0:Value) (K:zAI) (W:CW):zAJ prog pkL none 83 8 (zAG prog 83) (Env.args [v0]) [] W K=(wV (zAL prog .eql 29 true v0 (.slice none 0 0)) fun v4=>wI v4 (K .ret (Env.of (Env.args [v0]) [(2,(.slice none 0 0)),(4,v4),(3,v0),(2,(.slice none 0 0))]) [] W) (wVW (bsl prog 29 0 [] W) fun v5 W0=>wVW (app prog [29,29] v5 v0 W0) fun v7 W1=>K .ret (Env.of (Env.args [v0]) [(2,v7),(7,v7),(6,v0),(5,v5),(4,v4),(3,v0),(2,(.slice none 0 0))]) [] W1)):=by kernel_rfl
theorem zLm (Q:Ending→CW→Prop) (e:Env) (W:CW):zAE prog Tryz.f83 Q .ret e [] W=Q (.returned (e 2)) W:=by kernel_rfl
theorem zXC {Q:Ending→CW→Prop} {v0:Value} {W:CW} (h:zAJ prog pkL none 83 8 (zAG prog 83) (Env.args [v0]) [] W (zAE prog Tryz.f83 Q)):WCall prog pkL 83 [v0] W Q:=zAM Tryz.func83 (by kernel_rfl) (by kernel_rfl) (by kernel_rfl) (by kernel_rfl) (by kernel_rfl) h
end Go.Ce
namespace Go.Ce
open Go Go.Proofs Go.Proofs.Tryz
theorem zWQ (n m:Nat):zAL prog .eql 29 true (.slice none n m) (.slice none 0 0)=some (.bool true):=by kernel_rfl
theorem zWP (a:Addr) (n m:Nat):zAL prog .eql 29 true (.slice (some a) n m) (.slice none 0 0)=some (.bool false):=by kernel_rfl
theorem zUU {W:CW} {a:Option Addr} {n cap:Nat} {l:List Int} (h:IsSl 1 (RKd W) (.slice a n cap) l):n=l.length∧(0<n→∃ p,a=some p∧Cells W p.block p.off (zAc l)):=by
 obtain ⟨a',cap',he,hx⟩:=h
 cases he
 refine ⟨rfl,fun hn=>?_⟩; obtain ⟨p,rfl,_⟩:=hx 0 l[0] (List.getElem?_eq_getElem hn); refine ⟨p,rfl,fun j v hj=>?_⟩; unfold zAc at hj; rw [List.getElem?_map,Option.map_eq_some_iff] at hj; obtain ⟨x,hj,rfl⟩:=hj; obtain ⟨p',e,h1⟩:=hx j x hj
 cases e
 have:W.cell p.block (p.off+j*1)=_:=h1; rw [Nat.mul_one] at this; exact this
def zUs (l:List Int) (W:CW):Ending→CW→Prop:=fun en W'=>Kp W W'∧Top W'∧∃ v,en=.returned v∧Own W' 5 1 v (zAc l)
theorem zPZ {W:CW} {v0:Value} {l:List Int} (ht:Top W) (h:IsSl 1 (RKd W) v0 l) (hl:l.length≤100000):WCall prog pkL 83 [v0] W (zUs l W):=by
 refine zXC ?_; rw [zXD]; obtain ⟨a,cap,rfl,hx⟩:=id h
 cases a with
 | none =>
  refine zAu (zWQ _ _) ?_; simp only [zAn]; rw [zLm]
  have:l=[]:=by
   cases l with
   | nil=>rfl
   | cons x l=>obtain ⟨p,e,_⟩:=hx 0 x rfl; cases e
  subst this; exact ⟨.refl _,ht,_,rfl,Own.nil⟩
 | some a =>
  refine zAu (zWP _ _ _) ?_; simp only [zAP]; refine zDV (zWY W) ?_; have kn:Kp W (W.new (.cells (Tr.nil.putFrom 0 []) 0 #[] 5)):=.new _; have tn:=ht.new (.cells (Tr.nil.putFrom 0 []) 0 #[] 5); have hBn:Blk (W.new (.cells (Tr.nil.putFrom 0 []) 0 #[] 5)) W.sz 5 []:=⟨_,0,_,by rw [zAp,if_pos rfl],rfl,fun k v hk=>by simp at hk⟩
  have hon:Own (W.new (.cells (Tr.nil.putFrom 0 []) 0 #[] 5)) 5 1 (.slice (some ⟨W.sz,0,none⟩) 0 0) (zAc []):=Own.some hBn rfl; generalize W.new (.cells (Tr.nil.putFrom 0 []) 0 #[] 5)=Wn at kn tn hon; obtain ⟨_,hsrc⟩:=zUU (h.imp fun _ _ _ hr=>kn.cell ht hr); refine zT3 (news:=zAc l) u29 zUR s5 z5 rfl (by omega) by5 (by omega) tn hon hsrc (zJN _) (by rw [zBz]; omega) (by rw [zBz]; simp only [List.length_nil]; omega) fun va W6 hp6 t6 o6 n6=>?_; have k6:Kp W W6:=hp6.kp kn (fun b l c e=>by cases e; exact Nat.le_refl _); rw [zLm]; exact ⟨k6,t6,va,rfl,o6⟩
theorem zSR {W:CW} {v0:Value} {c:List Shp} {s:ByteArray} {i:Nat} (ht:Top W) (hc:IsSl 5 (RShp W) v0 c) (hC:Cat c) (hok:zA9 c=true) (hi:zBQ c s=some i):WCall prog pkL 26 [v0,.string s] W (fun en W'=>Kp W W'∧Top W'∧∃ v,en=.returned (.tuple #[v,.int .i64 0])∧Own W' 5 1 v (zAc (zAj c i))):=by
 refine zXv ?_; rw [zXw]; refine (zHd ht hc hC).mono fun en W1 ⟨k1,t1,r1,r2,hen,hr1,hr2,hcat⟩=>?_; subst hen; refine zAY ?_; refine zAu (zBF _ _) ?_; refine zAu (zBE _ _) ?_; unfold zI2; refine zBx (ws:=[.map (some r1),.map (some r2)]) z78 s78 rfl rfl rfl t1 fun W3 k3 t3 z3 hB6=>?_; have k03:=k1.trans k3; simp only [zAR,zAA,hok,Bool.not_true,zAP]; have hcat3:=(hcat hok).kp t1 k3; simp only [zDL,zAA]; rw [zAB a75 (a:=⟨W1.sz,0,none⟩) (hB6.cell rfl)]; simp only [zAA]; obtain ⟨ws,hl1,hwl,hwo,_⟩:=zLI hcat3.sh s; rw [hl1]; simp only [zAA,zBF,zBE]; refine zBx (ws:=ws) zYN zYR rfl hwo hwl t3 fun W5 k5 t5 z5' hB8=>?_; simp only [hi,Option.isSome_some,zAR,zAA,Bool.not_true,zAP,zD6]; have hB6':=hB6.ext t3 k5; rw [zAB a76 (a:=⟨W1.sz,0+1,none⟩) (hB6'.cell rfl)]; simp only [zAA]; obtain ⟨a,cap,hl2,hr⟩:=(hcat3.kp t3 k5).rw.some hi; rw [hl2]; simp only [zAA]; have hil:=(zIj hok (zCF hi)).1; refine (zPZ t5 hr (by omega)).mono fun en W6 ⟨k6,t6,v,hen,ho⟩=>?_; subst hen; refine zAY ?_; rw [zRJ]; exact ⟨(k03.trans k5).trans k6,t6,v,rfl,ho⟩
end Go.Ce
namespace Go.Ce
open Go Go.Proofs Go.Proofs.Tryz
theorem zI9 {P:Program} {α:Type} {R:Nat→Nat→α→Prop} {t el:TypeId} {n:Nat} {v:Value} {l:List α} (u:P.underlying t=some (.slice el)) (h:IsSl n R v l) (W:CW):zAm P t v W=some (.int .i64 l.length):=by
 obtain ⟨a,cap,rfl,_⟩:=h; exact zAT u _ _ _ _
theorem zE7 {W:CW} {v:Value} {xs:List Thg} (h:IsSl 2 (RThg W) v xs) {i:Nat} {x:Thg} (hx:xs[i]?=some x):∃ q p0 p1 vv,iad prog 24 v (.int .i64 i)=some q∧fad prog 56 q 0=some p0∧fad prog 56 q 1=some p1∧ld prog 9 p0 W=some (.string x.type)∧ld prog 40 p1 W=some vv∧IsSl 1 (RInt W) vv x.vals:=by
 obtain ⟨a,cap,rfl,hc⟩:=h; obtain ⟨p,rfl,hr⟩:=hc i x hx; obtain ⟨vv,h1,h2⟩:=hr.vals; exact ⟨_,_,_,vv,zAb u24 s56 (List.getElem?_eq_some_iff.1 hx).1,zCU _,zCH _,zAB a9 (a:=⟨p.block,p.off+i*2,none⟩) hr.type,zAB a40 (a:=⟨p.block,p.off+i*2+1,none⟩) h1,h2⟩
theorem zKF {W:CW} {v:Value} {xs:List Int} (h:IsSl 1 (RInt W) v xs) {i:Nat} {x:Int} (hx:xs[i]?=some x):∃ q,iad prog 40 v (.int .i64 i)=some q∧ld prog 3 q W=some (.int .i64 x):=by
 obtain ⟨a,cap,rfl,hc⟩:=h; obtain ⟨p,rfl,hr⟩:=hc i x hx; exact ⟨_,zAb u40 s3 (List.getElem?_eq_some_iff.1 hx).1,zAB a3 (a:=⟨p.block,p.off+i*1,none⟩) hr.1⟩
theorem zNo {W:CW} {v:Value} {xs:List Spc} (h:IsSl 3 (RSpc W) v xs) {i:Nat} {x:Spc} (hx:xs[i]?=some x):∃ q p0 p2 vv,iad prog 23 v (.int .i64 i)=some q∧fad prog 58 q 0=some p0∧fad prog 58 q 2=some p2∧ld prog 9 p0 W=some (.string x.type)∧ld prog 40 p2 W=some vv∧IsSl 1 (RInt W) vv x.map:=by
 obtain ⟨a,cap,rfl,hc⟩:=h; obtain ⟨p,rfl,hr⟩:=hc i x hx; obtain ⟨vv,h1,h2,_⟩:=hr.map; exact ⟨_,_,_,vv,zAb u23 s58 (List.getElem?_eq_some_iff.1 hx).1,zEs _,zFk _,zAB a9 (a:=⟨p.block,p.off+i*3,none⟩) hr.type,zAB a40 (a:=⟨p.block,p.off+i*3+2,none⟩) h1,h2⟩
theorem zUV {W:CW} {v:Value} {l:List Int} (h:Own W 5 1 v (zAc l)) {i:Nat} {x:Int} (hx:l[i]?=some x):∃ q,iad prog 29 v (.int .i64 i)=some q∧ld prog 5 q W=some (.int .u8 x):=by
 have hl:=zBz l; have hk:(zAc l)[i]?=some (.int .u8 x):=by unfold zAc; rw [List.getElem?_map,hx]; rfl
 generalize zAc l=cs at h hl hk
 cases h with
 | nil=>simp at hk
 | @some b len _ hB hl2 =>
  have hil:=(List.getElem?_eq_some_iff.1 hk).1; refine ⟨_,zAb u29 s5 (by omega),zAB a5 (a:=⟨b,0+i*1,none⟩) (hB.cell ?_)⟩; rw [show 0+i*1=i by omega]; exact hk
def wrL (mp:List Int) (n:Nat):List Value:=(List.range n).map fun k=>Value.bool (decide (((k:Nat):Int) ∈ mp))
theorem zHn (mp:List Int) (n:Nat):(wrL mp n).length=n:=by simp [wrL]
theorem zMV (mp:List Int) {n k:Nat} (h:k<n):(wrL mp n)[k]?=some (.bool (decide (((k:Nat):Int) ∈ mp))):=by simp [wrL,h]
theorem zTy (n:Nat):wrL [] n=List.replicate n (.bool false):=by
 rw [List.eq_replicate_iff]; refine ⟨zHn _ _,fun x hx=>?_⟩; obtain ⟨k,_,rfl⟩:=List.mem_map.1 hx; rfl
theorem zTx {mp:List Int} {n:Nat} {m:Int} (h0:0≤m) (hm:m.toNat<n):zDz (wrL mp n) (0+m.toNat*1) [.bool true]=wrL (mp++[m]) n:=by
 apply List.ext_getElem?; intro k; rw [zDq (by rw [zHn]; simp only [List.length_singleton]; omega)]
 by_cases hk:k<n
 ·rw [zMV _ hk,zMV _ hk]
  by_cases e:k=m.toNat
  ·subst e; rw [if_pos (by simp only [List.length_singleton]; omega)]; rw [show m.toNat-(0+m.toNat*1)=0 by omega]; show some (Value.bool true)=_; rw [decide_eq_true]; rw [List.mem_append]; right; rw [List.mem_singleton]; omega
  ·rw [if_neg (by simp only [List.length_singleton]; omega)]; congr 2
   have:(((k:Nat):Int) ∈ mp++[m])↔((k:Nat):Int) ∈ mp:=by
    rw [List.mem_append,List.mem_singleton]
    constructor
    ·rintro (h | h)
     ·exact h
     ·omega
    ·exact .inl
   simp only [this]
 ·rw [if_neg (by simp only [List.length_singleton]; omega),List.getElem?_eq_none (by rw [zHn]; omega),List.getElem?_eq_none (by rw [zHn]; omega)]
theorem u60:prog.underlying 60=some (.slice 4):=by kernel_rfl
theorem by4:(prog.info? 4).map (·.bytes)=some 1:=by kernel_rfl
theorem zTw {W:CW} {b:Nat} {mp:List Int} {n k:Nat} (hB:Blk W b 4 (wrL mp n)) (hk:k<n):iad prog 60 (.slice (some ⟨b,0,none⟩) n n) (.int .i64 k)=some (.pointer (some ⟨b,0+k*1,none⟩))∧ld prog 4 (.pointer (some ⟨b,0+k*1,none⟩)) W=some (.bool (decide (((k:Nat):Int) ∈ mp))):=by
 refine ⟨zAb u60 s4 hk,zAB a4 (a:=⟨b,0+k*1,none⟩) (hB.cell ?_)⟩; rw [show 0+k*1=k by omega]; exact zMV mp hk
structure SIn (A:CW) (v0 v1 v2 v:Value) (c:List Shp) (l:List Spc) (h:List Thg) (root:Int) (x y:Thg) (rest:List Thg):Prop where
 top:Top A
 cat:IsSl 5 (RShp A) v0 c
 hC:Cat c
 ok:zA9 c=true
 spc:IsSl 3 (RSpc A) v1 l
 sp:zAq c l=true
 hp:IsSl 2 (RThg A) v2 h
 hx:h[(root-1).toNat]?=some x
 r1:1≤root
 r2:root≤100000
 rd:IsSl 2 (RThg A) v (y::rest)
 rr:RootRead c l x y
 xl:x.vals.length≤100000
 ml:∀ s,s ∈ l→s.map.length<100000
 ll:l.length<100000
structure SE (e:Env) (v0 v1 v2 v:Value) (root:Int) (i:Nat):Prop where
 e0:e 0=v0
 e1:e 1=v1
 e2:e 2=v2
 e3:e 3=.int .i64 root
 e11:e 11=v
 e14:e 14=.int .i64 i
end Go.Ce
namespace Go.Ce
open Go Go.Proofs Go.Proofs.Tryz
theorem zS5 {A W:CW} {K:zAI} {e:Env} {v0 v1 v2 v vr:Value} {c:List Shp} {l:List Spc} {h:List Thg} {root:Int} {x y:Thg} {rest:List Thg} {bw i n:Nat} {s:Spc} (I:SIn A v0 v1 v2 v c l h root x y rest) (hs:l[i]?=some s) (E:SE e v0 v1 v2 v root i) (kA:Kp A W) (t:Top W) (hb:A.sz≤bw) (hB:Blk W bw 4 (wrL [] n)) (hin:∀ m,m ∈ s.map→0≤m∧m.toNat<n)
  (g15:e 15=vr) (g17:e 17=.slice (some ⟨bw,0,none⟩) n n) (g18:e 18=.int .i64 0)
  (hend:∀ e' W',Chg (·=bw) W W'→Top W'→Blk W' bw 4 (wrL s.map n)→SE e' v0 v1 v2 v root i→e' 15=vr→e' 17=.slice (some ⟨bw,0,none⟩) n n→K (.exit 2) e' [] W') :
  zCg prog pkL none 8 239 (.loop (zAS prog 8 1)) e [] W K:=by
 have hml:=I.ml s (List.mem_of_getElem? hs)
 refine zCX (fun j e' ds' W'=>ds'=[]∧Chg (·=bw) W W'∧Top W'∧Blk W' bw 4 (wrL (s.map.take j) n)∧SE e' v0 v1 v2 v root i∧e' 15=vr∧e' 17=.slice (some ⟨bw,0,none⟩) n n∧e' 18=.int .i64 j) s.map.length
  ⟨rfl,Chg.refl _ _,t,by rw [List.take_zero]; exact hB,E,g15,g17,g18⟩ ?_
 rintro j e' ds' W' hj ⟨rfl,hc,t',hB',E',h15,h17,h18⟩; have kA':Kp A W':=hc.kp kA fun q hq=>by have:q=bw:=hq; omega
 obtain ⟨q,p0,p2,vv,r1,r2,r3,r4,r5,r6⟩:=zNo (I.spc.imp fun _ _ _ hr=>hr.kp I.top kA') hs; rw [zW8,E'.e1,E'.e14,h17,h18,r1]; simp only [zAA]; rw [r3]; simp only [zAA]; rw [r5]; simp only [zAA]; rw [zI9 u40 r6]; simp only [zAA,zAZ]
 refine zGZ (fun hlt=>?_) (fun hge=>?_)
 ·have hm:=List.getElem?_eq_getElem hlt; obtain ⟨m0,m1⟩:=hin _ (List.mem_of_getElem? hm); obtain ⟨qi,i1,i2⟩:=zKF r6 hm; rw [i1]; simp only [zAA]; rw [i2]; simp only [zAA]; rw [show (Value.int .i64 s.map[j])=.int .i64 ((s.map[j].toNat:Nat):Int) by congr 1; omega,zAb u60 s4 m1]; simp only [zAA]; refine zAX s4 (a:=⟨bw,0+s.map[j].toNat*1,none⟩) (v:=.bool true) rfl hB' (by rw [zHn]; show 0+s.map[j].toNat*1<n; omega) fun W2 hu hB2=>?_; have hu:Upd bw W' W2:=hu; have hbl:=hB'.lt t'; have t2:=t'.upd hbl hu; simp only [zTe,qKn,qKr,qKx,qKp,bKn,bKr,bKp,bKx,tKn,tKr,tKx,tKp,zKn,zKr,zKx,zKp]; simp only [eKc,eKn,eKa,Nat.reduceEqDiff,↓reduceIte,gKz,gKs,dKs,and_self,h18,zAW,zAA,qKn,qKr,qKx,qKp,bKn,bKr,bKp,bKx,tKn,tKr,tKx,tKp,zKn,zKr,zKx,zKp]; refine ⟨hlt,trivial,hc.then hu.chg (fun q _ hq=>hq),t2,?_,⟨E'.e0,E'.e1,E'.e2,E'.e3,E'.e11,E'.e14⟩,h15,h17,by rw [zCT (by omega)]⟩; have hB2:Blk W2 bw 4 (zDz (wrL (s.map.take j) n) (0+s.map[j].toNat*1) [.bool true]):=hB2; rw [zTx m0 m1] at hB2; rw [List.take_add_one,hm]; exact hB2
 ·have:j=s.map.length:=by omega
  subst this; rw [List.take_length] at hB'; simp only [qKn,qKr,qKx,qKp,bKn,bKr,bKp,bKx,tKn,tKr,tKx,tKp,zKn,zKr,zKx,zKp]; exact hend _ W' hc t' hB' ⟨E'.e0,E'.e1,E'.e2,E'.e3,E'.e11,E'.e14⟩ h15 h17
theorem zYn (a b:Bool):zAL prog .neq 4 false (.bool a) (.bool b)=some (.bool (a != b)):=by cases a <;> cases b <;> kernel_rfl
theorem zMs {W:CW} {v:Value} {l:List Int} (h:Own W 5 1 v (zAc l)) (W':CW):zAm prog 29 v W'=some (.int .i64 l.length):=zEK u29 h (by omega) (by rw [zBz]; omega)
theorem zS4 {A W:CW} {K:zAI} {e:Env} {v0 v1 v2 v vr:Value} {c:List Shp} {l:List Spc} {h:List Thg} {root:Int} {x y:Thg} {rest:List Thg} {bw i t:Nat} {s:Spc} (I:SIn A v0 v1 v2 v c l h root x y rest) (hs:l[i]?=some s) (hst:s.type=x.type) (hti:zBQ c s.type=some t) (E:SE e v0 v1 v2 v root i) (kA:Kp A W) (ht:Top W) (hB:Blk W bw 4 (wrL s.map (zAj c t).length)) (hR:Own W 5 1 vr (zAc (zAj c t)))
  (g15:e 15=vr) (g17:e 17=.slice (some ⟨bw,0,none⟩) (zAj c t).length (zAj c t).length) (g19:e 19=.int .i64 0)
  (hend:∀ e',SE e' v0 v1 v2 v root i→K (.exit 4) e' [] W) :
  zCg prog pkL none 8 239 (.loop (zAS prog 8 2)) e [] W K:=by
 obtain ⟨hn,hin,hval⟩:=I.rr.spc s t (List.mem_of_getElem? hs) hst hti; have hyl:=I.rr.len; have hxl:=I.xl
 refine zCX (fun k e' ds' W'=>ds'=[]∧W'=W∧SE e' v0 v1 v2 v root i∧e' 15=vr∧e' 17=.slice (some ⟨bw,0,none⟩) (zAj c t).length (zAj c t).length∧e' 19=.int .i64 k) (zAj c t).length
  ⟨rfl,rfl,E,g15,g17,g19⟩ ?_
 rintro k e' ds' W' hk ⟨rfl,rfl,E',h15,h17,h19⟩
 have next:k<(zAj c t).length→∀ e2:Env,e2 237=.bool false→SE e2 v0 v1 v2 v root i→e2 15=vr→e2 17=.slice (some ⟨bw,0,none⟩) (zAj c t).length (zAj c t).length→e2 19=.int .i64 k→(zBu none (zJQ (fun k e' ds' W''=>ds'=[]∧W''=W'∧SE e' v0 v1 v2 v root i∧e' 15=vr∧e' 17=.slice (some ⟨bw,0,none⟩) (zAj c t).length (zAj c t).length∧e' 19=.int .i64 k) k (zAj c t).length K)) .normal e2 [] W':=by
  intro hlt e2 q237 E2 q15 q17 q19; simp only [zBu,qKn,qKr,qKx,qKp,bKn,bKr,bKp,bKx,tKn,tKr,tKx,tKp,zKn,zKr,zKx,zKp,q237,zAP]; simp only [zOG,qKn,qKr,qKx,qKp,bKn,bKr,bKp,bKx,tKn,tKr,tKx,tKp,zKn,zKr,zKx,zKp,q19,zAW,zAA]; refine ⟨hlt,trivial,trivial,⟨E2.e0,E2.e1,E2.e2,E2.e3,E2.e11,E2.e14⟩,q15,q17,?_⟩; simp only [eKc,eKn,eKa,Nat.reduceEqDiff,↓reduceIte,gKz,gKs,dKs,and_self]; rw [zCT (by omega)]
 rw [zW7,E'.e2,E'.e3,E'.e11,h15,h17,h19,zMs hR]; simp only [zAA,zAZ]
 refine zGZ (fun hlt=>?_) (fun hge=>?_)
 ·rw [show k=k from rfl]; have hr1:=I.r1; have hr2:=I.r2; have hxk:=List.getElem?_eq_getElem (show k<x.vals.length by omega); have hyk:=List.getElem?_eq_getElem (show k<y.vals.length by omega); have hkd:=List.getElem?_eq_getElem hlt; have hfact:=hval k _ _ _ hxk hyk hkd; have hk12:=(zIj I.ok (zCF hti)).2 k _ hkd; generalize x.vals[k]=xv at hxk hfact; generalize y.vals[k]=yv at hyk hfact; generalize (zAj c t)[k]=kd at hkd hfact hk12; obtain ⟨qx,px0,px1,vx,x1,x2,x3,x4,x5,x6⟩:=zE7 (I.hp.imp fun _ _ _ hr=>hr.kp I.top kA) I.hx; obtain ⟨qi,i1,i2⟩:=zKF x6 hxk; obtain ⟨qy,py0,py1,vy,y1,y2,y3,y4,y5,y6⟩:=zE7 (i:=0) (x:=y) (I.rd.imp fun _ _ _ hr=>hr.kp I.top kA) rfl; obtain ⟨qj,j1,j2⟩:=zKF y6 hyk; obtain ⟨qk,k1,k2⟩:=zUV hR hkd; obtain ⟨w1,w2⟩:=zTw hB hlt
  have hroot:zAL prog .sub 3 true (.int .i64 root) (.int .i64 1)=some (.int .i64 (((root-1).toNat:Nat):Int)):=by
   rw [zCD,zBU (by omega) (by omega)]; congr 2; omega
  have y1:iad prog 24 v (.int .i64 0)=some qy:=y1; simp only [hroot,zAA,x1,x3,x5,i1,i2,w1,w2,y1,y3,y5,j1,j2,k1,k2,zAR,zBW,zAz,zYn]; have E2:∀ (ps:List (Tmp × Value)),SE (Env.of e' ps) v0 v1 v2 v root i→SE (Env.of e' ps) v0 v1 v2 v root i:=fun _ h=>h
  by_cases hw:((k:Nat):Int) ∈ s.map
  ·rw [if_pos hw] at hfact; simp only [decide_eq_true hw,Bool.not_true,zAP,zAn]
   rcases hk12 with rfl | rfl
   ·have:yv=xv:=hfact.1 rfl; subst this; simp only [show ((1:Int) == 1)=true from rfl,show ((1:Int) == 2)=false from rfl,zAn,zAP,bne_self_eq_false]; exact next hlt _ rfl ⟨E'.e0,E'.e1,E'.e2,E'.e3,E'.e11,E'.e14⟩ h15 h17 h19
   ·have hiff:=hfact.2 rfl; simp only [show ((2:Int) == 1)=false from rfl,show ((2:Int) == 2)=true from rfl,zAn,zAP]
    have hb:((xv == 0) != (yv == 0))=false:=by
     by_cases hz:xv=0
     ·have:=hiff.1 hz; subst hz this; rfl
     ·have:yv≠0:=fun h=>hz (hiff.2 h); have h1:(xv == 0)=false:=by simpa using hz
      have h2:(yv == 0)=false:=by simpa using this
      rw [h1,h2]; rfl
    rw [hb]; exact next hlt _ rfl ⟨E'.e0,E'.e1,E'.e2,E'.e3,E'.e11,E'.e14⟩ h15 h17 h19
  ·rw [if_neg hw] at hfact; subst hfact; simp only [decide_eq_false hw,Bool.not_false,zAP,zAn,bne_self_eq_false]; exact next hlt _ rfl ⟨E'.e0,E'.e1,E'.e2,E'.e3,E'.e11,E'.e14⟩ h15 h17 h19
 ·simp only [qKn,qKr,qKx,qKp,bKn,bKr,bKp,bKx,tKn,tKr,tKx,tKp,zKn,zKr,zKx,zKp]; exact hend _ ⟨E'.e0,E'.e1,E'.e2,E'.e3,E'.e11,E'.e14⟩
end Go.Ce
namespace Go.Ce
open Go Go.Proofs Go.Proofs.Tryz
theorem zS6 {A W:CW} {K:zAI} {e:Env} {v0 v1 v2 v:Value} {c:List Shp} {l:List Spc} {h:List Thg} {root:Int} {x y:Thg} {rest:List Thg} (I:SIn A v0 v1 v2 v c l h root x y rest) (E:SE e v0 v1 v2 v root 0) (kA:Kp A W) (ht:Top W)
  (hend:∀ e' W',Top W'→K (.exit 0) e' [] W') :
  zCg prog pkL none 8 239 (.loop (zAS prog 8 0)) e [] W K:=by
 have hll:=I.ll; refine zCX (fun i e' ds' W'=>ds'=[]∧Kp A W'∧Top W'∧SE e' v0 v1 v2 v root i) l.length ⟨rfl,kA,ht,E⟩ ?_; rintro i e' ds' W' hi ⟨rfl,kA',t',E'⟩
 have next:i<l.length→∀ (e2:Env) W2,Kp A W2→Top W2→SE e2 v0 v1 v2 v root i→(zIO none (zJQ (fun i e' ds' W'=>ds'=[]∧Kp A W'∧Top W'∧SE e' v0 v1 v2 v root i) i l.length K)) .normal e2 [] W2:=by
  intro hlt e2 W2 k2 t2 E2; simp only [zIO,qKn,qKr,qKx,qKp,bKn,bKr,bKp,bKx,tKn,tKr,tKx,tKp,zKn,zKr,zKx,zKp,E2.e14,zAW,zAA]; refine ⟨hlt,trivial,k2,t2,⟨E2.e0,E2.e1,E2.e2,E2.e3,E2.e11,?_⟩⟩; simp only [eKc,eKn,eKa,Nat.reduceEqDiff,↓reduceIte,gKz,gKs,dKs,and_self]; rw [zCT (by omega)]
 rw [zW9,E'.e0,E'.e1,E'.e11,E'.e14,zI9 u23 (I.spc.imp fun _ _ _ hr=>hr.kp I.top kA')]; simp only [zAA,zAZ]
 refine zGZ (fun hlt=>?_) (fun hge=>?_)
 ·have hs:=List.getElem?_eq_getElem hlt; generalize l[i]=s at hs; have hsm:=List.mem_of_getElem? hs; obtain ⟨q,p0,p2,vv,r1,r2,r3,r4,r5,r6⟩:=zNo (I.spc.imp fun _ _ _ hr=>hr.kp I.top kA') hs; obtain ⟨qy,py0,py1,vy,y1,y2,y3,y4,y5,y6⟩:=zE7 (i:=0) (x:=y) (I.rd.imp fun _ _ _ hr=>hr.kp I.top kA') rfl; have y1:iad prog 24 v (.int .i64 0)=some qy:=y1; simp only [zAA,r1,r2,r4,y1,y2,y4,zIi,zG7]; refine ⟨by simp only [and_self],?_⟩
  by_cases hty:s.type=y.type
  ·have hst:s.type=x.type:=hty.trans I.rr.type; obtain ⟨j,hj⟩:=List.getElem?_of_mem hsm; obtain ⟨t,a,S⟩:=zLE I.sp hj; obtain ⟨hn,hin,hval⟩:=I.rr.spc s t hsm hst S.ti; have hyl:=I.rr.len; have hxl:=I.xl; simp only [hty,decide_true,Bool.not_true,zAP]; rw [←hty]; refine ⟨trivial,?_⟩; refine (zSR t' (I.cat.imp fun _ _ _ hr=>hr.kp I.top kA') I.hC I.ok S.ti).mono fun en W6 ⟨k6,t6,vr,hen,hR⟩=>?_; subst hen; have kA6:=kA'.trans k6; refine zAY ?_; refine zAu (zBF _ _) ?_; refine zAu (zBE _ _) ?_; obtain ⟨qz,pz0,pz1,vz,z1,z2,z3,z4,z5,z6⟩:=zE7 (i:=0) (x:=y) (I.rd.imp fun _ _ _ hr=>hr.kp I.top kA6) rfl; have z1:iad prog 24 v (.int .i64 0)=some qz:=z1; have hqz:qy=qz:=Option.some.inj (y1.symm.trans z1); subst hqz; have hz0:((0:Int) != 0)=false:=rfl; simp only [zBW,zAA,hz0,zAP]; rw [zMs hR]; simp only [zAA,z1,z3,z5]; rw [zI9 u40 z6]; simp only [zAA,zBW]; rw [show (((zAj c t).length:Int) != (y.vals.length:Int))=false by simp; omega]; simp only [zQ1,qKn,qKr,qKx,qKp,bKn,bKr,bKp,bKx,tKn,tKr,tKx,tKp,zKn,zKr,zKx,zKp]; simp only [eKc,eKn,eKa,Nat.reduceEqDiff,↓reduceIte,gKz,gKs,dKs,and_self,zAP]; simp only [zOH,qKn,qKr,qKx,qKp,bKn,bKr,bKp,bKx,tKn,tKr,tKx,tKp,zKn,zKr,zKx,zKp]; simp only [eKc,eKn,eKa,Nat.reduceEqDiff,↓reduceIte,gKz,gKs,dKs,and_self]; rw [zMs hR]; simp only [zAA]; refine zT2 u60 s4 Go.Ce.z4 rfl by4 (by omega) (by omega) t6 fun W7 k7 t7 zz hB7=>?_; have kA7:=kA6.trans k7; have hB7:Blk W7 W6.sz 4 (wrL [] (zAj c t).length):=by rw [zTy]; exact hB7
   refine zS5 (vr:=vr) (n:=(zAj c t).length) I hs ⟨E'.e0,E'.e1,E'.e2,E'.e3,E'.e11,E'.e14⟩ kA7 t7 kA6.sz hB7 (fun m hm=>by have:=hin m hm; omega) rfl rfl rfl fun e2 W8 hc8 t8 hB8 E8 g15 g17=>?_
   have hR8:Own W8 5 1 vr (zAc (zAj c t)):=zIv hR fun q hq=>by
    have:=zH7 t6 hR hq; rw [hc8.obj q (by have:=k7.sz; omega) (by omega),k7.obj q this]
   have kA8:Kp A W8:=hc8.kp kA7 fun q hq=>by have:q=W6.sz:=hq; have:=kA6.sz; omega
   simp only [qKn,qKr,qKx,qKp,bKn,bKr,bKp,bKx,tKn,tKr,tKx,tKp,zKn,zKr,zKx,zKp,zTf,if_true]; refine zS4 (vr:=vr) I hs hst S.ti ⟨E8.e0,E8.e1,E8.e2,E8.e3,E8.e11,E8.e14⟩ kA8 t8 hB8 hR8 g15 g17 rfl fun e3 E3=>?_; simp only [qKn,qKr,qKx,qKp,bKn,bKr,bKp,bKx,tKn,tKr,tKx,tKp,zKn,zKr,zKx,zKp,if_true]; exact next hlt _ W8 kA8 t8 E3
  ·simp only [hty,decide_false,Bool.not_false,zAn]; refine ⟨trivial,?_⟩; exact next hlt _ W' kA' t' ⟨E'.e0,E'.e1,E'.e2,E'.e3,E'.e11,E'.e14⟩
 ·simp only [qKn,qKr,qKx,qKp,bKn,bKr,bKp,bKx,tKn,tKr,tKx,tKp,zKn,zKr,zKx,zKp]; exact hend _ W' t'
theorem zOi {c:List Shp} {l:List Spc} {h:List Thg} {root:Int}:(∃ e:Int,e≠0∧zCK c l h root=([],e))∨(zKt c l h root=0∧zKu l h (zAd c l h root)=false∧zCK c l h root=(zC2 c l h (zAd c l h root),0)):=by
 unfold zCK
 by_cases h1:zKt c l h root≠0
 ·exact .inl ⟨_,h1,by rw [if_pos h1]⟩
 ·rw [if_neg h1]
  by_cases h2:zKu l h (zAd c l h root)=true
  ·exact .inl ⟨214,by decide,by rw [if_pos h2]⟩
  ·exact .inr ⟨by simpa using h1,by simpa using h2,by rw [if_neg h2]⟩
theorem zSL {s:ByteArray} (h:zDh s=true):(zDy s).length≤61:=by
 unfold zDh at h; simp only [Bool.and_eq_true,decide_eq_true_eq] at h; unfold zDy; rw [List.length_append,zKC (by omega)]
 have:(zEN s).length=s.size:=by
  unfold zEN; rw [List.length_map,zFx]
 rw [this]; simp only [List.length_singleton]; omega
theorem zP4:∀ ts:List ByteArray,(∀ s,s ∈ ts→zDh s=true)→(ts.flatMap zDy).length≤ts.length*61
 | [],_=>Nat.le_refl _
 | s::ts,h=>by
  rw [List.flatMap_cons,List.length_append,List.length_cons]; have h1:=zSL (h s (by simp)); have h2:=zP4 ts fun x hx=>h x (by simp [hx]); omega
theorem zPm {c:List Shp} {l:List Spc} {h:List Thg} {root:Int} {b:List UInt8} (hz:zKt c l h root=0) (h40:h.length≤40) (hw:zCK c l h root=(zC2 c l h (zAd c l h root),0)) (B:Wrote c l h root b (zBr l (zAF h (zAd c l h root))) (zDR c l h (zAd c l h root))):b.length≤100000:=by
 obtain ⟨hok,hs,hthi,hr0,hr1⟩:=zDS hz; obtain ⟨_,hth⟩:=zDl hthi; obtain ⟨_,_,hF,_⟩:=zHl hz h40
 have he:bI b=zC2 c l h (zAd c l h root):=by
  have:=B.wr; rw [hw] at this; exact (Prod.mk.inj this).1.symm
 have hts:=B.can.sym; have hl:=zFX b; rw [he] at hl; unfold zC2 at hl; have hol:=hF.len; have h1:=zES l (zAF h (zAd c l h root)) []; have h2:=zCn h (zAd c l h root)
 have htl:(zBr l (zAF h (zAd c l h root))).length≤40:=by
  unfold zBr; simp only [List.length_nil] at h1; omega
 generalize zBr l (zAF h (zAd c l h root))=ts at hl hts htl
 have h3:=zGh (l:=l) (t:=ts) (o:=zAd c l h root) (n:=h.length) hok (by omega) (by omega) (zAF h (zAd c l h root)) fun x hx=>zA2 hs (hth x (by
  unfold zAF at hx; obtain ⟨v,_,hv⟩:=List.mem_flatMap.1 hx
  cases hg:h[(v-1).toNat]? with
  | none=>rw [hg] at hv; cases hv
  | some y=>rw [hg] at hv; rw [List.mem_singleton.1 hv]; exact List.mem_of_getElem? hg))
 have h4:=zP4 ts fun s hs=>(hts s hs).1; rw [zKC (show ts.length<128 by omega),zKC (show (zAd c l h root).length<128 by omega)] at hl; simp only [List.length_append,List.length_singleton] at hl; have h5:(zAF h (zAd c l h root)).length*1616≤40*1616:=Nat.mul_le_mul_right _ (by omega); omega
theorem zJ4 {W:CW} {v0 v1 v2:Value} {c:List Shp} {l:List Spc} {h:List Thg} {root:Int} (A:PkArgs W v0 v1 v2 c l h):WCall prog pkL 8 [v0,v1,v2,.int .i64 root] W zTv:=by
 refine zYq ?_; rw [zYr]; generalize hKK:zAE prog Tryz.f8 zTv=KK
 have hret:∀ (e:Env) W',e 8=.bool true→KK .ret e [] W':=by
  intro e W' h8; rw [←hKK,zS7,h8]; rfl
 have skip:∀ (e:Env),e 33=.bool true→(zGJ none KK) .normal e [] W:=by
  intro e h33; simp only [zGJ,qKn,qKr,qKx,qKp,bKn,bKr,bKp,bKx,tKn,tKr,tKx,tKp,zKn,zKr,zKx,zKp,h33,zAn]; refine zFb zUS zQe ?_; refine zAY ?_; simp only [zJV,qKn,qKr,qKx,qKp,bKn,bKr,bKp,bKx,tKn,tKr,tKx,tKp,zKn,zKr,zKx,zKp]; exact hret _ W rfl
 have skip2:∀ (e:Env) W',e 48=.bool true→(zLk none KK) .normal e [] W':=by
  intro e W' h48; simp only [zLk,qKn,qKr,qKx,qKp,bKn,bKr,bKp,bKx,tKn,tKr,tKx,tKp,zKn,zKr,zKx,zKp,h48,zAn]; refine zFb zUS zQe ?_; refine zAY ?_; simp only [zPK,zND,zQ0,qKn,qKr,qKx,qKp,bKn,bKr,bKp,bKx,tKn,tKr,tKx,tKp,zKn,zKr,zKx,zKp]; exact hret _ W' rfl
 refine (zMh A.cat).mono fun en W1 ⟨hW,b13,he,hb13⟩=>?_; subst hW; subst he; refine zAY ?_; simp only [zAR,zAA]
 cases b13 with
 | false=>exact skip _ rfl
 | true =>
  simp only [Bool.not_true,zAP]; refine (zJ5 A.spc).mono fun en W2 ⟨hW,b14,he,hb14⟩=>?_; subst hW; subst he; refine zAY ?_; simp only [zAR,zAA]
  cases b14 with
  | false=>exact skip _ rfl
  | true =>
   simp only [Bool.not_true,zAP]; refine (zMf A.hp A.hlm).mono fun en W3 ⟨hW,b15,he,hb15⟩=>?_; subst hW; subst he; refine zAY ?_; simp only [zAR,zAA]
   cases b15 with
   | false=>exact skip _ rfl
   | true =>
    obtain ⟨c1,c2⟩:=hb13 rfl; obtain ⟨l1,l2⟩:=hb14 rfl; obtain ⟨t1,t2,t3⟩:=hb15 rfl; have hC:=zWV c1 c2; simp only [zGJ,qKn,qKr,qKx,qKp,bKn,bKr,bKp,bKx,tKn,tKr,tKx,tKp,zKn,zKr,zKx,zKp]; simp only [eKc,eKn,eKa,Nat.reduceEqDiff,↓reduceIte,gKz,gKs,dKs,and_self,Bool.not_true,zAP]; simp only [zJV,qKn,qKr,qKx,qKp,bKn,bKr,bKp,bKx,tKn,tKr,tKx,tKp,zKn,zKr,zKx,zKp]; simp only [eKc,eKn,eKa,Nat.reduceEqDiff,↓reduceIte,gKz,gKs,dKs,and_self]; refine (zOj A.top A.cat hC A.spc (by omega) (fun s hs=>by have:=l2 s hs; omega) A.hp (by omega) (t1.imp_right .inl) (fun x hx=>by have:=t3 x hx; omega)).mono fun en W4 ⟨k4,t4,v17,he,ho17⟩=>?_; subst he; refine zAY ?_; refine zAu (zBF _ _) ?_; refine zAu (zBE _ _) ?_
    rcases zOi (c:=c) (l:=l) (h:=h) (root:=root) with ⟨x,hx,hw⟩ | ⟨hz,hbad,hw⟩
    ·rw [hw]; simp only [zBW,zAA,show (x != 0)=true by simpa using hx,zAn]; exact skip2 _ _ rfl
    ·have hz0:((0:Int) != 0)=false:=rfl
     have h40:h.length≤40:=by
      have:=(zDl (zDS hz).2.2.1).1; omega
     obtain ⟨b,B⟩:=zR1 hz h40 hw; rw [B.wr] at ho17 ⊢; have hbs:=zU8 ho17; simp only [zBW,zAA,hz0,zAP,zAz]
     by_cases hr0:root=0
     ·exact skip2 _ _ (by show Value.bool (root == 0)=_; rw [hr0]; rfl)
     ·rw [show (root == 0)=false by simpa using hr0]; simp only [zLk,qKn,qKr,qKx,qKp,bKn,bKr,bKp,bKx,tKn,tKr,tKx,tKp,zKn,zKr,zKx,zKp]; simp only [eKc,eKn,eKa,Nat.reduceEqDiff,↓reduceIte,gKz,gKs,dKs,and_self,zAP]; simp only [zPK,qKn,qKr,qKx,qKp,bKn,bKr,bKp,bKx,tKn,tKr,tKx,tKp,zKn,zKr,zKx,zKp]; simp only [eKc,eKn,eKa,Nat.reduceEqDiff,↓reduceIte,gKz,gKs,dKs,and_self]; obtain ⟨x,y,rest,hx,hcan,hRR⟩:=zJ6 hz hbad hr0; obtain ⟨_,_,_,q0,q1⟩:=zDS hz; refine (zQN t4 (A.cat.imp fun _ _ _ hr=>hr.kp A.top k4) hC (A.spc.imp fun _ _ _ hr=>hr.kp A.top k4) (by omega) (fun s hs=>by have:=l2 s hs; omega) hbs).mono fun en W5 ⟨k5,t5,v,qs,he,hH,hq,hbd⟩=>?_; have hbl:b.length≤100000:=zPm hz h40 hw B; have hrp:=zMp B.ok B.sp B.can B.enc (m:=[]) (by simpa using hbl); rw [List.append_nil,if_pos rfl] at hrp; subst he; rw [hrp] at hq ⊢; have hq:qs.map (·.1)=y::rest:=by rw [←hcan]; exact hq
      have hcl:=congrArg List.length hcan; rw [List.length_map,List.length_cons] at hcl; have hrd:IsSl 2 (RThg W5) v (y::rest):=by rw [←hq]; exact zSz hH hbd
      have k45:=k4.trans k5; have hxm:=List.mem_of_getElem? hx; have hxl:=t3 x hxm; refine zAY ?_; refine zAu (zWO _ _ _) ?_; refine zAu (zWN _ _ _) ?_; refine zAu (zWM _ _ _) ?_; have I:SIn W5 v0 v1 v2 v c l h root x y rest:=⟨t5,A.cat.imp fun _ _ _ hr=>hr.kp A.top k45,hC,B.ok,A.spc.imp fun _ _ _ hr=>hr.kp A.top k45,B.sp,A.hp.imp fun _ _ _ hr=>hr.kp A.top k45,hx,by omega,by omega,hrd,hRR,by omega,fun s hs=>by have:=l2 s hs; omega,by omega⟩
      obtain ⟨qx,px0,px1,vx,x1,x2,x3,x4,x5,x6⟩:=zE7 I.hp hx; obtain ⟨qy,py0,py1,vy,y1,y2,y3,y4,y5,y6⟩:=zE7 (i:=0) (x:=y) hrd rfl; have y1:iad prog 24 v (.int .i64 0)=some qy:=y1
      have hroot:zAL prog .sub 3 true (.int .i64 root) (.int .i64 1)=some (.int .i64 (((root-1).toNat:Nat):Int)):=by
       rw [zCD,zBU (by omega) (by omega)]; congr 2; omega
      have hmin:((min ((zDR c l h (zAd c l h root)).length:Int) 1) != 1)=false:=by
       rw [show min ((zDR c l h (zAd c l h root)).length:Int) 1=1 by omega]; rfl
      simp only [zBW,zAA,hz0,zAP,hmin]; rw [zI9 u24 hrd]; simp only [zAA,zAz]; rw [show (((y::rest).length:Int) == 0)=false by simp; omega,zAP]; simp only [hroot,zAA,y1,y2,y3,y4,y5,x1,x2,x3,x4,x5,zIi,zG7,hRR.type,decide_true,Bool.not_true,zAP]; rw [zI9 u40 y6]; simp only [zAA]; rw [zI9 u40 x6]; simp only [zAA,zBW,hRR.len,bne_self_eq_false]; refine ⟨by simp only [and_self],?_⟩; simp only [zND,qKn,qKr,qKx,qKp,bKn,bKr,bKp,bKx,tKn,tKr,tKx,tKp,zKn,zKr,zKx,zKp]; simp only [eKc,eKn,eKa,Nat.reduceEqDiff,↓reduceIte,gKz,gKs,dKs,and_self,zAP]; simp only [zQ0,qKn,qKr,qKx,qKp,bKn,bKr,bKp,bKx,tKn,tKr,tKx,tKp,zKn,zKr,zKx,zKp]; refine ⟨trivial,?_⟩
      refine zS6 (v0:=v0) (v1:=v1) (v2:=v2) (v:=v) (root:=root) I ?_ (.refl _) t5 fun e' W' t'=>?_
      ·exact ⟨rfl,rfl,rfl,rfl,rfl,rfl⟩
      simp only [qKn,qKr,qKx,qKp,bKn,bKr,bKp,bKx,tKn,tKr,tKx,tKp,zKn,zKr,zKx,zKp,zVL]; refine zFb zUS zQe ?_; refine zAY ?_; exact hret _ W' rfl
end Go.Ce
