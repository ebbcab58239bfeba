/- A part of the proof: Rl, Rm, Rn, Ro, Rp, Sa, Sb, Sc, Sd, Sf, Sg, Si, ShL4, Ed, Qt, ShE, Qu, Qv, Qw, Qx, Se, Sj. -/
import Derived.Test.YtmknebebbbjdlaaGreatW01
import Derived.Test.YtmknebebbbjdlaaGreatW02
import Derived.Test.YtmknebebbbjdlaaGreatW04
import Derived.Test.YtmknebebbbjdlaaGreatProg
set_option linter.unusedSectionVars false
set_option linter.unusedVariables false
set_option linter.unusedSimpArgs false
set_option maxRecDepth 200000
namespace Go.Ce
open Go Go.Proofs Go.Proofs.Tryz
theorem neq20a (v:Value):zAO prog .neq 20 true (.iface 167 v) .nilIface=some (.bool true):=by kernel_rfl
theorem neq20b:zAO prog .neq 20 true .nilIface .nilIface=some (.bool false):=by kernel_rfl
theorem tas167 (v:Value):tas prog 167 (.iface 167 v) true=some (.tuple #[v,.bool true]):=by kernel_rfl
theorem z167:zer prog 167=some (.agg #[.int .i64 0]):=by kernel_rfl
theorem s167:siz prog 167=some 1:=by kernel_rfl
theorem fad167 (a:Addr):fad prog 167 (.pointer (some a)) 0=some (.pointer (some ⟨a.block,a.off,none⟩)):=by kernel_rfl
theorem a30:agg? prog 30=some false:=by kernel_rfl
theorem s30:siz prog 30=some 1:=by kernel_rfl
theorem z30:zer prog 30=some (.int .i64 0):=by kernel_rfl
theorem bld170 (v:Value) (a:Option Addr) (n m:Nat) (h:v=.slice a n m):bld prog 170 [(0,v)]=some (.agg [v,.int .i64 0].toArray):=by subst h; kernel_rfl
theorem zG3:Tryz.f109.results.toList=[]:=by kernel_rfl
theorem f72_results:∃ ty,Tryz.f72.results.toList=[.cell 4 ty]∧ty=30:=⟨30,by kernel_rfl,rfl⟩
theorem wRec1 (x:Int) (K:Value→FrameMode→Prop):wRec (.panicking (zB0 x)) K=K (.iface 167 (.agg #[.int .i64 x])) (.panicking [{ v:=.iface 167 (.agg #[.int .i64 x]),recovered:=true }]):=rfl
theorem wRec0 (K:Value→FrameMode→Prop):wRec .returning K=K .nilIface .returning:=rfl
structure Upd1 (b:Nat) (W W':CW):Prop where
 sz:W.sz≤W'.sz
 obj:∀ j,j<W.sz→j≠b→W'.obj j=W.obj j
theorem rec109 {W:CW} {b:Nat} {x y:Int} (ht:Top W) (hB:Blk W b 30 [.int .i64 y]) {Q:FrameMode→CW→Prop} (hq:∀ W',Upd1 b W W'→Top W'→Blk W' b 30 [.int .i64 x]→Q (.panicking [{ v:=.iface 167 (.agg #[.int .i64 x]),recovered:=true }]) W'):zHD prog pkL 109 [.pointer (some ⟨b,0,none⟩)] (.panicking (zB0 x)) W Q:=by
 refine wDcall_of (fn:=Tryz.f109) (c:=zAF prog 109) (by kernel_rfl) Tryz.func109 (by kernel_rfl) (by kernel_rfl) ?_
 have:=f109_S (.pointer (some ⟨b,0,none⟩)) (.panicking (zB0 x)) (fun x e u W=>(x=.normal∨x=.ret)∧(∃ v,zBA prog Tryz.f109.results.toList e W=some v)∧Q u W) W
 refine this.mpr ?_
 rw [wRec1]
 refine zAl (neq20a _) ?_
 simp only [zAy]
 refine zAl (tas167 _) ?_
 refine zAl (zBN _ _) ?_
 refine zAl (zBM _ _) ?_
 refine zB1 (ws:=[.int .i64 x]) z167 s167 rfl rfl rfl ht fun W2 k2 t2 z2 hB2=>?_
 simp only [zAT,zAA,Bool.not_true,zAW,fad167]
 refine ⟨by first | rfl | trivial,?_⟩
 rw [zAC a30 (a:=⟨W.sz,0,none⟩) (hB2.cell rfl)]
 simp only [zAA]
 have hb:=hB.lt ht
 have hB':=hB.ext ht k2
 refine zAV s30 (a:=⟨b,0,none⟩) (v:=.int .i64 x) rfl hB' (by simp) fun W3 hu hB3=>?_
 have hu:Upd b W2 W3:=hu
 refine ⟨.inl (by first | rfl | trivial),⟨.tuple #[],by simp only [zBA,zG3,zFf]⟩,hq W3 ⟨by rw [hu.sz]; exact k2.sz,fun j hj hne=>by rw [hu.obj j hne,k2.obj j hj]⟩ (t2.upd (hB'.lt t2) hu) hB3⟩
theorem rec109r {W:CW} {b:Nat} {Q:FrameMode→CW→Prop} (hq:Q .returning W):zHD prog pkL 109 [.pointer (some ⟨b,0,none⟩)] .returning W Q:=by
 refine wDcall_of (fn:=Tryz.f109) (c:=zAF prog 109) (by kernel_rfl) Tryz.func109 (by kernel_rfl) (by kernel_rfl) ?_
 have:=f109_S (.pointer (some ⟨b,0,none⟩)) .returning (fun x e u W=>(x=.normal∨x=.ret)∧(∃ v,zBA prog Tryz.f109.results.toList e W=some v)∧Q u W) W
 refine this.mpr ?_
 rw [wRec0]
 refine zAl neq20b ?_
 simp only [zAW]
 exact ⟨by first | rfl | trivial,.inl (by first | rfl | trivial),⟨.tuple #[],by simp only [zBA,zG3,zFf]⟩,hq⟩
theorem tried72_ok {W:CW} {a:Option Addr} {n cap:Nat} {vf:Value} (ht:Top W) {Q:Ending→CW→Prop}
  (hbig:100000<n→∀ W',Kp W W'→Top W'→Q (.returned (.int .i64 2)) W')
  (hdo:n≤100000→∀ W0,Kp W W0→Top W0→W0.sz=W.sz+2→Blk W0 W.sz 30 [.int .i64 0]→Blk W0 (W.sz+1) 170 [.slice a n cap,.int .i64 0]→zBn prog pkL vf [.pointer (some ⟨W.sz+1,0,none⟩)] W0
   (fun _ W3=>Top W3∧Blk W3 W.sz 30 [.int .i64 0]∧∀ W',Upd1 W.sz W3 W'→Top W'→Q (.returned (.int .i64 0)) W')
   (fun ch W4=>∃ x,ch=zB0 x∧Top W4∧Blk W4 W.sz 30 [.int .i64 0]∧∀ W',Upd1 W.sz W4 W'→Top W'→Q (.returned (.int .i64 x)) W')) :
  WCall prog pkL 72 [.slice a n cap,vf] W Q:=by
 obtain ⟨ty,hres,rfl⟩:=f72_results
 refine wCall_lv (fn:=Tryz.f72) (c:=zAF prog 72) (by kernel_rfl) (by kernel_rfl) (by kernel_rfl) Tryz.func72 (by kernel_rfl) (by kernel_rfl) ?_
 refine (f72_c (.slice a n cap) vf _ W).mpr ?_
 have ret:∀ (e:Env) W' x,e 4=.pointer (some ⟨W.sz,0,none⟩)→Blk W' W.sz 30 [.int .i64 x]→Q (.returned (.int .i64 x)) W'→wLv prog pkL Tryz.f72 Q e [] .returning W':=by
  intro e W' x h4 hB hq
  have hv:zHJ prog 30 ⟨W.sz,0,none⟩ W'=some (.int .i64 x):=zAC a30 (a:=⟨W.sz,0,none⟩) (hB.cell rfl)
  simp only [wLv,zBA,hres,zFf,wRes,h4,hv,zAA]
  exact hq
 refine zFL z30 s30 ht fun W1 k1 t1 z1 hB=>?_
 have hB:Blk W1 W.sz 30 [.int .i64 0]:=hB
 rw [zAQ u29]
 simp only [zA4,zAA]
 refine zAE (fun hb=>?_) (fun hb=>?_)
 ·have hb:100000<n:=by have:=of_decide_eq_true hb; omega
  refine zAV s30 (a:=⟨W.sz,0,none⟩) (v:=.int .i64 2) rfl hB (by simp) fun W2 hu hB2=>?_
  have hu:Upd W.sz W1 W2:=hu
  exact ret _ W2 2 rfl hB2 (hbig hb W2 (k1.upd (Nat.le_refl _) hu) (t1.upd (hB.lt t1) hu))
 ·have hb:n≤100000:=by have:=of_decide_eq_false hb; omega
  refine zAl (bld170 _ a n cap rfl) ?_
  refine zC2 s170 t1 fun W2 k2 t2 z2 hB170=>?_
  rw [z1] at hB170 z2 ⊢
  have hB170:Blk W2 (W.sz+1) 170 [.slice a n cap,.int .i64 0]:=hB170
  have hB2:=hB.ext t1 k2
  have hcap:∀ (d:Deferred) (l:List Value) (m:FrameMode) W' Q',d=({ target:=.fn (.func 109) #[.pointer (some ⟨W.sz,0,none⟩)],args:=#[] }:Deferred)→zHD prog pkL 109 [.pointer (some ⟨W.sz,0,none⟩)] m W' Q'→zHD prog pkL 109 (d.args.toList++[Value.pointer (some ⟨W.sz,0,none⟩)]) m W' Q':=by
   intro d l m W' Q' hd h
   subst hd
   exact h
  have hcall:=hdo hb W2 (k1.trans k2) t2 (by rw [z2]) hB2 hB170
  unfold zBn at hcall ⊢
  have good:∀ (v:Value) (W3:CW),(Top W3∧Blk W3 W.sz 30 [.int .i64 0]∧∀ W',Upd1 W.sz W3 W'→Top W'→Q (.returned (.int .i64 0)) W')→∀ (e:Env),e 4=.pointer (some ⟨W.sz,0,none⟩)→wV (sto prog 30 (.pointer (some ⟨W.sz,0,none⟩)) (.int .i64 0) W3) fun W5=>wLv prog pkL Tryz.f72 Q e [({ target:=.fn (.func 109) #[.pointer (some ⟨W.sz,0,none⟩)],args:=#[] }:Deferred)] .returning W5:=by
   rintro v W3 ⟨t3,hB3,hq⟩ e h4
   refine zAV s30 (a:=⟨W.sz,0,none⟩) (v:=.int .i64 0) rfl hB3 (by simp) fun W5 hu hB5=>?_
   have hu:Upd W.sz W3 W5:=hu
   show zHD _ _ _ _ _ _ _
   refine rec109r ?_
   exact ret e W5 0 h4 hB5 (hq W5 ⟨by rw [hu.sz]; exact Nat.le_refl _,fun j hj hne=>hu.obj j hne⟩ (t3.upd (hB3.lt t3) hu))
  have bad:∀ ch W4,(∃ x,ch=zB0 x∧Top W4∧Blk W4 W.sz 30 [.int .i64 0]∧∀ W',Upd1 W.sz W4 W'→Top W'→Q (.returned (.int .i64 x)) W')→∀ (e:Env),e 4=.pointer (some ⟨W.sz,0,none⟩)→wLv prog pkL Tryz.f72 Q e [({ target:=.fn (.func 109) #[.pointer (some ⟨W.sz,0,none⟩)],args:=#[] }:Deferred)] (.panicking ch) W4:=by
   rintro ch W4 ⟨x,rfl,t4,hB4,hq⟩ e h4
   show zHD _ _ _ _ _ _ _
   refine rec109 t4 hB4 fun W' hu t' hB'=>?_
   exact ret e W' x h4 hB' (hq W' hu t')
  have hmono:∀ {f:FuncId} {xs:List Value} {K K':Value→CW→Prop} {KP KP':List PanicEntry→CW→Prop},WCall prog pkL f xs W2 (zAK K KP)→(∀ v W,K v W→K' v W)→(∀ v W,KP v W→KP' v W)→WCall prog pkL f xs W2 (zAK K' KP'):=fun h h1 h2=>h.mono fun en W' he=>by
   cases en with
   | returned v=>exact h1 _ _ he
   | panicked ch=>exact h2 _ _ he
   | outgrown=>exact he
  have hmonoR:∀ {f:Nat} {xs:List Value} {K K':Value→CW→Prop} {KP KP':List PanicEntry→CW→Prop},WRound prog pkL f xs W2 (zAK K KP)→(∀ v W,K v W→K' v W)→(∀ v W,KP v W→KP' v W)→WRound prog pkL f xs W2 (zAK K' KP'):=fun h h1 h2=>h.mono fun en W' he=>by
   cases en with
   | returned v=>exact h1 _ _ he
   | panicked ch=>exact h2 _ _ he
   | outgrown=>exact he
  split at hcall
  ·split at hcall
   ·exact good (.bool false) _ hcall _ rfl
   ·exact hmono hcall (fun v W h=>good v W h _ rfl) (fun ch W h=>⟨fun k n m hh=>(by cases hh),bad ch W h _ rfl⟩)
  ·exact hmonoR hcall (fun v W h=>good v W h _ rfl) (fun ch W h=>⟨fun k n m hh=>(by cases hh),bad ch W h _ rfl⟩)
  ·exact hcall.elim
end Go.Ce
namespace Go.Ce
open Go Go.Proofs Go.Proofs.Tryz
def toOf (l:List Spc) (s:ByteArray):Option Spc:=l.find? fun x=>decide (x.to=s)
def zFc (mp vs z:List Int):Nat→List Int
 | 0=>z
 | n+1=>(zFc mp vs z n).set ((mp[n]?).getD 0).toNat ((vs[n]?).getD 0)
def zCP (c:List Shp) (l:List Spc) (x:Thg):Thg:=match toOf l x.type with
 | none=>x
 | some s=>match zBQ c s.type with
  | none=>x
  | some t=>⟨s.type,zFc s.map x.vals (List.replicate (zAw c t).length 0) s.map.length⟩
theorem zIM (mp vs z:List Int):∀ n,(zFc mp vs z n).length=z.length
 | 0=>rfl
 | n+1=>by rw [zFc,List.length_set,zIM mp vs z n]
theorem f77_results:∃ ty,Tryz.f77.results.toList=[.cell 6 ty]∧ty=56:=⟨56,by kernel_rfl,rfl⟩
theorem bld56v (s:ByteArray) (a:Addr) (n m:Nat):bld prog 56 [(0,.string s),(1,.slice (some a) n m)]=some (.agg [.string s,.slice (some a) n m].toArray):=by kernel_rfl
def BackPost (vx:Value) (x y:Thg) (W:CW):Ending→CW→Prop:=fun e W'=>Kp W W'∧Top W'∧∃ vv,e=.returned (.agg #[.string y.type,vv])∧((vv=vx∧y.vals=x.vals)∨∃ bv,vv=.slice (some ⟨bv,0,none⟩) y.vals.length y.vals.length∧Blk W' bv 3 (zCo y.vals)∧W.sz≤bv)
theorem set_put {z:List Int} {k:Nat} (hk:k<z.length) (x:Int):zEN (zCo z) (0+k*1) [.int .i64 x]=zCo (z.set k x):=by
 apply List.ext_getElem?
 intro j
 have hl:(zCo z).length=z.length:=by simp [zCo]
 rw [zEM (by rw [hl]; simp; omega)]
 unfold zCo
 simp only [List.length_singleton,List.getElem?_map,List.getElem?_set]
 by_cases e:k=j
 ·subst e
  rw [if_pos ⟨by omega,by omega⟩,if_pos rfl,if_pos hk]
  simp
 ·rw [if_neg (by omega),if_neg e]
theorem back77_ok {w r r1 r2:Nat} {vx:Value} {c:List Shp} {l:List Spc} {x:Thg} {W:CW} (ht:Top W) (hr:SpM Spc.to W r l) (hcat:CatAt W r1 r2 c) (hC:Cat c) (hvx:IsSl 1 (RInt W) vx x.vals)
  (hm:∀ s,toOf l x.type=some s→s.map.length≤x.vals.length∧∃ t,zBQ c s.type=some t∧∀ m,m ∈ s.map→0≤m∧m.toNat<(zAw c t).length) (hml:∀ s,s ∈ l→s.map.length<100000) :
  WCall prog pkL 77 [.agg #[.map (some w),.map (some r)],zJT r1 r2,.agg #[.string x.type,vx]] W (BackPost vx x (zCP c l x) W):=by
 obtain ⟨ty,hres,rfl⟩:=f77_results
 refine f77_w ?_
 rw [f77_c]
 unfold zJT
 obtain ⟨ax,cx,rfl,hxc⟩:=id hvx
 refine zC2 s83 ht fun W0 k0 t0 z0 hB3=>?_
 have hB3:Blk W0 W.sz 83 [.map (some w),.map (some r)]:=hB3
 refine zC2 s78 t0 fun W1 k1 t1 z1 hB4=>?_
 have hB4:Blk W1 W0.sz 78 [.map (some r1),.map (some r2)]:=hB4
 refine zC2 s56 t1 fun W2 k2 t2 z2 hB5=>?_
 have hB5:Blk W2 W1.sz 56 [.string x.type,.slice ax x.vals.length cx]:=hB5
 refine zFL z56 s56 t2 fun A kA tA zA hB6=>?_
 have hB6:Blk A W2.sz 56 [.string ⟨#[]⟩,.slice none 0 0]:=hB6
 have k:=((k0.trans k1).trans k2).trans kA
 have hB3:=hB3.ext t0 ((k1.trans k2).trans kA)
 have hB4:=hB4.ext t1 (k2.trans kA)
 have hB5:=hB5.ext t2 kA
 have hb6W:W.sz≤W2.sz:=((k0.trans k1).trans k2).sz
 have hrA:=hr.kp ht k
 have hcatA:=hcat.kp ht k
 simp only [fad83_1,zCX,zAA]
 rw [zAC a81 (a:=⟨W.sz,0+1,none⟩) (hB3.cell rfl),zAC a9 (a:=⟨W1.sz,0,none⟩) (hB5.cell rfl)]
 simp only [zAA]
 generalize hKK:zAD prog Tryz.f77 (BackPost (.slice ax x.vals.length cx) x (zCP c l x) W)=K
 have hfin:∀ W1' vv,Kp A W1'→Top W1'→zAe vv=true→(∀ W3,Upd W2.sz W1' W3→(vv=.slice ax x.vals.length cx∧(zCP c l x).vals=x.vals)∨∃ bv,vv=.slice (some ⟨bv,0,none⟩) (zCP c l x).vals.length (zCP c l x).vals.length∧Blk W3 bv 3 (zCo (zCP c l x).vals)∧W.sz≤bv)→∀ {K':CW→Prop},(∀ W3,(∀ e',e' 6=.pointer (some ⟨W2.sz,0,none⟩)→K .ret e' [] W3)→K' W3) →
   wV (sto prog 56 (.pointer (some ⟨W2.sz,0,none⟩)) (.agg [.string (zCP c l x).type,vv].toArray) W1') K':=by
  intro W1' vv k1' t1' hone hor K' hK'
  have hB:=hB6.ext tA k1'
  refine zB2 s56 (a:=⟨W2.sz,0,none⟩) (by simp only [List.all_cons,List.all_nil,hone,Bool.and_true]; rfl) rfl hB (by simp) fun W3 hu hB3=>hK' W3 fun e' h6'=>?_
  have hu:Upd W2.sz W1' W3:=hu
  rw [←hKK]
  have hB3:Blk W3 W2.sz 56 [.string (zCP c l x).type,vv]:=hB3
  refine zEz hres (p:=⟨W2.sz,0,none⟩) h6' (zA3 (vs:=[.string (zCP c l x).type,vv]) a56 s56 rfl (by omega) hB3.cells) ?_
  exact ⟨(k.trans k1').upd hb6W hu,t1'.upd (hB.lt t1') hu,vv,rfl,hor W3 hu⟩
 cases hsp:toOf l x.type with
 | none =>
  have hwr:zCP c l x=x:=by unfold zCP; rw [hsp]
  rw [hrA.none hsp]
  simp only [zAA,zBN,zBM]
  unfold z58v
  refine zB1 (ws:=[.string ⟨#[]⟩,.string ⟨#[]⟩,.slice none 0 0]) z58 s58 rfl rfl rfl tA fun W4 k4 t4 z4 hB7=>?_
  simp only [zAT,zAA,Bool.not_false,zAy]
  rw [zA3 (vs:=[.string x.type,.slice ax x.vals.length cx]) a56 s56 rfl (by omega) (hB5.ext tA k4).cells]
  simp only [zAA]
  have hty:x.type=(zCP c l x).type:=by rw [hwr]
  rw [hty]
  refine hfin W4 _ k4 t4 rfl (fun W3 hu=>.inl ⟨rfl,by rw [hwr]⟩) fun W3 hr=>hr _ rfl
 | some s =>
  obtain ⟨hsl,t,hst,hmm⟩:=hm s hsp
  have hwr:zCP c l x=⟨s.type,zFc s.map x.vals (List.replicate (zAw c t).length 0) s.map.length⟩:=by unfold zCP; rw [hsp]; simp only; rw [hst]
  have hsm:=hml s (List.mem_of_find?_eq_some hsp)
  have hrl:=rowP_le hC t
  obtain ⟨u,hu,L⟩:=hrA.some hsp
  obtain ⟨am,cm,rfl,hum⟩:=hu
  rw [L]
  simp only [zAA,zBN,zBM]
  refine zB1 (ws:=[.string s.type,.string s.to,.slice am s.map.length cm]) z58 s58 rfl rfl rfl tA fun W5 k5 t5 z5 hB7=>?_
  simp only [zAT,zAA,Bool.not_true,zAW,zFU,zGd,zEb]
  obtain ⟨ar,cr,lr,_⟩:=hcatA.rw.some hst
  obtain ⟨mr,hmr,_⟩:=hcatA.rw
  have kn:Kp W5 (W5.new (.cells .nil 2 #[.string ⟨#[]⟩,.slice none 0 0] 56)):=.new _
  have tn:=t5.new (.cells .nil 2 #[.string ⟨#[]⟩,.slice none 0 0] 56)
  have hon:(W5.new (.cells .nil 2 #[.string ⟨#[]⟩,.slice none 0 0] 56)).obj W5.sz=some (.cells .nil 2 #[.string ⟨#[]⟩,.slice none 0 0] 56):=by rw [zAk,if_pos rfl]
  have hBn:Blk (W5.new (.cells .nil 2 #[.string ⟨#[]⟩,.slice none 0 0] 56)) W5.sz 56 [.string ⟨#[]⟩,.slice none 0 0]:=⟨.nil,2,_,hon,rfl,fun k v hk=>by
   match k,hk with
   | 0,hk=>cases hk; rfl
   | 1,hk=>cases hk; rfl⟩
  have hszn:(W5.new (.cells .nil 2 #[.string ⟨#[]⟩,.slice none 0 0] 56)).sz=W5.sz+1:=rfl
  have hfl:∀ W0:CW,W0.obj W5.sz=some (.cells .nil 2 #[.string ⟨#[]⟩,.slice none 0 0] 56)→flOk (.pointer (some ⟨W5.sz,0,none⟩)) ((W5.new (.cells .nil 2 #[.string ⟨#[]⟩,.slice none 0 0] 56)).obj W5.sz) W0=true:=fun W0 h0=>zFx h0 (by rfl)
  generalize hAn:W5.new (.cells .nil 2 #[.string ⟨#[]⟩,.slice none 0 0] 56)=An at kn tn hon hBn hszn hfl ⊢
  have kAn:=k5.trans kn
  have l9:∀ W',Kp An W'→ld prog 9 (.pointer (some ⟨A.sz,0,none⟩)) W'=some (.string s.type):=fun W' k'=>zAC a9 (a:=⟨A.sz,0,none⟩) ((hB7.ext t5 (kn.trans k')).cell rfl)
  have l76:ld prog 76 (.pointer (some ⟨W0.sz,0+1,none⟩)) An=some (.map (some r2)):=zAC a76 (a:=⟨W0.sz,0+1,none⟩) ((hB4.ext tA kAn).cell rfl)
  have lrn:lkp prog 76 (.map (some r2)) (.string s.type) false An=some (.slice ar (zAw c t).length cr):=by
   rw [lkp_congr (kAn.obj _ (hmr.lt tA))]; exact lr
  rw [l9 An (.refl _),l76]
  simp only [zAA,lrn,zAQ u29]
  refine w_mks u40 s3 z3 rfl by3 (by omega) (n:=(zAw c t).length) (by omega) tn fun W7 k7 t7 z7 hBv=>?_
  refine zAl (bld56v _ _ _ _) ?_
  refine ⟨trivial,?_⟩
  have hBn7:=hBn.ext tn k7
  refine zB2 s56 (a:=⟨W5.sz,0,none⟩) (ws:=[.string s.type,.slice (some ⟨An.sz,0,none⟩) (zAw c t).length (zAw c t).length]) rfl rfl hBn7 (by simp) fun W8 hu8 hBo=>?_
  have hu8:Upd W5.sz W7 W8:=hu8
  have hBo:Blk W8 W5.sz 56 [.string s.type,.slice (some ⟨An.sz,0,none⟩) (zAw c t).length (zAw c t).length]:=hBo
  refine ⟨by simp only [l9 An (.refl _),l9 W7 k7,and_self],by simp only [hfl An hon,hfl W7 (by rw [k7.obj _ (by omega)]; exact hon),and_self],?_⟩
  have h5l:W5.sz<W7.sz:=by rw [z7]; omega
  have t8:=t7.upd h5l hu8
  have hzA:A.sz≤W5.sz:=by rw [z5]; omega
  have k58:Kp W5 W8:=(kn.trans k7).upd (Nat.le_refl _) hu8
  have kA8:Kp A W8:=k5.trans k58
  rw [zAC a40 (a:=⟨A.sz,0+2,none⟩) ((hB7.ext t5 k58).cell rfl)]
  simp only [zAA,zAQ u40]
  have hBv8:Blk W8 An.sz 3 (zCo (zFc s.map x.vals (List.replicate (zAw c t).length 0) 0)):=by
   have:zCo (zFc s.map x.vals (List.replicate (zAw c t).length 0) 0)=List.replicate (zAw c t).length (.int .i64 0):=by simp [zFc,zCo]
   rw [this]
   exact hBv.congr (hu8.obj _ (by omega))
  refine zCk (fun n e ds W'=>ds=[]∧Kp A W'∧Top W'∧Blk W' W5.sz 56 [.string s.type,.slice (some ⟨An.sz,0,none⟩) (zAw c t).length (zAw c t).length]∧Blk W' An.sz 3 (zCo (zFc s.map x.vals (List.replicate (zAw c t).length 0) n))∧e 5=.pointer (some ⟨W1.sz,0,none⟩)∧e 6=.pointer (some ⟨W2.sz,0,none⟩)∧e 9=.pointer (some ⟨W5.sz,0,none⟩)∧e 34=.slice am s.map.length cm∧e 35=.int .i64 s.map.length∧e 36=.int .i64 n) s.map.length
   ⟨rfl,kA8,t8,hBo,hBv8,rfl,rfl,rfl,rfl,rfl,rfl⟩ ?_
  rintro n e ds W' hn ⟨rfl,kA',t',hBo',hBv',h5,h6,h9,h34,h35,h36⟩
  rw [f77_l0,h34,h35,h36]
  simp only [zAa,zAA]
  refine zHF (fun hlt=>?_) (fun hge=>?_)
  ·obtain ⟨_,_,he,hmc⟩:=hum
   cases he
   have hmn:=List.getElem?_eq_getElem hlt
   obtain ⟨q,rfl,hq⟩:=hmc n _ hmn
   rw [zAi u40 s3 hlt]
   simp only [zAA]
   have hqc:=kA'.cell tA hq.1
   rw [zAC a3 (a:=⟨q.block,q.off+n*1,none⟩) hqc,h9,h5]
   simp only [zAA,zCM]
   have hxl:n<x.vals.length:=by omega
   have hxn:=List.getElem?_eq_getElem hxl
   obtain ⟨p,rfl,hp⟩:=hxc n _ hxn
   have hB5':=hB5.ext tA kA'
   rw [zAC a40 (a:=⟨W5.sz,0+1,none⟩) (hBo'.cell rfl),zAC a40 (a:=⟨W1.sz,0+1,none⟩) (hB5'.cell rfl)]
   simp only [zAA]
   rw [zAi u40 s3 hxl]
   simp only [zAA]
   have hpc:=(k.trans kA').cell ht hp.1
   rw [zAC a3 (a:=⟨p.block,p.off+n*1,none⟩) hpc]
   simp only [zAA]
   obtain ⟨hm0,hm1⟩:=hmm _ (List.getElem_mem hlt)
   have hmi:(s.map[n]:Int)=((s.map[n].toNat:Nat):Int):=by omega
   rw [hmi,zAi u40 s3 hm1]
   simp only [zAA]
   have hbl:(zFc s.map x.vals (List.replicate (zAw c t).length 0) n).length=(zAw c t).length:=by rw [zIM]; simp
   refine zAV s3 (a:=⟨An.sz,0+s.map[n].toNat*1,none⟩) (v:=.int .i64 x.vals[n]) rfl hBv' (by simp only [zCo,List.length_map,hbl]; omega) fun W9 hu9 hBv9=>?_
   have hu9:Upd An.sz W' W9:=hu9
   have hBv9:Blk W9 An.sz 3 (zCo (zFc s.map x.vals (List.replicate (zAw c t).length 0) (n+1))):=by
    rw [zFc,hmn,hxn,Option.getD_some,Option.getD_some,←set_put (by rw [hbl]; exact hm1)]
    exact hBv9
   have l40a:ld prog 40 (.pointer (some ⟨W5.sz,0+1,none⟩)) W'=some (.slice (some ⟨An.sz,0,none⟩) (zAw c t).length (zAw c t).length):=zAC a40 (a:=⟨W5.sz,0+1,none⟩) (hBo'.cell rfl)
   refine ⟨by simp only [zAC a40 (a:=⟨W5.sz,0+1,none⟩) (hBo'.cell rfl),zAC a40 (a:=⟨W1.sz,0+1,none⟩) (hB5'.cell rfl),zAC a3 (a:=⟨p.block,p.off+n*1,none⟩) hpc,and_self],trivial,?_⟩
   simp only [f77_k11,qKn,qKr,qKx,qKp,bKn,bKr,bKp,bKx,tKn,tKr,tKx,tKp,zKn,zKr,zKx,zKp]
   simp only [eKc,eKn,eKa,Nat.reduceEqDiff,↓reduceIte,gKz,gKs,dKs,and_self,h36,zAX,zAA,qKn,qKr,qKx,qKp,bKn,bKr,bKp,bKx,tKn,tKr,tKx,tKp,zKn,zKr,zKx,zKp]
   refine ⟨hlt,trivial,kA'.upd (by omega) hu9,t'.upd (hBv'.lt t') hu9,hBo'.congr (hu9.obj _ (by omega)),hBv9,?_,?_,?_,?_,?_,?_⟩
   ·simp only [eKc,eKn,eKa,Nat.reduceEqDiff,↓reduceIte,gKz,gKs,dKs,and_self,h5]
   ·simp only [eKc,eKn,eKa,Nat.reduceEqDiff,↓reduceIte,gKz,gKs,dKs,and_self,h6]
   ·simp only [eKc,eKn,eKa,Nat.reduceEqDiff,↓reduceIte,gKz,gKs,dKs,and_self,h9]
   ·simp only [eKc,eKn,eKa,Nat.reduceEqDiff,↓reduceIte,gKz,gKs,dKs,and_self,h34]
   ·simp only [eKc,eKn,eKa,Nat.reduceEqDiff,↓reduceIte,gKz,gKs,dKs,and_self,h35]
   ·rw [zCi (by omega)]
  ·have hn':n=s.map.length:=by omega
   subst hn'
   simp only [qKn,qKr,qKx,qKp,bKn,bKr,bKp,bKx,tKn,tKr,tKx,tKp,zKn,zKr,zKx,zKp,bKx,if_true,f77_k10]
   simp only [eKc,eKn,eKa,Nat.reduceEqDiff,↓reduceIte,gKz,gKs,dKs,and_self,h6,h9]
   rw [zA3 (vs:=[.string s.type,.slice (some ⟨An.sz,0,none⟩) (zAw c t).length (zAw c t).length]) (a:=⟨W5.sz,0,none⟩) a56 s56 rfl (by omega) hBo'.cells]
   simp only [zAA]
   have hty:s.type=(zCP c l x).type:=by rw [hwr]
   have hvl:(zAw c t).length=(zCP c l x).vals.length:=by rw [hwr]; simp only [zIM,List.length_replicate]
   rw [hty]
   refine hfin W' _ kA' t' rfl (fun W3 hu=>.inr ⟨An.sz,by rw [hvl],?_,by have:=k.sz; omega⟩) fun W3 hr=>hr _ (by simp only [eKc,eKn,eKa,Nat.reduceEqDiff,↓reduceIte,gKz,gKs,dKs,and_self,h6])
   have:(zCP c l x).vals=zFc s.map x.vals (List.replicate (zAw c t).length 0) s.map.length:=by rw [hwr]
   rw [this]
   exact hBv'.congr (hu.obj _ (by have:=zA; omega))
end Go.Ce
namespace Go.Ce
open Go Go.Proofs Go.Proofs.Tryz
def zIf (c:List Shp) (l:List Spc) (s:ByteArray):Option Int:=if (zBQ c s).isSome then (if (l.find? fun x=>decide (x.type=s)).isSome then some 214 else none) else some 213
structure AskIn (A:CW) (bk br r1 r2 w r:Nat) (c:List Shp) (l:List Spc):Prop where
 top:Top A
 k:Blk A bk 78 [.map (some r1),.map (some r2)]
 rr:Blk A br 83 [.map (some w),.map (some r)]
 cat:CatAt A r1 r2 c
 w:SpM Spc.type A w l
 rd:SpM Spc.to A r l
theorem z48':zer prog 48=some z48v:=by kernel_rfl
theorem s48':siz prog 48=some 5:=by kernel_rfl
theorem ask75_ok {A:CW} {bk br r1 r2 w r:Nat} {c:List Shp} {l:List Spc} (I:AskIn A bk br r1 r2 w r c l):AskOk A (.func (.func 75) #[] #[.pointer (some ⟨bk,0,none⟩),.pointer (some ⟨br,0,none⟩)]) (zIf c l):=by
 intro s W K KP kA ht hno hyes
 refine zDS Tryz.func75 (by kernel_rfl) ?_
 refine f75_w (v0:=.string s) (v1:=.pointer (some ⟨bk,0,none⟩)) (v2:=.pointer (some ⟨br,0,none⟩)) ?_
 rw [f75_c]
 have hk:=I.k.ext I.top kA
 have hr:=I.rr.ext I.top kA
 have hcat:=I.cat.kp I.top kA
 simp only [zDY,zAA]
 rw [zAC a75 (a:=⟨bk,0,none⟩) (hk.cell rfl)]
 simp only [zAA]
 obtain ⟨ws,hl1,hwl,hwo,_⟩:=shLook hcat.sh s
 rw [hl1]
 simp only [zAA,zBN,zBM]
 refine zB1 (ws:=ws) z48' s48' rfl hwo hwl ht fun W2 k2 t2 z2 hB=>?_
 refine zDG (fun h1=>?_) (fun h1=>?_)
 ·have hw2:=(I.w.kp I.top (kA.trans k2))
  obtain ⟨ws2,hl2,hwl2,hwo2⟩:=spLook hw2 s
  simp only [fad83_0,zAA]
  rw [zAC a81 (a:=⟨br,0,none⟩) ((hr.ext ht k2).cell rfl)]
  simp only [zAA]
  rw [hl2]
  simp only [zAA,zBN,zBM]
  refine zB1 (ws:=ws2) z58 s58 rfl hwo2 hwl2 t2 fun W5 k5 t5 z5 hB5=>?_
  simp only [zAT,zAA]
  refine zDG (fun h2=>?_) (fun h2=>?_)
  ·have h2:(l.find? fun x=>decide (Spc.type x=s)).isSome=false:=by simpa using h2
   exact zEW (by kernel_rfl) _ _ (.inl rfl) _ _ (hno (by unfold zIf; rw [if_pos h1,if_neg (by rw [h2]; simp)]) _ W5 (k2.trans k5) t5)
  ·have h2:(l.find? fun x=>decide (Spc.type x=s)).isSome=true:=by simpa using h2
   exact hyes 214 (by unfold zIf; rw [if_pos h1,if_pos h2]) W5 (k2.trans k5) t5
 ·exact hyes 213 (by unfold zIf; rw [if_neg (by rw [h1]; simp)]) W2 k2 t2
theorem askR_some {c:List Shp} {l:List Spc} {s:ByteArray} (h:zIf c l s=none):(zBQ c s).isSome=true∧(l.find? fun x=>decide (x.type=s))=none:=by
 unfold zIf at h
 split at h
 ·rename_i h1
  split at h
  ·cases h
  ·rename_i h2; exact ⟨h1,by simpa using h2⟩
 ·cases h
theorem headL_err {b:List UInt8} {ask:ByteArray→Option Int} (ha:∀ s e,ask s=some e→e≠0):∀ {k at_:Nat} {out:List ByteArray} {e:Int},zDq b ask k at_ out=.error e→e≠0
 | 0,at_,out,e,h=>by cases h
 | k+1,at_,out,e,h=>by
  unfold zDq at h
  split at h
  ·rename_i hn; cases h; exact numR_err hn
  ·split at h
   ·rename_i ht; cases h; rw [takeP_err ht]; decide
   ·split at h
    ·split at h
     ·rename_i hq; cases h; exact ha _ _ hq
     ·exact headL_err ha h
    ·cases h; decide
where
 numR_err {b:List UInt8} {at_:Nat} {m e:Int} (h:zDT b at_ m=.error e):e≠0:=by
  unfold zDT at h
  split at h
  ·rename_i hg; cases h; exact numG_err hg
  ·split at h
   ·cases h
   ·cases h; decide
 numG_err {b:List UInt8}:∀ {f at_ n sh:Nat} {e:Int},zIS b f at_ n sh=.error e→e≠0
  | 0,_,_,_,_,h=>by cases h; decide
  | f+1,at_,n,sh,e,h=>by
   unfold zIS at h
   split at h
   ·cases h; decide
   ·split at h
    ·split at h
     ·cases h
     ·cases h; decide
    ·exact numG_err h
theorem numR_err {b:List UInt8} {at_:Nat} {m e:Int} (h:zDT b at_ m=.error e):e≠0:=headL_err.numR_err h
theorem zHb {b:List UInt8} {c:List Shp} {ix many:Nat}:∀ {m k at_ fd:Nat} {vs:List Int} {e:Int},zCO b c ix many m k at_ fd vs=.error e→e≠0
 | 0,_,_,_,_,_,h=>by cases h
 | m+1,k,at_,fd,vs,e,h=>by
  unfold zCO at h
  split at h
  ·split at h
   ·rename_i hn; cases h; exact numR_err hn
   ·exact zHb h
  ·split at h
   ·rename_i hn; cases h; exact numR_err hn
   ·exact zHb h
theorem zIm {b:List UInt8} {c:List Shp} {ts:List ByteArray} {many:Nat}:∀ {m i at_ used fd:Nat} {out:List Thg} {e:Int},zBi b c ts many m i at_ used fd out=.error e→e≠0
 | 0,_,_,_,_,_,_,h=>by cases h
 | m+1,i,at_,used,fd,out,e,h=>by
  unfold zBi at h
  split at h
  ·split at h
   ·rename_i hn; cases h; exact numR_err hn
   ·split at h
    ·cases h; decide
    ·split at h
     ·cases h; decide
     ·split at h
      ·rename_i hn
       cases h
       split at hn
       ·exact numR_err hn
       ·cases hn
      ·split at h
       ·rename_i hv; cases h; exact zHb hv
       ·exact zIm h
  ·cases h; decide
theorem thingsR_err {b:List UInt8} {c:List Shp} {ask:ByteArray→Option Int} (ha:∀ s e,ask s=some e→e≠0) {at_:Nat} {e:Int} (h:zAp b c ask at_=.error e):e≠0:=by
 unfold zAp at h
 split at h
 ·rename_i hh
  cases h
  unfold zEC at hh
  split at hh
  ·rename_i hn; cases hh; exact numR_err hn
  ·split at hh
   ·split at hh
    ·rename_i hn; cases hh; exact numR_err hn
    ·exact headL_err ha hh
   ·cases hh; decide
 ·split at h
  ·rename_i hn; cases h; exact numR_err hn
  ·split at h
   ·rename_i hg; cases h; exact zIm hg
   ·split at h
    ·cases h
    ·cases h; decide
theorem askR_err {c:List Shp} {l:List Spc}:∀ s e,zIf c l s=some e→e≠0:=by
 intro s e h
 unfold zIf at h
 split at h
 ·split at h
  ·cases h; decide
  ·cases h
 ·cases h; decide
theorem zHa {b:List UInt8} {c:List Shp} {ix many:Nat}:∀ {m k at_ fd:Nat} {vs:List Int} {r:List Int × Nat × Nat},zCO b c ix many m k at_ fd vs=.ok r→r.1.length=vs.length+m
 | 0,_,_,_,_,_,h=>by cases h; rfl
 | m+1,k,at_,fd,vs,r,h=>by
  unfold zCO at h
  split at h
  ·split at h
   ·cases h
   ·have:=zHa h
    rw [this]; simp; omega
  ·split at h
   ·cases h
   ·have:=zHa h
    rw [this]; simp; omega
def RowOk (c:List Shp) (x:Thg):Prop:=∃ ix,zBQ c x.type=some ix∧(zAL c ix=0→x.vals.length=(zAw c ix).length)
theorem zIl {b:List UInt8} {c:List Shp} {ts:List ByteArray} {many:Nat}:∀ {m i at_ used fd:Nat} {out:List Thg} {r:List Thg × Nat × Nat × Nat},zBi b c ts many m i at_ used fd out=.ok r→(∀ x,x ∈ out→RowOk c x)→∀ x,x ∈ r.1→RowOk c x
 | 0,_,_,_,_,_,_,h,ho=>by cases h; exact ho
 | m+1,i,at_,used,fd,out,r,h,ho=>by
  unfold zBi at h
  split at h
  ·split at h
   ·cases h
   ·split at h
    ·cases h
    ·rename_i ty _
     split at h
     ·cases h
     ·rename_i ix hix
      split at h
      ·cases h
      ·rename_i n a2 hn
       split at h
       ·cases h
       ·rename_i vs fd' a3 hv
        refine zIl h fun x hx=>?_
        rcases List.mem_append.1 hx with hx | hx
        ·exact ho x hx
        ·cases List.mem_singleton.1 hx
         refine ⟨ix,hix,fun he=>?_⟩
         rw [if_neg (by simp [he])] at hn
         cases hn
         have:=zHa hv
         simpa using this
  ·cases h
theorem thingsR_row {b:List UInt8} {c:List Shp} {ask:ByteArray→Option Int} {at_:Nat} {r:List Thg × Nat} (h:zAp b c ask at_=.ok r):(∀ x,x ∈ r.1→RowOk c x)∧r.1.length≤1000:=by
 unfold zAp at h
 split at h
 ·cases h
 ·split at h
  ·cases h
  ·rename_i many a2 hn
   split at h
   ·cases h
   ·rename_i hg
    split at h
    ·cases h
     obtain ⟨hm,_,_⟩:=zCU hn
     exact ⟨zIl hg (fun x hx=>by cases hx),by have:=thingL_len hg; simp at this; simp only; omega⟩
    ·cases h
where
 thingL_len {b:List UInt8} {c:List Shp} {ts:List ByteArray} {many:Nat}:∀ {m i at_ used fd:Nat} {out:List Thg} {r:List Thg × Nat × Nat × Nat},zBi b c ts many m i at_ used fd out=.ok r→r.1.length=out.length+m
  | 0,_,_,_,_,_,_,h=>by cases h; rfl
  | m+1,i,at_,used,fd,out,r,h=>by
   unfold zBi at h
   split at h
   ·split at h
    ·cases h
    ·split at h
     ·cases h
     ·split at h
      ·cases h
      ·split at h
       ·cases h
       ·split at h
        ·cases h
        ·rw [thingL_len h]; simp; omega
   ·cases h
end Go.Ce
namespace Go.Ce
open Go Go.Proofs Go.Proofs.Tryz
def BdT (x:Thg):Prop:=∀ v,v ∈ x.vals→-9223372036854775808≤v∧v≤9223372036854775807
theorem zJd {b:List UInt8} {c:List Shp} {ix many:Nat} (hm:many≤1000):∀ {m k at_ fd:Nat} {vs:List Int} {r:List Int × Nat × Nat},zCO b c ix many m k at_ fd vs=.ok r→(∀ v,v ∈ vs→-9223372036854775808≤v∧v≤9223372036854775807)→∀ v,v ∈ r.1→-9223372036854775808≤v∧v≤9223372036854775807
 | 0,_,_,_,_,_,h,hv=>by cases h; exact hv
 | m+1,k,at_,fd,vs,r,h,hv=>by
  unfold zCO at h
  split at h
  ·split at h
   ·cases h
   ·rename_i n a hn
    obtain ⟨h1,_,_⟩:=zCU hn
    refine zJd hm h fun v hvv=>?_
    rcases List.mem_append.1 hvv with hq | hq
    ·exact hv v hq
    ·rw [List.mem_singleton.1 hq]; omega
  ·split at h
   ·cases h
   ·rename_i n a hn
    obtain ⟨h1,_,_⟩:=zCU hn
    refine zJd hm h fun v hvv=>?_
    rcases List.mem_append.1 hvv with hq | hq
    ·exact hv v hq
    ·rw [List.mem_singleton.1 hq]
     unfold unwP
     split <;> omega
theorem thingL_bd {b:List UInt8} {c:List Shp} {ts:List ByteArray} {many:Nat} (hmn:many≤1000):∀ {m i at_ used fd:Nat} {out:List Thg} {r:List Thg × Nat × Nat × Nat},zBi b c ts many m i at_ used fd out=.ok r→(∀ x,x ∈ out→BdT x)→∀ x,x ∈ r.1→BdT x
 | 0,_,_,_,_,_,_,h,ho=>by cases h; exact ho
 | m+1,i,at_,used,fd,out,r,h,ho=>by
  unfold zBi at h
  split at h
  ·split at h
   ·cases h
   ·split at h
    ·cases h
    ·split at h
     ·cases h
     ·split at h
      ·cases h
      ·split at h
       ·cases h
       ·rename_i vs fd' a3 hv
        refine thingL_bd hmn h fun x hx=>?_
        rcases List.mem_append.1 hx with hx | hx
        ·exact ho x hx
        ·cases List.mem_singleton.1 hx
         exact zJd hmn hv (fun v hv=>by cases hv)
  ·cases h
theorem thingsR_bd {b:List UInt8} {c:List Shp} {ask:ByteArray→Option Int} {at_:Nat} {r:List Thg × Nat} (h:zAp b c ask at_=.ok r):∀ x,x ∈ r.1→BdT x:=by
 unfold zAp at h
 split at h
 ·cases h
 ·split at h
  ·cases h
  ·rename_i many a2 hn
   split at h
   ·cases h
   ·rename_i hg
    split at h
    ·cases h
     obtain ⟨hm,_,_⟩:=zCU hn
     exact thingL_bd (by omega) hg (fun x hx=>by cases hx)
    ·cases h
theorem backV_bd {mp vs z:List Int} (hz:∀ v,v ∈ z→-9223372036854775808≤v∧v≤9223372036854775807) (hv:∀ v,v ∈ vs→-9223372036854775808≤v∧v≤9223372036854775807):∀ n v,v ∈ zFc mp vs z n→-9223372036854775808≤v∧v≤9223372036854775807
 | 0,v,h=>hz v h
 | n+1,v,h=>by
  rw [zFc] at h
  rcases List.mem_or_eq_of_mem_set h with h | h
  ·exact backV_bd hz hv n v h
  ·rw [h]
   cases hq:vs[n]? with
   | none=>rw [Option.getD_none]; omega
   | some w=>rw [Option.getD_some]; exact hv w (List.mem_of_getElem? hq)
theorem backP_bd {c:List Shp} {l:List Spc} {x:Thg} (h:BdT x):BdT (zCP c l x):=by
 unfold zCP
 split
 ·exact h
 ·split
  ·exact h
  ·exact backV_bd (fun v hv=>by rw [List.eq_of_mem_replicate hv]; omega) h _
theorem zHP:∀ (l:List (Thg × Value)) (k:Nat),(l.flatMap zGj)[k]?=(l[k / 2]?).bind fun q=>(zGj q)[k % 2]?
 | [],k=>by simp
 | q::l,0=>rfl
 | q::l,1=>rfl
 | q::l,k+2=>by
  have h:((q::l).flatMap zGj)[k+2]?=(l.flatMap zGj)[k]?:=by
   simp only [List.flatMap_cons]
   rfl
  rw [h,zHP l k,show (k+2) / 2=k / 2+1 by omega,show (k+2) % 2=k % 2 by omega]
  rfl
theorem flat_put {l:List (Thg × Value)} {i:Nat} (hi:i<l.length) (q:Thg × Value):zEN (l.flatMap zGj) (0+i*2) (zGj q)=(l.set i q).flatMap zGj:=by
 apply List.ext_getElem?
 intro k
 have hl:=zDx l
 have h2:(zGj q).length=2:=rfl
 rw [zEM (by rw [hl,h2]; omega),zHP,zHP,h2,List.getElem?_set]
 by_cases e:i=k / 2
 ·rw [if_pos ⟨by omega,by omega⟩,if_pos e,if_pos hi]
  show _=(zGj q)[k % 2]?
  congr 1; omega
 ·rw [if_neg (by omega),if_neg e]
theorem f19_loop {A W:CW} {K:zAH} {e:Env} {bk br b12 B r1 r2 w r:Nat} {vo:Value} {c:List Shp} {l:List Spc} {ps:List (Thg × Value)} (Q:AskIn A bk br r1 r2 w r c l) (hC:Cat c) (hs:zAu c l=true) (hml:∀ s,s ∈ l→s.map.length<100000) (hrow:∀ p,p ∈ ps→RowOk c p.1) (hbd:∀ p,p ∈ ps→BdT p.1) (hpl:ps.length≤1000)
  (kA:Kp A W) (t0:Top W) (hAB:A.sz≤B) (hB12:A.sz≤b12) (hb12:Blk W b12 24 [vo]) (hH:HeapAt B W vo ps)
  (g9:e 9=.pointer (some ⟨bk,0,none⟩)) (g11:e 11=.pointer (some ⟨br,0,none⟩)) (g12:e 12=.pointer (some ⟨b12,0,none⟩)) (g37:e 37=vo) (g38:e 38=.int .i64 ps.length) (g39:e 39=.int .i64 0)
  (hend:∀ e' W' qs,Kp A W'→Top W'→Blk W' b12 24 [vo]→HeapAt B W' vo qs→qs.map (·.1)=ps.map (fun p=>zCP c l p.1)→e' 12=.pointer (some ⟨b12,0,none⟩)→K (.exit 0) e' [] W') :
  zC0 prog pkL none 19 56 (.loop (zAU prog 19 0)) e [] W K:=by
 refine zCk (fun i e' ds' W'=>ds'=[]∧Kp A W'∧Top W'∧Blk W' b12 24 [vo]∧e' 9=.pointer (some ⟨bk,0,none⟩)∧e' 11=.pointer (some ⟨br,0,none⟩)∧e' 12=.pointer (some ⟨b12,0,none⟩)∧e' 37=vo∧e' 38=.int .i64 ps.length∧e' 39=.int .i64 i∧∃ qs,qs.length=i∧HeapAt B W' vo (qs++ps.drop i)∧qs.map (·.1)=(ps.take i).map (fun p=>zCP c l p.1)) ps.length
  ⟨rfl,kA,t0,hb12,g9,g11,g12,g37,g38,g39,[],rfl,hH,rfl⟩ ?_
 rintro i e' ds' W' hi ⟨rfl,kA',t',hb12',h9,h11,h12,h37,h38,h39,qs,hql,hH',hqs⟩
 rw [f19_l0,h37,h38,h39]
 simp only [zAa,zAA]
 refine zHF (fun hlt=>?_) (fun hge=>?_)
 rotate_left
 ·have hin:i=ps.length:=by omega
  subst hin
  simp only [qKn,qKr,qKx,qKp,bKn,bKr,bKp,bKx,tKn,tKr,tKx,tKp,zKn,zKr,zKx,zKp]
  refine hend _ W' qs kA' t' hb12' ?_ (by rw [hqs,List.take_length]) (by simp only [eKc,eKn,eKa,Nat.reduceEqDiff,↓reduceIte,gKz,gKs,dKs,and_self,h12])
  simpa using hH'
 ·have hp:=List.getElem?_eq_getElem hlt
  generalize hpp:ps[i]=p at hp
  have hpm:p ∈ ps:=List.mem_of_getElem? hp
  have hdrop:ps.drop i=p::ps.drop (i+1):=by rw [←hpp]; exact List.drop_eq_getElem_cons hlt
  have hat:(qs++ps.drop i)[i]?=some p:=by rw [List.getElem?_append_right (by omega),hql,Nat.sub_self,hdrop]; rfl
  have hll:(qs++ps.drop i).length=ps.length:=by rw [List.length_append,List.length_drop,hql]; omega
  have hcl:=zDx (qs++ps.drop i)
  obtain ⟨bv,hv,hBv,hBB⟩:=hH'.pv p (List.mem_of_getElem? hat)
  obtain ⟨b0,hvo,hB0,hbB0⟩:∃ b0,vo=.slice (some ⟨b0,0,none⟩) ps.length ps.length∧Blk W' b0 56 ((qs++ps.drop i).flatMap zGj)∧B≤b0:=by
   have hO:=hH'.own
   have hN:=hH'.new
   generalize (qs++ps.drop i).flatMap zGj=cs at hO hcl
   cases hO with
   | nil=>simp at hcl; omega
   | @some b0 len _ hB hl =>
    have:len=ps.length:=by omega
    subst this
    exact ⟨b0,rfl,hB,hN _ _ _ rfl⟩
  subst hvo
  rw [zAi u24 s56 hlt]
  simp only [zAA]
  have hcell:Cells W' b0 (0+i*2) (zGj p):=fun j v hj=>by
   have hj2:j<2:=by have:=(List.getElem?_eq_some_iff.1 hj).1; simpa [zGj] using this
   refine hB0.cell ?_
   rw [zHP,show (0+i*2+j) / 2=i by omega,show (0+i*2+j) % 2=j by omega,hat]
   exact hj
  rw [zA3 (vs:=zGj p) (a:=⟨b0,0+i*2,none⟩) a56 s56 rfl (by omega) hcell]
  simp only [zAA]
  have hone:(zGj p).all zAe=true:=by unfold zGj; rw [hv]; rfl
  refine zB1 (ws:=zGj p) z56 s56 rfl hone rfl t' fun W2 k2 t2 z2 hB15=>?_
  have kA2:=kA'.trans k2
  have hb12_2:=hb12'.ext t' k2
  rw [h12,h11,h9]
  rw [zAC a24 (a:=⟨b12,0,none⟩) (hb12_2.cell rfl),ld83 ((Q.rr.ext Q.top kA2)),ld78 (Q.k.ext Q.top kA2),zA3 (vs:=zGj p) (a:=⟨W'.sz,0,none⟩) a56 s56 rfl (by omega) hB15.cells]
  simp only [zAA]
  have hBv2:=hBv.ext t' k2
  have hvx:IsSl 1 (RInt W2) p.2 p.1.vals:=by
   refine ⟨some ⟨bv,0,none⟩,p.1.vals.length,hv,fun j y hy=>⟨_,rfl,?_,hbd p hpm y (List.mem_of_getElem? hy)⟩⟩
   show W2.cell bv (0+j*1)=_
   rw [show 0+j*1=j by omega]
   refine hBv2.cell ?_
   unfold zCo
   rw [List.getElem?_map,hy]; rfl
  have hm:∀ s,toOf l p.1.type=some s→s.map.length≤p.1.vals.length∧∃ t,zBQ c s.type=some t∧∀ m,m ∈ s.map→0≤m∧m.toNat<(zAw c t).length:=by
   intro s hsp
   unfold toOf at hsp
   have hto:s.to=p.1.type:=by simpa using List.find?_some hsp
   obtain ⟨j,hj⟩:=List.getElem?_of_mem (List.mem_of_find?_eq_some hsp)
   obtain ⟨t,a,S⟩:=spc_is hs hj
   obtain ⟨ix,hix,hrl⟩:=hrow p hpm
   rw [←hto,S.ai] at hix
   cases hix
   refine ⟨by rw [hrl S.ea,S.len]; exact Nat.le_refl _,t,S.ti,fun m hmm=>?_⟩
   obtain ⟨k,hk⟩:=List.getElem?_of_mem hmm
   have hkl:k<(zAw c a).length:=by rw [←S.len]; exact (List.getElem?_eq_some_iff.1 hk).1
   obtain ⟨n,hn1,hn2,hn3,_⟩:=S.map k hkl
   rw [hk] at hn1
   cases hn1
   omega
  refine (back77_ok (w:=w) (r:=r) (r1:=r1) (r2:=r2) t2 (Q.rd.kp Q.top kA2) (Q.cat.kp Q.top kA2) hC hvx hm hml).mono fun en W3 ⟨k3,t3,vv,hen,hor⟩=>?_
  subst hen
  refine zAZ ?_
  have k23:=k2.trans k3
  have kA3:=kA2.trans k3
  have hb12_3:=hb12_2.ext t2 k3
  have hB0_3:=hB0.ext t' k23
  rw [zAi u24 s56 hlt]
  simp only [zAA]
  generalize hy:zCP c l p.1=y at hor
  have hone2:(zGj (y,vv)).all zAe=true:=by
   rcases hor with ⟨rfl,_⟩ | ⟨bv2,rfl,_⟩
   ·unfold zGj; rw [hv]; rfl
   ·rfl
  refine zB2 s56 (a:=⟨b0,0+i*2,none⟩) (ws:=zGj (y,vv)) hone2 rfl hB0_3 (by show 0+i*2+2≤_; rw [hcl,hll]; omega) fun W4 hu4 hB4=>?_
  have hu4:Upd b0 W3 W4:=hu4
  have hset:(qs++ps.drop i).set i (y,vv)=(qs++[(y,vv)])++ps.drop (i+1):=by
   rw [hdrop,List.set_append_right _ _ (by omega),hql,Nat.sub_self]
   simp
  have hB4:Blk W4 b0 56 (((qs++[(y,vv)])++ps.drop (i+1)).flatMap zGj):=by
   rw [←hset,←flat_put (by rw [hll]; exact hlt)]
   exact hB4
  have hne12:b12≠b0:=by
   rintro rfl
   have:=zAs hb12' hB0; cases this
  have hb0l:=hB0_3.lt t3
  have t4:=t3.upd hb0l hu4
  have l15:∀ W0,Kp W2 W0→ld prog 24 (.pointer (some ⟨b12,0,none⟩)) W0=some (.slice (some ⟨b0,0,none⟩) ps.length ps.length):=fun W0 k0=>zAC a24 (a:=⟨b12,0,none⟩) ((hb12_2.ext t2 k0).cell rfl)
  refine ⟨by simp only [zA3 (vs:=zGj p) (a:=⟨W'.sz,0,none⟩) a56 s56 rfl (by omega) hB15.cells,l15 W2 (.refl _),l15 W3 k3,ld83 ((Q.rr.ext Q.top kA2)),ld78 (Q.k.ext Q.top kA2),and_self],trivial,?_⟩
  simp only [f19_k13,qKn,qKr,qKx,qKp,bKn,bKr,bKp,bKx,tKn,tKr,tKx,tKp,zKn,zKr,zKx,zKp]
  simp only [eKc,eKn,eKa,Nat.reduceEqDiff,↓reduceIte,gKz,gKs,dKs,and_self,h39,zAX,zAA,qKn,qKr,qKx,qKp,bKn,bKr,bKp,bKx,tKn,tKr,tKx,tKp,zKn,zKr,zKx,zKp]
  have keep3:∀ {j:Nat} {ws:List Value},Blk W3 j 3 ws→Blk W4 j 3 ws:=fun {j ws} hB=>hB.congr (hu4.obj j (by
   rintro rfl
   have:=zAs hB hB0_3; cases this))
  refine ⟨hlt,trivial,kA3.upd (by omega) hu4,t4,hb12_3.congr (hu4.obj _ hne12),?_,?_,?_,?_,?_,?_,qs++[(y,vv)],by simp [hql],⟨?_,hH'.new,fun q hq=>?_⟩,?_⟩
  ·simp only [eKc,eKn,eKa,Nat.reduceEqDiff,↓reduceIte,gKz,gKs,dKs,and_self,h9]
  ·simp only [eKc,eKn,eKa,Nat.reduceEqDiff,↓reduceIte,gKz,gKs,dKs,and_self,h11]
  ·simp only [eKc,eKn,eKa,Nat.reduceEqDiff,↓reduceIte,gKz,gKs,dKs,and_self,h12]
  ·simp only [eKc,eKn,eKa,Nat.reduceEqDiff,↓reduceIte,gKz,gKs,dKs,and_self,h37]
  ·simp only [eKc,eKn,eKa,Nat.reduceEqDiff,↓reduceIte,gKz,gKs,dKs,and_self,h38]
  ·rw [zCi (by omega)]
  ·refine Own.some hB4 ?_
   rw [zDx,←hset,List.length_set,hll]
  ·have old:∀ q,q ∈ qs++ps.drop i→∃ bv,q.2=.slice (some ⟨bv,0,none⟩) q.1.vals.length q.1.vals.length∧Blk W4 bv 3 (zCo q.1.vals)∧B≤bv:=fun q hq=>by
    obtain ⟨bq,h1,h2,h3⟩:=hH'.pv q hq
    exact ⟨bq,h1,keep3 (h2.ext t' k23),h3⟩
   rw [List.append_assoc] at hq
   rcases List.mem_append.1 hq with hq | hq
   ·exact old q (List.mem_append_left _ hq)
   ·rcases List.mem_append.1 hq with hq | hq
    ·cases List.mem_singleton.1 hq
     rcases hor with ⟨h1,h2⟩ | ⟨bv2,h1,h2,h3⟩
     ·refine ⟨bv,?_,?_,hBB⟩
      ·show vv=_
       rw [h1,hv]
       show _=Value.slice _ y.vals.length y.vals.length
       rw [h2]
      ·show Blk W4 bv 3 (zCo y.vals)
       rw [h2]
       exact keep3 (hBv.ext t' k23)
     ·have:=k2.sz
      have:=zIX t' hH'.own (⟨_,_,_,rfl,rfl⟩:zA2 (.slice (some ⟨b0,0,none⟩) ps.length ps.length) b0)
      exact ⟨bv2,h1,keep3 h2,by omega⟩
    ·exact old q (List.mem_append_right _ (by rw [hdrop]; exact List.mem_cons_of_mem _ hq))
  ·rw [List.map_append,hqs,List.take_add_one,hp,List.map_append,←hy]
   rfl
end Go.Ce
namespace Go.Ce
open Go Go.Proofs Go.Proofs.Tryz
theorem z24':zer prog 24=some (.slice none 0 0):=by kernel_rfl
theorem HeapAt.low {B B':Nat} {W:CW} {v:Value} {ps:List (Thg × Value)} (h:HeapAt B W v ps) (hB:B'≤B):HeapAt B' W v ps:=⟨h.own,fun b l c e=>by have:=h.new b l c e; omega,fun p hp=>by
 obtain ⟨bv,h1,h2,h3⟩:=h.pv p hp
 exact ⟨bv,h1,h2,by omega⟩⟩
def zFN (c:List Shp) (l:List Spc) (b:List UInt8):List Thg × Int × Int :=
 if zA8 c=false then ([],0,210) else if zAu c l=false then ([],0,212) else if 100000<b.length then ([],0,2) else match zAp b c (zIf c l) 0 with
 | .error e=>([],0,e)
 | .ok (xs,_)=>(xs.map (zCP c l),min (xs.length:Int) 1,0)
def ReadPost (r:List Thg × Int × Int) (W:CW):Ending→CW→Prop:=fun en W'=>Kp W W'∧Top W'∧∃ v qs,en=.returned (.tuple #[v,.int .i64 r.2.1,.int .i64 r.2.2])∧HeapAt W.sz W' v qs∧qs.map (·.1)=r.1∧∀ q,q ∈ qs→BdT q.1
structure BsIn (A:CW) (vb:Value) (b:List UInt8):Prop where
 sl:∃ a cap,vb=.slice a b.length cap∧b.length≤cap∧∀ i x,b[i]?=some x→∃ p,a=some p∧RByte A p.block (p.off+i*1) x
theorem BsIn.kp {A W:CW} {vb:Value} {b:List UInt8} (h:BsIn A vb b) (ht:Top A) (k:Kp A W):BsIn W vb b:=by
 obtain ⟨a,cap,h1,h2,h3⟩:=h.sl
 exact ⟨a,cap,h1,h2,fun i x hx=>by
  obtain ⟨p,q1,q2⟩:=h3 i x hx
  exact ⟨p,q1,k.cell ht q2⟩⟩
theorem do73_ok {A W:CW} {bk br r1 r2 w r b12 rb:Nat} {vb:Value} {b:List UInt8} {c:List Shp} {l:List Spc} (Q:AskIn A bk br r1 r2 w r c l) (I:RdIn A vb b) (h:Rd A W rb vb 0) (hb12:Blk W b12 24 [.slice none 0 0]) (hAb:A.sz≤b12) (hne:b12≠rb) (hok:zA8 c=true) (hC:Cat c) {K:Value→CW→Prop} {KP:List PanicEntry→CW→Prop}
  (hk:∀ W' v xs at' ps,zAp b c (zIf c l) 0=.ok (xs,at')→Chg (fun j=>j=rb∨j=b12) W W'→Top W'→Blk W' b12 24 [v]→HeapAt W.sz W' v ps→ps.map (·.1)=xs→K (.tuple #[]) W')
  (hp:∀ W' x,zAp b c (zIf c l) 0=.error x→Chg (RdS rb) W W'→Top W'→KP (zB0 x) W') :
  zBn prog pkL (.func (.func 73) #[] #[.pointer (some ⟨bk,0,none⟩),.pointer (some ⟨br,0,none⟩),.pointer (some ⟨b12,0,none⟩)]) [.pointer (some ⟨rb,0,none⟩)] W K KP:=by
 refine zDS Tryz.func73 (by kernel_rfl) ?_
 refine f73_w (v0:=.pointer (some ⟨rb,0,none⟩)) (v1:=.pointer (some ⟨bk,0,none⟩)) (v2:=.pointer (some ⟨br,0,none⟩)) (v3:=.pointer (some ⟨b12,0,none⟩)) ?_
 rw [f73_c]
 rw [ld78 (Q.k.ext Q.top h.kp)]
 simp only [zAA]
 refine (things74_ok (c:=c) I h (Nat.zero_le _) (ask75_ok Q) (fun s hs=>(askR_some hs).1) Q.cat hok hC).mono fun en W1 ⟨k1,t1,hr⟩=>?_
 cases hth:zAp b c (zIf c l) 0 with
 | error x =>
  rw [hth] at hr
  simp only at hr
  subst hr
  exact hp W1 x hth k1 t1
 | ok r =>
  obtain ⟨xs,at'⟩:=r
  rw [hth] at hr
  obtain ⟨v,hen,⟨ps,h1,h2⟩,_⟩:=hr
  subst hen
  refine zAZ ?_
  have hB1:=k1.blk h.top (b:=b12) hne hb12
  refine zAV s24 (a:=⟨b12,0,none⟩) (v:=v) (zHo h2.own) hB1 (by simp) fun W2 hu hB2=>?_
  have hu:Upd b12 W1 W2:=hu
  have hl:=hb12.lt h.top
  refine zEW (by kernel_rfl) _ _ (.inl rfl) _ _ (hk W2 v xs at' ps hth ⟨by rw [hu.sz]; exact k1.sz,fun j hj hS=>?_⟩ (t1.upd (hB1.lt t1) hu) hB2 (h2.of fun j o hj ho _=>by rw [hu.obj j (by omega)]; exact ho) h1)
  rw [hu.obj j (fun e=>hS (.inr e)),k1.obj j hj (fun e=>hS (.inl e))]
theorem read19_ok {v0 v1 vb:Value} {c:List Shp} {l:List Spc} {b:List UInt8} {W:CW} (ht:Top W) (hc:IsSl 5 (RShp W) v0 c) (hC:Cat c) (hl:IsSl 3 (RSpc W) v1 l) (hll:l.length<100000) (hml:∀ s,s ∈ l→s.map.length<100000) (hb:BsIn W vb b) :
  WCall prog pkL 19 [v0,v1,vb] W (ReadPost (zFN c l b) W):=by
 refine f19_w ?_
 rw [f19_c]
 generalize hKK:zAD prog Tryz.f19 (ReadPost (zFN c l b) W)=KK
 have hfin:∀ (e':Env) W' v n m qs,Kp W W'→Top W'→e' 6=v→e' 7=.int .i64 n→e' 8=.int .i64 m→HeapAt W.sz W' v qs→(∀ q,q ∈ qs→BdT q.1)→zFN c l b=(qs.map (·.1),n,m)→KK .ret e' [] W':=by
  intro e' W' v n m qs k t h6 h7 h8 hH hbd hn
  rw [←hKK,f19_leave,h6,h7,h8,hn]
  exact ⟨k,t,v,qs,rfl,hH,rfl,hbd⟩
 have hnil:∀ W',HeapAt W.sz W' (.slice none 0 0) []:=fun W'=>⟨Own.nil,Newer.nil _ _ _,fun p hp=>by cases hp⟩
 refine (known_ok ht hc hC).mono fun en W1 ⟨k1,t1,r1,r2,hen,hr1,hr2,hcat⟩=>?_
 subst hen
 refine zAZ ?_
 refine zAl (zBN _ _) ?_
 refine zAl (zBM _ _) ?_
 unfold zJT
 refine zB1 (ws:=[.map (some r1),.map (some r2)]) z78 s78 rfl rfl rfl t1 fun W3 k3 t3 z3 hB9=>?_
 have k03:=k1.trans k3
 simp only [zAT,zAA]
 cases hok:zA8 c with
 | false =>
  simp only [Bool.not_false,zAy]
  exact hfin _ W3 _ 0 210 [] k03 t3 rfl rfl rfl (hnil _) (fun q hq=>by cases hq) (by unfold zFN; rw [if_pos hok]; rfl)
 | true =>
  simp only [Bool.not_true,zAW]
  have hcat3:=(hcat hok).kp t1 k3
  rw [ld78 hB9]
  simp only [zAA]
  refine (rules_ok t3 hcat3 hC (hl.imp fun _ _ _ hr=>hr.kp ht k03) hll hml).mono fun en W4 ⟨k4,t4,w,r,hen,hsp⟩=>?_
  subst hen
  refine zAZ ?_
  refine zAl (zBN _ _) ?_
  refine zAl (zBM _ _) ?_
  refine zB1 (ws:=[.map (some w),.map (some r)]) z83 s83 rfl rfl rfl t4 fun A k7 tA z7 hB11=>?_
  have k3A:=k4.trans k7
  have k0A:=k03.trans k3A
  simp only [zAT,zAA]
  cases hs:zAu c l with
  | false =>
   simp only [Bool.not_false,zAy]
   exact hfin _ A _ 0 212 [] k0A tA rfl rfl rfl (hnil _) (fun q hq=>by cases hq) (by unfold zFN; rw [if_neg (by rw [hok]; simp),if_pos hs]; rfl)
  | true =>
   simp only [Bool.not_true,zAW]
   obtain ⟨hsw,hsr⟩:=hsp hs
   have Q:AskIn A W1.sz W4.sz r1 r2 w r c l:=⟨tA,hB9.ext t3 k3A,hB11,hcat3.kp t3 k3A,hsw.kp t4 k7,hsr.kp t4 k7⟩
   have hbA:=hb.kp ht k0A
   refine zFL z24' s24 tA fun T k8 tT zT hB12=>?_
   have hB12:Blk T A.sz 24 [.slice none 0 0]:=hB12
   obtain ⟨a,cap,hvb,hcap,hbt⟩:=hbA.sl
   rw [hvb]
   have hrd:zFN c l b=(if 100000<b.length then ([],0,2) else match zAp b c (zIf c l) 0 with
    | .error e=>([],0,e)
    | .ok (xs,_)=>(xs.map (zCP c l),min (xs.length:Int) 1,0)):=by
    unfold zFN; rw [if_neg (by rw [hok]; simp),if_neg (by rw [hs]; simp)]
   have hxs:∀ x,zAp b c (zIf c l) 0=.error x→x≠0:=fun x=>thingsR_err askR_err
   have hTn:Kp A T:=k8
   refine (tried72_ok (Q:=fun en W'=>Kp A W'∧Top W'∧∃ x,en=.returned (.int .i64 x)∧((x≠0∧zFN c l b=([],0,x))∨(x=0∧∃ v xs at' ps,zFN c l b=(xs.map (zCP c l),min (xs.length:Int) 1,0)∧zAp b c (zIf c l) 0=.ok (xs,at')∧Blk W' A.sz 24 [v]∧HeapAt A.sz W' v ps∧ps.map (·.1)=xs))) tT (fun hbig W' k t=>⟨k8.trans k,t,2,rfl,.inl ⟨by decide,by rw [hrd,if_pos hbig]⟩⟩) (fun hlim W0 k t hz hBe hBr=>?_)).mono fun en W' ⟨kk,tt,x,hen,hor⟩=>?_
   ·have hkA:=k8.trans k
    have hrd':zFN c l b=(match zAp b c (zIf c l) 0 with
     | .error e=>([],0,e)
     | .ok (xs,_)=>(xs.map (zCP c l),min (xs.length:Int) 1,0)):=by rw [hrd,if_neg (by omega)]
    have I:RdIn A (.slice a b.length cap) b:=⟨tA,⟨a,cap,rfl,hcap,hbt⟩,hlim⟩
    have R:Rd A W0 (T.sz+1) (.slice a b.length cap) 0:=⟨hkA,t,by omega,hBr⟩
    refine do73_ok Q I R (hB12.ext tT k) (Nat.le_refl _) (by omega) hok hC (fun W3 v xs at' ps hth hch t3 hB3 hH3 hps=>?_) (fun W4 x hth hch t4=>?_)
    ·refine ⟨t3,hch.blk t (fun h=>by omega) hBe,fun W' hu t'=>⟨⟨?_,fun j hj=>?_⟩,t',0,rfl,.inr ⟨rfl,v,xs,at',ps,?_,hth,?_,?_,hps⟩⟩⟩
     ·have h1:=hkA.sz; have h2:=hch.sz; have h3:=hu.sz; omega
     ·have h1:=hkA.sz; have h2:=hch.sz
      rw [hu.obj j (by omega) (by omega),hch.obj j (by omega) (fun h=>by omega),hkA.obj j hj]
     ·rw [hrd',hth]
     ·exact hB3.congr (hu.obj _ (hB3.lt t3) (by omega))
     ·exact (hH3.of fun j o hj ho _=>by rw [hu.obj j (t3 _ _ ho) (by omega)]; exact ho).low hkA.sz
    ·refine ⟨x,rfl,t4,hch.blk t (fun h=>by have:T.sz=T.sz+1:=h; omega) hBe,fun W' hu t'=>⟨⟨?_,fun j hj=>?_⟩,t',x,rfl,.inl ⟨hxs x hth,by rw [hrd',hth]⟩⟩⟩
     ·have h1:=hkA.sz; have h2:=hch.sz; have h3:=hu.sz; omega
     ·have h1:=hkA.sz; have h2:=hch.sz
      rw [hu.obj j (by omega) (by omega),hch.obj j (by omega) (fun h=>by have:j=T.sz+1:=h; omega),hkA.obj j hj]
   ·subst hen
    refine zAZ ?_
    simp only [zB6,zAA]
    rcases hor with ⟨hx,hr⟩ | ⟨rfl,v,xs,at',ps,hr,hth,hB,hH,hps⟩
    ·rw [show (x != 0)=true by simpa using hx,zAy]
     exact hfin _ W' _ 0 x [] (k0A.trans kk) tt rfl rfl rfl (hnil _) (fun q hq=>by cases hq) hr
    ·rw [show ((0:Int) != 0)=false from rfl,zAW]
     rw [zAC a24 (a:=⟨A.sz,0,none⟩) (hB.cell rfl)]
     simp only [zAA]
     obtain ⟨hrow,h1000⟩:=thingsR_row hth
     have hbd:=thingsR_bd hth
     subst hps
     rw [List.length_map] at h1000
     have hlen:zAr prog 24 v W'=some (.int .i64 ps.length):=by
      have:=zDx ps
      exact zEQ u24 hH.own (by omega) (by omega)
     rw [hlen]
     simp only [zAA]
     refine f19_loop (c:=c) (l:=l) (ps:=ps) Q hC hs hml (fun p hp=>hrow _ (List.mem_map_of_mem hp)) (fun p hp=>hbd _ (List.mem_map_of_mem hp)) h1000 kk tt (Nat.le_refl _) (Nat.le_refl _) hB hH rfl rfl rfl rfl rfl rfl (fun e' W2 qs kA2 t2 hB2 hH2 hqs h12=>?_)
     simp only [f19_k12,qKn,qKr,qKx,qKp,bKn,bKr,bKp,bKx,tKn,tKr,tKx,tKp,zKn,zKr,zKx,zKp]
     rw [h12]
     have hl2:ld prog 24 (.pointer (some ⟨A.sz,0,none⟩)) W2=some v:=zAC a24 (a:=⟨A.sz,0,none⟩) (hB2.cell rfl)
     rw [hl2]
     have hql:qs.length=ps.length:=by
      have:=congrArg List.length hqs
      simpa using this
     have hlen2:zAr prog 24 v W2=some (.int .i64 qs.length):=by
      have:=zDx qs
      exact zEQ u24 hH2.own (by omega) (by omega)
     simp only [zAA]
     rw [hlen2]
     simp only [zAA]
     rw [w_min]
     simp only [wVW_some]
     refine ⟨by simp only [hl2,and_self],trivial,?_⟩
     refine hfin _ W2 v (min (qs.length:Int) 1) 0 qs (k0A.trans kA2) t2 rfl rfl rfl (hH2.low (by have:=k0A.sz; omega)) (fun q hq=>?_) (by rw [hr,List.map_map,hqs,List.length_map,hql]; rfl)
     have:q.1 ∈ ps.map (fun p=>zCP c l p.1):=by rw [←hqs]; exact List.mem_map_of_mem hq
     obtain ⟨p,hp,he⟩:=List.mem_map.1 this
     rw [←he]
     exact backP_bd (hbd _ (List.mem_map_of_mem hp))
end Go.Ce
namespace Go.Ce
open Go Go.Proofs Go.Proofs.Tryz
def bI (b:List UInt8):List Int:=b.map fun x=>((x.toNat:Nat):Int)
theorem zDF (b:List UInt8):(bI b).length=b.length:=List.length_map _
structure Seg (b:List UInt8) (i j:Nat) (e:List Int):Prop where
 le:j≤b.length
 ij:j=i+e.length
 eq:(bI b).drop i=e++(bI b).drop j
theorem Seg.nil {b:List UInt8} {i:Nat} (h:i≤b.length):Seg b i i []:=⟨h,rfl,rfl⟩
theorem Seg.app {b:List UInt8} {i j k:Nat} {e f:List Int} (h:Seg b i j e) (g:Seg b j k f):Seg b i k (e++f):=⟨g.le,by rw [g.ij,h.ij,List.length_append]; omega,by rw [h.eq,g.eq,List.append_assoc]⟩
theorem Seg.one {b:List UInt8} {i:Nat} {x:UInt8} (h:b[i]?=some x):Seg b i (i+1) [((x.toNat:Nat):Int)]:=by
 obtain ⟨hl,he⟩:=List.getElem?_eq_some_iff.1 h
 refine ⟨hl,rfl,?_⟩
 unfold bI
 rw [←List.map_drop,←List.map_drop,List.drop_eq_getElem_cons hl,he]
 rfl
theorem Seg.split {b:List UInt8} {i k:Nat} {e f:List Int} (h:Seg b i k (e++f)):∃ j,Seg b i j e∧Seg b j k f:=by
 have hl:=h.ij
 have hle:=h.le
 rw [List.length_append] at hl
 have hd:(bI b).drop (i+e.length)=f++(bI b).drop k:=by
  rw [←List.drop_drop,h.eq,List.append_assoc,List.drop_left]
 exact ⟨i+e.length,⟨by omega,rfl,by rw [h.eq,hd,List.append_assoc]⟩,⟨h.le,by omega,hd⟩⟩
theorem Seg.head {b:List UInt8} {i k:Nat} {n:Int} {f:List Int} (h:Seg b i k (n::f)):∃ x,b[i]?=some x∧n=((x.toNat:Nat):Int)∧Seg b (i+1) k f:=by
 have hl:=h.ij
 have hle:=h.le
 rw [List.length_cons] at hl
 have hil:i<b.length:=by omega
 have he:=h.eq
 unfold bI at he
 rw [←List.map_drop,List.drop_eq_getElem_cons hil,List.map_cons,List.cons_append] at he
 injection he with h1 h2
 refine ⟨b[i],List.getElem?_eq_getElem hil,h1.symm,⟨hle,by omega,?_⟩⟩
 unfold bI
 rw [←List.map_drop]
 exact h2
theorem numP_lt {n:Nat} (h:n<128):zBk n=[(n:Int)]:=by unfold zBk; rw [if_pos h]
theorem numP_ge {n:Nat} (h:128≤n):zBk n=((n % 128+128:Nat):Int)::zBk (n / 128):=by
 conv=>lhs; unfold zBk
 rw [if_neg (by omega)]
theorem numG_seg {b:List UInt8}:∀ {f at_ n sh:Nat} {r:Nat × Nat},zIS b f at_ n sh=.ok r→∃ v,r.1=n+v*2 ^ sh∧v<128 ^ f∧(0<sh→0<v)∧Seg b at_ r.2 (zBk v)
 | 0,_,_,_,_,h=>by cases h
 | f+1,at_,n,sh,r,h=>by
  unfold zIS at h
  split at h
  ·cases h
  ·rename_i x hx
   have hp:(1:Nat)≤128 ^ f:=Nat.one_le_pow _ _ (by omega)
   have hxl:=x.toNat_lt
   split at h
   ·rename_i hlt
    split at h
    ·rename_i h0
     cases h
     exact ⟨x.toNat,rfl,by rw [Nat.pow_succ]; omega,fun hs=>by omega,by rw [numP_lt hlt]; exact Seg.one hx⟩
    ·cases h
   ·rename_i hge
    obtain ⟨v,h1,h2,h3,h4⟩:=numG_seg h
    have hv:=h3 (by omega)
    refine ⟨x.toNat % 128+128*v,?_,?_,fun _=>by omega,?_⟩
    ·rw [h1,Nat.pow_add,Nat.add_mul]
     have:v*(2 ^ sh*2 ^ 7)=128*v*2 ^ sh:=by
      rw [show (2:Nat) ^ 7=128 from rfl,Nat.mul_comm (2 ^ sh) 128,←Nat.mul_assoc,Nat.mul_comm v 128]
     omega
    ·rw [Nat.pow_succ]; omega
    ·rw [numP_ge (by omega),show (x.toNat % 128+128*v) % 128+128=x.toNat by omega,show (x.toNat % 128+128*v) / 128=v by omega]
     exact (Seg.one hx).app h4
theorem numG_of {b:List UInt8}:∀ {f at_ n sh v j:Nat},0<f→v<128 ^ f→(0<v∨sh=0)→Seg b at_ j (zBk v)→zIS b f at_ n sh=.ok (n+v*2 ^ sh,j)
 | f+1,at_,n,sh,v,j,_,h,h0,hs=>by
  unfold zIS
  by_cases hv:v<128
  ·rw [numP_lt hv] at hs
   obtain ⟨x,hx,he,hq⟩:=hs.head
   have:v=x.toNat:=by omega
   subst this
   rw [hx]
   simp only [if_pos hv]
   rw [if_pos h0]
   have:=hq.ij
   rw [List.length_nil] at this
   rw [this]
  ·rw [numP_ge (by omega)] at hs
   obtain ⟨x,hx,he,hq⟩:=hs.head
   have:v % 128+128=x.toNat:=by omega
   rw [hx]
   simp only
   rw [if_neg (by omega),numG_of (Nat.pos_of_ne_zero (by rintro rfl; omega)) (by rw [Nat.pow_succ] at h; omega) (.inl (by omega)) hq,show x.toNat % 128=v % 128 by omega]
   congr 2
   rw [Nat.pow_add,show (2:Nat) ^ 7=128 from rfl,Nat.mul_comm (2 ^ sh) 128,←Nat.mul_assoc,Nat.add_assoc,←Nat.add_mul]
   congr 2; omega
theorem zEv {b:List UInt8} {at_:Nat} {m:Int} {n j:Nat} (h:zDT b at_ m=.ok (n,j)):Seg b at_ j (zBk n)∧(n:Int)≤m:=by
 unfold zDT at h
 split at h
 ·cases h
 ·rename_i n' j' hg
  split at h
  ·rename_i hle
   cases h
   obtain ⟨v,h1,_,_,h4⟩:=numG_seg hg
   have:n=v:=by simpa using h1
   subst this
   exact ⟨h4,hle⟩
  ·cases h
theorem zC9 {b:List UInt8} {at_:Nat} {m:Int} {n j:Nat} (h:Seg b at_ j (zBk n)) (hm:(n:Int)≤m) (hn:n<4398046511104):zDT b at_ m=.ok (n,j):=by
 unfold zDT
 rw [numG_of (f:=6) (n:=0) (sh:=0) (by omega) (by omega) (.inr rfl) h]
 simp only [Nat.zero_add,Nat.pow_zero,Nat.mul_one]
 rw [if_pos hm]
inductive ValsC (c:List Shp) (ix many:Nat):Nat→Nat→List Int→Nat→Prop
 | nil (k fd:Nat):ValsC c ix many k fd [] fd
 | ref {k fd v:Nat} {vs:List Int} {fd':Nat} (hk:zA5 c ix k=2) (hv:v≤min (fd+1) many) (h:ValsC c ix many (k+1) (max fd v) vs fd'):ValsC c ix many k fd ((v:Int)::vs) fd'
 | word {k fd:Nat} {v:Int} {vs:List Int} {fd':Nat} (hk:zA5 c ix k≠2) (h1:-1000000000≤v) (h2:v≤1000000000) (h:ValsC c ix many (k+1) fd vs fd'):ValsC c ix many k fd (v::vs) fd'
def encV (c:List Shp) (ix:Nat):Nat→List Int→List Int
 | _,[]=>[]
 | k,v::vs=>(if zA5 c ix k=2 then zBk v.toNat else zBk (zFK v).toNat)++encV c ix (k+1) vs
theorem word_unw (n:Nat):(zFK (unwP n)).toNat=n:=by
 unfold zFK unwP
 split <;> split <;> omega
theorem unw_word (v:Int):unwP (zFK v).toNat=v:=by
 unfold zFK unwP
 split <;> split <;> omega
theorem unw_bd {n:Nat} (h:n≤2000000000):-1000000000≤unwP n∧unwP n≤1000000000:=by
 unfold unwP
 split <;> omega
theorem word_bd {v:Int} (h1:-1000000000≤v) (h2:v≤1000000000):(zFK v).toNat≤2000000000:=by
 unfold zFK
 split <;> omega
theorem zDb {b:List UInt8} {c:List Shp} {ix many:Nat}:∀ {m k at_ fd:Nat} {vs:List Int} {r:List Int × Nat × Nat},at_≤b.length→zCO b c ix many m k at_ fd vs=.ok r→∃ new,r.1=vs++new∧new.length=m∧ValsC c ix many k fd new r.2.1∧Seg b at_ r.2.2 (encV c ix k new)
 | 0,k,at_,fd,vs,r,ha,h=>by cases h; exact ⟨[],by simp,rfl,.nil _ _,Seg.nil ha⟩
 | m+1,k,at_,fd,vs,r,ha,h=>by
  unfold zCO at h
  split at h
  ·rename_i hk
   split at h
   ·cases h
   ·rename_i n a hn
    obtain ⟨h1,h2⟩:=zEv hn
    obtain ⟨new,g1,g2,g3,g4⟩:=zDb h1.le h
    refine ⟨(n:Int)::new,by rw [g1]; simp,by simp [g2],.ref hk (by omega) g3,?_⟩
    rw [encV,if_pos hk,Int.toNat_natCast]
    exact h1.app g4
  ·rename_i hk
   split at h
   ·cases h
   ·rename_i n a hn
    obtain ⟨h1,h2⟩:=zEv hn
    obtain ⟨new,g1,g2,g3,g4⟩:=zDb h1.le h
    have hbd:=unw_bd (n:=n) (by omega)
    refine ⟨unwP n::new,by rw [g1]; simp,by simp [g2],.word hk hbd.1 hbd.2 g3,?_⟩
    rw [encV,if_neg hk,word_unw]
    exact h1.app g4
theorem valsL_of {b:List UInt8} {c:List Shp} {ix many:Nat} (hm:many≤1000) {k fd fd':Nat} {new:List Int} (h:ValsC c ix many k fd new fd'):∀ {at_ j:Nat} {vs:List Int},Seg b at_ j (encV c ix k new)→zCO b c ix many new.length k at_ fd vs=.ok (vs++new,fd',j):=by
 induction h with
 | nil k fd =>
  intro at_ j vs hs
  have:=hs.ij
  rw [show encV c ix k []=[] from rfl] at this
  rw [this,List.append_nil]; rfl
 | @ref k fd v vs' fd' hk hv h ih =>
  intro at_ j vs hs
  rw [encV,if_pos hk,Int.toNat_natCast] at hs
  obtain ⟨a,h1,h2⟩:=hs.split
  rw [List.length_cons,zCO,if_pos hk,zC9 h1 (by omega) (by omega)]
  simp only
  rw [ih h2]; simp
 | @word k fd v vs' fd' hk hv1 hv2 h ih =>
  intro at_ j vs hs
  rw [encV,if_neg hk] at hs
  obtain ⟨a,h1,h2⟩:=hs.split
  have:=word_bd hv1 hv2
  rw [List.length_cons,zCO,if_neg hk,zC9 h1 (by omega) (by omega)]
  simp only
  rw [ih h2,unw_word]; simp
end Go.Ce
namespace Go.Ce
open Go Go.Proofs Go.Proofs.Tryz
theorem idx_nodup {ts:List ByteArray} (hn:ts.Nodup) {t:Nat} {s:ByteArray} (h:ts[t]?=some s):zHu ts (fun x=>decide (x=s))=t:=by
 obtain ⟨hl,he⟩:=List.getElem?_eq_some_iff.1 h
 refine zEX hl (by rw [he]; simp) fun j x hj hx=>?_
 obtain ⟨hjl,hje⟩:=List.getElem?_eq_some_iff.1 hx
 have:x≠s:=by
  rintro rfl
  have:=(List.getElem_inj hn).1 (hje.trans he.symm)
  omega
 simpa using this
inductive ThingsC (c:List Shp) (ts:List ByteArray) (many:Nat):Nat→Nat→Nat→List Thg→Nat→Nat→Prop
 | nil (i u f:Nat):ThingsC c ts many i u f [] u f
 | cons {i u f:Nat} {x:Thg} {xs:List Thg} {t ix f1 u' f':Nat} (hi:i<f) (ht:ts[t]?=some x.type) (htu:t≤u) (hx:zBQ c x.type=some ix) (hn:if zAL c ix≠0 then x.vals.length≤200 else x.vals.length=(zAw c ix).length) (hv:ValsC c ix many 0 f x.vals f1) (h:ThingsC c ts many (i+1) (if t=u then u+1 else u) f1 xs u' f'):ThingsC c ts many i u f (x::xs) u' f'
def zIa (c:List Shp) (ts:List ByteArray) (x:Thg):List Int:=match zBQ c x.type with
 | some i=>zBk (zHu ts fun y=>decide (y=x.type)).toNat++(if zAL c i≠0 then zBk x.vals.length else [])++encV c i 0 x.vals
 | none=>[]
theorem zIk {b:List UInt8} {c:List Shp} {ts:List ByteArray} {many:Nat} (hnd:ts.Nodup):∀ {m i at_ u f:Nat} {out:List Thg} {r:List Thg × Nat × Nat × Nat},at_≤b.length→zBi b c ts many m i at_ u f out=.ok r→∃ new,r.1=out++new∧new.length=m∧ThingsC c ts many i u f new r.2.1 r.2.2.1∧Seg b at_ r.2.2.2 (new.flatMap (zIa c ts))
 | 0,i,at_,u,f,out,r,ha,h=>by cases h; exact ⟨[],by simp,rfl,.nil _ _ _,Seg.nil ha⟩
 | m+1,i,at_,u,f,out,r,ha,h=>by
  unfold zBi at h
  split at h
  ·rename_i hi
   split at h
   ·cases h
   ·rename_i t a1 hn
    obtain ⟨s1,ht⟩:=zEv hn
    split at h
    ·cases h
    ·rename_i ty hty
     split at h
     ·cases h
     ·rename_i ix hix
      split at h
      ·cases h
      ·rename_i n a2 hnn
       have h2:Seg b a1 a2 (if zAL c ix≠0 then zBk n else [])∧(if zAL c ix≠0 then n≤200 else n=(zAw c ix).length):=by
        split at hnn
        ·rename_i he
         obtain ⟨q1,q2⟩:=zEv hnn
         rw [if_pos he,if_pos he]
         exact ⟨q1,by omega⟩
        ·rename_i he
         cases hnn
         rw [if_neg he,if_neg he]
         exact ⟨Seg.nil s1.le,rfl⟩
       split at h
       ·cases h
       ·rename_i vs f1 a3 hv
        obtain ⟨new,g1,g2,g3,g4⟩:=zDb h2.1.le hv
        rw [List.nil_append] at g1
        have g1:vs=new:=g1
        subst g1
        obtain ⟨nx,k1,k2,k3,k4⟩:=zIk hnd g4.le h
        refine ⟨⟨ty,vs⟩::nx,by rw [k1]; simp,by simp [k2],.cons (t:=t) (ix:=ix) hi hty (by omega) hix ?_ g3 k3,?_⟩
        ·have:=h2.2
         show if zAL c ix≠0 then vs.length≤200 else vs.length=(zAw c ix).length
         rw [g2]; exact this
        ·rw [List.flatMap_cons]
         refine Seg.app ?_ k4
         unfold zIa
         show Seg b at_ a3 (match zBQ c ty with | some i=>_ | none=>[])
         rw [hix]
         refine Seg.app (Seg.app (j:=a1) ?_ ?_) g4
         ·show Seg b at_ a1 (zBk (zHu ts fun y=>decide (y=ty)).toNat)
          rw [idx_nodup hnd hty]
          exact s1
         ·show Seg b a1 a2 (if zAL c ix≠0 then zBk vs.length else [])
          rw [g2]; exact h2.1
  ·cases h
theorem thingL_of {b:List UInt8} {c:List Shp} {ts:List ByteArray} {many:Nat} (hm:many≤1000) (hnd:ts.Nodup) (htl:ts.length≤100) {i u f u' f':Nat} {new:List Thg} (h:ThingsC c ts many i u f new u' f'):∀ {at_ j:Nat} {out:List Thg},Seg b at_ j (new.flatMap (zIa c ts))→zBi b c ts many new.length i at_ u f out=.ok (out++new,u',f',j):=by
 induction h with
 | nil i u f =>
  intro at_ j out hs
  have:=hs.ij
  rw [show List.flatMap (zIa c ts) []=[] from rfl] at this
  rw [this,List.append_nil]; rfl
 | @cons i u f x xs t ix f1 u' f' hi ht htu hx hn hv h ih =>
  intro at_ j out hs
  rw [List.flatMap_cons] at hs
  obtain ⟨a3,hs,hs'⟩:=hs.split
  unfold zIa at hs
  rw [hx] at hs
  obtain ⟨a2,hs,hsv⟩:=hs.split
  obtain ⟨a1,hst,hsn⟩:=hs.split
  have htlt:=(List.getElem?_eq_some_iff.1 ht).1
  rw [idx_nodup hnd ht] at hst
  have hst:Seg b at_ a1 (zBk t):=hst
  rw [List.length_cons,zBi,if_pos hi,zC9 hst (by omega) (by omega)]
  simp only
  rw [ht]
  simp only
  rw [hx]
  simp only
  have hn2:(if zAL c ix≠0 then zDT b a1 200 else .ok ((zAw c ix).length,a1))=.ok (x.vals.length,a2):=by
   split
   ·rename_i he
    rw [if_pos he] at hn hsn
    exact zC9 hsn (by omega) (by omega)
   ·rename_i he
    rw [if_neg he] at hn hsn
    have:=hsn.ij
    rw [hn,this]; rfl
  rw [hn2]
  simp only
  rw [valsL_of hm hv hsv]
  simp only
  rw [ih hs']
  simp
theorem sb_strOf (l:List UInt8):zD7 (zEA l)=bI l:=by
 unfold zD7 bI zEA sb
 simp
theorem zIp (l:List UInt8):(zEA l).size=l.length:=by
 unfold zEA
 show l.toArray.size=_
 simp
theorem strOf_sb (s:ByteArray):zEA (sb s)=s:=by
 unfold zEA sb
 simp
theorem Seg.take {b:List UInt8} {a n:Nat} (h:a+n≤b.length):Seg b a (a+n) (bI ((b.drop a).take n)):=by
 have hl:(bI ((b.drop a).take n)).length=n:=by rw [zDF,List.length_take,List.length_drop]; omega
 refine ⟨h,by rw [hl],?_⟩
 unfold bI
 rw [←List.map_drop,←List.map_drop,←List.map_append,←List.drop_drop,List.take_append_drop]
theorem Seg.bytes {b:List UInt8} {a j:Nat} {l:List UInt8} (h:Seg b a j (bI l)):(b.drop a).take l.length=l∧a+l.length=j∧j≤b.length:=by
 have h1:=h.ij
 rw [zDF] at h1
 refine ⟨?_,h1.symm,h.le⟩
 have he:((bI b).drop a).take l.length=bI l:=by
  rw [h.eq,List.take_append_of_le_length (by rw [zDF]; omega),List.take_of_length_le (by rw [zDF]; omega)]
 unfold bI at he
 rw [←List.map_drop,←List.map_take] at he
 have hinj:∀ (x y:List UInt8),x.map (fun x=>((x.toNat:Nat):Int))=y.map (fun x=>((x.toNat:Nat):Int))→x=y:=by
  intro x y hxy
  refine List.map_inj_right (f:=fun x:UInt8=>((x.toNat:Nat):Int)) (fun p q hpq=>?_) |>.1 hxy
  exact UInt8.toNat_inj.1 (Int.ofNat.inj hpq)
 exact hinj _ _ he
theorem zFv {b:List UInt8} {ask:ByteArray→Option Int}:∀ {k at_:Nat} {out:List ByteArray} {r:List ByteArray × Nat},at_≤b.length→zDq b ask k at_ out=.ok r→∃ new,r.1=out++new∧new.length=k∧(∀ s,s ∈ new→zDp s=true∧ask s=none)∧(out.Nodup→(out++new).Nodup)∧Seg b at_ r.2 (new.flatMap zD8)
 | 0,at_,out,r,ha,h=>by cases h; exact ⟨[],by simp,rfl,(by simp),(by simp),Seg.nil ha⟩
 | k+1,at_,out,r,ha,h=>by
  unfold zDq at h
  split at h
  ·cases h
  ·rename_i n a1 hn
   obtain ⟨s1,hn60⟩:=zEv hn
   split at h
   ·cases h
   ·rename_i a2 ht
    obtain ⟨rfl,hle⟩:=zHK ht
    split at h
    ·rename_i hs
     split at h
     ·cases h
     ·rename_i hask
      obtain ⟨new,g1,g2,g3,g4,g5⟩:=zFv hle h
      generalize hS:zEA ((b.drop a1).take n)=S at *
      refine ⟨S::new,by rw [g1]; simp,by simp [g2],?_,fun hnd=>?_,?_⟩
      ·intro s hs'
       rcases List.mem_cons.1 hs' with rfl | hs'
       ·exact ⟨hs.1,hask⟩
       ·exact g3 s hs'
      ·have:(out++[S]).Nodup:=by
        rw [List.nodup_append]
        refine ⟨hnd,List.pairwise_singleton _ _,fun x hx y hy=>?_⟩
        rw [List.mem_singleton.1 hy]
        rintro rfl
        have:=List.any_eq_false.1 hs.2 x hx
        simp at this
       have:=g4 this
       simpa using this
      ·rw [List.flatMap_cons]
       refine Seg.app ?_ g5
       unfold zD8
       refine Seg.app (j:=a1) ?_ ?_
       ·have:S.size=n:=by rw [←hS,zIp,List.length_take,List.length_drop]; omega
        rw [this]; exact s1
       ·rw [←hS,sb_strOf]
        exact Seg.take hle
    ·cases h
theorem headL_of {b:List UInt8} {ask:ByteArray→Option Int}:∀ {new:List ByteArray} {at_ j:Nat} {out:List ByteArray},(∀ s,s ∈ new→zDp s=true∧ask s=none)→(out++new).Nodup→Seg b at_ j (new.flatMap zD8)→zDq b ask new.length at_ out=.ok (out++new,j)
 | [],at_,j,out,_,_,hs=>by
  have:=hs.ij
  rw [show List.flatMap zD8 []=[] from rfl] at this
  rw [this,List.append_nil]; rfl
 | s::new,at_,j,out,hn,hnd,hs=>by
  rw [List.flatMap_cons] at hs
  obtain ⟨a2,hs,hs'⟩:=hs.split
  unfold zD8 at hs
  obtain ⟨a1,h1,h2⟩:=hs.split
  obtain ⟨hsy,hask⟩:=hn s (by simp)
  have hsz:s.size≤60:=by
   unfold zDp at hsy
   simp only [Bool.and_eq_true,decide_eq_true_eq] at hsy
   omega
  have hb:zD7 s=bI (sb s):=rfl
  rw [hb] at h2
  obtain ⟨q1,q2,q3⟩:=h2.bytes
  have hl:(sb s).length=s.size:=by rw [←zIp,strOf_sb]
  rw [hl] at q1 q2
  have hS:zEA ((b.drop a1).take s.size)=s:=by rw [q1,strOf_sb]
  rw [List.length_cons,zDq,zC9 h1 (by omega) (by omega)]
  simp only
  rw [zD9,if_pos (by omega)]
  simp only
  have hany:(out.any fun x=>decide (x=s))=false:=by
   refine List.any_eq_false.2 fun x hx=>?_
   have:=(List.nodup_append.1 hnd).2.2 x hx s (by simp)
   simpa using this
  rw [hS,if_pos ⟨hsy,hany⟩,hask]
  rw [q2,headL_of (fun x hx=>hn x (by simp [hx])) (by simpa using hnd) hs']
  simp
structure Canon (c:List Shp) (ask:ByteArray→Option Int) (ts:List ByteArray) (xs:List Thg):Prop where
 tsl:ts.length≤100
 sym:∀ s,s ∈ ts→zDp s=true∧ask s=none
 nodup:ts.Nodup
 len:xs.length≤1000
 scan:ThingsC c ts xs.length 0 0 (min xs.length 1) xs ts.length xs.length
def zEi (c:List Shp) (ts:List ByteArray) (xs:List Thg):List Int:=[1]++zBk ts.length++ts.flatMap zD8++zBk xs.length++xs.flatMap (zIa c ts)
theorem Seg.all {b:List UInt8} {e:List Int}:Seg b 0 b.length e↔bI b=e:=by
 constructor
 ·intro h
  have:=h.eq
  rw [List.drop_zero,List.drop_of_length_le (by rw [zDF]; omega),List.append_nil] at this
  exact this
 ·rintro rfl
  refine ⟨by omega,by rw [zDF]; omega,?_⟩
  rw [List.drop_zero,List.drop_of_length_le (by rw [zDF]; omega),List.append_nil]
theorem thingsR_of {b:List UInt8} {c:List Shp} {ask:ByteArray→Option Int} {ts:List ByteArray} {xs:List Thg} (h:Canon c ask ts xs) (hb:bI b=zEi c ts xs):zAp b c ask 0=.ok (xs,b.length):=by
 rw [←Seg.all] at hb
 unfold zEi at hb
 obtain ⟨a4,hb,h5⟩:=hb.split
 obtain ⟨a3,hb,h4⟩:=hb.split
 obtain ⟨a2,hb,h3⟩:=hb.split
 obtain ⟨a1,h1,h2⟩:=hb.split
 rw [←numP_1] at h1
 have hl:=h.tsl
 have hx:=h.len
 have hh:zEC b ask 0=.ok (ts,a3):=by
  unfold zEC
  rw [zC9 h1 (by omega) (by omega)]
  simp only [if_pos]
  rw [zC9 h2 (by omega) (by omega)]
  simp only
  rw [headL_of (out:=[]) h.sym (by simpa using h.nodup) h3]
  simp
 unfold zAp
 rw [hh]
 simp only
 rw [zC9 h4 (by omega) (by omega)]
 simp only
 rw [thingL_of (out:=[]) h.len h.nodup h.tsl h.scan h5]
 simp
end Go.Ce
namespace Go.Ce
open Go Go.Proofs Go.Proofs.Tryz
theorem spc_parts {c:List Shp} {l:List Spc} (h:zAu c l=true) {i:Nat} {s:Spc} (hs:l[i]?=some s):zDn l s i=false∧∀ k,k<l.length→zFQ l s i k=false:=by
 unfold zAu at h
 simp only [Bool.and_eq_true,Bool.not_eq_true'] at h
 have hb:=zBs h.2 (List.getElem?_eq_some_iff.1 hs).1
 unfold zIo at hb
 rw [hs] at hb
 simp only at hb
 split at hb
 ·simp only [Bool.or_eq_false_iff] at hb
  exact ⟨hb.1.2,fun k hk=>zBs hb.2.1 hk⟩
 ·cases hb
theorem to_ne {c:List Shp} {l:List Spc} (h:zAu c l=true) {s x:Spc} (hs:s ∈ l) (hx:x ∈ l):x.type≠s.to:=by
 obtain ⟨i,hi,he⟩:=List.mem_iff_getElem.1 hs
 obtain ⟨k,hk,hke⟩:=List.mem_iff_getElem.1 hx
 have hi':=List.getElem?_eq_getElem hi
 rw [he] at hi'
 have:=(spc_parts h hi').2 k hk
 unfold zFQ at this
 rw [List.getElem?_eq_getElem hk,hke] at this
 simp only [Bool.or_eq_false_iff,decide_eq_false_iff_not] at this
 exact this.1
end Go.Ce
namespace Go.Ce
open Go Go.Proofs Go.Proofs.Tryz
def zDd (g:Nat→Int→List Int):Nat→List Int→List Int
 | _,[]=>[]
 | k,v::vs=>g k v++zDd g (k+1) vs
theorem zIq (g:Nat→Int→List Int) (v:Int):∀ (vs:List Int) (k:Nat),zDd g k (vs++[v])=zDd g k vs++g (k+vs.length) v
 | [],k=>by simp [zDd]
 | u::vs,k=>by
  rw [List.cons_append,zDd,zIq g v vs (k+1),zDd,List.append_assoc,List.length_cons]
  congr 2
  congr 1
  omega
theorem scan_to {g:Nat→Int→List Int} {vs:List Int} {T:Nat→List Int} (h0:T 0=[]) (h1:∀ n v,vs[n]?=some v→T (n+1)=T n++g n v):∀ n,n≤vs.length→T n=zDd g 0 (vs.take n)
 | 0,_=>by rw [h0,List.take_zero]; rfl
 | n+1,hn=>by
  have hx:=List.getElem?_eq_getElem (show n<vs.length by omega)
  rw [h1 n _ hx,scan_to h0 h1 n (by omega),List.take_add_one,hx,Option.toList_some,zIq,List.length_take,Nat.min_eq_left (by omega),Nat.zero_add]
def refG (c:List Shp) (ix k:Nat) (v:Int):List Int:=if zA5 c ix k=2 then [v] else []
theorem refs_scan (c:List Shp) (i:Nat) (vs:List Int):zCe c i vs vs.length=zDd (refG c i) 0 vs:=by
 rw [scan_to (T:=zCe c i vs) (g:=refG c i) rfl (fun n v hv=>by rw [zCe,hv]; rfl) vs.length (Nat.le_refl _),List.take_length]
theorem vals_scan (c:List Shp) (o:List Int) (i:Nat) (vs:List Int):zC4 c o i vs vs.length=zDd (fun k v=>valP o (zA5 c i k) v) 0 vs:=by
 rw [scan_to (T:=zC4 c o i vs) (g:=fun k v=>valP o (zA5 c i k) v) rfl (fun n v hv=>by rw [zC4,hv]) vs.length (Nat.le_refl _),List.take_length]
end Go.Ce
namespace Go.Ce
open Go Go.Proofs Go.Proofs.Tryz
theorem visit_pre (o:List Int) (v:Int):o <+: visit o v:=by
 unfold visit
 split
 ·exact List.prefix_append _ _
 ·exact List.prefix_refl _
theorem fold_pre:∀ (vs o:List Int),o <+: vs.foldl visit o
 | [],o=>List.prefix_refl _
 | v::vs,o=>(visit_pre o v).trans (fold_pre vs _)
theorem zEt (refs:Int→List Int):∀ (m:Nat) (o:List Int) (n:Nat),o <+: zBJ refs m o n
 | 0,o,_=>List.prefix_refl _
 | m+1,o,n=>by
  unfold zBJ
  split
  ·exact List.prefix_refl _
  ·exact (fold_pre _ _).trans (zEt refs m _ _)
theorem zI4 {n:Nat}:∀ (vs o:List Int),Found o n→(∀ v,v ∈ vs→v≤n)→Found (vs.foldl visit o) n
 | [],o,h,_=>h
 | v::vs,o,h,hv=>zI4 vs _ (h.visit (hv v (by simp))) fun w hw=>hv w (by simp [hw])
theorem zGw {refs:Int→List Int} {n:Nat} (hr:∀ v w,w ∈ refs v→w≤n):∀ (m:Nat) (o:List Int) (k:Nat),Found o n→Found (zBJ refs m o k) n
 | 0,o,_,h=>h
 | m+1,o,k,h=>by
  unfold zBJ
  split
  ·exact h
  ·exact zGw hr m _ _ (zI4 _ _ h fun w hw=>hr _ w hw)
theorem place_pre {o O:List Int} (h:o <+: O) {v:Int} (hv:v ∈ o):zAv O v=zAv o v:=by
 obtain ⟨r,rfl⟩:=h
 unfold zAv
 rw [List.findIdx?_append]
 cases hf:o.findIdx? (fun x=>decide (x=v)) with
 | some i=>rfl
 | none =>
  rw [List.findIdx?_eq_none_iff] at hf
  have:=hf v hv
  simp at this
theorem placeOf_lt {o:List Int} {v:Int}:zAv o v≤o.length:=(zGV o v).2
def relV (c:List Shp) (ix:Nat) (O:List Int):Nat→List Int→List Int
 | _,[]=>[]
 | k,v::vs=>(if zA5 c ix k=2 then zAv O v else v)::relV c ix O (k+1) vs
theorem zJk {c:List Shp} {ix:Nat} {O:List Int}:∀ (vs:List Int) (k:Nat),(relV c ix O k vs).length=vs.length
 | [],_=>rfl
 | v::vs,k=>by rw [relV,List.length_cons,List.length_cons,zJk vs]
theorem relV_enc {c:List Shp} {ix:Nat} {O:List Int}:∀ (vs:List Int) (k:Nat),zDd (fun k v=>valP O (zA5 c ix k) v) k vs=encV c ix k (relV c ix O k vs)
 | [],_=>rfl
 | v::vs,k=>by
  rw [zDd,relV,encV,relV_enc vs (k+1),valP]
  by_cases hk:zA5 c ix k=2
  ·simp only [if_pos hk]
  ·simp only [if_neg hk]
theorem zGS {c:List Shp} {ix:Nat} {O:List Int} (h0:(0:Int) ∉ O):∀ (vs:List Int) (k:Nat) (o:List Int),(∀ (j:Nat) v,vs[j]?=some v→zA5 c ix (k+j)=2→0≤v)→(∀ (j:Nat) v,vs[j]?=some v→zA5 c ix (k+j)≠2→-1000000000≤v∧v≤1000000000)→(zDd (refG c ix) k vs).foldl visit o <+: O→ValsC c ix O.length k o.length (relV c ix O k vs) ((zDd (refG c ix) k vs).foldl visit o).length
 | [],k,o,_,_,_=>.nil _ _
 | v::vs,k,o,h1,h2,hp=>by
  have n1:∀ (j:Nat) w,vs[j]?=some w→zA5 c ix (k+1+j)=2→0≤w:=fun j w hw hk=>h1 (j+1) w hw (by rw [show k+(j+1)=k+1+j by omega]; exact hk)
  have n2:∀ (j:Nat) w,vs[j]?=some w→zA5 c ix (k+1+j)≠2→-1000000000≤w∧w≤1000000000:=fun j w hw hk=>h2 (j+1) w hw (by rw [show k+(j+1)=k+1+j by omega]; exact hk)
  by_cases hk:zA5 c ix k=2
  ·have hs:(zDd (refG c ix) k (v::vs)).foldl visit o=(zDd (refG c ix) (k+1) vs).foldl visit (visit o v):=by
    rw [zDd,refG,if_pos hk,List.foldl_append]; rfl
   rw [hs] at hp ⊢
   have ih:=zGS h0 vs (k+1) (visit o v) n1 n2 hp
   have hpv:visit o v <+: O:=(fold_pre _ _).trans hp
   have hple:=hpv.length_le
   have hv0:=h1 0 v rfl hk
   rw [relV,if_pos hk]
   have hnn:=(zGV O v).1
   have hcast:zAv O v=((zAv O v).toNat:Int):=by omega
   rw [hcast]
   by_cases hn:0<v∧v ∉ o
   ·have hvis:visit o v=o++[v]:=by unfold visit; rw [if_pos hn]
    rw [hvis] at hpv ih hple ⊢
    have hpl:zAv O v=o.length+1:=by
     rw [place_pre hpv (by simp),zHn hn.2,if_pos rfl]
    rw [List.length_append,List.length_singleton] at ih hple
    refine .ref hk (by omega) ?_
    rw [show max o.length (zAv O v).toNat=o.length+1 by omega]
    exact ih
   ·have hvis:visit o v=o:=by unfold visit; rw [if_neg hn]
    rw [hvis] at hpv ih hple ⊢
    have hpl:zAv O v≤o.length:=by
     by_cases hvo:v ∈ o
     ·rw [place_pre hpv hvo]; exact placeOf_lt
     ·have:v=0:=by
       by_cases hz:0<v
       ·exact (hn ⟨hz,hvo⟩).elim
       ·omega
      subst this
      rw [zEO h0]
      omega
    refine .ref hk (by omega) ?_
    rw [show max o.length (zAv O v).toNat=o.length by omega]
    exact ih
  ·have hs:(zDd (refG c ix) k (v::vs)).foldl visit o=(zDd (refG c ix) (k+1) vs).foldl visit o:=by
    rw [zDd,refG,if_neg hk]; rfl
   rw [hs] at hp ⊢
   obtain ⟨b1,b2⟩:=h2 0 v rfl hk
   rw [relV,if_neg hk]
   exact .word hk b1 b2 (zGS h0 vs (k+1) o n1 n2 hp)
end Go.Ce
namespace Go.Ce
open Go Go.Proofs Go.Proofs.Tryz
theorem addType_pre (t:List ByteArray) (s:ByteArray):t <+: zAz t s:=by
 unfold zAz
 split
 ·exact List.prefix_refl _
 ·exact List.prefix_append _ _
theorem zHB {α:Type} (f:α→ByteArray):∀ (xs:List α) (t:List ByteArray),t <+: xs.foldl (fun t x=>zAz t (f x)) t
 | [],t=>List.prefix_refl _
 | x::xs,t=>(addType_pre t (f x)).trans (zHB f xs _)
theorem zGF {t:List ByteArray} (h:t.Nodup) (s:ByteArray):(zAz t s).Nodup:=by
 unfold zAz
 split
 ·exact h
 ·rename_i hn
  rw [List.nodup_append]
  refine ⟨h,List.pairwise_singleton _ _,fun x hx y hy=>?_⟩
  rw [List.mem_singleton.1 hy]
  rintro rfl
  exact hn (List.any_eq_true.2 ⟨x,hx,by simp⟩)
theorem zFI {α:Type} (f:α→ByteArray):∀ (xs:List α) (t:List ByteArray),t.Nodup→(xs.foldl (fun t x=>zAz t (f x)) t).Nodup
 | [],t,h=>h
 | x::xs,t,h=>zFI f xs _ (zGF h _)
theorem pre_get {α:Type} {a b:List α} (h:a <+: b) {i:Nat} {x:α} (hx:a[i]?=some x):b[i]?=some x:=by
 obtain ⟨r,rfl⟩:=h
 rw [List.getElem?_append_left (List.getElem?_eq_some_iff.1 hx).1]
 exact hx
def relP (c:List Shp) (O:List Int) (y:Thg):Thg:=match zBQ c y.type with
 | some ix=>⟨y.type,relV c ix O 0 y.vals⟩
 | none=>y
def zGA (c:List Shp) (l:List Spc) (h:List Thg) (O:List Int):List Thg:=(zAI h O).map fun x=>relP c O (zAG l x)
theorem many_n {c:List Shp} {y:Thg} {n i:Nat} {s:Shp} (Y:ThgIs c y n i s):if zAL c i≠0 then y.vals.length≤200 else y.vals.length=(zAw c i).length:=by
 have hm:=Y.many
 unfold zCr at hm
 have he:zAL c i=s.elem:=by unfold zAL; rw [Y.si]
 rw [he]
 split
 ·rename_i h; rw [if_pos h] at hm; simpa using hm
 ·rename_i h; rw [if_neg h] at hm; simpa using hm
theorem zHf {h:List Thg} {v:Int} {x:Thg} (hx:h[(v-1).toNat]?=some x) (r:List Int):zAI h (v::r)=x::zAI h r:=by
 unfold zAI
 rw [List.flatMap_cons,hx]
 rfl
theorem found_at {h:List Thg} {O:List Int} (hO:Found O h.length) {v:Int} (hv:v ∈ O):∃ x,h[(v-1).toNat]?=some x:=by
 have h1:=hO.low v hv
 have h2:=hO.high v hv
 exact ⟨_,List.getElem?_eq_getElem (by omega)⟩
theorem zHe {h:List Thg} {N:Nat} (hN:N=h.length):∀ {O:List Int},(∀ v,v ∈ O→0<v∧v≤N)→(zAI h O).length=O.length
 | [],_=>rfl
 | v::O,hO=>by
  have hv:=hO v (by simp)
  have hx:=List.getElem?_eq_getElem (show (v-1).toNat<h.length by omega)
  rw [zHf hx,List.length_cons,List.length_cons,zHe hN fun w hw=>hO w (by simp [hw])]
theorem zFi {c:List Shp} {l:List Spc} {h:List Thg} {O:List Int} {ts:List ByteArray} (hok:zA8 c=true) (hs:zAu c l=true) (hth:∀ x,x ∈ h→zAn c x h.length=true) (hO:Found O h.length):∀ (m n:Nat) (o:List Int) (T:List ByteArray),n+m=h.length→T.Nodup→zBJ (zEB c l h) m o n=O→(zAI h (O.drop n)).foldl (fun t x=>zAz t (zAG l x).type) T=ts→ThingsC c ts O.length n T.length o.length ((zAI h (O.drop n)).map fun x=>relP c O (zAG l x)) ts.length O.length
 | 0,n,o,T,hn,hT,hse,hts=>by
  have hse:o=O:=hse
  subst hse
  have:=hO.len
  rw [List.drop_of_length_le (by omega)] at hts ⊢
  have hts:T=ts:=hts
  subst hts
  exact .nil _ _ _
 | m+1,n,o,T,hn,hT,hse,hts=>by
  have hpre:=zEt (zEB c l h) (m+1) o n
  rw [hse] at hpre
  cases hon:o[n]? with
  | none =>
   rw [zBJ,hon] at hse
   have hse:o=O:=hse
   subst hse
   rw [List.drop_of_length_le (List.getElem?_eq_none_iff.1 hon)] at hts ⊢
   have hts:T=ts:=hts
   subst hts
   exact .nil _ _ _
  | some v =>
   rw [zBJ,hon] at hse
   simp only at hse
   have hnl:=(List.getElem?_eq_some_iff.1 hon).1
   have hOn:=pre_get hpre hon
   obtain ⟨hOl,hOe⟩:=List.getElem?_eq_some_iff.1 hOn
   have hvO:v ∈ O:=List.mem_of_getElem? hOn
   obtain ⟨x,hx⟩:=found_at hO hvO
   have hdrop:O.drop n=v::O.drop (n+1):=by rw [List.drop_eq_getElem_cons hOl,hOe]
   rw [hdrop,zHf hx] at hts ⊢
   rw [List.foldl_cons] at hts
   rw [List.map_cons]
   obtain ⟨ix,s,Y⟩:=zCH (zA9 hs (hth x (List.mem_of_getElem? hx)))
   have hrefs:zEB c l h v=zDd (refG c ix) 0 (zAG l x).vals:=by
    unfold zEB
    rw [hx]
    simp only
    unfold zFC
    rw [Y.ti]
    exact refs_scan c ix _
   have hpre1:=zEt (zEB c l h) m ((zEB c l h v).foldl visit o) (n+1)
   rw [hse] at hpre1
   have hV:=zGS (c:=c) (ix:=ix) (O:=O) (fun hz=>by have:=hO.low 0 hz; omega) (zAG l x).vals 0 o
    (fun j w hw hk=>by
     rw [Nat.zero_add] at hk
     rcases zEr hok Y hw with h1 | h1
     ·exact h1.2.1
     ·rw [h1.1] at hk; cases hk)
    (fun j w hw hk=>by
     rw [Nat.zero_add] at hk
     rcases zEr hok Y hw with h1 | h1
     ·exact (hk h1.1).elim
     ·exact h1.2)
    (by rw [←hrefs]; exact hpre1)
   rw [←hrefs] at hV
   have ih:=zFi hok hs hth hO m (n+1) ((zEB c l h v).foldl visit o) (zAz T (zAG l x).type) (by omega) (zGF hT _) hse hts
   have hTts:zAz T (zAG l x).type <+: ts:=by rw [←hts]; exact zHB _ _ _
   have hrel:relP c O (zAG l x)=⟨(zAG l x).type,relV c ix O 0 (zAG l x).vals⟩:=by unfold relP; rw [Y.ti]
   rw [hrel]
   have hmn:=many_n Y
   have hn':if zAL c ix≠0 then (relV c ix O 0 (zAG l x).vals).length≤200 else (relV c ix O 0 (zAG l x).vals).length=(zAw c ix).length:=by rw [zJk]; exact hmn
   by_cases ha:T.any (fun y=>decide (y=(zAG l x).type))=true
   ·have hadd:zAz T (zAG l x).type=T:=by unfold zAz; rw [if_pos ha]
    rw [hadd] at ih hTts
    obtain ⟨y,hy,hye⟩:=List.any_eq_true.1 ha
    have hye:y=(zAG l x).type:=of_decide_eq_true hye
    obtain ⟨t,ht⟩:=List.getElem?_of_mem hy
    have htl:=(List.getElem?_eq_some_iff.1 ht).1
    refine .cons (t:=t) (ix:=ix) hnl (by show ts[t]?=some _; rw [pre_get hTts ht,hye]) (by omega) Y.ti hn' hV ?_
    rw [if_neg (by omega)]
    exact ih
   ·have hadd:zAz T (zAG l x).type=T++[(zAG l x).type]:=by unfold zAz; rw [if_neg ha]
    rw [hadd] at ih hTts
    rw [List.length_append,List.length_singleton] at ih
    refine .cons (t:=T.length) (ix:=ix) hnl (by show ts[T.length]?=some _; exact pre_get hTts (by simp)) (Nat.le_refl _) Y.ti hn' hV ?_
    rw [if_pos rfl]
    exact ih
theorem sym_of {c:List Shp} (hok:zA8 c=true) {s:ByteArray} {i:Nat} (h:zBQ c s=some i):zDp s=true:=by
 have hil:=zC6 h
 obtain ⟨h1,h2,_⟩:=List.findIdx?_eq_some_iff_getElem.1 h
 unfold zA8 at hok
 simp only [Bool.and_eq_true,Bool.not_eq_true'] at hok
 have hb:=zBs hok.2.1 hil
 unfold zAh at hb
 rw [List.getElem?_eq_getElem hil] at hb
 simp only [Bool.or_eq_false_iff,Bool.not_eq_false'] at hb
 rw [←of_decide_eq_true h2]
 exact hb.1.1
theorem written_ask {c:List Shp} {l:List Spc} (hs:zAu c l=true) {x:Thg}:zHG l (zAG l x).type=none:=by
 unfold zAG
 cases hsp:zHG l x.type with
 | none=>exact hsp
 | some s =>
  show zHG l s.to=none
  unfold zHG
  rw [List.find?_eq_none]
  intro y hy
  have hsm:s ∈ l:=by
   obtain ⟨i,hi,_⟩:=zEs hsp
   exact List.mem_of_getElem? hi
  have:=to_ne hs hsm hy
  simpa using this
theorem write_canon {c:List Shp} {l:List Spc} {h:List Thg} {root:Int} (hz:askP c l h root=0) (h40:h.length≤40):Canon c (zIf c l) (zCG l (zAI h (zBd c l h root))) (zGA c l h (zBd c l h root))∧zDi c l h (zBd c l h root)=zEi c (zCG l (zAI h (zBd c l h root))) (zGA c l h (zBd c l h root))∧Found (zBd c l h root) h.length∧start root <+: zBd c l h root:=by
 obtain ⟨hok,hs,hthi,hr0,hr1⟩:=zGD hz
 obtain ⟨h1000,hth⟩:=zGO hthi
 have hF:Found (zBd c l h root) h.length:=zGw (fun v w hw=>(refs_in hok hs hth w hw).2) _ _ _ (Found.start hr1)
 have hpre:start root <+: zBd c l h root:=zEt _ _ _ _
 have hfd:zBd c l h root=zBJ (zEB c l h) h.length (start root) 0:=rfl
 generalize hO:zBd c l h root=O at hF hpre hfd ⊢
 have hlen:=zHe rfl fun v hv=>⟨hF.low v hv,hF.high v hv⟩
 have hol:=hF.len
 have hth1:∀ x,x ∈ zAI h O→zAn c x h.length=true:=fun x hx=>by
  unfold zAI at hx
  obtain ⟨v,_,hv⟩:=List.mem_flatMap.1 hx
  cases hg:h[(v-1).toNat]? with
  | none=>rw [hg] at hv; cases hv
  | some y=>rw [hg] at hv; rw [List.mem_singleton.1 hv]; exact hth _ (List.mem_of_getElem? hg)
 have hnd:(zCG l (zAI h O)).Nodup:=zFI _ _ _ List.nodup_nil
 refine ⟨⟨?_,fun s hs'=>?_,hnd,?_,?_⟩,?_,hF,hpre⟩
 ·have h1:=zFg l (zAI h O) []
  unfold zCG
  simp only [List.length_nil] at h1
  omega
 ·rcases zGM l (zAI h O) [] hs' with h' | ⟨x,hx,rfl⟩
  ·cases h'
  ·obtain ⟨i,s,Y⟩:=zCH (zA9 hs (hth1 x hx))
   refine ⟨sym_of hok Y.ti,?_⟩
   have:=written_ask hs (x:=x)
   unfold zHG at this
   unfold zIf
   rw [Y.ti,this]
   rfl
 ·unfold zGA
  rw [List.length_map]
  omega
 ·have:=zFi (ts:=zCG l (zAI h O)) hok hs hth hF h.length 0 (start root) [] (by omega) List.nodup_nil hfd.symm (by rw [List.drop_zero]; rfl)
  rw [List.drop_zero] at this
  have e1:(zGA c l h O).length=O.length:=by unfold zGA; rw [List.length_map,hlen]
  have e2:(start root).length=min O.length 1:=by
   have hle:=hpre.length_le
   by_cases h0:root>0
   ·have:(start root).length=1:=by unfold start; rw [if_pos h0]; rfl
    omega
   ·have hst:start root=[]:=by unfold start; rw [if_neg h0]
    rw [hst] at hfd
    have:O=[]:=by
     rw [hfd]
     cases h.length with
     | zero=>rfl
     | succ m=>rfl
    rw [hst,this]; rfl
  rw [e1,←e2]
  exact this
 ·unfold zDi zEi
  have e1:(zGA c l h O).length=O.length:=by unfold zGA; rw [List.length_map,hlen]
  rw [e1]
  congr 1
  unfold zGA
  rw [List.flatMap_map]
  have key:∀ (ys:List Thg),(∀ x,x ∈ ys→x ∈ zAI h O)→ys.flatMap (fun x=>zDJ c (zCG l (zAI h O)) O (zAG l x))=ys.flatMap (fun x=>zIa c (zCG l (zAI h O)) (relP c O (zAG l x))):=by
   intro ys
   induction ys with
   | nil=>intro _; rfl
   | cons y ys ih =>
    intro hy
    rw [List.flatMap_cons,List.flatMap_cons,ih fun x hx=>hy x (by simp [hx])]
    congr 1
    obtain ⟨i,s,Y⟩:=zCH (zA9 hs (hth1 y (hy y (by simp))))
    unfold relP
    rw [Y.ti]
    unfold zDJ zIa
    simp only
    rw [Y.ti]
    simp only
    rw [vals_scan,relV_enc,zJk]
  exact key _ fun x hx=>hx
end Go.Ce
namespace Go.Ce
open Go Go.Proofs Go.Proofs.Tryz
theorem cut_get (b:List UInt8) (k i:Nat):(b.take k)[i]?=if i<k then b[i]? else none:=List.getElem?_take
theorem numG_cut {b:List UInt8} {k:Nat}:∀ {f at_ n sh:Nat} {r:Nat × Nat},zIS b f at_ n sh=.ok r→zIS (b.take k) f at_ n sh=if r.2≤k then .ok r else .error 4
 | 0,_,_,_,_,h=>by cases h
 | f+1,at_,n,sh,r,h=>by
  have hseg:=numG_seg h
  unfold zIS at h ⊢
  rw [cut_get]
  split at h
  ·cases h
  ·rename_i x hx
   by_cases hk:at_<k
   ·rw [if_pos hk,hx]
    simp only
    split at h
    ·rename_i hlt
     rw [if_pos hlt]
     split at h
     ·rename_i h0
      cases h
      rw [if_pos h0,if_pos (by show at_+1≤k; omega)]
     ·cases h
    ·rename_i hge
     rw [if_neg hge]
     exact numG_cut h
   ·rw [if_neg hk]
    obtain ⟨v,_,_,_,hs⟩:=hseg
    have:=hs.ij
    have:=(numP_len v).2
    rw [if_neg (by omega)]
theorem zDO {b:List UInt8} {k at_:Nat} {m:Int} {r:Nat × Nat} (h:zDT b at_ m=.ok r):zDT (b.take k) at_ m=if r.2≤k then .ok r else .error 4:=by
 unfold zDT at h ⊢
 split at h
 ·cases h
 ·rename_i n j hg
  rw [numG_cut hg]
  split at h
  ·rename_i hle
   cases h
   by_cases hj:j≤k
   ·simp only [if_pos hj,if_pos hle]
   ·simp only [if_neg hj]
  ·cases h
theorem zDN {b:List UInt8} {at_:Nat} {m:Int} {r:Nat × Nat} (h:zDT b at_ m=.ok r):at_≤r.2∧r.2≤b.length:=by
 obtain ⟨n,j⟩:=r
 have:=(zEv h).1
 have h1:=this.ij
 have h2:=this.le
 exact ⟨by show at_≤j; omega,h2⟩
theorem zHc {b:List UInt8} {c:List Shp} {ix many k':Nat}:∀ {m k at_ fd:Nat} {vs:List Int} {r:List Int × Nat × Nat},at_≤k'→at_≤b.length→zCO b c ix many m k at_ fd vs=.ok r→zCO (b.take k') c ix many m k at_ fd vs=if r.2.2≤k' then .ok r else .error 4
 | 0,k,at_,fd,vs,r,ha,_,h=>by cases h; rw [if_pos ha]; rfl
 | m+1,k,at_,fd,vs,r,ha,hb,h=>by
  unfold zCO at h ⊢
  split at h
  ·rename_i hk
   rw [if_pos hk]
   split at h
   ·cases h
   ·rename_i n a hn
    have hp:=zDN hn
    rw [zDO hn]
    by_cases hak:a≤k'
    ·rw [if_pos (by exact hak)]
     simp only
     exact zHc hak hp.2 h
    ·rw [if_neg (by exact hak)]
     obtain ⟨_,_,_,_,hs⟩:=zDb hp.2 h
     have hs:=hs.ij
     have hs:r.2.2=a+_:=hs
     rw [if_neg (by omega)]
  ·rename_i hk
   rw [if_neg hk]
   split at h
   ·cases h
   ·rename_i n a hn
    have hp:=zDN hn
    rw [zDO hn]
    by_cases hak:a≤k'
    ·rw [if_pos (by exact hak)]
     simp only
     exact zHc hak hp.2 h
    ·rw [if_neg (by exact hak)]
     obtain ⟨_,_,_,_,hs⟩:=zDb hp.2 h
     have hs:=hs.ij
     have hs:r.2.2=a+_:=hs
     rw [if_neg (by omega)]
theorem zIn {b:List UInt8} {c:List Shp} {ts:List ByteArray} {many k':Nat} (hnd:ts.Nodup):∀ {m i at_ u f:Nat} {out:List Thg} {r:List Thg × Nat × Nat × Nat},at_≤k'→at_≤b.length→zBi b c ts many m i at_ u f out=.ok r→zBi (b.take k') c ts many m i at_ u f out=if r.2.2.2≤k' then .ok r else .error 4
 | 0,i,at_,u,f,out,r,ha,_,h=>by cases h; rw [if_pos ha]; rfl
 | m+1,i,at_,u,f,out,r,ha,hb,h=>by
  have hend:∀ {a u' f':Nat} {out':List Thg},a≤b.length→zBi b c ts many m (i+1) a u' f' out'=.ok r→a≤r.2.2.2:=fun ha' h'=>by
   obtain ⟨_,_,_,_,hs⟩:=zIk hnd ha' h'
   have:=hs.ij
   omega
  unfold zBi at h ⊢
  split at h
  ·rename_i hi
   rw [if_pos hi]
   split at h
   ·cases h
   ·rename_i t a1 hn
    have hp1:=zDN hn
    have hp1b:a1≤b.length:=hp1.2
    rw [zDO hn]
    split at h
    ·cases h
    ·rename_i ty hty
     split at h
     ·cases h
     ·rename_i ix hix
      split at h
      ·cases h
      ·rename_i n a2 hnn
       have h12:a1≤a2∧a2≤b.length∧(a1≤k'→(if zAL c ix≠0 then zDT (b.take k') a1 200 else .ok ((zAw c ix).length,a1))=if a2≤k' then .ok (n,a2) else .error 4):=by
        split at hnn
        ·rename_i he
         have:=zDN hnn
         refine ⟨this.1,this.2,fun _=>?_⟩
         rw [if_pos he,zDO hnn]
        ·rename_i he
         cases hnn
         refine ⟨Nat.le_refl _,hp1b,fun hk=>?_⟩
         rw [if_neg he,if_pos hk]
       obtain ⟨q1,q2,q3⟩:=h12
       split at h
       ·cases h
       ·rename_i vs f1 a3 hv
        obtain ⟨_,_,_,_,hs3⟩:=zDb q2 hv
        have h3:=hs3.ij
        have h3:a3=a2+_:=h3
        have h3b:a3≤b.length:=hs3.le
        have hlast:=hend h3b h
        by_cases hk1:a1≤k'
        ·rw [if_pos (by exact hk1)]
         simp only
         rw [hty]
         simp only
         rw [hix]
         simp only
         rw [q3 hk1]
         by_cases hk2:a2≤k'
         ·rw [if_pos hk2]
          simp only
          rw [zHc hk2 q2 hv]
          by_cases hk3:a3≤k'
          ·rw [if_pos (by exact hk3)]
           simp only
           exact zIn hnd hk3 h3b h
          ·rw [if_neg (by exact hk3),if_neg (show ¬r.2.2.2≤k' by omega)]
         ·rw [if_neg hk2,if_neg (show ¬r.2.2.2≤k' by omega)]
        ·rw [if_neg (by exact hk1),if_neg (show ¬r.2.2.2≤k' by omega)]
  ·cases h
theorem headL_cut {b:List UInt8} {ask:ByteArray→Option Int} {k':Nat}:∀ {m at_:Nat} {out:List ByteArray} {r:List ByteArray × Nat},at_≤k'→at_≤b.length→zDq b ask m at_ out=.ok r→zDq (b.take k') ask m at_ out=if r.2≤k' then .ok r else .error 4
 | 0,at_,out,r,ha,_,h=>by cases h; rw [if_pos ha]; rfl
 | m+1,at_,out,r,ha,hb,h=>by
  unfold zDq at h ⊢
  split at h
  ·cases h
  ·rename_i n a1 hn
   have hp1:=zDN hn
   have hp1b:a1≤b.length:=hp1.2
   rw [zDO hn]
   split at h
   ·cases h
   ·rename_i a2 ht
    obtain ⟨rfl,hle⟩:=zHK ht
    split at h
    ·rename_i hs
     split at h
     ·cases h
     ·rename_i hask
      obtain ⟨_,_,_,_,_,hsg⟩:=zFv hle h
      have hl:=hsg.ij
      by_cases hk1:a1≤k'
      ·rw [if_pos (by exact hk1)]
       simp only
       unfold zD9
       rw [List.length_take]
       by_cases hk2:a1+n≤k'
       ·rw [if_pos (by omega)]
        simp only
        have hsame:((b.take k').drop a1).take n=(b.drop a1).take n:=by
         rw [List.drop_take,List.take_take,Nat.min_eq_left (by omega)]
        rw [hsame,if_pos hs,hask]
        simp only
        exact headL_cut hk2 hle h
       ·rw [if_neg (by omega),if_neg (show ¬r.2≤k' by omega)]
      ·rw [if_neg (by exact hk1),if_neg (show ¬r.2≤k' by omega)]
    ·cases h
theorem thingsR_cut {b:List UInt8} {c:List Shp} {ask:ByteArray→Option Int} {r:List Thg × Nat} {k:Nat} (h:zAp b c ask 0=.ok r) (hk:k<b.length):zAp (b.take k) c ask 0=.error 4:=by
 unfold zAp at h ⊢
 split at h
 ·cases h
 ·rename_i ts a1 hh
  split at h
  ·cases h
  ·rename_i many a2 hn
   split at h
   ·cases h
   ·rename_i out u f a3 hg
    split at h
    ·rename_i hc
     have hp2:=zDN hn
     have hp2b:a2≤b.length:=hp2.2
     unfold zEC at hh ⊢
     split at hh
     ·cases hh
     ·rename_i v b1 hv
      split at hh
      ·rename_i hv1
       split at hh
       ·cases hh
       ·rename_i kk b2 hkk
        have hb1:=zDN hv
        have hb2:=zDN hkk
        have hb2b:b2≤b.length:=hb2.2
        rw [zDO hv]
        by_cases k1:b1≤k
        ·rw [if_pos (by exact k1)]
         simp only
         rw [if_pos hv1,zDO hkk]
         by_cases k2:b2≤k
         ·rw [if_pos (by exact k2)]
          simp only
          rw [headL_cut k2 hb2b hh]
          by_cases k3:a1≤k
          ·rw [if_pos (by exact k3)]
           simp only
           rw [zDO hn]
           by_cases k4:a2≤k
           ·rw [if_pos (by exact k4)]
            simp only
            obtain ⟨new,_,_,_,hnd,_⟩:=zFv hb2b hh
            have hnd:=hnd List.nodup_nil
            have hts:ts.Nodup:=by
             obtain ⟨nw,e,_,_,hnd,_⟩:=zFv hb2b hh
             have:=hnd List.nodup_nil
             have e:ts=[]++nw:=e
             rw [e]; exact this
            rw [zIn hts k4 hp2b hg,if_neg (by show ¬a3≤k; omega)]
           ·rw [if_neg (by exact k4)]
          ·rw [if_neg (by exact k3)]
         ·rw [if_neg (by exact k2)]
        ·rw [if_neg (by exact k1)]
      ·cases hh
    ·cases h
theorem Seg.more {b m:List UInt8} {i j:Nat} {e:List Int} (h:Seg b i j e):Seg (b++m) i j e:=by
 have h1:=h.le
 have h2:=h.ij
 refine ⟨by rw [List.length_append]; omega,h.ij,?_⟩
 have he:bI (b++m)=bI b++bI m:=by unfold bI; rw [List.map_append]
 rw [he,List.drop_append_of_le_length (by rw [zDF]; omega),List.drop_append_of_le_length (by rw [zDF]; omega),h.eq,List.append_assoc]
theorem thingsR_seg {b:List UInt8} {c:List Shp} {ask:ByteArray→Option Int} {ts:List ByteArray} {xs:List Thg} {j:Nat} (h:Canon c ask ts xs) (hb:Seg b 0 j (zEi c ts xs)):zAp b c ask 0=if j=b.length then .ok (xs,j) else .error 4:=by
 unfold zEi at hb
 obtain ⟨a4,hb,h5⟩:=hb.split
 obtain ⟨a3,hb,h4⟩:=hb.split
 obtain ⟨a2,hb,h3⟩:=hb.split
 obtain ⟨a1,h1,h2⟩:=hb.split
 rw [←numP_1] at h1
 have hl:=h.tsl
 have hx:=h.len
 have hh:zEC b ask 0=.ok (ts,a3):=by
  unfold zEC
  rw [zC9 h1 (by omega) (by omega)]
  simp only [if_pos]
  rw [zC9 h2 (by omega) (by omega)]
  simp only
  rw [headL_of (out:=[]) h.sym (by simpa using h.nodup) h3]
  simp
 unfold zAp
 rw [hh]
 simp only
 rw [zC9 h4 (by omega) (by omega)]
 simp only
 rw [thingL_of (out:=[]) h.len h.nodup h.tsl h.scan h5]
 simp
theorem readP_canon {c:List Shp} {l:List Spc} {ts:List ByteArray} {xs:List Thg} {b m:List UInt8} (hok:zA8 c=true) (hs:zAu c l=true) (h:Canon c (zIf c l) ts xs) (hb:bI b=zEi c ts xs) (hl:(b++m).length≤100000):zFN c l (b++m)=if m=[] then (xs.map (zCP c l),min (xs.length:Int) 1,0) else ([],0,4):=by
 have hseg:=(Seg.all.2 hb).more (m:=m)
 have ht:=thingsR_seg h hseg
 unfold zFN
 rw [if_neg (by rw [hok]; simp),if_neg (by rw [hs]; simp),if_neg (by omega),ht]
 by_cases hm:m=[]
 ·subst hm
  rw [if_pos rfl,if_pos (by simp)]
 ·have:0<m.length:=List.length_pos_iff.2 hm
  rw [if_neg hm,if_neg (by rw [List.length_append]; omega)]
theorem readP_cut {c:List Shp} {l:List Spc} {ts:List ByteArray} {xs:List Thg} {b:List UInt8} (hok:zA8 c=true) (hs:zAu c l=true) (h:Canon c (zIf c l) ts xs) (hb:bI b=zEi c ts xs) (hl:b.length≤100000) {k:Nat} (hk:k<b.length):zFN c l (b.take k)=([],0,4):=by
 unfold zFN
 rw [if_neg (by rw [hok]; simp),if_neg (by rw [hs]; simp),if_neg (by rw [List.length_take]; omega),thingsR_cut (thingsR_of h hb) hk]
end Go.Ce
namespace Go.Ce
open Go Go.Proofs Go.Proofs.Tryz
end Go.Ce
namespace Go.Ce
section
variable {P:Program}
def Leaf (P:Program) (W:CW) (t:TypeId) (v:Value):Prop:=∃ m,CT P m t W [v]
theorem Leaf.int {W:CW} {t:TypeId} {k:IntKind} {v:Value} (ht:P.underlying t=some (.int k)) (h:Leaf P W t v):∃ x,v=.int k x∧(Lit.int k x).wf=true:=by
 obtain ⟨m,h⟩:=h
 cases m with
 | zero=>exact h.elim
 | succ m =>
  simp only [CT,ht] at h
  obtain ⟨x,hx,hw⟩:=h
  cases hx
  exact ⟨x,rfl,hw⟩
theorem Leaf.string {W:CW} {t:TypeId} {v:Value} (ht:P.underlying t=some .string) (h:Leaf P W t v):∃ x:ByteArray,v=.string x∧x.size≤maxLen:=by
 obtain ⟨m,h⟩:=h
 cases m with
 | zero=>exact h.elim
 | succ m =>
  simp only [CT,ht] at h
  obtain ⟨x,hx,hw⟩:=h
  cases hx
  exact ⟨x,rfl,hw⟩
theorem Leaf.slice {W:CW} {t e:TypeId} {v:Value} (ht:P.underlying t=some (.slice e)) (h:Leaf P W t v):v=.slice none 0 0∨v=.slice (some ⟨0,0,some 0⟩) 0 0∨∃ k len cap f m,v=.slice (some ⟨k,0,none⟩) len cap∧0<cap∧len≤cap∧cap≤maxLen ∧
  W.obj k=some (.fixed f (len*P.cellsOf e) e)∧∀ i,i<len→CT P m e W (zB8 f (P.cellsOf e) (i*P.cellsOf e)):=by
 obtain ⟨m,h⟩:=h
 cases m with
 | zero=>exact h.elim
 | succ m =>
  simp only [CT,ht] at h
  rcases h with h | h | ⟨k,len,cap,f,h1,h2,h3,h4,h5,h6⟩
  ·cases h; exact .inl rfl
  ·cases h; exact .inr (.inl rfl)
  ·cases h1; exact .inr (.inr ⟨k,len,cap,f,m,rfl,h2,h3,h4,h5,h6⟩)
theorem CTs.cons {W:CW} {t:TypeId} {ts:List TypeId} {vs:List Value} (h:CTs P (t::ts) W vs):∃ cs vs',vs=argV P t cs::vs'∧CT P 20 t W cs∧CTs P ts W vs':=by
 cases vs with
 | nil=>exact h.elim
 | cons v vs =>
  obtain ⟨⟨cs,rfl,hc⟩,h2⟩:=h
  exact ⟨cs,vs,rfl,hc,h2⟩
theorem CTs.nil {W:CW} {vs:List Value} (h:CTs P [] W vs):vs=[]:=by
 cases vs with
 | nil=>rfl
 | cons=>exact h.elim
end
end Go.Ce
namespace Go.Ce
open Go Go.Proofs Go.Proofs.Tryz
def fieldsL (P:Program) (t:TypeId):List (TypeId × Nat):=match P.underlying t with
 | some (.struct fs)=>fs.toList.map fun f=>(f.type,f.offset)
 | _=>[]
theorem zE2 {P:Program} {m:Nat} {t ty:TypeId} {off n:Nat} {W:CW} {cs:List Value} (hm:(fieldsL P t).any (fun x=>Nat.beq x.1 ty && Nat.beq x.2 off)=true) (hn:P.cellsOf t=n) (h1:P.cellsOf ty=1) (ho:off<n) (h:CT P m t W cs):∃ v,cs[off]?=some v∧Leaf P W ty v:=by
 cases m with
 | zero=>exact h.elim
 | succ m =>
  unfold fieldsL at hm
  simp only [CT] at h
  split at hm
  ·rename_i fs hu
   rw [hu] at h
   obtain ⟨hl,hf⟩:=h
   obtain ⟨x,hx,he⟩:=List.any_eq_true.1 hm
   obtain ⟨f,hfm,rfl⟩:=List.mem_map.1 hx
   simp only [Bool.and_eq_true] at he
   have e1:f.type=ty:=Nat.eq_of_beq_eq_true he.1
   have e2:f.offset=off:=Nat.eq_of_beq_eq_true he.2
   have:=hf f hfm
   rw [e1,e2,h1] at this
   have hlt:off<cs.length:=by omega
   refine ⟨cs[off],List.getElem?_eq_getElem hlt,m,?_⟩
   rw [List.drop_eq_getElem_cons hlt,List.take_succ_cons,List.take_zero] at this
   exact this
  ·cases hm
theorem zIv (f:Nat→Value):∀ (m k j:Nat),j<m→(zB8 f m k)[j]?=some (f (k+j))
 | 0,k,j,h=>by omega
 | m+1,k,0,h=>rfl
 | m+1,k,j+1,h=>by
  unfold zB8
  rw [List.getElem?_cons_succ,zIv f m (k+1) j (by omega)]
  congr 2; omega
theorem list_of {α:Type} {Q:Nat→α→Prop}:∀ n:Nat,(∀ i,i<n→∃ x,Q i x)→∃ l:List α,l.length=n∧∀ i x,l[i]?=some x→Q i x
 | 0,_=>⟨[],rfl,fun i x h=>by simp at h⟩
 | n+1,h=>by
  obtain ⟨l,hl,hq⟩:=list_of n fun i hi=>h i (by omega)
  obtain ⟨x,hx⟩:=h n (by omega)
  refine ⟨l++[x],by simp [hl],fun i y hy=>?_⟩
  by_cases hi:i<l.length
  ·rw [List.getElem?_append_left hi] at hy
   exact hq i y hy
  ·rw [List.getElem?_append_right (by omega)] at hy
   have h0:i-l.length=0:=by
    cases hd:i-l.length with
    | zero=>rfl
    | succ k=>rw [hd] at hy; simp at hy
   rw [h0] at hy
   cases hy
   have:i=n:=by omega
   subst this; exact hx
theorem zGJ {P:Program} {α:Type} {R:Nat→Nat→α→Prop} {t e:TypeId} {n:Nat} (ht:P.underlying t=some (.slice e)) (hn:P.cellsOf e=n) {W:CW} {v:Value} (h:Leaf P W t v)
  (hel:∀ m cs k off,CT P m e W cs→(∀ j,j<n→W.cell k (off+j)=cs[j]?)→∃ x,R k off x):∃ l,IsSl n R v l∧ElOk W e v∧l.length≤maxLen:=by
 rcases h.slice ht with rfl | rfl | ⟨k,len,cap,f,m,rfl,h1,h2,h3,h4,h5⟩
 ·exact ⟨[],⟨none,0,rfl,fun i x hx=>by simp at hx⟩,fun a l c hv=>by cases hv; exact ⟨rfl,Nat.le_refl _⟩,Nat.zero_le _⟩
 ·exact ⟨[],⟨_,0,rfl,fun i x hx=>by simp at hx⟩,fun a l c hv=>by cases hv; exact ⟨rfl,Nat.le_refl _⟩,Nat.zero_le _⟩
 ·rw [hn] at h4 h5
  obtain ⟨l,hl,hq⟩:=list_of (Q:=fun i x=>R k (i*n) x) len fun i hi=>hel m _ k (i*n) (h5 i hi) fun j hj=>by
   rw [zIv f n (i*n) j hj]
   unfold CW.cell
   rw [h4]
   have:i*n+j<len*n:=by
    have:(i+1)*n≤len*n:=Nat.mul_le_mul_right _ hi
    rw [Nat.succ_mul] at this; omega
   simp only [if_pos this]
  refine ⟨l,⟨_,cap,by rw [hl],fun i x hx=>⟨_,rfl,by simpa using hq i x hx⟩⟩,fun a l c hv=>?_,by omega⟩
  cases hv
  refine ⟨?_,h2⟩
  simp [elemOk,h4]
theorem wf_i64 {x:Int} (h:(Lit.int .i64 x).wf=true):-9223372036854775808≤x∧x≤9223372036854775807:=by
 simp only [Lit.wf,Bool.and_eq_true,decide_eq_true_eq] at h
 have h1:IntKind.i64.min=-9223372036854775808:=by rfl
 have h2:IntKind.i64.max=9223372036854775807:=by rfl
 omega
theorem wf_u8 {x:Int} (h:(Lit.int .u8 x).wf=true):0≤x∧x<256:=by
 simp only [Lit.wf,Bool.and_eq_true,decide_eq_true_eq] at h
 have h1:IntKind.u8.min=0:=by rfl
 have h2:IntKind.u8.max=255:=by rfl
 omega
section
variable {W:CW} {m:Nat} {cs:List Value} {k off:Nat}
theorem u46:∃ e,prog.underlying 46=some (.slice e):=⟨match prog.underlying 46 with | some (.slice e)=>e | _=>0,by kernel_rfl⟩
theorem c3:prog.cellsOf 3=1:=by kernel_rfl
theorem c5:prog.cellsOf 5=1:=by kernel_rfl
theorem c9:prog.cellsOf 9=1:=by kernel_rfl
theorem c40:prog.cellsOf 40=1:=by kernel_rfl
theorem c45:prog.cellsOf 45=1:=by kernel_rfl
theorem c46:prog.cellsOf 46=1:=by kernel_rfl
theorem c48:prog.cellsOf 48=5:=by kernel_rfl
theorem c56:prog.cellsOf 56=2:=by kernel_rfl
theorem c58:prog.cellsOf 58=3:=by kernel_rfl
theorem c72:prog.cellsOf 72=2:=by kernel_rfl
theorem ut3:prog.underlying 3=some (.int .i64):=by kernel_rfl
theorem ut5:prog.underlying 5=some (.int .u8):=by kernel_rfl
theorem view_int {v:Value} (h:Leaf prog W 40 v):∃ l,IsSl 1 (RInt W) v l∧ElOk W 3 v∧l.length≤maxLen :=
 zGJ u40 c3 h fun m cs k off hc hj=>by
  cases m with
  | zero=>exact hc.elim
  | succ m =>
   simp only [CT,ut3] at hc
   obtain ⟨x,rfl,hw⟩:=hc
   exact ⟨x,by have:=hj 0 (by omega); simpa using this,wf_i64 hw⟩
theorem zJW {n:Nat} {t:TypeId} {o:Nat} (hm:(fieldsL prog t).any (fun x=>Nat.beq x.1 9 && Nat.beq x.2 o)=true) (hn:prog.cellsOf t=n) (ho:o<n) (hc:CT prog m t W cs) (hj:∀ j,j<n→W.cell k (off+j)=cs[j]?):∃ s:ByteArray,W.cell k (off+o)=some (.string s):=by
 obtain ⟨v,hv,hl⟩:=zE2 hm hn c9 ho hc
 obtain ⟨s,rfl,_⟩:=hl.string u9
 exact ⟨s,(hj o ho).trans hv⟩
theorem at_u8 {n:Nat} {t:TypeId} {o:Nat} (hm:(fieldsL prog t).any (fun x=>Nat.beq x.1 5 && Nat.beq x.2 o)=true) (hn:prog.cellsOf t=n) (ho:o<n) (hc:CT prog m t W cs) (hj:∀ j,j<n→W.cell k (off+j)=cs[j]?):∃ x:Int,W.cell k (off+o)=some (.int .u8 x)∧0≤x∧x<256:=by
 obtain ⟨v,hv,hl⟩:=zE2 hm hn c5 ho hc
 obtain ⟨x,rfl,hw⟩:=hl.int ut5
 exact ⟨x,(hj o ho).trans hv,wf_u8 hw⟩
theorem view_fld {v:Value} (h:Leaf prog W 45 v):∃ l,IsSl 2 (RFld W) v l∧ElOk W 72 v∧l.length≤maxLen :=
 zGJ u45 c72 h fun m cs k off hc hj=>by
  obtain ⟨s,h0⟩:=zJW (o:=0) (by kernel_rfl) c72 (by omega) hc hj
  obtain ⟨x,h1,h2,h3⟩:=at_u8 (o:=1) (by kernel_rfl) c72 (by omega) hc hj
  exact ⟨⟨s,x⟩,h0,h1,h2,h3⟩
theorem view_shp {v:Value} (h:Leaf prog W 22 v):∃ l,IsSl 5 (RShp W) v l∧ElOk W 48 v∧l.length≤maxLen :=
 zGJ u22 c48 h fun m cs k off hc hj=>by
  obtain ⟨s,h0⟩:=zJW (o:=0) (by kernel_rfl) c48 (by omega) hc hj
  obtain ⟨s2,h1⟩:=zJW (o:=1) (by kernel_rfl) c48 (by omega) hc hj
  obtain ⟨v2,hv2,hl2⟩:=zE2 (ty:=45) (off:=2) (by kernel_rfl) c48 c45 (by omega) hc
  obtain ⟨fs,hfs,_⟩:=view_fld hl2
  obtain ⟨x,h3,h4,h5⟩:=at_u8 (o:=3) (by kernel_rfl) c48 (by omega) hc hj
  obtain ⟨v4,hv4,hl4⟩:=zE2 (ty:=46) (off:=4) (by kernel_rfl) c48 c46 (by omega) hc
  obtain ⟨e,he⟩:=u46
  have hb:∃ a l k,v4=.slice a l k:=by
   rcases hl4.slice he with rfl | rfl | ⟨k,len,cap,f,m,rfl,_⟩ <;> exact ⟨_,_,_,rfl⟩
  obtain ⟨a,l,c,rfl⟩:=hb
  exact ⟨⟨s,s2,fs,x⟩,h0,h1,⟨v2,(hj 2 (by omega)).trans hv2,hfs⟩,h3,⟨a,l,c,(hj 4 (by omega)).trans hv4⟩,h4,h5⟩
theorem view_spc {v:Value} (h:Leaf prog W 23 v):∃ l,IsSl 3 (RSpc W) v l∧ElOk W 58 v∧l.length≤maxLen :=
 zGJ u23 c58 h fun m cs k off hc hj=>by
  obtain ⟨s,h0⟩:=zJW (o:=0) (by kernel_rfl) c58 (by omega) hc hj
  obtain ⟨s2,h1⟩:=zJW (o:=1) (by kernel_rfl) c58 (by omega) hc hj
  obtain ⟨v2,hv2,hl2⟩:=zE2 (ty:=40) (off:=2) (by kernel_rfl) c58 c40 (by omega) hc
  obtain ⟨fs,hfs,hok,_⟩:=view_int hl2
  exact ⟨⟨s,s2,fs⟩,h0,h1,⟨v2,(hj 2 (by omega)).trans hv2,hfs,hok⟩⟩
theorem view_thg {v:Value} (h:Leaf prog W 24 v):∃ l,IsSl 2 (RThg W) v l∧ElOk W 56 v∧l.length≤maxLen :=
 zGJ u24 c56 h fun m cs k off hc hj=>by
  obtain ⟨s,h0⟩:=zJW (o:=0) (by kernel_rfl) c56 (by omega) hc hj
  obtain ⟨v2,hv2,hl2⟩:=zE2 (ty:=40) (off:=1) (by kernel_rfl) c56 c40 (by omega) hc
  obtain ⟨fs,hfs,_⟩:=view_int hl2
  exact ⟨⟨s,fs⟩,h0,⟨v2,(hj 1 (by omega)).trans hv2,hfs⟩⟩
end
end Go.Ce
namespace Go.Ce
open Go Go.Proofs Go.Proofs.Tryz
def zJL (ro:Option Nat) (K:zAH):zAH:=zA6 (fun e ds W=>K .ret e ds W) K
def zJK (ro:Option Nat) (K:zAH):zAH:=zA6 (fun e ds W=>wV (zAr prog 22 (e 0) W) fun v71=>wV (zAO prog .leq 3 true v71 (.int .i64 12)) fun v72=>wI v72 ((zJL ro K) .normal (Env.of e [(2,(.bool true)),(82,(.bool true)),(81,undef),(73,(.bool true)),(80,undef),(79,undef),(78,undef),(77,undef),(73,(.bool true)),(76,undef),(73,(.bool true)),(75,undef),(73,(.bool true)),(74,undef),(73,(.bool true)),(73,v72),(72,v72),(71,v71),(70,(e 0))]) ds W) (wV (zAr prog 22 (e 0) W) fun v75=>wV (zAO prog .gtr 3 true v75 (.int .i64 100)) fun v76=>wI v76 (wV (zAr prog 22 (e 0) W) fun v79=>wV (zAO prog .leq 3 true v79 (.int .i64 102)) fun v80=>(zJL ro K) .normal (Env.of e [(2,v80),(82,v80),(81,v80),(73,(.bool false)),(80,v80),(77,(.bool true)),(79,v79),(77,(.bool true)),(78,(e 0)),(77,(.bool true)),(77,v76),(73,(.bool false)),(76,v76),(73,(.bool false)),(75,v75),(73,(.bool false)),(74,(e 0)),(73,(.bool false)),(73,v72),(72,v72),(71,v71),(70,(e 0))]) ds W) ((zJL ro K) .normal (Env.of e [(2,(.bool false)),(82,(.bool false)),(81,(.bool false)),(73,(.bool false)),(80,undef),(77,(.bool false)),(79,undef),(77,(.bool false)),(78,undef),(77,(.bool false)),(77,v76),(73,(.bool false)),(76,v76),(73,(.bool false)),(75,v75),(73,(.bool false)),(74,(e 0)),(73,(.bool false)),(73,v72),(72,v72),(71,v71),(70,(e 0))]) ds W))) K
theorem f13_c (v0:Value) (K:zAH) (W:CW):zAJ prog pkL none 13 83 (zAF prog 13) (Env.args [v0]) [] W K=(zC0 prog pkL none 13 83 (.loop (zAU prog 13 0)) (Env.of (Env.args [v0]) [(3,(.int .i64 0)),(2,(.bool false))]) [] W (zBz 0 (zJK none K))):=by kernel_rfl
def f13_k2 (ro:Option Nat) (K:zAH):zAH:=zA6 (fun e ds W=>wV (zAO prog .add 3 true (e 3) (.int .i64 1)) fun v14=>K .normal (Env.of e [(3,v14),(14,v14),(13,(e 3))]) ds W) K
def f13_k3 (ro:Option Nat) (K:zAH):zAH:=zA6 (fun e ds W=>zC0 prog pkL ro 13 83 (.loop (zAU prog 13 1)) (Env.of e [(4,(.int .i64 0))]) ds W (zBz 2 (zBz 1 (f13_k2 ro K)))) (zBz 1 (f13_k2 ro K))
def zJJ (ro:Option Nat) (K:zAH):zAH:=zA6 (fun e ds W=>wI (e 48) ((f13_k3 ro K) .ret (Env.of e [(2,(.bool false))]) ds W) ((f13_k3 ro K) .normal e ds W)) (f13_k3 ro K)
def zJI (ro:Option Nat) (K:zAH):zAH:=zA6 (fun e ds W=>wV (iad prog 22 (e 0) (e 3)) fun v17=>wV (fad prog 48 v17 0) fun v18=>wV (ld prog 9 v18 W) fun v19=>wV (zAr prog 9 v19 W) fun v20=>wV (zAO prog .gtr 3 true v20 (.int .i64 70)) fun v21=>wI v21 ((zJJ ro K) .normal (Env.of e [(48,(.bool true)),(47,undef),(40,(.bool true)),(46,undef),(40,(.bool true)),(45,undef),(40,(.bool true)),(44,undef),(40,(.bool true)),(43,undef),(40,(.bool true)),(42,undef),(40,(.bool true)),(41,undef),(40,(.bool true)),(40,(.bool true)),(39,(.bool true)),(38,undef),(31,(.bool true)),(37,undef),(31,(.bool true)),(36,undef),(31,(.bool true)),(35,undef),(31,(.bool true)),(34,undef),(31,(.bool true)),(33,undef),(31,(.bool true)),(32,undef),(31,(.bool true)),(31,(.bool true)),(30,(.bool true)),(29,undef),(22,(.bool true)),(28,undef),(22,(.bool true)),(27,undef),(22,(.bool true)),(26,undef),(22,(.bool true)),(25,undef),(22,(.bool true)),(24,undef),(22,(.bool true)),(23,undef),(22,(.bool true)),(22,v21),(21,v21),(20,v20),(19,v19),(18,v18),(17,v17),(16,(e 3)),(15,(e 0))]) ds W) (wV (iad prog 22 (e 0) (e 3)) fun v25=>wV (fad prog 48 v25 1) fun v26=>wV (ld prog 9 v26 W) fun v27=>wV (zAr prog 9 v27 W) fun v28=>wV (zAO prog .gtr 3 true v28 (.int .i64 70)) fun v29=>wI v29 ((zJJ ro K) .normal (Env.of e [(48,(.bool true)),(47,undef),(40,(.bool true)),(46,undef),(40,(.bool true)),(45,undef),(40,(.bool true)),(44,undef),(40,(.bool true)),(43,undef),(40,(.bool true)),(42,undef),(40,(.bool true)),(41,undef),(40,(.bool true)),(40,(.bool true)),(39,(.bool true)),(38,undef),(31,(.bool true)),(37,undef),(31,(.bool true)),(36,undef),(31,(.bool true)),(35,undef),(31,(.bool true)),(34,undef),(31,(.bool true)),(33,undef),(31,(.bool true)),(32,undef),(31,(.bool true)),(31,v29),(30,v29),(29,v29),(22,(.bool false)),(28,v28),(22,(.bool false)),(27,v27),(22,(.bool false)),(26,v26),(22,(.bool false)),(25,v25),(22,(.bool false)),(24,(e 3)),(22,(.bool false)),(23,(e 0)),(22,(.bool false)),(22,v21),(21,v21),(20,v20),(19,v19),(18,v18),(17,v17),(16,(e 3)),(15,(e 0))]) ds W) (wV (iad prog 22 (e 0) (e 3)) fun v34=>wV (fad prog 48 v34 2) fun v35=>wV (ld prog 45 v35 W) fun v36=>wV (zAr prog 45 v36 W) fun v37=>wV (zAO prog .gtr 3 true v37 (.int .i64 24)) fun v38=>wI v38 ((zJJ ro K) .normal (Env.of e [(48,(.bool true)),(47,undef),(40,(.bool true)),(46,undef),(40,(.bool true)),(45,undef),(40,(.bool true)),(44,undef),(40,(.bool true)),(43,undef),(40,(.bool true)),(42,undef),(40,(.bool true)),(41,undef),(40,(.bool true)),(40,v38),(39,v38),(38,v38),(31,(.bool false)),(37,v37),(31,(.bool false)),(36,v36),(31,(.bool false)),(35,v35),(31,(.bool false)),(34,v34),(31,(.bool false)),(33,(e 3)),(31,(.bool false)),(32,(e 0)),(31,(.bool false)),(31,v29),(30,v29),(29,v29),(22,(.bool false)),(28,v28),(22,(.bool false)),(27,v27),(22,(.bool false)),(26,v26),(22,(.bool false)),(25,v25),(22,(.bool false)),(24,(e 3)),(22,(.bool false)),(23,(e 0)),(22,(.bool false)),(22,v21),(21,v21),(20,v20),(19,v19),(18,v18),(17,v17),(16,(e 3)),(15,(e 0))]) ds W) (wV (iad prog 22 (e 0) (e 3)) fun v43=>wV (fad prog 48 v43 4) fun v44=>wV (ld prog 46 v44 W) fun v45=>wV (zAr prog 46 v45 W) fun v46=>wV (zAO prog .gtr 3 true v46 (.int .i64 20)) fun v47=>(zJJ ro K) .normal (Env.of e [(48,v47),(47,v47),(40,(.bool false)),(46,v46),(40,(.bool false)),(45,v45),(40,(.bool false)),(44,v44),(40,(.bool false)),(43,v43),(40,(.bool false)),(42,(e 3)),(40,(.bool false)),(41,(e 0)),(40,(.bool false)),(40,v38),(39,v38),(38,v38),(31,(.bool false)),(37,v37),(31,(.bool false)),(36,v36),(31,(.bool false)),(35,v35),(31,(.bool false)),(34,v34),(31,(.bool false)),(33,(e 3)),(31,(.bool false)),(32,(e 0)),(31,(.bool false)),(31,v29),(30,v29),(29,v29),(22,(.bool false)),(28,v28),(22,(.bool false)),(27,v27),(22,(.bool false)),(26,v26),(22,(.bool false)),(25,v25),(22,(.bool false)),(24,(e 3)),(22,(.bool false)),(23,(e 0)),(22,(.bool false)),(22,v21),(21,v21),(20,v20),(19,v19),(18,v18),(17,v17),(16,(e 3)),(15,(e 0))]) ds W)))) K
def f13_k6 (ro:Option Nat) (K:zAH):zAH:=zA6 (fun e ds W=>wI (e 12) ((zJI ro K) .normal e ds W) ((zJI ro K) (.exit 0) e ds W)) (zJI ro K)
theorem f13_l0 (ro:Option Nat) (e:Env) (ds:List Deferred) (K:zAH) (W:CW):zAJ prog pkL ro 13 83 (zAU prog 13 0) e ds W K=(wV (zAr prog 22 (e 0) W) fun v7=>wV (zAO prog .lss 3 false (e 3) v7) fun v8=>wI v8 (wV (zAO prog .lss 3 true (e 3) (.int .i64 103)) fun v11=>(f13_k6 ro K) .normal (Env.of e [(12,v11),(11,v11),(9,(.bool true)),(10,(e 3)),(9,(.bool true)),(9,v8),(8,v8),(7,v7),(6,(e 0)),(5,(e 3))]) ds W) ((f13_k6 ro K) .normal (Env.of e [(12,(.bool false)),(11,undef),(9,(.bool false)),(10,undef),(9,(.bool false)),(9,v8),(8,v8),(7,v7),(6,(e 0)),(5,(e 3))]) ds W)):=by kernel_rfl
def f13_k7 (ro:Option Nat) (K:zAH):zAH:=zA6 (fun e ds W=>wV (zAO prog .add 3 true (e 4) (.int .i64 1)) fun v58=>K .normal (Env.of e [(4,v58),(58,v58),(57,(e 4))]) ds W) K
theorem f13_l1 (ro:Option Nat) (e:Env) (ds:List Deferred) (K:zAH) (W:CW):zAJ prog pkL ro 13 83 (zAU prog 13 1) e ds W K=(wV (iad prog 22 (e 0) (e 3)) fun v52=>wV (fad prog 48 v52 2) fun v53=>wV (ld prog 45 v53 W) fun v54=>wV (zAr prog 45 v54 W) fun v55=>wV (zAO prog .lss 3 false (e 4) v55) fun v56=>wI v56 (wV (iad prog 22 (e 0) (e 3)) fun v61=>wV (fad prog 48 v61 2) fun v62=>wV (ld prog 45 v62 W) fun v63=>wV (iad prog 45 v63 (e 4)) fun v65=>wV (fad prog 72 v65 0) fun v66=>wV (ld prog 9 v66 W) fun v67=>wV (zAr prog 9 v67 W) fun v68=>wV (zAO prog .gtr 3 true v68 (.int .i64 70)) fun v69=>wI v69 ((f13_k7 ro K) .ret (Env.of e [(2,(.bool false)),(69,v69),(68,v68),(67,v67),(66,v66),(65,v65),(64,(e 4)),(63,v63),(62,v62),(61,v61),(60,(e 3)),(59,(e 0)),(56,v56),(55,v55),(54,v54),(53,v53),(52,v52),(51,(e 3)),(50,(e 0)),(49,(e 4))]) ds W) ((f13_k7 ro K) .normal (Env.of e [(69,v69),(68,v68),(67,v67),(66,v66),(65,v65),(64,(e 4)),(63,v63),(62,v62),(61,v61),(60,(e 3)),(59,(e 0)),(56,v56),(55,v55),(54,v54),(53,v53),(52,v52),(51,(e 3)),(50,(e 0)),(49,(e 4))]) ds W)) (K (.exit 2) (Env.of e [(56,v56),(55,v55),(54,v54),(53,v53),(52,v52),(51,(e 3)),(50,(e 0)),(49,(e 4))]) ds W)):=by kernel_rfl
theorem f13_leave (Q:Ending→CW→Prop) (e:Env) (W:CW):zAD prog Tryz.f13 Q .ret e [] W=Q (.returned (e 2)) W:=by kernel_rfl
theorem f13_w {Q:Ending→CW→Prop} {v0:Value} {W:CW} (h:zAJ prog pkL none 13 83 (zAF prog 13) (Env.args [v0]) [] W (zAD prog Tryz.f13 Q)):WCall prog pkL 13 [v0] W Q:=zAM Tryz.func13 (by kernel_rfl) (by kernel_rfl) (by kernel_rfl) (by kernel_rfl) (by kernel_rfl) h
def f14_k0 (ro:Option Nat) (K:zAH):zAH:=zA6 (fun e ds W=>wV (zAr prog 23 (e 0) W) fun v40=>wV (zAO prog .leq 3 true v40 (.int .i64 22)) fun v41=>K .ret (Env.of e [(2,v41),(41,v41),(40,v40),(39,(e 0))]) ds W) K
theorem f14_c (v0:Value) (K:zAH) (W:CW):zAJ prog pkL none 14 42 (zAF prog 14) (Env.args [v0]) [] W K=(zC0 prog pkL none 14 42 (.loop (zAU prog 14 0)) (Env.of (Env.args [v0]) [(3,(.int .i64 0)),(2,(.bool false))]) [] W (zBz 0 (f14_k0 none K))):=by kernel_rfl
def zJG (ro:Option Nat) (K:zAH):zAH:=zA6 (fun e ds W=>wV (zAO prog .add 3 true (e 3) (.int .i64 1)) fun v13=>K .normal (Env.of e [(3,v13),(13,v13),(12,(e 3))]) ds W) K
def zJF (ro:Option Nat) (K:zAH):zAH:=zA6 (fun e ds W=>wI (e 38) ((zJG ro K) .ret (Env.of e [(2,(.bool false))]) ds W) ((zJG ro K) .normal e ds W)) (zBz 1 (zJG ro K))
def zJE (ro:Option Nat) (K:zAH):zAH:=zA6 (fun e ds W=>wV (iad prog 23 (e 0) (e 3)) fun v16=>wV (fad prog 58 v16 0) fun v17=>wV (ld prog 9 v17 W) fun v18=>wV (zAr prog 9 v18 W) fun v19=>wV (zAO prog .gtr 3 true v19 (.int .i64 70)) fun v20=>wI v20 ((zJF ro K) .normal (Env.of e [(38,(.bool true)),(37,undef),(30,(.bool true)),(36,undef),(30,(.bool true)),(35,undef),(30,(.bool true)),(34,undef),(30,(.bool true)),(33,undef),(30,(.bool true)),(32,undef),(30,(.bool true)),(31,undef),(30,(.bool true)),(30,(.bool true)),(29,(.bool true)),(28,undef),(21,(.bool true)),(27,undef),(21,(.bool true)),(26,undef),(21,(.bool true)),(25,undef),(21,(.bool true)),(24,undef),(21,(.bool true)),(23,undef),(21,(.bool true)),(22,undef),(21,(.bool true)),(21,v20),(20,v20),(19,v19),(18,v18),(17,v17),(16,v16),(15,(e 3)),(14,(e 0))]) ds W) (wV (iad prog 23 (e 0) (e 3)) fun v24=>wV (fad prog 58 v24 1) fun v25=>wV (ld prog 9 v25 W) fun v26=>wV (zAr prog 9 v26 W) fun v27=>wV (zAO prog .gtr 3 true v27 (.int .i64 70)) fun v28=>wI v28 ((zJF ro K) .normal (Env.of e [(38,(.bool true)),(37,undef),(30,(.bool true)),(36,undef),(30,(.bool true)),(35,undef),(30,(.bool true)),(34,undef),(30,(.bool true)),(33,undef),(30,(.bool true)),(32,undef),(30,(.bool true)),(31,undef),(30,(.bool true)),(30,v28),(29,v28),(28,v28),(21,(.bool false)),(27,v27),(21,(.bool false)),(26,v26),(21,(.bool false)),(25,v25),(21,(.bool false)),(24,v24),(21,(.bool false)),(23,(e 3)),(21,(.bool false)),(22,(e 0)),(21,(.bool false)),(21,v20),(20,v20),(19,v19),(18,v18),(17,v17),(16,v16),(15,(e 3)),(14,(e 0))]) ds W) (wV (iad prog 23 (e 0) (e 3)) fun v33=>wV (fad prog 58 v33 2) fun v34=>wV (ld prog 40 v34 W) fun v35=>wV (zAr prog 40 v35 W) fun v36=>wV (zAO prog .gtr 3 true v36 (.int .i64 70)) fun v37=>(zJF ro K) .normal (Env.of e [(38,v37),(37,v37),(30,(.bool false)),(36,v36),(30,(.bool false)),(35,v35),(30,(.bool false)),(34,v34),(30,(.bool false)),(33,v33),(30,(.bool false)),(32,(e 3)),(30,(.bool false)),(31,(e 0)),(30,(.bool false)),(30,v28),(29,v28),(28,v28),(21,(.bool false)),(27,v27),(21,(.bool false)),(26,v26),(21,(.bool false)),(25,v25),(21,(.bool false)),(24,v24),(21,(.bool false)),(23,(e 3)),(21,(.bool false)),(22,(e 0)),(21,(.bool false)),(21,v20),(20,v20),(19,v19),(18,v18),(17,v17),(16,v16),(15,(e 3)),(14,(e 0))]) ds W))) K
def f14_k4 (ro:Option Nat) (K:zAH):zAH:=zA6 (fun e ds W=>wI (e 11) ((zJE ro K) .normal e ds W) ((zJE ro K) (.exit 0) e ds W)) (zJE ro K)
theorem f14_l0 (ro:Option Nat) (e:Env) (ds:List Deferred) (K:zAH) (W:CW):zAJ prog pkL ro 14 42 (zAU prog 14 0) e ds W K=(wV (zAr prog 23 (e 0) W) fun v6=>wV (zAO prog .lss 3 false (e 3) v6) fun v7=>wI v7 (wV (zAO prog .lss 3 true (e 3) (.int .i64 22)) fun v10=>(f14_k4 ro K) .normal (Env.of e [(11,v10),(10,v10),(8,(.bool true)),(9,(e 3)),(8,(.bool true)),(8,v7),(7,v7),(6,v6),(5,(e 0)),(4,(e 3))]) ds W) ((f14_k4 ro K) .normal (Env.of e [(11,(.bool false)),(10,undef),(8,(.bool false)),(9,undef),(8,(.bool false)),(8,v7),(7,v7),(6,v6),(5,(e 0)),(4,(e 3))]) ds W)):=by kernel_rfl
theorem f14_leave (Q:Ending→CW→Prop) (e:Env) (W:CW):zAD prog Tryz.f14 Q .ret e [] W=Q (.returned (e 2)) W:=by kernel_rfl
theorem f14_w {Q:Ending→CW→Prop} {v0:Value} {W:CW} (h:zAJ prog pkL none 14 42 (zAF prog 14) (Env.args [v0]) [] W (zAD prog Tryz.f14 Q)):WCall prog pkL 14 [v0] W Q:=zAM Tryz.func14 (by kernel_rfl) (by kernel_rfl) (by kernel_rfl) (by kernel_rfl) (by kernel_rfl) h
def zJD (ro:Option Nat) (K:zAH):zAH:=zA6 (fun e ds W=>K .ret e ds W) K
def f15_k1 (ro:Option Nat) (K:zAH):zAH:=zA6 (fun e ds W=>wV (zAr prog 24 (e 0) W) fun v45=>wV (zAO prog .leq 3 true v45 (.int .i64 40)) fun v46=>wI v46 ((zJD ro K) .normal (Env.of e [(2,(.bool true)),(56,(.bool true)),(55,undef),(47,(.bool true)),(54,undef),(53,undef),(52,undef),(51,undef),(47,(.bool true)),(50,undef),(47,(.bool true)),(49,undef),(47,(.bool true)),(48,undef),(47,(.bool true)),(47,v46),(46,v46),(45,v45),(44,(e 0))]) ds W) (wV (zAr prog 24 (e 0) W) fun v49=>wV (zAO prog .gtr 3 true v49 (.int .i64 1000)) fun v50=>wI v50 (wV (zAr prog 24 (e 0) W) fun v53=>wV (zAO prog .leq 3 true v53 (.int .i64 1002)) fun v54=>(zJD ro K) .normal (Env.of e [(2,v54),(56,v54),(55,v54),(47,(.bool false)),(54,v54),(51,(.bool true)),(53,v53),(51,(.bool true)),(52,(e 0)),(51,(.bool true)),(51,v50),(47,(.bool false)),(50,v50),(47,(.bool false)),(49,v49),(47,(.bool false)),(48,(e 0)),(47,(.bool false)),(47,v46),(46,v46),(45,v45),(44,(e 0))]) ds W) ((zJD ro K) .normal (Env.of e [(2,(.bool false)),(56,(.bool false)),(55,(.bool false)),(47,(.bool false)),(54,undef),(51,(.bool false)),(53,undef),(51,(.bool false)),(52,undef),(51,(.bool false)),(51,v50),(47,(.bool false)),(50,v50),(47,(.bool false)),(49,v49),(47,(.bool false)),(48,(e 0)),(47,(.bool false)),(47,v46),(46,v46),(45,v45),(44,(e 0))]) ds W))) K
theorem f15_c (v0:Value) (K:zAH) (W:CW):zAJ prog pkL none 15 57 (zAF prog 15) (Env.args [v0]) [] W K=(zC0 prog pkL none 15 57 (.loop (zAU prog 15 0)) (Env.of (Env.args [v0]) [(3,(.int .i64 0)),(2,(.bool false))]) [] W (zBz 0 (f15_k1 none K))):=by kernel_rfl
def f15_k2 (ro:Option Nat) (K:zAH):zAH:=zA6 (fun e ds W=>wV (zAO prog .add 3 true (e 3) (.int .i64 1)) fun v9=>K .normal (Env.of e [(3,v9),(9,v9),(8,(e 3))]) ds W) K
def zJC (ro:Option Nat) (K:zAH):zAH:=zA6 (fun e ds W=>wI (e 43) ((f15_k2 ro K) .ret (Env.of e [(2,(.bool false))]) ds W) ((f15_k2 ro K) .normal e ds W)) (zBz 1 (f15_k2 ro K))
theorem f15_l0 (ro:Option Nat) (e:Env) (ds:List Deferred) (K:zAH) (W:CW):zAJ prog pkL ro 15 57 (zAU prog 15 0) e ds W K=(wV (zAr prog 24 (e 0) W) fun v6=>wV (zAO prog .lss 3 false (e 3) v6) fun v7=>wI v7 (wV (iad prog 24 (e 0) (e 3)) fun v12=>wV (fad prog 56 v12 0) fun v13=>wV (ld prog 9 v13 W) fun v14=>wV (zAr prog 9 v14 W) fun v15=>wV (zAO prog .gtr 3 true v15 (.int .i64 70)) fun v16=>wI v16 ((zJC ro K) .normal (Env.of e [(43,(.bool true)),(42,undef),(35,(.bool true)),(41,undef),(35,(.bool true)),(40,undef),(35,(.bool true)),(39,undef),(35,(.bool true)),(38,undef),(35,(.bool true)),(37,undef),(35,(.bool true)),(36,undef),(35,(.bool true)),(35,(.bool true)),(34,(.bool true)),(33,undef),(17,(.bool true)),(32,undef),(31,undef),(30,undef),(29,undef),(28,undef),(27,undef),(26,undef),(25,undef),(17,(.bool true)),(24,undef),(17,(.bool true)),(23,undef),(17,(.bool true)),(22,undef),(17,(.bool true)),(21,undef),(17,(.bool true)),(20,undef),(17,(.bool true)),(19,undef),(17,(.bool true)),(18,undef),(17,(.bool true)),(17,v16),(16,v16),(15,v15),(14,v14),(13,v13),(12,v12),(11,(e 3)),(10,(e 0)),(7,v7),(6,v6),(5,(e 0)),(4,(e 3))]) ds W) (wV (iad prog 24 (e 0) (e 3)) fun v20=>wV (fad prog 56 v20 1) fun v21=>wV (ld prog 40 v21 W) fun v22=>wV (zAr prog 40 v22 W) fun v23=>wV (zAO prog .gtr 3 true v23 (.int .i64 70)) fun v24=>wI v24 (wV (iad prog 24 (e 0) (e 3)) fun v28=>wV (fad prog 56 v28 1) fun v29=>wV (ld prog 40 v29 W) fun v30=>wV (zAr prog 40 v30 W) fun v31=>wV (zAO prog .leq 3 true v31 (.int .i64 200)) fun v32=>wI v32 ((zJC ro K) .normal (Env.of e [(43,(.bool true)),(42,undef),(35,(.bool true)),(41,undef),(35,(.bool true)),(40,undef),(35,(.bool true)),(39,undef),(35,(.bool true)),(38,undef),(35,(.bool true)),(37,undef),(35,(.bool true)),(36,undef),(35,(.bool true)),(35,v32),(34,v32),(33,v32),(17,(.bool false)),(32,v32),(25,(.bool true)),(31,v31),(25,(.bool true)),(30,v30),(25,(.bool true)),(29,v29),(25,(.bool true)),(28,v28),(25,(.bool true)),(27,(e 3)),(25,(.bool true)),(26,(e 0)),(25,(.bool true)),(25,v24),(17,(.bool false)),(24,v24),(17,(.bool false)),(23,v23),(17,(.bool false)),(22,v22),(17,(.bool false)),(21,v21),(17,(.bool false)),(20,v20),(17,(.bool false)),(19,(e 3)),(17,(.bool false)),(18,(e 0)),(17,(.bool false)),(17,v16),(16,v16),(15,v15),(14,v14),(13,v13),(12,v12),(11,(e 3)),(10,(e 0)),(7,v7),(6,v6),(5,(e 0)),(4,(e 3))]) ds W) (wV (iad prog 24 (e 0) (e 3)) fun v38=>wV (fad prog 56 v38 1) fun v39=>wV (ld prog 40 v39 W) fun v40=>wV (zAr prog 40 v40 W) fun v41=>wV (zAO prog .gtr 3 true v41 (.int .i64 203)) fun v42=>(zJC ro K) .normal (Env.of e [(43,v42),(42,v42),(35,(.bool false)),(41,v41),(35,(.bool false)),(40,v40),(35,(.bool false)),(39,v39),(35,(.bool false)),(38,v38),(35,(.bool false)),(37,(e 3)),(35,(.bool false)),(36,(e 0)),(35,(.bool false)),(35,v32),(34,v32),(33,v32),(17,(.bool false)),(32,v32),(25,(.bool true)),(31,v31),(25,(.bool true)),(30,v30),(25,(.bool true)),(29,v29),(25,(.bool true)),(28,v28),(25,(.bool true)),(27,(e 3)),(25,(.bool true)),(26,(e 0)),(25,(.bool true)),(25,v24),(17,(.bool false)),(24,v24),(17,(.bool false)),(23,v23),(17,(.bool false)),(22,v22),(17,(.bool false)),(21,v21),(17,(.bool false)),(20,v20),(17,(.bool false)),(19,(e 3)),(17,(.bool false)),(18,(e 0)),(17,(.bool false)),(17,v16),(16,v16),(15,v15),(14,v14),(13,v13),(12,v12),(11,(e 3)),(10,(e 0)),(7,v7),(6,v6),(5,(e 0)),(4,(e 3))]) ds W)) (wV (iad prog 24 (e 0) (e 3)) fun v38=>wV (fad prog 56 v38 1) fun v39=>wV (ld prog 40 v39 W) fun v40=>wV (zAr prog 40 v40 W) fun v41=>wV (zAO prog .gtr 3 true v41 (.int .i64 203)) fun v42=>(zJC ro K) .normal (Env.of e [(43,v42),(42,v42),(35,(.bool false)),(41,v41),(35,(.bool false)),(40,v40),(35,(.bool false)),(39,v39),(35,(.bool false)),(38,v38),(35,(.bool false)),(37,(e 3)),(35,(.bool false)),(36,(e 0)),(35,(.bool false)),(35,(.bool false)),(34,(.bool false)),(33,(.bool false)),(17,(.bool false)),(32,undef),(25,(.bool false)),(31,undef),(25,(.bool false)),(30,undef),(25,(.bool false)),(29,undef),(25,(.bool false)),(28,undef),(25,(.bool false)),(27,undef),(25,(.bool false)),(26,undef),(25,(.bool false)),(25,v24),(17,(.bool false)),(24,v24),(17,(.bool false)),(23,v23),(17,(.bool false)),(22,v22),(17,(.bool false)),(21,v21),(17,(.bool false)),(20,v20),(17,(.bool false)),(19,(e 3)),(17,(.bool false)),(18,(e 0)),(17,(.bool false)),(17,v16),(16,v16),(15,v15),(14,v14),(13,v13),(12,v12),(11,(e 3)),(10,(e 0)),(7,v7),(6,v6),(5,(e 0)),(4,(e 3))]) ds W))) (K (.exit 0) (Env.of e [(7,v7),(6,v6),(5,(e 0)),(4,(e 3))]) ds W)):=by kernel_rfl
theorem f15_leave (Q:Ending→CW→Prop) (e:Env) (W:CW):zAD prog Tryz.f15 Q .ret e [] W=Q (.returned (e 2)) W:=by kernel_rfl
theorem f15_w {Q:Ending→CW→Prop} {v0:Value} {W:CW} (h:zAJ prog pkL none 15 57 (zAF prog 15) (Env.args [v0]) [] W (zAD prog Tryz.f15 Q)):WCall prog pkL 15 [v0] W Q:=zAM Tryz.func15 (by kernel_rfl) (by kernel_rfl) (by kernel_rfl) (by kernel_rfl) (by kernel_rfl) h
end Go.Ce
namespace Go.Ce
open Go Go.Proofs Go.Proofs.Tryz
def zDj (A:Prop) (W:CW):Ending→CW→Prop:=fun e W'=>W'=W∧∃ b,e=.returned (.bool b)∧(b=true→A)
theorem zJi {v0:Value} {l:List Spc} {W:CW} (hl:IsSl 3 (RSpc W) v0 l) :
  WCall prog pkL 14 [v0] W (zDj (l.length≤22∧∀ s,s ∈ l→s.map.length≤70) W):=by
 refine f14_w ?_
 rw [f14_c]
 obtain ⟨a,cap,rfl,hc⟩:=hl
 generalize hKK:zAD prog Tryz.f14 (zDj (l.length≤22∧∀ s,s ∈ l→s.map.length≤70) W)=KK
 have hret:∀ (e:Env) (b:Bool),e 2=.bool b→(b=true→l.length≤22∧∀ s,s ∈ l→s.map.length≤70)→KK .ret e [] W:=by
  intro e b h2 hb
  rw [←hKK,f14_leave]
  exact ⟨rfl,b,by rw [h2],hb⟩
 refine zCk (fun i e ds W'=>ds=[]∧W'=W∧e 0=.slice a l.length cap∧e 3=.int .i64 i∧∀ j x,j<i→l[j]?=some x→x.map.length≤70) (min l.length 22) ⟨rfl,rfl,rfl,rfl,by omega⟩ ?_
 rintro i e ds W' hi ⟨rfl,rfl,h0,h3,hpre⟩
 rw [f14_l0,h0,h3]
 simp only [zAQ u23,zAA,zAa]
 have hend:∀ e1:Env,e1 0=.slice a l.length cap→(l.length≤22→i=l.length)→(f14_k0 none KK) .normal e1 [] W':=by
  intro e1 g0 hil
  simp only [f14_k0,qKn,qKr,qKx,qKp,bKn,bKr,bKp,bKx,tKn,tKr,tKx,tKp,zKn,zKr,zKx,zKp,g0,zAQ u23,zAA,zD4]
  refine hret _ _ rfl fun hb=>?_
  have hb:l.length≤22:=by have:=of_decide_eq_true hb; omega
  have hi2:=hil hb
  refine ⟨hb,fun s hs=>?_⟩
  obtain ⟨j,hj,rfl⟩:=List.getElem_of_mem hs
  exact hpre j _ (by omega) (List.getElem?_eq_getElem hj)
 refine zHF (fun hlt=>?_) (fun hge=>?_)
 ·simp only [f14_k4,qKn,qKr,qKx,qKp,bKn,bKr,bKp,bKx,tKn,tKr,tKx,tKp,zKn,zKr,zKx,zKp]
  simp only [eKc,eKn,eKa,Nat.reduceEqDiff,↓reduceIte,gKz,gKs,dKs,and_self]
  refine zAE (fun h22=>?_) (fun h22=>?_)
  ·have h22:i<22:=by have:=of_decide_eq_true h22; omega
   have hx:=List.getElem?_eq_getElem hlt
   obtain ⟨p,rfl,hp⟩:=hc i _ hx
   obtain ⟨vm,hvm,hm,_⟩:=hp.map
   obtain ⟨am,cm,rfl,_⟩:=hm
   simp only [zJE,qKn,qKr,qKx,qKp,bKn,bKr,bKp,bKx,tKn,tKr,tKx,tKp,zKn,zKr,zKx,zKp]
   simp only [eKc,eKn,eKa,Nat.reduceEqDiff,↓reduceIte,gKz,gKs,dKs,and_self,h0,h3]
   rw [zAi u23 s58 hlt]
   simp only [zAA,zFU,zEc,zGd]
   rw [zAC a9 (a:=⟨p.block,p.off+i*3,none⟩) hp.type,zAC a9 (a:=⟨p.block,p.off+i*3+1,none⟩) hp.to,zAC a40 (a:=⟨p.block,p.off+i*3+2,none⟩) hvm]
   simp only [zAA,zE3 u9,zAQ u40,zA4]
   have bad:∀ e1:Env,e1 38=.bool true→(zJF none (forK (fun i e ds W''=>ds=[]∧W''=W'∧e 0=.slice (some p) l.length cap∧e 3=.int .i64 i∧∀ j x,j<i→l[j]?=some x→x.map.length≤70) i (min l.length 22) (zBz 0 (f14_k0 none KK)))) .normal e1 [] W':=by
    intro e1 h38
    simp only [zJF,qKn,qKr,qKx,qKp,bKn,bKr,bKp,bKx,tKn,tKr,tKx,tKp,zKn,zKr,zKx,zKp,h38,zAy,zJG]
    exact hret _ false rfl nofun
   refine zAE (fun _=>bad _ rfl) (fun _=>?_)
   refine zAE (fun _=>bad _ rfl) (fun _=>?_)
   simp only [zJF,qKn,qKr,qKx,qKp,bKn,bKr,bKp,bKx,tKn,tKr,tKx,tKp,zKn,zKr,zKx,zKp]
   simp only [eKc,eKn,eKa,Nat.reduceEqDiff,↓reduceIte,gKz,gKs,dKs,and_self]
   refine zAE (fun _=>?_) (fun hm70=>?_)
   ·simp only [zJG,qKn,qKr,qKx,qKp,bKn,bKr,bKp,bKx,tKn,tKr,tKx,tKp,zKn,zKr,zKx,zKp]
    exact hret _ false rfl nofun
   ·simp only [zJG,qKn,qKr,qKx,qKp,bKn,bKr,bKp,bKx,tKn,tKr,tKx,tKp,zKn,zKr,zKx,zKp]
    simp only [eKc,eKn,eKa,Nat.reduceEqDiff,↓reduceIte,gKz,gKs,dKs,and_self,h0,h3,zAX,zAA,qKn,qKr,qKx,qKp,bKn,bKr,bKp,bKx,tKn,tKr,tKx,tKp,zKn,zKr,zKx,zKp]
    refine ⟨by omega,trivial,trivial,trivial,by rw [zCi (by omega)],fun j x hj hx'=>?_⟩
    rcases Nat.lt_succ_iff_lt_or_eq.1 hj with h2 | rfl
    ·exact hpre j x h2 hx'
    ·rw [hx] at hx'; cases hx'
     have:=of_decide_eq_false hm70
     omega
  ·have h22:¬i<22:=by have:=of_decide_eq_false h22; omega
   simp only [zJE,qKn,qKr,qKx,qKp,bKn,bKr,bKp,bKx,tKn,tKr,tKx,tKp,zKn,zKr,zKx,zKp,if_true]
   exact hend _ h0 (by omega)
 ·simp only [f14_k4,qKn,qKr,qKx,qKp,bKn,bKr,bKp,bKx,tKn,tKr,tKx,tKp,zKn,zKr,zKx,zKp]
  simp only [eKc,eKn,eKa,Nat.reduceEqDiff,↓reduceIte,gKz,gKs,dKs,and_self,zAW]
  simp only [zJE,qKn,qKr,qKx,qKp,bKn,bKr,bKp,bKx,tKn,tKr,tKx,tKp,zKn,zKr,zKx,zKp,if_true]
  exact hend _ h0 (by omega)
end Go.Ce
namespace Go.Ce
open Go Go.Proofs Go.Proofs.Tryz
theorem inc64w {i:Nat} (h:i<9223372036854775807):IntKind.i64.wrap ((i:Int)+1)=((i+1:Nat):Int):=by rw [zBV (by omega) (by omega)]; rfl
theorem things15_ok {v0:Value} {l:List Thg} {W:CW} (hl:IsSl 2 (RThg W) v0 l) (hlm:l.length≤maxLen) :
  WCall prog pkL 15 [v0] W (zDj ((l.length≤40∨1000<l.length)∧l.length≤1002∧∀ x,x ∈ l→x.vals.length≤203) W):=by
 refine f15_w ?_
 rw [f15_c]
 have hmax:maxLen=9223372036854775807:=rfl
 obtain ⟨a,cap,rfl,hc⟩:=hl
 generalize hKK:zAD prog Tryz.f15 (zDj ((l.length≤40∨1000<l.length)∧l.length≤1002∧∀ x,x ∈ l→x.vals.length≤203) W)=KK
 have hret:∀ (e:Env) (b:Bool),e 2=.bool b→(b=true→(l.length≤40∨1000<l.length)∧l.length≤1002∧∀ x,x ∈ l→x.vals.length≤203)→KK .ret e [] W:=by
  intro e b h2 hb
  rw [←hKK,f15_leave]
  exact ⟨rfl,b,by rw [h2],hb⟩
 refine zCk (fun i e ds W'=>ds=[]∧W'=W∧e 0=.slice a l.length cap∧e 3=.int .i64 i∧∀ j x,j<i→l[j]?=some x→x.vals.length≤203) l.length ⟨rfl,rfl,rfl,rfl,by omega⟩ ?_
 rintro i e ds W' hi ⟨rfl,rfl,h0,h3,hpre⟩
 rw [f15_l0,h0,h3]
 simp only [zAQ u24,zAA,zAa]
 refine zHF (fun hlt=>?_) (fun hge=>?_)
 ·have hx:=List.getElem?_eq_getElem hlt
  obtain ⟨p,rfl,hp⟩:=hc i _ hx
  obtain ⟨vm,hvm,hm⟩:=hp.vals
  obtain ⟨am,cm,rfl,_⟩:=hm
  rw [zAi u24 s56 hlt]
  simp only [zAA,zCX,zCM]
  rw [zAC a9 (a:=⟨p.block,p.off+i*2,none⟩) hp.type,zAC a40 (a:=⟨p.block,p.off+i*2+1,none⟩) hvm]
  simp only [zAA,zE3 u9,zAQ u40,zA4,zD4]
  have fin:∀ (e1:Env) (b:Bool),e1 43=.bool b→e1 0=.slice (some p) l.length cap→e1 3=.int .i64 i→(b=false→l[i].vals.length≤203)→(zJC none (forK (fun i e ds W''=>ds=[]∧W''=W'∧e 0=.slice (some p) l.length cap∧e 3=.int .i64 i∧∀ j x,j<i→l[j]?=some x→x.vals.length≤203) i l.length (zBz 0 (f15_k1 none KK)))) .normal e1 [] W':=by
   intro e1 b h43 g0 g3 hb
   simp only [zJC,qKn,qKr,qKx,qKp,bKn,bKr,bKp,bKx,tKn,tKr,tKx,tKp,zKn,zKr,zKx,zKp,h43]
   refine zAE (fun hbt=>?_) (fun hbf=>?_)
   ·simp only [f15_k2,qKn,qKr,qKx,qKp,bKn,bKr,bKp,bKx,tKn,tKr,tKx,tKp,zKn,zKr,zKx,zKp,f15_k1]
    exact hret _ false rfl nofun
   ·simp only [f15_k2,qKn,qKr,qKx,qKp,bKn,bKr,bKp,bKx,tKn,tKr,tKx,tKp,zKn,zKr,zKx,zKp]
    simp only [eKc,eKn,eKa,Nat.reduceEqDiff,↓reduceIte,gKz,gKs,dKs,and_self,g0,g3,zAX,zAA,qKn,qKr,qKx,qKp,bKn,bKr,bKp,bKx,tKn,tKr,tKx,tKp,zKn,zKr,zKx,zKp]
    refine ⟨hlt,trivial,trivial,trivial,by rw [inc64w (by omega)],fun j x hj hx'=>?_⟩
    rcases Nat.lt_succ_iff_lt_or_eq.1 hj with h2 | rfl
    ·exact hpre j x h2 hx'
    ·rw [hx] at hx'; cases hx'
     exact hb hbf
  refine zAE (fun _=>fin _ true rfl (by exact h0) (by exact h3) nofun) (fun _=>?_)
  refine zAE (fun h70=>?_) (fun h70=>?_)
  ·refine zAE (fun h200=>fin _ true rfl (by exact h0) (by exact h3) nofun) (fun h200=>?_)
   refine fin _ _ rfl (by exact h0) (by exact h3) fun hb=>?_
   have:=of_decide_eq_false hb
   omega
  ·refine fin _ _ rfl (by exact h0) (by exact h3) fun hb=>?_
   have:=of_decide_eq_false h70
   omega
 ·have hil:i=l.length:=by omega
  simp only [qKn,qKr,qKx,qKp,bKn,bKr,bKp,bKx,tKn,tKr,tKx,tKp,zKn,zKr,zKx,zKp,if_true,f15_k1]
  simp only [eKc,eKn,eKa,Nat.reduceEqDiff,↓reduceIte,gKz,gKs,dKs,and_self,h0,zAQ u24,zAA,zD4,zA4]
  have hall:∀ x,x ∈ l→x.vals.length≤203:=fun s hs=>by
   obtain ⟨j,hj,rfl⟩:=List.getElem_of_mem hs
   exact hpre j _ (by omega) (List.getElem?_eq_getElem hj)
  refine zAE (fun h40=>?_) (fun h40=>?_)
  ·simp only [zJD,qKn,qKr,qKx,qKp,bKn,bKr,bKp,bKx,tKn,tKr,tKx,tKp,zKn,zKr,zKx,zKp]
   have:=of_decide_eq_true h40
   exact hret _ true rfl fun _=>⟨.inl (by omega),by omega,hall⟩
  ·refine zAE (fun h1000=>?_) (fun h1000=>?_)
   ·simp only [zJD,qKn,qKr,qKx,qKp,bKn,bKr,bKp,bKx,tKn,tKr,tKx,tKp,zKn,zKr,zKx,zKp]
    have h1000:=of_decide_eq_true h1000
    refine hret _ _ rfl fun hb=>?_
    have:=of_decide_eq_true hb
    exact ⟨.inr (by omega),by omega,hall⟩
   ·simp only [zJD,qKn,qKr,qKx,qKp,bKn,bKr,bKp,bKx,tKn,tKr,tKx,tKp,zKn,zKr,zKx,zKp]
    exact hret _ false rfl nofun
end Go.Ce
namespace Go.Ce
open Go Go.Proofs Go.Proofs.Tryz
theorem a46:agg? prog 46=some false:=by kernel_rfl
theorem fad48_4 (a:Addr):fad prog 48 (.pointer (some a)) 4=some (.pointer (some ⟨a.block,a.off+4,none⟩)):=by kernel_rfl
def GShp (x:Shp):Prop:=x.name.size≤70∧x.super.size≤70∧x.fields.length≤24∧∀ f,f ∈ x.fields→f.name.size≤70
theorem shapes13_ok {v0:Value} {l:List Shp} {W:CW} (hl:IsSl 5 (RShp W) v0 l) :
  WCall prog pkL 13 [v0] W (zDj (l.length≤102∧∀ x,x ∈ l→GShp x) W):=by
 refine f13_w ?_
 rw [f13_c]
 obtain ⟨a,cap,rfl,hc⟩:=hl
 generalize hKK:zAD prog Tryz.f13 (zDj (l.length≤102∧∀ x,x ∈ l→GShp x) W)=KK
 have hret:∀ (e:Env) (b:Bool),e 2=.bool b→(b=true→l.length≤102∧∀ x,x ∈ l→GShp x)→KK .ret e [] W:=by
  intro e b h2 hb
  rw [←hKK,f13_leave]
  exact ⟨rfl,b,by rw [h2],hb⟩
 refine zCk (fun i e ds W'=>ds=[]∧W'=W∧e 0=.slice a l.length cap∧e 3=.int .i64 i∧∀ j x,j<i→l[j]?=some x→GShp x) (min l.length 103) ⟨rfl,rfl,rfl,rfl,by omega⟩ ?_
 rintro i e ds W' hi ⟨rfl,rfl,h0,h3,hpre⟩
 rw [f13_l0,h0,h3]
 simp only [zAQ u22,zAA,zAa]
 have hend:∀ e1:Env,e1 0=.slice a l.length cap→(l.length≤102→i=l.length)→(zJK none KK) .normal e1 [] W':=by
  intro e1 g0 hil
  have hall:l.length≤102→∀ x,x ∈ l→GShp x:=fun h s hs=>by
   have:=hil h
   obtain ⟨j,hj,rfl⟩:=List.getElem_of_mem hs
   exact hpre j _ (by omega) (List.getElem?_eq_getElem hj)
  simp only [zJK,qKn,qKr,qKx,qKp,bKn,bKr,bKp,bKx,tKn,tKr,tKx,tKp,zKn,zKr,zKx,zKp,g0,zAQ u22,zAA,zD4,zA4]
  refine zAE (fun h12=>?_) (fun h12=>?_)
  ·simp only [zJL,qKn,qKr,qKx,qKp,bKn,bKr,bKp,bKx,tKn,tKr,tKx,tKp,zKn,zKr,zKx,zKp]
   have:=of_decide_eq_true h12
   exact hret _ true rfl fun _=>⟨by omega,hall (by omega)⟩
  ·refine zAE (fun h100=>?_) (fun h100=>?_)
   ·simp only [zJL,qKn,qKr,qKx,qKp,bKn,bKr,bKp,bKx,tKn,tKr,tKx,tKp,zKn,zKr,zKx,zKp]
    refine hret _ _ rfl fun hb=>?_
    have:=of_decide_eq_true hb
    exact ⟨by omega,hall (by omega)⟩
   ·simp only [zJL,qKn,qKr,qKx,qKp,bKn,bKr,bKp,bKx,tKn,tKr,tKx,tKp,zKn,zKr,zKx,zKp]
    exact hret _ false rfl nofun
 refine zHF (fun hlt=>?_) (fun hge=>?_)
 ·simp only [f13_k6,qKn,qKr,qKx,qKp,bKn,bKr,bKp,bKx,tKn,tKr,tKx,tKp,zKn,zKr,zKx,zKp]
  simp only [eKc,eKn,eKa,Nat.reduceEqDiff,↓reduceIte,gKz,gKs,dKs,and_self]
  refine zAE (fun h22=>?_) (fun h22=>?_)
  ·have h22:i<103:=by have:=of_decide_eq_true h22; omega
   have hx:=List.getElem?_eq_getElem hlt
   obtain ⟨p,rfl,hp⟩:=hc i _ hx
   obtain ⟨vf,hvf,hf⟩:=hp.fields
   obtain ⟨af,cf,rfl,hfc⟩:=hf
   obtain ⟨ab,lb,cb,hbb⟩:=hp.binds
   have q9:ld prog 9 (.pointer (some ⟨p.block,p.off+i*5,none⟩)) W'=some (.string l[i].name):=zAC a9 (a:=⟨p.block,p.off+i*5,none⟩) hp.name
   have q9':ld prog 9 (.pointer (some ⟨p.block,p.off+i*5+1,none⟩)) W'=some (.string l[i].super):=zAC a9 (a:=⟨p.block,p.off+i*5+1,none⟩) hp.super
   have q45:ld prog 45 (.pointer (some ⟨p.block,p.off+i*5+2,none⟩)) W'=some (.slice af l[i].fields.length cf):=zAC a45 (a:=⟨p.block,p.off+i*5+2,none⟩) hvf
   have q46:ld prog 46 (.pointer (some ⟨p.block,p.off+i*5+4,none⟩)) W'=some (.slice ab lb cb):=zAC a46 (a:=⟨p.block,p.off+i*5+4,none⟩) hbb
   obtain ⟨eb,heb⟩:=u46
   simp only [zJI,qKn,qKr,qKx,qKp,bKn,bKr,bKp,bKx,tKn,tKr,tKx,tKp,zKn,zKr,zKx,zKp]
   simp only [eKc,eKn,eKa,Nat.reduceEqDiff,↓reduceIte,gKz,gKs,dKs,and_self,h0,h3]
   rw [zAi u22 s48 hlt]
   simp only [zAA,zGe,fad48_1,zH1,fad48_4,q9,q9',q45,q46,zE3 u9,zAQ u45,zAQ heb,zA4]
   have fin:∀ (e1:Env) (b:Bool),e1 48=.bool b→e1 0=.slice (some p) l.length cap→e1 3=.int .i64 i→(b=false→l[i].name.size≤70∧l[i].super.size≤70∧l[i].fields.length≤24)→(zJJ none (forK (fun i e ds W''=>ds=[]∧W''=W'∧e 0=.slice (some p) l.length cap∧e 3=.int .i64 i∧∀ j x,j<i→l[j]?=some x→GShp x) i (min l.length 103) (zBz 0 (zJK none KK)))) .normal e1 [] W':=by
    intro e1 b h48 g0 g3 hb
    simp only [zJJ,qKn,qKr,qKx,qKp,bKn,bKr,bKp,bKx,tKn,tKr,tKx,tKp,zKn,zKr,zKx,zKp,h48]
    refine zAE (fun hbt=>?_) (fun hbf=>?_)
    ·simp only [f13_k3,f13_k2,qKn,qKr,qKx,qKp,bKn,bKr,bKp,bKx,tKn,tKr,tKx,tKp,zKn,zKr,zKx,zKp,zJK]
     exact hret _ false rfl nofun
    ·obtain ⟨hn,hsu,hfl⟩:=hb hbf
     simp only [f13_k3,qKn,qKr,qKx,qKp,bKn,bKr,bKp,bKx,tKn,tKr,tKx,tKp,zKn,zKr,zKx,zKp]
     refine zCk (fun m e ds W''=>ds=[]∧W''=W'∧e 0=.slice (some p) l.length cap∧e 3=.int .i64 i∧e 4=.int .i64 m∧∀ j x,j<m→l[i].fields[j]?=some x→x.name.size≤70) l[i].fields.length ⟨rfl,rfl,by exact g0,by exact g3,rfl,by omega⟩ ?_
     rintro m e2 ds2 W2 hm ⟨rfl,rfl,r0,r3,r4,hpre2⟩
     rw [f13_l1,r0,r3,r4,zAi u22 s48 hlt]
     simp only [zAA,zH1,q45,zAQ u45,zAa]
     refine zHF (fun hmlt=>?_) (fun hmge=>?_)
     ·have hxm:=List.getElem?_eq_getElem hmlt
      obtain ⟨q,rfl,hq⟩:=hfc m _ hxm
      rw [zAi u45 s72 hmlt]
      simp only [zAA,fad72_0]
      rw [zAC a9 (a:=⟨q.block,q.off+m*2,none⟩) hq.name]
      simp only [zAA,zE3 u9,zA4]
      refine zAE (fun h70=>?_) (fun h70=>?_)
      ·simp only [f13_k7,f13_k2,qKn,qKr,qKx,qKp,bKn,bKr,bKp,bKx,tKn,tKr,tKx,tKp,zKn,zKr,zKx,zKp,zJK]
       exact hret _ false rfl nofun
      ·simp only [f13_k7,qKn,qKr,qKx,qKp,bKn,bKr,bKp,bKx,tKn,tKr,tKx,tKp,zKn,zKr,zKx,zKp]
       simp only [eKc,eKn,eKa,Nat.reduceEqDiff,↓reduceIte,gKz,gKs,dKs,and_self,r0,r3,r4,zAX,zAA,qKn,qKr,qKx,qKp,bKn,bKr,bKp,bKx,tKn,tKr,tKx,tKp,zKn,zKr,zKx,zKp]
       refine ⟨hmlt,trivial,trivial,trivial,trivial,by rw [zCi (by omega)],fun j x hj hx'=>?_⟩
       rcases Nat.lt_succ_iff_lt_or_eq.1 hj with h2 | rfl
       ·exact hpre2 j x h2 hx'
       ·rw [hxm] at hx'; cases hx'
        have:=of_decide_eq_false h70
        omega
     ·simp only [qKn,qKr,qKx,qKp,bKn,bKr,bKp,bKx,tKn,tKr,tKx,tKp,zKn,zKr,zKx,zKp,if_true,f13_k2]
      simp only [eKc,eKn,eKa,Nat.reduceEqDiff,↓reduceIte,gKz,gKs,dKs,and_self,r0,r3,zAX,zAA,qKn,qKr,qKx,qKp,bKn,bKr,bKp,bKx,tKn,tKr,tKx,tKp,zKn,zKr,zKx,zKp]
      refine ⟨by omega,trivial,trivial,trivial,by rw [zCi (by omega)],fun j x hj hx'=>?_⟩
      rcases Nat.lt_succ_iff_lt_or_eq.1 hj with h2 | rfl
      ·exact hpre j x h2 hx'
      ·rw [hx] at hx'; cases hx'
       refine ⟨hn,hsu,hfl,fun f hf=>?_⟩
       obtain ⟨j2,hj2,rfl⟩:=List.getElem_of_mem hf
       exact hpre2 j2 _ (by omega) (List.getElem?_eq_getElem hj2)
   refine zAE (fun _=>fin _ true rfl (by exact h0) (by exact h3) nofun) (fun h1=>?_)
   refine zAE (fun _=>fin _ true rfl (by exact h0) (by exact h3) nofun) (fun h2=>?_)
   refine zAE (fun _=>fin _ true rfl (by exact h0) (by exact h3) nofun) (fun h4=>?_)
   refine fin _ _ rfl (by exact h0) (by exact h3) fun _=>?_
   have h1:=of_decide_eq_false h1
   have h2:=of_decide_eq_false h2
   have h4:=of_decide_eq_false h4
   exact ⟨by omega,by omega,by omega⟩
  ·have h22:¬i<103:=by have:=of_decide_eq_false h22; omega
   simp only [zJI,qKn,qKr,qKx,qKp,bKn,bKr,bKp,bKx,tKn,tKr,tKx,tKp,zKn,zKr,zKx,zKp,if_true]
   exact hend _ h0 (by omega)
 ·simp only [f13_k6,qKn,qKr,qKx,qKp,bKn,bKr,bKp,bKx,tKn,tKr,tKx,tKp,zKn,zKr,zKx,zKp]
  simp only [eKc,eKn,eKa,Nat.reduceEqDiff,↓reduceIte,gKz,gKs,dKs,and_self,zAW]
  simp only [zJI,qKn,qKr,qKx,qKp,bKn,bKr,bKp,bKx,tKn,tKr,tKx,tKp,zKn,zKr,zKx,zKp,if_true]
  exact hend _ h0 (by omega)
end Go.Ce
namespace Go.Ce
open Go Go.Proofs Go.Proofs.Tryz
def byteI (l:List Int):List UInt8:=l.map fun k=>UInt8.ofNat k.toNat
structure PkArgs (W:CW) (v0 v1 v2:Value) (c:List Shp) (l:List Spc) (h:List Thg):Prop where
 top:Top W
 cat:IsSl 5 (RShp W) v0 c
 spc:IsSl 3 (RSpc W) v1 l
 hp:IsSl 2 (RThg W) v2 h
 hlm:h.length≤maxLen
theorem cat_of {c:List Shp} (h1:c.length≤102) (h2:∀ x,x ∈ c→GShp x):Cat c :=
 ⟨by omega,fun x hx=>by have:=(h2 x hx).2.2.1; omega,fun x hx=>by have:=(h2 x hx).1; omega,fun x hx=>by have:=(h2 x hx).2.1; omega,fun x hx f hf=>by have:=(h2 x hx).2.2.2 f hf; omega⟩
theorem mem16:zBv pkL 16=true:=by kernel_rfl
theorem mem16':zBv pkL (16+2000000)=true:=by kernel_rfl
def IsTrue:Ending→CW→Prop:=fun e _=>e=.returned (.bool true)
end Go.Ce
namespace Go.Ce
open Go Go.Proofs Go.Proofs.Tryz
theorem view_byte {W:CW} {v:Value} (h:Leaf prog W 29 v):∃ b,BsIn W v b∧b.length≤maxLen:=by
 obtain ⟨b,h1,h2,h3⟩:=zGJ (α:=UInt8) (R:=RByte W) u29 c5 h fun m cs k off hc hj=>by
  cases m with
  | zero=>exact hc.elim
  | succ m =>
   simp only [CT,ut5] at hc
   obtain ⟨x,rfl,hw⟩:=hc
   have hb:=wf_u8 hw
   refine ⟨UInt8.ofNat x.toNat,?_⟩
   have:=hj 0 (by omega)
   show W.cell k off=_
   rw [Nat.add_zero] at this
   rw [this]
   show some (Value.int .u8 x)=some (Value.int .u8 _)
   congr 2
   rw [UInt8.toNat_ofNat_of_lt' (by show x.toNat<256; omega)]
   omega
 obtain ⟨a,cap,rfl,hc⟩:=id h1
 exact ⟨b,⟨a,cap,rfl,(h2 _ _ _ rfl).2,hc⟩,h3⟩
theorem ext3_0 (a b d:Value):ext (.tuple #[a,b,d]) 0=some a:=rfl
theorem ext3_1 (a b d:Value):ext (.tuple #[a,b,d]) 1=some b:=rfl
theorem ext3_2 (a b d:Value):ext (.tuple #[a,b,d]) 2=some d:=rfl
end Go.Ce
namespace Go.Ce
open Go Go.Proofs Go.Proofs.Tryz
def Byt (l:List Int):Prop:=∀ x,x ∈ l→0≤x∧x<256
theorem Byt.app {a b:List Int} (h:Byt a) (g:Byt b):Byt (a++b):=fun x hx=>(List.mem_append.1 hx).elim (h x) (g x)
theorem Byt.flat {α:Type} {f:α→List Int} {l:List α} (h:∀ x,x ∈ l→Byt (f x)):Byt (l.flatMap f):=fun x hx=>by
 obtain ⟨y,hy,hx⟩:=List.mem_flatMap.1 hx
 exact h y hy x hx
theorem zGp (n:Nat):Byt (zBk n):=by
 induction n using Nat.strongRecOn with
 | ind n ih =>
  unfold zBk
  split
  ·intro x hx; rw [List.mem_singleton.1 hx]; omega
  ·intro x hx
   rcases List.mem_cons.1 hx with rfl | hx
   ·omega
   ·exact ih (n / 128) (by omega) x hx
theorem byt_bI (b:List UInt8):Byt (bI b):=fun x hx=>by
 obtain ⟨y,_,rfl⟩:=List.mem_map.1 hx
 have:=y.toNat_lt
 omega
theorem byt_encV (c:List Shp) (ix:Nat):∀ (vs:List Int) (k:Nat),Byt (encV c ix k vs)
 | [],_=>fun x hx=>by cases hx
 | v::vs,k=>by
  rw [encV]
  refine Byt.app ?_ (byt_encV c ix vs _)
  split <;> exact zGp _
theorem byt_encTh (c:List Shp) (ts:List ByteArray) (x:Thg):Byt (zIa c ts x):=by
 unfold zIa
 split
 ·refine ((zGp _).app ?_).app (byt_encV _ _ _ _)
  split
  ·exact zGp _
  ·intro x hx; cases hx
 ·intro x hx; cases hx
theorem byt_all (c:List Shp) (ts:List ByteArray) (xs:List Thg):Byt (zEi c ts xs):=by
 unfold zEi
 refine ((((?_:Byt [1]).app (zGp _)).app (Byt.flat fun s _=>?_)).app (zGp _)).app (Byt.flat fun x _=>byt_encTh _ _ _)
 ·intro x hx; rw [List.mem_singleton.1 hx]; omega
 ·exact (zGp _).app (byt_bI _)
theorem bI_byteI {l:List Int} (h:Byt l):bI (byteI l)=l:=by
 unfold bI byteI
 rw [List.map_map]
 have:l.map ((fun x:UInt8=>((x.toNat:Nat):Int)) ∘ fun k:Int=>UInt8.ofNat k.toNat)=l.map id:=by
  refine List.map_congr_left fun x hx=>?_
  have hb:=h x hx
  show ((UInt8.ofNat x.toNat).toNat:Int)=x
  rw [UInt8.toNat_ofNat_of_lt' (by show x.toNat<256; omega)]
  omega
 rw [this,List.map_id]
theorem kinds8_bI (b:List UInt8) (j:Nat):(zAc (bI b))[j]?=(b[j]?).map fun x=>Value.int .u8 ((x.toNat:Nat):Int):=by
 unfold zAc bI
 rw [List.map_map,List.getElem?_map]
 rfl
theorem own_bs {W:CW} {v:Value} {b:List UInt8} (h:Own W 5 1 v (zAc (bI b))):BsIn W v b:=by
 have hl:=zBg (bI b)
 rw [zDF] at hl
 have hg:=kinds8_bI b
 generalize zAc (bI b)=cs at h hl hg
 cases h with
 | nil =>
  have:b=[]:=List.length_eq_zero_iff.1 (by simpa using hl.symm)
  subst this
  exact ⟨none,0,rfl,Nat.le_refl _,fun i x hx=>by cases hx⟩
 | @some b0 len _ hB hl2 =>
  have:len=b.length:=by omega
  subst this
  refine ⟨some ⟨b0,0,none⟩,b.length,rfl,Nat.le_refl _,fun i x hx=>⟨_,rfl,?_⟩⟩
  show W.cell b0 (0+i*1)=_
  rw [show 0+i*1=i by omega]
  exact hB.cell (by rw [hg,hx]; rfl)
theorem bs_src {W:CW} {a:Option Addr} {n cap:Nat} {b:List UInt8} (h:BsIn W (.slice a n cap) b):n=b.length∧(0<n→∃ p,a=some p∧Cells W p.block p.off (zAc (bI b))):=by
 obtain ⟨a',cap',he,hc,hx⟩:=h.sl
 cases he
 refine ⟨rfl,fun hn=>?_⟩
 obtain ⟨p,rfl,_⟩:=hx 0 b[0] (List.getElem?_eq_getElem hn)
 refine ⟨p,rfl,fun j v hj=>?_⟩
 rw [kinds8_bI,Option.map_eq_some_iff] at hj
 obtain ⟨x,hj,rfl⟩:=hj
 obtain ⟨p',e,h1⟩:=hx j x hj
 cases e
 have:W.cell p.block (p.off+j*1)=_:=h1
 rw [Nat.mul_one] at this
 exact this
theorem bs_take {W:CW} {v:Value} {b:List UInt8} (h:BsIn W v b) {k:Nat} (hk:k≤b.length):∃ v',slc prog 29 v none (some (.int .i64 k)) (some (.int .i64 k)) W=some v'∧BsIn W v' (b.take k):=by
 obtain ⟨a,cap,rfl,hc,hx⟩:=h.sl
 refine ⟨.slice (cond (Nat.beq k 0) a (a.map fun a=>⟨a.block,a.off+0*1,none⟩)) k k,?_,?_⟩
 ·have hbd:∀ y d:Nat,k≤y→zDa (some (.int .i64 (k:Int))) d y=some k:=by
   intro y d h
   simp only [zDa]
   rw [show (decide ((0:Int)≤(k:Int)) && decide ((k:Int)≤(y:Int)))=true by simp; omega]
   simp
  have hb0:zDa none 0 k=some 0:=rfl
  unfold slc
  rw [u29]
  simp only [zIF,u29,zCQ,s5,hbd cap cap (by omega),hbd k b.length (Nat.le_refl _),hb0]
  rw [show Nat.ble k k=true from Nat.ble_eq_true_of_le (by omega)]
  rfl
 ·have hl:(b.take k).length=k:=by rw [List.length_take]; omega
  refine ⟨_,k,by rw [hl],by omega,fun i x hi=>?_⟩
  rw [List.getElem?_take] at hi
  split at hi
  ·rename_i hik
   obtain ⟨p,rfl,h1⟩:=hx i x hi
   have hz:Nat.beq k 0=false:=by
    cases hq:Nat.beq k 0 with
    | false=>rfl
    | true=>have:=Nat.eq_of_beq_eq_true hq; omega
   rw [hz]
   refine ⟨_,rfl,?_⟩
   show RByte W p.block (p.off+0*1+i*1) x
   rw [show p.off+0*1=p.off by omega]
   exact h1
  ·cases hi
theorem bsl29e (W:CW):bsl prog 29 0 [] W=some (.slice (some ⟨W.sz,0,none⟩) 0 0,W.new (.cells (Tr.nil.putFrom 0 []) 0 #[] 5)):=by kernel_rfl
theorem writeP_ok {c:List Shp} {l:List Spc} {h:List Thg} {root:Int}:(∃ e:Int,e≠0∧zCE c l h root=([],e))∨(askP c l h root=0∧zCE c l h root=(zDi c l h (zBd c l h root),0)):=by
 unfold zCE
 by_cases h1:askP c l h root≠0
 ·exact .inl ⟨_,h1,by rw [if_pos h1]⟩
 ·rw [if_neg h1]
  by_cases h2:asBad l h (zBd c l h root)=true
  ·exact .inl ⟨214,by decide,by rw [if_pos h2]⟩
  ·exact .inr ⟨by simpa using h1,by rw [if_neg h2]⟩
structure Wrote (c:List Shp) (l:List Spc) (h:List Thg) (root:Int) (b:List UInt8) (ts:List ByteArray) (xs:List Thg):Prop where
 wr:zCE c l h root=(bI b,0)
 ok:zA8 c=true
 sp:zAu c l=true
 can:Canon c (zIf c l) ts xs
 enc:bI b=zEi c ts xs
theorem wrote_of {c:List Shp} {l:List Spc} {h:List Thg} {root:Int} (hz:askP c l h root=0) (h40:h.length≤40) (hw:zCE c l h root=(zDi c l h (zBd c l h root),0)):∃ b,Wrote c l h root b (zCG l (zAI h (zBd c l h root))) (zGA c l h (zBd c l h root)):=by
 obtain ⟨hok,hs,_⟩:=zGD hz
 obtain ⟨h1,h2,_⟩:=write_canon hz h40
 have hb:bI (byteI (zDi c l h (zBd c l h root)))=zDi c l h (zBd c l h root):=bI_byteI (by rw [h2]; exact byt_all _ _ _)
 exact ⟨byteI (zDi c l h (zBd c l h root)),by rw [hw,hb],hok,hs,h1,by rw [hb,h2]⟩
theorem beqb (a b:Bool):zAO prog .eql 4 false (.bool a) (.bool b)=some (.bool (a == b)):=by cases a <;> cases b <;> kernel_rfl
theorem torn_true {W:CW} {v0 v1 v2 v5:Value} {c:List Shp} {l:List Spc} {h:List Thg} {root at_:Int} {m:List UInt8} (A:PkArgs W v0 v1 v2 c l h) (hm:BsIn W v5 m):WCall prog pkL 6 [v0,v1,v2,.int .i64 root,.int .i64 at_,v5] W IsTrue:=by
 refine f6_w ?_
 rw [f6_c]
 generalize hKK:zAD prog Tryz.f6 IsTrue=KK
 have hret:∀ (e:Env) W',e 12=.bool true→KK .ret e [] W':=by
  intro e W' h12
  rw [←hKK,f6_leave,h12]
  rfl
 have skip:∀ (e:Env),e 38=.bool true→(zFE none KK) .normal e [] W:=by
  intro e h38
  simp only [zFE,qKn,qKr,qKx,qKp,bKn,bKr,bKp,bKx,tKn,tKr,tKx,tKp,zKn,zKr,zKx,zKp,h38,zAy]
  refine zFM mem16 mem16' ?_
  refine zAZ ?_
  simp only [zI8,qKn,qKr,qKx,qKp,bKn,bKr,bKp,bKx,tKn,tKr,tKx,tKp,zKn,zKr,zKx,zKp]
  exact hret _ W rfl
 have skip2:∀ (e:Env) W',e 54=.bool true→(f6_k17 none KK) .normal e [] W':=by
  intro e W' h54
  simp only [f6_k17,qKn,qKr,qKx,qKp,bKn,bKr,bKp,bKx,tKn,tKr,tKx,tKp,zKn,zKr,zKx,zKp,h54,zAy]
  refine zFM mem16 mem16' ?_
  refine zAZ ?_
  simp only [zI9,zJA,zG2,qKn,qKr,qKx,qKp,bKn,bKr,bKp,bKx,tKn,tKr,tKx,tKp,zKn,zKr,zKx,zKp]
  exact hret _ W' rfl
 refine (shapes13_ok A.cat).mono fun en W1 ⟨hW,b13,he,hb13⟩=>?_
 subst hW; subst he
 refine zAZ ?_
 simp only [zAT,zAA]
 cases b13 with
 | false=>exact skip _ rfl
 | true =>
  simp only [Bool.not_true,zAW]
  refine (zJi A.spc).mono fun en W2 ⟨hW,b14,he,hb14⟩=>?_
  subst hW; subst he
  refine zAZ ?_
  simp only [zAT,zAA]
  cases b14 with
  | false=>exact skip _ rfl
  | true =>
   simp only [Bool.not_true,zAW]
   refine (things15_ok A.hp A.hlm).mono fun en W3 ⟨hW,b15,he,hb15⟩=>?_
   subst hW; subst he
   refine zAZ ?_
   simp only [zAT,zAA]
   cases b15 with
   | false=>exact skip _ rfl
   | true =>
    simp only [Bool.not_true,zAW]
    obtain ⟨a5,cap5,hv5,hcap5,hbt5⟩:=id hm.sl
    have hlen:∀ W',zAr prog 29 v5 W'=some (.int .i64 m.length):=fun W'=>by rw [hv5]; exact zAQ u29 _ _ _ _
    rw [hlen]
    simp only [zAA,zA4]
    by_cases h5:(m.length:Int)>500
    ·exact skip _ (by show Value.bool (decide _)=_; rw [decide_eq_true h5])
    ·obtain ⟨c1,c2⟩:=hb13 rfl
     obtain ⟨l1,l2⟩:=hb14 rfl
     obtain ⟨t1,t2,t3⟩:=hb15 rfl
     have hC:=cat_of c1 c2
     rw [decide_eq_false h5]
     simp only [zFE,qKn,qKr,qKx,qKp,bKn,bKr,bKp,bKx,tKn,tKr,tKx,tKp,zKn,zKr,zKx,zKp]
     simp only [eKc,eKn,eKa,Nat.reduceEqDiff,↓reduceIte,gKz,gKs,dKs,and_self,zAW]
     simp only [zI8,qKn,qKr,qKx,qKp,bKn,bKr,bKp,bKx,tKn,tKr,tKx,tKp,zKn,zKr,zKx,zKp]
     simp only [eKc,eKn,eKa,Nat.reduceEqDiff,↓reduceIte,gKz,gKs,dKs,and_self]
     refine (write17_ok A.top A.cat hC A.spc (by omega) (fun s hs=>by have:=l2 s hs; omega) A.hp (by omega) (t1.imp_right .inl) (fun x hx=>by have:=t3 x hx; omega)).mono fun en W4 ⟨k4,t4,v17,he,ho17⟩=>?_
     subst he
     refine zAZ ?_
     refine zAl (zBN _ _) ?_
     refine zAl (zBM _ _) ?_
     rcases writeP_ok (c:=c) (l:=l) (h:=h) (root:=root) with ⟨x,hx,hw⟩ | ⟨hz,hw⟩
     ·rw [hw]
      simp only [zB6,zAA,show (x != 0)=true by simpa using hx,zAy]
      exact skip2 _ _ rfl
     ·have h40:h.length≤40:=by
       have:=(zGO (zGD hz).2.2.1).1
       omega
      obtain ⟨b,B⟩:=wrote_of hz h40 hw
      rw [B.wr] at ho17 ⊢
      have hbs:=own_bs ho17
      obtain ⟨ab,capb,hvb,_⟩:=id hbs.sl
      have hlb:∀ W',zAr prog 29 v17 W'=some (.int .i64 b.length):=fun W'=>by rw [hvb]; exact zAQ u29 _ _ _ _
      have hz0:((0:Int) != 0)=false:=rfl
      simp only [zB6,zAA,hz0,zAW]
      rw [hlb]
      simp only [zAA,zA4]
      by_cases h4:(b.length:Int)>4000
      ·exact skip2 _ _ (by show Value.bool (decide _)=_; rw [decide_eq_true h4])
      ·rw [decide_eq_false h4]
       simp only [f6_k17,qKn,qKr,qKx,qKp,bKn,bKr,bKp,bKx,tKn,tKr,tKx,tKp,zKn,zKr,zKx,zKp]
       simp only [eKc,eKn,eKa,Nat.reduceEqDiff,↓reduceIte,gKz,gKs,dKs,and_self,zAW]
       have hread:∀ {W':CW} {vb:Value} {b':List UInt8},Kp W3 W'→Top W'→BsIn W' vb b'→WCall prog pkL 19 [v0,v1,vb] W' (ReadPost (zFN c l b') W'):=fun k t hb'=>read19_ok t (A.cat.imp fun _ _ _ hr=>hr.kp A.top k) hC (A.spc.imp fun _ _ _ hr=>hr.kp A.top k) (by omega) (fun s hs=>by have:=l2 s hs; omega) hb'
       have fin:∀ (e:Env) W',Kp W4 W'→Top W'→e 0=v0→e 1=v1→e 5=v5→e 13=v17→(zG2 none KK) .normal e [] W':=by
        intro e W' k t e0 e1 e5 e13
        simp only [zG2,qKn,qKr,qKx,qKp,bKn,bKr,bKp,bKx,tKn,tKr,tKx,tKp,zKn,zKr,zKx,zKp,e0,e1,e5,e13]
        refine zDH (bsl29e W') ?_
        have kn:Kp W' (W'.new (.cells (Tr.nil.putFrom 0 []) 0 #[] 5)):=.new _
        have tn:=t.new (.cells (Tr.nil.putFrom 0 []) 0 #[] 5)
        have hBn:Blk (W'.new (.cells (Tr.nil.putFrom 0 []) 0 #[] 5)) W'.sz 5 []:=⟨_,0,_,by rw [zAk,if_pos rfl],rfl,fun k v hk=>by simp at hk⟩
        have hon:Own (W'.new (.cells (Tr.nil.putFrom 0 []) 0 #[] 5)) 5 1 (.slice (some ⟨W'.sz,0,none⟩) 0 0) (zAc (bI [])):=Own.some hBn rfl
        generalize W'.new (.cells (Tr.nil.putFrom 0 []) 0 #[] 5)=Wn at kn tn hon
        have hbn:=hbs.kp t4 (k.trans kn)
        rw [hvb] at hbn
        obtain ⟨_,hsrc⟩:=bs_src hbn
        rw [hvb]
        refine w_apps2 (news:=zAc (bI b)) u29 noInt29 s5 z5 rfl (by omega) by5 (by omega) tn hon hsrc (zGZ _) (by rw [zBg,zDF]; omega) (by rw [zBg,zDF]; simp only [List.length_nil]; omega) fun va W6 hp6 t6 o6 n6=>?_
        have k6:Kp W' W6:=hp6.kp kn (fun b l c e=>by cases e; exact Nat.le_refl _)
        have hm6:=hm.kp A.top ((k4.trans k).trans k6)
        rw [hv5] at hm6
        obtain ⟨_,hsrc5⟩:=bs_src hm6
        rw [hv5]
        refine w_apps2 (news:=zAc (bI m)) u29 noInt29 s5 z5 rfl (by omega) by5 (by omega) t6 o6 hsrc5 (zGZ _) (by rw [zBg,zDF]; omega) (by rw [List.length_append,zBg,zBg,zDF,zDF]; simp only [List.length_nil]; omega) fun vc W7 hp7 t7 o7 n7=>?_
        have k7:Kp W' W7:=hp7.kp k6 (fun b l c e=>by
         rcases n6 b.block ⟨b,l,c,e,rfl⟩ with ⟨b',l',c',e',q⟩ | q
         ·cases e'; rw [←q]; exact Nat.le_refl _
         ·have:=kn.sz; omega)
        have ho7:Own W7 5 1 vc (zAc (bI (b++m))):=by
         have e:zAc (bI (b++m))=zAc (bI [])++zAc (bI b)++zAc (bI m):=by
          unfold zAc bI
          simp
         rw [e]
         exact o7
        refine (hread ((k4.trans k).trans k7) t7 (own_bs ho7)).mono fun en W8 ⟨k8,t8,v,qs,he,_⟩=>?_
        subst he
        refine zAZ ?_
        refine zAl (ext3_0 _ _ _) ?_
        refine zAl (ext3_1 _ _ _) ?_
        refine zAl (ext3_2 _ _ _) ?_
        refine zFM mem16 mem16' ?_
        refine zAZ ?_
        simp only [zAy]
        refine zAl (zA0 _ _ _) ?_
        rw [←hv5]
        refine zAl (hlen _) ?_
        refine zAl (zA0 _ _ _) ?_
        have hrp:=readP_canon B.ok B.sp B.can B.enc (m:=m) (by rw [List.length_append]; omega)
        rw [hrp]
        refine zAl (beqb _ _) ?_
        simp only [f6_k7,qKn,qKr,qKx,qKp,bKn,bKr,bKp,bKx,tKn,tKr,tKx,tKp,zKn,zKr,zKx,zKp]
        refine hret _ W8 ?_
        show Value.bool _=_
        by_cases hm0:m=[]
        ·subst hm0; rfl
        ·have:0<m.length:=List.length_pos_iff.2 hm0
         rw [if_neg hm0]
         rw [show ((m.length:Int) == 0)=false by simpa using hm0]
         rfl
       simp only [zI9,qKn,qKr,qKx,qKp,bKn,bKr,bKp,bKx,tKn,tKr,tKx,tKp,zKn,zKr,zKx,zKp]
       simp only [eKc,eKn,eKa,Nat.reduceEqDiff,↓reduceIte,gKz,gKs,dKs,and_self,zDQ,zAA]
       have other:∀ (e:Env),e 63=.bool false→e 0=v0→e 1=v1→e 5=v5→e 13=v17→(zJA none KK) .normal e [] W4:=by
        intro e h63 e0 e1 e5 e13
        simp only [zJA,qKn,qKr,qKx,qKp,bKn,bKr,bKp,bKx,tKn,tKr,tKx,tKp,zKn,zKr,zKx,zKp,h63,zAW]
        exact fin e W4 (.refl _) t4 e0 e1 e5 e13
       refine zAE (fun h0=>?_) (fun h0=>?_)
       ·rw [hlb]
        simp only [zAA,zAa]
        by_cases hlt:at_<(b.length:Int)
        ·rw [decide_eq_true hlt]
         have h0:0≤at_:=of_decide_eq_true h0
         obtain ⟨k,rfl⟩:=Int.eq_ofNat_of_zero_le h0
         simp only [zJA,qKn,qKr,qKx,qKp,bKn,bKr,bKp,bKx,tKn,tKr,tKx,tKp,zKn,zKr,zKx,zKp]
         simp only [eKc,eKn,eKa,Nat.reduceEqDiff,↓reduceIte,gKz,gKs,dKs,and_self,zAy]
         obtain ⟨v',hs',hbt⟩:=bs_take hbs (k:=k) (by omega)
         refine zAl hs' ?_
         refine (hread k4 t4 hbt).mono fun en W8 ⟨k8,t8,v,qs,he,_⟩=>?_
         subst he
         refine zAZ ?_
         refine zAl (ext3_0 _ _ _) ?_
         refine zAl (ext3_1 _ _ _) ?_
         refine zAl (ext3_2 _ _ _) ?_
         rw [readP_cut B.ok B.sp B.can B.enc (by omega) (by omega)]
         refine zAl (zB6 _ _ _) ?_
         rw [show ((4:Int) != 4)=false from rfl,zAW]
         exact fin _ W8 k8 t8 rfl rfl rfl rfl
        ·rw [decide_eq_false hlt]
         exact other _ rfl rfl rfl rfl rfl
       ·exact other _ rfl rfl rfl rfl rfl
end Go.Ce
