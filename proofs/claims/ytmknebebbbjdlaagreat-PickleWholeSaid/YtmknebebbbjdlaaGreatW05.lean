/- A part of the proof: Rl, Rm, Rn, Ro, Rp, Sa, Sb, Sc, Sd, Ed, Qt, ShE, Qu, Qv, Qw, Qx, Se. -/
import Derived.Test.YtmknebebbbjdlaaGreatW01
import Derived.Test.YtmknebebbbjdlaaGreatW02
import Derived.Test.YtmknebebbbjdlaaGreatW04
import Derived.Test.YtmknebebbbjdlaaGreatProg
set_option linter.unusedSectionVars false
set_option linter.unusedVariables false
set_option linter.unusedSimpArgs false
set_option maxRecDepth 200000
namespace Go.Ce
open Go Go.Proofs Go.Proofs.Tryz
theorem neq20a (v:Value):cbin prog .neq 20 true (.iface 167 v) .nilIface=some (.bool true):=by kernel_rfl
theorem neq20b:cbin prog .neq 20 true .nilIface .nilIface=some (.bool false):=by kernel_rfl
theorem tas167 (v:Value):tas prog 167 (.iface 167 v) true=some (.tuple #[v,.bool true]):=by kernel_rfl
theorem z167:zer prog 167=some (.agg #[.int .i64 0]):=by kernel_rfl
theorem s167:siz prog 167=some 1:=by kernel_rfl
theorem fad167 (a:Addr):fad prog 167 (.pointer (some a)) 0=some (.pointer (some ⟨a.block,a.off,none⟩)):=by kernel_rfl
theorem a30:agg? prog 30=some false:=by kernel_rfl
theorem s30:siz prog 30=some 1:=by kernel_rfl
theorem z30:zer prog 30=some (.int .i64 0):=by kernel_rfl
theorem bld170 (v:Value) (a:Option Addr) (n m:Nat) (h:v=.slice a n m):bld prog 170 [(0,v)]=some (.agg [v,.int .i64 0].toArray):=by subst h; kernel_rfl
theorem f109_results:Tryz.f109.results.toList=[]:=by kernel_rfl
theorem f72_results:∃ ty,Tryz.f72.results.toList=[.cell 4 ty]∧ty=30:=⟨30,by kernel_rfl,rfl⟩
theorem wRec1 (x:Int) (K:Value→FrameMode→Prop):wRec (.panicking (badCh x)) K=K (.iface 167 (.agg #[.int .i64 x])) (.panicking [{ v:=.iface 167 (.agg #[.int .i64 x]),recovered:=true }]):=rfl
theorem wRec0 (K:Value→FrameMode→Prop):wRec .returning K=K .nilIface .returning:=rfl
structure Upd1 (b:Nat) (W W':CW):Prop where
 sz:W.sz≤W'.sz
 obj:∀ j,j<W.sz→j≠b→W'.obj j=W.obj j
theorem rec109 {W:CW} {b:Nat} {x y:Int} (ht:Top W) (hB:Blk W b 30 [.int .i64 y]) {Q:FrameMode→CW→Prop} (hq:∀ W',Upd1 b W W'→Top W'→Blk W' b 30 [.int .i64 x]→Q (.panicking [{ v:=.iface 167 (.agg #[.int .i64 x]),recovered:=true }]) W'):WDcall prog pkL 109 [.pointer (some ⟨b,0,none⟩)] (.panicking (badCh x)) W Q:=by
 refine wDcall_of (fn:=Tryz.f109) (c:=bodyOf prog 109) (by kernel_rfl) Tryz.func109 (by kernel_rfl) (by kernel_rfl) ?_
 have:=f109_S (.pointer (some ⟨b,0,none⟩)) (.panicking (badCh x)) (fun x e u W=>(x=.normal∨x=.ret)∧(∃ v,wResults prog Tryz.f109.results.toList e W=some v)∧Q u W) W
 refine this.mpr ?_
 rw [wRec1]
 refine wV_of (neq20a _) ?_
 simp only [wI_true]
 refine wV_of (tas167 _) ?_
 refine wV_of (ext2_0 _ _) ?_
 refine wV_of (ext2_1 _ _) ?_
 refine w_var (ws:=[.int .i64 x]) z167 s167 rfl rfl rfl ht fun W2 k2 t2 z2 hB2=>?_
 simp only [ngt_bool,wV_some,Bool.not_true,wI_false,fad167]
 refine ⟨by first | rfl | trivial,?_⟩
 rw [ld_word a30 (a:=⟨W.sz,0,none⟩) (hB2.cell rfl)]
 simp only [wV_some]
 have hb:=hB.lt ht
 have hB':=hB.ext ht k2
 refine w_sto_word s30 (a:=⟨b,0,none⟩) (v:=.int .i64 x) rfl hB' (by simp) fun W3 hu hB3=>?_
 have hu:Upd b W2 W3:=hu
 refine ⟨.inl (by first | rfl | trivial),⟨.tuple #[],by simp only [wResults,f109_results,wResL]⟩,hq W3 ⟨by rw [hu.sz]; exact k2.sz,fun j hj hne=>by rw [hu.obj j hne,k2.obj j hj]⟩ (t2.upd (hB'.lt t2) hu) hB3⟩
theorem rec109r {W:CW} {b:Nat} {Q:FrameMode→CW→Prop} (hq:Q .returning W):WDcall prog pkL 109 [.pointer (some ⟨b,0,none⟩)] .returning W Q:=by
 refine wDcall_of (fn:=Tryz.f109) (c:=bodyOf prog 109) (by kernel_rfl) Tryz.func109 (by kernel_rfl) (by kernel_rfl) ?_
 have:=f109_S (.pointer (some ⟨b,0,none⟩)) .returning (fun x e u W=>(x=.normal∨x=.ret)∧(∃ v,wResults prog Tryz.f109.results.toList e W=some v)∧Q u W) W
 refine this.mpr ?_
 rw [wRec0]
 refine wV_of neq20b ?_
 simp only [wI_false]
 exact ⟨by first | rfl | trivial,.inl (by first | rfl | trivial),⟨.tuple #[],by simp only [wResults,f109_results,wResL]⟩,hq⟩
theorem tried72_ok {W:CW} {a:Option Addr} {n cap:Nat} {vf:Value} (ht:Top W) {Q:Ending→CW→Prop}
  (hbig:100000<n→∀ W',Kp W W'→Top W'→Q (.returned (.int .i64 2)) W')
  (hdo:n≤100000→∀ W0,Kp W W0→Top W0→W0.sz=W.sz+2→Blk W0 W.sz 30 [.int .i64 0]→Blk W0 (W.sz+1) 170 [.slice a n cap,.int .i64 0]→wCallV prog pkL vf [.pointer (some ⟨W.sz+1,0,none⟩)] W0
   (fun _ W3=>Top W3∧Blk W3 W.sz 30 [.int .i64 0]∧∀ W',Upd1 W.sz W3 W'→Top W'→Q (.returned (.int .i64 0)) W')
   (fun ch W4=>∃ x,ch=badCh x∧Top W4∧Blk W4 W.sz 30 [.int .i64 0]∧∀ W',Upd1 W.sz W4 W'→Top W'→Q (.returned (.int .i64 x)) W')) :
  WCall prog pkL 72 [.slice a n cap,vf] W Q:=by
 obtain ⟨ty,hres,rfl⟩:=f72_results
 refine wCall_lv (fn:=Tryz.f72) (c:=bodyOf prog 72) (by kernel_rfl) (by kernel_rfl) (by kernel_rfl) Tryz.func72 (by kernel_rfl) (by kernel_rfl) ?_
 refine (f72_c (.slice a n cap) vf _ W).mpr ?_
 have ret:∀ (e:Env) W' x,e 4=.pointer (some ⟨W.sz,0,none⟩)→Blk W' W.sz 30 [.int .i64 x]→Q (.returned (.int .i64 x)) W'→wLv prog pkL Tryz.f72 Q e [] .returning W':=by
  intro e W' x h4 hB hq
  have hv:cload prog 30 ⟨W.sz,0,none⟩ W'=some (.int .i64 x):=ld_word a30 (a:=⟨W.sz,0,none⟩) (hB.cell rfl)
  simp only [wLv,wResults,hres,wResL,wRes,h4,hv,wV_some]
  exact hq
 refine w_alc z30 s30 ht fun W1 k1 t1 z1 hB=>?_
 have hB:Blk W1 W.sz 30 [.int .i64 0]:=hB
 rw [clen_sl u29]
 simp only [cbin_gtr,wV_some]
 refine wI_bool (fun hb=>?_) (fun hb=>?_)
 ·have hb:100000<n:=by have:=of_decide_eq_true hb; omega
  refine w_sto_word s30 (a:=⟨W.sz,0,none⟩) (v:=.int .i64 2) rfl hB (by simp) fun W2 hu hB2=>?_
  have hu:Upd W.sz W1 W2:=hu
  exact ret _ W2 2 rfl hB2 (hbig hb W2 (k1.upd (Nat.le_refl _) hu) (t1.upd (hB.lt t1) hu))
 ·have hb:n≤100000:=by have:=of_decide_eq_false hb; omega
  refine wV_of (bld170 _ a n cap rfl) ?_
  refine w_bxw s170 t1 fun W2 k2 t2 z2 hB170=>?_
  rw [z1] at hB170 z2 ⊢
  have hB170:Blk W2 (W.sz+1) 170 [.slice a n cap,.int .i64 0]:=hB170
  have hB2:=hB.ext t1 k2
  have hcap:∀ (d:Deferred) (l:List Value) (m:FrameMode) W' Q',d=({ target:=.fn (.func 109) #[.pointer (some ⟨W.sz,0,none⟩)],args:=#[] }:Deferred)→WDcall prog pkL 109 [.pointer (some ⟨W.sz,0,none⟩)] m W' Q'→WDcall prog pkL 109 (d.args.toList++[Value.pointer (some ⟨W.sz,0,none⟩)]) m W' Q':=by
   intro d l m W' Q' hd h
   subst hd
   exact h
  have hcall:=hdo hb W2 (k1.trans k2) t2 (by rw [z2]) hB2 hB170
  unfold wCallV at hcall ⊢
  have good:∀ (v:Value) (W3:CW),(Top W3∧Blk W3 W.sz 30 [.int .i64 0]∧∀ W',Upd1 W.sz W3 W'→Top W'→Q (.returned (.int .i64 0)) W')→∀ (e:Env),e 4=.pointer (some ⟨W.sz,0,none⟩)→wV (sto prog 30 (.pointer (some ⟨W.sz,0,none⟩)) (.int .i64 0) W3) fun W5=>wLv prog pkL Tryz.f72 Q e [({ target:=.fn (.func 109) #[.pointer (some ⟨W.sz,0,none⟩)],args:=#[] }:Deferred)] .returning W5:=by
   rintro v W3 ⟨t3,hB3,hq⟩ e h4
   refine w_sto_word s30 (a:=⟨W.sz,0,none⟩) (v:=.int .i64 0) rfl hB3 (by simp) fun W5 hu hB5=>?_
   have hu:Upd W.sz W3 W5:=hu
   show WDcall _ _ _ _ _ _ _
   refine rec109r ?_
   exact ret e W5 0 h4 hB5 (hq W5 ⟨by rw [hu.sz]; exact Nat.le_refl _,fun j hj hne=>hu.obj j hne⟩ (t3.upd (hB3.lt t3) hu))
  have bad:∀ ch W4,(∃ x,ch=badCh x∧Top W4∧Blk W4 W.sz 30 [.int .i64 0]∧∀ W',Upd1 W.sz W4 W'→Top W'→Q (.returned (.int .i64 x)) W')→∀ (e:Env),e 4=.pointer (some ⟨W.sz,0,none⟩)→wLv prog pkL Tryz.f72 Q e [({ target:=.fn (.func 109) #[.pointer (some ⟨W.sz,0,none⟩)],args:=#[] }:Deferred)] (.panicking ch) W4:=by
   rintro ch W4 ⟨x,rfl,t4,hB4,hq⟩ e h4
   show WDcall _ _ _ _ _ _ _
   refine rec109 t4 hB4 fun W' hu t' hB'=>?_
   exact ret e W' x h4 hB' (hq W' hu t')
  have hmono:∀ {f:FuncId} {xs:List Value} {K K':Value→CW→Prop} {KP KP':List PanicEntry→CW→Prop},WCall prog pkL f xs W2 (onEnd K KP)→(∀ v W,K v W→K' v W)→(∀ v W,KP v W→KP' v W)→WCall prog pkL f xs W2 (onEnd K' KP'):=fun h h1 h2=>h.mono fun en W' he=>by
   cases en with
   | returned v=>exact h1 _ _ he
   | panicked ch=>exact h2 _ _ he
   | outgrown=>exact he
  have hmonoR:∀ {f:Nat} {xs:List Value} {K K':Value→CW→Prop} {KP KP':List PanicEntry→CW→Prop},WRound prog pkL f xs W2 (onEnd K KP)→(∀ v W,K v W→K' v W)→(∀ v W,KP v W→KP' v W)→WRound prog pkL f xs W2 (onEnd K' KP'):=fun h h1 h2=>h.mono fun en W' he=>by
   cases en with
   | returned v=>exact h1 _ _ he
   | panicked ch=>exact h2 _ _ he
   | outgrown=>exact he
  split at hcall
  ·split at hcall
   ·exact good (.bool false) _ hcall _ rfl
   ·exact hmono hcall (fun v W h=>good v W h _ rfl) (fun ch W h=>⟨fun k n m hh=>(by cases hh),bad ch W h _ rfl⟩)
  ·exact hmonoR hcall (fun v W h=>good v W h _ rfl) (fun ch W h=>⟨fun k n m hh=>(by cases hh),bad ch W h _ rfl⟩)
  ·exact hcall.elim
end Go.Ce
namespace Go.Ce
open Go Go.Proofs Go.Proofs.Tryz
def toOf (l:List Spc) (s:ByteArray):Option Spc:=l.find? fun x=>decide (x.to=s)
def backV (mp vs z:List Int):Nat→List Int
 | 0=>z
 | n+1=>(backV mp vs z n).set ((mp[n]?).getD 0).toNat ((vs[n]?).getD 0)
def backP (c:List Shp) (l:List Spc) (x:Thg):Thg:=match toOf l x.type with
 | none=>x
 | some s=>match shpI c s.type with
  | none=>x
  | some t=>⟨s.type,backV s.map x.vals (List.replicate (rowP c t).length 0) s.map.length⟩
theorem backV_len (mp vs z:List Int):∀ n,(backV mp vs z n).length=z.length
 | 0=>rfl
 | n+1=>by rw [backV,List.length_set,backV_len mp vs z n]
theorem f77_results:∃ ty,Tryz.f77.results.toList=[.cell 6 ty]∧ty=56:=⟨56,by kernel_rfl,rfl⟩
theorem bld56v (s:ByteArray) (a:Addr) (n m:Nat):bld prog 56 [(0,.string s),(1,.slice (some a) n m)]=some (.agg [.string s,.slice (some a) n m].toArray):=by kernel_rfl
def BackPost (vx:Value) (x y:Thg) (W:CW):Ending→CW→Prop:=fun e W'=>Kp W W'∧Top W'∧∃ vv,e=.returned (.agg #[.string y.type,vv])∧((vv=vx∧y.vals=x.vals)∨∃ bv,vv=.slice (some ⟨bv,0,none⟩) y.vals.length y.vals.length∧Blk W' bv 3 (intv y.vals)∧W.sz≤bv)
theorem set_put {z:List Int} {k:Nat} (hk:k<z.length) (x:Int):putAt (intv z) (0+k*1) [.int .i64 x]=intv (z.set k x):=by
 apply List.ext_getElem?
 intro j
 have hl:(intv z).length=z.length:=by simp [intv]
 rw [putAt_get (by rw [hl]; simp; omega)]
 unfold intv
 simp only [List.length_singleton,List.getElem?_map,List.getElem?_set]
 by_cases e:k=j
 ·subst e
  rw [if_pos ⟨by omega,by omega⟩,if_pos rfl,if_pos hk]
  simp
 ·rw [if_neg (by omega),if_neg e]
theorem back77_ok {w r r1 r2:Nat} {vx:Value} {c:List Shp} {l:List Spc} {x:Thg} {W:CW} (ht:Top W) (hr:SpM Spc.to W r l) (hcat:CatAt W r1 r2 c) (hC:Cat c) (hvx:IsSl 1 (RInt W) vx x.vals)
  (hm:∀ s,toOf l x.type=some s→s.map.length≤x.vals.length∧∃ t,shpI c s.type=some t∧∀ m,m ∈ s.map→0≤m∧m.toNat<(rowP c t).length) (hml:∀ s,s ∈ l→s.map.length<100000) :
  WCall prog pkL 77 [.agg #[.map (some w),.map (some r)],catV r1 r2,.agg #[.string x.type,vx]] W (BackPost vx x (backP c l x) W):=by
 obtain ⟨ty,hres,rfl⟩:=f77_results
 refine f77_w ?_
 rw [f77_c]
 unfold catV
 obtain ⟨ax,cx,rfl,hxc⟩:=id hvx
 refine w_bxw s83 ht fun W0 k0 t0 z0 hB3=>?_
 have hB3:Blk W0 W.sz 83 [.map (some w),.map (some r)]:=hB3
 refine w_bxw s78 t0 fun W1 k1 t1 z1 hB4=>?_
 have hB4:Blk W1 W0.sz 78 [.map (some r1),.map (some r2)]:=hB4
 refine w_bxw s56 t1 fun W2 k2 t2 z2 hB5=>?_
 have hB5:Blk W2 W1.sz 56 [.string x.type,.slice ax x.vals.length cx]:=hB5
 refine w_alc z56 s56 t2 fun A kA tA zA hB6=>?_
 have hB6:Blk A W2.sz 56 [.string ⟨#[]⟩,.slice none 0 0]:=hB6
 have k:=((k0.trans k1).trans k2).trans kA
 have hB3:=hB3.ext t0 ((k1.trans k2).trans kA)
 have hB4:=hB4.ext t1 (k2.trans kA)
 have hB5:=hB5.ext t2 kA
 have hb6W:W.sz≤W2.sz:=((k0.trans k1).trans k2).sz
 have hrA:=hr.kp ht k
 have hcatA:=hcat.kp ht k
 simp only [fad83_1,fad56_0,wV_some]
 rw [ld_word a81 (a:=⟨W.sz,0+1,none⟩) (hB3.cell rfl),ld_word a9 (a:=⟨W1.sz,0,none⟩) (hB5.cell rfl)]
 simp only [wV_some]
 generalize hKK:wLeave prog Tryz.f77 (BackPost (.slice ax x.vals.length cx) x (backP c l x) W)=K
 have hfin:∀ W1' vv,Kp A W1'→Top W1'→oneCell vv=true→(∀ W3,Upd W2.sz W1' W3→(vv=.slice ax x.vals.length cx∧(backP c l x).vals=x.vals)∨∃ bv,vv=.slice (some ⟨bv,0,none⟩) (backP c l x).vals.length (backP c l x).vals.length∧Blk W3 bv 3 (intv (backP c l x).vals)∧W.sz≤bv)→∀ {K':CW→Prop},(∀ W3,(∀ e',e' 6=.pointer (some ⟨W2.sz,0,none⟩)→K .ret e' [] W3)→K' W3) →
   wV (sto prog 56 (.pointer (some ⟨W2.sz,0,none⟩)) (.agg [.string (backP c l x).type,vv].toArray) W1') K':=by
  intro W1' vv k1' t1' hone hor K' hK'
  have hB:=hB6.ext tA k1'
  refine w_sto_agg s56 (a:=⟨W2.sz,0,none⟩) (by simp only [List.all_cons,List.all_nil,hone,Bool.and_true]; rfl) rfl hB (by simp) fun W3 hu hB3=>hK' W3 fun e' h6'=>?_
  have hu:Upd W2.sz W1' W3:=hu
  rw [←hKK]
  have hB3:Blk W3 W2.sz 56 [.string (backP c l x).type,vv]:=hB3
  refine leave_cell hres (p:=⟨W2.sz,0,none⟩) h6' (ld_agg (vs:=[.string (backP c l x).type,vv]) a56 s56 rfl (by omega) hB3.cells) ?_
  exact ⟨(k.trans k1').upd hb6W hu,t1'.upd (hB.lt t1') hu,vv,rfl,hor W3 hu⟩
 cases hsp:toOf l x.type with
 | none =>
  have hwr:backP c l x=x:=by unfold backP; rw [hsp]
  rw [hrA.none hsp]
  simp only [wV_some,ext2_0,ext2_1]
  unfold z58v
  refine w_var (ws:=[.string ⟨#[]⟩,.string ⟨#[]⟩,.slice none 0 0]) z58 s58 rfl rfl rfl tA fun W4 k4 t4 z4 hB7=>?_
  simp only [ngt_bool,wV_some,Bool.not_false,wI_true]
  rw [ld_agg (vs:=[.string x.type,.slice ax x.vals.length cx]) a56 s56 rfl (by omega) (hB5.ext tA k4).cells]
  simp only [wV_some]
  have hty:x.type=(backP c l x).type:=by rw [hwr]
  rw [hty]
  refine hfin W4 _ k4 t4 rfl (fun W3 hu=>.inl ⟨rfl,by rw [hwr]⟩) fun W3 hr=>hr _ rfl
 | some s =>
  obtain ⟨hsl,t,hst,hmm⟩:=hm s hsp
  have hwr:backP c l x=⟨s.type,backV s.map x.vals (List.replicate (rowP c t).length 0) s.map.length⟩:=by unfold backP; rw [hsp]; simp only; rw [hst]
  have hsm:=hml s (List.mem_of_find?_eq_some hsp)
  have hrl:=rowP_le hC t
  obtain ⟨u,hu,L⟩:=hrA.some hsp
  obtain ⟨am,cm,rfl,hum⟩:=hu
  rw [L]
  simp only [wV_some,ext2_0,ext2_1]
  refine w_var (ws:=[.string s.type,.string s.to,.slice am s.map.length cm]) z58 s58 rfl rfl rfl tA fun W5 k5 t5 z5 hB7=>?_
  simp only [ngt_bool,wV_some,Bool.not_true,wI_false,fad58_0,fad58_2,fad78_1]
  obtain ⟨ar,cr,lr,_⟩:=hcatA.rw.some hst
  obtain ⟨mr,hmr,_⟩:=hcatA.rw
  have kn:Kp W5 (W5.new (.cells .nil 2 #[.string ⟨#[]⟩,.slice none 0 0] 56)):=.new _
  have tn:=t5.new (.cells .nil 2 #[.string ⟨#[]⟩,.slice none 0 0] 56)
  have hon:(W5.new (.cells .nil 2 #[.string ⟨#[]⟩,.slice none 0 0] 56)).obj W5.sz=some (.cells .nil 2 #[.string ⟨#[]⟩,.slice none 0 0] 56):=by rw [obj_new,if_pos rfl]
  have hBn:Blk (W5.new (.cells .nil 2 #[.string ⟨#[]⟩,.slice none 0 0] 56)) W5.sz 56 [.string ⟨#[]⟩,.slice none 0 0]:=⟨.nil,2,_,hon,rfl,fun k v hk=>by
   match k,hk with
   | 0,hk=>cases hk; rfl
   | 1,hk=>cases hk; rfl⟩
  have hszn:(W5.new (.cells .nil 2 #[.string ⟨#[]⟩,.slice none 0 0] 56)).sz=W5.sz+1:=rfl
  have hfl:∀ W0:CW,W0.obj W5.sz=some (.cells .nil 2 #[.string ⟨#[]⟩,.slice none 0 0] 56)→flOk (.pointer (some ⟨W5.sz,0,none⟩)) ((W5.new (.cells .nil 2 #[.string ⟨#[]⟩,.slice none 0 0] 56)).obj W5.sz) W0=true:=fun W0 h0=>flOk_same h0 (by rfl)
  generalize hAn:W5.new (.cells .nil 2 #[.string ⟨#[]⟩,.slice none 0 0] 56)=An at kn tn hon hBn hszn hfl ⊢
  have kAn:=k5.trans kn
  have l9:∀ W',Kp An W'→ld prog 9 (.pointer (some ⟨A.sz,0,none⟩)) W'=some (.string s.type):=fun W' k'=>ld_word a9 (a:=⟨A.sz,0,none⟩) ((hB7.ext t5 (kn.trans k')).cell rfl)
  have l76:ld prog 76 (.pointer (some ⟨W0.sz,0+1,none⟩)) An=some (.map (some r2)):=ld_word a76 (a:=⟨W0.sz,0+1,none⟩) ((hB4.ext tA kAn).cell rfl)
  have lrn:lkp prog 76 (.map (some r2)) (.string s.type) false An=some (.slice ar (rowP c t).length cr):=by
   rw [lkp_congr (kAn.obj _ (hmr.lt tA))]; exact lr
  rw [l9 An (.refl _),l76]
  simp only [wV_some,lrn,clen_sl u29]
  refine w_mks u40 s3 z3 rfl by3 (by omega) (n:=(rowP c t).length) (by omega) tn fun W7 k7 t7 z7 hBv=>?_
  refine wV_of (bld56v _ _ _ _) ?_
  refine ⟨trivial,?_⟩
  have hBn7:=hBn.ext tn k7
  refine w_sto_agg s56 (a:=⟨W5.sz,0,none⟩) (ws:=[.string s.type,.slice (some ⟨An.sz,0,none⟩) (rowP c t).length (rowP c t).length]) rfl rfl hBn7 (by simp) fun W8 hu8 hBo=>?_
  have hu8:Upd W5.sz W7 W8:=hu8
  have hBo:Blk W8 W5.sz 56 [.string s.type,.slice (some ⟨An.sz,0,none⟩) (rowP c t).length (rowP c t).length]:=hBo
  refine ⟨by simp only [l9 An (.refl _),l9 W7 k7,and_self],by simp only [hfl An hon,hfl W7 (by rw [k7.obj _ (by omega)]; exact hon),and_self],?_⟩
  have h5l:W5.sz<W7.sz:=by rw [z7]; omega
  have t8:=t7.upd h5l hu8
  have hzA:A.sz≤W5.sz:=by rw [z5]; omega
  have k58:Kp W5 W8:=(kn.trans k7).upd (Nat.le_refl _) hu8
  have kA8:Kp A W8:=k5.trans k58
  rw [ld_word a40 (a:=⟨A.sz,0+2,none⟩) ((hB7.ext t5 k58).cell rfl)]
  simp only [wV_some,clen_sl u40]
  have hBv8:Blk W8 An.sz 3 (intv (backV s.map x.vals (List.replicate (rowP c t).length 0) 0)):=by
   have:intv (backV s.map x.vals (List.replicate (rowP c t).length 0) 0)=List.replicate (rowP c t).length (.int .i64 0):=by simp [backV,intv]
   rw [this]
   exact hBv.congr (hu8.obj _ (by omega))
  refine w_for (fun n e ds W'=>ds=[]∧Kp A W'∧Top W'∧Blk W' W5.sz 56 [.string s.type,.slice (some ⟨An.sz,0,none⟩) (rowP c t).length (rowP c t).length]∧Blk W' An.sz 3 (intv (backV s.map x.vals (List.replicate (rowP c t).length 0) n))∧e 5=.pointer (some ⟨W1.sz,0,none⟩)∧e 6=.pointer (some ⟨W2.sz,0,none⟩)∧e 9=.pointer (some ⟨W5.sz,0,none⟩)∧e 34=.slice am s.map.length cm∧e 35=.int .i64 s.map.length∧e 36=.int .i64 n) s.map.length
   ⟨rfl,kA8,t8,hBo,hBv8,rfl,rfl,rfl,rfl,rfl,rfl⟩ ?_
  rintro n e ds W' hn ⟨rfl,kA',t',hBo',hBv',h5,h6,h9,h34,h35,h36⟩
  rw [f77_l0,h34,h35,h36]
  simp only [cbin_lss,wV_some]
  refine w_lt (fun hlt=>?_) (fun hge=>?_)
  ·obtain ⟨_,_,he,hmc⟩:=hum
   cases he
   have hmn:=List.getElem?_eq_getElem hlt
   obtain ⟨q,rfl,hq⟩:=hmc n _ hmn
   rw [iad_sl u40 s3 hlt]
   simp only [wV_some]
   have hqc:=kA'.cell tA hq.1
   rw [ld_word a3 (a:=⟨q.block,q.off+n*1,none⟩) hqc,h9,h5]
   simp only [wV_some,fad56_1]
   have hxl:n<x.vals.length:=by omega
   have hxn:=List.getElem?_eq_getElem hxl
   obtain ⟨p,rfl,hp⟩:=hxc n _ hxn
   have hB5':=hB5.ext tA kA'
   rw [ld_word a40 (a:=⟨W5.sz,0+1,none⟩) (hBo'.cell rfl),ld_word a40 (a:=⟨W1.sz,0+1,none⟩) (hB5'.cell rfl)]
   simp only [wV_some]
   rw [iad_sl u40 s3 hxl]
   simp only [wV_some]
   have hpc:=(k.trans kA').cell ht hp.1
   rw [ld_word a3 (a:=⟨p.block,p.off+n*1,none⟩) hpc]
   simp only [wV_some]
   obtain ⟨hm0,hm1⟩:=hmm _ (List.getElem_mem hlt)
   have hmi:(s.map[n]:Int)=((s.map[n].toNat:Nat):Int):=by omega
   rw [hmi,iad_sl u40 s3 hm1]
   simp only [wV_some]
   have hbl:(backV s.map x.vals (List.replicate (rowP c t).length 0) n).length=(rowP c t).length:=by rw [backV_len]; simp
   refine w_sto_word s3 (a:=⟨An.sz,0+s.map[n].toNat*1,none⟩) (v:=.int .i64 x.vals[n]) rfl hBv' (by simp only [intv,List.length_map,hbl]; omega) fun W9 hu9 hBv9=>?_
   have hu9:Upd An.sz W' W9:=hu9
   have hBv9:Blk W9 An.sz 3 (intv (backV s.map x.vals (List.replicate (rowP c t).length 0) (n+1))):=by
    rw [backV,hmn,hxn,Option.getD_some,Option.getD_some,←set_put (by rw [hbl]; exact hm1)]
    exact hBv9
   have l40a:ld prog 40 (.pointer (some ⟨W5.sz,0+1,none⟩)) W'=some (.slice (some ⟨An.sz,0,none⟩) (rowP c t).length (rowP c t).length):=ld_word a40 (a:=⟨W5.sz,0+1,none⟩) (hBo'.cell rfl)
   refine ⟨by simp only [ld_word a40 (a:=⟨W5.sz,0+1,none⟩) (hBo'.cell rfl),ld_word a40 (a:=⟨W1.sz,0+1,none⟩) (hB5'.cell rfl),ld_word a3 (a:=⟨p.block,p.off+n*1,none⟩) hpc,and_self],trivial,?_⟩
   simp only [f77_k11,qKn,qKr,qKx,qKp,bKn,bKr,bKp,bKx,tKn,tKr,tKx,tKp,zKn,zKr,zKx,zKp]
   simp only [eKc,eKn,eKa,Nat.reduceEqDiff,↓reduceIte,gKz,gKs,dKs,and_self,h36,cbin_add,wV_some,qKn,qKr,qKx,qKp,bKn,bKr,bKp,bKx,tKn,tKr,tKx,tKp,zKn,zKr,zKx,zKp]
   refine ⟨hlt,trivial,kA'.upd (by omega) hu9,t'.upd (hBv'.lt t') hu9,hBo'.congr (hu9.obj _ (by omega)),hBv9,?_,?_,?_,?_,?_,?_⟩
   ·simp only [eKc,eKn,eKa,Nat.reduceEqDiff,↓reduceIte,gKz,gKs,dKs,and_self,h5]
   ·simp only [eKc,eKn,eKa,Nat.reduceEqDiff,↓reduceIte,gKz,gKs,dKs,and_self,h6]
   ·simp only [eKc,eKn,eKa,Nat.reduceEqDiff,↓reduceIte,gKz,gKs,dKs,and_self,h9]
   ·simp only [eKc,eKn,eKa,Nat.reduceEqDiff,↓reduceIte,gKz,gKs,dKs,and_self,h34]
   ·simp only [eKc,eKn,eKa,Nat.reduceEqDiff,↓reduceIte,gKz,gKs,dKs,and_self,h35]
   ·rw [inc64 (by omega)]
  ·have hn':n=s.map.length:=by omega
   subst hn'
   simp only [qKn,qKr,qKx,qKp,bKn,bKr,bKp,bKx,tKn,tKr,tKx,tKp,zKn,zKr,zKx,zKp,bKx,if_true,f77_k10]
   simp only [eKc,eKn,eKa,Nat.reduceEqDiff,↓reduceIte,gKz,gKs,dKs,and_self,h6,h9]
   rw [ld_agg (vs:=[.string s.type,.slice (some ⟨An.sz,0,none⟩) (rowP c t).length (rowP c t).length]) (a:=⟨W5.sz,0,none⟩) a56 s56 rfl (by omega) hBo'.cells]
   simp only [wV_some]
   have hty:s.type=(backP c l x).type:=by rw [hwr]
   have hvl:(rowP c t).length=(backP c l x).vals.length:=by rw [hwr]; simp only [backV_len,List.length_replicate]
   rw [hty]
   refine hfin W' _ kA' t' rfl (fun W3 hu=>.inr ⟨An.sz,by rw [hvl],?_,by have:=k.sz; omega⟩) fun W3 hr=>hr _ (by simp only [eKc,eKn,eKa,Nat.reduceEqDiff,↓reduceIte,gKz,gKs,dKs,and_self,h6])
   have:(backP c l x).vals=backV s.map x.vals (List.replicate (rowP c t).length 0) s.map.length:=by rw [hwr]
   rw [this]
   exact hBv'.congr (hu.obj _ (by have:=zA; omega))
end Go.Ce
namespace Go.Ce
open Go Go.Proofs Go.Proofs.Tryz
def askR (c:List Shp) (l:List Spc) (s:ByteArray):Option Int:=if (shpI c s).isSome then (if (l.find? fun x=>decide (x.type=s)).isSome then some 214 else none) else some 213
structure AskIn (A:CW) (bk br r1 r2 w r:Nat) (c:List Shp) (l:List Spc):Prop where
 top:Top A
 k:Blk A bk 78 [.map (some r1),.map (some r2)]
 rr:Blk A br 83 [.map (some w),.map (some r)]
 cat:CatAt A r1 r2 c
 w:SpM Spc.type A w l
 rd:SpM Spc.to A r l
theorem z48':zer prog 48=some z48v:=by kernel_rfl
theorem s48':siz prog 48=some 5:=by kernel_rfl
theorem ask75_ok {A:CW} {bk br r1 r2 w r:Nat} {c:List Shp} {l:List Spc} (I:AskIn A bk br r1 r2 w r c l):AskOk A (.func (.func 75) #[] #[.pointer (some ⟨bk,0,none⟩),.pointer (some ⟨br,0,none⟩)]) (askR c l):=by
 intro s W K KP kA ht hno hyes
 refine w_callV Tryz.func75 (by kernel_rfl) ?_
 refine f75_w (v0:=.string s) (v1:=.pointer (some ⟨bk,0,none⟩)) (v2:=.pointer (some ⟨br,0,none⟩)) ?_
 rw [f75_c]
 have hk:=I.k.ext I.top kA
 have hr:=I.rr.ext I.top kA
 have hcat:=I.cat.kp I.top kA
 simp only [fad78_0,wV_some]
 rw [ld_word a75 (a:=⟨bk,0,none⟩) (hk.cell rfl)]
 simp only [wV_some]
 obtain ⟨ws,hl1,hwl,hwo,_⟩:=shLook hcat.sh s
 rw [hl1]
 simp only [wV_some,ext2_0,ext2_1]
 refine w_var (ws:=ws) z48' s48' rfl hwo hwl ht fun W2 k2 t2 z2 hB=>?_
 refine w_need (fun h1=>?_) (fun h1=>?_)
 ·have hw2:=(I.w.kp I.top (kA.trans k2))
  obtain ⟨ws2,hl2,hwl2,hwo2⟩:=spLook hw2 s
  simp only [fad83_0,wV_some]
  rw [ld_word a81 (a:=⟨br,0,none⟩) ((hr.ext ht k2).cell rfl)]
  simp only [wV_some]
  rw [hl2]
  simp only [wV_some,ext2_0,ext2_1]
  refine w_var (ws:=ws2) z58 s58 rfl hwo2 hwl2 t2 fun W5 k5 t5 z5 hB5=>?_
  simp only [ngt_bool,wV_some]
  refine w_need (fun h2=>?_) (fun h2=>?_)
  ·have h2:(l.find? fun x=>decide (Spc.type x=s)).isSome=false:=by simpa using h2
   exact leave0 (by kernel_rfl) _ _ (.inl rfl) _ _ (hno (by unfold askR; rw [if_pos h1,if_neg (by rw [h2]; simp)]) _ W5 (k2.trans k5) t5)
  ·have h2:(l.find? fun x=>decide (Spc.type x=s)).isSome=true:=by simpa using h2
   exact hyes 214 (by unfold askR; rw [if_pos h1,if_pos h2]) W5 (k2.trans k5) t5
 ·exact hyes 213 (by unfold askR; rw [if_neg (by rw [h1]; simp)]) W2 k2 t2
theorem askR_some {c:List Shp} {l:List Spc} {s:ByteArray} (h:askR c l s=none):(shpI c s).isSome=true∧(l.find? fun x=>decide (x.type=s))=none:=by
 unfold askR at h
 split at h
 ·rename_i h1
  split at h
  ·cases h
  ·rename_i h2; exact ⟨h1,by simpa using h2⟩
 ·cases h
theorem headL_err {b:List UInt8} {ask:ByteArray→Option Int} (ha:∀ s e,ask s=some e→e≠0):∀ {k at_:Nat} {out:List ByteArray} {e:Int},headL b ask k at_ out=.error e→e≠0
 | 0,at_,out,e,h=>by cases h
 | k+1,at_,out,e,h=>by
  unfold headL at h
  split at h
  ·rename_i hn; cases h; exact numR_err hn
  ·split at h
   ·rename_i ht; cases h; rw [takeP_err ht]; decide
   ·split at h
    ·split at h
     ·rename_i hq; cases h; exact ha _ _ hq
     ·exact headL_err ha h
    ·cases h; decide
where
 numR_err {b:List UInt8} {at_:Nat} {m e:Int} (h:numR b at_ m=.error e):e≠0:=by
  unfold numR at h
  split at h
  ·rename_i hg; cases h; exact numG_err hg
  ·split at h
   ·cases h
   ·cases h; decide
 numG_err {b:List UInt8}:∀ {f at_ n sh:Nat} {e:Int},numG b f at_ n sh=.error e→e≠0
  | 0,_,_,_,_,h=>by cases h; decide
  | f+1,at_,n,sh,e,h=>by
   unfold numG at h
   split at h
   ·cases h; decide
   ·split at h
    ·split at h
     ·cases h
     ·cases h; decide
    ·exact numG_err h
theorem numR_err {b:List UInt8} {at_:Nat} {m e:Int} (h:numR b at_ m=.error e):e≠0:=headL_err.numR_err h
theorem valsL_err {b:List UInt8} {c:List Shp} {ix many:Nat}:∀ {m k at_ fd:Nat} {vs:List Int} {e:Int},valsL b c ix many m k at_ fd vs=.error e→e≠0
 | 0,_,_,_,_,_,h=>by cases h
 | m+1,k,at_,fd,vs,e,h=>by
  unfold valsL at h
  split at h
  ·split at h
   ·rename_i hn; cases h; exact numR_err hn
   ·exact valsL_err h
  ·split at h
   ·rename_i hn; cases h; exact numR_err hn
   ·exact valsL_err h
theorem thingL_err {b:List UInt8} {c:List Shp} {ts:List ByteArray} {many:Nat}:∀ {m i at_ used fd:Nat} {out:List Thg} {e:Int},thingL b c ts many m i at_ used fd out=.error e→e≠0
 | 0,_,_,_,_,_,_,h=>by cases h
 | m+1,i,at_,used,fd,out,e,h=>by
  unfold thingL at h
  split at h
  ·split at h
   ·rename_i hn; cases h; exact numR_err hn
   ·split at h
    ·cases h; decide
    ·split at h
     ·cases h; decide
     ·split at h
      ·rename_i hn
       cases h
       split at hn
       ·exact numR_err hn
       ·cases hn
      ·split at h
       ·rename_i hv; cases h; exact valsL_err hv
       ·exact thingL_err h
  ·cases h; decide
theorem thingsR_err {b:List UInt8} {c:List Shp} {ask:ByteArray→Option Int} (ha:∀ s e,ask s=some e→e≠0) {at_:Nat} {e:Int} (h:thingsR b c ask at_=.error e):e≠0:=by
 unfold thingsR at h
 split at h
 ·rename_i hh
  cases h
  unfold headR at hh
  split at hh
  ·rename_i hn; cases hh; exact numR_err hn
  ·split at hh
   ·split at hh
    ·rename_i hn; cases hh; exact numR_err hn
    ·exact headL_err ha hh
   ·cases hh; decide
 ·split at h
  ·rename_i hn; cases h; exact numR_err hn
  ·split at h
   ·rename_i hg; cases h; exact thingL_err hg
   ·split at h
    ·cases h
    ·cases h; decide
theorem askR_err {c:List Shp} {l:List Spc}:∀ s e,askR c l s=some e→e≠0:=by
 intro s e h
 unfold askR at h
 split at h
 ·split at h
  ·cases h; decide
  ·cases h
 ·cases h; decide
theorem valsL_len {b:List UInt8} {c:List Shp} {ix many:Nat}:∀ {m k at_ fd:Nat} {vs:List Int} {r:List Int × Nat × Nat},valsL b c ix many m k at_ fd vs=.ok r→r.1.length=vs.length+m
 | 0,_,_,_,_,_,h=>by cases h; rfl
 | m+1,k,at_,fd,vs,r,h=>by
  unfold valsL at h
  split at h
  ·split at h
   ·cases h
   ·have:=valsL_len h
    rw [this]; simp; omega
  ·split at h
   ·cases h
   ·have:=valsL_len h
    rw [this]; simp; omega
def RowOk (c:List Shp) (x:Thg):Prop:=∃ ix,shpI c x.type=some ix∧(elemAt c ix=0→x.vals.length=(rowP c ix).length)
theorem thingL_row {b:List UInt8} {c:List Shp} {ts:List ByteArray} {many:Nat}:∀ {m i at_ used fd:Nat} {out:List Thg} {r:List Thg × Nat × Nat × Nat},thingL b c ts many m i at_ used fd out=.ok r→(∀ x,x ∈ out→RowOk c x)→∀ x,x ∈ r.1→RowOk c x
 | 0,_,_,_,_,_,_,h,ho=>by cases h; exact ho
 | m+1,i,at_,used,fd,out,r,h,ho=>by
  unfold thingL at h
  split at h
  ·split at h
   ·cases h
   ·split at h
    ·cases h
    ·rename_i ty _
     split at h
     ·cases h
     ·rename_i ix hix
      split at h
      ·cases h
      ·rename_i n a2 hn
       split at h
       ·cases h
       ·rename_i vs fd' a3 hv
        refine thingL_row h fun x hx=>?_
        rcases List.mem_append.1 hx with hx | hx
        ·exact ho x hx
        ·cases List.mem_singleton.1 hx
         refine ⟨ix,hix,fun he=>?_⟩
         rw [if_neg (by simp [he])] at hn
         cases hn
         have:=valsL_len hv
         simpa using this
  ·cases h
theorem thingsR_row {b:List UInt8} {c:List Shp} {ask:ByteArray→Option Int} {at_:Nat} {r:List Thg × Nat} (h:thingsR b c ask at_=.ok r):(∀ x,x ∈ r.1→RowOk c x)∧r.1.length≤1000:=by
 unfold thingsR at h
 split at h
 ·cases h
 ·split at h
  ·cases h
  ·rename_i many a2 hn
   split at h
   ·cases h
   ·rename_i hg
    split at h
    ·cases h
     obtain ⟨hm,_,_⟩:=numR_ok hn
     exact ⟨thingL_row hg (fun x hx=>by cases hx),by have:=thingL_len hg; simp at this; simp only; omega⟩
    ·cases h
where
 thingL_len {b:List UInt8} {c:List Shp} {ts:List ByteArray} {many:Nat}:∀ {m i at_ used fd:Nat} {out:List Thg} {r:List Thg × Nat × Nat × Nat},thingL b c ts many m i at_ used fd out=.ok r→r.1.length=out.length+m
  | 0,_,_,_,_,_,_,h=>by cases h; rfl
  | m+1,i,at_,used,fd,out,r,h=>by
   unfold thingL at h
   split at h
   ·split at h
    ·cases h
    ·split at h
     ·cases h
     ·split at h
      ·cases h
      ·split at h
       ·cases h
       ·split at h
        ·cases h
        ·rw [thingL_len h]; simp; omega
   ·cases h
end Go.Ce
namespace Go.Ce
open Go Go.Proofs Go.Proofs.Tryz
def BdT (x:Thg):Prop:=∀ v,v ∈ x.vals→-9223372036854775808≤v∧v≤9223372036854775807
theorem valsL_bd {b:List UInt8} {c:List Shp} {ix many:Nat} (hm:many≤1000):∀ {m k at_ fd:Nat} {vs:List Int} {r:List Int × Nat × Nat},valsL b c ix many m k at_ fd vs=.ok r→(∀ v,v ∈ vs→-9223372036854775808≤v∧v≤9223372036854775807)→∀ v,v ∈ r.1→-9223372036854775808≤v∧v≤9223372036854775807
 | 0,_,_,_,_,_,h,hv=>by cases h; exact hv
 | m+1,k,at_,fd,vs,r,h,hv=>by
  unfold valsL at h
  split at h
  ·split at h
   ·cases h
   ·rename_i n a hn
    obtain ⟨h1,_,_⟩:=numR_ok hn
    refine valsL_bd hm h fun v hvv=>?_
    rcases List.mem_append.1 hvv with hq | hq
    ·exact hv v hq
    ·rw [List.mem_singleton.1 hq]; omega
  ·split at h
   ·cases h
   ·rename_i n a hn
    obtain ⟨h1,_,_⟩:=numR_ok hn
    refine valsL_bd hm h fun v hvv=>?_
    rcases List.mem_append.1 hvv with hq | hq
    ·exact hv v hq
    ·rw [List.mem_singleton.1 hq]
     unfold unwP
     split <;> omega
theorem thingL_bd {b:List UInt8} {c:List Shp} {ts:List ByteArray} {many:Nat} (hmn:many≤1000):∀ {m i at_ used fd:Nat} {out:List Thg} {r:List Thg × Nat × Nat × Nat},thingL b c ts many m i at_ used fd out=.ok r→(∀ x,x ∈ out→BdT x)→∀ x,x ∈ r.1→BdT x
 | 0,_,_,_,_,_,_,h,ho=>by cases h; exact ho
 | m+1,i,at_,used,fd,out,r,h,ho=>by
  unfold thingL at h
  split at h
  ·split at h
   ·cases h
   ·split at h
    ·cases h
    ·split at h
     ·cases h
     ·split at h
      ·cases h
      ·split at h
       ·cases h
       ·rename_i vs fd' a3 hv
        refine thingL_bd hmn h fun x hx=>?_
        rcases List.mem_append.1 hx with hx | hx
        ·exact ho x hx
        ·cases List.mem_singleton.1 hx
         exact valsL_bd hmn hv (fun v hv=>by cases hv)
  ·cases h
theorem thingsR_bd {b:List UInt8} {c:List Shp} {ask:ByteArray→Option Int} {at_:Nat} {r:List Thg × Nat} (h:thingsR b c ask at_=.ok r):∀ x,x ∈ r.1→BdT x:=by
 unfold thingsR at h
 split at h
 ·cases h
 ·split at h
  ·cases h
  ·rename_i many a2 hn
   split at h
   ·cases h
   ·rename_i hg
    split at h
    ·cases h
     obtain ⟨hm,_,_⟩:=numR_ok hn
     exact thingL_bd (by omega) hg (fun x hx=>by cases hx)
    ·cases h
theorem backV_bd {mp vs z:List Int} (hz:∀ v,v ∈ z→-9223372036854775808≤v∧v≤9223372036854775807) (hv:∀ v,v ∈ vs→-9223372036854775808≤v∧v≤9223372036854775807):∀ n v,v ∈ backV mp vs z n→-9223372036854775808≤v∧v≤9223372036854775807
 | 0,v,h=>hz v h
 | n+1,v,h=>by
  rw [backV] at h
  rcases List.mem_or_eq_of_mem_set h with h | h
  ·exact backV_bd hz hv n v h
  ·rw [h]
   cases hq:vs[n]? with
   | none=>rw [Option.getD_none]; omega
   | some w=>rw [Option.getD_some]; exact hv w (List.mem_of_getElem? hq)
theorem backP_bd {c:List Shp} {l:List Spc} {x:Thg} (h:BdT x):BdT (backP c l x):=by
 unfold backP
 split
 ·exact h
 ·split
  ·exact h
  ·exact backV_bd (fun v hv=>by rw [List.eq_of_mem_replicate hv]; omega) h _
theorem flat_get:∀ (l:List (Thg × Value)) (k:Nat),(l.flatMap encT)[k]?=(l[k / 2]?).bind fun q=>(encT q)[k % 2]?
 | [],k=>by simp
 | q::l,0=>rfl
 | q::l,1=>rfl
 | q::l,k+2=>by
  have h:((q::l).flatMap encT)[k+2]?=(l.flatMap encT)[k]?:=by
   simp only [List.flatMap_cons]
   rfl
  rw [h,flat_get l k,show (k+2) / 2=k / 2+1 by omega,show (k+2) % 2=k % 2 by omega]
  rfl
theorem flat_put {l:List (Thg × Value)} {i:Nat} (hi:i<l.length) (q:Thg × Value):putAt (l.flatMap encT) (0+i*2) (encT q)=(l.set i q).flatMap encT:=by
 apply List.ext_getElem?
 intro k
 have hl:=encT_len l
 have h2:(encT q).length=2:=rfl
 rw [putAt_get (by rw [hl,h2]; omega),flat_get,flat_get,h2,List.getElem?_set]
 by_cases e:i=k / 2
 ·rw [if_pos ⟨by omega,by omega⟩,if_pos e,if_pos hi]
  show _=(encT q)[k % 2]?
  congr 1; omega
 ·rw [if_neg (by omega),if_neg e]
theorem heap_thg {B:Nat} {W:CW} {v:Value} {ps:List (Thg × Value)} (h:HeapAt B W v ps) (hb:∀ p,p ∈ ps→BdT p.1):IsSl 2 (RThg W) v (ps.map (·.1)):=by
 have hl:=encT_len ps
 have hpv:=h.pv
 obtain ⟨hO,_,_⟩:=h
 generalize hcs:ps.flatMap encT=cs at hO hl
 cases hO with
 | nil =>
  have:ps=[]:=List.length_eq_zero_iff.1 (by simp at hl; omega)
  subst this
  exact ⟨none,0,rfl,fun i x hx=>by cases hx⟩
 | @some b0 len _ hB hl2 =>
  have hpl:len=ps.length:=by omega
  refine ⟨some ⟨b0,0,none⟩,len,by rw [List.length_map,hpl],fun i x hx=>⟨_,rfl,?_⟩⟩
  rw [List.getElem?_map,Option.map_eq_some_iff] at hx
  obtain ⟨p,hp,rfl⟩:=hx
  have hpm:=List.mem_of_getElem? hp
  obtain ⟨bv,h1,h2,_⟩:=hpv p hpm
  have hg:∀ j,j<2→cs[i*2+j]?=(encT p)[j]?:=fun j hj=>by
   rw [←hcs,flat_get,show (i*2+j) / 2=i by omega,show (i*2+j) % 2=j by omega,hp]; rfl
  refine ⟨?_,p.2,?_,?_⟩
  ·show W.cell b0 (0+i*2)=_
   rw [Nat.zero_add]
   exact hB.cell (hg 0 (by omega))
  ·show W.cell b0 (0+i*2+1)=_
   rw [Nat.zero_add]
   exact hB.cell (hg 1 (by omega))
  ·refine ⟨some ⟨bv,0,none⟩,p.1.vals.length,h1,fun j y hy=>⟨_,rfl,?_,hb p hpm y (List.mem_of_getElem? hy)⟩⟩
   show W.cell bv (0+j*1)=_
   rw [show 0+j*1=j by omega]
   refine h2.cell ?_
   unfold intv
   rw [List.getElem?_map,hy]; rfl
theorem f19_loop {A W:CW} {K:Kont} {e:Env} {bk br b12 B r1 r2 w r:Nat} {vo:Value} {c:List Shp} {l:List Spc} {ps:List (Thg × Value)} (Q:AskIn A bk br r1 r2 w r c l) (hC:Cat c) (hs:specOk c l=true) (hml:∀ s,s ∈ l→s.map.length<100000) (hrow:∀ p,p ∈ ps→RowOk c p.1) (hbd:∀ p,p ∈ ps→BdT p.1) (hpl:ps.length≤1000)
  (kA:Kp A W) (t0:Top W) (hAB:A.sz≤B) (hB12:A.sz≤b12) (hb12:Blk W b12 24 [vo]) (hH:HeapAt B W vo ps)
  (g9:e 9=.pointer (some ⟨bk,0,none⟩)) (g11:e 11=.pointer (some ⟨br,0,none⟩)) (g12:e 12=.pointer (some ⟨b12,0,none⟩)) (g37:e 37=vo) (g38:e 38=.int .i64 ps.length) (g39:e 39=.int .i64 0)
  (hend:∀ e' W' qs,Kp A W'→Top W'→Blk W' b12 24 [vo]→HeapAt B W' vo qs→qs.map (·.1)=ps.map (fun p=>backP c l p.1)→e' 12=.pointer (some ⟨b12,0,none⟩)→K (.exit 0) e' [] W') :
  WEnv prog pkL none 19 56 (.loop (loopAt prog 19 0)) e [] W K:=by
 refine w_for (fun i e' ds' W'=>ds'=[]∧Kp A W'∧Top W'∧Blk W' b12 24 [vo]∧e' 9=.pointer (some ⟨bk,0,none⟩)∧e' 11=.pointer (some ⟨br,0,none⟩)∧e' 12=.pointer (some ⟨b12,0,none⟩)∧e' 37=vo∧e' 38=.int .i64 ps.length∧e' 39=.int .i64 i∧∃ qs,qs.length=i∧HeapAt B W' vo (qs++ps.drop i)∧qs.map (·.1)=(ps.take i).map (fun p=>backP c l p.1)) ps.length
  ⟨rfl,kA,t0,hb12,g9,g11,g12,g37,g38,g39,[],rfl,hH,rfl⟩ ?_
 rintro i e' ds' W' hi ⟨rfl,kA',t',hb12',h9,h11,h12,h37,h38,h39,qs,hql,hH',hqs⟩
 rw [f19_l0,h37,h38,h39]
 simp only [cbin_lss,wV_some]
 refine w_lt (fun hlt=>?_) (fun hge=>?_)
 rotate_left
 ·have hin:i=ps.length:=by omega
  subst hin
  simp only [qKn,qKr,qKx,qKp,bKn,bKr,bKp,bKx,tKn,tKr,tKx,tKp,zKn,zKr,zKx,zKp]
  refine hend _ W' qs kA' t' hb12' ?_ (by rw [hqs,List.take_length]) (by simp only [eKc,eKn,eKa,Nat.reduceEqDiff,↓reduceIte,gKz,gKs,dKs,and_self,h12])
  simpa using hH'
 ·have hp:=List.getElem?_eq_getElem hlt
  generalize hpp:ps[i]=p at hp
  have hpm:p ∈ ps:=List.mem_of_getElem? hp
  have hdrop:ps.drop i=p::ps.drop (i+1):=by rw [←hpp]; exact List.drop_eq_getElem_cons hlt
  have hat:(qs++ps.drop i)[i]?=some p:=by rw [List.getElem?_append_right (by omega),hql,Nat.sub_self,hdrop]; rfl
  have hll:(qs++ps.drop i).length=ps.length:=by rw [List.length_append,List.length_drop,hql]; omega
  have hcl:=encT_len (qs++ps.drop i)
  obtain ⟨bv,hv,hBv,hBB⟩:=hH'.pv p (List.mem_of_getElem? hat)
  obtain ⟨b0,hvo,hB0,hbB0⟩:∃ b0,vo=.slice (some ⟨b0,0,none⟩) ps.length ps.length∧Blk W' b0 56 ((qs++ps.drop i).flatMap encT)∧B≤b0:=by
   have hO:=hH'.own
   have hN:=hH'.new
   generalize (qs++ps.drop i).flatMap encT=cs at hO hcl
   cases hO with
   | nil=>simp at hcl; omega
   | @some b0 len _ hB hl =>
    have:len=ps.length:=by omega
    subst this
    exact ⟨b0,rfl,hB,hN _ _ _ rfl⟩
  subst hvo
  rw [iad_sl u24 s56 hlt]
  simp only [wV_some]
  have hcell:Cells W' b0 (0+i*2) (encT p):=fun j v hj=>by
   have hj2:j<2:=by have:=(List.getElem?_eq_some_iff.1 hj).1; simpa [encT] using this
   refine hB0.cell ?_
   rw [flat_get,show (0+i*2+j) / 2=i by omega,show (0+i*2+j) % 2=j by omega,hat]
   exact hj
  rw [ld_agg (vs:=encT p) (a:=⟨b0,0+i*2,none⟩) a56 s56 rfl (by omega) hcell]
  simp only [wV_some]
  have hone:(encT p).all oneCell=true:=by unfold encT; rw [hv]; rfl
  refine w_var (ws:=encT p) z56 s56 rfl hone rfl t' fun W2 k2 t2 z2 hB15=>?_
  have kA2:=kA'.trans k2
  have hb12_2:=hb12'.ext t' k2
  rw [h12,h11,h9]
  rw [ld_word a24 (a:=⟨b12,0,none⟩) (hb12_2.cell rfl),ld83 ((Q.rr.ext Q.top kA2)),ld78 (Q.k.ext Q.top kA2),ld_agg (vs:=encT p) (a:=⟨W'.sz,0,none⟩) a56 s56 rfl (by omega) hB15.cells]
  simp only [wV_some]
  have hBv2:=hBv.ext t' k2
  have hvx:IsSl 1 (RInt W2) p.2 p.1.vals:=by
   refine ⟨some ⟨bv,0,none⟩,p.1.vals.length,hv,fun j y hy=>⟨_,rfl,?_,hbd p hpm y (List.mem_of_getElem? hy)⟩⟩
   show W2.cell bv (0+j*1)=_
   rw [show 0+j*1=j by omega]
   refine hBv2.cell ?_
   unfold intv
   rw [List.getElem?_map,hy]; rfl
  have hm:∀ s,toOf l p.1.type=some s→s.map.length≤p.1.vals.length∧∃ t,shpI c s.type=some t∧∀ m,m ∈ s.map→0≤m∧m.toNat<(rowP c t).length:=by
   intro s hsp
   unfold toOf at hsp
   have hto:s.to=p.1.type:=by simpa using List.find?_some hsp
   obtain ⟨j,hj⟩:=List.getElem?_of_mem (List.mem_of_find?_eq_some hsp)
   obtain ⟨t,a,S⟩:=spc_is hs hj
   obtain ⟨ix,hix,hrl⟩:=hrow p hpm
   rw [←hto,S.ai] at hix
   cases hix
   refine ⟨by rw [hrl S.ea,S.len]; exact Nat.le_refl _,t,S.ti,fun m hmm=>?_⟩
   obtain ⟨k,hk⟩:=List.getElem?_of_mem hmm
   have hkl:k<(rowP c a).length:=by rw [←S.len]; exact (List.getElem?_eq_some_iff.1 hk).1
   obtain ⟨n,hn1,hn2,hn3,_⟩:=S.map k hkl
   rw [hk] at hn1
   cases hn1
   omega
  refine (back77_ok (w:=w) (r:=r) (r1:=r1) (r2:=r2) t2 (Q.rd.kp Q.top kA2) (Q.cat.kp Q.top kA2) hC hvx hm hml).mono fun en W3 ⟨k3,t3,vv,hen,hor⟩=>?_
  subst hen
  refine onEnd_of ?_
  have k23:=k2.trans k3
  have kA3:=kA2.trans k3
  have hb12_3:=hb12_2.ext t2 k3
  have hB0_3:=hB0.ext t' k23
  rw [iad_sl u24 s56 hlt]
  simp only [wV_some]
  generalize hy:backP c l p.1=y at hor
  have hone2:(encT (y,vv)).all oneCell=true:=by
   rcases hor with ⟨rfl,_⟩ | ⟨bv2,rfl,_⟩
   ·unfold encT; rw [hv]; rfl
   ·rfl
  refine w_sto_agg s56 (a:=⟨b0,0+i*2,none⟩) (ws:=encT (y,vv)) hone2 rfl hB0_3 (by show 0+i*2+2≤_; rw [hcl,hll]; omega) fun W4 hu4 hB4=>?_
  have hu4:Upd b0 W3 W4:=hu4
  have hset:(qs++ps.drop i).set i (y,vv)=(qs++[(y,vv)])++ps.drop (i+1):=by
   rw [hdrop,List.set_append_right _ _ (by omega),hql,Nat.sub_self]
   simp
  have hB4:Blk W4 b0 56 (((qs++[(y,vv)])++ps.drop (i+1)).flatMap encT):=by
   rw [←hset,←flat_put (by rw [hll]; exact hlt)]
   exact hB4
  have hne12:b12≠b0:=by
   rintro rfl
   have:=blk_uniq hb12' hB0; cases this
  have hb0l:=hB0_3.lt t3
  have t4:=t3.upd hb0l hu4
  have l15:∀ W0,Kp W2 W0→ld prog 24 (.pointer (some ⟨b12,0,none⟩)) W0=some (.slice (some ⟨b0,0,none⟩) ps.length ps.length):=fun W0 k0=>ld_word a24 (a:=⟨b12,0,none⟩) ((hb12_2.ext t2 k0).cell rfl)
  refine ⟨by simp only [ld_agg (vs:=encT p) (a:=⟨W'.sz,0,none⟩) a56 s56 rfl (by omega) hB15.cells,l15 W2 (.refl _),l15 W3 k3,ld83 ((Q.rr.ext Q.top kA2)),ld78 (Q.k.ext Q.top kA2),and_self],trivial,?_⟩
  simp only [f19_k13,qKn,qKr,qKx,qKp,bKn,bKr,bKp,bKx,tKn,tKr,tKx,tKp,zKn,zKr,zKx,zKp]
  simp only [eKc,eKn,eKa,Nat.reduceEqDiff,↓reduceIte,gKz,gKs,dKs,and_self,h39,cbin_add,wV_some,qKn,qKr,qKx,qKp,bKn,bKr,bKp,bKx,tKn,tKr,tKx,tKp,zKn,zKr,zKx,zKp]
  have keep3:∀ {j:Nat} {ws:List Value},Blk W3 j 3 ws→Blk W4 j 3 ws:=fun {j ws} hB=>hB.congr (hu4.obj j (by
   rintro rfl
   have:=blk_uniq hB hB0_3; cases this))
  refine ⟨hlt,trivial,kA3.upd (by omega) hu4,t4,hb12_3.congr (hu4.obj _ hne12),?_,?_,?_,?_,?_,?_,qs++[(y,vv)],by simp [hql],⟨?_,hH'.new,fun q hq=>?_⟩,?_⟩
  ·simp only [eKc,eKn,eKa,Nat.reduceEqDiff,↓reduceIte,gKz,gKs,dKs,and_self,h9]
  ·simp only [eKc,eKn,eKa,Nat.reduceEqDiff,↓reduceIte,gKz,gKs,dKs,and_self,h11]
  ·simp only [eKc,eKn,eKa,Nat.reduceEqDiff,↓reduceIte,gKz,gKs,dKs,and_self,h12]
  ·simp only [eKc,eKn,eKa,Nat.reduceEqDiff,↓reduceIte,gKz,gKs,dKs,and_self,h37]
  ·simp only [eKc,eKn,eKa,Nat.reduceEqDiff,↓reduceIte,gKz,gKs,dKs,and_self,h38]
  ·rw [inc64 (by omega)]
  ·refine Own.some hB4 ?_
   rw [encT_len,←hset,List.length_set,hll]
  ·have old:∀ q,q ∈ qs++ps.drop i→∃ bv,q.2=.slice (some ⟨bv,0,none⟩) q.1.vals.length q.1.vals.length∧Blk W4 bv 3 (intv q.1.vals)∧B≤bv:=fun q hq=>by
    obtain ⟨bq,h1,h2,h3⟩:=hH'.pv q hq
    exact ⟨bq,h1,keep3 (h2.ext t' k23),h3⟩
   rw [List.append_assoc] at hq
   rcases List.mem_append.1 hq with hq | hq
   ·exact old q (List.mem_append_left _ hq)
   ·rcases List.mem_append.1 hq with hq | hq
    ·cases List.mem_singleton.1 hq
     rcases hor with ⟨h1,h2⟩ | ⟨bv2,h1,h2,h3⟩
     ·refine ⟨bv,?_,?_,hBB⟩
      ·show vv=_
       rw [h1,hv]
       show _=Value.slice _ y.vals.length y.vals.length
       rw [h2]
      ·show Blk W4 bv 3 (intv y.vals)
       rw [h2]
       exact keep3 (hBv.ext t' k23)
     ·have:=k2.sz
      have:=ownLt t' hH'.own (⟨_,_,_,rfl,rfl⟩:InBlk (.slice (some ⟨b0,0,none⟩) ps.length ps.length) b0)
      exact ⟨bv2,h1,keep3 h2,by omega⟩
    ·exact old q (List.mem_append_right _ (by rw [hdrop]; exact List.mem_cons_of_mem _ hq))
  ·rw [List.map_append,hqs,List.take_add_one,hp,List.map_append,←hy]
   rfl
end Go.Ce
namespace Go.Ce
open Go Go.Proofs Go.Proofs.Tryz
theorem z24':zer prog 24=some (.slice none 0 0):=by kernel_rfl
theorem HeapAt.low {B B':Nat} {W:CW} {v:Value} {ps:List (Thg × Value)} (h:HeapAt B W v ps) (hB:B'≤B):HeapAt B' W v ps:=⟨h.own,fun b l c e=>by have:=h.new b l c e; omega,fun p hp=>by
 obtain ⟨bv,h1,h2,h3⟩:=h.pv p hp
 exact ⟨bv,h1,h2,by omega⟩⟩
def readP (c:List Shp) (l:List Spc) (b:List UInt8):List Thg × Int × Int :=
 if catOk c=false then ([],0,210) else if specOk c l=false then ([],0,212) else if 100000<b.length then ([],0,2) else match thingsR b c (askR c l) 0 with
 | .error e=>([],0,e)
 | .ok (xs,_)=>(xs.map (backP c l),min (xs.length:Int) 1,0)
def ReadPost (r:List Thg × Int × Int) (W:CW):Ending→CW→Prop:=fun en W'=>Kp W W'∧Top W'∧∃ v qs,en=.returned (.tuple #[v,.int .i64 r.2.1,.int .i64 r.2.2])∧HeapAt W.sz W' v qs∧qs.map (·.1)=r.1∧∀ q,q ∈ qs→BdT q.1
structure BsIn (A:CW) (vb:Value) (b:List UInt8):Prop where
 sl:∃ a cap,vb=.slice a b.length cap∧b.length≤cap∧∀ i x,b[i]?=some x→∃ p,a=some p∧RByte A p.block (p.off+i*1) x
theorem BsIn.kp {A W:CW} {vb:Value} {b:List UInt8} (h:BsIn A vb b) (ht:Top A) (k:Kp A W):BsIn W vb b:=by
 obtain ⟨a,cap,h1,h2,h3⟩:=h.sl
 exact ⟨a,cap,h1,h2,fun i x hx=>by
  obtain ⟨p,q1,q2⟩:=h3 i x hx
  exact ⟨p,q1,k.cell ht q2⟩⟩
theorem do73_ok {A W:CW} {bk br r1 r2 w r b12 rb:Nat} {vb:Value} {b:List UInt8} {c:List Shp} {l:List Spc} (Q:AskIn A bk br r1 r2 w r c l) (I:RdIn A vb b) (h:Rd A W rb vb 0) (hb12:Blk W b12 24 [.slice none 0 0]) (hAb:A.sz≤b12) (hne:b12≠rb) (hok:catOk c=true) (hC:Cat c) {K:Value→CW→Prop} {KP:List PanicEntry→CW→Prop}
  (hk:∀ W' v xs at' ps,thingsR b c (askR c l) 0=.ok (xs,at')→Chg (fun j=>j=rb∨j=b12) W W'→Top W'→Blk W' b12 24 [v]→HeapAt W.sz W' v ps→ps.map (·.1)=xs→K (.tuple #[]) W')
  (hp:∀ W' x,thingsR b c (askR c l) 0=.error x→Chg (RdS rb) W W'→Top W'→KP (badCh x) W') :
  wCallV prog pkL (.func (.func 73) #[] #[.pointer (some ⟨bk,0,none⟩),.pointer (some ⟨br,0,none⟩),.pointer (some ⟨b12,0,none⟩)]) [.pointer (some ⟨rb,0,none⟩)] W K KP:=by
 refine w_callV Tryz.func73 (by kernel_rfl) ?_
 refine f73_w (v0:=.pointer (some ⟨rb,0,none⟩)) (v1:=.pointer (some ⟨bk,0,none⟩)) (v2:=.pointer (some ⟨br,0,none⟩)) (v3:=.pointer (some ⟨b12,0,none⟩)) ?_
 rw [f73_c]
 rw [ld78 (Q.k.ext Q.top h.kp)]
 simp only [wV_some]
 refine (things74_ok (c:=c) I h (Nat.zero_le _) (ask75_ok Q) (fun s hs=>(askR_some hs).1) Q.cat hok hC).mono fun en W1 ⟨k1,t1,hr⟩=>?_
 cases hth:thingsR b c (askR c l) 0 with
 | error x =>
  rw [hth] at hr
  simp only at hr
  subst hr
  exact hp W1 x hth k1 t1
 | ok r =>
  obtain ⟨xs,at'⟩:=r
  rw [hth] at hr
  obtain ⟨v,hen,⟨ps,h1,h2⟩,_⟩:=hr
  subst hen
  refine onEnd_of ?_
  have hB1:=k1.blk h.top (b:=b12) hne hb12
  refine w_sto_word s24 (a:=⟨b12,0,none⟩) (v:=v) (ownOne h2.own) hB1 (by simp) fun W2 hu hB2=>?_
  have hu:Upd b12 W1 W2:=hu
  have hl:=hb12.lt h.top
  refine leave0 (by kernel_rfl) _ _ (.inl rfl) _ _ (hk W2 v xs at' ps hth ⟨by rw [hu.sz]; exact k1.sz,fun j hj hS=>?_⟩ (t1.upd (hB1.lt t1) hu) hB2 (h2.of fun j o hj ho _=>by rw [hu.obj j (by omega)]; exact ho) h1)
  rw [hu.obj j (fun e=>hS (.inr e)),k1.obj j hj (fun e=>hS (.inl e))]
theorem read19_ok {v0 v1 vb:Value} {c:List Shp} {l:List Spc} {b:List UInt8} {W:CW} (ht:Top W) (hc:IsSl 5 (RShp W) v0 c) (hC:Cat c) (hl:IsSl 3 (RSpc W) v1 l) (hll:l.length<100000) (hml:∀ s,s ∈ l→s.map.length<100000) (hb:BsIn W vb b) :
  WCall prog pkL 19 [v0,v1,vb] W (ReadPost (readP c l b) W):=by
 refine f19_w ?_
 rw [f19_c]
 generalize hKK:wLeave prog Tryz.f19 (ReadPost (readP c l b) W)=KK
 have hfin:∀ (e':Env) W' v n m qs,Kp W W'→Top W'→e' 6=v→e' 7=.int .i64 n→e' 8=.int .i64 m→HeapAt W.sz W' v qs→(∀ q,q ∈ qs→BdT q.1)→readP c l b=(qs.map (·.1),n,m)→KK .ret e' [] W':=by
  intro e' W' v n m qs k t h6 h7 h8 hH hbd hn
  rw [←hKK,f19_leave,h6,h7,h8,hn]
  exact ⟨k,t,v,qs,rfl,hH,rfl,hbd⟩
 have hnil:∀ W',HeapAt W.sz W' (.slice none 0 0) []:=fun W'=>⟨Own.nil,Newer.nil _ _ _,fun p hp=>by cases hp⟩
 refine (known_ok ht hc hC).mono fun en W1 ⟨k1,t1,r1,r2,hen,hr1,hr2,hcat⟩=>?_
 subst hen
 refine onEnd_of ?_
 refine wV_of (ext2_0 _ _) ?_
 refine wV_of (ext2_1 _ _) ?_
 unfold catV
 refine w_var (ws:=[.map (some r1),.map (some r2)]) z78 s78 rfl rfl rfl t1 fun W3 k3 t3 z3 hB9=>?_
 have k03:=k1.trans k3
 simp only [ngt_bool,wV_some]
 cases hok:catOk c with
 | false =>
  simp only [Bool.not_false,wI_true]
  exact hfin _ W3 _ 0 210 [] k03 t3 rfl rfl rfl (hnil _) (fun q hq=>by cases hq) (by unfold readP; rw [if_pos hok]; rfl)
 | true =>
  simp only [Bool.not_true,wI_false]
  have hcat3:=(hcat hok).kp t1 k3
  rw [ld78 hB9]
  simp only [wV_some]
  refine (rules_ok t3 hcat3 hC (hl.imp fun _ _ _ hr=>hr.kp ht k03) hll hml).mono fun en W4 ⟨k4,t4,w,r,hen,hsp⟩=>?_
  subst hen
  refine onEnd_of ?_
  refine wV_of (ext2_0 _ _) ?_
  refine wV_of (ext2_1 _ _) ?_
  refine w_var (ws:=[.map (some w),.map (some r)]) z83 s83 rfl rfl rfl t4 fun A k7 tA z7 hB11=>?_
  have k3A:=k4.trans k7
  have k0A:=k03.trans k3A
  simp only [ngt_bool,wV_some]
  cases hs:specOk c l with
  | false =>
   simp only [Bool.not_false,wI_true]
   exact hfin _ A _ 0 212 [] k0A tA rfl rfl rfl (hnil _) (fun q hq=>by cases hq) (by unfold readP; rw [if_neg (by rw [hok]; simp),if_pos hs]; rfl)
  | true =>
   simp only [Bool.not_true,wI_false]
   obtain ⟨hsw,hsr⟩:=hsp hs
   have Q:AskIn A W1.sz W4.sz r1 r2 w r c l:=⟨tA,hB9.ext t3 k3A,hB11,hcat3.kp t3 k3A,hsw.kp t4 k7,hsr.kp t4 k7⟩
   have hbA:=hb.kp ht k0A
   refine w_alc z24' s24 tA fun T k8 tT zT hB12=>?_
   have hB12:Blk T A.sz 24 [.slice none 0 0]:=hB12
   obtain ⟨a,cap,hvb,hcap,hbt⟩:=hbA.sl
   rw [hvb]
   have hrd:readP c l b=(if 100000<b.length then ([],0,2) else match thingsR b c (askR c l) 0 with
    | .error e=>([],0,e)
    | .ok (xs,_)=>(xs.map (backP c l),min (xs.length:Int) 1,0)):=by
    unfold readP; rw [if_neg (by rw [hok]; simp),if_neg (by rw [hs]; simp)]
   have hxs:∀ x,thingsR b c (askR c l) 0=.error x→x≠0:=fun x=>thingsR_err askR_err
   have hTn:Kp A T:=k8
   refine (tried72_ok (Q:=fun en W'=>Kp A W'∧Top W'∧∃ x,en=.returned (.int .i64 x)∧((x≠0∧readP c l b=([],0,x))∨(x=0∧∃ v xs at' ps,readP c l b=(xs.map (backP c l),min (xs.length:Int) 1,0)∧thingsR b c (askR c l) 0=.ok (xs,at')∧Blk W' A.sz 24 [v]∧HeapAt A.sz W' v ps∧ps.map (·.1)=xs))) tT (fun hbig W' k t=>⟨k8.trans k,t,2,rfl,.inl ⟨by decide,by rw [hrd,if_pos hbig]⟩⟩) (fun hlim W0 k t hz hBe hBr=>?_)).mono fun en W' ⟨kk,tt,x,hen,hor⟩=>?_
   ·have hkA:=k8.trans k
    have hrd':readP c l b=(match thingsR b c (askR c l) 0 with
     | .error e=>([],0,e)
     | .ok (xs,_)=>(xs.map (backP c l),min (xs.length:Int) 1,0)):=by rw [hrd,if_neg (by omega)]
    have I:RdIn A (.slice a b.length cap) b:=⟨tA,⟨a,cap,rfl,hcap,hbt⟩,hlim⟩
    have R:Rd A W0 (T.sz+1) (.slice a b.length cap) 0:=⟨hkA,t,by omega,hBr⟩
    refine do73_ok Q I R (hB12.ext tT k) (Nat.le_refl _) (by omega) hok hC (fun W3 v xs at' ps hth hch t3 hB3 hH3 hps=>?_) (fun W4 x hth hch t4=>?_)
    ·refine ⟨t3,hch.blk t (fun h=>by omega) hBe,fun W' hu t'=>⟨⟨?_,fun j hj=>?_⟩,t',0,rfl,.inr ⟨rfl,v,xs,at',ps,?_,hth,?_,?_,hps⟩⟩⟩
     ·have h1:=hkA.sz; have h2:=hch.sz; have h3:=hu.sz; omega
     ·have h1:=hkA.sz; have h2:=hch.sz
      rw [hu.obj j (by omega) (by omega),hch.obj j (by omega) (fun h=>by omega),hkA.obj j hj]
     ·rw [hrd',hth]
     ·exact hB3.congr (hu.obj _ (hB3.lt t3) (by omega))
     ·exact (hH3.of fun j o hj ho _=>by rw [hu.obj j (t3 _ _ ho) (by omega)]; exact ho).low hkA.sz
    ·refine ⟨x,rfl,t4,hch.blk t (fun h=>by have:T.sz=T.sz+1:=h; omega) hBe,fun W' hu t'=>⟨⟨?_,fun j hj=>?_⟩,t',x,rfl,.inl ⟨hxs x hth,by rw [hrd',hth]⟩⟩⟩
     ·have h1:=hkA.sz; have h2:=hch.sz; have h3:=hu.sz; omega
     ·have h1:=hkA.sz; have h2:=hch.sz
      rw [hu.obj j (by omega) (by omega),hch.obj j (by omega) (fun h=>by have:j=T.sz+1:=h; omega),hkA.obj j hj]
   ·subst hen
    refine onEnd_of ?_
    simp only [cbin_neq,wV_some]
    rcases hor with ⟨hx,hr⟩ | ⟨rfl,v,xs,at',ps,hr,hth,hB,hH,hps⟩
    ·rw [show (x != 0)=true by simpa using hx,wI_true]
     exact hfin _ W' _ 0 x [] (k0A.trans kk) tt rfl rfl rfl (hnil _) (fun q hq=>by cases hq) hr
    ·rw [show ((0:Int) != 0)=false from rfl,wI_false]
     rw [ld_word a24 (a:=⟨A.sz,0,none⟩) (hB.cell rfl)]
     simp only [wV_some]
     obtain ⟨hrow,h1000⟩:=thingsR_row hth
     have hbd:=thingsR_bd hth
     subst hps
     rw [List.length_map] at h1000
     have hlen:clen prog 24 v W'=some (.int .i64 ps.length):=by
      have:=encT_len ps
      exact ownLen u24 hH.own (by omega) (by omega)
     rw [hlen]
     simp only [wV_some]
     refine f19_loop (c:=c) (l:=l) (ps:=ps) Q hC hs hml (fun p hp=>hrow _ (List.mem_map_of_mem hp)) (fun p hp=>hbd _ (List.mem_map_of_mem hp)) h1000 kk tt (Nat.le_refl _) (Nat.le_refl _) hB hH rfl rfl rfl rfl rfl rfl (fun e' W2 qs kA2 t2 hB2 hH2 hqs h12=>?_)
     simp only [f19_k12,qKn,qKr,qKx,qKp,bKn,bKr,bKp,bKx,tKn,tKr,tKx,tKp,zKn,zKr,zKx,zKp]
     rw [h12]
     have hl2:ld prog 24 (.pointer (some ⟨A.sz,0,none⟩)) W2=some v:=ld_word a24 (a:=⟨A.sz,0,none⟩) (hB2.cell rfl)
     rw [hl2]
     have hql:qs.length=ps.length:=by
      have:=congrArg List.length hqs
      simpa using this
     have hlen2:clen prog 24 v W2=some (.int .i64 qs.length):=by
      have:=encT_len qs
      exact ownLen u24 hH2.own (by omega) (by omega)
     simp only [wV_some]
     rw [hlen2]
     simp only [wV_some]
     rw [w_min]
     simp only [wVW_some]
     refine ⟨by simp only [hl2,and_self],trivial,?_⟩
     refine hfin _ W2 v (min (qs.length:Int) 1) 0 qs (k0A.trans kA2) t2 rfl rfl rfl (hH2.low (by have:=k0A.sz; omega)) (fun q hq=>?_) (by rw [hr,List.map_map,hqs,List.length_map,hql]; rfl)
     have:q.1 ∈ ps.map (fun p=>backP c l p.1):=by rw [←hqs]; exact List.mem_map_of_mem hq
     obtain ⟨p,hp,he⟩:=List.mem_map.1 this
     rw [←he]
     exact backP_bd (hbd _ (List.mem_map_of_mem hp))
end Go.Ce
namespace Go.Ce
open Go Go.Proofs Go.Proofs.Tryz
def bI (b:List UInt8):List Int:=b.map fun x=>((x.toNat:Nat):Int)
theorem bI_len (b:List UInt8):(bI b).length=b.length:=List.length_map _
structure Seg (b:List UInt8) (i j:Nat) (e:List Int):Prop where
 le:j≤b.length
 ij:j=i+e.length
 eq:(bI b).drop i=e++(bI b).drop j
theorem Seg.nil {b:List UInt8} {i:Nat} (h:i≤b.length):Seg b i i []:=⟨h,rfl,rfl⟩
theorem Seg.app {b:List UInt8} {i j k:Nat} {e f:List Int} (h:Seg b i j e) (g:Seg b j k f):Seg b i k (e++f):=⟨g.le,by rw [g.ij,h.ij,List.length_append]; omega,by rw [h.eq,g.eq,List.append_assoc]⟩
theorem Seg.one {b:List UInt8} {i:Nat} {x:UInt8} (h:b[i]?=some x):Seg b i (i+1) [((x.toNat:Nat):Int)]:=by
 obtain ⟨hl,he⟩:=List.getElem?_eq_some_iff.1 h
 refine ⟨hl,rfl,?_⟩
 unfold bI
 rw [←List.map_drop,←List.map_drop,List.drop_eq_getElem_cons hl,he]
 rfl
theorem numP_lt {n:Nat} (h:n<128):numP n=[(n:Int)]:=by unfold numP; rw [if_pos h]
theorem numP_ge {n:Nat} (h:128≤n):numP n=((n % 128+128:Nat):Int)::numP (n / 128):=by
 conv=>lhs; unfold numP
 rw [if_neg (by omega)]
theorem numG_seg {b:List UInt8}:∀ {f at_ n sh:Nat} {r:Nat × Nat},numG b f at_ n sh=.ok r→∃ v,r.1=n+v*2 ^ sh∧v<128 ^ f∧(0<sh→0<v)∧Seg b at_ r.2 (numP v)
 | 0,_,_,_,_,h=>by cases h
 | f+1,at_,n,sh,r,h=>by
  unfold numG at h
  split at h
  ·cases h
  ·rename_i x hx
   have hp:(1:Nat)≤128 ^ f:=Nat.one_le_pow _ _ (by omega)
   have hxl:=x.toNat_lt
   split at h
   ·rename_i hlt
    split at h
    ·rename_i h0
     cases h
     exact ⟨x.toNat,rfl,by rw [Nat.pow_succ]; omega,fun hs=>by omega,by rw [numP_lt hlt]; exact Seg.one hx⟩
    ·cases h
   ·rename_i hge
    obtain ⟨v,h1,h2,h3,h4⟩:=numG_seg h
    have hv:=h3 (by omega)
    refine ⟨x.toNat % 128+128*v,?_,?_,fun _=>by omega,?_⟩
    ·rw [h1,Nat.pow_add,Nat.add_mul]
     have:v*(2 ^ sh*2 ^ 7)=128*v*2 ^ sh:=by
      rw [show (2:Nat) ^ 7=128 from rfl,Nat.mul_comm (2 ^ sh) 128,←Nat.mul_assoc,Nat.mul_comm v 128]
     omega
    ·rw [Nat.pow_succ]; omega
    ·rw [numP_ge (by omega),show (x.toNat % 128+128*v) % 128+128=x.toNat by omega,show (x.toNat % 128+128*v) / 128=v by omega]
     exact (Seg.one hx).app h4
theorem numR_seg {b:List UInt8} {at_:Nat} {m:Int} {n j:Nat} (h:numR b at_ m=.ok (n,j)):Seg b at_ j (numP n)∧(n:Int)≤m:=by
 unfold numR at h
 split at h
 ·cases h
 ·rename_i n' j' hg
  split at h
  ·rename_i hle
   cases h
   obtain ⟨v,h1,_,_,h4⟩:=numG_seg hg
   have:n=v:=by simpa using h1
   subst this
   exact ⟨h4,hle⟩
  ·cases h
inductive ValsC (c:List Shp) (ix many:Nat):Nat→Nat→List Int→Nat→Prop
 | nil (k fd:Nat):ValsC c ix many k fd [] fd
 | ref {k fd v:Nat} {vs:List Int} {fd':Nat} (hk:kindP c ix k=2) (hv:v≤min (fd+1) many) (h:ValsC c ix many (k+1) (max fd v) vs fd'):ValsC c ix many k fd ((v:Int)::vs) fd'
 | word {k fd:Nat} {v:Int} {vs:List Int} {fd':Nat} (hk:kindP c ix k≠2) (h1:-1000000000≤v) (h2:v≤1000000000) (h:ValsC c ix many (k+1) fd vs fd'):ValsC c ix many k fd (v::vs) fd'
def encV (c:List Shp) (ix:Nat):Nat→List Int→List Int
 | _,[]=>[]
 | k,v::vs=>(if kindP c ix k=2 then numP v.toNat else numP (wordP v).toNat)++encV c ix (k+1) vs
theorem word_unw (n:Nat):(wordP (unwP n)).toNat=n:=by
 unfold wordP unwP
 split <;> split <;> omega
theorem unw_bd {n:Nat} (h:n≤2000000000):-1000000000≤unwP n∧unwP n≤1000000000:=by
 unfold unwP
 split <;> omega
theorem valsL_seg {b:List UInt8} {c:List Shp} {ix many:Nat}:∀ {m k at_ fd:Nat} {vs:List Int} {r:List Int × Nat × Nat},at_≤b.length→valsL b c ix many m k at_ fd vs=.ok r→∃ new,r.1=vs++new∧new.length=m∧ValsC c ix many k fd new r.2.1∧Seg b at_ r.2.2 (encV c ix k new)
 | 0,k,at_,fd,vs,r,ha,h=>by cases h; exact ⟨[],by simp,rfl,.nil _ _,Seg.nil ha⟩
 | m+1,k,at_,fd,vs,r,ha,h=>by
  unfold valsL at h
  split at h
  ·rename_i hk
   split at h
   ·cases h
   ·rename_i n a hn
    obtain ⟨h1,h2⟩:=numR_seg hn
    obtain ⟨new,g1,g2,g3,g4⟩:=valsL_seg h1.le h
    refine ⟨(n:Int)::new,by rw [g1]; simp,by simp [g2],.ref hk (by omega) g3,?_⟩
    rw [encV,if_pos hk,Int.toNat_natCast]
    exact h1.app g4
  ·rename_i hk
   split at h
   ·cases h
   ·rename_i n a hn
    obtain ⟨h1,h2⟩:=numR_seg hn
    obtain ⟨new,g1,g2,g3,g4⟩:=valsL_seg h1.le h
    have hbd:=unw_bd (n:=n) (by omega)
    refine ⟨unwP n::new,by rw [g1]; simp,by simp [g2],.word hk hbd.1 hbd.2 g3,?_⟩
    rw [encV,if_neg hk,word_unw]
    exact h1.app g4
end Go.Ce
namespace Go.Ce
open Go Go.Proofs Go.Proofs.Tryz
theorem idx_nodup {ts:List ByteArray} (hn:ts.Nodup) {t:Nat} {s:ByteArray} (h:ts[t]?=some s):idxI ts (fun x=>decide (x=s))=t:=by
 obtain ⟨hl,he⟩:=List.getElem?_eq_some_iff.1 h
 refine idxI_some hl (by rw [he]; simp) fun j x hj hx=>?_
 obtain ⟨hjl,hje⟩:=List.getElem?_eq_some_iff.1 hx
 have:x≠s:=by
  rintro rfl
  have:=(List.getElem_inj hn).1 (hje.trans he.symm)
  omega
 simpa using this
inductive ThingsC (c:List Shp) (ts:List ByteArray) (many:Nat):Nat→Nat→Nat→List Thg→Nat→Nat→Prop
 | nil (i u f:Nat):ThingsC c ts many i u f [] u f
 | cons {i u f:Nat} {x:Thg} {xs:List Thg} {t ix f1 u' f':Nat} (hi:i<f) (ht:ts[t]?=some x.type) (htu:t≤u) (hx:shpI c x.type=some ix) (hn:if elemAt c ix≠0 then x.vals.length≤200 else x.vals.length=(rowP c ix).length) (hv:ValsC c ix many 0 f x.vals f1) (h:ThingsC c ts many (i+1) (if t=u then u+1 else u) f1 xs u' f'):ThingsC c ts many i u f (x::xs) u' f'
def encTh (c:List Shp) (ts:List ByteArray) (x:Thg):List Int:=match shpI c x.type with
 | some i=>numP (idxI ts fun y=>decide (y=x.type)).toNat++(if elemAt c i≠0 then numP x.vals.length else [])++encV c i 0 x.vals
 | none=>[]
theorem thingL_seg {b:List UInt8} {c:List Shp} {ts:List ByteArray} {many:Nat} (hnd:ts.Nodup):∀ {m i at_ u f:Nat} {out:List Thg} {r:List Thg × Nat × Nat × Nat},at_≤b.length→thingL b c ts many m i at_ u f out=.ok r→∃ new,r.1=out++new∧new.length=m∧ThingsC c ts many i u f new r.2.1 r.2.2.1∧Seg b at_ r.2.2.2 (new.flatMap (encTh c ts))
 | 0,i,at_,u,f,out,r,ha,h=>by cases h; exact ⟨[],by simp,rfl,.nil _ _ _,Seg.nil ha⟩
 | m+1,i,at_,u,f,out,r,ha,h=>by
  unfold thingL at h
  split at h
  ·rename_i hi
   split at h
   ·cases h
   ·rename_i t a1 hn
    obtain ⟨s1,ht⟩:=numR_seg hn
    split at h
    ·cases h
    ·rename_i ty hty
     split at h
     ·cases h
     ·rename_i ix hix
      split at h
      ·cases h
      ·rename_i n a2 hnn
       have h2:Seg b a1 a2 (if elemAt c ix≠0 then numP n else [])∧(if elemAt c ix≠0 then n≤200 else n=(rowP c ix).length):=by
        split at hnn
        ·rename_i he
         obtain ⟨q1,q2⟩:=numR_seg hnn
         rw [if_pos he,if_pos he]
         exact ⟨q1,by omega⟩
        ·rename_i he
         cases hnn
         rw [if_neg he,if_neg he]
         exact ⟨Seg.nil s1.le,rfl⟩
       split at h
       ·cases h
       ·rename_i vs f1 a3 hv
        obtain ⟨new,g1,g2,g3,g4⟩:=valsL_seg h2.1.le hv
        rw [List.nil_append] at g1
        have g1:vs=new:=g1
        subst g1
        obtain ⟨nx,k1,k2,k3,k4⟩:=thingL_seg hnd g4.le h
        refine ⟨⟨ty,vs⟩::nx,by rw [k1]; simp,by simp [k2],.cons (t:=t) (ix:=ix) hi hty (by omega) hix ?_ g3 k3,?_⟩
        ·have:=h2.2
         show if elemAt c ix≠0 then vs.length≤200 else vs.length=(rowP c ix).length
         rw [g2]; exact this
        ·rw [List.flatMap_cons]
         refine Seg.app ?_ k4
         unfold encTh
         show Seg b at_ a3 (match shpI c ty with | some i=>_ | none=>[])
         rw [hix]
         refine Seg.app (Seg.app (j:=a1) ?_ ?_) g4
         ·show Seg b at_ a1 (numP (idxI ts fun y=>decide (y=ty)).toNat)
          rw [idx_nodup hnd hty]
          exact s1
         ·show Seg b a1 a2 (if elemAt c ix≠0 then numP vs.length else [])
          rw [g2]; exact h2.1
  ·cases h
theorem sb_strOf (l:List UInt8):bytesI (strOf l)=bI l:=by
 unfold bytesI bI strOf sb
 simp
theorem size_strOf (l:List UInt8):(strOf l).size=l.length:=by
 unfold strOf
 show l.toArray.size=_
 simp
theorem Seg.take {b:List UInt8} {a n:Nat} (h:a+n≤b.length):Seg b a (a+n) (bI ((b.drop a).take n)):=by
 have hl:(bI ((b.drop a).take n)).length=n:=by rw [bI_len,List.length_take,List.length_drop]; omega
 refine ⟨h,by rw [hl],?_⟩
 unfold bI
 rw [←List.map_drop,←List.map_drop,←List.map_append,←List.drop_drop,List.take_append_drop]
theorem headL_seg {b:List UInt8} {ask:ByteArray→Option Int}:∀ {k at_:Nat} {out:List ByteArray} {r:List ByteArray × Nat},at_≤b.length→headL b ask k at_ out=.ok r→∃ new,r.1=out++new∧new.length=k∧(∀ s,s ∈ new→isSym s=true∧ask s=none)∧(out.Nodup→(out++new).Nodup)∧Seg b at_ r.2 (new.flatMap textP)
 | 0,at_,out,r,ha,h=>by cases h; exact ⟨[],by simp,rfl,(by simp),(by simp),Seg.nil ha⟩
 | k+1,at_,out,r,ha,h=>by
  unfold headL at h
  split at h
  ·cases h
  ·rename_i n a1 hn
   obtain ⟨s1,hn60⟩:=numR_seg hn
   split at h
   ·cases h
   ·rename_i a2 ht
    obtain ⟨rfl,hle⟩:=takeP_ok ht
    split at h
    ·rename_i hs
     split at h
     ·cases h
     ·rename_i hask
      obtain ⟨new,g1,g2,g3,g4,g5⟩:=headL_seg hle h
      generalize hS:strOf ((b.drop a1).take n)=S at *
      refine ⟨S::new,by rw [g1]; simp,by simp [g2],?_,fun hnd=>?_,?_⟩
      ·intro s hs'
       rcases List.mem_cons.1 hs' with rfl | hs'
       ·exact ⟨hs.1,hask⟩
       ·exact g3 s hs'
      ·have:(out++[S]).Nodup:=by
        rw [List.nodup_append]
        refine ⟨hnd,List.pairwise_singleton _ _,fun x hx y hy=>?_⟩
        rw [List.mem_singleton.1 hy]
        rintro rfl
        have:=List.any_eq_false.1 hs.2 x hx
        simp at this
       have:=g4 this
       simpa using this
      ·rw [List.flatMap_cons]
       refine Seg.app ?_ g5
       unfold textP
       refine Seg.app (j:=a1) ?_ ?_
       ·have:S.size=n:=by rw [←hS,size_strOf,List.length_take,List.length_drop]; omega
        rw [this]; exact s1
       ·rw [←hS,sb_strOf]
        exact Seg.take hle
    ·cases h
structure Canon (c:List Shp) (ask:ByteArray→Option Int) (ts:List ByteArray) (xs:List Thg):Prop where
 tsl:ts.length≤100
 sym:∀ s,s ∈ ts→isSym s=true∧ask s=none
 nodup:ts.Nodup
 len:xs.length≤1000
 scan:ThingsC c ts xs.length 0 0 (min xs.length 1) xs ts.length xs.length
def encAll (c:List Shp) (ts:List ByteArray) (xs:List Thg):List Int:=[1]++numP ts.length++ts.flatMap textP++numP xs.length++xs.flatMap (encTh c ts)
theorem Seg.all {b:List UInt8} {e:List Int}:Seg b 0 b.length e↔bI b=e:=by
 constructor
 ·intro h
  have:=h.eq
  rw [List.drop_zero,List.drop_of_length_le (by rw [bI_len]; omega),List.append_nil] at this
  exact this
 ·rintro rfl
  refine ⟨by omega,by rw [bI_len]; omega,?_⟩
  rw [List.drop_zero,List.drop_of_length_le (by rw [bI_len]; omega),List.append_nil]
theorem thingsR_canon {b:List UInt8} {c:List Shp} {ask:ByteArray→Option Int} {r:List Thg × Nat} (h:thingsR b c ask 0=.ok r):∃ ts,Canon c ask ts r.1∧bI b=encAll c ts r.1:=by
 unfold thingsR at h
 split at h
 ·cases h
 ·rename_i ts a1 hh
  split at h
  ·cases h
  ·rename_i many a2 hn
   split at h
   ·cases h
   ·rename_i out u f a3 hg
    split at h
    ·rename_i hc
     cases h
     unfold headR at hh
     split at hh
     ·cases hh
     ·rename_i v b1 hv
      split at hh
      ·rename_i hv1
       subst hv1
       split at hh
       ·cases hh
       ·rename_i k b2 hk
        obtain ⟨s1,_⟩:=numR_seg hv
        obtain ⟨s2,hk100⟩:=numR_seg hk
        obtain ⟨new,g1,g2,g3,g4,g5⟩:=headL_seg s2.le hh
        rw [List.nil_append] at g1
        have g1:ts=new:=g1
        subst g1
        obtain ⟨s3,hm⟩:=numR_seg hn
        have hnd:=g4 List.nodup_nil
        rw [List.nil_append] at hnd
        obtain ⟨nx,k1,k2,k3,k4⟩:=thingL_seg hnd s3.le hg
        rw [List.nil_append] at k1
        have k1:out=nx:=k1
        subst k1
        obtain ⟨c1,c2,c3⟩:=hc
        have k3:ThingsC c ts many 0 0 (min many 1) out u f:=k3
        have k4:Seg b a2 a3 (out.flatMap (encTh c ts)):=k4
        have g5:Seg b b2 a1 (ts.flatMap textP):=g5
        subst c1 c2
        rw [←k2] at k3 s3
        refine ⟨ts,⟨by omega,g3,hnd,by show out.length≤1000; omega,k3⟩,?_⟩
        rw [←Seg.all,←c3]
        unfold encAll
        rw [←numP_1,g2]
        exact (((s1.app s2).app g5).app s3).app k4
      ·cases hh
    ·cases h
end Go.Ce
namespace Go.Ce
open Go Go.Proofs Go.Proofs.Tryz
theorem spc_parts {c:List Shp} {l:List Spc} (h:specOk c l=true) {i:Nat} {s:Spc} (hs:l[i]?=some s):prevBad l s i=false∧∀ k,k<l.length→nameBad l s i k=false:=by
 unfold specOk at h
 simp only [Bool.and_eq_true,Bool.not_eq_true'] at h
 have hb:=anyTo_all h.2 (List.getElem?_eq_some_iff.1 hs).1
 unfold spcBad at hb
 rw [hs] at hb
 simp only at hb
 split at hb
 ·simp only [Bool.or_eq_false_iff] at hb
  exact ⟨hb.1.2,fun k hk=>anyTo_all hb.2.1 hk⟩
 ·cases hb
theorem type_lt' {c:List Shp} {l:List Spc} (h:specOk c l=true):∀ (k j:Nat) (x y:Spc),j<k→l[j]?=some x→l[k]?=some y→bLt (sb x.type) (sb y.type)=true:=by
 intro k
 induction k with
 | zero=>intro j x y hj; omega
 | succ k ih =>
  intro j x y hj hx hy
  have hp:=(spc_parts h hy).1
  unfold prevBad at hp
  have hkl:k<l.length:=by have:=(List.getElem?_eq_some_iff.1 hy).1; omega
  have hz:=List.getElem?_eq_getElem hkl
  simp only [hz,Bool.not_eq_false'] at hp
  rcases Nat.lt_succ_iff_lt_or_eq.1 hj with h1 | rfl
  ·exact bLt_trans _ _ _ (ih j x _ h1 hx hz) hp
  ·rw [hx] at hz; cases hz; exact hp
theorem spcOf_mem {c:List Shp} {l:List Spc} (h:specOk c l=true) {s:Spc} (hs:s ∈ l):spcOf l s.type=some s:=by
 obtain ⟨i,hi,he⟩:=List.mem_iff_getElem.1 hs
 have hi':=List.getElem?_eq_getElem hi
 rw [he] at hi'
 have:=find_pre (l:=l) (s:=s.type) hi (by rw [he]; simp) (fun j hj=>by
  have hjl:j<l.length:=by omega
  have hj':=List.getElem?_eq_getElem hjl
  rw [hj']
  have hlt:=type_lt' h i j _ _ hj hj' hi'
  simp only [Option.map_some,Option.some.injEq,decide_eq_false_iff_not]
  intro e
  rw [e,bLt_irr] at hlt; cases hlt)
 rw [this,he]
theorem to_ne {c:List Shp} {l:List Spc} (h:specOk c l=true) {s x:Spc} (hs:s ∈ l) (hx:x ∈ l):x.type≠s.to:=by
 obtain ⟨i,hi,he⟩:=List.mem_iff_getElem.1 hs
 obtain ⟨k,hk,hke⟩:=List.mem_iff_getElem.1 hx
 have hi':=List.getElem?_eq_getElem hi
 rw [he] at hi'
 have:=(spc_parts h hi').2 k hk
 unfold nameBad at this
 rw [List.getElem?_eq_getElem hk,hke] at this
 simp only [Bool.or_eq_false_iff,decide_eq_false_iff_not] at this
 exact this.1
theorem toOf_some {l:List Spc} {s:ByteArray} {x:Spc} (h:toOf l s=some x):x ∈ l∧x.to=s:=⟨List.mem_of_find?_eq_some h,by simpa using List.find?_some h⟩
theorem mapDup_ne {mp:List Int} {k:Nat} {n:Int} (h:mapDup mp k n=false) {j:Nat} (hj:j<k):mp[j]?≠some n:=by
 have:=anyTo_all h hj
 simpa using this
theorem backV_at {mp vs z:List Int} (hin:∀ (k:Nat) m,mp[k]?=some m→0≤m∧m.toNat<z.length) (hd:∀ (k j:Nat) m,j<k→mp[k]?=some m→mp[j]?≠some m):∀ n,n≤mp.length→∀ (j:Nat) m,j<n→mp[j]?=some m→(backV mp vs z n)[m.toNat]?=some ((vs[j]?).getD 0)
 | 0,_,j,m,hj,_=>by omega
 | n+1,hn,j,m,hj,hm=>by
  have hnl:n<mp.length:=by omega
  have hx:=List.getElem?_eq_getElem hnl
  have hb:=hin n _ hx
  have hb2:=hin j _ hm
  rw [backV,hx,Option.getD_some,List.getElem?_set]
  by_cases e:n=j
  ·subst e
   rw [hx] at hm
   cases hm
   rw [if_pos rfl,if_pos (by rw [backV_len]; exact hb.2)]
  ·have hjn:j<n:=by omega
   have hne:mp[n]≠m:=fun e'=>hd n j m hjn (by rw [hx,e']) hm
   rw [if_neg (by omega)]
   exact backV_at hin hd n (by omega) j m hjn hm
theorem backV_off {mp vs z:List Int} (hin:∀ (k:Nat) m,mp[k]?=some m→0≤m) {i:Nat} (hi:∀ m,m ∈ mp→m.toNat≠i):∀ n,n≤mp.length→(backV mp vs z n)[i]?=z[i]?
 | 0,_=>rfl
 | n+1,hn=>by
  have hnl:n<mp.length:=by omega
  have hx:=List.getElem?_eq_getElem hnl
  rw [backV,hx,Option.getD_some,List.getElem?_set,if_neg (hi _ (List.mem_of_getElem? hx))]
  exact backV_off hin hi n (by omega)
structure WIs (c:List Shp) (l:List Spc) (x:Thg) (many ix:Nat):Prop where
 ti:shpI c x.type=some ix
 ask:spcOf l x.type=none
 n:if elemAt c ix≠0 then x.vals.length≤200 else x.vals.length=(rowP c ix).length
 val:∀ (k:Nat) v,x.vals[k]?=some v→valueOk (kindP c ix k) v many=true
theorem spc_map {c:List Shp} {s:Spc} {t a:Nat} (S:SpcIs c s t a):(∀ (k:Nat) m,s.map[k]?=some m→0≤m∧m.toNat<(rowP c t).length)∧∀ (k j:Nat) m,j<k→s.map[k]?=some m→s.map[j]?≠some m:=by
 constructor
 ·intro k m hk
  obtain ⟨n,h1,h2,h3,_⟩:=S.map k (by rw [←S.len]; exact (List.getElem?_eq_some_iff.1 hk).1)
  rw [hk] at h1; cases h1
  omega
 ·intro k j m hj hk
  obtain ⟨n,h1,_,_,_,h5⟩:=S.map k (by rw [←S.len]; exact (List.getElem?_eq_some_iff.1 hk).1)
  rw [hk] at h1; cases h1
  exact mapDup_ne h5 hj
theorem WIs.back {c:List Shp} {l:List Spc} {x:Thg} {many ix:Nat} (h:WIs c l x many ix) (hs:specOk c l=true):writtenP l (backP c l x)=x∧thingOk c (backP c l x) many=true∧toOf l (backP c l x).type=none:=by
 have hil:=shpI_lt h.ti
 cases hto:toOf l x.type with
 | none =>
  have hb:backP c l x=x:=by unfold backP; rw [hto]
  rw [hb]
  refine ⟨by unfold writtenP; rw [h.ask],?_,hto⟩
  refine thing_of (i:=ix) (s:=c[ix]) ⟨h.ti,List.getElem?_eq_getElem hil,?_,h.val⟩
  have hn:=h.n
  unfold elemAt at hn
  rw [List.getElem?_eq_getElem hil] at hn
  unfold manyOk
  simp only at hn
  split
  ·rename_i he; rw [if_pos he] at hn; simpa using hn
  ·rename_i he; rw [if_neg he] at hn; simpa using hn
 | some s =>
  obtain ⟨hsm,hst⟩:=toOf_some hto
  obtain ⟨j,hj⟩:=List.getElem?_of_mem hsm
  obtain ⟨t,a,S⟩:=spc_is hs hj
  have hai:a=ix:=by have h1:=S.ai; rw [hst,h.ti] at h1; exact (Option.some.inj h1).symm
  subst hai
  obtain ⟨hin,hd⟩:=spc_map S
  have hn:=h.n
  rw [if_neg (by rw [S.ea]; simp)] at hn
  have htl:=shpI_lt S.ti
  have hb:backP c l x=⟨s.type,backV s.map x.vals (List.replicate (rowP c t).length 0) s.map.length⟩:=by
   unfold backP; rw [hto]; simp only; rw [S.ti]
  rw [hb]
  have hin':∀ (k:Nat) m,s.map[k]?=some m→0≤m∧m.toNat<(List.replicate (rowP c t).length (0:Int)).length:=fun k m hk=>by rw [List.length_replicate]; exact hin k m hk
  have hlen:s.map.length=x.vals.length:=by rw [S.len,hn]
  refine ⟨?_,?_,?_⟩
  ·unfold writtenP
   show (match spcOf l s.type with | some s=>_ | none=>_)=x
   rw [spcOf_mem hs hsm]
   cases x with
   | mk ty vs =>
    simp only at hst hlen ⊢
    rw [hst]
    congr 1
    apply List.ext_getElem?
    intro k
    rw [List.getElem?_map]
    cases hk:s.map[k]? with
    | none =>
     have:=List.getElem?_eq_none_iff.1 hk
     rw [List.getElem?_eq_none (by omega)]; rfl
    | some m =>
     have hkl:=(List.getElem?_eq_some_iff.1 hk).1
     show some (valAt _ m)=_
     unfold valAt
     rw [backV_at hin' hd s.map.length (Nat.le_refl _) k m hkl hk,List.getElem?_eq_getElem (by omega)]
     rfl
  ·refine thing_of (i:=t) (s:=c[t]) ⟨S.ti,List.getElem?_eq_getElem htl,?_,fun k v hk=>?_⟩
   ·have het:=S.et
    unfold elemAt at het
    rw [List.getElem?_eq_getElem htl] at het
    unfold manyOk
    rw [if_neg (by simpa using het)]
    refine decide_eq_true ?_
    show (backV _ _ _ _).length=_
    rw [backV_len,List.length_replicate]
   ·have hk:(backV s.map x.vals (List.replicate (rowP c t).length 0) s.map.length)[k]?=some v:=hk
    by_cases hq:∃ m,m ∈ s.map∧m.toNat=k
    ·obtain ⟨m,hm,hmk⟩:=hq
     obtain ⟨j,hjm⟩:=List.getElem?_of_mem hm
     have hjl:=(List.getElem?_eq_some_iff.1 hjm).1
     have:=backV_at (vs:=x.vals) hin' hd s.map.length (Nat.le_refl _) j m hjl hjm
     rw [hmk,hk,List.getElem?_eq_getElem (by omega)] at this
     cases this
     have hv:=h.val j _ (List.getElem?_eq_getElem (by omega))
     obtain ⟨n,h1,_,_,h4,_⟩:=S.map j (by rw [←S.len]; exact hjl)
     rw [hjm] at h1; cases h1
     rw [kind_row S.ea hil] at hv
     rw [kind_row S.et htl,←hmk,h4]
     exact hv
    ·rw [backV_off (fun k m hk=>(hin k m hk).1) (fun m hm e=>hq ⟨m,hm,e⟩) _ (Nat.le_refl _)] at hk
     have:v=0:=by
      have:=List.mem_of_getElem? hk
      exact List.eq_of_mem_replicate this
     subst this
     unfold valueOk
     simp
  ·show toOf l s.type=none
   unfold toOf
   rw [List.find?_eq_none]
   intro y hy
   have:=to_ne hs hy hsm
   simpa using fun e=>this e.symm
end Go.Ce
namespace Go.Ce
open Go Go.Proofs Go.Proofs.Tryz
def iota (n:Nat):List Int:=(List.range n).map fun k=>((k:Nat):Int)+1
theorem iota_len (n:Nat):(iota n).length=n:=by simp [iota]
theorem iota_succ (n:Nat):iota (n+1)=iota n++[((n:Nat):Int)+1]:=by simp [iota,List.range_succ]
theorem iota_get {n k:Nat} (h:k<n):(iota n)[k]?=some (((k:Nat):Int)+1):=by simp [iota,h]
theorem iota_mem {n:Nat} {v:Int}:v ∈ iota n↔1≤v∧v≤n:=by
 unfold iota
 rw [List.mem_map]
 constructor
 ·rintro ⟨k,hk,rfl⟩
  have:=List.mem_range.1 hk
  omega
 ·rintro ⟨h1,h2⟩
  exact ⟨(v-1).toNat,List.mem_range.2 (by omega),by omega⟩
theorem iota_place {n:Nat} {v:Nat} (h:v≤n):placeOf (iota n) v=v:=by
 rcases Nat.eq_zero_or_pos v with rfl | hp
 ·exact placeOf_none fun hm=>by have:=iota_mem.1 hm; omega
 ·have hf:(iota n).findIdx? (fun x=>decide (x=(v:Int)))=some (v-1):=by
   rw [List.findIdx?_eq_some_iff_getElem]
   have hg:∀ k (hk:k<(iota n).length),(iota n)[k]=((k:Nat):Int)+1:=fun k hk=>by
    have:=iota_get (n:=n) (k:=k) (by rw [←iota_len n]; exact hk)
    rw [List.getElem?_eq_getElem hk] at this
    exact Option.some.inj this
   refine ⟨by rw [iota_len]; omega,by rw [hg]; simp; omega,fun j hj=>?_⟩
   rw [hg]
   simp
   omega
  unfold placeOf
  rw [hf]
  simp only
  omega
theorem visit_iota {f v:Nat} (h:v≤f+1):visit (iota f) v=iota (max f v):=by
 unfold visit
 by_cases h0:v=0
 ·subst h0
  rw [if_neg (by omega),Nat.max_eq_left (by omega)]
 ·by_cases hv:v=f+1
  ·subst hv
   rw [if_pos ⟨by omega,fun hm=>by have:=iota_mem.1 hm; omega⟩,Nat.max_eq_right (by omega),iota_succ]
   simp
  ·rw [if_neg (fun h=>h.2 (iota_mem.2 (by omega))),Nat.max_eq_left (by omega)]
def scanF (g:Nat→Int→List Int):Nat→List Int→List Int
 | _,[]=>[]
 | k,v::vs=>g k v++scanF g (k+1) vs
theorem scanF_snoc (g:Nat→Int→List Int) (v:Int):∀ (vs:List Int) (k:Nat),scanF g k (vs++[v])=scanF g k vs++g (k+vs.length) v
 | [],k=>by simp [scanF]
 | u::vs,k=>by
  rw [List.cons_append,scanF,scanF_snoc g v vs (k+1),scanF,List.append_assoc,List.length_cons]
  congr 2
  congr 1
  omega
theorem scan_to {g:Nat→Int→List Int} {vs:List Int} {T:Nat→List Int} (h0:T 0=[]) (h1:∀ n v,vs[n]?=some v→T (n+1)=T n++g n v):∀ n,n≤vs.length→T n=scanF g 0 (vs.take n)
 | 0,_=>by rw [h0,List.take_zero]; rfl
 | n+1,hn=>by
  have hx:=List.getElem?_eq_getElem (show n<vs.length by omega)
  rw [h1 n _ hx,scan_to h0 h1 n (by omega),List.take_add_one,hx,Option.toList_some,scanF_snoc,List.length_take,Nat.min_eq_left (by omega),Nat.zero_add]
def refG (c:List Shp) (ix k:Nat) (v:Int):List Int:=if kindP c ix k=2 then [v] else []
theorem refs_scan (c:List Shp) (i:Nat) (vs:List Int):refsTo c i vs vs.length=scanF (refG c i) 0 vs:=by
 rw [scan_to (T:=refsTo c i vs) (g:=refG c i) rfl (fun n v hv=>by rw [refsTo,hv]; rfl) vs.length (Nat.le_refl _),List.take_length]
theorem vals_scan (c:List Shp) (o:List Int) (i:Nat) (vs:List Int):valsTo c o i vs vs.length=scanF (fun k v=>valP o (kindP c i k) v) 0 vs:=by
 rw [scan_to (T:=valsTo c o i vs) (g:=fun k v=>valP o (kindP c i k) v) rfl (fun n v hv=>by rw [valsTo,hv]) vs.length (Nat.le_refl _),List.take_length]
theorem ValsC.fold {c:List Shp} {ix many k fd fd':Nat} {vs:List Int} (h:ValsC c ix many k fd vs fd'):(scanF (refG c ix) k vs).foldl visit (iota fd)=iota fd'∧fd≤fd'∧(fd≤many→fd'≤many):=by
 induction h with
 | nil=>exact ⟨rfl,Nat.le_refl _,id⟩
 | @ref k fd v vs fd' hk hv h ih =>
  obtain ⟨h1,h2,h3⟩:=ih
  refine ⟨?_,by omega,fun hf=>h3 (by omega)⟩
  rw [scanF,List.foldl_append,refG,if_pos hk]
  show (scanF _ _ _).foldl visit (visit (iota fd) (v:Int))=_
  rw [visit_iota (by omega)]
  exact h1
 | @word k fd v vs fd' hk hv1 hv2 h ih =>
  obtain ⟨h1,h2,h3⟩:=ih
  refine ⟨?_,h2,h3⟩
  rw [scanF,refG,if_neg hk]
  exact h1
theorem ValsC.val {c:List Shp} {ix many k fd fd':Nat} {vs:List Int} (h:ValsC c ix many k fd vs fd'):∀ (j:Nat) v,vs[j]?=some v→valueOk (kindP c ix (k+j)) v many=true:=by
 induction h with
 | nil=>intro j v hv; simp at hv
 | @ref k fd v vs fd' hk hv h ih =>
  intro j w hw
  cases j with
  | zero =>
   cases hw
   unfold valueOk
   rw [Nat.add_zero,hk]
   simp
   omega
  | succ j =>
   have:=ih j w hw
   rw [show k+(j+1)=k+1+j by omega]
   exact this
 | @word k fd v vs fd' hk hv1 hv2 h ih =>
  intro j w hw
  cases j with
  | zero =>
   cases hw
   unfold valueOk
   rw [Nat.add_zero]
   simp [hk]
   omega
  | succ j =>
   have:=ih j w hw
   rw [show k+(j+1)=k+1+j by omega]
   exact this
theorem ValsC.enc {c:List Shp} {ix many k fd fd':Nat} {vs:List Int} (h:ValsC c ix many k fd vs fd'):scanF (fun k v=>valP (iota many) (kindP c ix k) v) k vs=encV c ix k vs:=by
 induction h with
 | nil=>rfl
 | @ref k fd v vs fd' hk hv h ih =>
  rw [scanF,encV,ih,valP,if_pos hk,if_pos hk,iota_place (by omega),Int.toNat_natCast]
 | @word k fd v vs fd' hk hv1 hv2 h ih =>
  rw [scanF,encV,ih,valP,if_neg hk,if_neg hk]
theorem ThingsC.search {c:List Shp} {ts:List ByteArray} {many i u f u' f':Nat} {xs:List Thg} {refs:Int→List Int} (h:ThingsC c ts many i u f xs u' f') (hr:∀ (j:Nat) x,xs[j]?=some x→refs (((i+j:Nat):Int)+1)=refsOf c x):searchP refs xs.length (iota f) i=iota f':=by
 induction h with
 | nil=>rfl
 | @cons i u f x xs t ix f1 u' f' hi ht htu hx hn hv h ih =>
  rw [List.length_cons,searchP,iota_get hi]
  simp only
  have h0:=hr 0 x rfl
  rw [Nat.add_zero] at h0
  rw [h0]
  have:refsOf c x=scanF (refG c ix) 0 x.vals:=by
   unfold refsOf
   rw [hx]
   exact refs_scan c ix x.vals
  rw [this,hv.fold.1]
  exact ih fun j y hy=>by
   have:=hr (j+1) y hy
   rw [show i+1+j=i+(j+1) by omega]
   exact this
theorem ThingsC.types {c:List Shp} {ts:List ByteArray} (hnd:ts.Nodup) {many i u f u' f':Nat} {xs:List Thg} (h:ThingsC c ts many i u f xs u' f'):xs.foldl (fun t x=>addType t x.type) (ts.take u)=ts.take u':=by
 induction h with
 | nil=>rfl
 | @cons i u f x xs t ix f1 u' f' hi ht htu hx hn hv h ih =>
  rw [List.foldl_cons]
  obtain ⟨htl,hte⟩:=List.getElem?_eq_some_iff.1 ht
  have:addType (ts.take u) x.type=ts.take (if t=u then u+1 else u):=by
   unfold addType
   by_cases e:t=u
   ·subst e
    rw [if_pos rfl,if_neg,List.take_add_one,ht]
    ·rfl
    ·intro ha
     obtain ⟨y,hy,hye⟩:=List.any_eq_true.1 ha
     have hye:y=x.type:=of_decide_eq_true hye
     subst hye
     obtain ⟨j,hj⟩:=List.getElem?_of_mem hy
     rw [List.getElem?_take] at hj
     split at hj
     ·rename_i hjt
      obtain ⟨hjl,hje⟩:=List.getElem?_eq_some_iff.1 hj
      have:=(List.getElem_inj hnd).1 (hje.trans hte.symm)
      omega
     ·cases hj
   ·rw [if_neg e,if_pos]
    refine List.any_eq_true.2 ⟨x.type,List.mem_of_getElem? (i:=t) ?_,by simp⟩
    rw [List.getElem?_take,if_pos (by omega),ht]
  rw [this]
  exact ih
theorem ThingsC.wis {c:List Shp} {l:List Spc} {ts:List ByteArray} (hsym:∀ s,s ∈ ts→askR c l s=none) {many i u f u' f':Nat} {xs:List Thg} (h:ThingsC c ts many i u f xs u' f'):∀ x,x ∈ xs→∃ ix,WIs c l x many ix∧thingP c ts (iota many) x=encTh c ts x:=by
 induction h with
 | nil=>intro x hx; cases hx
 | @cons i u f x xs t ix f1 u' f' hi ht htu hx hn hv h ih =>
  intro y hy
  rcases List.mem_cons.1 hy with rfl | hy
  ·refine ⟨ix,⟨hx,(askR_some (hsym _ (List.mem_of_getElem? ht))).2,hn,fun k v hk=>?_⟩,?_⟩
   ·have:=hv.val k v hk
    rw [Nat.zero_add] at this
    exact this
   ·unfold thingP encTh
    rw [hx]
    simp only
    rw [vals_scan,hv.enc]
  ·exact ih y hy
theorem things_iota (h:List Thg):thingsAt h (iota h.length)=h:=by
 have key:∀ n,n≤h.length→thingsAt h (iota n)=h.take n:=by
  intro n
  induction n with
  | zero=>intro _; rfl
  | succ n ih =>
   intro hn
   have e:thingsAt h (iota (n+1))=thingsAt h (iota n)++thingsAt h [((n:Nat):Int)+1]:=by
    unfold thingsAt
    rw [iota_succ,List.flatMap_append]
   rw [e,ih (by omega),List.take_add_one]
   congr 1
   unfold thingsAt
   simp
 rw [key _ (Nat.le_refl _),List.take_length]
structure WholeP (c:List Shp) (l:List Spc) (ts:List ByteArray) (xs:List Thg):Prop where
 ask:askP c l (xs.map (backP c l)) (min (xs.length:Int) 1)=0
 found:foundP c l (xs.map (backP c l)) (min (xs.length:Int) 1)=iota xs.length
 bad:asBad l (xs.map (backP c l)) (iota xs.length)=false
 types:typesP l (thingsAt (xs.map (backP c l)) (iota xs.length))=ts
 bytes:bytesP c l (xs.map (backP c l)) (iota xs.length)=encAll c ts xs
theorem whole_plain {c:List Shp} {l:List Spc} {ts:List ByteArray} {xs:List Thg} (hok:catOk c=true) (hs:specOk c l=true) (h:Canon c (askR c l) ts xs):WholeP c l ts xs:=by
 have hw:=h.scan.wis (l:=l) fun s hs=>(h.sym s hs).2
 have hlen:(xs.map (backP c l)).length=xs.length:=List.length_map _
 have hth:thingsAt (xs.map (backP c l)) (iota xs.length)=xs.map (backP c l):=by
  rw [←hlen]; exact things_iota _
 have hback:∀ x,x ∈ xs→writtenP l (backP c l x)=x:=fun x hx=>by
  obtain ⟨ix,hi,_⟩:=hw x hx
  exact (hi.back hs).1
 have hty:typesP l (xs.map (backP c l))=ts:=by
  have h1:=h.scan.types h.nodup
  rw [List.take_length,List.take_zero] at h1
  unfold typesP
  rw [List.foldl_map]
  have key:∀ (ys:List Thg) (t:List ByteArray),(∀ x,x ∈ ys→x ∈ xs)→ys.foldl (fun t x=>addType t (writtenP l (backP c l x)).type) t=ys.foldl (fun t x=>addType t x.type) t:=by
   intro ys
   induction ys with
   | nil=>intro t _; rfl
   | cons y ys ih =>
    intro t hy
    rw [List.foldl_cons,List.foldl_cons,hback y (hy y (by simp)),ih _ fun x hx=>hy x (by simp [hx])]
  rw [key xs [] fun x hx=>hx]
  exact h1
 have hin:thingsI c (xs.map (backP c l))<0:=by
  unfold thingsI
  have:=h.len
  rw [if_neg (by rw [hlen]; omega)]
  have hf:(xs.map (backP c l)).findIdx? (fun x=>!thingOk c x (xs.map (backP c l)).length)=none:=by
   rw [List.findIdx?_eq_none_iff]
   intro y hy
   obtain ⟨x,hx,rfl⟩:=List.mem_map.1 hy
   obtain ⟨ix,hi,_⟩:=hw x hx
   have h1:=(hi.back hs).2.1
   rw [hlen,h1]
   rfl
  unfold idxI
  rw [hf]
  simp
 refine ⟨?_,?_,?_,?_,?_⟩
 ·unfold askP spErr
  rw [hok,hs]
  simp only [if_true]
  rw [if_neg (by simp),if_neg (by omega),if_neg]
  rw [hlen]
  omega
 ·unfold foundP
  have hst:start (min (xs.length:Int) 1)=iota (min xs.length 1):=by
   unfold start
   by_cases h0:xs.length=0
   ·rw [h0]; rfl
   ·rw [if_pos (by omega),show min (xs.length:Int) 1=1 by omega,show min xs.length 1=1 by omega]; rfl
  rw [hst,hlen]
  refine h.scan.search fun j x hx=>?_
  unfold refsP
  rw [show (((0+j:Nat):Int)+1-1).toNat=j by omega,List.getElem?_map,hx]
  simp only [Option.map_some]
  rw [hback x (List.mem_of_getElem? hx)]
 ·unfold asBad
  rw [hth]
  refine List.any_eq_false.2 fun y hy=>?_
  obtain ⟨x,hx,rfl⟩:=List.mem_map.1 hy
  obtain ⟨ix,hi,_⟩:=hw x hx
  have h1:=(hi.back hs).2.2
  unfold toOf at h1
  rw [List.find?_eq_none] at h1
  have:(l.any fun s=>decide (s.to=(backP c l x).type))=false:=List.any_eq_false.2 fun s hs'=>h1 s hs'
  rw [this]
  simp
 ·rw [hth,hty]
 ·unfold bytesP encAll
  rw [hth,hty,iota_len]
  congr 1
  rw [List.flatMap_map]
  have key:∀ (ys:List Thg),(∀ x,x ∈ ys→x ∈ xs)→ys.flatMap (fun x=>thingP c ts (iota xs.length) (writtenP l (backP c l x)))=ys.flatMap (encTh c ts):=by
   intro ys
   induction ys with
   | nil=>intro _; rfl
   | cons y ys ih =>
    intro hy
    obtain ⟨ix,_,he⟩:=hw y (hy y (by simp))
    rw [List.flatMap_cons,List.flatMap_cons,hback y (hy y (by simp)),he,ih fun x hx=>hy x (by simp [hx])]
  exact key xs fun x hx=>hx
end Go.Ce
namespace Go.Ce
section
variable {P:Program}
def Leaf (P:Program) (W:CW) (t:TypeId) (v:Value):Prop:=∃ m,CT P m t W [v]
theorem Leaf.int {W:CW} {t:TypeId} {k:IntKind} {v:Value} (ht:P.underlying t=some (.int k)) (h:Leaf P W t v):∃ x,v=.int k x∧(Lit.int k x).wf=true:=by
 obtain ⟨m,h⟩:=h
 cases m with
 | zero=>exact h.elim
 | succ m =>
  simp only [CT,ht] at h
  obtain ⟨x,hx,hw⟩:=h
  cases hx
  exact ⟨x,rfl,hw⟩
theorem Leaf.string {W:CW} {t:TypeId} {v:Value} (ht:P.underlying t=some .string) (h:Leaf P W t v):∃ x:ByteArray,v=.string x∧x.size≤maxLen:=by
 obtain ⟨m,h⟩:=h
 cases m with
 | zero=>exact h.elim
 | succ m =>
  simp only [CT,ht] at h
  obtain ⟨x,hx,hw⟩:=h
  cases hx
  exact ⟨x,rfl,hw⟩
theorem Leaf.slice {W:CW} {t e:TypeId} {v:Value} (ht:P.underlying t=some (.slice e)) (h:Leaf P W t v):v=.slice none 0 0∨v=.slice (some ⟨0,0,some 0⟩) 0 0∨∃ k len cap f m,v=.slice (some ⟨k,0,none⟩) len cap∧0<cap∧len≤cap∧cap≤maxLen ∧
  W.obj k=some (.fixed f (len*P.cellsOf e) e)∧∀ i,i<len→CT P m e W (readFix f (P.cellsOf e) (i*P.cellsOf e)):=by
 obtain ⟨m,h⟩:=h
 cases m with
 | zero=>exact h.elim
 | succ m =>
  simp only [CT,ht] at h
  rcases h with h | h | ⟨k,len,cap,f,h1,h2,h3,h4,h5,h6⟩
  ·cases h; exact .inl rfl
  ·cases h; exact .inr (.inl rfl)
  ·cases h1; exact .inr (.inr ⟨k,len,cap,f,m,rfl,h2,h3,h4,h5,h6⟩)
theorem CTs.cons {W:CW} {t:TypeId} {ts:List TypeId} {vs:List Value} (h:CTs P (t::ts) W vs):∃ cs vs',vs=argV P t cs::vs'∧CT P 20 t W cs∧CTs P ts W vs':=by
 cases vs with
 | nil=>exact h.elim
 | cons v vs =>
  obtain ⟨⟨cs,rfl,hc⟩,h2⟩:=h
  exact ⟨cs,vs,rfl,hc,h2⟩
theorem CTs.nil {W:CW} {vs:List Value} (h:CTs P [] W vs):vs=[]:=by
 cases vs with
 | nil=>rfl
 | cons=>exact h.elim
end
end Go.Ce
namespace Go.Ce
open Go Go.Proofs Go.Proofs.Tryz
def fieldsL (P:Program) (t:TypeId):List (TypeId × Nat):=match P.underlying t with
 | some (.struct fs)=>fs.toList.map fun f=>(f.type,f.offset)
 | _=>[]
theorem ct_field {P:Program} {m:Nat} {t ty:TypeId} {off n:Nat} {W:CW} {cs:List Value} (hm:(fieldsL P t).any (fun x=>Nat.beq x.1 ty && Nat.beq x.2 off)=true) (hn:P.cellsOf t=n) (h1:P.cellsOf ty=1) (ho:off<n) (h:CT P m t W cs):∃ v,cs[off]?=some v∧Leaf P W ty v:=by
 cases m with
 | zero=>exact h.elim
 | succ m =>
  unfold fieldsL at hm
  simp only [CT] at h
  split at hm
  ·rename_i fs hu
   rw [hu] at h
   obtain ⟨hl,hf⟩:=h
   obtain ⟨x,hx,he⟩:=List.any_eq_true.1 hm
   obtain ⟨f,hfm,rfl⟩:=List.mem_map.1 hx
   simp only [Bool.and_eq_true] at he
   have e1:f.type=ty:=Nat.eq_of_beq_eq_true he.1
   have e2:f.offset=off:=Nat.eq_of_beq_eq_true he.2
   have:=hf f hfm
   rw [e1,e2,h1] at this
   have hlt:off<cs.length:=by omega
   refine ⟨cs[off],List.getElem?_eq_getElem hlt,m,?_⟩
   rw [List.drop_eq_getElem_cons hlt,List.take_succ_cons,List.take_zero] at this
   exact this
  ·cases hm
theorem readFix_at (f:Nat→Value):∀ (m k j:Nat),j<m→(readFix f m k)[j]?=some (f (k+j))
 | 0,k,j,h=>by omega
 | m+1,k,0,h=>rfl
 | m+1,k,j+1,h=>by
  unfold readFix
  rw [List.getElem?_cons_succ,readFix_at f m (k+1) j (by omega)]
  congr 2; omega
theorem list_of {α:Type} {Q:Nat→α→Prop}:∀ n:Nat,(∀ i,i<n→∃ x,Q i x)→∃ l:List α,l.length=n∧∀ i x,l[i]?=some x→Q i x
 | 0,_=>⟨[],rfl,fun i x h=>by simp at h⟩
 | n+1,h=>by
  obtain ⟨l,hl,hq⟩:=list_of n fun i hi=>h i (by omega)
  obtain ⟨x,hx⟩:=h n (by omega)
  refine ⟨l++[x],by simp [hl],fun i y hy=>?_⟩
  by_cases hi:i<l.length
  ·rw [List.getElem?_append_left hi] at hy
   exact hq i y hy
  ·rw [List.getElem?_append_right (by omega)] at hy
   have h0:i-l.length=0:=by
    cases hd:i-l.length with
    | zero=>rfl
    | succ k=>rw [hd] at hy; simp at hy
   rw [h0] at hy
   cases hy
   have:i=n:=by omega
   subst this; exact hx
theorem view_sl {P:Program} {α:Type} {R:Nat→Nat→α→Prop} {t e:TypeId} {n:Nat} (ht:P.underlying t=some (.slice e)) (hn:P.cellsOf e=n) {W:CW} {v:Value} (h:Leaf P W t v)
  (hel:∀ m cs k off,CT P m e W cs→(∀ j,j<n→W.cell k (off+j)=cs[j]?)→∃ x,R k off x):∃ l,IsSl n R v l∧ElOk W e v∧l.length≤maxLen:=by
 rcases h.slice ht with rfl | rfl | ⟨k,len,cap,f,m,rfl,h1,h2,h3,h4,h5⟩
 ·exact ⟨[],⟨none,0,rfl,fun i x hx=>by simp at hx⟩,fun a l c hv=>by cases hv; exact ⟨rfl,Nat.le_refl _⟩,Nat.zero_le _⟩
 ·exact ⟨[],⟨_,0,rfl,fun i x hx=>by simp at hx⟩,fun a l c hv=>by cases hv; exact ⟨rfl,Nat.le_refl _⟩,Nat.zero_le _⟩
 ·rw [hn] at h4 h5
  obtain ⟨l,hl,hq⟩:=list_of (Q:=fun i x=>R k (i*n) x) len fun i hi=>hel m _ k (i*n) (h5 i hi) fun j hj=>by
   rw [readFix_at f n (i*n) j hj]
   unfold CW.cell
   rw [h4]
   have:i*n+j<len*n:=by
    have:(i+1)*n≤len*n:=Nat.mul_le_mul_right _ hi
    rw [Nat.succ_mul] at this; omega
   simp only [if_pos this]
  refine ⟨l,⟨_,cap,by rw [hl],fun i x hx=>⟨_,rfl,by simpa using hq i x hx⟩⟩,fun a l c hv=>?_,by omega⟩
  cases hv
  refine ⟨?_,h2⟩
  simp [elemOk,h4]
theorem wf_i64 {x:Int} (h:(Lit.int .i64 x).wf=true):-9223372036854775808≤x∧x≤9223372036854775807:=by
 simp only [Lit.wf,Bool.and_eq_true,decide_eq_true_eq] at h
 have h1:IntKind.i64.min=-9223372036854775808:=by rfl
 have h2:IntKind.i64.max=9223372036854775807:=by rfl
 omega
theorem wf_u8 {x:Int} (h:(Lit.int .u8 x).wf=true):0≤x∧x<256:=by
 simp only [Lit.wf,Bool.and_eq_true,decide_eq_true_eq] at h
 have h1:IntKind.u8.min=0:=by rfl
 have h2:IntKind.u8.max=255:=by rfl
 omega
section
variable {W:CW} {m:Nat} {cs:List Value} {k off:Nat}
theorem u46:∃ e,prog.underlying 46=some (.slice e):=⟨match prog.underlying 46 with | some (.slice e)=>e | _=>0,by kernel_rfl⟩
theorem c3:prog.cellsOf 3=1:=by kernel_rfl
theorem c5:prog.cellsOf 5=1:=by kernel_rfl
theorem c9:prog.cellsOf 9=1:=by kernel_rfl
theorem c40:prog.cellsOf 40=1:=by kernel_rfl
theorem c45:prog.cellsOf 45=1:=by kernel_rfl
theorem c46:prog.cellsOf 46=1:=by kernel_rfl
theorem c48:prog.cellsOf 48=5:=by kernel_rfl
theorem c58:prog.cellsOf 58=3:=by kernel_rfl
theorem c72:prog.cellsOf 72=2:=by kernel_rfl
theorem ut3:prog.underlying 3=some (.int .i64):=by kernel_rfl
theorem ut5:prog.underlying 5=some (.int .u8):=by kernel_rfl
theorem view_int {v:Value} (h:Leaf prog W 40 v):∃ l,IsSl 1 (RInt W) v l∧ElOk W 3 v∧l.length≤maxLen :=
 view_sl u40 c3 h fun m cs k off hc hj=>by
  cases m with
  | zero=>exact hc.elim
  | succ m =>
   simp only [CT,ut3] at hc
   obtain ⟨x,rfl,hw⟩:=hc
   exact ⟨x,by have:=hj 0 (by omega); simpa using this,wf_i64 hw⟩
theorem at_str {n:Nat} {t:TypeId} {o:Nat} (hm:(fieldsL prog t).any (fun x=>Nat.beq x.1 9 && Nat.beq x.2 o)=true) (hn:prog.cellsOf t=n) (ho:o<n) (hc:CT prog m t W cs) (hj:∀ j,j<n→W.cell k (off+j)=cs[j]?):∃ s:ByteArray,W.cell k (off+o)=some (.string s):=by
 obtain ⟨v,hv,hl⟩:=ct_field hm hn c9 ho hc
 obtain ⟨s,rfl,_⟩:=hl.string u9
 exact ⟨s,(hj o ho).trans hv⟩
theorem at_u8 {n:Nat} {t:TypeId} {o:Nat} (hm:(fieldsL prog t).any (fun x=>Nat.beq x.1 5 && Nat.beq x.2 o)=true) (hn:prog.cellsOf t=n) (ho:o<n) (hc:CT prog m t W cs) (hj:∀ j,j<n→W.cell k (off+j)=cs[j]?):∃ x:Int,W.cell k (off+o)=some (.int .u8 x)∧0≤x∧x<256:=by
 obtain ⟨v,hv,hl⟩:=ct_field hm hn c5 ho hc
 obtain ⟨x,rfl,hw⟩:=hl.int ut5
 exact ⟨x,(hj o ho).trans hv,wf_u8 hw⟩
theorem view_fld {v:Value} (h:Leaf prog W 45 v):∃ l,IsSl 2 (RFld W) v l∧ElOk W 72 v∧l.length≤maxLen :=
 view_sl u45 c72 h fun m cs k off hc hj=>by
  obtain ⟨s,h0⟩:=at_str (o:=0) (by kernel_rfl) c72 (by omega) hc hj
  obtain ⟨x,h1,h2,h3⟩:=at_u8 (o:=1) (by kernel_rfl) c72 (by omega) hc hj
  exact ⟨⟨s,x⟩,h0,h1,h2,h3⟩
theorem view_shp {v:Value} (h:Leaf prog W 22 v):∃ l,IsSl 5 (RShp W) v l∧ElOk W 48 v∧l.length≤maxLen :=
 view_sl u22 c48 h fun m cs k off hc hj=>by
  obtain ⟨s,h0⟩:=at_str (o:=0) (by kernel_rfl) c48 (by omega) hc hj
  obtain ⟨s2,h1⟩:=at_str (o:=1) (by kernel_rfl) c48 (by omega) hc hj
  obtain ⟨v2,hv2,hl2⟩:=ct_field (ty:=45) (off:=2) (by kernel_rfl) c48 c45 (by omega) hc
  obtain ⟨fs,hfs,_⟩:=view_fld hl2
  obtain ⟨x,h3,h4,h5⟩:=at_u8 (o:=3) (by kernel_rfl) c48 (by omega) hc hj
  obtain ⟨v4,hv4,hl4⟩:=ct_field (ty:=46) (off:=4) (by kernel_rfl) c48 c46 (by omega) hc
  obtain ⟨e,he⟩:=u46
  have hb:∃ a l k,v4=.slice a l k:=by
   rcases hl4.slice he with rfl | rfl | ⟨k,len,cap,f,m,rfl,_⟩ <;> exact ⟨_,_,_,rfl⟩
  obtain ⟨a,l,c,rfl⟩:=hb
  exact ⟨⟨s,s2,fs,x⟩,h0,h1,⟨v2,(hj 2 (by omega)).trans hv2,hfs⟩,h3,⟨a,l,c,(hj 4 (by omega)).trans hv4⟩,h4,h5⟩
theorem view_spc {v:Value} (h:Leaf prog W 23 v):∃ l,IsSl 3 (RSpc W) v l∧ElOk W 58 v∧l.length≤maxLen :=
 view_sl u23 c58 h fun m cs k off hc hj=>by
  obtain ⟨s,h0⟩:=at_str (o:=0) (by kernel_rfl) c58 (by omega) hc hj
  obtain ⟨s2,h1⟩:=at_str (o:=1) (by kernel_rfl) c58 (by omega) hc hj
  obtain ⟨v2,hv2,hl2⟩:=ct_field (ty:=40) (off:=2) (by kernel_rfl) c58 c40 (by omega) hc
  obtain ⟨fs,hfs,hok,_⟩:=view_int hl2
  exact ⟨⟨s,s2,fs⟩,h0,h1,⟨v2,(hj 2 (by omega)).trans hv2,hfs,hok⟩⟩
end
end Go.Ce
namespace Go.Ce
open Go Go.Proofs Go.Proofs.Tryz
def f13_k0 (ro:Option Nat) (K:Kont):Kont:=seqK (fun e ds W=>K .ret e ds W) K
def f13_k1 (ro:Option Nat) (K:Kont):Kont:=seqK (fun e ds W=>wV (clen prog 22 (e 0) W) fun v71=>wV (cbin prog .leq 3 true v71 (.int .i64 12)) fun v72=>wI v72 ((f13_k0 ro K) .normal (Env.of e [(2,(.bool true)),(82,(.bool true)),(81,undef),(73,(.bool true)),(80,undef),(79,undef),(78,undef),(77,undef),(73,(.bool true)),(76,undef),(73,(.bool true)),(75,undef),(73,(.bool true)),(74,undef),(73,(.bool true)),(73,v72),(72,v72),(71,v71),(70,(e 0))]) ds W) (wV (clen prog 22 (e 0) W) fun v75=>wV (cbin prog .gtr 3 true v75 (.int .i64 100)) fun v76=>wI v76 (wV (clen prog 22 (e 0) W) fun v79=>wV (cbin prog .leq 3 true v79 (.int .i64 102)) fun v80=>(f13_k0 ro K) .normal (Env.of e [(2,v80),(82,v80),(81,v80),(73,(.bool false)),(80,v80),(77,(.bool true)),(79,v79),(77,(.bool true)),(78,(e 0)),(77,(.bool true)),(77,v76),(73,(.bool false)),(76,v76),(73,(.bool false)),(75,v75),(73,(.bool false)),(74,(e 0)),(73,(.bool false)),(73,v72),(72,v72),(71,v71),(70,(e 0))]) ds W) ((f13_k0 ro K) .normal (Env.of e [(2,(.bool false)),(82,(.bool false)),(81,(.bool false)),(73,(.bool false)),(80,undef),(77,(.bool false)),(79,undef),(77,(.bool false)),(78,undef),(77,(.bool false)),(77,v76),(73,(.bool false)),(76,v76),(73,(.bool false)),(75,v75),(73,(.bool false)),(74,(e 0)),(73,(.bool false)),(73,v72),(72,v72),(71,v71),(70,(e 0))]) ds W))) K
theorem f13_c (v0:Value) (K:Kont) (W:CW):wCode prog pkL none 13 83 (bodyOf prog 13) (Env.args [v0]) [] W K=(WEnv prog pkL none 13 83 (.loop (loopAt prog 13 0)) (Env.of (Env.args [v0]) [(3,(.int .i64 0)),(2,(.bool false))]) [] W (blkK 0 (f13_k1 none K))):=by kernel_rfl
def f13_k2 (ro:Option Nat) (K:Kont):Kont:=seqK (fun e ds W=>wV (cbin prog .add 3 true (e 3) (.int .i64 1)) fun v14=>K .normal (Env.of e [(3,v14),(14,v14),(13,(e 3))]) ds W) K
def f13_k3 (ro:Option Nat) (K:Kont):Kont:=seqK (fun e ds W=>WEnv prog pkL ro 13 83 (.loop (loopAt prog 13 1)) (Env.of e [(4,(.int .i64 0))]) ds W (blkK 2 (blkK 1 (f13_k2 ro K)))) (blkK 1 (f13_k2 ro K))
def f13_k4 (ro:Option Nat) (K:Kont):Kont:=seqK (fun e ds W=>wI (e 48) ((f13_k3 ro K) .ret (Env.of e [(2,(.bool false))]) ds W) ((f13_k3 ro K) .normal e ds W)) (f13_k3 ro K)
def f13_k5 (ro:Option Nat) (K:Kont):Kont:=seqK (fun e ds W=>wV (iad prog 22 (e 0) (e 3)) fun v17=>wV (fad prog 48 v17 0) fun v18=>wV (ld prog 9 v18 W) fun v19=>wV (clen prog 9 v19 W) fun v20=>wV (cbin prog .gtr 3 true v20 (.int .i64 70)) fun v21=>wI v21 ((f13_k4 ro K) .normal (Env.of e [(48,(.bool true)),(47,undef),(40,(.bool true)),(46,undef),(40,(.bool true)),(45,undef),(40,(.bool true)),(44,undef),(40,(.bool true)),(43,undef),(40,(.bool true)),(42,undef),(40,(.bool true)),(41,undef),(40,(.bool true)),(40,(.bool true)),(39,(.bool true)),(38,undef),(31,(.bool true)),(37,undef),(31,(.bool true)),(36,undef),(31,(.bool true)),(35,undef),(31,(.bool true)),(34,undef),(31,(.bool true)),(33,undef),(31,(.bool true)),(32,undef),(31,(.bool true)),(31,(.bool true)),(30,(.bool true)),(29,undef),(22,(.bool true)),(28,undef),(22,(.bool true)),(27,undef),(22,(.bool true)),(26,undef),(22,(.bool true)),(25,undef),(22,(.bool true)),(24,undef),(22,(.bool true)),(23,undef),(22,(.bool true)),(22,v21),(21,v21),(20,v20),(19,v19),(18,v18),(17,v17),(16,(e 3)),(15,(e 0))]) ds W) (wV (iad prog 22 (e 0) (e 3)) fun v25=>wV (fad prog 48 v25 1) fun v26=>wV (ld prog 9 v26 W) fun v27=>wV (clen prog 9 v27 W) fun v28=>wV (cbin prog .gtr 3 true v28 (.int .i64 70)) fun v29=>wI v29 ((f13_k4 ro K) .normal (Env.of e [(48,(.bool true)),(47,undef),(40,(.bool true)),(46,undef),(40,(.bool true)),(45,undef),(40,(.bool true)),(44,undef),(40,(.bool true)),(43,undef),(40,(.bool true)),(42,undef),(40,(.bool true)),(41,undef),(40,(.bool true)),(40,(.bool true)),(39,(.bool true)),(38,undef),(31,(.bool true)),(37,undef),(31,(.bool true)),(36,undef),(31,(.bool true)),(35,undef),(31,(.bool true)),(34,undef),(31,(.bool true)),(33,undef),(31,(.bool true)),(32,undef),(31,(.bool true)),(31,v29),(30,v29),(29,v29),(22,(.bool false)),(28,v28),(22,(.bool false)),(27,v27),(22,(.bool false)),(26,v26),(22,(.bool false)),(25,v25),(22,(.bool false)),(24,(e 3)),(22,(.bool false)),(23,(e 0)),(22,(.bool false)),(22,v21),(21,v21),(20,v20),(19,v19),(18,v18),(17,v17),(16,(e 3)),(15,(e 0))]) ds W) (wV (iad prog 22 (e 0) (e 3)) fun v34=>wV (fad prog 48 v34 2) fun v35=>wV (ld prog 45 v35 W) fun v36=>wV (clen prog 45 v36 W) fun v37=>wV (cbin prog .gtr 3 true v37 (.int .i64 24)) fun v38=>wI v38 ((f13_k4 ro K) .normal (Env.of e [(48,(.bool true)),(47,undef),(40,(.bool true)),(46,undef),(40,(.bool true)),(45,undef),(40,(.bool true)),(44,undef),(40,(.bool true)),(43,undef),(40,(.bool true)),(42,undef),(40,(.bool true)),(41,undef),(40,(.bool true)),(40,v38),(39,v38),(38,v38),(31,(.bool false)),(37,v37),(31,(.bool false)),(36,v36),(31,(.bool false)),(35,v35),(31,(.bool false)),(34,v34),(31,(.bool false)),(33,(e 3)),(31,(.bool false)),(32,(e 0)),(31,(.bool false)),(31,v29),(30,v29),(29,v29),(22,(.bool false)),(28,v28),(22,(.bool false)),(27,v27),(22,(.bool false)),(26,v26),(22,(.bool false)),(25,v25),(22,(.bool false)),(24,(e 3)),(22,(.bool false)),(23,(e 0)),(22,(.bool false)),(22,v21),(21,v21),(20,v20),(19,v19),(18,v18),(17,v17),(16,(e 3)),(15,(e 0))]) ds W) (wV (iad prog 22 (e 0) (e 3)) fun v43=>wV (fad prog 48 v43 4) fun v44=>wV (ld prog 46 v44 W) fun v45=>wV (clen prog 46 v45 W) fun v46=>wV (cbin prog .gtr 3 true v46 (.int .i64 20)) fun v47=>(f13_k4 ro K) .normal (Env.of e [(48,v47),(47,v47),(40,(.bool false)),(46,v46),(40,(.bool false)),(45,v45),(40,(.bool false)),(44,v44),(40,(.bool false)),(43,v43),(40,(.bool false)),(42,(e 3)),(40,(.bool false)),(41,(e 0)),(40,(.bool false)),(40,v38),(39,v38),(38,v38),(31,(.bool false)),(37,v37),(31,(.bool false)),(36,v36),(31,(.bool false)),(35,v35),(31,(.bool false)),(34,v34),(31,(.bool false)),(33,(e 3)),(31,(.bool false)),(32,(e 0)),(31,(.bool false)),(31,v29),(30,v29),(29,v29),(22,(.bool false)),(28,v28),(22,(.bool false)),(27,v27),(22,(.bool false)),(26,v26),(22,(.bool false)),(25,v25),(22,(.bool false)),(24,(e 3)),(22,(.bool false)),(23,(e 0)),(22,(.bool false)),(22,v21),(21,v21),(20,v20),(19,v19),(18,v18),(17,v17),(16,(e 3)),(15,(e 0))]) ds W)))) K
def f13_k6 (ro:Option Nat) (K:Kont):Kont:=seqK (fun e ds W=>wI (e 12) ((f13_k5 ro K) .normal e ds W) ((f13_k5 ro K) (.exit 0) e ds W)) (f13_k5 ro K)
theorem f13_l0 (ro:Option Nat) (e:Env) (ds:List Deferred) (K:Kont) (W:CW):wCode prog pkL ro 13 83 (loopAt prog 13 0) e ds W K=(wV (clen prog 22 (e 0) W) fun v7=>wV (cbin prog .lss 3 false (e 3) v7) fun v8=>wI v8 (wV (cbin prog .lss 3 true (e 3) (.int .i64 103)) fun v11=>(f13_k6 ro K) .normal (Env.of e [(12,v11),(11,v11),(9,(.bool true)),(10,(e 3)),(9,(.bool true)),(9,v8),(8,v8),(7,v7),(6,(e 0)),(5,(e 3))]) ds W) ((f13_k6 ro K) .normal (Env.of e [(12,(.bool false)),(11,undef),(9,(.bool false)),(10,undef),(9,(.bool false)),(9,v8),(8,v8),(7,v7),(6,(e 0)),(5,(e 3))]) ds W)):=by kernel_rfl
def f13_k7 (ro:Option Nat) (K:Kont):Kont:=seqK (fun e ds W=>wV (cbin prog .add 3 true (e 4) (.int .i64 1)) fun v58=>K .normal (Env.of e [(4,v58),(58,v58),(57,(e 4))]) ds W) K
theorem f13_l1 (ro:Option Nat) (e:Env) (ds:List Deferred) (K:Kont) (W:CW):wCode prog pkL ro 13 83 (loopAt prog 13 1) e ds W K=(wV (iad prog 22 (e 0) (e 3)) fun v52=>wV (fad prog 48 v52 2) fun v53=>wV (ld prog 45 v53 W) fun v54=>wV (clen prog 45 v54 W) fun v55=>wV (cbin prog .lss 3 false (e 4) v55) fun v56=>wI v56 (wV (iad prog 22 (e 0) (e 3)) fun v61=>wV (fad prog 48 v61 2) fun v62=>wV (ld prog 45 v62 W) fun v63=>wV (iad prog 45 v63 (e 4)) fun v65=>wV (fad prog 72 v65 0) fun v66=>wV (ld prog 9 v66 W) fun v67=>wV (clen prog 9 v67 W) fun v68=>wV (cbin prog .gtr 3 true v68 (.int .i64 70)) fun v69=>wI v69 ((f13_k7 ro K) .ret (Env.of e [(2,(.bool false)),(69,v69),(68,v68),(67,v67),(66,v66),(65,v65),(64,(e 4)),(63,v63),(62,v62),(61,v61),(60,(e 3)),(59,(e 0)),(56,v56),(55,v55),(54,v54),(53,v53),(52,v52),(51,(e 3)),(50,(e 0)),(49,(e 4))]) ds W) ((f13_k7 ro K) .normal (Env.of e [(69,v69),(68,v68),(67,v67),(66,v66),(65,v65),(64,(e 4)),(63,v63),(62,v62),(61,v61),(60,(e 3)),(59,(e 0)),(56,v56),(55,v55),(54,v54),(53,v53),(52,v52),(51,(e 3)),(50,(e 0)),(49,(e 4))]) ds W)) (K (.exit 2) (Env.of e [(56,v56),(55,v55),(54,v54),(53,v53),(52,v52),(51,(e 3)),(50,(e 0)),(49,(e 4))]) ds W)):=by kernel_rfl
theorem f13_leave (Q:Ending→CW→Prop) (e:Env) (W:CW):wLeave prog Tryz.f13 Q .ret e [] W=Q (.returned (e 2)) W:=by kernel_rfl
theorem f13_w {Q:Ending→CW→Prop} {v0:Value} {W:CW} (h:wCode prog pkL none 13 83 (bodyOf prog 13) (Env.args [v0]) [] W (wLeave prog Tryz.f13 Q)):WCall prog pkL 13 [v0] W Q:=wCall_of Tryz.func13 (by kernel_rfl) (by kernel_rfl) (by kernel_rfl) (by kernel_rfl) (by kernel_rfl) h
def f14_k0 (ro:Option Nat) (K:Kont):Kont:=seqK (fun e ds W=>wV (clen prog 23 (e 0) W) fun v40=>wV (cbin prog .leq 3 true v40 (.int .i64 22)) fun v41=>K .ret (Env.of e [(2,v41),(41,v41),(40,v40),(39,(e 0))]) ds W) K
theorem f14_c (v0:Value) (K:Kont) (W:CW):wCode prog pkL none 14 42 (bodyOf prog 14) (Env.args [v0]) [] W K=(WEnv prog pkL none 14 42 (.loop (loopAt prog 14 0)) (Env.of (Env.args [v0]) [(3,(.int .i64 0)),(2,(.bool false))]) [] W (blkK 0 (f14_k0 none K))):=by kernel_rfl
def f14_k1 (ro:Option Nat) (K:Kont):Kont:=seqK (fun e ds W=>wV (cbin prog .add 3 true (e 3) (.int .i64 1)) fun v13=>K .normal (Env.of e [(3,v13),(13,v13),(12,(e 3))]) ds W) K
def f14_k2 (ro:Option Nat) (K:Kont):Kont:=seqK (fun e ds W=>wI (e 38) ((f14_k1 ro K) .ret (Env.of e [(2,(.bool false))]) ds W) ((f14_k1 ro K) .normal e ds W)) (blkK 1 (f14_k1 ro K))
def f14_k3 (ro:Option Nat) (K:Kont):Kont:=seqK (fun e ds W=>wV (iad prog 23 (e 0) (e 3)) fun v16=>wV (fad prog 58 v16 0) fun v17=>wV (ld prog 9 v17 W) fun v18=>wV (clen prog 9 v18 W) fun v19=>wV (cbin prog .gtr 3 true v19 (.int .i64 70)) fun v20=>wI v20 ((f14_k2 ro K) .normal (Env.of e [(38,(.bool true)),(37,undef),(30,(.bool true)),(36,undef),(30,(.bool true)),(35,undef),(30,(.bool true)),(34,undef),(30,(.bool true)),(33,undef),(30,(.bool true)),(32,undef),(30,(.bool true)),(31,undef),(30,(.bool true)),(30,(.bool true)),(29,(.bool true)),(28,undef),(21,(.bool true)),(27,undef),(21,(.bool true)),(26,undef),(21,(.bool true)),(25,undef),(21,(.bool true)),(24,undef),(21,(.bool true)),(23,undef),(21,(.bool true)),(22,undef),(21,(.bool true)),(21,v20),(20,v20),(19,v19),(18,v18),(17,v17),(16,v16),(15,(e 3)),(14,(e 0))]) ds W) (wV (iad prog 23 (e 0) (e 3)) fun v24=>wV (fad prog 58 v24 1) fun v25=>wV (ld prog 9 v25 W) fun v26=>wV (clen prog 9 v26 W) fun v27=>wV (cbin prog .gtr 3 true v27 (.int .i64 70)) fun v28=>wI v28 ((f14_k2 ro K) .normal (Env.of e [(38,(.bool true)),(37,undef),(30,(.bool true)),(36,undef),(30,(.bool true)),(35,undef),(30,(.bool true)),(34,undef),(30,(.bool true)),(33,undef),(30,(.bool true)),(32,undef),(30,(.bool true)),(31,undef),(30,(.bool true)),(30,v28),(29,v28),(28,v28),(21,(.bool false)),(27,v27),(21,(.bool false)),(26,v26),(21,(.bool false)),(25,v25),(21,(.bool false)),(24,v24),(21,(.bool false)),(23,(e 3)),(21,(.bool false)),(22,(e 0)),(21,(.bool false)),(21,v20),(20,v20),(19,v19),(18,v18),(17,v17),(16,v16),(15,(e 3)),(14,(e 0))]) ds W) (wV (iad prog 23 (e 0) (e 3)) fun v33=>wV (fad prog 58 v33 2) fun v34=>wV (ld prog 40 v34 W) fun v35=>wV (clen prog 40 v35 W) fun v36=>wV (cbin prog .gtr 3 true v36 (.int .i64 70)) fun v37=>(f14_k2 ro K) .normal (Env.of e [(38,v37),(37,v37),(30,(.bool false)),(36,v36),(30,(.bool false)),(35,v35),(30,(.bool false)),(34,v34),(30,(.bool false)),(33,v33),(30,(.bool false)),(32,(e 3)),(30,(.bool false)),(31,(e 0)),(30,(.bool false)),(30,v28),(29,v28),(28,v28),(21,(.bool false)),(27,v27),(21,(.bool false)),(26,v26),(21,(.bool false)),(25,v25),(21,(.bool false)),(24,v24),(21,(.bool false)),(23,(e 3)),(21,(.bool false)),(22,(e 0)),(21,(.bool false)),(21,v20),(20,v20),(19,v19),(18,v18),(17,v17),(16,v16),(15,(e 3)),(14,(e 0))]) ds W))) K
def f14_k4 (ro:Option Nat) (K:Kont):Kont:=seqK (fun e ds W=>wI (e 11) ((f14_k3 ro K) .normal e ds W) ((f14_k3 ro K) (.exit 0) e ds W)) (f14_k3 ro K)
theorem f14_l0 (ro:Option Nat) (e:Env) (ds:List Deferred) (K:Kont) (W:CW):wCode prog pkL ro 14 42 (loopAt prog 14 0) e ds W K=(wV (clen prog 23 (e 0) W) fun v6=>wV (cbin prog .lss 3 false (e 3) v6) fun v7=>wI v7 (wV (cbin prog .lss 3 true (e 3) (.int .i64 22)) fun v10=>(f14_k4 ro K) .normal (Env.of e [(11,v10),(10,v10),(8,(.bool true)),(9,(e 3)),(8,(.bool true)),(8,v7),(7,v7),(6,v6),(5,(e 0)),(4,(e 3))]) ds W) ((f14_k4 ro K) .normal (Env.of e [(11,(.bool false)),(10,undef),(8,(.bool false)),(9,undef),(8,(.bool false)),(8,v7),(7,v7),(6,v6),(5,(e 0)),(4,(e 3))]) ds W)):=by kernel_rfl
theorem f14_leave (Q:Ending→CW→Prop) (e:Env) (W:CW):wLeave prog Tryz.f14 Q .ret e [] W=Q (.returned (e 2)) W:=by kernel_rfl
theorem f14_w {Q:Ending→CW→Prop} {v0:Value} {W:CW} (h:wCode prog pkL none 14 42 (bodyOf prog 14) (Env.args [v0]) [] W (wLeave prog Tryz.f14 Q)):WCall prog pkL 14 [v0] W Q:=wCall_of Tryz.func14 (by kernel_rfl) (by kernel_rfl) (by kernel_rfl) (by kernel_rfl) (by kernel_rfl) h
end Go.Ce
namespace Go.Ce
open Go Go.Proofs Go.Proofs.Tryz
def GuardPost (A:Prop) (W:CW):Ending→CW→Prop:=fun e W'=>W'=W∧∃ b,e=.returned (.bool b)∧(b=true→A)
theorem specials14_ok {v0:Value} {l:List Spc} {W:CW} (hl:IsSl 3 (RSpc W) v0 l) :
  WCall prog pkL 14 [v0] W (GuardPost (l.length≤22∧∀ s,s ∈ l→s.map.length≤70) W):=by
 refine f14_w ?_
 rw [f14_c]
 obtain ⟨a,cap,rfl,hc⟩:=hl
 generalize hKK:wLeave prog Tryz.f14 (GuardPost (l.length≤22∧∀ s,s ∈ l→s.map.length≤70) W)=KK
 have hret:∀ (e:Env) (b:Bool),e 2=.bool b→(b=true→l.length≤22∧∀ s,s ∈ l→s.map.length≤70)→KK .ret e [] W:=by
  intro e b h2 hb
  rw [←hKK,f14_leave]
  exact ⟨rfl,b,by rw [h2],hb⟩
 refine w_for (fun i e ds W'=>ds=[]∧W'=W∧e 0=.slice a l.length cap∧e 3=.int .i64 i∧∀ j x,j<i→l[j]?=some x→x.map.length≤70) (min l.length 22) ⟨rfl,rfl,rfl,rfl,by omega⟩ ?_
 rintro i e ds W' hi ⟨rfl,rfl,h0,h3,hpre⟩
 rw [f14_l0,h0,h3]
 simp only [clen_sl u23,wV_some,cbin_lss]
 have hend:∀ e1:Env,e1 0=.slice a l.length cap→(l.length≤22→i=l.length)→(f14_k0 none KK) .normal e1 [] W':=by
  intro e1 g0 hil
  simp only [f14_k0,qKn,qKr,qKx,qKp,bKn,bKr,bKp,bKx,tKn,tKr,tKx,tKp,zKn,zKr,zKx,zKp,g0,clen_sl u23,wV_some,cbin_leq]
  refine hret _ _ rfl fun hb=>?_
  have hb:l.length≤22:=by have:=of_decide_eq_true hb; omega
  have hi2:=hil hb
  refine ⟨hb,fun s hs=>?_⟩
  obtain ⟨j,hj,rfl⟩:=List.getElem_of_mem hs
  exact hpre j _ (by omega) (List.getElem?_eq_getElem hj)
 refine w_lt (fun hlt=>?_) (fun hge=>?_)
 ·simp only [f14_k4,qKn,qKr,qKx,qKp,bKn,bKr,bKp,bKx,tKn,tKr,tKx,tKp,zKn,zKr,zKx,zKp]
  simp only [eKc,eKn,eKa,Nat.reduceEqDiff,↓reduceIte,gKz,gKs,dKs,and_self]
  refine wI_bool (fun h22=>?_) (fun h22=>?_)
  ·have h22:i<22:=by have:=of_decide_eq_true h22; omega
   have hx:=List.getElem?_eq_getElem hlt
   obtain ⟨p,rfl,hp⟩:=hc i _ hx
   obtain ⟨vm,hvm,hm,_⟩:=hp.map
   obtain ⟨am,cm,rfl,_⟩:=hm
   simp only [f14_k3,qKn,qKr,qKx,qKp,bKn,bKr,bKp,bKx,tKn,tKr,tKx,tKp,zKn,zKr,zKx,zKp]
   simp only [eKc,eKn,eKa,Nat.reduceEqDiff,↓reduceIte,gKz,gKs,dKs,and_self,h0,h3]
   rw [iad_sl u23 s58 hlt]
   simp only [wV_some,fad58_0,fad58_1,fad58_2]
   rw [ld_word a9 (a:=⟨p.block,p.off+i*3,none⟩) hp.type,ld_word a9 (a:=⟨p.block,p.off+i*3+1,none⟩) hp.to,ld_word a40 (a:=⟨p.block,p.off+i*3+2,none⟩) hvm]
   simp only [wV_some,clen_str u9,clen_sl u40,cbin_gtr]
   have bad:∀ e1:Env,e1 38=.bool true→(f14_k2 none (forK (fun i e ds W''=>ds=[]∧W''=W'∧e 0=.slice (some p) l.length cap∧e 3=.int .i64 i∧∀ j x,j<i→l[j]?=some x→x.map.length≤70) i (min l.length 22) (blkK 0 (f14_k0 none KK)))) .normal e1 [] W':=by
    intro e1 h38
    simp only [f14_k2,qKn,qKr,qKx,qKp,bKn,bKr,bKp,bKx,tKn,tKr,tKx,tKp,zKn,zKr,zKx,zKp,h38,wI_true,f14_k1]
    exact hret _ false rfl nofun
   refine wI_bool (fun _=>bad _ rfl) (fun _=>?_)
   refine wI_bool (fun _=>bad _ rfl) (fun _=>?_)
   simp only [f14_k2,qKn,qKr,qKx,qKp,bKn,bKr,bKp,bKx,tKn,tKr,tKx,tKp,zKn,zKr,zKx,zKp]
   simp only [eKc,eKn,eKa,Nat.reduceEqDiff,↓reduceIte,gKz,gKs,dKs,and_self]
   refine wI_bool (fun _=>?_) (fun hm70=>?_)
   ·simp only [f14_k1,qKn,qKr,qKx,qKp,bKn,bKr,bKp,bKx,tKn,tKr,tKx,tKp,zKn,zKr,zKx,zKp]
    exact hret _ false rfl nofun
   ·simp only [f14_k1,qKn,qKr,qKx,qKp,bKn,bKr,bKp,bKx,tKn,tKr,tKx,tKp,zKn,zKr,zKx,zKp]
    simp only [eKc,eKn,eKa,Nat.reduceEqDiff,↓reduceIte,gKz,gKs,dKs,and_self,h0,h3,cbin_add,wV_some,qKn,qKr,qKx,qKp,bKn,bKr,bKp,bKx,tKn,tKr,tKx,tKp,zKn,zKr,zKx,zKp]
    refine ⟨by omega,trivial,trivial,trivial,by rw [inc64 (by omega)],fun j x hj hx'=>?_⟩
    rcases Nat.lt_succ_iff_lt_or_eq.1 hj with h2 | rfl
    ·exact hpre j x h2 hx'
    ·rw [hx] at hx'; cases hx'
     have:=of_decide_eq_false hm70
     omega
  ·have h22:¬i<22:=by have:=of_decide_eq_false h22; omega
   simp only [f14_k3,qKn,qKr,qKx,qKp,bKn,bKr,bKp,bKx,tKn,tKr,tKx,tKp,zKn,zKr,zKx,zKp,if_true]
   exact hend _ h0 (by omega)
 ·simp only [f14_k4,qKn,qKr,qKx,qKp,bKn,bKr,bKp,bKx,tKn,tKr,tKx,tKp,zKn,zKr,zKx,zKp]
  simp only [eKc,eKn,eKa,Nat.reduceEqDiff,↓reduceIte,gKz,gKs,dKs,and_self,wI_false]
  simp only [f14_k3,qKn,qKr,qKx,qKp,bKn,bKr,bKp,bKx,tKn,tKr,tKx,tKp,zKn,zKr,zKx,zKp,if_true]
  exact hend _ h0 (by omega)
end Go.Ce
namespace Go.Ce
open Go Go.Proofs Go.Proofs.Tryz
end Go.Ce
namespace Go.Ce
open Go Go.Proofs Go.Proofs.Tryz
theorem a46:agg? prog 46=some false:=by kernel_rfl
theorem fad48_4 (a:Addr):fad prog 48 (.pointer (some a)) 4=some (.pointer (some ⟨a.block,a.off+4,none⟩)):=by kernel_rfl
def GShp (x:Shp):Prop:=x.name.size≤70∧x.super.size≤70∧x.fields.length≤24∧∀ f,f ∈ x.fields→f.name.size≤70
theorem shapes13_ok {v0:Value} {l:List Shp} {W:CW} (hl:IsSl 5 (RShp W) v0 l) :
  WCall prog pkL 13 [v0] W (GuardPost (l.length≤102∧∀ x,x ∈ l→GShp x) W):=by
 refine f13_w ?_
 rw [f13_c]
 obtain ⟨a,cap,rfl,hc⟩:=hl
 generalize hKK:wLeave prog Tryz.f13 (GuardPost (l.length≤102∧∀ x,x ∈ l→GShp x) W)=KK
 have hret:∀ (e:Env) (b:Bool),e 2=.bool b→(b=true→l.length≤102∧∀ x,x ∈ l→GShp x)→KK .ret e [] W:=by
  intro e b h2 hb
  rw [←hKK,f13_leave]
  exact ⟨rfl,b,by rw [h2],hb⟩
 refine w_for (fun i e ds W'=>ds=[]∧W'=W∧e 0=.slice a l.length cap∧e 3=.int .i64 i∧∀ j x,j<i→l[j]?=some x→GShp x) (min l.length 103) ⟨rfl,rfl,rfl,rfl,by omega⟩ ?_
 rintro i e ds W' hi ⟨rfl,rfl,h0,h3,hpre⟩
 rw [f13_l0,h0,h3]
 simp only [clen_sl u22,wV_some,cbin_lss]
 have hend:∀ e1:Env,e1 0=.slice a l.length cap→(l.length≤102→i=l.length)→(f13_k1 none KK) .normal e1 [] W':=by
  intro e1 g0 hil
  have hall:l.length≤102→∀ x,x ∈ l→GShp x:=fun h s hs=>by
   have:=hil h
   obtain ⟨j,hj,rfl⟩:=List.getElem_of_mem hs
   exact hpre j _ (by omega) (List.getElem?_eq_getElem hj)
  simp only [f13_k1,qKn,qKr,qKx,qKp,bKn,bKr,bKp,bKx,tKn,tKr,tKx,tKp,zKn,zKr,zKx,zKp,g0,clen_sl u22,wV_some,cbin_leq,cbin_gtr]
  refine wI_bool (fun h12=>?_) (fun h12=>?_)
  ·simp only [f13_k0,qKn,qKr,qKx,qKp,bKn,bKr,bKp,bKx,tKn,tKr,tKx,tKp,zKn,zKr,zKx,zKp]
   have:=of_decide_eq_true h12
   exact hret _ true rfl fun _=>⟨by omega,hall (by omega)⟩
  ·refine wI_bool (fun h100=>?_) (fun h100=>?_)
   ·simp only [f13_k0,qKn,qKr,qKx,qKp,bKn,bKr,bKp,bKx,tKn,tKr,tKx,tKp,zKn,zKr,zKx,zKp]
    refine hret _ _ rfl fun hb=>?_
    have:=of_decide_eq_true hb
    exact ⟨by omega,hall (by omega)⟩
   ·simp only [f13_k0,qKn,qKr,qKx,qKp,bKn,bKr,bKp,bKx,tKn,tKr,tKx,tKp,zKn,zKr,zKx,zKp]
    exact hret _ false rfl nofun
 refine w_lt (fun hlt=>?_) (fun hge=>?_)
 ·simp only [f13_k6,qKn,qKr,qKx,qKp,bKn,bKr,bKp,bKx,tKn,tKr,tKx,tKp,zKn,zKr,zKx,zKp]
  simp only [eKc,eKn,eKa,Nat.reduceEqDiff,↓reduceIte,gKz,gKs,dKs,and_self]
  refine wI_bool (fun h22=>?_) (fun h22=>?_)
  ·have h22:i<103:=by have:=of_decide_eq_true h22; omega
   have hx:=List.getElem?_eq_getElem hlt
   obtain ⟨p,rfl,hp⟩:=hc i _ hx
   obtain ⟨vf,hvf,hf⟩:=hp.fields
   obtain ⟨af,cf,rfl,hfc⟩:=hf
   obtain ⟨ab,lb,cb,hbb⟩:=hp.binds
   have q9:ld prog 9 (.pointer (some ⟨p.block,p.off+i*5,none⟩)) W'=some (.string l[i].name):=ld_word a9 (a:=⟨p.block,p.off+i*5,none⟩) hp.name
   have q9':ld prog 9 (.pointer (some ⟨p.block,p.off+i*5+1,none⟩)) W'=some (.string l[i].super):=ld_word a9 (a:=⟨p.block,p.off+i*5+1,none⟩) hp.super
   have q45:ld prog 45 (.pointer (some ⟨p.block,p.off+i*5+2,none⟩)) W'=some (.slice af l[i].fields.length cf):=ld_word a45 (a:=⟨p.block,p.off+i*5+2,none⟩) hvf
   have q46:ld prog 46 (.pointer (some ⟨p.block,p.off+i*5+4,none⟩)) W'=some (.slice ab lb cb):=ld_word a46 (a:=⟨p.block,p.off+i*5+4,none⟩) hbb
   obtain ⟨eb,heb⟩:=u46
   simp only [f13_k5,qKn,qKr,qKx,qKp,bKn,bKr,bKp,bKx,tKn,tKr,tKx,tKp,zKn,zKr,zKx,zKp]
   simp only [eKc,eKn,eKa,Nat.reduceEqDiff,↓reduceIte,gKz,gKs,dKs,and_self,h0,h3]
   rw [iad_sl u22 s48 hlt]
   simp only [wV_some,fad48_0,fad48_1,fad48_2,fad48_4,q9,q9',q45,q46,clen_str u9,clen_sl u45,clen_sl heb,cbin_gtr]
   have fin:∀ (e1:Env) (b:Bool),e1 48=.bool b→e1 0=.slice (some p) l.length cap→e1 3=.int .i64 i→(b=false→l[i].name.size≤70∧l[i].super.size≤70∧l[i].fields.length≤24)→(f13_k4 none (forK (fun i e ds W''=>ds=[]∧W''=W'∧e 0=.slice (some p) l.length cap∧e 3=.int .i64 i∧∀ j x,j<i→l[j]?=some x→GShp x) i (min l.length 103) (blkK 0 (f13_k1 none KK)))) .normal e1 [] W':=by
    intro e1 b h48 g0 g3 hb
    simp only [f13_k4,qKn,qKr,qKx,qKp,bKn,bKr,bKp,bKx,tKn,tKr,tKx,tKp,zKn,zKr,zKx,zKp,h48]
    refine wI_bool (fun hbt=>?_) (fun hbf=>?_)
    ·simp only [f13_k3,f13_k2,qKn,qKr,qKx,qKp,bKn,bKr,bKp,bKx,tKn,tKr,tKx,tKp,zKn,zKr,zKx,zKp,f13_k1]
     exact hret _ false rfl nofun
    ·obtain ⟨hn,hsu,hfl⟩:=hb hbf
     simp only [f13_k3,qKn,qKr,qKx,qKp,bKn,bKr,bKp,bKx,tKn,tKr,tKx,tKp,zKn,zKr,zKx,zKp]
     refine w_for (fun m e ds W''=>ds=[]∧W''=W'∧e 0=.slice (some p) l.length cap∧e 3=.int .i64 i∧e 4=.int .i64 m∧∀ j x,j<m→l[i].fields[j]?=some x→x.name.size≤70) l[i].fields.length ⟨rfl,rfl,by exact g0,by exact g3,rfl,by omega⟩ ?_
     rintro m e2 ds2 W2 hm ⟨rfl,rfl,r0,r3,r4,hpre2⟩
     rw [f13_l1,r0,r3,r4,iad_sl u22 s48 hlt]
     simp only [wV_some,fad48_2,q45,clen_sl u45,cbin_lss]
     refine w_lt (fun hmlt=>?_) (fun hmge=>?_)
     ·have hxm:=List.getElem?_eq_getElem hmlt
      obtain ⟨q,rfl,hq⟩:=hfc m _ hxm
      rw [iad_sl u45 s72 hmlt]
      simp only [wV_some,fad72_0]
      rw [ld_word a9 (a:=⟨q.block,q.off+m*2,none⟩) hq.name]
      simp only [wV_some,clen_str u9,cbin_gtr]
      refine wI_bool (fun h70=>?_) (fun h70=>?_)
      ·simp only [f13_k7,f13_k2,qKn,qKr,qKx,qKp,bKn,bKr,bKp,bKx,tKn,tKr,tKx,tKp,zKn,zKr,zKx,zKp,f13_k1]
       exact hret _ false rfl nofun
      ·simp only [f13_k7,qKn,qKr,qKx,qKp,bKn,bKr,bKp,bKx,tKn,tKr,tKx,tKp,zKn,zKr,zKx,zKp]
       simp only [eKc,eKn,eKa,Nat.reduceEqDiff,↓reduceIte,gKz,gKs,dKs,and_self,r0,r3,r4,cbin_add,wV_some,qKn,qKr,qKx,qKp,bKn,bKr,bKp,bKx,tKn,tKr,tKx,tKp,zKn,zKr,zKx,zKp]
       refine ⟨hmlt,trivial,trivial,trivial,trivial,by rw [inc64 (by omega)],fun j x hj hx'=>?_⟩
       rcases Nat.lt_succ_iff_lt_or_eq.1 hj with h2 | rfl
       ·exact hpre2 j x h2 hx'
       ·rw [hxm] at hx'; cases hx'
        have:=of_decide_eq_false h70
        omega
     ·simp only [qKn,qKr,qKx,qKp,bKn,bKr,bKp,bKx,tKn,tKr,tKx,tKp,zKn,zKr,zKx,zKp,if_true,f13_k2]
      simp only [eKc,eKn,eKa,Nat.reduceEqDiff,↓reduceIte,gKz,gKs,dKs,and_self,r0,r3,cbin_add,wV_some,qKn,qKr,qKx,qKp,bKn,bKr,bKp,bKx,tKn,tKr,tKx,tKp,zKn,zKr,zKx,zKp]
      refine ⟨by omega,trivial,trivial,trivial,by rw [inc64 (by omega)],fun j x hj hx'=>?_⟩
      rcases Nat.lt_succ_iff_lt_or_eq.1 hj with h2 | rfl
      ·exact hpre j x h2 hx'
      ·rw [hx] at hx'; cases hx'
       refine ⟨hn,hsu,hfl,fun f hf=>?_⟩
       obtain ⟨j2,hj2,rfl⟩:=List.getElem_of_mem hf
       exact hpre2 j2 _ (by omega) (List.getElem?_eq_getElem hj2)
   refine wI_bool (fun _=>fin _ true rfl (by exact h0) (by exact h3) nofun) (fun h1=>?_)
   refine wI_bool (fun _=>fin _ true rfl (by exact h0) (by exact h3) nofun) (fun h2=>?_)
   refine wI_bool (fun _=>fin _ true rfl (by exact h0) (by exact h3) nofun) (fun h4=>?_)
   refine fin _ _ rfl (by exact h0) (by exact h3) fun _=>?_
   have h1:=of_decide_eq_false h1
   have h2:=of_decide_eq_false h2
   have h4:=of_decide_eq_false h4
   exact ⟨by omega,by omega,by omega⟩
  ·have h22:¬i<103:=by have:=of_decide_eq_false h22; omega
   simp only [f13_k5,qKn,qKr,qKx,qKp,bKn,bKr,bKp,bKx,tKn,tKr,tKx,tKp,zKn,zKr,zKx,zKp,if_true]
   exact hend _ h0 (by omega)
 ·simp only [f13_k6,qKn,qKr,qKx,qKp,bKn,bKr,bKp,bKx,tKn,tKr,tKx,tKp,zKn,zKr,zKx,zKp]
  simp only [eKc,eKn,eKa,Nat.reduceEqDiff,↓reduceIte,gKz,gKs,dKs,and_self,wI_false]
  simp only [f13_k5,qKn,qKr,qKx,qKp,bKn,bKr,bKp,bKx,tKn,tKr,tKx,tKp,zKn,zKr,zKx,zKp,if_true]
  exact hend _ h0 (by omega)
end Go.Ce
namespace Go.Ce
open Go Go.Proofs Go.Proofs.Tryz
def byteI (l:List Int):List UInt8:=l.map fun k=>UInt8.ofNat k.toNat
theorem cellBytes_kinds:∀ l:List Int,cellBytes (kinds8 l)=some (byteI l)
 | []=>rfl
 | a::l=>by
  have:=cellBytes_kinds l
  unfold kinds8 byteI at this ⊢
  simp only [List.map_cons,cellBytes,this]
theorem cvb_own {W:CW} {v:Value} {l:List Int} (h:Own W 5 1 v (kinds8 l)):cvb prog 29 9 v W=some (.string ⟨(byteI l).toArray⟩):=by
 have h5:prog.underlying 5=some (.int .u8):=by kernel_rfl
 unfold cvb
 rw [u29,u9]
 have hll:=kinds8_len l
 have hcb:=cellBytes_kinds l
 generalize kinds8 l=cs at h hll hcb
 cases h with
 | nil =>
  simp only [cbts,h5,firstN,optB]
  rw [show cellBytes []=some (byteI l) from hcb]
 | @some b len _ hB hl =>
  obtain ⟨c,n,z,ho,hn,hc⟩:=hB
  have hnl:len=cs.length:=by omega
  have hf:firstN (some ⟨b,0,none⟩) len W=some cs:=by
   simp only [firstN,ho]
   cases hz:Nat.beq len 0 with
   | true =>
    have:=Nat.eq_of_beq_eq_true hz
    have:cs=[]:=List.length_eq_zero_iff.1 (by omega)
    subst this; rfl
   | false =>
    have hble:Nat.ble (0+len) n=true:=Nat.ble_eq_true_of_le (by omega)
    simp only [cond_false,hble,cond_true]
    rw [hnl,readCells_of fun j v hj=>by rw [Nat.zero_add]; exact hc j v hj]
  simp only [cbts,h5,hf,optB,hcb]
theorem cat_of {c:List Shp} (h1:c.length≤102) (h2:∀ x,x ∈ c→GShp x):Cat c :=
 ⟨by omega,fun x hx=>by have:=(h2 x hx).2.2.1; omega,fun x hx=>by have:=(h2 x hx).1; omega,fun x hx=>by have:=(h2 x hx).2.1; omega,fun x hx f hf=>by have:=(h2 x hx).2.2.2 f hf; omega⟩
theorem mem16:memN pkL 16=true:=by kernel_rfl
theorem mem16':memN pkL (16+2000000)=true:=by kernel_rfl
def IsTrue:Ending→CW→Prop:=fun e _=>e=.returned (.bool true)
end Go.Ce
namespace Go.Ce
open Go Go.Proofs Go.Proofs.Tryz
theorem view_byte {W:CW} {v:Value} (h:Leaf prog W 29 v):∃ b,BsIn W v b∧b.length≤maxLen:=by
 obtain ⟨b,h1,h2,h3⟩:=view_sl (α:=UInt8) (R:=RByte W) u29 c5 h fun m cs k off hc hj=>by
  cases m with
  | zero=>exact hc.elim
  | succ m =>
   simp only [CT,ut5] at hc
   obtain ⟨x,rfl,hw⟩:=hc
   have hb:=wf_u8 hw
   refine ⟨UInt8.ofNat x.toNat,?_⟩
   have:=hj 0 (by omega)
   show W.cell k off=_
   rw [Nat.add_zero] at this
   rw [this]
   show some (Value.int .u8 x)=some (Value.int .u8 _)
   congr 2
   rw [UInt8.toNat_ofNat_of_lt' (by show x.toNat<256; omega)]
   omega
 obtain ⟨a,cap,rfl,hc⟩:=id h1
 exact ⟨b,⟨a,cap,rfl,(h2 _ _ _ rfl).2,hc⟩,h3⟩
theorem BsIn.is {W:CW} {v:Value} {b:List UInt8} (h:BsIn W v b):IsSl 1 (RByte W) v b:=by
 obtain ⟨a,cap,rfl,_,hc⟩:=h.sl
 exact ⟨a,cap,rfl,hc⟩
theorem byteI_bI (b:List UInt8):byteI (bI b)=b:=by
 unfold byteI bI
 rw [List.map_map]
 have:((fun k:Int=>UInt8.ofNat k.toNat) ∘ fun x:UInt8=>((x.toNat:Nat):Int))=id:=by
  funext x
  simp
 rw [this,List.map_id]
theorem readP_cases (c:List Shp) (l:List Spc) (b:List UInt8):(∃ e:Int,e≠0∧readP c l b=([],0,e))∨∃ ts xs,catOk c=true∧specOk c l=true∧Canon c (askR c l) ts xs∧bI b=encAll c ts xs∧readP c l b=(xs.map (backP c l),min (xs.length:Int) 1,0):=by
 unfold readP
 cases hok:catOk c with
 | false=>exact .inl ⟨210,by decide,by simp⟩
 | true =>
  cases hs:specOk c l with
  | false=>exact .inl ⟨212,by decide,by simp⟩
  | true =>
   by_cases hl:100000<b.length
   ·exact .inl ⟨2,by decide,by simp [hl]⟩
   ·cases hr:thingsR b c (askR c l) 0 with
    | error e=>exact .inl ⟨e,thingsR_err askR_err hr,by simp [hl]⟩
    | ok r =>
     obtain ⟨xs,at'⟩:=r
     obtain ⟨ts,h1,h2⟩:=thingsR_canon hr
     exact .inr ⟨ts,xs,rfl,rfl,h1,h2,by simp [hl]⟩
theorem ext3_0 (a b d:Value):ext (.tuple #[a,b,d]) 0=some a:=rfl
theorem ext3_1 (a b d:Value):ext (.tuple #[a,b,d]) 1=some b:=rfl
theorem ext3_2 (a b d:Value):ext (.tuple #[a,b,d]) 2=some d:=rfl
theorem whole_true {W:CW} {v0 v1 v2:Value} {c:List Shp} {l:List Spc} {b:List UInt8} (ht:Top W) (hcat:IsSl 5 (RShp W) v0 c) (hspc:IsSl 3 (RSpc W) v1 l) (hb:BsIn W v2 b):WCall prog pkL 4 [v0,v1,v2] W IsTrue:=by
 refine f4_w ?_
 rw [f4_c]
 generalize hKK:wLeave prog Tryz.f4 IsTrue=KK
 have hret:∀ (e:Env) W',e 6=.bool true→KK .ret e [] W':=by
  intro e W' h6
  rw [←hKK,f4_leave,h6]
  rfl
 have skip:∀ (e:Env),e 24=.bool true→(f4_k14 none KK) .normal e [] W:=by
  intro e h24
  simp only [f4_k14,qKn,qKr,qKx,qKp,bKn,bKr,bKp,bKx,tKn,tKr,tKx,tKp,zKn,zKr,zKx,zKp,h24,wI_true]
  refine wCall_known mem16 mem16' ?_
  refine onEnd_of ?_
  simp only [f4_k11,f4_k7,qKn,qKr,qKx,qKp,bKn,bKr,bKp,bKx,tKn,tKr,tKx,tKp,zKn,zKr,zKx,zKp]
  exact hret _ W rfl
 refine (shapes13_ok hcat).mono fun en W1 ⟨hW,b13,he,hb13⟩=>?_
 subst hW; subst he
 refine onEnd_of ?_
 simp only [ngt_bool,wV_some]
 cases b13 with
 | false=>exact skip _ rfl
 | true =>
  simp only [Bool.not_true,wI_false]
  refine (specials14_ok hspc).mono fun en W2 ⟨hW,b14,he,hb14⟩=>?_
  subst hW; subst he
  refine onEnd_of ?_
  simp only [ngt_bool,wV_some]
  cases b14 with
  | false=>exact skip _ rfl
  | true =>
   simp only [Bool.not_true,wI_false]
   obtain ⟨a,cap,hv2,hcap,hbt⟩:=id hb.sl
   have hlen:clen prog 29 v2 W2=some (.int .i64 b.length):=by rw [hv2]; exact clen_sl u29 _ _ _ _
   rw [hlen]
   simp only [wV_some,cbin_gtr]
   by_cases h3:(b.length:Int)>3000
   ·exact skip _ (by show Value.bool (decide _)=_; rw [decide_eq_true h3])
   ·obtain ⟨c1,c2⟩:=hb13 rfl
    obtain ⟨l1,l2⟩:=hb14 rfl
    have hC:=cat_of c1 c2
    rw [decide_eq_false h3]
    simp only [f4_k14,qKn,qKr,qKx,qKp,bKn,bKr,bKp,bKx,tKn,tKr,tKx,tKp,zKn,zKr,zKx,zKp]
    simp only [eKc,eKn,eKa,Nat.reduceEqDiff,↓reduceIte,gKz,gKs,dKs,and_self,wI_false]
    simp only [f4_k11,qKn,qKr,qKx,qKp,bKn,bKr,bKp,bKx,tKn,tKr,tKx,tKp,zKn,zKr,zKx,zKp]
    simp only [eKc,eKn,eKa,Nat.reduceEqDiff,↓reduceIte,gKz,gKs,dKs,and_self]
    refine (read19_ok ht hcat hC hspc (by omega) (fun s hs=>by have:=l2 s hs; omega) hb).mono fun en W3 ⟨k3,t3,v,qs,he,hH,hq,hbd⟩=>?_
    subst he
    refine onEnd_of ?_
    refine wV_of (ext3_0 _ _ _) ?_
    refine wV_of (ext3_1 _ _ _) ?_
    refine wV_of (ext3_2 _ _ _) ?_
    rcases readP_cases c l b with ⟨x,hx,hr⟩ | ⟨ts,xs,hok,hs,hCa,hbe,hr⟩
    ·rw [hr] at hq ⊢
     have hq0:qs=[]:=List.map_eq_nil_iff.1 hq
     subst hq0
     simp only [cbin_neq,wV_some,show (x != 0)=true by simpa using hx,wI_true]
     refine wCall_known mem16 mem16' ?_
     refine onEnd_of ?_
     simp only [wI_true]
     refine wV_of (ownLen (m:=0) u24 hH.own (by omega) (by rfl)) ?_
     simp only [cbin_eql,wV_some,Int.ofNat_zero,Int.natCast_zero,beq_self_eq_true,wI_true,f4_k8,f4_k7,qKn,qKr,qKx,qKp,bKn,bKr,bKp,bKx,tKn,tKr,tKx,tKp,zKn,zKr,zKx,zKp]
     exact hret _ W3 rfl
    ·rw [hr] at hq ⊢
     have hz:((0:Int) != 0)=false:=rfl
     simp only [cbin_neq,wV_some,hz,wI_false,f4_k7,qKn,qKr,qKx,qKp,bKn,bKr,bKp,bKx,tKn,tKr,tKx,tKp,zKn,zKr,zKx,zKp]
     simp only [eKc,eKn,eKa,Nat.reduceEqDiff,↓reduceIte,gKz,gKs,dKs,and_self]
     have hql:qs.length=xs.length:=by
      have:=congrArg List.length hq
      simpa using this
     have hx1:=hCa.len
     obtain ⟨p1,p2,p3,p4,p5⟩:=whole_plain hok hs hCa
     have hbl:(encAll c ts xs).length≤3000:=by rw [←hbe,bI_len]; omega
     have hwr:writeP c l (xs.map (backP c l)) (min (xs.length:Int) 1)=(bI b,0):=by
      unfold writeP
      rw [if_neg (by rw [p1]; simp),p2,p3,if_neg (by simp),p5,hbe]
     have hin:IsSl 2 (RThg W3) v (xs.map (backP c l)):=by
      have h1:qs.map (·.1)=xs.map (backP c l):=hq
      rw [←h1]
      exact heap_thg hH hbd
     refine (write17_ok t3 (hcat.imp fun _ _ _ hr=>hr.kp ht k3) hC (hspc.imp fun _ _ _ hr=>hr.kp ht k3) (by omega) (fun s hs=>by have:=l2 s hs; omega) hin (by rw [List.length_map]; omega) (.inr (.inr fun _ _=>.inr ⟨by rw [p2,p4]; exact hCa.tsl,by rw [p2,p5]; exact hbl⟩)) (fun x hx=>?_)).mono fun en W4 ⟨k4,t4,v17,he,ho17⟩=>?_
     ·obtain ⟨_,_,hth,_,_⟩:=askP_zero p1
      obtain ⟨i,s,T⟩:=thing_is ((things_all hth).2 x hx)
      have:=many_le hC T.many
      omega
     subst he
     rw [hwr] at ho17 ⊢
     refine onEnd_of ?_
     refine wV_of (ext2_0 _ _) ?_
     refine wV_of (ext2_1 _ _) ?_
     refine wCall_known mem16 mem16' ?_
     refine onEnd_of ?_
     simp only [wI_true]
     simp only [cbin_eql,wV_some,beq_self_eq_true,wI_true]
     refine wV_of (cvb_own ho17) ?_
     refine wV_of (cvb_bytes (hb.kp ht (k3.trans k4)).is) ?_
     refine wV_of (cbin_seql _ _) ?_
     simp only [f4_k4,qKn,qKr,qKx,qKp,bKn,bKr,bKp,bKx,tKn,tKr,tKx,tKp,zKn,zKr,zKx,zKp]
     refine hret _ W4 ?_
     show Value.bool _=_
     rw [byteI_bI,show strOf b=⟨b.toArray⟩ from rfl,bEq_self]
end Go.Ce
