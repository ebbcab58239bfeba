/- A part of the proof: Pt, Pu, Pv, Pw, Px, Py, Pz, ShC, Qa, Qb, Qc, Qd, Qe, Qf, Qg, Qh, Qi. -/
import Derived.Test.YtmknebebbbjdlaaGreatW02
import Derived.Test.YtmknebebbbjdlaaGreatProg
set_option linter.unusedSectionVars false
set_option linter.unusedVariables false
set_option linter.unusedSimpArgs false
set_option maxRecDepth 200000
namespace Go.Ce
open Go Go.Proofs Go.Proofs.Tryz
theorem Ig {l:List Bc} {s:ByteArray} {x:Bc} (h:Gy l s=some x):∃ i:Nat,l[i]?=some x∧x.type=s:=by
 unfold Gy at h; obtain ⟨h1,i,hi,h2,_⟩:=List.find?_eq_some_iff_getElem.1 h; exact ⟨i,by rw [List.getElem?_eq_getElem hi,h2],by simpa using h1⟩
structure tf (c:List Ad) (s:Bc) (t a:Nat):Prop where
 ti:A_ c s.type=some t
 ai:A_ c s.to=some a
 et:elemAt c t=0
 ea:elemAt c a=0
 len:s.map.length=(Ak c a).length
 map:∀ k,k<(Ak c a).length→∃ n:Int,s.map[k]?=some n∧0≤n∧n<(Ak c t).length∧(Ak c t)[n.toNat]?=(Ak c a)[k]?∧RF s.map k n=false
theorem RH {c:List Ad} {l:List Bc} (h:BG c l=true) {i:Nat} {s:Bc} (hs:l[i]?=some s):∃ t a,tf c s t a:=by
 unfold BG at h; simp only [Bool.and_eq_true,Bool.not_eq_true'] at h; have hb:=Dh h.2 (List.getElem?_eq_some_iff.1 hs).1; unfold RG at hb; rw [hs] at hb; simp only at hb
 cases TO:A_ c s.type with
 | none=>rw [TO] at hb; cases hb
 | some t =>
  rw [TO] at hb
  cases cu:A_ c s.to with
  | none=>rw [cu] at hb; cases hb
  | some a =>
   rw [cu] at hb; simp only [Bool.or_eq_false_iff,decide_eq_false_iff_not,Decidable.not_not] at hb; obtain ⟨⟨⟨h1,h2⟩,h3⟩,h4,h5,h6⟩:=hb; refine ⟨t,a,TO,cu,h1,h2,h5,fun k hk=>?_⟩; have hm:=Dh h6 hk; unfold La at hm
   cases hx:s.map[k]? with
   | none=>rw [hx] at hm; cases hm
   | some n =>
    rw [hx] at hm; simp only [Bool.or_eq_false_iff,decide_eq_false_iff_not,Decidable.not_not] at hm; obtain ⟨⟨⟨m1,m2⟩,m3⟩,m4⟩:=hm; exact ⟨n,rfl,by omega,by omega,m3,m4⟩
structure Up (c:List Ad) (x:BM) (size i:Nat) (s:Ad):Prop where
 ti:A_ c x.type=some i
 si:c[i]?=some s
 many:Eh c i s x.AH.length=true
 val:∀ (k:Nat) n,x.AH[k]?=some n→Gd (A6 c i k) n size=true
theorem DK {c:List Ad} {x:BM} {size:Nat} (h:BF c x size=true):∃ i s,Up c x size i s:=by
 unfold BF at h
 cases TO:A_ c x.type with
 | none=>rw [TO] at h; cases h
 | some i =>
  rw [TO] at h; have hs:=List.getElem?_eq_getElem (D2 TO); simp only [hs,Bool.and_eq_true,Bool.not_eq_true'] at h; refine ⟨i,_,TO,hs,h.1,fun k n hk=>?_⟩; have:=Dh h.2 (List.getElem?_eq_some_iff.1 hk).1; rw [hk] at this
  simpa using this
theorem Uq {c:List Ad} {x:BM} {size i:Nat} {s:Ad} (h:Up c x size i s):BF c x size=true:=by
 unfold BF; rw [h.ti]; simp only [h.si,h.many,Bool.true_and]
 rw [FA fun j hj=>?_]
 ·rfl
 ·have:=List.getElem?_eq_getElem hj; rw [this]; simp only [h.val j _ this,Bool.not_true]
theorem ES {c:List Ad} {h:List BM} (ht:¬ER c h≥0):h.length≤1000∧∀ x,x ∈ h→BF c x h.length=true:=by
 unfold ER at ht
 by_cases hl:1000<h.length
 ·rw [if_pos hl] at ht; omega
 ·rw [if_neg hl] at ht; refine ⟨by omega,fun x hx=>?_⟩; unfold Ib at ht
  cases hf:h.findIdx? fun x=>!BF c x h.length with
  | some i=>rw [hf] at ht; simp only at ht; omega
  | none =>
   rw [List.findIdx?_eq_none_iff] at hf
   simpa using hf x hx
theorem Gf {c:List Ad} {i many:Nat} {s:Ad} (hs:c[i]?=some s) (he:elemAt c i=0) (hm:Eh c i s many=true):many=(Ak c i).length:=by
 unfold Eh at hm; unfold elemAt at he; rw [hs] at he; rw [if_neg (by simpa using he)] at hm; exact of_decide_eq_true hm
theorem Gg {c:List Ad} {i:Nat} (he:elemAt c i=0) (hi:i<c.length) (k:Nat):A6 c i k=((Ak c i)[k]?).getD 0:=by
 unfold A6; unfold elemAt at he; rw [List.getElem?_eq_getElem hi] at he ⊢; simp only at he ⊢; rw [if_neg (by simpa using he)]
theorem MZ {c:List Ad} {l:List Bc} {x:BM} {size:Nat} (hs:BG c l=true) (hx:BF c x size=true):∀ s,Gy l x.type=some s→∀ m,m ∈ s.map→0≤m∧m.toNat<x.AH.length:=by
 intro s Gz m hm; obtain ⟨i,hi,NU⟩:=Ig Gz; obtain ⟨t,a,S⟩:=RH hs hi; obtain ⟨ti,si,T⟩:=DK hx; have TO:ti=t:=by have h1:=T.ti; rw [←NU,S.ti] at h1; exact (Option.some.inj h1).symm
 subst TO; have Nx:=Gf T.si S.et T.many; obtain ⟨k,hk,hkm⟩:=List.mem_iff_getElem.1 hm; obtain ⟨n,h1,h2,h3,_⟩:=S.map k (by rw [←S.len]; exact hk); rw [List.getElem?_eq_getElem hk,hkm] at h1
 cases h1
 omega
theorem CJ {c:List Ad} {l:List Bc} {x:BM} {size:Nat} (hs:BG c l=true) (hx:BF c x size=true):BF c (AL l x) size=true:=by
 unfold AL
 cases Gz:Gy l x.type with
 | none=>exact hx
 | some s =>
  obtain ⟨i,hi,NU⟩:=Ig Gz; obtain ⟨t,a,S⟩:=RH hs hi; obtain ⟨ti,si,T⟩:=DK hx; have TO:ti=t:=by have h1:=T.ti; rw [←NU,S.ti] at h1; exact (Option.some.inj h1).symm
  subst TO; have Nx:=Gf T.si S.et T.many; have mv:=D2 S.ai; have S1:=D2 S.ti
  refine Uq (i:=a) (s:=c[a]) ⟨S.ai,List.getElem?_eq_getElem mv,?_,fun k n hk=>?_⟩
  ·have hea:=S.ea; unfold elemAt at hea; rw [List.getElem?_eq_getElem mv] at hea; unfold Eh; rw [if_neg (by simpa using hea)]; exact decide_eq_true (by rw [List.length_map]; exact S.len)
  ·have hk':k<s.map.length:=by
    have:=(List.getElem?_eq_some_iff.1 hk).1
    simpa using this
   obtain ⟨m,h1,h2,h3,h4,_⟩:=S.map k (by rw [←S.len]; exact hk'); simp only [List.getElem?_map,h1,Option.map_some,Option.some.injEq] at hk; have pk:m.toNat<x.AH.length:=by omega
   have hxv:=List.getElem?_eq_getElem pk; have:=T.val _ _ hxv; rw [Gg S.et S1,h4] at this; rw [Gg S.ea mv,←hk]; unfold Ge; rw [hxv]; exact this
def FB (c:List Ad) (i:Nat) (vs:List Int):Nat→List Int
 | 0=>[]
 | k+1=>FB c i vs k++(if A6 c i k=2 then (vs[k]?).toList else [])
def refsOf (c:List Ad) (y:BM):List Int:=match A_ c y.type with
 | some i=>FB c i y.AH y.AH.length
 | none=>[]
def visit (o:List Int) (v:Int):List Int:=if 0<v∧v ∉ o then o++[v] else o
def Ap (refs:Int→List Int):Nat→List Int→Nat→List Int
 | 0,o,_=>o
 | f+1,o,n=>match o[n]? with
  | none=>o
  | some v=>Ap refs f ((refs v).foldl visit o) (n+1)
def placeOf (o:List Int) (v:Int):Int:=match o.findIdx? (fun x=>decide (x=v)) with
 | some i=>(i:Int)+1
 | none=>0
theorem Gh {o:List Int} {v:Int} (h:v ∉ o):placeOf o v=0:=by
 unfold placeOf
 have:o.findIdx? (fun x=>decide (x=v))=none:=by
  rw [List.findIdx?_eq_none_iff]; intro x hx; exact decide_eq_false (fun e=>h (e ▸ hx))
 rw [this]
theorem SQ {o:List Int} {v:Int} (h:v ∈ o):0<placeOf o v:=by
 unfold placeOf
 cases hf:o.findIdx? (fun x=>decide (x=v)) with
 | none =>
  rw [List.findIdx?_eq_none_iff] at hf; have:=hf v h; simp at this
 | some i=>simp only; omega
theorem SR {o:List Int} {u v:Int} (h:v ∉ o):placeOf (o++[v]) u=if u=v then (o.length:Int)+1 else placeOf o u:=by
 unfold placeOf; rw [List.findIdx?_append]
 by_cases e:u=v
 ·subst e
  have:o.findIdx? (fun x=>decide (x=u))=none:=by
   rw [List.findIdx?_eq_none_iff]; intro x hx; exact decide_eq_false (fun e=>h (e ▸ hx))
  rw [this,if_pos rfl]; simp
 ·rw [if_neg e]
  cases hf:o.findIdx? (fun x=>decide (x=u)) with
  | some i=>simp
  | none =>
   have:([v].findIdx? fun x=>decide (x=u))=none:=by
    simp [Ne.symm e,List.findIdx?_cons]
   rw [this]; simp
structure Found (o:List Int) (n:Nat):Prop where
 nodup:o.Nodup
 low:∀ v,v ∈ o→0<v
 high:∀ v,v ∈ o→v≤n
theorem Ur:∀ (n:Nat) (o:List Int),o.Nodup→(∀ v,v ∈ o→0<v∧v≤n)→o.length≤n
 | 0,o,_,h=>by
  cases o with
  | nil=>exact Nat.le_refl _
  | cons a o=>have:=h a (List.mem_cons_self ..); omega
 | n+1,o,hd,h=>by
  by_cases hm:((n+1:Nat):Int) ∈ o
  ·have h1:=Ur n (o.erase ((n+1:Nat):Int)) (hd.erase _) fun v hv=>by
    obtain ⟨h2,h3⟩:=(List.Nodup.mem_erase_iff hd).1 hv; have:=h v h3; omega
   rw [List.length_erase_of_mem hm] at h1; omega
  ·have:=Ur n o hd fun v hv=>by
    have h1:=h v hv; have:v≠((n+1:Nat):Int):=fun e=>hm (e ▸ hv); omega
   omega
theorem Found.len {o:List Int} {n:Nat} (h:Found o n):o.length≤n:=Ur n o h.nodup fun v hv=>⟨h.low v hv,h.high v hv⟩
theorem Found.visit {o:List Int} {n:Nat} (h:Found o n) {v:Int} (hv:v≤n):Found (visit o v) n:=by
 unfold Go.Ce.visit
 split
 ·rename_i hc
  refine ⟨?_,?_,?_⟩
  ·rw [List.nodup_append]; exact ⟨h.nodup,by simp,fun a ha b hb=>by rw [List.mem_singleton.1 hb]; exact fun e=>hc.2 (e ▸ ha)⟩
  ·intro u hu
   rcases List.mem_append.1 hu with hu | hu
   ·exact h.low u hu
   ·rw [List.mem_singleton.1 hu]; exact hc.1
  ·intro u hu
   rcases List.mem_append.1 hu with hu | hu
   ·exact h.high u hu
   ·rw [List.mem_singleton.1 hu]; exact hv
 ·exact h
theorem eW {refs:Int→List Int} {o:List Int} {n:Nat} (h:o.length≤n):∀ f,Ap refs f o n=o
 | 0=>rfl
 | f+1=>by unfold Ap; rw [List.getElem?_eq_none h]
theorem aP {refs:Int→List Int} {o:List Int} {n f:Nat} {v:Int} (h:o[n]?=some v):Ap refs (f+1) o n=Ap refs f ((refs v).foldl visit o) (n+1):=by
 rw [Ap,h]
end Go.Ce
namespace Go.Ce
open Go Go.Proofs Go.Proofs.Tryz
theorem aQ (o:List Int) (v:Int):C7 (o++[v])=C7 o++[.int .i64 v]:=by simp [C7]
theorem Ih (o:List Int):(C7 o).length=o.length:=by simp [C7]
theorem aR {c:List Ad} {i k:Nat} {vs:List Int} {n:Int} (h:vs[k]?=some n):FB c i vs (k+1)=FB c i vs k++(if A6 c i k=2 then [n] else []):=by
 rw [FB,h]; rfl
def CS (c:List Ad) (l:List Bc) (h:List BM) (v:Int):List Int:=match h[(v-1).toNat]? with
 | some x=>refsOf c (AL l x)
 | none=>[]
def start (root:Int):List Int:=if root>0 then [root] else []
def Ab (c:List Ad) (l:List Bc) (h:List BM) (root:Int):List Int:=Ap (CS c l h) h.length (start root) 0
theorem Found.start {root:Int} {n:Nat} (h:root≤n):Found (start root) n:=by
 unfold Go.Ce.start
 split
 ·exact ⟨List.pairwise_singleton _ _,fun v hv=>by rw [List.mem_singleton.1 hv]; assumption,fun v hv=>by rw [List.mem_singleton.1 hv]; exact h⟩
 ·exact ⟨List.nodup_nil,fun v hv=>(by cases hv),fun v hv=>(by cases hv)⟩
theorem PL {c:List Ad} {i m:Nat} {s:Ad} (hC:OP c) (h:Eh c i s m=true):m≤20100:=by
 unfold Eh at h
 split at h
 ·have:=of_decide_eq_true h; omega
 ·have:=of_decide_eq_true h; have h2:=MX hC.len hC.fields i; unfold Ak at this; rw [List.length_map] at this; omega
theorem eX {A W:CW} (hA:Al A) (k:Kp A W) {b o:Nat} {x:BM} (h:IZ A b o x):∃ vx,ld prog 56 (.pointer (some ⟨b,o,none⟩)) W=some (.agg #[.string x.type,vx])∧Ax 1 (De W) vx x.AH∧(x.AH≠[]→∀ j,BV vx j→j<A.sz):=by
 obtain ⟨v,h1,h2⟩:=h.AH
 refine ⟨v,BO (vs:=[.string x.type,v]) YX Ia rfl (by omega) ?_,h2.imp fun _ _ _ hr=>hr.kp hA k,fun Dm j hj=>?_⟩
 ·intro j w hj
  match j,hj with
  | 0,hj=>cases hj; exact k.cell hA h.type
  | 1,hj=>cases hj; exact k.cell hA h1
 ·obtain ⟨b,l,c,rfl,rfl⟩:=hj; obtain ⟨a',c',e,hc⟩:=h2
  cases e
  cases hv:x.AH with
  | nil=>exact (Dm hv).elim
  | cons n ns =>
   obtain ⟨p,hp,hr⟩:=hc 0 n (by rw [hv]; rfl)
   cases hp
   exact YV hA hr.1
end Go.Ce
namespace Go.Ce
open Go Go.Proofs Go.Proofs.Tryz
theorem Us:∀ (f n:Nat),n<128 ^ (f+1)→(B0 n).length≤f+1
 | 0,n,h=>by unfold B0; rw [if_pos (by simpa using h)]; simp
 | f+1,n,h=>by
  unfold B0
  split
  ·simp
  ·have:=Us f (n / 128) (by rw [Nat.pow_succ] at h; exact Nat.div_lt_of_lt_mul (by rw [Nat.mul_comm]; exact h)); simp only [List.length_cons]; omega
theorem Di {n:Nat} (h:n<100000000000000):(B0 n).length≤8:=Us 7 n (by omega)
def Km (n:Int):Int:=if n<0 then -2*n-1 else 2*n
def BS (t:List ByteArray) (s:ByteArray):List ByteArray:=if t.any (fun x=>decide (x=s)) then t else t++[s]
def DD (l:List Bc) (xs:List BM):List ByteArray:=xs.foldl (fun t x=>BS t (AL l x).type) []
def RI (o:List Int) (kind n:Int):List Int:=if kind=2 then B0 (placeOf o n).toNat else B0 (Km n).toNat
def F9 (c:List Ad) (o:List Int) (i:Nat) (vs:List Int):Nat→List Int
 | 0=>[]
 | k+1=>F9 c o i vs k++(match vs[k]? with
  | some n=>RI o (A6 c i k) n
  | none=>[])
def FC (c:List Ad) (t:List ByteArray) (o:List Int) (y:BM):List Int:=match A_ c y.type with
 | some i=>B0 (Ib t fun x=>decide (x=y.type)).toNat++(if elemAt c i≠0 then B0 y.AH.length else [])++F9 c o i y.AH y.AH.length
 | none=>[]
def AN (h:List BM) (o:List Int):List BM:=o.flatMap fun v=>(h[(v-1).toNat]?).toList
def Ei (c:List Ad) (l:List Bc) (h:List BM) (o:List Int):List Int :=
 [1]++B0 (DD l (AN h o)).length++(DD l (AN h o)).flatMap GZ++B0 o.length++(AN h o).flatMap fun x=>FC c (DD l (AN h o)) o (AL l x)
def Ma (l:List Bc) (h:List BM) (o:List Int):Bool:=(AN h o).any fun x=>l.any fun s=>decide (s.to=x.type)
def Dg (c:List Ad) (l:List Bc) (h:List BM) (root:Int):List Int × Int :=
 if I1 c l h root≠0 then ([],I1 c l h root) else if Ma l h (Ab c l h root) then ([],214) else (Ei c l h (Ab c l h root),0)
theorem TQ {c:List Ad} (h:BL c=true) {i:Nat} (hi:i<c.length):(Ak c i).length≤60∧∀ (k:Nat) n,(Ak c i)[k]?=some n→n=1∨n=2:=by
 unfold BL at h; simp only [Bool.and_eq_true,Bool.not_eq_true'] at h; have hb:=Dh h.2.2 hi; unfold MY at hb
 cases hl:Bu c c.length i with
 | none=>rw [hl] at hb; cases hb
 | some l =>
  rw [hl] at hb; simp only [Bool.or_eq_false_iff,decide_eq_false_iff_not] at hb; refine ⟨by unfold Ak; rw [List.length_map]; omega,fun k n hk=>?_⟩; unfold Ak at hk; rw [List.getElem?_map] at hk
  cases hf:(FM c i)[k]? with
  | none=>rw [hf] at hk; cases hk
  | some f =>
   rw [hf] at hk
   cases hk
   have:=Dh hb.2 (List.getElem?_eq_some_iff.1 hf).1; unfold Ie at this; rw [hf] at this; simp only [Bool.or_eq_false_iff,Bool.not_eq_false'] at this; have hk:=this.1.2; unfold Hs at hk
   simpa using hk
theorem nK {c:List Ad} (h:BL c=true) {i:Nat} (hi:i<c.length):elemAt c i=0∨elemAt c i=1∨elemAt c i=2:=by
 unfold BL at h; simp only [Bool.and_eq_true,Bool.not_eq_true'] at h; have hb:=Dh h.2.1 hi; unfold BW at hb; unfold elemAt; rw [List.getElem?_eq_getElem hi] at hb ⊢; simp only [Bool.or_eq_false_iff] at hb ⊢; have h1:=hb.2.1
 by_cases he:c[i].elem=0
 ·exact .inl he
 ·rw [decide_eq_true he,Bool.true_and] at h1; simp only [Bool.or_eq_false_iff,Bool.not_eq_false'] at h1; have:=h1.1.1; unfold Hs at this; right
  simpa using this
theorem rI {c:List Ad} (h:BL c=true) {i k:Nat} (hi:i<c.length) (hk:elemAt c i=0→k<(Ak c i).length):A6 c i k=1∨A6 c i k=2:=by
 by_cases he:elemAt c i=0
 ·rw [Gg he hi,List.getElem?_eq_getElem (hk he)]; exact (TQ h hi).2 k _ (List.getElem?_eq_getElem (hk he))
 ·have:=nK h hi; unfold A6; unfold elemAt at he this; rw [List.getElem?_eq_getElem hi] at he this ⊢; simp only at he this ⊢; rw [if_pos he]; omega
theorem aS {c:List Ad} (h:BL c=true) {i m:Nat} {s:Ad} (hs:c[i]?=some s) (hm:Eh c i s m=true):m≤200:=by
 unfold Eh at hm
 split at hm
 ·exact of_decide_eq_true hm
 ·have:=of_decide_eq_true hm; have:=(TQ h (List.getElem?_eq_some_iff.1 hs).1).1; omega
theorem Ut (a b:List Int):BB (a++b)=BB a++BB b:=by simp [BB]
theorem ET (a:List Int):(BB a).length=a.length:=by simp [BB]
theorem Uu (a:List Int):(BB a).all BN=true:=by
 rw [List.all_eq_true]; intro x hx; obtain ⟨y,_,rfl⟩:=List.mem_map.1 hx; rfl
end Go.Ce
namespace Go.Ce
open Go Go.Proofs Go.Proofs.Tryz
def strs (l:List ByteArray):List Value:=l.map fun s=>Value.string s
theorem rJ (s:ByteArray) (v:Value):tU prog 56 (.agg #[.string s,v]) 0=some (.string s):=by kernel_rfl
theorem th (s:ByteArray) (W:CW):V3 prog 51 1 [(0,.string s)] W=some (.slice (some ⟨W.sz,0,none⟩) 1 1,W.new (.cells (Tr.nil.Ag 0 [.string s]) [Value.string s].length #[] 9)):=by kernel_rfl
theorem z9:Gm prog 9=some (.string ⟨#[]⟩):=by kernel_rfl
theorem by9:(prog.info? 9).map (·.bytes)=some 16:=by kernel_rfl
structure Hp (c:List Ad) (h:List BM) (o:List Int):Prop where
 found:Found o h.length
 small:h.length<100000
 ok:∀ x,x ∈ h→BF c x h.length=true
theorem Hp.at {c:List Ad} {h:List BM} {o:List Int} (H:Hp c h o) {i:Nat} (hi:i<o.length):∃ w,o[i]=((w+1:Nat):Int)∧∃ hw:w<h.length,(h[(o[i]-1).toNat]?).toList=[h[w]]:=by
 have h1:=H.found.low _ (List.getElem_mem hi); have h2:=H.found.high _ (List.getElem_mem hi); refine ⟨(o[i]-1).toNat,by omega,by omega,?_⟩; rw [List.getElem?_eq_getElem (by omega)]; rfl
theorem Jo {c:List Ad} {h:List BM} {o:List Int} (H:Hp c h o) {i w:Nat} (hi:i<o.length) (hw:o[i]=((w+1:Nat):Int)) (Vc:w<h.length):AN h (o.take (i+1))=AN h (o.take i)++[h[w]]:=by
 unfold AN; rw [List.take_add_one,List.getElem?_eq_getElem hi]; rw [List.flatMap_append]; congr 1; simp only [Option.toList_some,List.flatMap_cons,List.flatMap_nil,List.append_nil,hw]; rw [show (((w+1:Nat):Int)-1).toNat=w by omega,List.getElem?_eq_getElem Vc]; rfl
theorem aT (t:List ByteArray) (s:ByteArray):strs (t++[s])=strs t++[.string s]:=by simp [strs]
theorem Mb (t:List ByteArray):(strs t).length=t.length:=by simp [strs]
theorem aU {t:List ByteArray} {s:ByteArray}:Ib t (fun x=>decide (x=s))<0↔t.any (fun x=>decide (x=s))=false:=by
 unfold Ib
 cases h:t.findIdx? fun x=>decide (x=s) with
 | none =>
  rw [List.findIdx?_eq_none_iff] at h; simp only [List.any_eq_false]; exact ⟨fun _ x hx=>by rw [h x hx]; simp,fun _=>by omega⟩
 | some i =>
  obtain ⟨h1,h2,_⟩:=List.findIdx?_eq_some_iff_getElem.1 h
  constructor
  ·intro h3; simp only at h3; omega
  ·intro h3; rw [List.any_eq_true.2 ⟨_,List.getElem_mem h1,h2⟩] at h3
   cases h3
def JR (l:List Bc) (h:List BM) (o:List Int) (i:Nat):List ByteArray:=DD l (AN h (o.take i))
theorem eY {c:List Ad} {l:List Bc} {h:List BM} {o:List Int} (H:Hp c h o) {i w:Nat} (hi:i<o.length) (hw:o[i]=((w+1:Nat):Int)) (Vc:w<h.length):JR l h o (i+1)=BS (JR l h o i) (AL l h[w]).type:=by
 unfold JR DD; rw [Jo H hi hw Vc,List.foldl_append]; rfl
theorem aV (t:List ByteArray) (s:ByteArray):(BS t s).length≤t.length+1:=by
 unfold BS; split <;> simp
theorem Kn (l:List Bc):∀ (xs:List BM) (t:List ByteArray),(xs.foldl (fun t x=>BS t (AL l x).type) t).length≤t.length+xs.length
 | [],t=>by simp
 | x::xs,t=>by
  have:=Kn l xs (BS t (AL l x).type); have:=aV t (AL l x).type; simp only [List.foldl_cons,List.length_cons]; omega
theorem Gi (h:List BM):∀ o:List Int,(AN h o).length≤o.length
 | []=>by simp [AN]
 | v::o=>by
  have:=Gi h o; have h2:((h[(v-1).toNat]?).toList).length≤1:=by cases h[(v-1).toNat]? <;> simp
  unfold AN at this ⊢; rw [List.flatMap_cons,List.length_append,List.length_cons]; omega
theorem aW (l:List Bc) (h:List BM) (o:List Int) (i:Nat):(JR l h o i).length≤o.length:=by
 have h1:=Kn l (AN h (o.take i)) []; have h2:=Gi h (o.take i); have:(o.take i).length≤o.length:=by rw [List.length_take]; omega
 unfold JR DD; simp only [List.length_nil] at h1; omega
end Go.Ce
namespace Go.Ce
open Go Go.Proofs Go.Proofs.Tryz
theorem jV {s:ByteArray} (h:s.size<1000):(GZ s).length≤1008:=by
 unfold GZ; rw [List.length_append]; have h1:=Di (n:=s.size) (by omega); have h2:(Hj s).length=s.size:=by unfold Hj; rw [List.length_map,M']
 omega
theorem RJ:∀ (ts:List ByteArray),(∀ s,s ∈ ts→s.size<1000)→(ts.flatMap GZ).length≤ts.length*1008
 | [],_=>by simp
 | s::ts,h=>by
  have h1:=RJ ts fun s hs=>h s (List.mem_cons_of_mem _ hs); have h2:=jV (h s (List.mem_cons_self ..)); rw [List.flatMap_cons,List.length_append,List.length_cons,Nat.succ_mul]; omega
theorem nL {o:List Int} {k n:Int} (ho:o.length<100000) (hn:k≠2→-1000000000≤n∧n≤1000000000):(RI o k n).length≤8:=by
 unfold RI
 split
 ·refine Di ?_; unfold placeOf
  split
  ·rename_i i hi; have:=(List.findIdx?_eq_some_iff_getElem.1 hi).1; omega
  ·decide
 ·rename_i hk; have:=hn hk; refine Di ?_; unfold Km; split <;> omega
theorem OQ {c:List Ad} {o:List Int} {i:Nat} {vs:List Int} (ho:o.length<100000) (hn:∀ (k:Nat) n,vs[k]?=some n→A6 c i k≠2→-1000000000≤n∧n≤1000000000):∀ k,(F9 c o i vs k).length≤k*8
 | 0=>by simp [F9]
 | k+1=>by
  have h1:=OQ (c:=c) (i:=i) ho hn k; unfold F9; rw [List.length_append]
  cases hx:vs[k]? with
  | none=>simp only [List.length_nil]; omega
  | some n =>
   have:=nL (k:=A6 c i k) ho (hn k n hx); simp only; omega
theorem OR (o:List Int) (v:Int):0≤placeOf o v∧placeOf o v≤o.length:=by
 unfold placeOf
 split
 ·rename_i i hi; have:=(List.findIdx?_eq_some_iff_getElem.1 hi).1; omega
 ·omega
theorem Ii {c:List Ad} {y:BM} {n i:Nat} {s:Ad} (h:BL c=true) (Y:Up c y n i s) {k:Nat} {v:Int} (hx:y.AH[k]?=some v):(A6 c i k=2∧0≤v∧v≤n)∨(A6 c i k=1∧-1000000000≤v∧v≤1000000000):=by
 have hv:=Y.val k v hx
 have hk:A6 c i k=1∨A6 c i k=2:=rI h (D2 Y.ti) fun he=>by
  have:=Gf Y.si he Y.many; have:=(List.getElem?_eq_some_iff.1 hx).1; omega
 unfold Gd at hv
 rcases hk with hk | hk
 ·right; rw [hk] at hv; simp at hv; exact ⟨hk,by omega,by omega⟩
 ·left; rw [hk] at hv; simp at hv; exact ⟨hk,by omega,by omega⟩
end Go.Ce
namespace Go.Ce
open Go Go.Proofs Go.Proofs.Tryz
theorem Uv (l:List Bc) {s:ByteArray}:∀ (xs:List BM) (t:List ByteArray),t.any (fun x=>decide (x=s))=true→(xs.foldl (fun t x=>BS t (AL l x).type) t).any (fun x=>decide (x=s))=true
 | [],t,h=>h
 | x::xs,t,h=>by
  rw [List.foldl_cons]; refine Uv l xs _ ?_; unfold BS
  split
  ·exact h
  ·rw [List.any_append,h]; rfl
theorem Wz (l:List Bc):∀ (xs:List BM) (t:List ByteArray) (x:BM),x ∈ xs→(xs.foldl (fun t x=>BS t (AL l x).type) t).any (fun u=>decide (u=(AL l x).type))=true
 | [],t,x,h=>by cases h
 | y::xs,t,x,h=>by
  rw [List.foldl_cons]
  rcases List.mem_cons.1 h with rfl | h
  ·refine Uv l xs _ ?_; unfold BS
   split
   ·assumption
   ·rw [List.any_append]; simp
  ·exact Wz l xs _ x h
theorem OS (l:List Bc) {s:ByteArray}:∀ (xs:List BM) (t:List ByteArray),s ∈ xs.foldl (fun t x=>BS t (AL l x).type) t→s ∈ t∨∃ x,x ∈ xs∧s=(AL l x).type
 | [],t,h=>.inl h
 | y::xs,t,h=>by
  rw [List.foldl_cons] at h
  rcases OS l xs _ h with h | ⟨x,hx,e⟩
  ·unfold BS at h
   split at h
   ·exact .inl h
   ·rcases List.mem_append.1 h with h | h
    ·exact .inl h
    ·exact .inr ⟨y,List.mem_cons_self ..,List.mem_singleton.1 h⟩
  ·exact .inr ⟨x,List.mem_cons_of_mem _ hx,e⟩
theorem Ye {h:List BM} {o:List Int} {x:BM} (hx:x ∈ AN h o):x ∈ h:=by
 unfold AN at hx; obtain ⟨v,_,hv⟩:=List.mem_flatMap.1 hx
 cases hg:h[(v-1).toNat]? with
 | none=>rw [hg] at hv; cases hv
 | some y=>rw [hg] at hv; rw [List.mem_singleton.1 hv]; exact List.mem_of_getElem? hg
theorem nM {c:List Ad} (hC:OP c) {s:ByteArray} {i:Nat} (h:A_ c s=some i):s.size<1000:=by
 obtain ⟨h1,h2,_⟩:=List.findIdx?_eq_some_iff_getElem.1 h; have:=hC.name _ (List.getElem_mem h1); rw [←of_decide_eq_true h2]; exact this
theorem eZ {c:List Ad} {t:List ByteArray} {o:List Int} {y:BM} {n i:Nat} {s:Ad} (hc:BL c=true) (Y:Up c y n i s) (ho:o.length<100000) (S1:t.length<100000):(FC c t o y).length≤1616:=by
 unfold FC; rw [Y.ti]
 have h1:(B0 (Ib t fun x=>decide (x=y.type)).toNat).length≤8:=Di (by
  unfold Ib
  split
  ·rename_i i hi; have:=(List.findIdx?_eq_some_iff_getElem.1 hi).1; omega
  ·decide)
 have hm:=aS hc Y.si Y.many
 have h2:(if elemAt c i≠0 then B0 y.AH.length else []).length≤8:=by
  split
  ·exact Di (by omega)
  ·simp
 have h3:=OQ (c:=c) (o:=o) (i:=i) (vs:=y.AH) ho (fun k n hx hk=>by
   rcases Ii hc Y hx with h | h
   ·exact (hk h.1).elim
   ·exact h.2) y.AH.length
 simp only [List.length_append]; omega
theorem OT {c:List Ad} {l:List Bc} {t:List ByteArray} {o:List Int} {n:Nat} (hc:BL c=true) (ho:o.length<100000) (S1:t.length<100000):∀ xs:List BM,(∀ x,x ∈ xs→BF c (AL l x) n=true)→(xs.flatMap fun x=>FC c t o (AL l x)).length≤xs.length*1616
 | [],_=>by simp
 | x::xs,h=>by
  have h1:=OT (c:=c) (l:=l) (n:=n) hc ho S1 xs fun x hx=>h x (List.mem_cons_of_mem _ hx); obtain ⟨i,s,Y⟩:=DK (h x (List.mem_cons_self ..)); have h2:=eZ (t:=t) hc Y ho S1; rw [List.flatMap_cons,List.length_append,List.length_cons,Nat.succ_mul]; omega
end Go.Ce
namespace Go.Ce
open Go Go.Proofs Go.Proofs.Tryz
def W_ (r:List Int × Int) (W:CW):Ending→CW→Prop:=fun e W'=>Kp W W'∧Al W'∧∃ v,e=.returned (.tuple #[v,.int .i64 r.2])∧DU W' 5 1 v (BB r.1)
theorem Be (a b:Value):ext (.tuple #[a,b]) 0=some a:=rfl
theorem Bf (a b:Value):ext (.tuple #[a,b]) 1=some b:=rfl
theorem FN {c:List Ad} {l:List Bc} {h:List BM} {root:Int} (hz:I1 c l h root=0):BL c=true∧BG c l=true∧(¬ER c h≥0)∧0≤root∧root≤h.length:=by
 unfold I1 at hz
 by_cases h1:PK c l≠0
 ·rw [if_pos h1] at hz; exact (h1 hz).elim
 ·rw [if_neg h1] at hz
  by_cases h2:ER c h≥0
  ·rw [if_pos h2] at hz; cases hz
  ·rw [if_neg h2] at hz
   by_cases h3:root<0∨root>h.length
   ·rw [if_pos h3] at hz; cases hz
   ·have h1:PK c l=0:=by omega
    unfold PK at h1
    cases hc:BL c with
    | false=>rw [hc] at h1; simp at h1
    | true =>
     cases hs:BG c l with
     | false=>rw [hc,hs] at h1; simp at h1
     | true=>exact ⟨rfl,rfl,h2,by omega,by omega⟩
end Go.Ce
namespace Go.Ce
open Go Go.Proofs Go.Proofs.Tryz
def ec (ro:Option Nat) (K:AG):AG:=Aw (fun e ds W=>wV (ld prog 78 (e 4) W) fun Gt=>wV (CE prog 78 (e 2) Gt W) fun W6=>K .ret (Env.of e [(3,(.bool true)),(103,Gt)]) ds W6) K
def Uw (ro:Option Nat) (K:AG):AG:=Aw (fun e ds W=>wV (Aj prog 22 (e 0) W) fun Ws=>C6 prog AV ro 47 104 (.loop (Ae prog 47 1)) (Env.of e [(83,(.int .i64 0)),(82,Ws),(81,(e 0))]) ds W (Bm 2 (ec ro K))) K
theorem ABE (v0:Value) (K:AG) (W:CW):AK prog AV none 47 104 (AM prog 47) (Env.args [v0]) [] W K=(Bw (F5 prog 78 W) fun v2 W0=>Bw (tV W0) fun BR W1=>Bw (tV W1) fun DQ W2=>wV (QF prog 78 [(0,BR),(1,DQ)]) fun Bk=>Bw (F5 prog 78 W2) fun v4 W3=>wV (CE prog 78 v4 Bk W3) fun W4=>wV (Aj prog 22 v0 W4) fun DS=>wV (AU prog .gtr 3 true DS (.int .i64 100)) fun B7=>wI B7 (wV (ld prog 78 v4 W4) fun CP=>wV (CE prog 78 v2 CP W4) fun W5=>K .ret (Env.of (Env.args [v0]) [(3,(.bool false)),(18,CP),(17,B7),(16,DS),(15,v0),(4,v4),(14,Bk),(13,DQ),(12,BR),(3,(.bool false)),(2,v2)]) [] W5) (wV (Aj prog 22 v0 W4) fun v20=>C6 prog AV none 47 104 (.loop (Ae prog 47 0)) (Env.of (Env.args [v0]) [(21,(.int .i64 0)),(20,v20),(19,v0),(17,B7),(16,DS),(15,v0),(4,v4),(14,Bk),(13,DQ),(12,BR),(3,(.bool false)),(2,v2)]) [] W4 (Bm 0 (Uw none K)))):=by kernel_rfl
def Ux (ro:Option Nat) (K:AG):AG:=Aw (fun e ds W=>wV (AU prog .add 3 true (e 21) (.int .i64 1)) fun JN=>K .normal (Env.of e [(21,JN),(80,JN)]) ds W) K
def PM (ro:Option Nat) (K:AG):AG:=Aw (fun e ds W=>wV (A0 prog 78 (e 4) 0) fun HQ=>wV (ld prog 75 HQ W) fun OK=>wV (A0 prog 48 (e 6) 0) fun Jm=>wV (ld prog 9 Jm W) fun eP=>wV (ld prog 48 (e 6) W) fun Nt=>wV (cj prog 75 OK eP Nt W) fun H0=>(Ux ro K) .normal (Env.of e [(79,Nt),(78,eP),(77,Jm),(76,OK),(75,HQ)]) ds H0) (Bm 1 (Ux ro K))
def JS (ro:Option Nat) (K:AG):AG:=Aw (fun e ds W=>wI (e 73) (wV (ld prog 78 (e 4) W) fun PA=>wV (CE prog 78 (e 2) PA W) fun MR=>(PM ro K) .ret (Env.of e [(3,(.bool false)),(74,PA)]) ds MR) ((PM ro K) .normal e ds W)) (PM ro K)
def Lb (ro:Option Nat) (K:AG):AG:=Aw (fun e ds W=>wV (A0 prog 48 (e 6) 0) fun FT=>wV (ld prog 9 FT W) fun Hx=>AF prog AV 101 [Hx] W (AT (fun IU CQ=>wV (KG IU) fun IB=>wI IB ((((True)∧ld prog 9 FT W=some Hx)∧True)∧True∧(JS ro K) .normal (Env.of e [(73,(.bool true)),(72,undef),(68,(.bool true)),(71,undef),(68,(.bool true)),(70,undef),(68,(.bool true)),(69,undef),(68,(.bool true)),(68,(.bool true)),(67,(.bool true)),(66,undef),(64,(.bool true)),(65,undef),(64,(.bool true)),(64,(.bool true)),(63,(.bool true)),(62,undef),(49,(.bool true)),(61,undef),(60,undef),(59,undef),(58,undef),(57,undef),(56,undef),(55,undef),(54,undef),(53,undef),(52,undef),(49,(.bool true)),(51,undef),(49,(.bool true)),(50,undef),(49,(.bool true)),(49,IB),(48,IB),(47,IU),(46,Hx),(45,FT)]) ds CQ) (wV (AU prog .gtr 3 true (e 5) (.int .i64 0)) fun GH=>wI GH (wV (AU prog .sub 3 true (e 5) (.int .i64 1)) fun Ns=>wV (EV prog 22 (e 0) Ns) fun FU=>wV (A0 prog 48 FU 0) fun SP=>wV (ld prog 9 SP CQ) fun Hq=>wV (A0 prog 48 (e 6) 0) fun Fx=>wV (ld prog 9 Fx CQ) fun E_=>wV (AU prog .geq 9 false Hq E_) fun FR=>wI FR ((((ld prog 9 Fx CQ=some E_)∧True)∧(((ld prog 9 SP CQ=some Hq)∧True)∧(((True)∧ld prog 9 FT W=some Hx)∧True)))∧True∧(JS ro K) .normal (Env.of e [(73,(.bool true)),(72,undef),(68,(.bool true)),(71,undef),(68,(.bool true)),(70,undef),(68,(.bool true)),(69,undef),(68,(.bool true)),(68,(.bool true)),(67,(.bool true)),(66,undef),(64,(.bool true)),(65,undef),(64,(.bool true)),(64,FR),(63,FR),(62,FR),(49,(.bool false)),(61,FR),(52,(.bool true)),(60,E_),(52,(.bool true)),(59,Fx),(52,(.bool true)),(58,Hq),(52,(.bool true)),(57,SP),(52,(.bool true)),(56,FU),(52,(.bool true)),(55,Ns),(52,(.bool true)),(54,(e 5)),(52,(.bool true)),(53,(e 0)),(52,(.bool true)),(52,GH),(49,(.bool false)),(51,GH),(49,(.bool false)),(50,(e 5)),(49,(.bool false)),(49,IB),(48,IB),(47,IU),(46,Hx),(45,FT)]) ds CQ) (wV (KG (e 7)) fun LO=>wI LO ((((ld prog 9 Fx CQ=some E_)∧True)∧(((ld prog 9 SP CQ=some Hq)∧True)∧(((True)∧ld prog 9 FT W=some Hx)∧True)))∧True∧(JS ro K) .normal (Env.of e [(73,(.bool true)),(72,undef),(68,(.bool true)),(71,undef),(68,(.bool true)),(70,undef),(68,(.bool true)),(69,undef),(68,(.bool true)),(68,LO),(67,LO),(66,LO),(64,(.bool false)),(65,(e 7)),(64,(.bool false)),(64,FR),(63,FR),(62,FR),(49,(.bool false)),(61,FR),(52,(.bool true)),(60,E_),(52,(.bool true)),(59,Fx),(52,(.bool true)),(58,Hq),(52,(.bool true)),(57,SP),(52,(.bool true)),(56,FU),(52,(.bool true)),(55,Ns),(52,(.bool true)),(54,(e 5)),(52,(.bool true)),(53,(e 0)),(52,(.bool true)),(52,GH),(49,(.bool false)),(51,GH),(49,(.bool false)),(50,(e 5)),(49,(.bool false)),(49,IB),(48,IB),(47,IU),(46,Hx),(45,FT)]) ds CQ) (wV (A0 prog 48 (e 6) 2) fun HP=>wV (ld prog 45 HP CQ) fun UY=>wV (Aj prog 45 UY CQ) fun UZ=>wV (AU prog .gtr 3 true UZ (.int .i64 20)) fun RA=>(((Aj prog 45 UY CQ=some UZ)∧True)∧(((ld prog 45 HP CQ=some UY)∧True)∧(((ld prog 9 Fx CQ=some E_)∧True)∧(((ld prog 9 SP CQ=some Hq)∧True)∧(((True)∧ld prog 9 FT W=some Hx)∧True)))))∧True∧(JS ro K) .normal (Env.of e [(73,RA),(72,RA),(68,(.bool false)),(71,UZ),(68,(.bool false)),(70,UY),(68,(.bool false)),(69,HP),(68,(.bool false)),(68,LO),(67,LO),(66,LO),(64,(.bool false)),(65,(e 7)),(64,(.bool false)),(64,FR),(63,FR),(62,FR),(49,(.bool false)),(61,FR),(52,(.bool true)),(60,E_),(52,(.bool true)),(59,Fx),(52,(.bool true)),(58,Hq),(52,(.bool true)),(57,SP),(52,(.bool true)),(56,FU),(52,(.bool true)),(55,Ns),(52,(.bool true)),(54,(e 5)),(52,(.bool true)),(53,(e 0)),(52,(.bool true)),(52,GH),(49,(.bool false)),(51,GH),(49,(.bool false)),(50,(e 5)),(49,(.bool false)),(49,IB),(48,IB),(47,IU),(46,Hx),(45,FT)]) ds CQ))) (wV (KG (e 7)) fun LO=>wI LO ((((True)∧ld prog 9 FT W=some Hx)∧True)∧True∧(JS ro K) .normal (Env.of e [(73,(.bool true)),(72,undef),(68,(.bool true)),(71,undef),(68,(.bool true)),(70,undef),(68,(.bool true)),(69,undef),(68,(.bool true)),(68,LO),(67,LO),(66,LO),(64,(.bool false)),(65,(e 7)),(64,(.bool false)),(64,(.bool false)),(63,(.bool false)),(62,(.bool false)),(49,(.bool false)),(61,undef),(52,(.bool false)),(60,undef),(52,(.bool false)),(59,undef),(52,(.bool false)),(58,undef),(52,(.bool false)),(57,undef),(52,(.bool false)),(56,undef),(52,(.bool false)),(55,undef),(52,(.bool false)),(54,undef),(52,(.bool false)),(53,undef),(52,(.bool false)),(52,GH),(49,(.bool false)),(51,GH),(49,(.bool false)),(50,(e 5)),(49,(.bool false)),(49,IB),(48,IB),(47,IU),(46,Hx),(45,FT)]) ds CQ) (wV (A0 prog 48 (e 6) 2) fun HP=>wV (ld prog 45 HP CQ) fun UY=>wV (Aj prog 45 UY CQ) fun UZ=>wV (AU prog .gtr 3 true UZ (.int .i64 20)) fun RA=>(((Aj prog 45 UY CQ=some UZ)∧True)∧(((ld prog 45 HP CQ=some UY)∧True)∧(((True)∧ld prog 9 FT W=some Hx)∧True)))∧True∧(JS ro K) .normal (Env.of e [(73,RA),(72,RA),(68,(.bool false)),(71,UZ),(68,(.bool false)),(70,UY),(68,(.bool false)),(69,HP),(68,(.bool false)),(68,LO),(67,LO),(66,LO),(64,(.bool false)),(65,(e 7)),(64,(.bool false)),(64,(.bool false)),(63,(.bool false)),(62,(.bool false)),(49,(.bool false)),(61,undef),(52,(.bool false)),(60,undef),(52,(.bool false)),(59,undef),(52,(.bool false)),(58,undef),(52,(.bool false)),(57,undef),(52,(.bool false)),(56,undef),(52,(.bool false)),(55,undef),(52,(.bool false)),(54,undef),(52,(.bool false)),(53,undef),(52,(.bool false)),(52,GH),(49,(.bool false)),(51,GH),(49,(.bool false)),(50,(e 5)),(49,(.bool false)),(49,IB),(48,IB),(47,IU),(46,Hx),(45,FT)]) ds CQ)))) (fun AAu NQ=>False))) (Bm 1 (Ux ro K))
theorem w4 (ro:Option Nat) (e:Env) (ds:List Deferred) (K:AG) (W:CW):AK prog AV ro 47 104 (Ae prog 47 0) e ds W K=(wV (AU prog .lss 3 false (e 21) (e 20)) fun FX=>wI FX (wV (EV prog 22 (e 19) (e 21)) fun Eu=>wV (ld prog 48 Eu W) fun Dc=>Bw (F5 prog 48 W) fun v6 QG=>wV (CE prog 48 v6 Dc QG) fun Dd=>wV (A0 prog 48 v6 3) fun Dx=>wV (ld prog 5 Dx Dd) fun D_=>wV (AU prog .eql 5 true D_ (.int .u8 0)) fun DG=>wI DG ((Lb ro K) .normal (Env.of e [(7,(.bool true)),(44,(.bool true)),(43,undef),(29,(.bool true)),(42,undef),(41,undef),(40,undef),(39,undef),(38,undef),(29,(.bool true)),(37,undef),(29,(.bool true)),(36,undef),(35,undef),(34,undef),(33,undef),(29,(.bool true)),(32,undef),(29,(.bool true)),(31,undef),(29,(.bool true)),(30,undef),(29,(.bool true)),(29,DG),(28,DG),(27,D_),(26,Dx),(5,(e 21)),(6,v6),(25,Dc),(24,Eu),(23,(e 21)),(22,FX)]) ds Dd) (wV (A0 prog 48 v6 3) fun v30=>wV (ld prog 5 v30 Dd) fun EA=>AF prog AV 100 [EA] Dd (AT (fun Ep J6=>wI Ep (wV (A0 prog 48 v6 1) fun Fi=>wV (ld prog 9 Fi J6) fun FF=>wV (AU prog .eql 9 true FF (.string ⟨#[]⟩)) fun I0=>wI I0 (wV (A0 prog 48 v6 2) fun JO=>wV (ld prog 45 JO J6) fun FZ=>wV (Aj prog 45 FZ J6) fun FL=>wV (AU prog .eql 3 true FL (.int .i64 0)) fun HL=>(Lb ro K) .normal (Env.of e [(7,HL),(44,HL),(43,HL),(29,(.bool false)),(42,HL),(38,(.bool true)),(41,FL),(38,(.bool true)),(40,FZ),(38,(.bool true)),(39,JO),(38,(.bool true)),(38,I0),(29,(.bool false)),(37,I0),(29,(.bool false)),(36,I0),(33,(.bool true)),(35,FF),(33,(.bool true)),(34,Fi),(33,(.bool true)),(33,Ep),(29,(.bool false)),(32,Ep),(29,(.bool false)),(31,EA),(29,(.bool false)),(30,v30),(29,(.bool false)),(29,DG),(28,DG),(27,D_),(26,Dx),(5,(e 21)),(6,v6),(25,Dc),(24,Eu),(23,(e 21)),(22,FX)]) ds J6) ((Lb ro K) .normal (Env.of e [(7,(.bool false)),(44,(.bool false)),(43,(.bool false)),(29,(.bool false)),(42,undef),(38,(.bool false)),(41,undef),(38,(.bool false)),(40,undef),(38,(.bool false)),(39,undef),(38,(.bool false)),(38,I0),(29,(.bool false)),(37,I0),(29,(.bool false)),(36,I0),(33,(.bool true)),(35,FF),(33,(.bool true)),(34,Fi),(33,(.bool true)),(33,Ep),(29,(.bool false)),(32,Ep),(29,(.bool false)),(31,EA),(29,(.bool false)),(30,v30),(29,(.bool false)),(29,DG),(28,DG),(27,D_),(26,Dx),(5,(e 21)),(6,v6),(25,Dc),(24,Eu),(23,(e 21)),(22,FX)]) ds J6)) ((Lb ro K) .normal (Env.of e [(7,(.bool false)),(44,(.bool false)),(43,(.bool false)),(29,(.bool false)),(42,undef),(38,(.bool false)),(41,undef),(38,(.bool false)),(40,undef),(38,(.bool false)),(39,undef),(38,(.bool false)),(38,(.bool false)),(29,(.bool false)),(37,(.bool false)),(29,(.bool false)),(36,undef),(33,(.bool false)),(35,undef),(33,(.bool false)),(34,undef),(33,(.bool false)),(33,Ep),(29,(.bool false)),(32,Ep),(29,(.bool false)),(31,EA),(29,(.bool false)),(30,v30),(29,(.bool false)),(29,DG),(28,DG),(27,D_),(26,Dx),(5,(e 21)),(6,v6),(25,Dc),(24,Eu),(23,(e 21)),(22,FX)]) ds J6)) (fun YP QH=>(Lb ro K) (.panic YP) (Env.of e [(29,(.bool false)),(31,EA),(29,(.bool false)),(30,v30),(29,(.bool false)),(29,DG),(28,DG),(27,D_),(26,Dx),(5,(e 21)),(6,v6),(25,Dc),(24,Eu),(23,(e 21)),(22,FX)]) ds QH)))) (K (.exit 0) (Env.of e [(22,FX)]) ds W)):=by kernel_rfl
def PN (ro:Option Nat) (K:AG):AG:=Aw (fun e ds W=>wV (AU prog .add 3 true (e 83) (.int .i64 1)) fun MU=>K .normal (Env.of e [(83,MU),(102,MU)]) ds W) K
theorem w5 (ro:Option Nat) (e:Env) (ds:List Deferred) (K:AG) (W:CW):AK prog AV ro 47 104 (Ae prog 47 1) e ds W K=(wV (AU prog .lss 3 false (e 83) (e 82)) fun L4=>wI L4 (wV (EV prog 22 (e 81) (e 83)) fun QI=>wV (ld prog 48 QI W) fun PD=>Bw (F5 prog 48 W) fun v9 p8=>wV (CE prog 48 v9 PD p8) fun jK=>wV (ld prog 78 (e 4) jK) fun Q2=>wV (A0 prog 48 v9 0) fun XA=>wV (ld prog 9 XA jK) fun OH=>AF prog AV 102 [Q2,OH] jK (AT (fun Nr eF=>wV (ext Nr 0) fun V6=>wV (ext Nr 1) fun Sx=>wV (KG Sx) fun TG=>wI TG (wV (ld prog 78 (e 4) eF) fun TH=>wV (CE prog 78 (e 2) TH eF) fun cn=>(PN ro K) .ret (Env.of e [(3,(.bool false)),(96,TH),(95,TG),(94,Sx),(11,Sx),(10,V6),(93,Sx),(92,V6),(87,Nr),(91,Nr),(90,OH),(89,XA),(88,Q2),(9,v9),(86,PD),(85,QI),(84,L4)]) ds cn) (wV (A0 prog 78 (e 4) 1) fun nN=>wV (ld prog 76 nN eF) fun Z'=>wV (A0 prog 48 v9 0) fun cq=>wV (ld prog 9 cq eF) fun Lt=>wV (cj prog 76 Z' Lt V6 eF) fun VX=>(PN ro K) .normal (Env.of e [(101,V6),(100,Lt),(99,cq),(98,Z'),(97,nN),(95,TG),(94,Sx),(11,Sx),(10,V6),(93,Sx),(92,V6),(87,Nr),(91,Nr),(90,OH),(89,XA),(88,Q2),(9,v9),(86,PD),(85,QI),(84,L4)]) ds VX)) (fun ADq VY=>(PN ro K) (.panic ADq) (Env.of e [(90,OH),(89,XA),(88,Q2),(9,v9),(86,PD),(85,QI),(84,L4)]) ds VY))) (K (.exit 2) (Env.of e [(84,L4)]) ds W)):=by kernel_rfl
theorem ABF {Q:Ending→CW→Prop} {v0:Value} {W:CW} (h:AK prog AV none 47 104 (AM prog 47) (Env.args [v0]) [] W (AI prog Tryz.f47 Q)):AF prog AV 47 [v0] W Q:=AX Tryz.func47 (by kernel_rfl) (by kernel_rfl) (by kernel_rfl) (by kernel_rfl) (by kernel_rfl) h
def ed (ro:Option Nat) (K:AG):AG:=Aw (fun e ds W=>wV (ld prog 83 (e 6) W) fun ABG=>wV (CE prog 83 (e 4) ABG W) fun W7=>K .ret (Env.of e [(5,(.bool true)),(178,ABG)]) ds W7) K
def RK (ro:Option Nat) (K:AG):AG:=Aw (fun e ds W=>wV (Aj prog 23 (e 1) W) fun ADr=>C6 prog AV ro 48 179 (.loop (Ae prog 48 2)) (Env.of e [(163,(.int .i64 0)),(162,ADr),(161,(e 1))]) ds W (Bm 4 (ed ro K))) K
theorem ABH (v0 v1:Value) (K:AG) (W:CW):AK prog AV none 48 179 (AM prog 48) (Env.args [v0,v1]) [] W K=(Bw (QE prog 78 v0 W) fun v2 W0=>Bw (F5 prog 83 W0) fun v4 W1=>Bw (tV W1) fun FX W2=>Bw (tV W2) fun Da W3=>wV (QF prog 83 [(0,FX),(1,Da)]) fun Eu=>Bw (F5 prog 83 W3) fun v6 W4=>wV (CE prog 83 v6 Eu W4) fun W5=>wV (Aj prog 23 v1 W5) fun Dx=>wV (AU prog .gtr 3 true Dx (.int .i64 20)) fun D_=>wI D_ (wV (ld prog 83 v6 W5) fun DG=>wV (CE prog 83 v4 DG W5) fun W6=>K .ret (Env.of (Env.args [v0,v1]) [(5,(.bool false)),(28,DG),(27,D_),(26,Dx),(25,v1),(6,v6),(24,Eu),(23,Da),(22,FX),(5,(.bool false)),(4,v4),(2,v2)]) [] W6) (wV (Aj prog 23 v1 W5) fun v30=>C6 prog AV none 48 179 (.loop (Ae prog 48 0)) (Env.of (Env.args [v0,v1]) [(31,(.int .i64 0)),(30,v30),(29,v1),(27,D_),(26,Dx),(25,v1),(6,v6),(24,Eu),(23,Da),(22,FX),(5,(.bool false)),(4,v4),(2,v2)]) [] W5 (Bm 0 (RK none K)))):=by kernel_rfl
def JT (ro:Option Nat) (K:AG):AG:=Aw (fun e ds W=>wV (AU prog .add 3 true (e 31) (.int .i64 1)) fun ABI=>K .normal (Env.of e [(31,ABI),(160,ABI)]) ds W) K
def Yf (ro:Option Nat) (K:AG):AG:=Aw (fun e ds W=>wV (A0 prog 83 (e 6) 0) fun w6=>wV (ld prog 81 w6 W) fun w7=>wV (A0 prog 58 (e 8) 0) fun w8=>wV (ld prog 9 w8 W) fun w9=>wV (A0 prog 83 (e 6) 1) fun rK=>wV (ld prog 81 rK W) fun rL=>wV (A0 prog 58 (e 8) 1) fun rM=>wV (ld prog 9 rM W) fun rN=>wV (ld prog 58 (e 8) W) fun w_=>wV (ld prog 58 (e 8) W) fun rO=>wV (cj prog 81 w7 w9 w_ W) fun QH=>wV (cj prog 81 rL rN rO QH) fun k_=>(((True)∧((ld prog 58 (e 8) QH=some rO)∧ld prog 58 (e 8) W=some rO))∧(((True)∧((True)∧ld prog 58 (e 8) W=some w_))∧(((True)∧((ld prog 9 rM QH=some rN)∧ld prog 9 rM W=some rN))∧(((True)∧((ld prog 81 rK QH=some rL)∧ld prog 81 rK W=some rL))∧(((True)∧((True)∧ld prog 9 w8 W=some w9))∧(((True)∧((True)∧ld prog 81 w6 W=some w7))∧True))))))∧True∧(JT ro K) .normal (Env.of e [(159,rO),(158,w_),(157,rN),(156,rM),(155,rL),(154,rK),(153,w9),(152,w8),(151,w7),(150,w6)]) ds k_) (Bm 1 (JT ro K))
def PO (ro:Option Nat) (K:AG):AG:=Aw (fun e ds W=>wV (A0 prog 83 (e 6) 1) fun nN=>wV (ld prog 81 nN W) fun Z'=>wV (A0 prog 58 (e 8) 1) fun cq=>wV (ld prog 9 cq W) fun Lt=>wV (GL prog 81 Z' Lt true W) fun RL=>wV (ext RL 0) fun MU=>wV (ext RL 1) fun Gt=>Bw (F5 prog 58 W) fun DQ NQ=>wV (CE prog 58 DQ MU NQ) fun L5=>wI Gt (wV (ld prog 83 (e 6) L5) fun OI=>wV (CE prog 83 (e 4) OI L5) fun J6=>(JT ro K) .ret (Env.of e [(5,(.bool false)),(105,OI),(104,Gt),(14,Gt),(13,DQ),(103,Gt),(102,MU),(96,RL),(101,RL),(100,Lt),(99,cq),(98,Z'),(97,nN)]) ds J6) (wV (A0 prog 58 (e 8) 2) fun LH=>wV (ld prog 40 LH L5) fun LI=>wV (Aj prog 40 LI L5) fun LJ=>C6 prog AV ro 48 179 (.loop (Ae prog 48 1)) (Env.of e [(109,(.int .i64 0)),(108,LJ),(107,LI),(106,LH),(104,Gt),(14,Gt),(13,DQ),(103,Gt),(102,MU),(96,RL),(101,RL),(100,Lt),(99,cq),(98,Z'),(97,nN)]) ds L5 (Bm 2 (Yf ro K)))) (Bm 1 (JT ro K))
def H4 (ro:Option Nat) (K:AG):AG:=Aw (fun e ds W=>wI (e 94) (wV (ld prog 83 (e 6) W) fun TG=>wV (CE prog 83 (e 4) TG W) fun eF=>(PO ro K) .ret (Env.of e [(5,(.bool false)),(95,TG)]) ds eF) ((PO ro K) .normal e ds W)) (PO ro K)
theorem xA (ro:Option Nat) (e:Env) (ds:List Deferred) (K:AG) (W:CW):AK prog AV ro 48 179 (Ae prog 48 0) e ds W K=(wV (AU prog .lss 3 false (e 31) (e 30)) fun Ep=>wI Ep (wV (EV prog 23 (e 29) (e 31)) fun Fi=>wV (ld prog 58 Fi W) fun FF=>Bw (F5 prog 58 W) fun v8 Dd=>wV (CE prog 58 v8 FF Dd) fun H0=>wV (A0 prog 78 (e 2) 0) fun Fh=>wV (ld prog 75 Fh H0) fun IC=>wV (A0 prog 58 v8 0) fun JO=>wV (ld prog 9 JO H0) fun FZ=>wV (GL prog 75 IC FZ true H0) fun FL=>wV (ext FL 0) fun HL=>wV (ext FL 1) fun FE=>Bw (F5 prog 48 H0) fun v9 Iw=>wV (CE prog 48 v9 HL Iw) fun MR=>wV (A0 prog 78 (e 2) 0) fun FT=>wV (ld prog 75 FT MR) fun Hx=>wV (A0 prog 58 v8 1) fun IU=>wV (ld prog 9 IU MR) fun IB=>wV (GL prog 75 Hx IB true MR) fun Ix=>wV (ext Ix 0) fun Hr=>wV (ext Ix 1) fun GH=>Bw (F5 prog 48 MR) fun v11 Og=>wV (CE prog 48 v11 Hr Og) fun CQ=>wV (KG FE) fun Gu=>wI Gu (True∧True∧(H4 ro K) .normal (Env.of e [(94,(.bool true)),(93,undef),(83,(.bool true)),(92,undef),(83,(.bool true)),(91,undef),(83,(.bool true)),(90,undef),(83,(.bool true)),(89,undef),(83,(.bool true)),(88,undef),(83,(.bool true)),(87,undef),(83,(.bool true)),(86,undef),(83,(.bool true)),(85,undef),(83,(.bool true)),(84,undef),(83,(.bool true)),(83,(.bool true)),(82,(.bool true)),(81,undef),(68,(.bool true)),(80,undef),(79,undef),(78,undef),(77,undef),(76,undef),(75,undef),(74,undef),(73,undef),(72,undef),(71,undef),(68,(.bool true)),(70,undef),(68,(.bool true)),(69,undef),(68,(.bool true)),(68,(.bool true)),(67,(.bool true)),(66,undef),(63,(.bool true)),(65,undef),(63,(.bool true)),(64,undef),(63,(.bool true)),(63,(.bool true)),(62,(.bool true)),(61,undef),(58,(.bool true)),(60,undef),(58,(.bool true)),(59,undef),(58,(.bool true)),(58,(.bool true)),(57,(.bool true)),(56,undef),(54,(.bool true)),(55,undef),(54,(.bool true)),(54,Gu),(53,Gu),(52,FE),(12,GH),(11,v11),(51,GH),(50,Hr),(44,Ix),(49,Ix),(48,IB),(47,IU),(46,Hx),(45,FT),(10,FE),(9,v9),(43,FE),(42,HL),(36,FL),(41,FL),(40,FZ),(39,JO),(38,IC),(37,Fh),(7,(e 31)),(8,v8),(35,FF),(34,Fi),(33,(e 31)),(32,Ep)]) ds CQ) (wV (KG GH) fun FU=>wI FU (True∧True∧(H4 ro K) .normal (Env.of e [(94,(.bool true)),(93,undef),(83,(.bool true)),(92,undef),(83,(.bool true)),(91,undef),(83,(.bool true)),(90,undef),(83,(.bool true)),(89,undef),(83,(.bool true)),(88,undef),(83,(.bool true)),(87,undef),(83,(.bool true)),(86,undef),(83,(.bool true)),(85,undef),(83,(.bool true)),(84,undef),(83,(.bool true)),(83,(.bool true)),(82,(.bool true)),(81,undef),(68,(.bool true)),(80,undef),(79,undef),(78,undef),(77,undef),(76,undef),(75,undef),(74,undef),(73,undef),(72,undef),(71,undef),(68,(.bool true)),(70,undef),(68,(.bool true)),(69,undef),(68,(.bool true)),(68,(.bool true)),(67,(.bool true)),(66,undef),(63,(.bool true)),(65,undef),(63,(.bool true)),(64,undef),(63,(.bool true)),(63,(.bool true)),(62,(.bool true)),(61,undef),(58,(.bool true)),(60,undef),(58,(.bool true)),(59,undef),(58,(.bool true)),(58,FU),(57,FU),(56,FU),(54,(.bool false)),(55,GH),(54,(.bool false)),(54,Gu),(53,Gu),(52,FE),(12,GH),(11,v11),(51,GH),(50,Hr),(44,Ix),(49,Ix),(48,IB),(47,IU),(46,Hx),(45,FT),(10,FE),(9,v9),(43,FE),(42,HL),(36,FL),(41,FL),(40,FZ),(39,JO),(38,IC),(37,Fh),(7,(e 31)),(8,v8),(35,FF),(34,Fi),(33,(e 31)),(32,Ep)]) ds CQ) (wV (A0 prog 48 v9 3) fun Fx=>wV (ld prog 5 Fx CQ) fun E_=>wV (AU prog .neq 5 true E_ (.int .u8 0)) fun FR=>wI FR ((ld prog 5 Fx CQ=some E_∧True)∧True∧(H4 ro K) .normal (Env.of e [(94,(.bool true)),(93,undef),(83,(.bool true)),(92,undef),(83,(.bool true)),(91,undef),(83,(.bool true)),(90,undef),(83,(.bool true)),(89,undef),(83,(.bool true)),(88,undef),(83,(.bool true)),(87,undef),(83,(.bool true)),(86,undef),(83,(.bool true)),(85,undef),(83,(.bool true)),(84,undef),(83,(.bool true)),(83,(.bool true)),(82,(.bool true)),(81,undef),(68,(.bool true)),(80,undef),(79,undef),(78,undef),(77,undef),(76,undef),(75,undef),(74,undef),(73,undef),(72,undef),(71,undef),(68,(.bool true)),(70,undef),(68,(.bool true)),(69,undef),(68,(.bool true)),(68,(.bool true)),(67,(.bool true)),(66,undef),(63,(.bool true)),(65,undef),(63,(.bool true)),(64,undef),(63,(.bool true)),(63,FR),(62,FR),(61,FR),(58,(.bool false)),(60,E_),(58,(.bool false)),(59,Fx),(58,(.bool false)),(58,FU),(57,FU),(56,FU),(54,(.bool false)),(55,GH),(54,(.bool false)),(54,Gu),(53,Gu),(52,FE),(12,GH),(11,v11),(51,GH),(50,Hr),(44,Ix),(49,Ix),(48,IB),(47,IU),(46,Hx),(45,FT),(10,FE),(9,v9),(43,FE),(42,HL),(36,FL),(41,FL),(40,FZ),(39,JO),(38,IC),(37,Fh),(7,(e 31)),(8,v8),(35,FF),(34,Fi),(33,(e 31)),(32,Ep)]) ds CQ) (wV (A0 prog 48 v11 3) fun K2=>wV (ld prog 5 K2 CQ) fun Ll=>wV (AU prog .neq 5 true Ll (.int .u8 0)) fun LO=>wI LO ((ld prog 5 K2 CQ=some Ll∧(ld prog 5 Fx CQ=some E_∧True))∧True∧(H4 ro K) .normal (Env.of e [(94,(.bool true)),(93,undef),(83,(.bool true)),(92,undef),(83,(.bool true)),(91,undef),(83,(.bool true)),(90,undef),(83,(.bool true)),(89,undef),(83,(.bool true)),(88,undef),(83,(.bool true)),(87,undef),(83,(.bool true)),(86,undef),(83,(.bool true)),(85,undef),(83,(.bool true)),(84,undef),(83,(.bool true)),(83,(.bool true)),(82,(.bool true)),(81,undef),(68,(.bool true)),(80,undef),(79,undef),(78,undef),(77,undef),(76,undef),(75,undef),(74,undef),(73,undef),(72,undef),(71,undef),(68,(.bool true)),(70,undef),(68,(.bool true)),(69,undef),(68,(.bool true)),(68,LO),(67,LO),(66,LO),(63,(.bool false)),(65,Ll),(63,(.bool false)),(64,K2),(63,(.bool false)),(63,FR),(62,FR),(61,FR),(58,(.bool false)),(60,E_),(58,(.bool false)),(59,Fx),(58,(.bool false)),(58,FU),(57,FU),(56,FU),(54,(.bool false)),(55,GH),(54,(.bool false)),(54,Gu),(53,Gu),(52,FE),(12,GH),(11,v11),(51,GH),(50,Hr),(44,Ix),(49,Ix),(48,IB),(47,IU),(46,Hx),(45,FT),(10,FE),(9,v9),(43,FE),(42,HL),(36,FL),(41,FL),(40,FZ),(39,JO),(38,IC),(37,Fh),(7,(e 31)),(8,v8),(35,FF),(34,Fi),(33,(e 31)),(32,Ep)]) ds CQ) (wV (AU prog .gtr 3 true (e 31) (.int .i64 0)) fun UY=>wI UY (wV (AU prog .sub 3 true (e 31) (.int .i64 1)) fun PA=>wV (EV prog 23 (e 1) PA) fun HQ=>wV (A0 prog 58 HQ 0) fun OK=>wV (ld prog 9 OK CQ) fun Jm=>wV (A0 prog 58 v8 0) fun eP=>wV (ld prog 9 eP CQ) fun Nt=>wV (AU prog .geq 9 false Jm Nt) fun JN=>wI JN ((ld prog 9 eP CQ=some Nt∧(ld prog 9 OK CQ=some Jm∧(ld prog 5 K2 CQ=some Ll∧(ld prog 5 Fx CQ=some E_∧True))))∧True∧(H4 ro K) .normal (Env.of e [(94,(.bool true)),(93,undef),(83,(.bool true)),(92,undef),(83,(.bool true)),(91,undef),(83,(.bool true)),(90,undef),(83,(.bool true)),(89,undef),(83,(.bool true)),(88,undef),(83,(.bool true)),(87,undef),(83,(.bool true)),(86,undef),(83,(.bool true)),(85,undef),(83,(.bool true)),(84,undef),(83,(.bool true)),(83,JN),(82,JN),(81,JN),(68,(.bool false)),(80,JN),(71,(.bool true)),(79,Nt),(71,(.bool true)),(78,eP),(71,(.bool true)),(77,Jm),(71,(.bool true)),(76,OK),(71,(.bool true)),(75,HQ),(71,(.bool true)),(74,PA),(71,(.bool true)),(73,(e 31)),(71,(.bool true)),(72,(e 1)),(71,(.bool true)),(71,UY),(68,(.bool false)),(70,UY),(68,(.bool false)),(69,(e 31)),(68,(.bool false)),(68,LO),(67,LO),(66,LO),(63,(.bool false)),(65,Ll),(63,(.bool false)),(64,K2),(63,(.bool false)),(63,FR),(62,FR),(61,FR),(58,(.bool false)),(60,E_),(58,(.bool false)),(59,Fx),(58,(.bool false)),(58,FU),(57,FU),(56,FU),(54,(.bool false)),(55,GH),(54,(.bool false)),(54,Gu),(53,Gu),(52,FE),(12,GH),(11,v11),(51,GH),(50,Hr),(44,Ix),(49,Ix),(48,IB),(47,IU),(46,Hx),(45,FT),(10,FE),(9,v9),(43,FE),(42,HL),(36,FL),(41,FL),(40,FZ),(39,JO),(38,IC),(37,Fh),(7,(e 31)),(8,v8),(35,FF),(34,Fi),(33,(e 31)),(32,Ep)]) ds CQ) (wV (A0 prog 58 v8 2) fun L4=>wV (ld prog 40 L4 CQ) fun QI=>wV (Aj prog 40 QI CQ) fun PD=>wV (A0 prog 78 (e 2) 1) fun VZ=>wV (ld prog 76 VZ CQ) fun Q2=>wV (A0 prog 58 v8 1) fun XA=>wV (ld prog 9 XA CQ) fun OH=>wV (GL prog 76 Q2 OH false CQ) fun Nr=>wV (Aj prog 29 Nr CQ) fun V6=>wV (AU prog .neq 3 false PD V6) fun Sx=>(Aj prog 29 Nr CQ=some V6∧(GL prog 76 Q2 OH false CQ=some Nr∧(ld prog 9 XA CQ=some OH∧(ld prog 76 VZ CQ=some Q2∧(Aj prog 40 QI CQ=some PD∧(ld prog 40 L4 CQ=some QI∧(ld prog 9 eP CQ=some Nt∧(ld prog 9 OK CQ=some Jm∧(ld prog 5 K2 CQ=some Ll∧(ld prog 5 Fx CQ=some E_∧True))))))))))∧True∧(H4 ro K) .normal (Env.of e [(94,Sx),(93,Sx),(83,(.bool false)),(92,V6),(83,(.bool false)),(91,Nr),(83,(.bool false)),(90,OH),(83,(.bool false)),(89,XA),(83,(.bool false)),(88,Q2),(83,(.bool false)),(87,VZ),(83,(.bool false)),(86,PD),(83,(.bool false)),(85,QI),(83,(.bool false)),(84,L4),(83,(.bool false)),(83,JN),(82,JN),(81,JN),(68,(.bool false)),(80,JN),(71,(.bool true)),(79,Nt),(71,(.bool true)),(78,eP),(71,(.bool true)),(77,Jm),(71,(.bool true)),(76,OK),(71,(.bool true)),(75,HQ),(71,(.bool true)),(74,PA),(71,(.bool true)),(73,(e 31)),(71,(.bool true)),(72,(e 1)),(71,(.bool true)),(71,UY),(68,(.bool false)),(70,UY),(68,(.bool false)),(69,(e 31)),(68,(.bool false)),(68,LO),(67,LO),(66,LO),(63,(.bool false)),(65,Ll),(63,(.bool false)),(64,K2),(63,(.bool false)),(63,FR),(62,FR),(61,FR),(58,(.bool false)),(60,E_),(58,(.bool false)),(59,Fx),(58,(.bool false)),(58,FU),(57,FU),(56,FU),(54,(.bool false)),(55,GH),(54,(.bool false)),(54,Gu),(53,Gu),(52,FE),(12,GH),(11,v11),(51,GH),(50,Hr),(44,Ix),(49,Ix),(48,IB),(47,IU),(46,Hx),(45,FT),(10,FE),(9,v9),(43,FE),(42,HL),(36,FL),(41,FL),(40,FZ),(39,JO),(38,IC),(37,Fh),(7,(e 31)),(8,v8),(35,FF),(34,Fi),(33,(e 31)),(32,Ep)]) ds CQ)) (wV (A0 prog 58 v8 2) fun L4=>wV (ld prog 40 L4 CQ) fun QI=>wV (Aj prog 40 QI CQ) fun PD=>wV (A0 prog 78 (e 2) 1) fun VZ=>wV (ld prog 76 VZ CQ) fun Q2=>wV (A0 prog 58 v8 1) fun XA=>wV (ld prog 9 XA CQ) fun OH=>wV (GL prog 76 Q2 OH false CQ) fun Nr=>wV (Aj prog 29 Nr CQ) fun V6=>wV (AU prog .neq 3 false PD V6) fun Sx=>(Aj prog 29 Nr CQ=some V6∧(GL prog 76 Q2 OH false CQ=some Nr∧(ld prog 9 XA CQ=some OH∧(ld prog 76 VZ CQ=some Q2∧(Aj prog 40 QI CQ=some PD∧(ld prog 40 L4 CQ=some QI∧(ld prog 5 K2 CQ=some Ll∧(ld prog 5 Fx CQ=some E_∧True))))))))∧True∧(H4 ro K) .normal (Env.of e [(94,Sx),(93,Sx),(83,(.bool false)),(92,V6),(83,(.bool false)),(91,Nr),(83,(.bool false)),(90,OH),(83,(.bool false)),(89,XA),(83,(.bool false)),(88,Q2),(83,(.bool false)),(87,VZ),(83,(.bool false)),(86,PD),(83,(.bool false)),(85,QI),(83,(.bool false)),(84,L4),(83,(.bool false)),(83,(.bool false)),(82,(.bool false)),(81,(.bool false)),(68,(.bool false)),(80,undef),(71,(.bool false)),(79,undef),(71,(.bool false)),(78,undef),(71,(.bool false)),(77,undef),(71,(.bool false)),(76,undef),(71,(.bool false)),(75,undef),(71,(.bool false)),(74,undef),(71,(.bool false)),(73,undef),(71,(.bool false)),(72,undef),(71,(.bool false)),(71,UY),(68,(.bool false)),(70,UY),(68,(.bool false)),(69,(e 31)),(68,(.bool false)),(68,LO),(67,LO),(66,LO),(63,(.bool false)),(65,Ll),(63,(.bool false)),(64,K2),(63,(.bool false)),(63,FR),(62,FR),(61,FR),(58,(.bool false)),(60,E_),(58,(.bool false)),(59,Fx),(58,(.bool false)),(58,FU),(57,FU),(56,FU),(54,(.bool false)),(55,GH),(54,(.bool false)),(54,Gu),(53,Gu),(52,FE),(12,GH),(11,v11),(51,GH),(50,Hr),(44,Ix),(49,Ix),(48,IB),(47,IU),(46,Hx),(45,FT),(10,FE),(9,v9),(43,FE),(42,HL),(36,FL),(41,FL),(40,FZ),(39,JO),(38,IC),(37,Fh),(7,(e 31)),(8,v8),(35,FF),(34,Fi),(33,(e 31)),(32,Ep)]) ds CQ)))))) (K (.exit 0) (Env.of e [(32,Ep)]) ds W)):=by kernel_rfl
def PQ (ro:Option Nat) (K:AG):AG:=Aw (fun e ds W=>wV (AU prog .add 3 true (e 109) (.int .i64 1)) fun ABJ=>K .normal (Env.of e [(109,ABJ),(149,ABJ)]) ds W) K
def PR (ro:Option Nat) (K:AG):AG:=Aw (fun e ds W=>wI (e 147) (wV (ld prog 83 (e 6) W) fun rP=>wV (CE prog 83 (e 4) rP W) fun VX=>(PQ ro K) .ret (Env.of e [(5,(.bool false)),(148,rP)]) ds VX) ((PQ ro K) .normal e ds W)) (Bm 3 (PQ ro K))
theorem xB (ro:Option Nat) (e:Env) (ds:List Deferred) (K:AG) (W:CW):AK prog AV ro 48 179 (Ae prog 48 1) e ds W K=(wV (AU prog .lss 3 false (e 109) (e 108)) fun Sy=>wI Sy (wV (EV prog 40 (e 107) (e 109)) fun Jn=>wV (ld prog 3 Jn W) fun Iz=>wV (A0 prog 78 (e 2) 1) fun NS=>wV (ld prog 76 NS W) fun MT=>wV (A0 prog 58 (e 8) 0) fun KM=>wV (ld prog 9 KM W) fun Hz=>wV (GL prog 76 MT Hz false W) fun GJ=>wV (Aj prog 29 GJ W) fun NP=>wV (AU prog .sub 3 true NP (.int .i64 1)) fun V5=>AF prog AV 103 [Iz,(.int .i64 0),V5] W (AT (fun IV gb=>wV (KG IV) fun Iy=>wI Iy ((((True)∧Aj prog 29 GJ W=some NP)∧True)∧True∧(PR ro K) .normal (Env.of e [(147,(.bool true)),(146,undef),(133,(.bool true)),(145,undef),(133,(.bool true)),(144,undef),(133,(.bool true)),(143,undef),(133,(.bool true)),(142,undef),(133,(.bool true)),(141,undef),(133,(.bool true)),(140,undef),(133,(.bool true)),(139,undef),(133,(.bool true)),(138,undef),(133,(.bool true)),(137,undef),(133,(.bool true)),(136,undef),(133,(.bool true)),(135,undef),(133,(.bool true)),(134,undef),(133,(.bool true)),(133,(.bool true)),(132,(.bool true)),(131,undef),(125,(.bool true)),(130,undef),(125,(.bool true)),(129,undef),(125,(.bool true)),(128,undef),(125,(.bool true)),(127,undef),(125,(.bool true)),(126,undef),(125,(.bool true)),(125,Iy),(124,Iy),(123,IV),(122,V5),(121,NP),(120,GJ),(119,Iz),(17,GJ),(118,GJ),(117,Hz),(116,KM),(115,MT),(114,NS),(16,Iz),(15,(e 109)),(113,Iz),(112,Jn),(111,(e 109)),(110,Sy)]) ds gb) (wV (A0 prog 58 (e 8) 2) fun Jl=>wV (ld prog 40 Jl gb) fun KI=>wV (ma prog 40 KI none (some (e 109)) none gb) fun OJ=>AF prog AV 104 [OJ,Iz] gb (AT (fun NR Q6=>wI NR ((((True)∧((ma prog 40 KI none (some (e 109)) none gb=some OJ)∧True))∧(((True)∧((ld prog 40 Jl gb=some KI)∧True))∧(((True)∧((True)∧Aj prog 29 GJ W=some NP))∧True)))∧True∧(PR ro K) .normal (Env.of e [(147,(.bool true)),(146,undef),(133,(.bool true)),(145,undef),(133,(.bool true)),(144,undef),(133,(.bool true)),(143,undef),(133,(.bool true)),(142,undef),(133,(.bool true)),(141,undef),(133,(.bool true)),(140,undef),(133,(.bool true)),(139,undef),(133,(.bool true)),(138,undef),(133,(.bool true)),(137,undef),(133,(.bool true)),(136,undef),(133,(.bool true)),(135,undef),(133,(.bool true)),(134,undef),(133,(.bool true)),(133,NR),(132,NR),(131,NR),(125,(.bool false)),(130,Iz),(125,(.bool false)),(129,OJ),(125,(.bool false)),(128,(e 109)),(125,(.bool false)),(127,KI),(125,(.bool false)),(126,Jl),(125,(.bool false)),(125,Iy),(124,Iy),(123,IV),(122,V5),(121,NP),(120,GJ),(119,Iz),(17,GJ),(118,GJ),(117,Hz),(116,KM),(115,MT),(114,NS),(16,Iz),(15,(e 109)),(113,Iz),(112,Jn),(111,(e 109)),(110,Sy)]) ds Q6) (wV (EV prog 29 GJ Iz) fun Hw=>wV (ld prog 5 Hw Q6) fun OF=>wV (A0 prog 78 (e 2) 1) fun Sw=>wV (ld prog 76 Sw Q6) fun aX=>wV (A0 prog 58 (e 8) 1) fun OG=>wV (ld prog 9 OG Q6) fun aY=>wV (GL prog 76 aX aY false Q6) fun eh=>wV (EV prog 29 eh (e 109)) fun ek=>wV (ld prog 5 ek Q6) fun eo=>wV (AU prog .neq 5 false OF eo) fun nO=>(((ld prog 5 ek Q6=some eo)∧True)∧(((GL prog 76 aX aY false Q6=some eh)∧True)∧(((ld prog 9 OG Q6=some aY)∧True)∧(((ld prog 76 Sw Q6=some aX)∧True)∧(((ld prog 5 Hw Q6=some OF)∧True)∧(((True)∧((ma prog 40 KI none (some (e 109)) none gb=some OJ)∧True))∧(((True)∧((ld prog 40 Jl gb=some KI)∧True))∧(((True)∧((True)∧Aj prog 29 GJ W=some NP))∧True))))))))∧True∧(PR ro K) .normal (Env.of e [(147,nO),(146,nO),(133,(.bool false)),(145,eo),(133,(.bool false)),(144,ek),(133,(.bool false)),(143,(e 109)),(133,(.bool false)),(142,eh),(133,(.bool false)),(141,aY),(133,(.bool false)),(140,OG),(133,(.bool false)),(139,aX),(133,(.bool false)),(138,Sw),(133,(.bool false)),(137,OF),(133,(.bool false)),(136,Hw),(133,(.bool false)),(135,Iz),(133,(.bool false)),(134,GJ),(133,(.bool false)),(133,NR),(132,NR),(131,NR),(125,(.bool false)),(130,Iz),(125,(.bool false)),(129,OJ),(125,(.bool false)),(128,(e 109)),(125,(.bool false)),(127,KI),(125,(.bool false)),(126,Jl),(125,(.bool false)),(125,Iy),(124,Iy),(123,IV),(122,V5),(121,NP),(120,GJ),(119,Iz),(17,GJ),(118,GJ),(117,Hz),(116,KM),(115,MT),(114,NS),(16,Iz),(15,(e 109)),(113,Iz),(112,Jn),(111,(e 109)),(110,Sy)]) ds Q6)) (fun AA0 wD=>False)))) (fun AF7 tW=>False))) (K (.exit 2) (Env.of e [(110,Sy)]) ds W)):=by kernel_rfl
def TR (ro:Option Nat) (K:AG):AG:=Aw (fun e ds W=>wV (AU prog .add 3 true (e 163) (.int .i64 1)) fun ABK=>K .normal (Env.of e [(163,ABK),(177,ABK)]) ds W) K
theorem xC (ro:Option Nat) (e:Env) (ds:List Deferred) (K:AG) (W:CW):AK prog AV ro 48 179 (Ae prog 48 2) e ds W K=(wV (AU prog .lss 3 false (e 163) (e 162)) fun rQ=>wI rQ (wV (EV prog 23 (e 161) (e 163)) fun xD=>wV (ld prog 58 xD W) fun xE=>Bw (F5 prog 58 W) fun CH eG=>wV (CE prog 58 CH xE eG) fun Q_=>wV (A0 prog 83 (e 6) 0) fun xF=>wV (ld prog 81 xF Q_) fun xG=>wV (A0 prog 58 CH 1) fun xH=>wV (ld prog 9 xH Q_) fun xI=>wV (GL prog 81 xG xI true Q_) fun jW=>wV (ext jW 0) fun xJ=>wV (ext jW 1) fun ep=>Bw (F5 prog 58 Q_) fun v20 W36=>wV (CE prog 58 v20 xJ W36) fun jO=>wI ep (wV (ld prog 83 (e 6) jO) fun ABL=>wV (CE prog 83 (e 4) ABL jO) fun W38=>(TR ro K) .ret (Env.of e [(5,(.bool false)),(176,ABL),(175,ep),(21,ep),(20,v20),(174,ep),(173,xJ),(167,jW),(172,jW),(171,xI),(170,xH),(169,xG),(168,xF),(19,CH),(166,xE),(165,xD),(164,rQ)]) ds W38) ((TR ro K) .normal (Env.of e [(175,ep),(21,ep),(20,v20),(174,ep),(173,xJ),(167,jW),(172,jW),(171,xI),(170,xH),(169,xG),(168,xF),(19,CH),(166,xE),(165,xD),(164,rQ)]) ds jO)) (K (.exit 4) (Env.of e [(164,rQ)]) ds W)):=by kernel_rfl
theorem ABM {Q:Ending→CW→Prop} {v0 v1:Value} {W:CW} (h:AK prog AV none 48 179 (AM prog 48) (Env.args [v0,v1]) [] W (AI prog Tryz.f48 Q)):AF prog AV 48 [v0,v1] W Q:=AX Tryz.func48 (by kernel_rfl) (by kernel_rfl) (by kernel_rfl) (by kernel_rfl) (by kernel_rfl) h
def Jp (ro:Option Nat) (K:AG):AG:=Aw (fun e ds W=>wV (ld prog 78 (e 8) W) fun Ep=>wV (CE prog 78 (e 6) Ep W) fun W5=>K .ret (Env.of e [(7,(.int .i64 0)),(32,Ep)]) ds W5) K
theorem ABN (v0 v1 v2:Value) (K:AG) (W:CW):AK prog AV none 49 33 (AM prog 49) (Env.args [v0,v1,v2]) [] W K=(Bw (F5 prog 78 W) fun v6 W0=>AF prog AV 47 [v0] W0 (AT (fun BR W1=>wV (ext BR 0) fun DQ=>wV (ext BR 1) fun Bk=>Bw (F5 prog 78 W1) fun v8 W3=>wV (CE prog 78 v8 DQ W3) fun W4=>wV (KG Bk) fun B7=>wI B7 (wV (ld prog 78 v8 W4) fun CP=>wV (CE prog 78 v6 CP W4) fun W7=>(Jp none K) .ret (Env.of (Env.args [v0,v1,v2]) [(7,(.int .i64 210)),(18,CP),(15,B7),(17,B7),(16,Bk),(9,Bk),(8,v8),(14,Bk),(13,DQ),(10,BR),(12,BR),(11,v0),(7,(.int .i64 0)),(6,v6)]) [] W7) (wV (ld prog 78 v8 W4) fun v20=>AF prog AV 84 [v20,v1] W4 (AT (fun FX W8=>wV (AU prog .geq 3 true FX (.int .i64 0)) fun Da=>wI Da (wV (ld prog 78 v8 W8) fun Eu=>wV (CE prog 78 v6 Eu W8) fun QG=>(Jp none K) .ret (Env.of (Env.args [v0,v1,v2]) [(7,(.int .i64 211)),(24,Eu),(19,Da),(23,Da),(22,FX),(21,v1),(20,v20),(15,B7),(17,B7),(16,Bk),(9,Bk),(8,v8),(14,Bk),(13,DQ),(10,BR),(12,BR),(11,v0),(7,(.int .i64 0)),(6,v6)]) [] QG) (wV (Aj prog 24 v1 W8) fun DG=>AF prog AV 103 [v2,(.int .i64 0),DG] W8 (AT (fun D' Dd=>wV (KG D') fun v30=>wI v30 (wV (ld prog 78 v8 Dd) fun EA=>wV (CE prog 78 v6 EA Dd) fun Iw=>(Jp none K) .ret (Env.of (Env.args [v0,v1,v2]) [(7,(.int .i64 1)),(31,EA),(25,v30),(30,v30),(29,D'),(28,DG),(27,v1),(26,v2),(19,Da),(23,Da),(22,FX),(21,v1),(20,v20),(15,B7),(17,B7),(16,Bk),(9,Bk),(8,v8),(14,Bk),(13,DQ),(10,BR),(12,BR),(11,v0),(7,(.int .i64 0)),(6,v6)]) [] Iw) ((Jp none K) .normal (Env.of (Env.args [v0,v1,v2]) [(25,v30),(30,v30),(29,D'),(28,DG),(27,v1),(26,v2),(19,Da),(23,Da),(22,FX),(21,v1),(20,v20),(15,B7),(17,B7),(16,Bk),(9,Bk),(8,v8),(14,Bk),(13,DQ),(10,BR),(12,BR),(11,v0),(7,(.int .i64 0)),(6,v6)]) [] Dd)) (fun wB H0=>(Jp none K) (.panic wB) (Env.of (Env.args [v0,v1,v2]) [(28,DG),(27,v1),(26,v2),(19,Da),(23,Da),(22,FX),(21,v1),(20,v20),(15,B7),(17,B7),(16,Bk),(9,Bk),(8,v8),(14,Bk),(13,DQ),(10,BR),(12,BR),(11,v0),(7,(.int .i64 0)),(6,v6)]) [] H0)))) (fun mj W9=>(Jp none K) (.panic mj) (Env.of (Env.args [v0,v1,v2]) [(21,v1),(20,v20),(15,B7),(17,B7),(16,Bk),(9,Bk),(8,v8),(14,Bk),(13,DQ),(10,BR),(12,BR),(11,v0),(7,(.int .i64 0)),(6,v6)]) [] W9)))) (fun m9 W2=>K (.panic m9) (Env.of (Env.args [v0,v1,v2]) [(11,v0),(7,(.int .i64 0)),(6,v6)]) [] W2))):=by kernel_rfl
theorem ABO {Q:Ending→CW→Prop} {v0 v1 v2:Value} {W:CW} (h:AK prog AV none 49 33 (AM prog 49) (Env.args [v0,v1,v2]) [] W (AI prog Tryz.f49 Q)):AF prog AV 49 [v0,v1,v2] W Q:=AX Tryz.func49 (by kernel_rfl) (by kernel_rfl) (by kernel_rfl) (by kernel_rfl) (by kernel_rfl) h
def nP (ro:Option Nat) (K:AG):AG:=Aw (fun e ds W=>K .ret (Env.of e [(4,(e 5)),(42,(e 5))]) ds W) K
theorem ABP (v0 v1:Value) (K:AG) (W:CW):AK prog AV none 50 43 (AM prog 50) (Env.args [v0,v1]) [] W K=(Bw (tV W) fun v9 W0=>wV (QF prog 100 [(1,v9)]) fun v10=>Bw (QE prog 100 v10 W0) fun v11 W1=>AF prog AV 105 [v11,v0] W1 (AT (fun Bk W2=>C6 prog AV none 50 43 (.loop (Ae prog 50 0)) (Env.of (Env.args [v0,v1]) [(6,(.int .i64 0)),(14,Bk),(13,v0),(12,v11),(5,v11),(11,v11),(10,v10),(9,v9),(4,(.pointer none))]) [] W2 (Bm 0 (nP none K))) (fun Wo W3=>K (.panic Wo) (Env.of (Env.args [v0,v1]) [(13,v0),(12,v11),(5,v11),(11,v11),(10,v10),(9,v9),(4,(.pointer none))]) [] W3))):=by kernel_rfl
def eu (ro:Option Nat) (K:AG):AG:=Aw (fun e ds W=>wV (AU prog .add 3 true (e 6) (.int .i64 1)) fun Da=>K .normal (Env.of e [(6,Da),(23,Da),(22,(e 6))]) ds W) K
theorem xK (ro:Option Nat) (e:Env) (ds:List Deferred) (K:AG) (W:CW):AK prog AV ro 50 43 (Ae prog 50 0) e ds W K=(wV (IM (e 5)) fun B7=>wV (A0 prog 100 B7 0) fun CP=>wV (ld prog 40 CP W) fun CH=>wV (Aj prog 40 CH W) fun v20=>wV (AU prog .lss 3 false (e 6) v20) fun DR=>wI DR (wV (IM (e 5)) fun Dx=>wV (A0 prog 100 Dx 0) fun D_=>wV (ld prog 40 D_ W) fun DG=>wV (EV prog 40 DG (e 6)) fun v30=>wV (ld prog 3 v30 W) fun EA=>DZ prog AV (e 1) [EA] W (fun Ep W6=>wV (Aj prog 40 Ep W6) fun EW=>C6 prog AV ro 50 43 (.loop (Ae prog 50 1)) (Env.of e [(34,(.int .i64 0)),(33,EW),(32,Ep),(31,EA),(30,v30),(29,(e 6)),(28,DG),(27,D_),(26,Dx),(25,(e 5)),(24,(e 1)),(21,DR),(20,v20),(19,CH),(18,CP),(17,B7),(16,(e 5)),(15,(e 6))]) ds W6 (Bm 2 (Bm 1 (eu ro K)))) (fun q7 W7=>(eu ro K) (.panic q7) (Env.of e [(31,EA),(30,v30),(29,(e 6)),(28,DG),(27,D_),(26,Dx),(25,(e 5)),(24,(e 1)),(21,DR),(20,v20),(19,CH),(18,CP),(17,B7),(16,(e 5)),(15,(e 6))]) ds W7)) (K (.exit 0) (Env.of e [(21,DR),(20,v20),(19,CH),(18,CP),(17,B7),(16,(e 5)),(15,(e 6))]) ds W)):=by kernel_rfl
def ew (ro:Option Nat) (K:AG):AG:=Aw (fun e ds W=>wV (AU prog .add 3 true (e 34) (.int .i64 1)) fun FL=>K .normal (Env.of e [(34,FL),(41,FL)]) ds W) K
theorem xL (ro:Option Nat) (e:Env) (ds:List Deferred) (K:AG) (W:CW):AK prog AV ro 50 43 (Ae prog 50 1) e ds W K=(wV (AU prog .lss 3 false (e 34) (e 33)) fun FF=>wI FF (wV (EV prog 40 (e 32) (e 34)) fun I0=>wV (ld prog 3 I0 W) fun Fh=>AF prog AV 105 [(e 5),Fh] W (AT (fun FZ W9=>(ew ro K) .normal (Env.of e [(40,FZ),(39,Fh),(38,(e 5)),(8,Fh),(37,Fh),(36,I0),(35,FF)]) ds W9) (fun eH QG=>(ew ro K) (.panic eH) (Env.of e [(39,Fh),(38,(e 5)),(8,Fh),(37,Fh),(36,I0),(35,FF)]) ds QG))) (K (.exit 2) (Env.of e [(35,FF)]) ds W)):=by kernel_rfl
theorem jX (Q:Ending→CW→Prop) (e:Env) (W:CW):AI prog Tryz.f50 Q .ret e [] W=Q (.returned (e 4)) W:=by kernel_rfl
theorem ABQ {Q:Ending→CW→Prop} {v0 v1:Value} {W:CW} (h:AK prog AV none 50 43 (AM prog 50) (Env.args [v0,v1]) [] W (AI prog Tryz.f50 Q)):AF prog AV 50 [v0,v1] W Q:=AX Tryz.func50 (by kernel_rfl) (by kernel_rfl) (by kernel_rfl) (by kernel_rfl) (by kernel_rfl) h
def ey (ro:Option Nat) (K:AG):AG:=Aw (fun e ds W=>wV (ld prog 40 (e 5) W) fun Da=>K .ret (Env.of e [(4,Da),(23,Da)]) ds W) K
theorem ABR (v0 v1:Value) (K:AG) (W:CW):AK prog AV none 52 24 (AM prog 52) (Env.args [v0,v1]) [] W K=(Bw (QE prog 78 v0 W) fun v2 W0=>Bw (QE prog 56 v1 W0) fun v3 W1=>Bw (F5 prog 40 W1) fun v5 W2=>wV (ld prog 78 v2 W2) fun v8=>wV (ld prog 56 v3 W2) fun v9=>AF prog AV 62 [v8,v9] W2 (AT (fun v10 W4=>C6 prog AV none 52 24 (.rangeFunc (.tmp 10) #[11,12] (AS prog 52 0) (AQ prog 52 0)) (Env.of (Env.args [v0,v1]) [(10,v10),(9,v9),(8,v8),(5,v5),(4,(.slice none 0 0)),(3,v3),(2,v2)]) [] W4 (Bm 0 (ey none K))) (fun ml W5=>(ey none K) (.panic ml) (Env.of (Env.args [v0,v1]) [(9,v9),(8,v8),(5,v5),(4,(.slice none 0 0)),(3,v3),(2,v2)]) [] W5))):=by kernel_rfl
theorem xM (ro:Option Nat) (e:Env) (ds:List Deferred) (K:AG) (W:CW):AK prog AV ro 52 24 (AS prog 52 0) e ds W K=(K .normal (Env.of e [(7,(e 12)),(6,(e 11))]) ds W):=by kernel_rfl
theorem xN (ro:Option Nat) (e:Env) (ds:List Deferred) (K:AG) (W:CW):AK prog AV ro 52 24 (AQ prog 52 0) e ds W K=(wV (AU prog .eql 5 true (e 7) (.int .u8 2)) fun Bk=>wI Bk (wV (ld prog 40 (e 5) W) fun DE=>wV (A0 prog 56 (e 3) 1) fun DS=>wV (ld prog 40 DS W) fun B7=>wV (EV prog 40 B7 (e 6)) fun CH=>wV (ld prog 3 CH W) fun v20=>Bw (V3 prog 40 1 [(0,v20)] W) fun DR W6=>Bw (app prog [40,40] DE DR W6) fun FX W7=>wV (CE prog 40 (e 5) FX W7) fun W8=>(((True)∧((True)∧((True)∧ld prog 3 CH W=some v20)))∧(((True)∧((True)∧((True)∧ld prog 40 DS W=some B7)))∧(((True)∧((True)∧((ld prog 40 (e 5) W6=some DE)∧ld prog 40 (e 5) W=some DE)))∧True)))∧True∧K .normal (Env.of e [(22,FX),(21,DR),(20,v20),(19,CH),(18,(e 6)),(17,B7),(16,DS),(15,DE),(14,Bk),(13,(e 7))]) ds W8) (K .normal (Env.of e [(14,Bk),(13,(e 7))]) ds W)):=by kernel_rfl
theorem jY (Q:Ending→CW→Prop) (e:Env) (W:CW):AI prog Tryz.f52 Q .ret e [] W=Q (.returned (e 4)) W:=by kernel_rfl
theorem ABS {Q:Ending→CW→Prop} {v0 v1:Value} {W:CW} (h:AK prog AV none 52 24 (AM prog 52) (Env.args [v0,v1]) [] W (AI prog Tryz.f52 Q)):AF prog AV 52 [v0,v1] W Q:=AX Tryz.func52 (by kernel_rfl) (by kernel_rfl) (by kernel_rfl) (by kernel_rfl) (by kernel_rfl) h
theorem ABT (v0 v1:Value) (K:AG) (W:CW):AK prog AV none 62 6 (AM prog 62) (Env.args [v0,v1]) [] W K=(Bw (QE prog 78 v0 W) fun v2 W0=>Bw (QE prog 56 v1 W0) fun v3 W1=>wV (some (.func (.func 108) #[] #[v2,v3])) fun v5=>K .ret (Env.of (Env.args [v0,v1]) [(4,v5),(5,v5),(4,(.nilFunc)),(3,v3),(2,v2)]) [] W1):=by kernel_rfl
theorem jZ (Q:Ending→CW→Prop) (e:Env) (W:CW):AI prog Tryz.f62 Q .ret e [] W=Q (.returned (e 4)) W:=by kernel_rfl
theorem ABU {Q:Ending→CW→Prop} {v0 v1:Value} {W:CW} (h:AK prog AV none 62 6 (AM prog 62) (Env.args [v0,v1]) [] W (AI prog Tryz.f62 Q)):AF prog AV 62 [v0,v1] W Q:=AX Tryz.func62 (by kernel_rfl) (by kernel_rfl) (by kernel_rfl) (by kernel_rfl) (by kernel_rfl) h
theorem ABV (v0 v1:Value) (K:AG) (W:CW):AK prog AV none 84 11 (AM prog 84) (Env.args [v0,v1]) [] W K=(Bw (QE prog 78 v0 W) fun v2 W0=>Bw (QE prog 24 v1 W0) fun v3 W1=>wV (ld prog 24 v3 W1) fun v5=>wV (Aj prog 24 v5 W1) fun v6=>wV (AU prog .gtr 3 true v6 (.int .i64 1000)) fun v7=>wI v7 (K .ret (Env.of (Env.args [v0,v1]) [(4,(.int .i64 1000)),(7,v7),(6,v6),(5,v5),(4,(.int .i64 0)),(3,v3),(2,v2)]) [] W1) (wV (ld prog 24 v3 W1) fun v8=>wV (some (.func (.func 118) #[] #[v2,v3])) fun v9=>AF prog AV 117 [v8,v9] W1 (AT (fun v10 W2=>K .ret (Env.of (Env.args [v0,v1]) [(4,v10),(10,v10),(9,v9),(8,v8),(7,v7),(6,v6),(5,v5),(4,(.int .i64 0)),(3,v3),(2,v2)]) [] W2) (fun Wo W3=>K (.panic Wo) (Env.of (Env.args [v0,v1]) [(9,v9),(8,v8),(7,v7),(6,v6),(5,v5),(4,(.int .i64 0)),(3,v3),(2,v2)]) [] W3)))):=by kernel_rfl
theorem XB (Q:Ending→CW→Prop) (e:Env) (W:CW):AI prog Tryz.f84 Q .ret e [] W=Q (.returned (e 4)) W:=by kernel_rfl
theorem ABW {Q:Ending→CW→Prop} {v0 v1:Value} {W:CW} (h:AK prog AV none 84 11 (AM prog 84) (Env.args [v0,v1]) [] W (AI prog Tryz.f84 Q)):AF prog AV 84 [v0,v1] W Q:=AX Tryz.func84 (by kernel_rfl) (by kernel_rfl) (by kernel_rfl) (by kernel_rfl) (by kernel_rfl) h
def PS (ro:Option Nat) (K:AG):AG:=Aw (fun e ds W=>wV (IM (e 0)) fun B7=>wV (A0 prog 100 B7 0) fun CP=>wV (ld prog 40 CP W) fun CH=>Bw (V3 prog 40 1 [(0,(e 1))] W) fun DR W0=>Bw (app prog [40,40] CH DR W0) fun FX W1=>wV (IM (e 0)) fun Da=>wV (A0 prog 100 Da 0) fun Eu=>wV (CE prog 40 Eu FX W1) fun W2=>wV (IM (e 0)) fun Dx=>wV (A0 prog 100 Dx 1) fun D_=>wV (ld prog 98 D_ W2) fun DG=>wV (IM (e 0)) fun EA=>wV (A0 prog 100 EA 0) fun Ep=>wV (ld prog 40 Ep W2) fun EW=>wV (Aj prog 40 EW W2) fun Fi=>wV (cj prog 98 DG (e 1) Fi W2) fun W3=>(((True)∧Aj prog 40 EW W2=some Fi)∧(((True)∧ld prog 40 Ep W2=some EW)∧(((True)∧ld prog 98 D_ W2=some DG)∧True)))∧True∧K .normal (Env.of e [(34,Fi),(33,EW),(32,Ep),(31,EA),(30,(e 0)),(29,(e 1)),(28,DG),(27,D_),(26,Dx),(25,(e 0)),(24,Eu),(23,Da),(22,FX),(21,DR),(20,(e 1)),(19,CH),(18,CP),(17,B7),(16,(e 0)),(15,(e 0))]) ds W3) K
def TS (ro:Option Nat) (K:AG):AG:=Aw (fun e ds W=>wI (e 14) ((PS ro K) .ret e ds W) ((PS ro K) .normal e ds W)) (PS ro K)
theorem xO (v0 v1:Value) (K:AG) (W:CW):AK prog AV none 105 35 (AM prog 105) (Env.args [v0,v1]) [] W K=(wV (AU prog .eql 3 true v1 (.int .i64 0)) fun v5=>wI v5 ((TS none K) .normal (Env.of (Env.args [v0,v1]) [(14,(.bool true)),(13,undef),(6,(.bool true)),(12,undef),(6,(.bool true)),(11,undef),(6,(.bool true)),(10,undef),(6,(.bool true)),(9,undef),(6,(.bool true)),(8,undef),(6,(.bool true)),(7,undef),(6,(.bool true)),(6,v5),(5,v5),(4,v1)]) [] W) (wV (IM v0) fun v8=>wV (A0 prog 100 v8 1) fun v9=>wV (ld prog 98 v9 W) fun v10=>wV (GL prog 98 v10 v1 false W) fun BR=>wV (AU prog .gtr 3 true BR (.int .i64 0)) fun DQ=>(TS none K) .normal (Env.of (Env.args [v0,v1]) [(14,DQ),(13,DQ),(6,(.bool false)),(12,BR),(6,(.bool false)),(11,v1),(6,(.bool false)),(10,v10),(6,(.bool false)),(9,v9),(6,(.bool false)),(8,v8),(6,(.bool false)),(7,v0),(6,(.bool false)),(6,v5),(5,v5),(4,v1)]) [] W)):=by kernel_rfl
theorem ez (Q:Ending→CW→Prop) (e:Env) (W:CW):AI prog Tryz.f105 Q .ret e [] W=Q (.returned (.tuple #[])) W:=by kernel_rfl
theorem xP {Q:Ending→CW→Prop} {v0 v1:Value} {W:CW} (h:AK prog AV none 105 35 (AM prog 105) (Env.args [v0,v1]) [] W (AI prog Tryz.f105 Q)):AF prog AV 105 [v0,v1] W Q:=AX Tryz.func105 (by kernel_rfl) (by kernel_rfl) (by kernel_rfl) (by kernel_rfl) (by kernel_rfl) h
theorem nQ (v0 v1 v2:Value) (K:AG) (W:CW):AK prog AV none 108 36 (AM prog 108) (Env.args [v0,v1,v2]) [] W K=(wV (A0 prog 78 v1 0) fun v7=>wV (ld prog 75 v7 W) fun v8=>wV (A0 prog 56 v2 0) fun v9=>wV (ld prog 9 v9 W) fun v10=>wV (GL prog 75 v8 v10 false W) fun v11=>wV (tU prog 48 v11 3) fun BR=>wV (A0 prog 56 v2 1) fun DQ=>wV (ld prog 40 DQ W) fun Bk=>wV (Aj prog 40 Bk W) fun DE=>C6 prog AV none 108 36 (.loop (Ae prog 108 0)) (Env.of (Env.args [v0,v1,v2]) [(16,(.int .i64 0)),(15,DE),(14,Bk),(13,DQ),(4,BR),(12,BR),(11,v11),(10,v10),(9,v9),(8,v8),(7,v7)]) [] W (Bm 0 K)):=by kernel_rfl
def JU (ro:Option Nat) (K:AG):AG:=Aw (fun e ds W=>wV (AU prog .add 3 true (e 16) (.int .i64 1)) fun FF=>K .normal (Env.of e [(16,FF),(35,FF)]) ds W) K
def NB (ro:Option Nat) (K:AG):AG:=Aw (fun e ds W=>DZ prog AV (e 0) [(e 5),(e 6)] W (fun EW W1=>wV (KG EW) fun Fi=>wI Fi ((JU ro K) .ret (Env.of e [(34,Fi),(33,EW),(32,(e 6)),(31,(e 5)),(30,(e 0))]) ds W1) ((JU ro K) .normal (Env.of e [(34,Fi),(33,EW),(32,(e 6)),(31,(e 5)),(30,(e 0))]) ds W1)) (fun m9 W2=>(JU ro K) (.panic m9) (Env.of e [(32,(e 6)),(31,(e 5)),(30,(e 0))]) ds W2)) (Bm 1 (JU ro K))
theorem gq (ro:Option Nat) (e:Env) (ds:List Deferred) (K:AG) (W:CW):AK prog AV ro 108 36 (Ae prog 108 0) e ds W K=(wV (AU prog .lss 3 false (e 16) (e 15)) fun B7=>wI B7 (wV (AU prog .eql 5 true (e 4) (.int .u8 0)) fun DR=>wI DR (wV (A0 prog 78 (e 1) 1) fun FX=>wV (ld prog 76 FX W) fun Da=>wV (A0 prog 56 (e 2) 0) fun Eu=>wV (ld prog 9 Eu W) fun Dc=>wV (GL prog 76 Da Dc false W) fun Dx=>wV (EV prog 29 Dx (e 16)) fun DG=>wV (ld prog 5 DG W) fun D'=>(NB ro K) .normal (Env.of e [(6,D'),(29,D'),(28,DG),(27,(e 16)),(26,Dx),(25,Dc),(24,Eu),(23,Da),(22,FX),(21,DR),(20,(e 4)),(6,(e 4)),(19,(e 4)),(5,(e 16)),(18,(e 16)),(17,B7)]) ds W) ((NB ro K) .normal (Env.of e [(21,DR),(20,(e 4)),(6,(e 4)),(19,(e 4)),(5,(e 16)),(18,(e 16)),(17,B7)]) ds W)) (K (.exit 0) (Env.of e [(17,B7)]) ds W)):=by kernel_rfl
theorem nR {Q:Ending→CW→Prop} {v0 v1 v2:Value} {W:CW} (h:AK prog AV none 108 36 (AM prog 108) (Env.args [v0,v1,v2]) [] W (AI prog Tryz.f108 Q)):AF prog AV 108 [v0,v1,v2] W Q:=AX Tryz.func108 (by kernel_rfl) (by kernel_rfl) (by kernel_rfl) (by kernel_rfl) (by kernel_rfl) h
def Yg (ro:Option Nat) (K:AG):AG:=Aw (fun e ds W=>K .ret (Env.of e [(4,(.int .i64 (-1)))]) ds W) K
theorem xQ (v0 v1:Value) (K:AG) (W:CW):AK prog AV none 117 19 (AM prog 117) (Env.args [v0,v1]) [] W K=(wV (Aj prog 24 v0 W) fun v7=>C6 prog AV none 117 19 (.loop (Ae prog 117 0)) (Env.of (Env.args [v0,v1]) [(8,(.int .i64 0)),(7,v7),(6,v0),(4,(.int .i64 0))]) [] W (Bm 0 (Yg none K))):=by kernel_rfl
def PT (ro:Option Nat) (K:AG):AG:=Aw (fun e ds W=>wV (AU prog .add 3 true (e 8) (.int .i64 1)) fun CP=>K .normal (Env.of e [(8,CP),(18,CP)]) ds W) K
theorem rR (ro:Option Nat) (e:Env) (ds:List Deferred) (K:AG) (W:CW):AK prog AV ro 117 19 (Ae prog 117 0) e ds W K=(wV (AU prog .lss 3 false (e 8) (e 7)) fun v9=>wI v9 (wV (EV prog 24 (e 0) (e 8)) fun Bk=>wV (ld prog 56 Bk W) fun DE=>DZ prog AV (e 1) [DE] W (fun DS W2=>wI DS ((PT ro K) .ret (Env.of e [(4,(e 8)),(17,(e 8)),(16,DS),(15,DE),(14,Bk),(13,(e 8)),(12,(e 0)),(11,(e 1)),(5,(e 8)),(10,(e 8)),(9,v9)]) ds W2) ((PT ro K) .normal (Env.of e [(16,DS),(15,DE),(14,Bk),(13,(e 8)),(12,(e 0)),(11,(e 1)),(5,(e 8)),(10,(e 8)),(9,v9)]) ds W2)) (fun Wo W3=>(PT ro K) (.panic Wo) (Env.of e [(15,DE),(14,Bk),(13,(e 8)),(12,(e 0)),(11,(e 1)),(5,(e 8)),(10,(e 8)),(9,v9)]) ds W3)) (K (.exit 0) (Env.of e [(9,v9)]) ds W)):=by kernel_rfl
theorem Uy (Q:Ending→CW→Prop) (e:Env) (W:CW):AI prog Tryz.f117 Q .ret e [] W=Q (.returned (e 4)) W:=by kernel_rfl
theorem xR {Q:Ending→CW→Prop} {v0 v1:Value} {W:CW} (h:AK prog AV none 117 19 (AM prog 117) (Env.args [v0,v1]) [] W (AI prog Tryz.f117 Q)):AF prog AV 117 [v0,v1] W Q:=AX Tryz.func117 (by kernel_rfl) (by kernel_rfl) (by kernel_rfl) (by kernel_rfl) (by kernel_rfl) h
theorem xS (v0 v1 v2:Value) (K:AG) (W:CW):AK prog AV none 118 11 (AM prog 118) (Env.args [v0,v1,v2]) [] W K=(Bw (QE prog 56 v0 W) fun v3 W0=>wV (ld prog 78 v1 W0) fun v5=>wV (ld prog 56 v3 W0) fun v6=>wV (ld prog 24 v2 W0) fun v7=>wV (Aj prog 24 v7 W0) fun v8=>AF prog AV 119 [v5,v6,v8] W0 (AT (fun v9 W1=>wV (KG v9) fun v10=>K .ret (Env.of (Env.args [v0,v1,v2]) [(4,v10),(10,v10),(9,v9),(8,v8),(7,v7),(6,v6),(5,v5),(4,(.bool false)),(3,v3)]) [] W1) (fun m9 W2=>K (.panic m9) (Env.of (Env.args [v0,v1,v2]) [(8,v8),(7,v7),(6,v6),(5,v5),(4,(.bool false)),(3,v3)]) [] W2))):=by kernel_rfl
theorem e_ (Q:Ending→CW→Prop) (e:Env) (W:CW):AI prog Tryz.f118 Q .ret e [] W=Q (.returned (e 4)) W:=by kernel_rfl
theorem xT {Q:Ending→CW→Prop} {v0 v1 v2:Value} {W:CW} (h:AK prog AV none 118 11 (AM prog 118) (Env.args [v0,v1,v2]) [] W (AI prog Tryz.f118 Q)):AF prog AV 118 [v0,v1,v2] W Q:=AX Tryz.func118 (by kernel_rfl) (by kernel_rfl) (by kernel_rfl) (by kernel_rfl) (by kernel_rfl) h
def PU (ro:Option Nat) (K:AG):AG:=Aw (fun e ds W=>wV (CE prog 4 (e 6) (.bool true) W) fun W6=>K .ret e ds W6) K
def Mc (ro:Option Nat) (K:AG):AG:=Aw (fun e ds W=>wV (ld prog 78 (e 3) W) fun FT=>wV (ld prog 56 (e 4) W) fun Hx=>AF prog AV 62 [FT,Hx] W (AT (fun IU W8=>C6 prog AV ro 119 72 (.rangeFunc (.tmp 47) #[48,49] (AS prog 119 0) (AQ prog 119 0)) (Env.of e [(47,IU),(46,Hx),(45,FT)]) ds W8 (Bm 0 (PU ro K))) (fun mj W9=>(PU ro K) (.panic mj) (Env.of e [(46,Hx),(45,FT)]) ds W9))) K
def Ko (ro:Option Nat) (K:AG):AG:=Aw (fun e ds W=>wI (e 44) (wV (CE prog 4 (e 6) (.bool false) W) fun Dd=>(Mc ro K) .ret e ds Dd) ((Mc ro K) .normal e ds W)) (Mc ro K)
theorem xU (v0 v1 v2:Value) (K:AG) (W:CW):AK prog AV none 119 72 (AM prog 119) (Env.args [v0,v1,v2]) [] W K=(Bw (QE prog 78 v0 W) fun v3 W0=>Bw (QE prog 56 v1 W0) fun v4 W1=>Bw (QE prog 3 v2 W1) fun v5 W2=>Bw (F5 prog 4 W2) fun v6 W3=>wV (A0 prog 78 v3 0) fun DQ=>wV (ld prog 75 DQ W3) fun Bk=>wV (A0 prog 56 v4 0) fun DE=>wV (ld prog 9 DE W3) fun DS=>wV (GL prog 75 Bk DS true W3) fun B7=>wV (ext B7 0) fun CP=>wV (ext B7 1) fun CH=>Bw (F5 prog 48 W3) fun v7 W4=>wV (CE prog 48 v7 CP W4) fun W5=>wV (KG CH) fun DR=>wI DR ((Ko none K) .normal (Env.of (Env.args [v0,v1,v2]) [(44,(.bool true)),(43,undef),(39,(.bool true)),(42,undef),(39,(.bool true)),(41,undef),(39,(.bool true)),(40,undef),(39,(.bool true)),(39,(.bool true)),(38,(.bool true)),(37,undef),(22,(.bool true)),(36,undef),(35,undef),(34,undef),(33,undef),(32,undef),(31,undef),(30,undef),(29,undef),(28,undef),(27,undef),(26,undef),(22,(.bool true)),(25,undef),(22,(.bool true)),(24,undef),(22,(.bool true)),(23,undef),(22,(.bool true)),(22,DR),(21,DR),(20,CH),(8,CH),(7,v7),(19,CH),(18,CP),(12,B7),(17,B7),(16,DS),(15,DE),(14,Bk),(13,DQ),(6,v6),(5,v5),(4,v4),(3,v3)]) [] W5) (wV (A0 prog 48 v7 3) fun Da=>wV (ld prog 5 Da W5) fun Eu=>wV (AU prog .eql 5 true Eu (.int .u8 0)) fun Dc=>wI Dc (wV (A0 prog 56 v4 1) fun D_=>wV (ld prog 40 D_ W5) fun DG=>wV (Aj prog 40 DG W5) fun D'=>wV (A0 prog 78 v3 1) fun v30=>wV (ld prog 76 v30 W5) fun EA=>wV (A0 prog 56 v4 0) fun Ep=>wV (ld prog 9 Ep W5) fun EW=>wV (GL prog 76 EA EW false W5) fun Fi=>wV (Aj prog 29 Fi W5) fun FF=>wV (AU prog .neq 3 false D' FF) fun I0=>wI I0 ((Ko none K) .normal (Env.of (Env.args [v0,v1,v2]) [(44,(.bool true)),(43,undef),(39,(.bool true)),(42,undef),(39,(.bool true)),(41,undef),(39,(.bool true)),(40,undef),(39,(.bool true)),(39,I0),(38,I0),(37,I0),(22,(.bool false)),(36,I0),(26,(.bool true)),(35,FF),(26,(.bool true)),(34,Fi),(26,(.bool true)),(33,EW),(26,(.bool true)),(32,Ep),(26,(.bool true)),(31,EA),(26,(.bool true)),(30,v30),(26,(.bool true)),(29,D'),(26,(.bool true)),(28,DG),(26,(.bool true)),(27,D_),(26,(.bool true)),(26,Dc),(22,(.bool false)),(25,Dc),(22,(.bool false)),(24,Eu),(22,(.bool false)),(23,Da),(22,(.bool false)),(22,DR),(21,DR),(20,CH),(8,CH),(7,v7),(19,CH),(18,CP),(12,B7),(17,B7),(16,DS),(15,DE),(14,Bk),(13,DQ),(6,v6),(5,v5),(4,v4),(3,v3)]) [] W5) (wV (A0 prog 56 v4 1) fun FZ=>wV (ld prog 40 FZ W5) fun FL=>wV (Aj prog 40 FL W5) fun HL=>wV (AU prog .gtr 3 true HL (.int .i64 200)) fun FE=>(Ko none K) .normal (Env.of (Env.args [v0,v1,v2]) [(44,FE),(43,FE),(39,(.bool false)),(42,HL),(39,(.bool false)),(41,FL),(39,(.bool false)),(40,FZ),(39,(.bool false)),(39,I0),(38,I0),(37,I0),(22,(.bool false)),(36,I0),(26,(.bool true)),(35,FF),(26,(.bool true)),(34,Fi),(26,(.bool true)),(33,EW),(26,(.bool true)),(32,Ep),(26,(.bool true)),(31,EA),(26,(.bool true)),(30,v30),(26,(.bool true)),(29,D'),(26,(.bool true)),(28,DG),(26,(.bool true)),(27,D_),(26,(.bool true)),(26,Dc),(22,(.bool false)),(25,Dc),(22,(.bool false)),(24,Eu),(22,(.bool false)),(23,Da),(22,(.bool false)),(22,DR),(21,DR),(20,CH),(8,CH),(7,v7),(19,CH),(18,CP),(12,B7),(17,B7),(16,DS),(15,DE),(14,Bk),(13,DQ),(6,v6),(5,v5),(4,v4),(3,v3)]) [] W5)) (wV (A0 prog 56 v4 1) fun FZ=>wV (ld prog 40 FZ W5) fun FL=>wV (Aj prog 40 FL W5) fun HL=>wV (AU prog .gtr 3 true HL (.int .i64 200)) fun FE=>(Ko none K) .normal (Env.of (Env.args [v0,v1,v2]) [(44,FE),(43,FE),(39,(.bool false)),(42,HL),(39,(.bool false)),(41,FL),(39,(.bool false)),(40,FZ),(39,(.bool false)),(39,(.bool false)),(38,(.bool false)),(37,(.bool false)),(22,(.bool false)),(36,undef),(26,(.bool false)),(35,undef),(26,(.bool false)),(34,undef),(26,(.bool false)),(33,undef),(26,(.bool false)),(32,undef),(26,(.bool false)),(31,undef),(26,(.bool false)),(30,undef),(26,(.bool false)),(29,undef),(26,(.bool false)),(28,undef),(26,(.bool false)),(27,undef),(26,(.bool false)),(26,Dc),(22,(.bool false)),(25,Dc),(22,(.bool false)),(24,Eu),(22,(.bool false)),(23,Da),(22,(.bool false)),(22,DR),(21,DR),(20,CH),(8,CH),(7,v7),(19,CH),(18,CP),(12,B7),(17,B7),(16,DS),(15,DE),(14,Bk),(13,DQ),(6,v6),(5,v5),(4,v4),(3,v3)]) [] W5))):=by kernel_rfl
theorem rS (ro:Option Nat) (e:Env) (ds:List Deferred) (K:AG) (W:CW):AK prog AV ro 119 72 (AS prog 119 0) e ds W K=(K .normal (Env.of e [(10,(e 49)),(9,(e 48))]) ds W):=by kernel_rfl
def Fq (ro:Option Nat) (K:AG):AG:=Aw (fun e ds W=>wI (e 71) (wV (CE prog 4 (e 6) (.bool false) W) fun Iw=>K .ret e ds Iw) (K .normal e ds W)) (Bm 1 K)
theorem rT (ro:Option Nat) (e:Env) (ds:List Deferred) (K:AG) (W:CW):AK prog AV ro 119 72 (AQ prog 119 0) e ds W K=(wV (A0 prog 56 (e 4) 1) fun Hr=>wV (ld prog 40 Hr W) fun GH=>wV (EV prog 40 GH (e 9)) fun Gu=>wV (ld prog 3 Gu W) fun F7=>wV (AU prog .eql 5 true (e 10) (.int .u8 1)) fun FU=>wI FU (AF prog AV 103 [F7,(.int .i64 (-1000000000)),(.int .i64 1000000000)] W (AT (fun Fx Og=>wV (KG Fx) fun E_=>wI E_ ((Fq ro K) .normal (Env.of e [(71,(.bool true)),(70,undef),(62,(.bool true)),(69,undef),(68,undef),(67,undef),(66,undef),(65,undef),(62,(.bool true)),(64,undef),(62,(.bool true)),(63,undef),(62,(.bool true)),(62,E_),(61,E_),(60,E_),(57,(.bool true)),(59,Fx),(57,(.bool true)),(58,F7),(57,(.bool true)),(57,FU),(56,FU),(55,(e 10)),(11,F7),(54,F7),(53,Gu),(52,(e 9)),(51,GH),(50,Hr)]) ds Og) (wV (AU prog .eql 5 true (e 10) (.int .u8 2)) fun K2=>wI K2 (wV (ld prog 3 (e 5) Og) fun J4=>AF prog AV 103 [F7,(.int .i64 0),J4] Og (AT (fun J5 NQ=>wV (KG J5) fun HP=>(Fq ro K) .normal (Env.of e [(71,HP),(70,HP),(62,(.bool false)),(69,HP),(65,(.bool true)),(68,J5),(65,(.bool true)),(67,J4),(65,(.bool true)),(66,F7),(65,(.bool true)),(65,K2),(62,(.bool false)),(64,K2),(62,(.bool false)),(63,(e 10)),(62,(.bool false)),(62,E_),(61,E_),(60,E_),(57,(.bool true)),(59,Fx),(57,(.bool true)),(58,F7),(57,(.bool true)),(57,FU),(56,FU),(55,(e 10)),(11,F7),(54,F7),(53,Gu),(52,(e 9)),(51,GH),(50,Hr)]) ds NQ) (fun m6 L5=>(Fq ro K) (.panic m6) (Env.of e [(65,(.bool true)),(67,J4),(65,(.bool true)),(66,F7),(65,(.bool true)),(65,K2),(62,(.bool false)),(64,K2),(62,(.bool false)),(63,(e 10)),(62,(.bool false)),(62,E_),(61,E_),(60,E_),(57,(.bool true)),(59,Fx),(57,(.bool true)),(58,F7),(57,(.bool true)),(57,FU),(56,FU),(55,(e 10)),(11,F7),(54,F7),(53,Gu),(52,(e 9)),(51,GH),(50,Hr)]) ds L5))) ((Fq ro K) .normal (Env.of e [(71,(.bool false)),(70,(.bool false)),(62,(.bool false)),(69,undef),(65,(.bool false)),(68,undef),(65,(.bool false)),(67,undef),(65,(.bool false)),(66,undef),(65,(.bool false)),(65,K2),(62,(.bool false)),(64,K2),(62,(.bool false)),(63,(e 10)),(62,(.bool false)),(62,E_),(61,E_),(60,E_),(57,(.bool true)),(59,Fx),(57,(.bool true)),(58,F7),(57,(.bool true)),(57,FU),(56,FU),(55,(e 10)),(11,F7),(54,F7),(53,Gu),(52,(e 9)),(51,GH),(50,Hr)]) ds Og))) (fun wC CQ=>(Fq ro K) (.panic wC) (Env.of e [(57,(.bool true)),(58,F7),(57,(.bool true)),(57,FU),(56,FU),(55,(e 10)),(11,F7),(54,F7),(53,Gu),(52,(e 9)),(51,GH),(50,Hr)]) ds CQ))) (wV (AU prog .eql 5 true (e 10) (.int .u8 2)) fun K2=>wI K2 (wV (ld prog 3 (e 5) W) fun J4=>AF prog AV 103 [F7,(.int .i64 0),J4] W (AT (fun J5 J6=>wV (KG J5) fun HP=>(Fq ro K) .normal (Env.of e [(71,HP),(70,HP),(62,(.bool false)),(69,HP),(65,(.bool true)),(68,J5),(65,(.bool true)),(67,J4),(65,(.bool true)),(66,F7),(65,(.bool true)),(65,K2),(62,(.bool false)),(64,K2),(62,(.bool false)),(63,(e 10)),(62,(.bool false)),(62,(.bool false)),(61,(.bool false)),(60,undef),(57,(.bool false)),(59,undef),(57,(.bool false)),(58,undef),(57,(.bool false)),(57,FU),(56,FU),(55,(e 10)),(11,F7),(54,F7),(53,Gu),(52,(e 9)),(51,GH),(50,Hr)]) ds J6) (fun YP QH=>(Fq ro K) (.panic YP) (Env.of e [(65,(.bool true)),(67,J4),(65,(.bool true)),(66,F7),(65,(.bool true)),(65,K2),(62,(.bool false)),(64,K2),(62,(.bool false)),(63,(e 10)),(62,(.bool false)),(62,(.bool false)),(61,(.bool false)),(60,undef),(57,(.bool false)),(59,undef),(57,(.bool false)),(58,undef),(57,(.bool false)),(57,FU),(56,FU),(55,(e 10)),(11,F7),(54,F7),(53,Gu),(52,(e 9)),(51,GH),(50,Hr)]) ds QH))) ((Fq ro K) .normal (Env.of e [(71,(.bool false)),(70,(.bool false)),(62,(.bool false)),(69,undef),(65,(.bool false)),(68,undef),(65,(.bool false)),(67,undef),(65,(.bool false)),(66,undef),(65,(.bool false)),(65,K2),(62,(.bool false)),(64,K2),(62,(.bool false)),(63,(e 10)),(62,(.bool false)),(62,(.bool false)),(61,(.bool false)),(60,undef),(57,(.bool false)),(59,undef),(57,(.bool false)),(58,undef),(57,(.bool false)),(57,FU),(56,FU),(55,(e 10)),(11,F7),(54,F7),(53,Gu),(52,(e 9)),(51,GH),(50,Hr)]) ds W))):=by kernel_rfl
theorem xV {Q:Ending→CW→Prop} {v0 v1 v2:Value} {W:CW} (h:AK prog AV none 119 72 (AM prog 119) (Env.args [v0,v1,v2]) [] W (AI prog Tryz.f119 Q)):AF prog AV 119 [v0,v1,v2] W Q:=AX Tryz.func119 (by kernel_rfl) (by kernel_rfl) (by kernel_rfl) (by kernel_rfl) (by kernel_rfl) h
theorem xW (v0 v1:Value) (K:AG) (W:CW):AK prog AV none 104 9 (AM prog 104) (Env.args [v0,v1]) [] W K=(AF prog AV 126 [v0,v1] W (AT (fun v7 W0=>wV (AU prog .geq 3 true v7 (.int .i64 0)) fun v8=>K .ret (Env.of (Env.args [v0,v1]) [(4,v8),(8,v8),(7,v7),(6,v1),(5,v0),(4,(.bool false))]) [] W0) (fun L0 W1=>K (.panic L0) (Env.of (Env.args [v0,v1]) [(6,v1),(5,v0),(4,(.bool false))]) [] W1))):=by kernel_rfl
theorem fA (Q:Ending→CW→Prop) (e:Env) (W:CW):AI prog Tryz.f104 Q .ret e [] W=Q (.returned (e 4)) W:=by kernel_rfl
theorem xX {Q:Ending→CW→Prop} {v0 v1:Value} {W:CW} (h:AK prog AV none 104 9 (AM prog 104) (Env.args [v0,v1]) [] W (AI prog Tryz.f104 Q)):AF prog AV 104 [v0,v1] W Q:=AX Tryz.func104 (by kernel_rfl) (by kernel_rfl) (by kernel_rfl) (by kernel_rfl) (by kernel_rfl) h
def Yh (ro:Option Nat) (K:AG):AG:=Aw (fun e ds W=>K .ret (Env.of e [(4,(.int .i64 (-1)))]) ds W) K
theorem xY (v0 v1:Value) (K:AG) (W:CW):AK prog AV none 126 19 (AM prog 126) (Env.args [v0,v1]) [] W K=(wV (Aj prog 40 v0 W) fun v7=>C6 prog AV none 126 19 (.loop (Ae prog 126 0)) (Env.of (Env.args [v0,v1]) [(8,(.int .i64 0)),(7,v7),(6,v0),(4,(.int .i64 0))]) [] W (Bm 0 (Yh none K))):=by kernel_rfl
def TU (ro:Option Nat) (K:AG):AG:=Aw (fun e ds W=>wV (AU prog .add 3 true (e 8) (.int .i64 1)) fun CP=>K .normal (Env.of e [(8,CP),(18,CP)]) ds W) K
theorem rU (ro:Option Nat) (e:Env) (ds:List Deferred) (K:AG) (W:CW):AK prog AV ro 126 19 (Ae prog 126 0) e ds W K=(wV (AU prog .lss 3 false (e 8) (e 7)) fun v9=>wI v9 (wV (EV prog 40 (e 0) (e 8)) fun Bk=>wV (ld prog 3 Bk W) fun DE=>wV (AU prog .eql 3 false (e 1) DE) fun DS=>wI DS ((TU ro K) .ret (Env.of e [(4,(e 8)),(17,(e 8)),(16,DS),(15,DE),(14,Bk),(13,(e 8)),(12,(e 0)),(11,(e 1)),(5,(e 8)),(10,(e 8)),(9,v9)]) ds W) ((TU ro K) .normal (Env.of e [(16,DS),(15,DE),(14,Bk),(13,(e 8)),(12,(e 0)),(11,(e 1)),(5,(e 8)),(10,(e 8)),(9,v9)]) ds W)) (K (.exit 0) (Env.of e [(9,v9)]) ds W)):=by kernel_rfl
theorem Uz (Q:Ending→CW→Prop) (e:Env) (W:CW):AI prog Tryz.f126 Q .ret e [] W=Q (.returned (e 4)) W:=by kernel_rfl
theorem xZ {Q:Ending→CW→Prop} {v0 v1:Value} {W:CW} (h:AK prog AV none 126 19 (AM prog 126) (Env.args [v0,v1]) [] W (AI prog Tryz.f126 Q)):AF prog AV 126 [v0,v1] W Q:=AX Tryz.func126 (by kernel_rfl) (by kernel_rfl) (by kernel_rfl) (by kernel_rfl) (by kernel_rfl) h
end Go.Ce
namespace Go.Ce
open Go Go.Proofs Go.Proofs.Tryz
theorem PV:∀ a:List UInt8,S7 a a=false
 | []=>rfl
 | a::x=>by
  simp only [S7,Nat.beq_refl,Bool.true_and,PV x,Bool.or_false]
  cases h:Nat.blt a.toNat a.toNat with
  | false=>rfl
  | true=>have:=Nat.le_of_ble_eq_true h; omega
theorem NC:∀ a b c:List UInt8,S7 a b=true→S7 b c=true→S7 a c=true
 | _,_,[],_,h=>by simp [S7] at h
 | _,[],_::_,h,_=>by simp [S7] at h
 | [],_::_,_::_,_,_=>rfl
 | a::x,b::y,c::z,h1,h2=>by
  simp only [S7,Bool.or_eq_true,Bool.and_eq_true] at h1 h2 ⊢; have blt:∀ m n:Nat,Nat.blt m n=true↔m<n:=fun m n=>⟨fun h=>Nat.le_of_ble_eq_true h,fun h=>Nat.ble_eq_true_of_le h⟩
  rw [blt,Nat.beq_eq] at h1 h2 ⊢
  rcases h1 with h1 | ⟨h1,h1'⟩
  ·rcases h2 with h2 | ⟨h2,zs⟩
   ·exact .inl (Nat.lt_trans h1 h2)
   ·exact .inl (by omega)
  ·rcases h2 with h2 | ⟨h2,zs⟩
   ·exact .inl (by omega)
   ·exact .inr ⟨by omega,NC x y z h1' zs⟩
theorem nT {c:List Ad}:∀ {i:Nat},(∀ j,j<i→BW c j=false)→∀ j k x y,j<k→k<i→c[j]?=some x→c[k]?=some y→S7 (sb x.name) (sb y.name)=true:=by
 intro i h j k
 induction k with
 | zero=>intro x y hj; omega
 | succ k ih =>
  intro x y hj hk hx hy; have hb:=h (k+1) hk; unfold BW at hb; rw [hy] at hb; simp only [Bool.or_eq_false_iff] at hb; have hp:=hb.1.2; unfold Ic at hp; have cw:k<c.length:=by have:=(List.getElem?_eq_some_iff.1 hy).1; omega
  have hz:=List.getElem?_eq_getElem cw; simp only [hz,Bool.not_eq_false'] at hp
  rcases Nat.lt_succ_iff_lt_or_eq.1 hj with h1 | rfl
  ·exact NC _ _ _ (ih x _ h1 (by omega) hx hz) hp
  ·rw [hx] at hz; cases hz; exact hp
theorem fB {c:List Ad} {i:Nat} (h:∀ j,j<i→BW c j=false) {j k:Nat} {x y:Ad} (hjk:j≠k) (hj:j<i) (hk:k<i) (hx:c[j]?=some x) (hy:c[k]?=some y):x.name≠y.name:=by
 intro e
 rcases Nat.lt_or_gt_of_ne hjk with h1 | h1
 ·have:=nT h j k x y h1 hk hx hy; rw [e,PV] at this; cases this
 ·have:=nT h k j y x h1 hj hy hx; rw [e,PV] at this; cases this
theorem rV {c:List Ad} (h:∀ j,j<c.length→BW c j=false) {i:Nat} {x:Ad} (hx:c[i]?=some x):A_ c x.name=some i:=by
 unfold A_; have hi:=(List.getElem?_eq_some_iff.1 hx).1; have he:=(List.getElem?_eq_some_iff.1 hx).2; rw [List.findIdx?_eq_some_iff_getElem]; refine ⟨hi,by rw [he]; simp,fun j hj=>?_⟩; have U0:j<c.length:=by omega
 have:=fB h (by omega:j≠i) U0 hi (List.getElem?_eq_getElem U0) hx
 simpa using this
theorem DV {c:List Ad} {f i:Nat} {l:List Nat} {x:Ad} (hx:c[i]?=some x) (h:Bu c f i=some l):(x.By=EP∧l=[i])∨(x.By≠EP∧∃ f' j m,f=f'+1∧V8 c i=some j∧Bu c f' j=some m∧l=i::m):=by
 by_cases hs:x.By=EP
 ·rw [M_ hx hs] at h; exact .inl ⟨hs,(Option.some.inj h).symm⟩
 ·right; refine ⟨hs,?_⟩
  cases f with
  | zero=>rw [eV hx hs] at h; cases h
  | succ f =>
   rw [ON hx hs] at h
   cases hj:V8 c i with
   | none=>rw [hj] at h; cases h
   | some j =>
    rw [hj] at h; simp only at h
    cases h1:Bu c f j with
    | none=>rw [h1] at h; cases h
    | some m =>
     rw [h1] at h; exact ⟨f,j,m,rfl,rfl,h1,(Option.some.inj h).symm⟩
theorem FO {c:List Ad} {f i:Nat} {l:List Nat} (h:Bu c f i=some l):∃ x,c[i]?=some x:=by
 unfold Bu at h
 cases hx:c[i]? with
 | none=>rw [hx] at h; cases h
 | some x=>exact ⟨x,rfl⟩
theorem XC {c:List Ad}:∀ {f i:Nat} {l:List Nat},Bu c f i=some l→∀ {f':Nat} {l':List Nat},Bu c f' i=some l'→l=l':=by
 intro f
 induction f with
 | zero =>
  intro i l h f' l' h'; obtain ⟨x,hx⟩:=FO h
  rcases DV hx h with ⟨hs,rfl⟩ | ⟨hs,f1,j,m,h1,_⟩
  ·rcases DV hx h' with ⟨_,rfl⟩ | ⟨Jf,_⟩
   ·rfl
   ·exact (Jf hs).elim
  ·omega
 | succ f ih =>
  intro i l h f' l' h'; obtain ⟨x,hx⟩:=FO h
  rcases DV hx h with ⟨hs,rfl⟩ | ⟨hs,f1,j,m,h1,h2,h3,rfl⟩
  ·rcases DV hx h' with ⟨_,rfl⟩ | ⟨Jf,_⟩
   ·rfl
   ·exact (Jf hs).elim
  ·rcases DV hx h' with ⟨Jf,_⟩ | ⟨_,f1',j',m',h1',zs,h3',rfl⟩
   ·exact (hs Jf).elim
   ·have:f1=f:=by omega
    subst this; rw [h2] at zs
    cases zs
    rw [ih h3 h3']
theorem ja {c:List Ad}:∀ {f i:Nat} {l:List Nat},Bu c f i=some l→∀ k,l.length≤k+1→Bu c k i=some l:=by
 intro f
 induction f with
 | zero =>
  intro i l h k hk; obtain ⟨x,hx⟩:=FO h
  rcases DV hx h with ⟨hs,rfl⟩ | ⟨hs,f1,j,m,h1,_⟩
  ·exact M_ hx hs
  ·omega
 | succ f ih =>
  intro i l h k hk; obtain ⟨x,hx⟩:=FO h
  rcases DV hx h with ⟨hs,rfl⟩ | ⟨hs,f1,j,m,h1,h2,h3,rfl⟩
  ·exact M_ hx hs
  ·have:f1=f:=by omega
   subst this; simp only [List.length_cons] at hk
   have hm:0<m.length:=by
    obtain ⟨y,hy⟩:=FO h3; rcases DV hy h3 with ⟨_,rfl⟩ | ⟨_,_,_,_,_,_,_,rfl⟩ <;> simp
   cases k with
   | zero=>omega
   | succ k =>
    rw [ON hx hs,h2]; simp only; rw [ih h3 k (by omega)]; rfl
theorem aZ {c:List Ad}:∀ {f i:Nat} {l:List Nat},Bu c f i=some l→∀ j,j ∈ l→∃ f' m,Bu c f' j=some m∧m.length≤l.length:=by
 intro f
 induction f with
 | zero =>
  intro i l h j hj; obtain ⟨x,hx⟩:=FO h
  rcases DV hx h with ⟨hs,rfl⟩ | ⟨hs,f1,j,m,h1,_⟩
  ·rw [List.mem_singleton.1 hj]; exact ⟨_,_,h,Nat.le_refl _⟩
  ·omega
 | succ f ih =>
  intro i l h j hj; obtain ⟨x,hx⟩:=FO h
  rcases DV hx h with ⟨hs,rfl⟩ | ⟨hs,f1,k,m,h1,h2,h3,rfl⟩
  ·rw [List.mem_singleton.1 hj]; exact ⟨_,_,h,Nat.le_refl _⟩
  ·have:f1=f:=by omega
   subst this
   rcases List.mem_cons.1 hj with rfl | hj
   ·exact ⟨_,_,h,Nat.le_refl _⟩
   ·obtain ⟨f',m',h4,h5⟩:=ih h3 j hj; exact ⟨f',m',h4,by simp only [List.length_cons]; omega⟩
theorem fC {c:List Ad}:∀ {f i:Nat} {l:List Nat},Bu c f i=some l→l.Nodup:=by
 intro f
 induction f with
 | zero =>
  intro i l h; obtain ⟨x,hx⟩:=FO h
  rcases DV hx h with ⟨hs,rfl⟩ | ⟨hs,f1,j,m,h1,_⟩
  ·exact List.pairwise_singleton _ _
  ·omega
 | succ f ih =>
  intro i l h; obtain ⟨x,hx⟩:=FO h
  rcases DV hx h with ⟨hs,rfl⟩ | ⟨hs,f1,k,m,h1,h2,h3,rfl⟩
  ·exact List.pairwise_singleton _ _
  ·have:f1=f:=by omega
   subst this; refine List.nodup_cons.2 ⟨fun hm=>?_,ih h3⟩; obtain ⟨f',m',h4,h5⟩:=aZ h3 i hm; have:=XC h h4; rw [←this] at h5; simp only [List.length_cons] at h5; omega
theorem gu {n:Nat} {o:List Nat} (h:o.Nodup) (hl:∀ v,v ∈ o→v<n):o.length≤n:=by
 have:=Ur n (o.map fun v:Nat=>((v:Int)+1)) (by
  rw [List.Nodup,List.pairwise_map]
  exact h.imp fun Dm e=>Dm (by omega)) fun v hv=>by
   obtain ⟨u,hu,rfl⟩:=List.mem_map.1 hv; have:=hl u hu; omega
 rwa [List.length_map] at this
theorem XD {c:List Ad} {f i:Nat} {l:List Nat} (h:Bu c f i=some l):Bu c c.length i=some l :=
 ja h _ (by have:=gu (fC h) (LX c _ _ _ h).2; omega)
def B9:List ByteArray→List Uh→Bool
 | _,[]=>true
 | F,f::fs=>(Fp f.name && (Hs f.kind && !F.any fun s=>decide (s=f.name))) && B9 (F++[f.name]) fs
theorem F':∀ (F:List ByteArray) (fs gs:List Uh),B9 F (fs++gs)=(B9 F fs && B9 (F++fs.map (·.name)) gs)
 | F,[],gs=>by simp [B9]
 | F,f::fs,gs=>by
  rw [List.cons_append,B9,B9,F']; simp [Bool.and_assoc]
theorem SS {fs:List Uh}:∀ k,k≤fs.length→(B9 [] (fs.take k)=true↔∀ j,j<k→Ie fs j=false)
 | 0,_=>by simp [B9]
 | k+1,hk=>by
  have hx:=List.getElem?_eq_getElem (show k<fs.length by omega); have ih:=SS k (by omega:k≤fs.length); rw [List.take_add_one,hx,Option.toList_some,F',Bool.and_eq_true,ih]
  have hb:Ie fs k=false↔B9 ([]++(fs.take k).map (·.name)) [fs[k]]=true:=by
   unfold Ie B9 B9; rw [hx]; simp only [Bool.and_true,Bool.and_eq_true,Bool.or_eq_false_iff,Bool.not_eq_false',Bool.not_eq_true',List.nil_append]
   have:Uo fs k fs[k].name=((fs.take k).map (·.name)).any fun s=>decide (s=fs[k].name):=by
    unfold Uo Dq; rw [Bool.eq_iff_iff,List.any_eq_true,List.any_eq_true]
    constructor
    ·rintro ⟨n,hn,h⟩; have hnk:=List.mem_range.1 hn; rw [List.getElem?_eq_getElem (by omega)] at h; refine ⟨fs[n].name,List.mem_map.2 ⟨fs[n],?_,rfl⟩,by simpa using h⟩; exact List.mem_take_iff_getElem.2 ⟨n,by omega,rfl⟩
    ·rintro ⟨s,hs,h⟩; obtain ⟨f,hf,rfl⟩:=List.mem_map.1 hs; obtain ⟨n,hn,rfl⟩:=List.mem_take_iff_getElem.1 hf; refine ⟨n,List.mem_range.2 (by omega),?_⟩; rw [List.getElem?_eq_getElem (by omega)]
     simpa using h
   rw [this,and_assoc]
  constructor
  ·rintro ⟨h1,h2⟩ j hj
   rcases Nat.lt_succ_iff_lt_or_eq.1 hj with h | rfl
   ·exact h1 j h
   ·exact hb.2 h2
  ·intro h; exact ⟨fun j hj=>h j (by omega),hb.1 (h k (by omega))⟩
theorem fD (fs:List Uh):B9 [] fs=!Dq fs.length (Ie fs):=by
 have h:=SS (fs:=fs) fs.length (Nat.le_refl _); rw [List.take_length] at h; rw [Bool.eq_iff_iff,h,Bool.not_eq_true']; exact ⟨fun h=>FA h,fun h j hj=>Dh h hj⟩
def B5 (W:CW) (r:Nat) (S:List ByteArray):Prop:=∃ m:List (ByteArray × Value),FV Value.string W r m∧∀ s,LU m s=if S.any (fun x=>decide (x=s)) then some (.bool true) else none
theorem B5.congr {W W':CW} {r:Nat} {S:List ByteArray} (h:B5 W r S) (ho:W'.obj r=W.obj r):B5 W' r S:=by
 obtain ⟨m,h1,h2⟩:=h; exact ⟨m,h1.congr ho,h2⟩
theorem B5.lt {W:CW} (ht:Al W) {r:Nat} {S:List ByteArray} (h:B5 W r S):r<W.sz:=by
 obtain ⟨m,h1,h2⟩:=h; exact h1.lt ht
theorem ABX:prog.underlying 181=some (.map 9 4):=by kernel_rfl
theorem z4:Gm prog 4=some (.bool false):=by kernel_rfl
theorem B5.look {W:CW} {r:Nat} {S:List ByteArray} (h:B5 W r S) (s:ByteArray):GL prog 181 (.map (some r)) (.string s) false W=some (.bool (S.any fun x=>decide (x=s))):=by
 obtain ⟨m,h1,h2⟩:=h; rw [LV ABX u9 rfl z4 F2 h1 s false,h2]
 cases S.any fun x=>decide (x=s) <;> rfl
theorem B5.put {W:CW} {r:Nat} {S:List ByteArray} (h:B5 W r S) {s:ByteArray} {K:CW→Prop} (hK:∀ W1,DO r W W1→B5 W1 r (S++[s])→K W1):wV (cj prog 181 (.map (some r)) (.string s) (.bool true) W) K:=by
 obtain ⟨m,h1,h2⟩:=h; refine aL ABX u9 rfl F2 h1 fun W1 hu hm=>hK W1 hu ⟨_,hm,fun u=>?_⟩; rw [ID,h2,List.any_append]
 by_cases e:u=s
 ·rw [if_pos e,e]; simp
 ·rw [if_neg e]; have:([s].any fun x=>decide (x=u))=false:=by simp; exact fun h=>e h.symm
  rw [this,Bool.or_false]
def ae (W:CW) (u:Value) (x:Ad):Prop:=∃ vf ab lb cb,u=.agg #[.string x.name,.string x.By,vf,.int .u8 x.elem,.slice ab lb cb]∧Ax 2 (RC W) vf x.fields
end Go.Ce
namespace Go.Ce
open Go Go.Proofs Go.Proofs.Tryz
theorem Ee {S:Nat→Prop} {W W':CW} (h:Bq S W W') (ht:Al W) (hm:∀ j,S j→∀ k,W.cell j k=none) {b k:Nat} {v:Value} (hc:W.cell b k=some v):W'.cell b k=some v :=
 h.cell ht (fun hs=>by rw [hm b hs k] at hc; cases hc) hc
theorem B5.cell {W:CW} {r:Nat} {S:List ByteArray} (h:B5 W r S) (k:Nat):W.cell r k=none:=by
 obtain ⟨m,⟨es,EC,h1,_⟩,_⟩:=h; unfold CW.cell; rw [h1]
def TV (W:CW) (r:Nat) (c:List Ad):Prop:=∃ m:List (ByteArray × Value),FV Value.string W r m∧∀ s,match A_ c s with
 | some i=>∃ u x,LU m s=some u∧c[i]?=some x∧ae W u x
 | none=>LU m s=none
theorem u75:prog.underlying 75=some (.map 9 48):=by kernel_rfl
def rX:Value:=.agg #[.string ⟨#[]⟩,.string ⟨#[]⟩,.slice none 0 0,.int .u8 0,.slice none 0 0]
theorem TV.some {W:CW} {r:Nat} {c:List Ad} (h:TV W r c) {s:ByteArray} {i:Nat} (hi:A_ c s=Option.some i):∃ u x,c[i]?=Option.some x∧ae W u x∧GL prog 75 (.map (Option.some r)) (.string s) true W=Option.some (.tuple #[u,.bool true])∧GL prog 75 (.map (Option.some r)) (.string s) false W=Option.some u:=by
 obtain ⟨m,h1,h2⟩:=h; have:=h2 s; rw [hi] at this; obtain ⟨u,x,h3,h4,h5⟩:=this
 refine ⟨u,x,h4,h5,?_,?_⟩
 ·rw [LV u75 u9 rfl nH F2 h1 s true,h3]; rfl
 ·rw [LV u75 u9 rfl nH F2 h1 s false,h3]; rfl
theorem TV.none {W:CW} {r:Nat} {c:List Ad} (h:TV W r c) {s:ByteArray} (hi:A_ c s=Option.none):GL prog 75 (.map (Option.some r)) (.string s) true W=Option.some (.tuple #[rX,.bool false])∧GL prog 75 (.map (Option.some r)) (.string s) false W=Option.some rX:=by
 obtain ⟨m,h1,h2⟩:=h; have:=h2 s; rw [hi] at this
 constructor
 ·rw [LV u75 u9 rfl nH F2 h1 s true,this]; rfl
 ·rw [LV u75 u9 rfl nH F2 h1 s false,this]; rfl
theorem ae.EG {S:Nat→Prop} {W W':CW} (h:Bq S W W') (ht:Al W) (hm:∀ j,S j→∀ k,W.cell j k=none) {u:Value} {x:Ad} (hu:ae W u x):ae W' u x:=by
 obtain ⟨vf,ab,lb,cb,h1,h2⟩:=hu; exact ⟨vf,ab,lb,cb,h1,h2.imp fun _ _ _ hr=>⟨Ee h ht hm hr.name,Ee h ht hm hr.kind,hr.lo,hr.hi⟩⟩
theorem TV.EG {S:Nat→Prop} {W W':CW} (h:Bq S W W') (ht:Al W) (hm:∀ j,S j→∀ k,W.cell j k=Option.none) {r:Nat} {c:List Ad} (hr:TV W r c) (hS:¬S r):TV W' r c:=by
 obtain ⟨m,h1,h2⟩:=hr; refine ⟨m,h1.congr (h.obj r (h1.lt ht) hS),fun s=>?_⟩; have:=h2 s
 cases hi:A_ c s with
 | none=>rw [hi] at this; exact this
 | some i =>
  rw [hi] at this; obtain ⟨u,x,h3,h4,h5⟩:=this; exact ⟨u,x,h3,h4,h5.EG h ht hm⟩
theorem TV.kp {W W':CW} {r:Nat} {c:List Ad} (hr:TV W r c) (ht:Al W) (k:Kp W W'):TV W' r c:=hr.EG (Bq.Gc (S:=fun _=>False) k) ht (fun _ h=>h.elim) (fun h=>h)
theorem B5.kp {W W':CW} {r:Nat} {S:List ByteArray} (h:B5 W r S) (ht:Al W) (k:Kp W W'):B5 W' r S:=h.congr (k.obj r (h.lt ht))
structure RM (W:CW) (bk bs ba bf rs rf r1:Nat) (c:List Ad):Prop where
 k:W.cell bk 0=some (.map (some r1))
 s:W.cell bs 0=some (.map (some rs))
 f:W.cell bf 0=some (.map (some rf))
 a:W.cell ba 0=some (.func (.func 125) #[] #[.pointer (some ⟨bk,0,none⟩),.pointer (some ⟨bs,0,none⟩),.pointer (some ⟨ba,0,none⟩),.pointer (some ⟨bf,0,none⟩)])
 sh:TV W r1 c
 ns:r1≠rs
 nf:r1≠rf
 sf:rs≠rf
def U1 (rs rf:Nat) (j:Nat):Prop:=j=rs∨j=rf
theorem U1.none {W:CW} {rs rf:Nat} {S F:List ByteArray} (hs:B5 W rs S) (hf:B5 W rf F):∀ j,U1 rs rf j→∀ k,W.cell j k=none:=by
 rintro j (rfl | rfl) k
 ·exact hs.cell k
 ·exact hf.cell k
theorem RM.EG {W W':CW} {bk bs ba bf rs rf r1:Nat} {c:List Ad} (R:RM W bk bs ba bf rs rf r1 c) (ht:Al W) {S F:List ByteArray} (hs:B5 W rs S) (hf:B5 W rf F) (h:Bq (U1 rs rf) W W'):RM W' bk bs ba bf rs rf r1 c :=
 have hm:=U1.none hs hf
 ⟨Ee h ht hm R.k,Ee h ht hm R.s,Ee h ht hm R.f,Ee h ht hm R.a,R.sh.EG h ht hm (fun h=>h.elim R.ns R.nf),R.ns,R.nf,R.sf⟩
theorem RC.ld {W:CW} {b o:Nat} {x:Uh} (h:RC W b o x):ld prog 72 (.pointer (some ⟨b,o,none⟩)) W=some (.agg [.string x.name,.int .u8 x.kind].toArray) :=
 BO (vs:=[.string x.name,.int .u8 x.kind]) a72 s72 rfl (by omega) h.cells
theorem xa:agg? prog 181=some false:=by kernel_rfl
theorem nU:agg? prog 75=some false:=by kernel_rfl
theorem rY:agg? prog 76=some false:=by kernel_rfl
theorem ABY:agg? prog 161=some false:=by kernel_rfl
theorem Gj (a:Addr):A0 prog 78 (.pointer (some a)) 0=some (.pointer (some ⟨a.block,a.off,none⟩)):=by kernel_rfl
theorem H5 (a:Addr):A0 prog 78 (.pointer (some a)) 1=some (.pointer (some ⟨a.block,a.off+1,none⟩)):=by kernel_rfl
theorem ag {F:List ByteArray} {gs:List Uh} {j:Nat} {g:Uh} (hg:gs[j]?=some g):B9 F (gs.take (j+1))=(B9 F (gs.take j) && (Fp g.name && (Hs g.kind && !(F++(gs.take j).map (·.name)).any fun s=>decide (s=g.name)))):=by
 rw [List.take_add_one,hg,Option.toList_some,F']; congr 1; simp [B9]
theorem fE {F:List ByteArray} {gs:List Uh} (j:Nat) (h:B9 F (gs.take j)=false):B9 F gs=false:=by
 rw [←List.take_append_drop j gs,F',h,Bool.false_and]
theorem jb {W0 W:CW} {K:AG} {e e1:Env} {vf out:Value} {bk bs ba bf rs rf r1:Nat} {c:List Ad} {S F:List ByteArray} {gs:List Uh} {ks:List Int} (t0:Al W0) (R:RM W0 bk bs ba bf rs rf r1 c) {S0 F0:List ByteArray} (TB:B5 W0 rs S0) (tj:B5 W0 rf F0) (HI:Bq (U1 rs rf) W0 W) (ht:Al W) (hs:B5 W rs S) (hf:B5 W rf F)
  (hv:Ax 2 (RC W0) vf gs) (hgl:gs.length≤100) (hnm:∀ g,g ∈ gs→g.name.size<1000) (ho:DU W 5 1 out (BB ks)) (Su:CC W0.sz out) (cw:ks.length<100000)
  (h4:e 4=.pointer (some ⟨bf,0,none⟩)) (h49:e 49=vf) (h50:e 50=.int .i64 gs.length) (he:DJ [4,49,50] e e1) (rZ:e1 10=out) (h51:e1 51=.int .i64 0)
  (FY:B9 F gs=false→∀ e' W',Bq (U1 rs rf) W0 W'→Al W'→e' 6=.slice none 0 0→e' 7=.bool false→K .ret e' [] W')
  (SU:B9 F gs=true→∀ e' W' Lv,Bq (U1 rs rf) W0 W'→Al W'→e' 10=Lv→DU W' 5 1 Lv (BB (ks++gs.map (·.kind)))→CC W0.sz Lv→B5 W' rs S→B5 W' rf (F++gs.map (·.name))→K (.exit 0) e' [] W') :
  C6 prog AV none 125 84 (.loop (Ae prog 125 0)) e1 [] W K:=by
 have QD:=U1.none TB tj; have ADs:=TB.lt t0; have ADt:=tj.lt t0
 refine D8 (fun j e' DN W'=>DN=[]∧∃ Lv,Bq (U1 rs rf) W0 W'∧Al W'∧DJ [4,49,50] e e'∧e' 10=Lv∧e' 51=.int .i64 j∧DU W' 5 1 Lv (BB (ks++(gs.take j).map (·.kind)))∧CC W0.sz Lv∧B5 W' rs S∧B5 W' rf (F++(gs.take j).map (·.name))∧B9 F (gs.take j)=true) gs.length
  ⟨rfl,out,HI,ht,he,rZ,h51,by simpa using ho,Su,hs,by simpa using hf,by simp [B9]⟩ ?_
 rintro j e' DN W' hj ⟨rfl,Lv,nV,t',PW,nW,g51,HV,xc,Jf,ca,Ac⟩; have g4:=(PW 4 (by decide)).trans h4; have g49:=(PW 49 (by decide)).trans h49; have g50:=(PW 50 (by decide)).trans h50; rw [rB,g4,g49,g50,g51]; simp only [A7,AA]
 refine G6 (fun Au=>?_) (fun Of=>?_)
 ·have hx:=List.getElem?_eq_getElem Au; obtain ⟨a,cap,rfl,hc⟩:=hv; obtain ⟨p,rfl,hp⟩:=hc j _ hx; have hpW:RC W' p.block (p.off+j*2) gs[j]:=⟨Ee nV t0 QD hp.name,Ee nV t0 QD hp.kind,hp.lo,hp.hi⟩
  rw [A8 tY s72 Au]; simp only [AA]; rw [hpW.ld]; simp only [AA]; refine CZ z72 s72 rfl rfl rfl t' fun W1 k1 t1 z1 hB=>?_; have q0:∀ W2,Kp W1 W2→ld prog 9 (.pointer (some ⟨W'.sz,0,none⟩)) W2=some (.string gs[j].name):=fun W2 k2=>AB a9 (a:=⟨W'.sz,0,none⟩) (k2.cell t1 (hB.cell rfl)); have q1:∀ W2,Kp W1 W2→ld prog 5 (.pointer (some ⟨W'.sz,0+1,none⟩)) W2=some (.int .u8 gs[j].kind):=fun W2 k2=>AB a5 (a:=⟨W'.sz,0+1,none⟩) (k2.cell t1 (hB.cell rfl)); simp only [Ya,gj,AA,q0 W1 (.refl _)]; have ik:=ag (F:=F) hx; rw [Ac,Bool.true_and] at ik; have AF8:=nV.sz; refine Uk (MW t1 (by have:=hnm _ (List.getElem_mem Au); omega)) fun W2 k2 t2=>?_; have cy:=k1.trans k2; have fF:Bq (U1 rs rf) W0 W2:=nV.then (Bq.Gc (S:=fun _=>False) cy) fun _ _ h=>h.elim
  have leaf:∀ (b:Bool) (e2:Env),DJ [4,10,49,50,51] e' e2→e2 12=.pointer (some ⟨W'.sz,0,none⟩)→e2 70=.bool b→(b=!B9 F (gs.take (j+1))) →
    (IX none (KY (fun j e' DN W'=>DN=[]∧∃ Lv,Bq (U1 rs rf) W0 W'∧Al W'∧DJ [4,49,50] e e'∧e' 10=Lv∧e' 51=.int .i64 j∧DU W' 5 1 Lv (BB (ks++(gs.take j).map (·.kind)))∧CC W0.sz Lv∧B5 W' rs S∧B5 W' rf (F++(gs.take j).map (·.name))∧B9 F (gs.take j)=true) j gs.length K)) .normal e2 [] W2:=by
   intro b e2 XE r12 r70 hb; simp only [IX,B_,r70]
   refine AP (fun V'=>?_) (fun V'=>?_)
   ·simp only [MV,TM,B_,Lm,Sz,HB,Vb]; rw [V'] at hb; exact FY (fE (j+1) (by simpa using hb.symm)) _ W2 fF t2 rfl rfl
   ·rw [V'] at hb; have Vw:B9 F (gs.take (j+1))=true:=by simpa using hb.symm
    have r4:=(XE 4 (by decide)).trans g4; have r10:=(XE 10 (by decide)).trans nW; have r51:=(XE 51 (by decide)).trans g51; simp only [MV,B_,r4,r10,r12]; have qf:ld prog 181 (.pointer (some ⟨bf,0,none⟩)) W2=some (.map (some rf)):=AB xa (a:=⟨bf,0,none⟩) (Ee fF t0 QD R.f); simp only [qf,AA,Ya,gj,q0 W2 k2]; refine (ca.kp t' cy).put fun W3 hu hf3=>?_; have ADu:rf<W2.sz:=by have:=fF.sz; omega
    have t3:Al W3:=t2.A5 ADu hu; have ADv:W'.sz≠rf:=by omega
    have qk:ld prog 5 (.pointer (some ⟨W'.sz,0+1,none⟩)) W3=some (.int .u8 gs[j].kind):=AB a5 (a:=⟨W'.sz,0+1,none⟩) (by
     show W3.cell W'.sz (0+1)=_; rw [hu.cell ADv]
     exact k2.cell t1 (hB.cell rfl))
    simp only [qk,AA]; have ho3:DU W3 5 1 Lv (BB (ks++(gs.take j).map (·.kind))):=LY (HV.kp t' cy) hu fun b l c e=>by have:=xc b l c e; omega
    refine nD RD s5 z5 rfl (by omega) by5 (by omega) (tZ _) rfl rfl t3 ho3 (by rw [ET,List.length_append,List.length_map,List.length_take]; omega) fun u v1 W4 L6 t4 o4 n4=>?_; have Ho:∀ i,BV Lv i→W0.sz≤i:=fun i hi=>xc.in hi; have ADw:Bq (U1 rs rf) W0 W4:=((fF.then hu.EG fun i hi h=>.inr h)).then L6.EG fun i hi h=>by have:=Ho i h; omega
    have nX:=L6.sz; simp only [TM,B_,HB]; simp only [Ao,BC,Nat.reduceEqDiff,↓reduceIte,r51,Az,AA]
    have mT:B5 W4 rs S:=by
     have h2:=Jf.kp t' cy; have h3:B5 W3 rs S:=h2.congr (hu.obj rs R.sf); exact h3.congr (L6.obj rs (by rw [hu.sz]; have:=fF.sz; omega) fun b l c e hb=>by have:=Ho rs ⟨b,l,c,e,hb.symm⟩; omega)
    have hf4:B5 W4 rf ((F++(gs.take j).map (·.name))++[gs[j].name]) :=
     hf3.congr (L6.obj rf (by rw [hu.sz]; omega) fun b l c e hb=>by have:=Ho rf ⟨b,l,c,e,hb.symm⟩; omega)
    refine ⟨Au,trivial,v1,ADw,t4,(PW.trans fun t ht=>XE t (by revert t; decide)).trans ((DJ.put rfl).trans (.put rfl)),rfl,by rw [Du (by omega)],?_,n4 _ (by rw [hu.sz]; exact fF.sz),mT,?_,Vw⟩
    ·rw [List.take_add_one,hx]; have:BB (ks++((gs.take j)++(some gs[j]).toList).map (·.kind))=BB (ks++(gs.take j).map (·.kind))++[.int .u8 gs[j].kind]:=by simp only [BB,List.map_append,Option.toList_some,List.map_cons,List.map_nil,List.append_assoc]
     rw [this]; exact o4
    ·rw [List.take_add_one,hx,List.map_append,←List.append_assoc]; exact hf4
  simp only [Ai,AA]
  refine AP (fun hb=>?_) (fun hb=>?_)
  ·have hb:Fp gs[j].name=false:=by simpa using hb
   exact leaf true _ (.put rfl) rfl rfl (by rw [ik,hb]; rfl)
  ·have hb:Fp gs[j].name=true:=by simpa using hb
   simp only [q1 W2 k2,AA]; refine D0 (Wx _ _) ?_; simp only [Ai,AA]
   refine AP (fun Nd=>?_) (fun Nd=>?_)
   ·have Nd:Hs gs[j].kind=false:=by unfold Hs; simpa only [Bool.not_eq_true'] using Nd
    exact leaf true _ (.put rfl) rfl rfl (by rw [ik,hb,Nd]; rfl)
   ·have Nd:Hs gs[j].kind=true:=by unfold Hs; simpa only [Bool.not_eq_false'] using Nd
    have qf:ld prog 181 (.pointer (some ⟨bf,0,none⟩)) W2=some (.map (some rf)):=AB xa (a:=⟨bf,0,none⟩) (Ee fF t0 QD R.f); simp only [qf,q0 W2 k2,AA,(ca.kp t' cy).look]; exact leaf _ _ (.put rfl) rfl rfl (by rw [ik,hb,Nd]; simp)
 ·simp only [PJ]; have SV:gs.take j=gs:=List.take_of_length_le (by omega); rw [SV] at HV ca Ac; exact SU Ac _ W' Lv nV t' nW HV xc Jf ca
end Go.Ce
namespace Go.Ce
open Go Go.Proofs Go.Proofs.Tryz
def nameAt (c:List Ad) (i:Nat):ByteArray:=match c[i]? with
 | some x=>x.name
 | none=>EP
def Kq (c:List Ad) (F:List ByteArray) (s:ByteArray):Option (List Uh):=match A_ c s with
 | some i=>match Bu c c.length i with
  | some l=>if B9 F (l.reverse.flatMap (KX c)) && decide ((l.reverse.flatMap (KX c)).length≤60) then some (l.reverse.flatMap (KX c)) else none
  | none=>none
 | none=>none
def TW (c:List Ad) (rs rf:Nat) (F:List ByteArray) (s:ByteArray) (W:CW):Ending→CW→Prop:=fun e W'=>Bq (U1 rs rf) W W'∧Al W'∧match Kq c F s with
 | some fs=>∃ vo S',e=.returned (.tuple #[vo,.bool true])∧DU W' 5 1 vo (BB (fs.map (·.kind)))∧CC W.sz vo∧B5 W' rs S'∧B5 W' rf (F++fs.map (·.name))
 | none=>∃ vo,e=.returned (.tuple #[vo,.bool false])
theorem ND (a b c d e:Value):tU prog 48 (.agg #[a,b,c,d,e]) 3=some d:=by kernel_rfl
theorem U2 {args:List Value} {cap:Array Value} {W:CW} {K:Value→CW→Prop} {KP:List PanicEntry→CW→Prop} (h:AF prog AV 125 (args++cap.toList) W (AT K KP)):DZ prog AV (.func (.func 125) #[] cap) args W K KP :=
 GY Tryz.func125 (by kernel_rfl) (by simpa using h)
theorem nY {c:List Ad} (hs:∀ j,j<c.length→BW c j=false) {S:List Nat} (hS:∀ j,j ∈ S→j<c.length) {i:Nat} {x:Ad} (hx:c[i]?=some x):((S.map (nameAt c)).any fun u=>decide (u=x.name))=decide (i ∈ S):=by
 rw [Bool.eq_iff_iff,List.any_eq_true,decide_eq_true_eq]
 constructor
 ·rintro ⟨u,hu,he⟩; obtain ⟨j,hj,rfl⟩:=List.mem_map.1 hu; have U0:=hS j hj; have fG:=List.getElem?_eq_getElem U0; have he:=of_decide_eq_true he; unfold nameAt at he; rw [fG] at he
  by_cases e:j=i
  ·exact e ▸ hj
  ·exact (fB hs e U0 (List.getElem?_eq_some_iff.1 hx).1 fG hx he).elim
 ·intro hi; exact ⟨x.name,List.mem_map.2 ⟨i,hi,by unfold nameAt; rw [hx]⟩,by simp⟩
theorem xd {c:List Ad} (hC:OP c) (hsh:∀ j,j<c.length→BW c j=false) {bk bs ba bf rs rf r1:Nat} {F:List ByteArray}:∀ (n:Nat) (S:List Nat) (s:ByteArray) (W:CW),Al W→RM W bk bs ba bf rs rf r1 c→B5 W rs (S.map (nameAt c))→B5 W rf F→S.Nodup→(∀ j,j ∈ S→j<c.length)→c.length≤n+S.length →
  (∀ i0,i0 ∈ S→∀ f l,Bu c f i0=some l→∃ i f' m,A_ c s=some i∧Bu c f' i=some m∧m.length<l.length)→s.size<1000000 →
  AF prog AV 125 [.string s,.pointer (some ⟨bk,0,none⟩),.pointer (some ⟨bs,0,none⟩),.pointer (some ⟨ba,0,none⟩),.pointer (some ⟨bf,0,none⟩)] W (TW c rs rf F s W):=by
 intro n
 induction n using Nat.strongRecOn with
 | ind n ih =>
  intro S s W ht R hs hf Vx hSl hlen hinv Gp; refine wu ?_; rw [wq]; have qk:∀ W1,Kp W W1→ld prog 75 (.pointer (some ⟨bk,0,none⟩)) W1=some (.map (some r1)):=fun W1 k1=>AB nU (a:=⟨bk,0,none⟩) (k1.cell ht R.k); have qs:∀ W1,Kp W W1→ld prog 181 (.pointer (some ⟨bs,0,none⟩)) W1=some (.map (some rs)):=fun W1 k1=>AB xa (a:=⟨bs,0,none⟩) (k1.cell ht R.s); simp only [Gj,AA,qk W (.refl _)]; generalize Jq:AI prog Tryz.f125 (TW c rs rf F s W)=K
  have Ho:∀ (e:Env) W' v,Bq (U1 rs rf) W W'→Al W'→e 6=v→e 7=.bool false→Kq c F s=none→K .ret e [] W':=by
   intro e W' v k t h6 h7 hr; rw [←Jq,Ue,h6,h7]; unfold TW; rw [hr]; exact ⟨k,t,v,rfl⟩
  cases hi:A_ c s with
  | none =>
   obtain ⟨l1,_⟩:=R.sh.none hi; simp only [l1,Be,Bf,AA]; have Lw:Kq c F s=none:=by unfold Kq; rw [hi]
   refine CZ (ws:=[.string ⟨#[]⟩,.string ⟨#[]⟩,.slice none 0 0,.int .u8 0,.slice none 0 0]) nH gi rfl rfl rfl ht fun W1 k1 t1 z1 hB=>?_; simp only [Ai,AA]; rw [show (!false)=true from rfl]; simp only [Bh,TL,M5,Fy,JP,B_,Lm,Wt]; rw [show ∀ b l,(Env.of (Env.args [Value.string s,.pointer (some ⟨bk,0,none⟩),.pointer (some ⟨bs,0,none⟩),.pointer (some ⟨ba,0,none⟩),.pointer (some ⟨bf,0,none⟩)]) ((26,b)::l)) 26=b from fun _ _=>rfl]; simp only [Bh]; exact Ho _ W1 _ (Bq.Gc k1) t1 rfl rfl Lw
  | some i =>
   obtain ⟨u,x,hx,hu,l1,_⟩:=R.sh.some hi; simp only [l1,Be,Bf,AA]; obtain ⟨vf,ab,lb,cb,rfl,hvf⟩:=hu; obtain ⟨af,cf,rfl,_⟩:=id hvf; have G4:=(List.getElem?_eq_some_iff.1 hx).1
   have T':x.name=s:=by
    obtain ⟨h1,h2,_⟩:=List.findIdx?_eq_some_iff_getElem.1 hi; rw [List.getElem?_eq_getElem h1] at hx; cases hx; exact of_decide_eq_true h2
   refine CZ (ws:=[.string x.name,.string x.By,.slice af x.fields.length cf,.int .u8 x.elem,.slice ab lb cb]) nH gi rfl rfl rfl ht fun W1 k1 t1 z1 hB=>?_; simp only [Ai,AA]; rw [show (!true)=false from rfl]; have Vs:=hs.kp ht k1; have Zd:=hf.kp ht k1; simp only [Ar,qs W1 k1,AA,Vs.look]; rw [←T',nY hsh hSl hx]; have ra:∀ b l,(Env.of (Env.args [Value.string s,.pointer (some ⟨bk,0,none⟩),.pointer (some ⟨bs,0,none⟩),.pointer (some ⟨ba,0,none⟩),.pointer (some ⟨bf,0,none⟩)]) ((26,b)::l)) 26=b:=fun _ _=>rfl; simp only [TL,B_]; rw [T',ra]; have QD:=U1.none hs hf; have ABZ:=U1.none Vs Zd; have ADx:=Vs.lt t1; have AF9:=Zd.lt t1; have ADs:=hs.lt ht; have ADt:=hf.lt ht; have q1:∀ W2,Bq (U1 rs rf) W1 W2→ld prog 9 (.pointer (some ⟨W.sz,0+1,none⟩)) W2=some (.string x.By):=fun W2 k2=>AB a9 (a:=⟨W.sz,0+1,none⟩) (Ee k2 t1 ABZ (hB.cell rfl)); have q2:∀ W2,Bq (U1 rs rf) W1 W2→ld prog 45 (.pointer (some ⟨W.sz,0+2,none⟩)) W2=some (.slice af x.fields.length cf):=fun W2 k2=>AB a45 (a:=⟨W.sz,0+2,none⟩) (Ee k2 t1 ABZ (hB.cell rfl))
   refine AP (fun hm=>?_) (fun hm=>?_)
   ·have hm:=of_decide_eq_true hm; simp only [M5,Fy,JP,B_,Lm,Wt]; refine Ho _ W1 _ (Bq.Gc k1) t1 rfl rfl ?_; unfold Kq; rw [hi]; simp only
    cases hl:Bu c c.length i with
    | none=>rfl
    | some l =>
     obtain ⟨i',f',m,h1,h2,h3⟩:=hinv i hm _ _ hl; rw [hi] at h1; cases h1; rw [XC hl h2] at h3; omega
   ·have hm:=of_decide_eq_false hm; simp only [M5,B_]; simp only [Ao,BC,eKa,Nat.reduceEqDiff,↓reduceIte,gKz,gKs,rD]; simp only [qs W1 k1,AA]; refine Vs.put fun W2 K1 cW=>?_; have c2:Bq (U1 rs rf) W1 W2:=⟨by rw [K1.sz]; exact Nat.le_refl _,fun j hj hn=>K1.obj j (fun e=>hn (.inl e))⟩
    have t2:=t1.A5 ADx K1; have Xw:B5 W2 rf F:=Zd.congr (K1.obj rf (Ne.symm R.sf)); have R1:=R.EG ht hs hf (Bq.Gc k1); have R2:=R1.EG t1 Vs Zd c2; have c02:Bq (U1 rs rf) W W2:=(Bq.Gc k1).then c2 fun _ _ h=>h
    have cW:B5 W2 rs ((S++[i]).map (nameAt c)):=by
     rw [List.map_append]; have:nameAt c i=s:=by unfold nameAt; rw [hx]; exact T'
     simp only [List.map_cons,List.map_nil,this]; exact cW
    simp only [YY,AA,q1 W2 c2,RB,PF]; have V7:x.fields.length≤100:=hC.fields x (List.mem_of_getElem? hx); have Xu:∀ g,g ∈ x.fields→g.name.size<1000:=hC.ABC x (List.mem_of_getElem? hx)
    have tail:∀ (W3:CW) (out:Value) (S3:List ByteArray) (hd:List Uh) (e2:Env),Bq (U1 rs rf) W W3→Bq (U1 rs rf) W1 W3→Al W3→B5 W3 rs S3→B5 W3 rf (F++hd.map (·.name))→DU W3 5 1 out (BB (hd.map (·.kind)))→CC W.sz out→hd.length≤60→e2 4=.pointer (some ⟨bf,0,none⟩)→e2 8=.pointer (some ⟨W.sz,0,none⟩)→e2 10=out →
      (Kq c F s=if B9 F (hd++x.fields) && decide ((hd++x.fields).length≤60) then some (hd++x.fields) else none)→B9 F hd=true →
      (Fy none K) .normal e2 [] W3:=by
     intro W3 out S3 hd e2 c3 c13 t3 hs3 hf3 ho3 ZC re h4 h8 rZ Lw ADy; simp only [Fy,B_,h8,PH,AA,q2 W3 c13,Ah tY]; have AF':=c3.sz
     refine jb (e:=Env.of e2 [(50,.int .i64 x.fields.length),(49,.slice af x.fields.length cf)]) ht R hs hf c3 t3 hs3 hf3 hvf V7 Xu ho3 ZC (by rw [List.length_map]; omega) h4 rfl rfl (fun t ht=>by
      simp only [List.mem_cons,List.not_mem_nil,or_false] at ht
      rcases ht with rfl | rfl | rfl <;> rfl) rZ rfl (fun hb e' W' c' t' h6 h7=>?_) (fun hb e' W' Lv c' t' ADz HV Vq Jf ca=>?_)
     ·simp only [Lm,Sz,JP]; refine Ho e' W' _ c' t' h6 h7 ?_; rw [Lw,F',hb]; simp
     ·have cw:(BB (hd.map (·.kind)++x.fields.map (·.kind))).length=(hd++x.fields).length*1:=by simp [BB]
      simp only [B_,Va,M6,if_true,JP,ADz]; rw [Hl RD HV (by omega) cw]; simp only [AA,IY]; have AD0:B9 F (hd++x.fields)=true:=by rw [F',ADy,hb]; rfl
      rw [AD0,Bool.true_and] at Lw; rw [←Jq,Ue]; unfold TW
      by_cases hle:(hd++x.fields).length≤60
      ·rw [Lw,if_pos (decide_eq_true hle)]; refine ⟨c',t',Lv,S3,?_,by rw [List.map_append]; exact HV,Vq,Jf,by rw [List.map_append,←List.append_assoc]; exact ca⟩; simp only [Ao,Nat.reduceEqDiff,↓reduceIte]; rw [decide_eq_true (by omega)]
      ·rw [Lw,if_neg (by simp; simp at hle; omega)]; refine ⟨c',t',Lv,?_⟩; simp only [Ao,Nat.reduceEqDiff,↓reduceIte]; rw [decide_eq_false (by omega)]
    refine AP (fun aj=>?_) (fun aj=>?_)
    ·have aj:x.By≠EP:=by simpa [EP] using aj
     obtain tk:=R2.sh; have qk2:ld prog 75 (.pointer (some ⟨bk,0,none⟩)) W2=some (.map (some r1)):=AB nU (a:=⟨bk,0,none⟩) R2.k; have qa2:ld prog 161 (.pointer (some ⟨ba,0,none⟩)) W2=some (.func (.func 125) #[] #[.pointer (some ⟨bk,0,none⟩),.pointer (some ⟨bs,0,none⟩),.pointer (some ⟨ba,0,none⟩),.pointer (some ⟨bf,0,none⟩)]):=AB ABY (a:=⟨ba,0,none⟩) R2.a; simp only [Gj,AA,qk2,q1 W2 c2,qa2]
     have XF:V8 c i=match A_ c x.By with
       | some j=>if elemAt c j=0 then some j else none
       | none=>none:=by
      unfold V8; rw [hx]; simp only; unfold A_
      cases hj:c.findIdx? fun y=>decide (y.name=x.By) with
      | none=>rfl
      | some j =>
       have U0:=(List.findIdx?_eq_some_iff_getElem.1 hj).1; simp only [elemAt,List.getElem?_eq_getElem U0]
     have xe:x.By.size<1000000:=by have:=hC.sup x (List.mem_of_getElem? hx); omega
     have xg:∀ f m,Bu c f i=some m→∃ j f' m',V8 c i=some j∧Bu c f' j=some m'∧m=i::m':=by
      intro f m h
      rcases DV hx h with ⟨h1,_⟩ | ⟨_,f1,j,m',_,h2,h3,h4⟩
      ·exact (aj h1).elim
      ·exact ⟨j,f1,m',h2,h3,h4⟩
     have hij:∀ j,V8 c i=some j→A_ c x.By=some j:=by
      intro j h; rw [XF] at h
      cases hj:A_ c x.By with
      | none=>rw [hj] at h; cases h
      | some j' =>
       rw [hj] at h; simp only at h
       split at h
       ·exact h
       ·cases h
     have ABa:(S++[i]).Nodup:=by
      rw [List.nodup_append]; exact ⟨Vx,List.pairwise_singleton _ _,fun a ha b hb=>by rw [List.mem_singleton.1 hb]; exact fun e=>hm (e ▸ ha)⟩
     have ABb:∀ j,j ∈ S++[i]→j<c.length:=fun j hj=>by
      rcases List.mem_append.1 hj with h | h
      ·exact hSl j h
      ·rw [List.mem_singleton.1 h]; exact G4
     have hpg:=gu ABa ABb; rw [List.length_append,List.length_singleton] at hpg
     have Zk:=ih (n-1) (by omega) (S++[i]) x.By W2 t2 R2 cW Xw ABa ABb (by rw [List.length_append,List.length_singleton]; omega) (fun i0 h0 f l hl=>by
      have h1:∃ f' m,Bu c f' i=some m∧m.length≤l.length:=by
       rcases List.mem_append.1 h0 with h | h
       ·obtain ⟨i',f',m,h2,h3,h4⟩:=hinv i0 h f l hl; rw [hi] at h2; cases h2; exact ⟨f',m,h3,Nat.le_of_lt h4⟩
       ·rw [List.mem_singleton.1 h] at hl; exact ⟨f,l,hl,Nat.le_refl _⟩
      obtain ⟨f',m,h2,h3⟩:=h1; obtain ⟨j,f2,m',h4,h5,rfl⟩:=xg f' m h2
      exact ⟨j,f2,m',hij j h4,h5,by simp only [List.length_cons] at h3; omega⟩) xe
     have tp:V8 c i=none→Kq c F s=none:=by
      intro h; unfold Kq; rw [hi]; simp only
      cases hl:Bu c c.length i with
      | none=>rfl
      | some l =>
       obtain ⟨j,_,_,h2,_⟩:=xg _ _ hl; rw [h] at h2; cases h2
     cases hj:A_ c x.By with
     | none =>
      obtain ⟨_,l2⟩:=tk.none hj; rw [hj] at XF; simp only at XF; rw [l2]; simp only [AA]; unfold rX; rw [ND]; simp only [AA,DI]; rw [show ((0:Int) != 0)=false from rfl]; simp only [Ar]; refine U2 (Zk.mono fun en W5 ⟨c5,t5,hp⟩=>?_); have:Kq c F x.By=none:=by unfold Kq; rw [hj]
      rw [this] at hp; obtain ⟨vo,rfl⟩:=hp; simp only [AT,Be,Bf,AA,Ai]; rw [show (!false)=true from rfl]; simp only [Bh,Fy,JP,B_,Lm]; exact Ho _ W5 _ (c02.then c5 fun _ _ h=>h) t5 rfl rfl (tp XF)
     | some j =>
      obtain ⟨u,y,hy,hu,_,l2⟩:=tk.some hj; obtain ⟨vf2,ab2,lb2,cb2,rfl,_⟩:=hu; rw [hj] at XF; simp only at XF; have N8:elemAt c j=y.elem:=by unfold elemAt; rw [hy]
      rw [l2]; simp only [AA]; rw [ND]; simp only [AA,DI]
      refine AP (fun he=>?_) (fun he=>?_)
      ·have he:y.elem≠0:=by simpa using he
       simp only [Fy,JP,Lm]; exact Ho _ W2 _ c02 t2 rfl rfl (tp (by rw [XF,if_neg (by rw [N8]; exact he)]))
      ·have he:y.elem=0:=by simpa using he
       have XF:V8 c i=some j:=by rw [XF,if_pos (by rw [N8]; exact he)]
       have hfi:KX c i=x.fields:=by unfold KX; rw [hx]
       have VV:Kq c F s=match Bu c c.length j with
         | some m=>if B9 F (m.reverse.flatMap (KX c)++x.fields) && decide ((m.reverse.flatMap (KX c)++x.fields).length≤60) then some (m.reverse.flatMap (KX c)++x.fields) else none
         | none=>none:=by
        unfold Kq; rw [hi]; simp only
        cases hl:Bu c c.length i with
        | none =>
         cases hm:Bu c c.length j with
         | none=>rfl
         | some m =>
          have:Bu c (c.length+1) i=some (i::m):=by rw [ON hx aj,XF]; simp only [hm]; rfl
          rw [XD this] at hl; cases hl
        | some l =>
         obtain ⟨j',f',m,h2,h3,rfl⟩:=xg _ _ hl; rw [XF] at h2; cases h2; rw [XD h3]; simp only [List.reverse_cons,List.flatMap_append,List.flatMap_cons,List.flatMap_nil,List.append_nil,hfi]
       have jc:Kq c F x.By=match Bu c c.length j with
         | some m=>if B9 F (m.reverse.flatMap (KX c)) && decide ((m.reverse.flatMap (KX c)).length≤60) then some (m.reverse.flatMap (KX c)) else none
         | none=>none:=by
        unfold Kq; rw [hj]
       refine U2 (Zk.mono fun en W5 ⟨c5,t5,hp⟩=>?_); have c05:Bq (U1 rs rf) W W5:=c02.then c5 fun _ _ h=>h
       cases hrI:Kq c F x.By with
       | none =>
        rw [hrI] at hp; obtain ⟨vo,rfl⟩:=hp; simp only [AT,Be,Bf,AA,Ai]; rw [show (!false)=true from rfl]; simp only [Bh,Fy,JP,B_,Lm]; refine Ho _ W5 _ c05 t5 rfl rfl ?_; rw [VV]; rw [hrI] at jc
        cases hm:Bu c c.length j with
        | none=>rfl
        | some m =>
         rw [hm] at jc; simp only at jc ⊢
         split at jc
         ·cases jc
         ·rename_i hn; rw [if_neg]; intro hh; apply hn; simp only [Bool.and_eq_true,decide_eq_true_eq,F',List.length_append] at hh ⊢; exact ⟨hh.1.1,by omega⟩
       | some fs =>
        rw [hrI] at hp; obtain ⟨vo,S',rfl,ho5,hn5,hs5,hf5⟩:=hp; simp only [AT,Be,Bf,AA,Ai]; rw [show (!true)=false from rfl]; simp only [Ar]; rw [hrI] at jc
        cases hm:Bu c c.length j with
        | none=>rw [hm] at jc; cases jc
        | some m =>
         rw [hm] at jc VV; simp only at jc VV
         split at jc
         ·rename_i hh
          cases jc
          simp only [Bool.and_eq_true,decide_eq_true_eq] at hh; have dT:=c2.sz; have AF_:=k1.sz; exact tail W5 vo S' _ _ c05 (c2.then c5 fun _ _ h=>h) t5 hs5 hf5 ho5 (fun b l c e=>by have:=hn5 b l c e; omega) hh.2 rfl rfl rfl VV hh.1
         ·cases jc
    ·have aj:x.By=EP:=by simpa [EP] using aj
     refine tail W2 (.slice none 0 0) _ [] _ c02 c2 t2 cW (by simpa using Xw) DU.nil (CC.nil _ _ _) (by simp) rfl rfl rfl ?_ rfl; unfold Kq; rw [hi]; simp only; rw [M_ hx aj]; simp only [List.reverse_cons,List.reverse_nil,List.nil_append,List.flatMap_cons,List.flatMap_nil,List.append_nil]; have:KX c i=x.fields:=by unfold KX; rw [hx]
     rw [this]
theorem ABc:Gm prog 181=some (.map none):=by kernel_rfl
theorem ABd:DM prog 181=some 1:=by kernel_rfl
theorem AD1:Gm prog 161=some .nilFunc:=by kernel_rfl
theorem AD2:DM prog 161=some 1:=by kernel_rfl
theorem NV:DM prog 78=some 2:=by kernel_rfl
theorem lC:agg? prog 78=some true:=by kernel_rfl
theorem nZ:Gm prog 78=some (.agg #[.map none,.map none]):=by kernel_rfl
theorem na {t:TypeId} {z v:Value} (hz:Gm prog t=some z) (hs:DM prog t=some 1) (mC:z.cells.size=1) (h1:BN v=true) {W:CW} {K:Value→CW→Prop} (ht:Al W)
  (hk:∀ W2,Kp W W2→Al W2→W2.sz=W.sz+1→As W2 W.sz t [v]→K (.pointer (some ⟨W.sz,0,none⟩)) W2):Bw (F5 prog t W) fun p W1=>wV (CE prog t p v W1) fun W2=>K p W2:=by
 refine Gx hz hs ht fun W1 k1 t1 z1 hB=>?_; refine Af hs (a:=⟨W.sz,0,none⟩) h1 hB (by simp [mC]) fun W2 hu GK=>?_; rw [RE (by simp [mC])] at GK; exact hk W2 (k1.A5 (Nat.le_refl _) hu) (t1.A5 (by rw [z1]; exact Nat.lt_succ_self _) hu) (by rw [hu.sz,z1]) GK
theorem ri {t:TypeId} {z:Value} {v:Value→Value} (hz:Gm prog t=some z) (hs:DM prog t=some 1) (mC:z.cells.size=1) {W:CW} (h1:BN (v (.pointer (some ⟨W.sz,0,none⟩)))=true) {K:Value→CW→Prop} (ht:Al W)
  (hk:∀ W2,Kp W W2→Al W2→W2.sz=W.sz+1→As W2 W.sz t [v (.pointer (some ⟨W.sz,0,none⟩))]→K (.pointer (some ⟨W.sz,0,none⟩)) W2):Bw (F5 prog t W) fun p W1=>wV (CE prog t p (v p) W1) fun W2=>K p W2:=by
 refine Gx hz hs ht fun W1 k1 t1 z1 hB=>?_; refine Af hs (a:=⟨W.sz,0,none⟩) h1 hB (by simp [mC]) fun W2 hu GK=>?_; rw [RE (by simp [mC])] at GK; exact hk W2 (k1.A5 (Nat.le_refl _) hu) (t1.A5 (by rw [z1]; exact Nat.lt_succ_self _) hu) (by rw [hu.sz,z1]) GK
def nb (c:List Ad) (s:ByteArray) (W:CW):Ending→CW→Prop:=fun e W'=>Kp W W'∧Al W'∧match Kq c [] s with
 | some fs=>∃ vo,e=.returned (.tuple #[vo,.bool true])∧DU W' 5 1 vo (BB (fs.map (·.kind)))∧CC W.sz vo
 | none=>∃ vo,e=.returned (.tuple #[vo,.bool false])
theorem rj {c:List Ad} (hC:OP c) (hsh:∀ j,j<c.length→BW c j=false) {r1:Nat} {v2:Value} {s:ByteArray} {W:CW} (ht:Al W) (hr:TV W r1 c) (QY:BN v2=true) (Gp:s.size<1000000) :
  AF prog AV 102 [.agg #[.map (some r1),v2],.string s] W (nb c s W):=by
 refine wo ?_; rw [wj]; refine Er NV ht fun W0 k0 t0 z0 XG=>?_; have XG:As W0 W.sz 78 [.map (some r1),v2]:=XG; refine Uj (enc:=Value.string) t0 fun W1 k1 t1 z1 Vj=>?_; refine na ABc ABd rfl rfl t1 fun W3 k3 t3 z3 Fg=>?_; refine Uj (enc:=Value.string) t3 fun W4 k4 t4 z4 gM=>?_; refine na ABc ABd rfl rfl t4 fun W6 k6 t6 z6 Is=>?_; simp only [AA]; refine ri (v:=fun p=>.func (.func 125) #[] #[.pointer (some ⟨W.sz,0,none⟩),.pointer (some ⟨W1.sz,0,none⟩),p,.pointer (some ⟨W4.sz,0,none⟩)]) AD1 AD2 rfl rfl t6 fun W8 k8 t8 z8 PX=>?_; rw [AB ABY (a:=⟨W6.sz,0,none⟩) (PX.cell rfl)]; simp only [AA]; have xh:Kp W0 W8:=(((k1.trans k3).trans k4).trans k6).trans k8; have kk:=k0.trans xh; have TB:B5 W8 W0.sz ([].map (nameAt c)):=⟨[],(Vj.kp t1 (((k3.trans k4).trans k6).trans k8)),fun s=>rfl⟩
 have tj:B5 W8 W3.sz []:=⟨[],gM.kp t4 (k6.trans k8),fun s=>rfl⟩
 have HZ:=(hr.EG (Bq.Gc (S:=fun _=>False) kk) ht (fun _ h=>h.elim) (fun h=>h))
 have ABe:r1<W.sz:=by
  obtain ⟨m,h1,_⟩:=hr; exact h1.lt ht
 have R:RM W8 W.sz W1.sz W6.sz W4.sz W0.sz W3.sz r1 c:=⟨xh.cell t0 (XG.cell rfl),(((k4.trans k6).trans k8)).cell t3 (Fg.cell rfl),k8.cell t6 (Is.cell rfl),PX.cell rfl,HZ,by omega,by omega,by omega⟩
 refine U2 ((xd hC hsh c.length [] s W8 t8 R TB tj List.nodup_nil (fun j h=>by cases h) (by simp) (fun _ h=>by cases h) Gp).mono fun en W9 ⟨c9,t9,hp⟩=>?_); have kW:Kp W W9:=Bq.kp kk c9 fun j hj=>by rcases hj with rfl | rfl <;> omega
 cases qC:Kq c [] s with
 | none =>
  rw [qC] at hp; obtain ⟨vo,rfl⟩:=hp; simp only [AT,Be,Bf,AA]; rw [Ud]; refine ⟨kW,t9,?_⟩; rw [qC]; exact ⟨vo,rfl⟩
 | some fs =>
  rw [qC] at hp; obtain ⟨vo,S',rfl,ho,hn,_,_⟩:=hp; simp only [AT,Be,Bf,AA]; rw [Ud]; refine ⟨kW,t9,?_⟩; rw [qC]; exact ⟨vo,rfl,ho,fun b l c e=>Nat.le_trans kk.sz (hn b l c e)⟩
theorem ng {c:List Ad} {s:ByteArray} {i:Nat} (hi:A_ c s=some i):Kq c [] s=if MY c i then none else some (FM c i):=by
 unfold Kq MY; rw [hi]; simp only
 cases hl:Bu c c.length i with
 | none=>rfl
 | some l =>
  have hf:FM c i=l.reverse.flatMap (KX c):=by unfold FM; rw [hl]
  simp only; rw [←hf,fD]
  by_cases h60:(FM c i).length≤60
  ·rw [decide_eq_true h60,decide_eq_false (by omega)]
   cases Dq (FM c i).length (Ie (FM c i)) <;> rfl
  ·rw [decide_eq_false h60,decide_eq_true (by omega)]; simp
end Go.Ce
namespace Go.Ce
open Go Go.Proofs Go.Proofs.Tryz
theorem aw:Tryz.f47.results.toList=[.cell 2 78,.tmp 3]:=by kernel_rfl
theorem Ij {P:Program} {fn:Func} {Q:Ending→CW→Prop} {e:Env} {W:CW} {s t:Tmp} {ty:TypeId} {p:Addr} {v:Value} (hr:fn.results.toList=[.cell s ty,.tmp t]) (he:e s=.pointer (some p)) (hv:ld P ty (.pointer (some p)) W=some v) (hq:Q (.returned (.tuple #[v,e t])) W):AI P fn Q .ret e [] W:=by
 have hv:JB P ty p W=some v:=hv; simp only [AI,CB,hr,IQ,jG,he,hv]; exact hq
theorem XH {c:List Ad} {i:Nat} (hs:∀ j,j<i+1→BW c j=false) {x:Ad} (hx:c[i]?=some x) (s:ByteArray):A_ (c.take (i+1)) s=if s=x.name then some i else A_ (c.take i) s:=by
 unfold A_; have G4:=(List.getElem?_eq_some_iff.1 hx).1; rw [List.take_add_one,hx,Option.toList_some,List.findIdx?_append]
 by_cases e:s=x.name
 ·rw [if_pos e]
  have:(c.take i).findIdx? (fun y=>decide (y.name=s))=none:=by
   rw [List.findIdx?_eq_none_iff]; intro y hy; obtain ⟨j,hj,rfl⟩:=List.mem_take_iff_getElem.1 hy; have:=fB hs (by omega:j≠i) (by omega) (by omega) (List.getElem?_eq_getElem (by omega)) hx; rw [e]
   simpa using this
  rw [this]; simp [List.findIdx?_cons,e,List.length_take]; omega
 ·rw [if_neg e]; have:([x].findIdx? fun y=>decide (y.name=s))=none:=by simp [List.findIdx?_cons]; exact fun h=>e h.symm
  rw [this]
  cases (c.take i).findIdx? (fun y=>decide (y.name=s)) <;> rfl
theorem Lc {W W':CW} {r b k:Nat} {v:Value} {m:List (ByteArray × Value)} (hu:DO r W W') (hm:FV Value.string W r m) (hc:W.cell b k=some v):W'.cell b k=some v:=by
 obtain ⟨es,EC,h1,_⟩:=hm
 have:b≠r:=by
  rintro rfl; unfold CW.cell at hc; rw [h1] at hc; cases hc
 rw [hu.cell this]; exact hc
theorem TV.put {W:CW} {r:Nat} {c:List Ad} {i:Nat} {x:Ad} {u:Value} (h:TV W r (c.take i)) (hs:∀ j,j<i+1→BW c j=false) (hx:c[i]?=Option.some x) (hu:ae W u x) {K:CW→Prop} (hK:∀ W1,DO r W W1→(∀ b k v,W.cell b k=Option.some v→W1.cell b k=Option.some v)→TV W1 r (c.take (i+1))→K W1):wV (cj prog 75 (.map (Option.some r)) (.string x.name) u W) K:=by
 obtain ⟨m,h1,h2⟩:=h; refine aL u75 u9 rfl F2 h1 fun W1 XF hm=>?_; have BI:∀ b k v,W.cell b k=Option.some v→W1.cell b k=Option.some v:=fun b k v hc=>Lc XF h1 hc; have hA:∀ {u x},ae W u x→ae W1 u x:=fun {u x} ⟨vf,ab,lb,cb,h3,h4⟩=>⟨vf,ab,lb,cb,h3,h4.imp fun _ _ _ hr=>⟨BI _ _ _ hr.name,BI _ _ _ hr.kind,hr.lo,hr.hi⟩⟩
 refine hK W1 XF BI ⟨_,hm,fun s=>?_⟩; have G4:=(List.getElem?_eq_some_iff.1 hx).1; rw [XH hs hx,ID]
 by_cases e:s=x.name
 ·rw [if_pos e,if_pos e]; exact ⟨u,x,rfl,by rw [List.getElem?_take,if_pos (by omega)]; exact hx,hA hu⟩
 ·rw [if_neg e,if_neg e]; have:=h2 s
  cases hi:A_ (c.take i) s with
  | none=>rw [hi] at this; exact this
  | some j =>
   rw [hi] at this; obtain ⟨u',x',h3,h4,h5⟩:=this; refine ⟨u',x',h3,?_,hA h5⟩; rw [List.getElem?_take] at h4 ⊢
   split at h4
   ·rw [if_pos (by omega)]; exact h4
   ·cases h4
theorem ABf (a b:Nat):QF prog 78 [(0,.map (some a)),(1,.map (some b))]=some (.agg [.map (some a),.map (some b)].toArray):=by kernel_rfl
theorem OU {W:CW} {b a1 a2:Nat} (h:As W b 78 [.map (some a1),.map (some a2)]):ld prog 78 (.pointer (some ⟨b,0,none⟩)) W=some (.agg [.map (some a1),.map (some a2)].toArray):=BO (vs:=[.map (some a1),.map (some a2)]) lC NV rfl (by omega) h.cells
def tq (W:CW) (r:Nat) (c:List Ad) (n:Nat):Prop:=∃ m:List (ByteArray × Value),FV Value.string W r m∧∀ s,match A_ (c.take n) s with
 | some i=>∃ v,LU m s=some v∧Ax 1 (RKd W) v (Ak c i)
 | none=>LU m s=none
theorem u76:prog.underlying 76=some (.map 9 29):=by kernel_rfl
theorem z29:Gm prog 29=some (.slice none 0 0):=by kernel_rfl
theorem tq.put {W:CW} {r:Nat} {c:List Ad} {i:Nat} {x:Ad} {u:Value} (h:tq W r c i) (hs:∀ j,j<c.length→BW c j=false) (hx:c[i]?=some x) (hu:Ax 1 (RKd W) u (Ak c i)) {K:CW→Prop} (hK:∀ W1,DO r W W1→(∀ b k v,W.cell b k=some v→W1.cell b k=some v)→tq W1 r c (i+1)→K W1):wV (cj prog 76 (.map (some r)) (.string x.name) u W) K:=by
 obtain ⟨m,h1,h2⟩:=h; refine aL u76 u9 rfl F2 h1 fun W1 XF hm=>?_; have BI:∀ b k v,W.cell b k=some v→W1.cell b k=some v:=fun b k v hc=>Lc XF h1 hc; have G4:=(List.getElem?_eq_some_iff.1 hx).1; refine hK W1 XF BI ⟨_,hm,fun s=>?_⟩; rw [XH (fun j hj=>hs j (by omega)) hx,ID]
 by_cases e:s=x.name
 ·rw [if_pos e,if_pos e]; exact ⟨u,rfl,hu.imp fun _ _ _ hr=>BI _ _ _ hr⟩
 ·rw [if_neg e,if_neg e]; have:=h2 s
  cases hi:A_ (c.take i) s with
  | none=>rw [hi] at this; exact this
  | some j =>
   rw [hi] at this; obtain ⟨v,h3,h4⟩:=this; exact ⟨v,h3,h4.imp fun _ _ _ hr=>BI _ _ _ hr⟩
structure Dr (W:CW) (r1 r2:Nat) (c:List Ad):Prop where
 sh:TV W r1 c
 rw:tq W r2 c c.length
def H6 (r1 r2:Nat):Value:=.agg #[.map (some r1),.map (some r2)]
def XI (c:List Ad) (W:CW):Ending→CW→Prop:=fun e W'=>Kp W W'∧Al W'∧∃ r1 r2,e=.returned (.tuple #[H6 r1 r2,.bool (BL c)])∧W.sz≤r1∧W.sz≤r2∧(BL c=true→Dr W' r1 r2 c)
structure U3 (W0 W:CW) (b2 b4 r1 r2:Nat):Prop where
 kp:Kp W0 W
 top:Al W
 b2:As W b2 78 [.map none,.map none]
 b4:As W b4 78 [.map (some r1),.map (some r2)]
theorem U3.S4 {W0 W W':CW} {b2 b4 r1 r2:Nat} (I:U3 W0 W b2 b4 r1 r2) (k:Kp W W') (t:Al W'):U3 W0 W' b2 b4 r1 r2:=⟨I.kp.trans k,t,I.b2.ext I.top k,I.b4.ext I.top k⟩
theorem Br {W:CW} {b r:Nat} {el:TypeId} {vs:List Value} {m:List (ByteArray × Value)} (h:As W b el vs) (hm:FV Value.string W r m):b≠r:=by
 rintro rfl; obtain ⟨es,EC,h1,_⟩:=hm; obtain ⟨c,n,z,h2,_⟩:=h; rw [h1] at h2; cases h2
theorem As.Ik {W:CW} {b k:Nat} {el:TypeId} {vs:List Value} {v:Value} (h:As W b el vs) (hc:W.cell b k=some v):vs[k]?=some v:=by
 obtain ⟨c,n,z,h1,h2,h3⟩:=h; unfold CW.cell at hc; rw [h1] at hc; simp only at hc
 split at hc
 ·rename_i hk; have hk:k<vs.length:=by omega
  have:=h3 k _ (List.getElem?_eq_getElem hk); rw [List.getElem?_eq_getElem hk,←hc,this]
 ·cases hc
theorem Md {v0:Value} {c:List Ad} {W:CW} (ht:Al W) (hc:Ax 5 (Lu W) v0 c) (hC:OP c):AF prog AV 47 [v0] W (XI c W):=by
 refine ABF ?_; rw [ABE]; refine Gx nZ NV ht fun W0 k0 t0 z0 GK=>?_; have GK:As W0 W.sz 78 [.map none,.map none]:=GK; refine Uj (enc:=Value.string) t0 fun W1 k1 t1 z1 Vj=>?_; refine Uj (enc:=Value.string) t1 fun W2 k2 t2 z2 Bz=>?_; rw [ABf]; simp only [AA]; refine CZ nZ NV rfl rfl rfl t2 fun W4 k4 t4 z4 Il=>?_; obtain ⟨a,cap,rfl,_⟩:=id hc; simp only [Ah kY,AA,CY]; have hlen:=hC.len; have kk:Kp W W4:=((k0.trans k1).trans k2).trans k4; have I4:U3 W W4 W.sz W2.sz W0.sz W1.sz:=⟨kk,t4,GK.ext t0 ((k1.trans k2).trans k4),Il⟩
 have nh:=Vj.kp t1 (k2.trans k4); have ni:=Bz.kp t2 k4; have r1W:W.sz≤W0.sz:=k0.sz; have r2W:W.sz≤W1.sz:=Nat.le_trans r1W k1.sz; generalize HZ:W0.sz=r1 at I4 nh Vj r1W; generalize NW:W1.sz=r2 at I4 ni Bz r2W; have r12:r1≠r2:=by omega
 generalize W2.sz=b4 at I4; generalize Nd:W.sz=b2 at I4; generalize Jq:AI prog Tryz.f47 (XI c W)=K
 have F_:∀ W1 (ok:Bool),U3 W W1 b2 b4 r1 r2→ok=BL c→(BL c=true→Dr W1 r1 r2 c)→∀ {K':CW→Prop},(∀ W2,(∀ e,e 2=.pointer (some ⟨b2,0,none⟩)→e 3=.bool ok→K .ret e [] W2)→K' W2) →
   wV (CE prog 78 (.pointer (some ⟨b2,0,none⟩)) (.agg [.map (some r1),.map (some r2)].toArray) W1) K':=by
  intro W1 ok I Ac EB K' rk; refine DF NV (a:=⟨b2,0,none⟩) rfl rfl I.b2 (by simp) fun W2 hu hB=>rk W2 fun e h2 h3=>?_; have hu:DO b2 W1 W2:=hu; rw [←Jq]; have hB:As W2 b2 78 [.map (some r1),.map (some r2)]:=hB; refine Ij aw h2 (OU hB) ?_; have AD3:=I.b2.lt I.top; refine ⟨I.kp.A5 (by omega) hu,I.top.A5 AD3 hu,r1,r2,by rw [h3,Ac]; rfl,by omega,by omega,fun hc=>?_⟩; obtain ⟨⟨m,g1,g2⟩,⟨m',g3,g4⟩⟩:=EB hc; have Nb:=Br I.b2 g1; have Oe:=Br I.b2 g3
  have BI:∀ b k v,v≠.map none→W1.cell b k=some v→W2.cell b k=some v:=fun b k v hv h=>by
   rw [hu.cell]
   ·exact h
   ·rintro rfl; have h2:=I.b2.Ik h
    match k,h2 with
    | 0,h2=>cases h2; exact hv rfl
    | 1,h2=>cases h2; exact hv rfl
  refine ⟨⟨m,g1.congr (hu.obj r1 (Ne.symm Nb)),fun s=>?_⟩,⟨m',g3.congr (hu.obj r2 (Ne.symm Oe)),fun s=>?_⟩⟩
  ·have:=g2 s
   cases hi:A_ c s with
   | none=>rw [hi] at this; exact this
   | some i =>
    rw [hi] at this; obtain ⟨u,x,h5,h6,vf,ab,lb,cb,h7,h8⟩:=this; exact ⟨u,x,h5,h6,vf,ab,lb,cb,h7,h8.imp fun _ _ _ hr=>⟨BI _ _ _ (by intro h; cases h) hr.name,BI _ _ _ (by intro h; cases h) hr.kind,hr.lo,hr.hi⟩⟩
  ·have:=g4 s
   cases hi:A_ (c.take c.length) s with
   | none=>rw [hi] at this; exact this
   | some i =>
    rw [hi] at this; obtain ⟨v,h5,h6⟩:=this; exact ⟨v,h5,h6.imp fun _ _ _ hr=>BI _ _ _ (by intro h; cases h) hr⟩
 refine AP (fun hg=>?_) (fun hg=>?_)
 ·rw [OU I4.b4]; simp only [AA]
  have FY:BL c=false:=by
   have:=of_decide_eq_true hg; unfold BL; rw [decide_eq_false (by omega)]; rfl
  exact F_ W4 false I4 FY.symm (fun h=>by rw [FY] at h; cases h) fun W5 hr=>hr _ rfl rfl
 ·have hg:=of_decide_eq_false hg
  have Gz:BL c=(!Dq c.length (BW c) && !Dq c.length (MY c)):=by
   unfold BL; rw [decide_eq_true (by omega)]; rfl
  have hA0:(∀ j,j<0→BW c j=false):=fun j h=>by omega
  refine D8 (fun i e ds W'=>ds=[]∧U3 W W' b2 b4 r1 r2∧e 0=.slice a c.length cap∧e 19=.slice a c.length cap∧e 20=.int .i64 c.length∧e 21=.int .i64 i∧e 2=.pointer (some ⟨b2,0,none⟩)∧e 4=.pointer (some ⟨b4,0,none⟩)∧TV W' r1 (c.take i)∧FV Value.string W' r2 []∧∀ j,j<i→BW c j=false) c.length
   ⟨rfl,I4,rfl,rfl,rfl,rfl,rfl,rfl,⟨[],nh,fun s=>rfl⟩,ni,hA0⟩ ?_
  rintro i e ds W' hi ⟨rfl,I',h0,tr,h20,h21,h2,h4,S5,hrm,Bj⟩; rw [w4,tr,h20,h21]; simp only [A7,AA]
  refine G6 (fun Au=>?_) (fun Of=>?_)
  ·obtain ⟨x,hx⟩:∃ x,c[i]?=some x:=⟨_,List.getElem?_eq_getElem Au⟩
   have HY:=List.mem_of_getElem? hx; have tu:Ax 5 (Lu W') (.slice a c.length cap) c:=hc.imp fun _ _ _ hr=>hr.kp ht I'.kp; obtain ⟨a',cap',ha,BI⟩:=tu
   cases ha
   obtain ⟨p,rfl,hr⟩:=BI i _ hx; obtain ⟨vf,ab,lb,cb,xi,qD⟩:=hr.ld; obtain ⟨af,xj,rfl,_⟩:=id qD; rw [A8 kY gi Au]; simp only [AA,xi]; refine CZ nH gi rfl rfl rfl I'.top fun W6 k6 t6 z6 Is=>?_; have I6:=I'.S4 k6 t6; have q0:∀ W7,Kp W6 W7→ld prog 9 (.pointer (some ⟨W'.sz,0,none⟩)) W7=some (.string x.name):=fun W7 k7=>AB a9 (a:=⟨W'.sz,0,none⟩) (k7.cell t6 (Is.cell rfl)); have q1:∀ W7,Kp W6 W7→ld prog 9 (.pointer (some ⟨W'.sz,0+1,none⟩)) W7=some (.string x.By):=fun W7 k7=>AB a9 (a:=⟨W'.sz,1,none⟩) (k7.cell t6 (Is.cell rfl)); have q2:∀ W7,Kp W6 W7→ld prog 45 (.pointer (some ⟨W'.sz,0+2,none⟩)) W7=some (.slice af x.fields.length xj):=fun W7 k7=>AB a45 (a:=⟨W'.sz,2,none⟩) (k7.cell t6 (Is.cell rfl)); have q3:∀ W7,Kp W6 W7→ld prog 5 (.pointer (some ⟨W'.sz,0+3,none⟩)) W7=some (.int .u8 x.elem):=fun W7 k7=>AB a5 (a:=⟨W'.sz,3,none⟩) (k7.cell t6 (Is.cell rfl)); have xk:BW c i=((!Fp x.name || Ic c x i) || ((decide (x.elem≠0) && (!Hs x.elem || decide (x.By≠EP) || decide (0<x.fields.length))) || decide (20<x.fields.length))):=by unfold BW; rw [hx]
   have leaf:∀ (W7:CW) (b:Bool) (e1:Env),Kp W6 W7→Al W7→DJ [0,2,4,19,20,21] e e1→e1 6=.pointer (some ⟨W'.sz,0,none⟩)→e1 73=.bool b→b=BW c i →
     (JS none (KY (fun i e ds W'=>ds=[]∧U3 W W' b2 b4 r1 r2∧e 0=.slice (some p) c.length cap∧e 19=.slice (some p) c.length cap∧e 20=.int .i64 c.length∧e 21=.int .i64 i∧e 2=.pointer (some ⟨b2,0,none⟩)∧e 4=.pointer (some ⟨b4,0,none⟩)∧TV W' r1 (c.take i)∧FV Value.string W' r2 []∧∀ j,j<i→BW c j=false) i c.length (Bm 0 (Uw none K)))) .normal e1 [] W7:=by
    intro W7 b e1 k7 t7 hA g6 g73 hb; have I7:=I6.S4 k7 t7; have g2:=(hA 2 (by decide)).trans h2; have g4:=(hA 4 (by decide)).trans h4; simp only [JS,B_,g73]
    refine AP (fun V'=>?_) (fun V'=>?_)
    ·rw [g2,g4,OU I7.b4]; simp only [AA]; have FY:BL c=false:=by rw [Gz,Dt Au (by rw [←hb,V'])]; rfl
     refine F_ W7 false I7 FY.symm (fun h=>by rw [FY] at h; cases h) fun W8 hr=>?_; simp only [PM,Ux,B_,Lm,Sz,HB,Vb,Uw]; exact hr _ g2 rfl
    ·have SU:BW c i=false:=by rw [←hb,V']
     simp only [PM,B_,g4,g6,Gj,PG,AA]; rw [AB nU (a:=⟨b4,0,none⟩) (I7.b4.cell rfl),q0 W7 k7,BO (vs:=[.string x.name,.string x.By,.slice af x.fields.length xj,.int .u8 x.elem,.slice ab lb cb]) a48 gi rfl (by omega) (Is.ext t6 k7).cells]; simp only [AA]; have k67:=k6.trans k7; have ABg:=S5.kp I'.top k67; refine ABg.put (KZ Bj SU) hx ⟨_,_,_,_,rfl,qD.imp fun _ _ _ hr=>hr.kp I'.top k67⟩ fun W8 hu BI xl=>?_; obtain ⟨m7,g7,_⟩:=ABg; have ABe:=g7.lt I7.top; have t8:=I7.top.A5 ABe hu; have Oe:=Br I7.b2 g7; have rn:=Br I7.b4 g7; have I8:U3 W W8 b2 b4 r1 r2:=⟨I7.kp.A5 r1W hu,t8,I7.b2.congr (hu.obj _ Oe),I7.b4.congr (hu.obj _ rn)⟩
     simp only [Ux,B_,HB]; simp only [Ao,BC,Nat.reduceEqDiff,↓reduceIte,(hA 21 (by decide)).trans h21,Az,AA]; refine ⟨Au,trivial,I8,(hA 0 (by decide)).trans h0,(hA 19 (by decide)).trans tr,(hA 20 (by decide)).trans h20,by rw [Du (by omega)],g2,g4,xl,((hrm.kp I'.top k67).congr (hu.obj _ (Ne.symm r12))),KZ Bj SU⟩
   have hnp:∀ b:Bool,b=(decide (x.elem=0) || (Hs x.elem && (decide (x.By=EP) && decide (x.fields.length=0))))→BW c i=((!Fp x.name || Ic c x i) || (!b || decide (20<x.fields.length))):=by
    intro b hb; rw [xk,hb]; congr 2
    by_cases e1:x.elem=0 <;> by_cases e2:x.By=EP <;> by_cases e3:x.fields.length=0 <;> cases Hs x.elem <;> simp [e1,e2,e3] <;> omega
   have head:∀ (b:Bool) (e1:Env),DJ [0,2,4,19,20,21] e e1→e1 6=.pointer (some ⟨W'.sz,0,none⟩)→e1 5=.int .i64 i→e1 7=.bool b→b=(decide (x.elem=0) || (Hs x.elem && (decide (x.By=EP) && decide (x.fields.length=0)))) →
     (Lb none (KY (fun i e ds W'=>ds=[]∧U3 W W' b2 b4 r1 r2∧e 0=.slice (some p) c.length cap∧e 19=.slice (some p) c.length cap∧e 20=.int .i64 c.length∧e 21=.int .i64 i∧e 2=.pointer (some ⟨b2,0,none⟩)∧e 4=.pointer (some ⟨b4,0,none⟩)∧TV W' r1 (c.take i)∧FV Value.string W' r2 []∧∀ j,j<i→BW c j=false) i c.length (Bm 0 (Uw none K)))) .normal e1 [] W6:=by
    intro b e1 hA g6 g5 g7 hb; have xk:=hnp b hb; have g0:=(hA 0 (by decide)).trans h0; simp only [Lb,B_,g0,g5,g6,g7,PG,PH,AA,q0 W6 (.refl _)]; refine Uk (MW t6 (by have:=hC.name x HY; omega)) fun W7 k7 t7=>?_; simp only [Ai,AA,CY]
    refine AP (fun hs=>?_) (fun hs=>?_)
    ·exact ⟨by simp only [q0 W6 (.refl _),and_self],trivial,leaf W7 true _ k7 t7 (hA.trans (.put rfl)) g6 rfl (by rw [xk,hs]; rfl)⟩
    ·have tl:∀ e2:Env,True:=fun _=>trivial; refine AP (fun h=>?g1) (fun h=>?g2)
     case' g1 =>
      obtain ⟨j,rfl⟩:∃ j,i=j+1:=⟨i-1,by have:=of_decide_eq_true h; omega⟩
      have U0:j<c.length:=by omega
      have hxp:=List.getElem?_eq_getElem U0; obtain ⟨p',hp',cz⟩:=BI j _ hxp
      cases hp'
      have es:((j+1:Nat):Int)-1=(j:Nat):=by omega
      have hpb:Ic c x (j+1)=!S7 (sb c[j].name) (sb x.name):=by unfold Ic; simp only [hxp]
      have q4:ld prog 9 (.pointer (some ⟨p.block,p.off+j*5,none⟩)) W7=some (.string c[j].name):=AB a9 (a:=⟨p.block,p.off+j*5,none⟩) (k7.cell t6 (k6.cell I'.top cz.name)); simp only [D7,AA,es]; rw [wrap64 (by omega) (by omega),A8 kY gi U0]; simp only [AA,PG,q0 W7 k7,q4,Ww]; refine AP (fun hq=>?h1) (fun hq=>?h2)
      case h1=>exact ⟨by simp only [q0 W6 (.refl _),and_self],trivial,leaf W7 true _ k7 t7 (hA.trans (.put rfl)) g6 rfl (by rw [xk,hpb,hq]; simp)⟩
      have hpf:=hpb.trans hq
     case' g2 =>
      have hpf:Ic c x i=false:=by
       cases i with
       | zero=>rfl
       | succ i=>have:=of_decide_eq_false h; omega
     all_goals
      rw [hs,hpf,Bool.or_self,Bool.false_or] at xk
      refine AP (fun h1=>?_) (fun h1=>?_)
      ·exact ⟨by simp only [q0 W6 (.refl _),and_self],trivial,leaf W7 true _ k7 t7 (hA.trans (.put rfl)) g6 rfl (by rw [xk,h1]; rfl)⟩
      ·simp only [q2 W7 k7,Ah tY,AA,CY]; refine ⟨by simp only [q0 W6 (.refl _),and_self],trivial,leaf W7 _ _ k7 t7 (hA.trans (.put rfl)) g6 rfl ?_⟩; rw [xk,h1,Bool.false_or]; exact decide_eq_decide.2 (by omega)
   simp only [YZ,AA,q3 W6 (.refl _),Bp]
   refine AP (fun he=>?_) (fun he=>?_)
   ·have he:x.elem=0:=by simpa using he
    exact head true _ (.put rfl) rfl rfl rfl (by rw [decide_eq_true he]; rfl)
   ·have he:¬x.elem=0:=by simpa using he
    refine D0 (Wx _ _) ?_
    refine AP (fun hk=>?_) (fun hk=>?_)
    ·have hk:Hs x.elem=true:=hk; simp only [YY,AA,q1 W6 (.refl _),Wv,PF]
     refine AP (fun rq=>?_) (fun rq=>?_)
     ·have rq:decide (x.By=EP)=true:=rq; simp only [PH,AA,q2 W6 (.refl _),Ah tY,Bp]; refine head ((x.fields.length:Int) == 0) _ (.put rfl) rfl rfl rfl ?_; rw [decide_eq_false he,hk,rq,Bool.false_or,Bool.true_and,Bool.true_and]
      cases x.fields <;> simp
      omega
     ·have rq:decide (x.By=EP)=false:=rq; exact head false _ (.put rfl) rfl rfl rfl (by rw [decide_eq_false he,rq]; simp)
    ·have hk:Hs x.elem=false:=hk; exact head false _ (.put rfl) rfl rfl rfl (by rw [decide_eq_false he,hk]; rfl)
  ·have SV:c.take i=c:=List.take_of_length_le (by omega); rw [SV] at S5; have hS:∀ j,j<c.length→BW c j=false:=fun j hj=>Bj j (by omega); have hSa:Dq c.length (BW c)=false:=FA hS; rw [hSa] at Gz; simp only [B_,Va,M6,PJ,if_true,Uw]; simp only [Ao,BC,Nat.reduceEqDiff,↓reduceIte,h0]; simp only [Ah kY,AA]
   refine D8 (fun i e ds W'=>ds=[]∧U3 W W' b2 b4 r1 r2∧e 81=.slice a c.length cap∧e 82=.int .i64 c.length∧e 83=.int .i64 i∧e 2=.pointer (some ⟨b2,0,none⟩)∧e 4=.pointer (some ⟨b4,0,none⟩)∧TV W' r1 c∧tq W' r2 c i∧∀ j,j<i→MY c j=false) c.length
    ⟨rfl,I',rfl,rfl,rfl,h2,h4,S5,⟨[],hrm,fun s=>by simp [A_,LU]⟩,by omega⟩ ?_
   rintro i2 e2 ds2 W2 hi2 ⟨rfl,I2,g81,g82,g83,g2,g4,xm,xn,SW⟩; rw [w5,g81,g82,g83]; simp only [A7,AA]
   refine G6 (fun Au=>?_) (fun ABh=>?_)
   ·obtain ⟨x,hx⟩:∃ x,c[i2]?=some x:=⟨_,List.getElem?_eq_getElem Au⟩
    have HY:=List.mem_of_getElem? hx; have tu:Ax 5 (Lu W2) (.slice a c.length cap) c:=hc.imp fun _ _ _ hr=>hr.kp ht I2.kp; obtain ⟨a',cap',ha,BI⟩:=tu
    cases ha
    obtain ⟨p,rfl,hr⟩:=BI i2 _ hx; obtain ⟨vf,ab,lb,cb,xi,qD⟩:=hr.ld; obtain ⟨af,xj,rfl,_⟩:=id qD; rw [A8 kY gi Au]; simp only [AA,xi]; refine CZ nH gi rfl rfl rfl I2.top fun W6 k6 t6 z6 Is=>?_; have I6:=I2.S4 k6 t6; have q0:∀ W7,Kp W6 W7→ld prog 9 (.pointer (some ⟨W2.sz,0,none⟩)) W7=some (.string x.name):=fun W7 k7=>AB a9 (a:=⟨W2.sz,0,none⟩) (k7.cell t6 (Is.cell rfl)); rw [g4,OU I6.b4]; simp only [PG,AA,q0 W6 (.refl _)]; refine (rj hC hS t6 (xm.kp I2.top k6) rfl (by have:=hC.name x HY; omega)).mono fun en W7 ⟨k7,t7,hp⟩=>?_; have Mx:=rV hS hx; rw [ng Mx] at hp; have I7:=I6.S4 k7 t7
    cases lD:MY c i2 with
    | true =>
     rw [lD] at hp; obtain ⟨vo,rfl⟩:=hp; simp only [AT,Be,Bf,AA,Ai]; rw [show (!false)=true from rfl]; simp only [Bh]; rw [OU I7.b4,g2]; simp only [AA]; have FY:BL c=false:=by rw [Gz,Dt Au lD]; rfl
     refine F_ W7 false I7 FY.symm (fun h=>by rw [FY] at h; cases h) fun W8 hr=>?_; simp only [PN,Lm,Sz,HB,Vb,ec]; exact hr _ g2 rfl
    | false =>
     rw [lD] at hp; obtain ⟨vo,rfl,ho,hn⟩:=hp; simp only [AT,Be,Bf,AA,Ai]; rw [show (!true)=false from rfl]; simp only [Ar,H5,AA,q0 W7 k7]; rw [AB rY (a:=⟨b4,0+1,none⟩) (I7.b4.cell rfl)]; simp only [AA]; have nj:Ax 1 (RKd W7) vo (Ak c i2):=Hk (f:=fun k=>Value.int .u8 k) (by unfold Ak; exact ho)
     have ABi:tq W7 r2 c i2:=by
      obtain ⟨m,m1,m2⟩:=xn; refine ⟨m,m1.kp I2.top (k6.trans k7),fun s=>?_⟩; have:=m2 s
      cases hi:A_ (c.take i2) s with
      | none=>rw [hi] at this; exact this
      | some i =>
       rw [hi] at this; obtain ⟨v,h5,h6⟩:=this; exact ⟨v,h5,h6.imp fun _ _ _ hr=>(k6.trans k7).cell I2.top hr⟩
     refine ABi.put hS hx nj fun W8 hu nk AD4=>?_; obtain ⟨m7,g7,_⟩:=ABi; have AD5:=g7.lt I7.top; have Oe:=Br I7.b2 g7; have rn:=Br I7.b4 g7; have I8:U3 W W8 b2 b4 r1 r2:=⟨I7.kp.A5 r2W hu,I7.top.A5 AD5 hu,I7.b2.congr (hu.obj _ Oe),I7.b4.congr (hu.obj _ rn)⟩
     have xl:TV W8 r1 c:=by
      obtain ⟨m,m1,m2⟩:=xm.kp I2.top (k6.trans k7); refine ⟨m,m1.congr (hu.obj _ r12),fun s=>?_⟩; have:=m2 s
      cases hi:A_ c s with
      | none=>rw [hi] at this; exact this
      | some i =>
       rw [hi] at this; obtain ⟨u,x,h5,h6,vf,ab,lb,cb,h7,h8⟩:=this; exact ⟨u,x,h5,h6,vf,ab,lb,cb,h7,h8.imp fun _ _ _ hr=>⟨nk _ _ _ hr.name,nk _ _ _ hr.kind,hr.lo,hr.hi⟩⟩
     simp only [PN,B_,HB]; simp only [Ao,BC,Nat.reduceEqDiff,↓reduceIte,g83,Az,AA]; exact ⟨Au,trivial,I8,g81,g82,by rw [Du (by omega)],g2,g4,xl,AD4,KZ SW lD⟩
   ·have hR:Dq c.length (MY c)=false:=FA fun j hj=>SW j (by omega); have SU:BL c=true:=by rw [Gz,hR]; rfl
    have hi3:i2=c.length:=by omega
    rw [hi3] at xn; simp only [B_,Va,M6,PJ,if_true,ec]; simp only [Ao,BC,Nat.reduceEqDiff,↓reduceIte,g2,g4]; rw [OU I2.b4]; simp only [AA]; exact F_ W2 true I2 SU.symm (fun _=>⟨xm,xn⟩) fun W8 hr=>hr _ g2 rfl
end Go.Ce
namespace Go.Ce
open Go Go.Proofs Go.Proofs.Tryz
theorem a6 {v0:Value} {l:List Int} {n:Int} {W:CW} (hc:Ax 1 (De W) v0 l) (hlen:l.length<1000000):AF prog AV 126 [v0,.int .i64 n] W (Nu (.int .i64 (Ib l fun x=>decide (x=n))) W):=by
 refine xZ ?_; rw [xY]; obtain ⟨a,cap,rfl,BI⟩:=hc; simp only [Ah H3,AA]; refine D8 (fun i e ds W'=>W'=W∧ds=[]∧e 0=.slice a l.length cap∧e 1=.int .i64 n∧e 7=.int .i64 l.length∧e 8=.int .i64 i∧∀ j x,j<i→l[j]?=some x→decide (x=n)=false) l.length ⟨rfl,rfl,rfl,rfl,rfl,rfl,by omega⟩ ?_; rintro i e ds W' hi ⟨rfl,rfl,h0,h1,h7,h8,Bj⟩; rw [rU,h0,h1,h7,h8]; simp only [A7,AA]
 refine G6 (fun Au=>?_) (fun Of=>?_)
 ·have hx:=List.getElem?_eq_getElem Au; obtain ⟨p,rfl,hp⟩:=BI i _ hx; rw [A8 H3 s3 Au]; simp only [AA]; rw [AB a3 (a:=⟨p.block,p.off+i*1,none⟩) hp.1]; simp only [AA,Bp]
  refine AP (fun hq=>?_) (fun hq=>?_)
  ·have hq:n=l[i]:=by simpa using hq
   simp only [TU,Lm,Sz,HB,Vb,Yh,Uz]; refine ⟨?_,rfl⟩; simp only [Ao,↓reduceIte]; rw [KT Au (by simp [hq]) Bj]
  ·have hq:¬n=l[i]:=by simpa using hq
   simp only [TU,B_,HB]; simp only [Ao,BC,Nat.reduceEqDiff,↓reduceIte,h0,h1,h7,h8,Az,AA]; refine ⟨Au,trivial,trivial,trivial,trivial,trivial,by rw [Du (by omega)],fun j x hj KW=>?_⟩
   rcases Nat.lt_succ_iff_lt_or_eq.1 hj with h2 | rfl
   ·exact Bj j x h2 KW
   ·rw [hx] at KW; cases KW; exact decide_eq_false fun e=>hq e.symm
 ·simp only [B_,Va,M6,PJ,if_true,Yh,Uz]; refine ⟨?_,rfl⟩; simp only [Ao,↓reduceIte]; rw [KU fun j x hj hx=>Bj j x (by omega) hx]
theorem U4 {v0:Value} {l:List Int} {n:Int} {W:CW} (hc:Ax 1 (De W) v0 l) (hlen:l.length<1000000):AF prog AV 104 [v0,.int .i64 n] W (Nu (.bool (l.any fun x=>decide (x=n))) W):=by
 refine xX ?_; rw [xW]; refine D0 (a6 hc hlen) ?_; simp only [HM,AA,fA]; refine ⟨?_,rfl⟩; simp only [Ao,↓reduceIte]; congr 2; unfold Ib
 cases h:l.findIdx? fun x=>decide (x=n) with
 | none =>
  rw [List.findIdx?_eq_none_iff] at h
  have:(l.any fun x=>decide (x=n))=false:=by
   rw [List.any_eq_false]; intro x hx; rw [h x hx]; simp
  rw [this]; rfl
 | some i =>
  obtain ⟨h1,h2,_⟩:=List.findIdx?_eq_some_iff_getElem.1 h; rw [List.any_eq_true.2 ⟨_,List.getElem_mem h1,h2⟩]; simp
def fH (W:CW) (u:Value) (x:Bc):Prop:=∃ am cm,u=.agg #[.string x.type,.string x.to,.slice am x.map.length cm]∧Ax 1 (De W) (.slice am x.map.length cm) x.map
def Ny (key:Bc→ByteArray) (W:CW) (r:Nat) (l:List Bc):Prop:=∃ m:List (ByteArray × Value),FV Value.string W r m∧∀ s,match l.find? (fun x=>decide (key x=s)) with
 | some x=>∃ u,LU m s=some u∧fH W u x
 | none=>LU m s=none
theorem fH.cell {W W1:CW} {u:Value} {x:Bc} (h:fH W u x) (hc:∀ b k k2 n,W.cell b k=some (.int k2 n)→W1.cell b k=some (.int k2 n)):fH W1 u x:=by
 obtain ⟨am,cm,h1,h2⟩:=h; exact ⟨am,cm,h1,h2.imp fun _ _ _ hr=>⟨hc _ _ _ _ hr.1,hr.2⟩⟩
theorem Ny.cell {key:Bc→ByteArray} {W W1:CW} {r:Nat} {l:List Bc} (h:Ny key W r l) (ho:W1.obj r=W.obj r) (hc:∀ b k k2 n,W.cell b k=some (.int k2 n)→W1.cell b k=some (.int k2 n)):Ny key W1 r l:=by
 obtain ⟨m,h1,h2⟩:=h; refine ⟨m,h1.congr ho,fun s=>?_⟩; have:=h2 s
 cases hf:l.find? (fun x=>decide (key x=s)) with
 | none=>rw [hf] at this; exact this
 | some x =>
  rw [hf] at this; obtain ⟨u,h3,h4⟩:=this; exact ⟨u,h3,h4.cell hc⟩
theorem Ny.kp {key:Bc→ByteArray} {W W1:CW} {r:Nat} {l:List Bc} (h:Ny key W r l) (ht:Al W) (k:Kp W W1):Ny key W1 r l:=by
 have h':=h; obtain ⟨m,h1,_⟩:=h'; exact h.cell (k.obj r (h1.lt ht)) fun _ _ _ _ hc=>k.cell ht hc
theorem u81:prog.underlying 81=some (.map 9 58):=by kernel_rfl
def rz:Value:=.agg #[.string ⟨#[]⟩,.string ⟨#[]⟩,.slice none 0 0]
theorem lE:Gm prog 58=some rz:=by kernel_rfl
theorem Ny.put {key:Bc→ByteArray} {W:CW} {r:Nat} {l:List Bc} {i:Nat} {x:Bc} {u:Value} (h:Ny key W r (l.take i)) (hx:l[i]?=some x) (r7:∀ j y,j<i→l[j]?=some y→key y≠key x) (hu:fH W u x) {K:CW→Prop}
  (hK:∀ W1,DO r W W1→(∀ b k v,W.cell b k=some v→W1.cell b k=some v)→Ny key W1 r (l.take (i+1))→K W1):wV (cj prog 81 (.map (some r)) (.string (key x)) u W) K:=by
 obtain ⟨m,h1,h2⟩:=h; refine aL u81 u9 rfl F2 h1 fun W1 XF hm=>?_; have BI:∀ b k v,W.cell b k=some v→W1.cell b k=some v:=fun b k v hc=>Lc XF h1 hc; refine hK W1 XF BI ⟨_,hm,fun s=>?_⟩; have G4:=(List.getElem?_eq_some_iff.1 hx).1; rw [List.take_add_one,hx,Option.toList_some,List.find?_append,ID]
 by_cases e:s=key x
 ·rw [if_pos e]
  have:(l.take i).find? (fun y=>decide (key y=s))=none:=by
   rw [List.find?_eq_none]; intro y hy; obtain ⟨j,hj,rfl⟩:=List.mem_take_iff_getElem.1 hy; have:=r7 j _ (by omega) (List.getElem?_eq_getElem (by omega)); rw [e]
   simpa using this
  rw [this]; simp only [Option.none_or,List.find?_cons,e,decide_true]; exact ⟨u,rfl,hu.cell fun _ _ _ _ hc=>BI _ _ _ hc⟩
 ·rw [if_neg e]
  have:([x].find? fun y=>decide (key y=s))=none:=by
   rw [List.find?_eq_none]; intro y hy; rw [List.mem_singleton.1 hy]
   simpa using Ne.symm e
  rw [this,Option.or_none]; have:=h2 s
  cases hf:(l.take i).find? (fun y=>decide (key y=s)) with
  | none=>rw [hf] at this; exact this
  | some y =>
   rw [hf] at this; obtain ⟨u',h3,h4⟩:=this; exact ⟨u',h3,h4.cell fun _ _ _ _ hc=>BI _ _ _ hc⟩
theorem Ny.some {key:Bc→ByteArray} {W:CW} {r:Nat} {l:List Bc} (h:Ny key W r l) {s:ByteArray} {x:Bc} (hf:l.find? (fun x=>decide (key x=s))=Option.some x):∃ u,fH W u x∧GL prog 81 (.map (Option.some r)) (.string s) true W=Option.some (.tuple #[u,.bool true]):=by
 obtain ⟨m,h1,h2⟩:=h; have:=h2 s; rw [hf] at this; obtain ⟨u,h3,h4⟩:=this; refine ⟨u,h4,?_⟩; rw [LV u81 u9 rfl lE F2 h1 s true,h3]; rfl
theorem Ny.none {key:Bc→ByteArray} {W:CW} {r:Nat} {l:List Bc} (h:Ny key W r l) {s:ByteArray} (hf:l.find? (fun x=>decide (key x=s))=Option.none):GL prog 81 (.map (Option.some r)) (.string s) true W=Option.some (.tuple #[rz,.bool false]):=by
 obtain ⟨m,h1,h2⟩:=h; have:=h2 s; rw [hf] at this; rw [LV u81 u9 rfl lE F2 h1 s true,this]; rfl
theorem tq.some {W:CW} {r:Nat} {c:List Ad} (h:tq W r c c.length) {s:ByteArray} {i:Nat} (hi:A_ c s=Option.some i):∃ a cap,GL prog 76 (.map (Option.some r)) (.string s) false W=Option.some (.slice a (Ak c i).length cap)∧Ax 1 (RKd W) (.slice a (Ak c i).length cap) (Ak c i):=by
 obtain ⟨m,h1,h2⟩:=h; have:=h2 s; rw [List.take_length,hi] at this; obtain ⟨v,h3,h4⟩:=this; obtain ⟨a,cap,rfl,h5⟩:=id h4; refine ⟨a,cap,?_,h4⟩; rw [LV u76 u9 rfl z29 F2 h1 s false,h3]; rfl
def Ej (c:List Ad) (l:List Bc) (i:Nat) (s:Bc):Bool:=match A_ c s.type,A_ c s.to with
 | some t,some a=>(decide (elemAt c t≠0) || decide (elemAt c a≠0) || HC l s i) || decide (s.map.length≠(Ak c a).length)
 | _,_=>true
def NG (l:List Bc) (i:Nat) (s:Bc):Bool:=Dq i fun k=>decide ((l[k]?).map (·.to)=some s.to)
def U5 (c:List Ad) (s:Bc):Bool:=match A_ c s.type,A_ c s.to with
 | some t,some a=>Dq (Ak c a).length (La (Ak c t) (Ak c a) s.map)
 | _,_=>true
def RN (l:List Bc) (s:Bc):Bool:=(l.find? fun x=>decide (x.type=s.to)).isSome
def Jr (c:List Ad) (l:List Bc) (i:Nat):Bool:=match l[i]? with
 | none=>true
 | some s=>Ej c l i s || (NG l i s || U5 c s)
theorem RO {c:List Ad} {l:List Bc} {i:Nat} {s:Bc} (hs:l[i]?=some s):RG c l i=(Jr c l i || RN l s):=by
 unfold RG Jr Ej U5; rw [hs]; simp only
 cases ht:A_ c s.type with
 | none=>simp
 | some t =>
  cases ha:A_ c s.to with
  | none=>simp
  | some a =>
   simp only
   have hn:Dq l.length (JQ l s i)=(NG l i s || RN l s):=by
    have G4:=(List.getElem?_eq_some_iff.1 hs).1; rw [Bool.eq_iff_iff,Bool.or_eq_true]; unfold RN; rw [List.find?_isSome]
    constructor
    ·intro h; obtain ⟨k,hk,hb⟩:=List.any_eq_true.1 h; have hk:=List.mem_range.1 hk; unfold JQ at hb; have hxk:=List.getElem?_eq_getElem hk; rw [hxk] at hb; simp only [Bool.or_eq_true,Bool.and_eq_true,decide_eq_true_eq] at hb
     rcases hb with hb | ⟨hb,Nd⟩
     ·exact .inr ⟨_,List.getElem_mem hk,by simpa using hb⟩
     ·exact .inl (Dt hb (by rw [hxk]; simpa using Nd))
    ·rintro (h | ⟨x,hx,hb⟩)
     ·obtain ⟨k,hk,hb⟩:=List.any_eq_true.1 h; have hk:=List.mem_range.1 hk; have hxk:=List.getElem?_eq_getElem (show k<l.length by omega); rw [hxk] at hb; refine Dt (show k<l.length by omega) ?_; unfold JQ; rw [hxk]; simp only [Option.map_some,Option.some.injEq,decide_eq_true_eq] at hb; simp [hb,hk]
     ·obtain ⟨k,hk,rfl⟩:=List.mem_iff_getElem.1 hx; refine Dt hk ?_; unfold JQ; rw [List.getElem?_eq_getElem hk]; simp only [hb,Bool.true_or]
   rw [hn]
   cases decide (elemAt c t≠0) <;> cases decide (elemAt c a≠0) <;> cases HC l s i <;> cases NG l i s <;> cases RN l s <;> cases decide (s.map.length≠(Ak c a).length) <;> simp
theorem r8 {c:List Ad} {l:List Bc}:∀ {i:Nat},(∀ j,j<i→∀ s,l[j]?=some s→Ej c l j s=false)→∀ j k x y,j<k→k<i→l[j]?=some x→l[k]?=some y→S7 (sb x.type) (sb y.type)=true:=by
 intro i h j k
 induction k with
 | zero=>intro x y hj; omega
 | succ k ih =>
  intro x y hj hk hx hy; have hb:=h (k+1) hk y hy; unfold Ej at hb
  split at hb
  ·simp only [Bool.or_eq_false_iff] at hb; have hp:=hb.1.2; unfold HC at hp; have cw:k<l.length:=by have:=(List.getElem?_eq_some_iff.1 hy).1; omega
   have hz:=List.getElem?_eq_getElem cw; simp only [hz,Bool.not_eq_false'] at hp
   rcases Nat.lt_succ_iff_lt_or_eq.1 hj with h1 | rfl
   ·exact NC _ _ _ (ih x _ h1 (by omega) hx hz) hp
   ·rw [hx] at hz; cases hz; exact hp
  ·cases hb
end Go.Ce
namespace Go.Ce
open Go Go.Proofs Go.Proofs.Tryz
theorem Dr.kp {W W':CW} {r1 r2:Nat} {c:List Ad} (h:Dr W r1 r2 c) (ht:Al W) (k:Kp W W'):Dr W' r1 r2 c:=by
 refine ⟨h.sh.kp ht k,?_⟩; obtain ⟨m,m1,m2⟩:=h.rw; refine ⟨m,m1.kp ht k,fun s=>?_⟩; have:=m2 s
 cases hi:A_ (c.take c.length) s with
 | none=>rw [hi] at this; exact this
 | some i =>
  rw [hi] at this; obtain ⟨v,h5,h6⟩:=this; exact ⟨v,h5,h6.imp fun _ _ _ hr=>k.cell ht hr⟩
theorem Dr.A5 {W W':CW} {r1 r2 r:Nat} {c:List Ad} (h:Dr W r1 r2 c) (hu:DO r W W') (h1:r1≠r) (h2:r2≠r) (BI:∀ b k v,W.cell b k=some v→W'.cell b k=some v):Dr W' r1 r2 c:=by
 constructor
 ·obtain ⟨m,m1,m2⟩:=h.sh; refine ⟨m,m1.congr (hu.obj _ h1),fun s=>?_⟩; have:=m2 s
  cases hi:A_ c s with
  | none=>rw [hi] at this; exact this
  | some i =>
   rw [hi] at this; obtain ⟨u,x,h5,h6,vf,ab,lb,cb,h7,h8⟩:=this; exact ⟨u,x,h5,h6,vf,ab,lb,cb,h7,h8.imp fun _ _ _ hr=>⟨BI _ _ _ hr.name,BI _ _ _ hr.kind,hr.lo,hr.hi⟩⟩
 ·obtain ⟨m,m1,m2⟩:=h.rw; refine ⟨m,m1.congr (hu.obj _ h2),fun s=>?_⟩; have:=m2 s
  cases hi:A_ (c.take c.length) s with
  | none=>rw [hi] at this; exact this
  | some i =>
   rw [hi] at this; obtain ⟨v,h5,h6⟩:=this; exact ⟨v,h5,h6.imp fun _ _ _ hr=>BI _ _ _ hr⟩
theorem a7 {mp:List Int} {k:Nat} (hk:k≤mp.length) (n:Int):RF mp k n=(mp.take k).any fun x=>decide (x=n):=by
 unfold RF Dq; rw [Bool.eq_iff_iff,List.any_eq_true,List.any_eq_true]
 constructor
 ·rintro ⟨j,hj,h⟩; have hjk:=List.mem_range.1 hj; rw [List.getElem?_eq_getElem (by omega)] at h; exact ⟨mp[j],List.mem_take_iff_getElem.2 ⟨j,by omega,rfl⟩,by simpa using h⟩
 ·rintro ⟨x,hx,h⟩; obtain ⟨j,hj,rfl⟩:=List.mem_take_iff_getElem.1 hx; refine ⟨j,List.mem_range.2 (by omega),?_⟩; rw [List.getElem?_eq_getElem (by omega)]
  simpa using h
theorem nm {W:CW} {v:Value} {l:List Int} {k:Nat} (h:Ax 1 (De W) v l) (ho:NT W 3 v) (hk:k≤l.length):∃ v',ma prog 40 v none (some (.int .i64 k)) none W=some v'∧Ax 1 (De W) v' (l.take k):=by
 obtain ⟨a,cap,rfl,hc⟩:=h; obtain ⟨he,hle⟩:=ho _ _ _ rfl; have cw:(l.take k).length=k:=by rw [List.length_take]; omega
 refine ⟨.slice (cond (Nat.beq cap 0) a (a.map fun a=>⟨a.block,a.off+0*1,none⟩)) k cap,?_,⟨_,cap,by rw [cw],fun i x hx=>?_⟩⟩
 ·unfold ma; rw [H3]; simp only [QK,H3,CV,bound,s3]; rw [show (decide ((0:Int)≤(k:Int)) && decide ((k:Int)≤(cap:Int)))=true by simp; omega]; simp only [cond_true,he,Option.isSome_none,Bool.false_and,Bool.false_or,Bool.not_true,Bool.or_false,Int.toNat_natCast]; rw [show Nat.ble k cap=true from Nat.ble_eq_true_of_le (by omega)]; simp
 ·have hik:i<k:=by have:=(List.getElem?_eq_some_iff.1 hx).1; omega
  rw [List.getElem?_take,if_pos hik] at hx; obtain ⟨p,rfl,hr⟩:=hc i x hx
  have Zf:Nat.beq cap 0=false:=by
   cases hb:Nat.beq cap 0 with
   | false=>rfl
   | true=>have:=Nat.eq_of_beq_eq_true hb; omega
  rw [Zf]; exact ⟨⟨p.block,p.off+0*1,none⟩,rfl,by rw [Nat.zero_mul,Nat.add_zero]; exact hr⟩
theorem r9 {W:CW} {K:AG} {e e1:Env} {c:List Ad} {s:Bc} {r1 r2 b2 b8 t a:Nat} {vm:Value} (EB:Dr W r1 r2 c) (Nd:W.cell b2 1=some (.map (some r2))) (PX:As W b8 58 [.string s.type,.string s.to,vm]) (ZN:Ax 1 (De W) vm s.map) (Ac:NT W 3 vm) (ht:A_ c s.type=some t) (ha:A_ c s.to=some a) (hlen:s.map.length=(Ak c a).length) (Wd:s.map.length<100000) (Mz:(Ak c t).length<100000)
  (h2:e 2=.pointer (some ⟨b2,0,none⟩)) (h8:e 8=.pointer (some ⟨b8,0,none⟩)) (AD6:e 107=vm) (AD7:e 108=.int .i64 s.map.length) (he:DJ [1,2,4,6,8,29,30,31,107,108] e e1) (AD8:e1 109=.int .i64 0)
  (a8:U5 c s=true→∀ e',DJ [4,6] e e'→wV (ld prog 83 (e' 6) W) fun rP=>wV (CE prog 83 (e' 4) rP W) fun VX=>∀ e2:Env,e2 4=e' 4→e2 5=.bool false→K .ret e2 [] VX)
  (Ho:U5 c s=false→∀ e',DJ [1,2,4,6,8,29,30,31] e e'→K (.exit 2) e' [] W) :
  C6 prog AV none 48 179 (.loop (Ae prog 48 1)) e1 [] W K:=by
 have hms:U5 c s=Dq (Ak c a).length (La (Ak c t) (Ak c a) s.map):=by unfold U5; rw [ht,ha]
 refine D8 (fun m e' DN W'=>DN=[]∧W'=W∧DJ [1,2,4,6,8,29,30,31,107,108] e e'∧e' 109=.int .i64 m∧∀ j,j<m→La (Ak c t) (Ak c a) s.map j=false) s.map.length ⟨rfl,rfl,he,AD8,by omega⟩ ?_; rintro m e' DN W' hm ⟨rfl,rfl,hA,ABj,Bj⟩; have g2:=(hA 2 (by decide)).trans h2; have g8:=(hA 8 (by decide)).trans h8; rw [xB,g2,g8,ABj,(hA 107 (by decide)).trans AD6,(hA 108 (by decide)).trans AD7]; simp only [A7,AA]
 refine G6 (fun Au=>?_) (fun Of=>?_)
 ·have hx:=List.getElem?_eq_getElem Au; have QV:m<(Ak c a).length:=by omega
  have hxa:=List.getElem?_eq_getElem QV; obtain ⟨av,cv,rfl,hmc⟩:=id ZN; obtain ⟨q,rfl,hq⟩:=hmc m _ hx; obtain ⟨art,crt,lt,zu⟩:=EB.rw.some ht; obtain ⟨ara,cra,la,hra⟩:=EB.rw.some ha; rw [A8 H3 s3 Au]; simp only [AA,H5,LQ,LR,LS]; have qm:ld prog 76 (.pointer (some ⟨b2,0+1,none⟩)) W'=some (.map (some r2)):=AB rY (a:=⟨b2,0+1,none⟩) Nd; have qt:ld prog 9 (.pointer (some ⟨b8,0,none⟩)) W'=some (.string s.type):=AB a9 (a:=⟨b8,0,none⟩) (PX.cell rfl); have qa:ld prog 9 (.pointer (some ⟨b8,0+1,none⟩)) W'=some (.string s.to):=AB a9 (a:=⟨b8,0+1,none⟩) (PX.cell rfl); have qv:ld prog 40 (.pointer (some ⟨b8,0+2,none⟩)) W'=some (.slice (some q) s.map.length cv):=AB M7 (a:=⟨b8,0+2,none⟩) (PX.cell rfl); rw [AB a3 (a:=⟨q.block,q.off+m*1,none⟩) hq.1]; simp only [AA,qm,qt,lt,Ah RD,D7]; rw [wrap64 (by omega) (by omega)]; have hmb:La (Ak c t) (Ak c a) s.map m=(decide (s.map[m]<0) || decide (s.map[m]≥(Ak c t).length) || decide ((Ak c t)[s.map[m].toNat]?≠(Ak c a)[m]?) || RF s.map m s.map[m]):=by unfold La; rw [hx]
  have leaf:∀ (b:Bool) (e2:Env),DJ [1,2,4,6,8,29,30,31,107,108,109] e' e2→e2 147=.bool b→b=La (Ak c t) (Ak c a) s.map m→(PR none (KY (fun m e' AD9 gv=>AD9=[]∧gv=W'∧DJ [1,2,4,6,8,29,30,31,107,108] e e'∧e' 109=.int .i64 m∧∀ j,j<m→La (Ak c t) (Ak c a) s.map j=false) m s.map.length K)) .normal e2 [] W':=by
   intro b e2 XE AD' hb; simp only [PR,B_,AD']
   refine AP (fun V'=>?_) (fun V'=>?_)
   ·have hA3:DJ [1,2,4,6,8,29,30,31,107,108] e e2:=hA.trans fun t ht=>XE t (by revert t; decide); have:=a8 (by rw [hms]; exact Dt QV (by rw [←hb,V'])) e2 (fun t ht=>hA3 t (by revert t; decide))
    revert this
    cases ld prog 83 (e2 6) W' with
    | none=>exact fun h=>h
    | some v =>
     simp only [AA]
     cases CE prog 83 (e2 4) v W' with
     | none=>exact fun h=>h
     | some VX =>
      simp only [AA]; intro h; simp only [PQ,Lm,HB,Vb]; exact h _ rfl rfl
   ·simp only [PQ,B_,HB,(XE 109 (by decide)).trans ABj,Az,AA]; refine ⟨Au,trivial,trivial,(hA.trans fun t ht=>XE t (by revert t; decide)).trans (.put rfl),?_,KZ Bj (by rw [←hb,V'])⟩; simp only [Ao,↓reduceIte]; rw [Du (by omega)]
  refine D0 (aF _ _ _ _) ?_; simp only [Ai,AA]
  refine AP (fun hb=>?_) (fun hb=>?_)
  ·refine ⟨by simp only [and_self],trivial,leaf true _ (.put rfl) rfl ?_⟩; rw [hmb]
   by_cases h1:s.map[m]<0
   ·rw [decide_eq_true h1]; rfl
   ·have:¬(s.map[m]≤((Ak c t).length:Int)-1):=by
     intro h2; rw [decide_eq_true (by omega:(0:Int)≤s.map[m]),decide_eq_true h2] at hb
     cases hb
    rw [decide_eq_true (by omega:s.map[m]≥((Ak c t).length:Int))]; simp
  ·have hb:(decide ((0:Int)≤s.map[m]) && decide (s.map[m]≤((Ak c t).length:Int)-1))=true:=by simpa only [Bool.not_eq_false'] using hb
   simp only [Bool.and_eq_true,decide_eq_true_eq] at hb; obtain ⟨WT,AGA⟩:=hb; obtain ⟨v',hsl,Gw⟩:=nm (k:=m) ZN Ac (by omega); simp only [qv,hsl,AA]; refine D0 (U4 Gw (by rw [List.length_take]; omega)) ?_; have ABk:=a7 (mp:=s.map) (k:=m) (by omega) s.map[m]
   refine AP (fun hd=>?_) (fun hd=>?_)
   ·refine ⟨by simp only [and_self],trivial,leaf true _ (.put rfl) rfl ?_⟩; rw [hmb,ABk,hd]; simp
   ·have Jz:s.map[m].toNat<(Ak c t).length:=by omega
    have hxt:=List.getElem?_eq_getElem Jz; obtain ⟨_,_,e3,AD_⟩:=zu
    cases e3
    obtain ⟨_,_,e4,AEA⟩:=hra
    cases e4
    obtain ⟨pt,rfl,hpt⟩:=AD_ _ _ hxt; obtain ⟨pa,rfl,hpa⟩:=AEA _ _ hxa
    have ei:EV prog 29 (.slice (some pt) (Ak c t).length crt) (.int .i64 s.map[m])=some (.pointer (some ⟨pt.block,pt.off+s.map[m].toNat*1,none⟩)):=by
     have e1:(Value.int IntKind.i64 s.map[m])=.int .i64 ((s.map[m].toNat:Nat):Int):=by rw [Int.toNat_of_nonneg WT]
     rw [e1]; exact A8 RD s5 Jz
    simp only [ei,AA]; rw [AB a5 (a:=⟨pt.block,pt.off+s.map[m].toNat*1,none⟩) hpt]; simp only [AA,qm,qa,la]; rw [A8 RD s5 QV]; simp only [AA]; rw [AB a5 (a:=⟨pa.block,pa.off+m*1,none⟩) hpa]; simp only [AA,DI]; refine ⟨by simp only [and_self],trivial,leaf _ _ (.put rfl) rfl ?_⟩; rw [hmb,ABk,hd,hxt,hxa,decide_eq_false (by omega:¬s.map[m]<0),decide_eq_false (by omega:¬s.map[m]≥((Ak c t).length:Int))]; simp only [Bool.or_self,Bool.false_or,Bool.or_false]
    by_cases e:(Ak c t)[s.map[m].toNat]=(Ak c a)[m]
    ·rw [decide_eq_false (by simp [e])]; simp [e]
    ·rw [decide_eq_true (by simpa using e)]; simpa using e
 ·simp only [PJ]; refine Ho ?_ _ (fun t ht=>(DJ.put rfl t (by exact ht)).trans (hA t (by revert t; decide))); rw [hms]; exact FA fun j hj=>Bj j (by omega)
end Go.Ce
namespace Go.Ce
open Go Go.Proofs Go.Proofs.Tryz
theorem a_:Tryz.f48.results.toList=[.cell 4 83,.tmp 5]:=by kernel_rfl
theorem np:DM prog 83=some 2:=by kernel_rfl
theorem a83:agg? prog 83=some true:=by kernel_rfl
theorem tv:agg? prog 81=some false:=by kernel_rfl
theorem z83:Gm prog 83=some (.agg #[.map none,.map none]):=by kernel_rfl
theorem ABl (a b:Nat):QF prog 83 [(0,.map (some a)),(1,.map (some b))]=some (.agg [.map (some a),.map (some b)].toArray):=by kernel_rfl
theorem TX (a:Addr):A0 prog 83 (.pointer (some a)) 0=some (.pointer (some ⟨a.block,a.off,none⟩)):=by kernel_rfl
theorem TY (a:Addr):A0 prog 83 (.pointer (some a)) 1=some (.pointer (some ⟨a.block,a.off+1,none⟩)):=by kernel_rfl
theorem Yi {W:CW} {b a1 a2:Nat} (h:As W b 83 [.map (some a1),.map (some a2)]):ld prog 83 (.pointer (some ⟨b,0,none⟩)) W=some (.agg [.map (some a1),.map (some a2)].toArray):=BO (vs:=[.map (some a1),.map (some a2)]) a83 np rfl (by omega) h.cells
theorem OM.ld {W:CW} {b o:Nat} {x:Bc} (h:OM W b o x):∃ am cm,ld prog 58 (.pointer (some ⟨b,o,none⟩)) W=some (.agg [.string x.type,.string x.to,.slice am x.map.length cm].toArray)∧Ax 1 (De W) (.slice am x.map.length cm) x.map∧NT W 3 (.slice am x.map.length cm):=by
 obtain ⟨v,h1,h2,h3⟩:=h.map; obtain ⟨am,cm,rfl,h4⟩:=id h2; refine ⟨am,cm,BO (vs:=[.string x.type,.string x.to,.slice am x.map.length cm]) a58 ZB rfl (by omega) ?_,h2,h3⟩; intro j w hj
 match j,hj with
 | 0,hj=>cases hj; exact h.type
 | 1,hj=>cases hj; exact h.to
 | 2,hj=>cases hj; exact h1
theorem U6 {W:CW} {r1:Nat} {c:List Ad} (h:TV W r1 c) (s:ByteArray):∃ ws:List Value,GL prog 75 (.map (some r1)) (.string s) true W=some (.tuple #[.agg ws.toArray,.bool (A_ c s).isSome])∧ws.length=5∧ws.all BN=true∧∀ i,A_ c s=some i→ws[3]?=some (.int .u8 (elemAt c i)):=by
 cases hi:A_ c s with
 | none =>
  obtain ⟨l1,_⟩:=h.none hi; exact ⟨[.string ⟨#[]⟩,.string ⟨#[]⟩,.slice none 0 0,.int .u8 0,.slice none 0 0],l1,rfl,rfl,fun i h=>by cases h⟩
 | some i =>
  obtain ⟨u,x,hx,hu,l1,_⟩:=h.some hi; obtain ⟨vf,ab,lb,cb,rfl,hf⟩:=hu; obtain ⟨af,cf,rfl,_⟩:=hf; refine ⟨[.string x.name,.string x.By,.slice af x.fields.length cf,.int .u8 x.elem,.slice ab lb cb],l1,rfl,rfl,fun j h=>?_⟩
  cases h
  unfold elemAt; rw [hx]; rfl
theorem Yj {key:Bc→ByteArray} {W:CW} {r:Nat} {l:List Bc} (h:Ny key W r l) (s:ByteArray):∃ ws:List Value,GL prog 81 (.map (some r)) (.string s) true W=some (.tuple #[.agg ws.toArray,.bool (l.find? fun x=>decide (key x=s)).isSome])∧ws.length=3∧ws.all BN=true:=by
 cases hf:l.find? fun x=>decide (key x=s) with
 | none=>exact ⟨[.string ⟨#[]⟩,.string ⟨#[]⟩,.slice none 0 0],h.none hf,rfl,rfl⟩
 | some x =>
  obtain ⟨u,hu,l1⟩:=h.some hf; obtain ⟨am,cm,rfl,_⟩:=hu; exact ⟨[.string x.type,.string x.to,.slice am x.map.length cm],l1,rfl,rfl⟩
structure RP (W0 W:CW) (b2 b4 b6 r1 r2 w r:Nat) (c:List Ad):Prop where
 kp:Kp W0 W
 top:Al W
 b2:As W b2 78 [.map (some r1),.map (some r2)]
 b4:As W b4 83 [.map none,.map none]
 b6:As W b6 83 [.map (some w),.map (some r)]
 cat:Dr W r1 r2 c
theorem RP.S4 {W0 W W':CW} {b2 b4 b6 r1 r2 w r:Nat} {c:List Ad} (I:RP W0 W b2 b4 b6 r1 r2 w r c) (k:Kp W W') (t:Al W'):RP W0 W' b2 b4 b6 r1 r2 w r c:=⟨I.kp.trans k,t,I.b2.ext I.top k,I.b4.ext I.top k,I.b6.ext I.top k,I.cat.kp I.top k⟩
def XJ (c:List Ad) (l:List Bc) (W:CW):Ending→CW→Prop:=fun e W'=>Kp W W'∧Al W'∧∃ w r,e=.returned (.tuple #[.agg #[.map (some w),.map (some r)],.bool (BG c l)])∧(BG c l=true→Ny Bc.type W' w l∧Ny Bc.to W' r l)
theorem bA {v1:Value} {c:List Ad} {l:List Bc} {r1 r2:Nat} {W:CW} (ht:Al W) (EB:Dr W r1 r2 c) (hC:OP c) (hl:Ax 3 (OM W) v1 l) (gL:l.length<100000) (Nx:∀ s,s ∈ l→s.map.length<100000):AF prog AV 48 [H6 r1 r2,v1] W (XJ c l W):=by
 refine ABM ?_; rw [ABH]; obtain ⟨a,cap,rfl,_⟩:=id hl; unfold H6; refine Er NV ht fun W0 k0 t0 z0 GK=>?_; have GK:As W0 W.sz 78 [.map (some r1),.map (some r2)]:=GK; refine Gx z83 np t0 fun W1 k1 t1 z1 Il=>?_; have Il:As W1 W0.sz 83 [.map none,.map none]:=Il; refine Uj (enc:=Value.string) t1 fun W2 k2 t2 z2 Vj=>?_; refine Uj (enc:=Value.string) t2 fun W3 k3 t3 z3 Bz=>?_; rw [ABl]; simp only [AA]; refine CZ z83 np rfl rfl rfl t3 fun W5 k5 t5 z5 Is=>?_; simp only [Ah iR,AA,CY]; have c_:=(k2.trans k3).trans k5; have kk:Kp W W5:=(k0.trans k1).trans c_; have I5:RP W W5 W.sz W0.sz W3.sz r1 r2 W1.sz W2.sz c:=⟨kk,t5,GK.ext t0 (k1.trans c_),Il.ext t1 c_,Is,EB.kp ht kk⟩
 have nh:=Vj.kp t2 (k3.trans k5); have ni:=Bz.kp t3 k5; have wW:W.sz≤W1.sz:=(k0.trans k1).sz; have rW:W.sz≤W2.sz:=Nat.le_trans wW k2.sz; have r1l:r1<W.sz:=by obtain ⟨m,h1,_⟩:=EB.sh; exact h1.lt ht
 have r2l:r2<W.sz:=by obtain ⟨m,h1,_⟩:=EB.rw; exact h1.lt ht
 have KC:W1.sz≠W2.sz:=by omega
 generalize W1.sz=w at I5 nh wW KC; generalize W2.sz=r at I5 ni rW KC; generalize W3.sz=b6 at I5; have nq:W.sz≤W0.sz:=k0.sz; generalize W0.sz=b4 at I5 nq; generalize Jq:AI prog Tryz.f48 (XJ c l W)=K
 have F_:∀ W1 (ok:Bool),RP W W1 W.sz b4 b6 r1 r2 w r c→ok=BG c l→(BG c l=true→Ny Bc.type W1 w l∧Ny Bc.to W1 r l)→∀ {K':CW→Prop},(∀ W2,(∀ e,e 4=.pointer (some ⟨b4,0,none⟩)→e 5=.bool ok→K .ret e [] W2)→K' W2) →
   wV (CE prog 83 (.pointer (some ⟨b4,0,none⟩)) (.agg [.map (some w),.map (some r)].toArray) W1) K':=by
  intro W1 ok I Ac EB K' rk; refine DF np (a:=⟨b4,0,none⟩) rfl rfl I.b4 (by simp) fun W2 hu hB=>rk W2 fun e h4 h5=>?_; have hu:DO b4 W1 W2:=hu; rw [←Jq]; have hB:As W2 b4 83 [.map (some w),.map (some r)]:=hB; refine Ij a_ h4 (Yi hB) ?_; have AEB:=I.b4.lt I.top; refine ⟨I.kp.A5 nq hu,I.top.A5 AEB hu,w,r,by rw [h5,Ac],fun hc=>?_⟩; obtain ⟨s1,s2⟩:=EB hc
  have BI:∀ b k k2 n,W1.cell b k=some (.int k2 n)→W2.cell b k=some (.int k2 n):=fun b k k2 n h=>by
   rw [hu.cell]
   ·exact h
   ·rintro rfl; have h2:=I.b4.Ik h
    match k,h2 with
    | 0,h2=>cases h2
    | 1,h2=>cases h2
  obtain ⟨m,g1,_⟩:=id s1; obtain ⟨m',g2,_⟩:=id s2; exact ⟨s1.cell (hu.obj _ (Ne.symm (Br I.b4 g1))) BI,s2.cell (hu.obj _ (Ne.symm (Br I.b4 g2))) BI⟩
 refine AP (fun hg=>?_) (fun hg=>?_)
 ·rw [Yi I5.b6]; simp only [AA]
  have FY:BG c l=false:=by
   have:=of_decide_eq_true hg; unfold BG; rw [decide_eq_false (by omega)]; rfl
  exact F_ W5 false I5 FY.symm (fun h=>by rw [FY] at h; cases h) fun W6 hr=>hr _ rfl rfl
 ·have hg:=of_decide_eq_false hg
  have Gz:BG c l=!Dq l.length (RG c l):=by
   unfold BG; rw [decide_eq_true (by omega)]; rfl
  have r_:∀ i s,l[i]?=some s→Jr c l i=true→BG c l=false:=fun i s hs hb=>by
   rw [Gz,Dt (List.getElem?_eq_some_iff.1 hs).1 (by rw [RO hs,hb]; rfl)]; rfl
  refine D8 (fun i e ds W'=>ds=[]∧RP W W' W.sz b4 b6 r1 r2 w r c∧e 1=.slice a l.length cap∧e 29=.slice a l.length cap∧e 30=.int .i64 l.length∧e 31=.int .i64 i∧e 2=.pointer (some ⟨W.sz,0,none⟩)∧e 4=.pointer (some ⟨b4,0,none⟩)∧e 6=.pointer (some ⟨b6,0,none⟩)∧Ny Bc.type W' w (l.take i)∧Ny Bc.to W' r (l.take i)∧∀ j,j<i→Jr c l j=false) l.length
   ⟨rfl,I5,rfl,rfl,rfl,rfl,rfl,rfl,rfl,⟨[],nh,fun s=>rfl⟩,⟨[],ni,fun s=>rfl⟩,by omega⟩ ?_
  rintro i e ds W' hi ⟨rfl,I',h1,h29,h30,h31,h2,h4,h6,hw,hr,Bj⟩; rw [xA,h1,h29,h30,h31,h2]; simp only [A7,AA]
  refine G6 (fun Au=>?_) (fun Of=>?_)
  ·obtain ⟨s,hs⟩:∃ s,l[i]?=some s:=⟨_,List.getElem?_eq_getElem Au⟩
   have HY:=List.mem_of_getElem? hs; have hlW:Ax 3 (OM W') (.slice a l.length cap) l:=hl.imp fun _ _ _ hr=>hr.kp ht I'.kp; obtain ⟨a',cap',ha,BI⟩:=id hlW
   cases ha
   obtain ⟨p,rfl,VV⟩:=BI i _ hs; obtain ⟨am,cm,xi,xo,Ac⟩:=VV.ld; rw [A8 iR ZB Au]; simp only [AA,xi]; refine CZ lE ZB rfl rfl rfl I'.top fun H0 cy t12 z12 PX=>?_; have I12:=I'.S4 cy t12; have qt:∀ W7,Kp H0 W7→ld prog 9 (.pointer (some ⟨W'.sz,0,none⟩)) W7=some (.string s.type):=fun W7 k7=>AB a9 (a:=⟨W'.sz,0,none⟩) (k7.cell t12 (PX.cell rfl)); have qa:∀ W7,Kp H0 W7→ld prog 9 (.pointer (some ⟨W'.sz,0+1,none⟩)) W7=some (.string s.to):=fun W7 k7=>AB a9 (a:=⟨W'.sz,1,none⟩) (k7.cell t12 (PX.cell rfl)); have qv:∀ W7,Kp H0 W7→ld prog 40 (.pointer (some ⟨W'.sz,0+2,none⟩)) W7=some (.slice am s.map.length cm):=fun W7 k7=>AB M7 (a:=⟨W'.sz,2,none⟩) (k7.cell t12 (PX.cell rfl)); have qm1:∀ W7,RP W W7 W.sz b4 b6 r1 r2 w r c→ld prog 75 (.pointer (some ⟨W.sz,0,none⟩)) W7=some (.map (some r1)):=fun W7 I=>AB nU (a:=⟨W.sz,0,none⟩) (I.b2.cell rfl); have qm2:∀ W7,RP W W7 W.sz b4 b6 r1 r2 w r c→ld prog 76 (.pointer (some ⟨W.sz,0+1,none⟩)) W7=some (.map (some r2)):=fun W7 I=>AB rY (a:=⟨W.sz,1,none⟩) (I.b2.cell rfl); obtain ⟨ws1,L1,AEC,ABm,AED⟩:=U6 I12.cat.sh s.type; simp only [Gj,LQ,LR,AA,qm1 H0 I12,qt H0 (.refl _),L1,Be,Bf]; refine CZ nH gi rfl ABm AEC t12 fun MR fI t14 z14 hB9=>?_; have xp:=I12.S4 fI t14; obtain ⟨ws2,L2,AEE,nr,AEF⟩:=U6 xp.cat.sh s.to; simp only [AA,qm1 MR xp,qa MR fI,L2,Be,Bf]; refine CZ nH gi rfl nr AEE t14 fun CQ k16 t16 z16 V_=>?_; have tw:=xp.S4 k16 t16; have Ln:=fI.trans k16; have xq:=cy.trans Ln
   have leaf:∀ (b:Bool) (e1:Env),DJ [1,2,4,6,29,30,31] e e1→e1 8=.pointer (some ⟨W'.sz,0,none⟩)→e1 94=.bool b→(b=true→Ej c l i s=true)→(b=false→Ej c l i s=false) →
     (H4 none (KY (fun i e ds W'=>ds=[]∧RP W W' W.sz b4 b6 r1 r2 w r c∧e 1=.slice (some p) l.length cap∧e 29=.slice (some p) l.length cap∧e 30=.int .i64 l.length∧e 31=.int .i64 i∧e 2=.pointer (some ⟨W.sz,0,none⟩)∧e 4=.pointer (some ⟨b4,0,none⟩)∧e 6=.pointer (some ⟨b6,0,none⟩)∧Ny Bc.type W' w (l.take i)∧Ny Bc.to W' r (l.take i)∧∀ j,j<i→Jr c l j=false) i l.length (Bm 0 (RK none K)))) .normal e1 [] CQ:=by
    intro b e1 hA g8 g94 nu sA; have g1:=(hA 1 (by decide)).trans h1; have g2:=(hA 2 (by decide)).trans h2; have g4:=(hA 4 (by decide)).trans h4; have g6:=(hA 6 (by decide)).trans h6; have g29:=(hA 29 (by decide)).trans h29; have g30:=(hA 30 (by decide)).trans h30; have g31:=(hA 31 (by decide)).trans h31; have nX:Jr c l i=(Ej c l i s || (NG l i s || U5 c s)):=by unfold Jr; rw [hs]
    have Gs:∀ W7,RP W W7 W.sz b4 b6 r1 r2 w r c→Jr c l i=true→∀ {K':CW→Prop},(∀ W2,(∀ e,e 4=.pointer (some ⟨b4,0,none⟩)→e 5=.bool false→K .ret e [] W2)→K' W2) →
      wV (CE prog 83 (.pointer (some ⟨b4,0,none⟩)) (.agg [.map (some w),.map (some r)].toArray) W7) K':=fun W7 I hb =>
     have FY:=r_ i s hs hb
     F_ W7 false I FY.symm (fun h=>by rw [FY] at h; cases h)
    simp only [H4,B_,g94]
    refine AP (fun V'=>?_) (fun V'=>?_)
    ·rw [g4,g6,Yi tw.b6]; simp only [AA]; refine Gs CQ tw (by rw [nX,nu V']; rfl) fun W8 sB=>?_; simp only [PO,JT,Lm,Sz,HB,Vb,RK]; exact sB _ g4 rfl
    ·have KE:=sA V'; have AEG:=hr.kp I'.top xq; have AGB:=hw.kp I'.top xq; obtain ⟨ws3,L3,AEH,ABn⟩:=Yj AEG s.to; simp only [PO,B_,g6,g8,TY,LR,AA]; rw [AB tv (a:=⟨b6,0+1,none⟩) (tw.b6.cell rfl)]; simp only [AA,qa CQ Ln,L3,Be,Bf]; refine CZ lE ZB rfl ABn AEH t16 fun L5 k18 t18 z18 AEI=>?_; have dA:=tw.S4 k18 t18; have XK:=Ln.trans k18; have ny:=cy.trans XK
     have htw:NG l i s=((l.take i).find? fun x=>decide (x.to=s.to)).isSome:=by
      unfold NG Dq; rw [Bool.eq_iff_iff,List.any_eq_true,List.find?_isSome]
      constructor
      ·rintro ⟨k,hk,hb⟩; have hk:=List.mem_range.1 hk; rw [List.getElem?_eq_getElem (show k<l.length by omega)] at hb; exact ⟨l[k],List.mem_take_iff_getElem.2 ⟨k,by omega,rfl⟩,by simpa using hb⟩
      ·rintro ⟨x,hx,hb⟩; obtain ⟨k,hk,rfl⟩:=List.mem_take_iff_getElem.1 hx; refine ⟨k,List.mem_range.2 (by omega),?_⟩; rw [List.getElem?_eq_getElem (show k<l.length by omega)]
       simpa using hb
     refine AP (fun Yk=>?_) (fun Yk=>?_)
     ·rw [g4,Yi dA.b6]; simp only [AA]; refine Gs L5 dA (by rw [nX,htw,Yk]; simp) fun W8 sB=>?_; simp only [JT,Lm,Sz,HB,Vb,RK]; exact sB _ g4 rfl
     ·simp only [LS,AA,qv L5 XK,Ah H3]; unfold Ej at KE
      cases TO:A_ c s.type with
      | none=>rw [TO] at KE; cases KE
      | some t =>
       cases cu:A_ c s.to with
       | none=>rw [TO,cu] at KE; cases KE
       | some aa =>
        rw [TO,cu] at KE; simp only [Bool.or_eq_false_iff,decide_eq_false_iff_not,Decidable.not_not] at KE
        have VW:(Ak c t).length<100000:=by
         have h1:=MX hC.len hC.fields t; unfold Ak; rw [List.length_map]; omega
        have xu:∀ j,j<i+1→∀ y,l[j]?=some y→Ej c l j y=false:=fun j hj y hy=>by
         rcases Nat.lt_succ_iff_lt_or_eq.1 hj with h | rfl
         ·have:=Bj j h; unfold Jr at this; rw [hy] at this; simp only [Bool.or_eq_false_iff] at this; exact this.1
         ·rw [hs] at hy; cases hy; unfold Ej; rw [TO,cu]; simp only [Bool.or_eq_false_iff,decide_eq_false_iff_not,Decidable.not_not]; exact KE
        refine r9 (e:=Env.of e1 [(8,.pointer (some ⟨W'.sz,0,none⟩)),(107,.slice am s.map.length cm),(108,.int .i64 s.map.length)]) dA.cat (dA.b2.cell rfl) ((PX.ext t12 XK)) (xo.imp fun _ _ _ hr=>hr.kp I'.top ny) (Ac.kp I'.top ny) TO cu KE.2 (Nx s HY) VW g2 rfl rfl rfl (fun t ht=>by
         simp only [List.mem_cons,List.not_mem_nil,or_false] at ht
         rcases ht with rfl | rfl | rfl | rfl | rfl | rfl | rfl | rfl | rfl | rfl <;> first | rfl | exact g8) rfl (fun hm e2 XE=>?_) (fun hm e2 XE=>?_)
        ·have q4:e2 4=.pointer (some ⟨b4,0,none⟩):=(XE 4 (by decide)).trans g4; have q6:e2 6=.pointer (some ⟨b6,0,none⟩):=(XE 6 (by decide)).trans g6; rw [q4,q6,Yi dA.b6]; simp only [AA]; refine Gs L5 dA (by rw [nX,hm]; simp) fun W8 sB=>?_; intro e3 r4 r5; simp only [Yf,JT,B_,Lm,Sz,HB,Vb,RK]; exact sB _ r4 r5
        ·have q1:e2 1=.slice (some p) l.length cap:=(XE 1 (by decide)).trans g1; have q2:e2 2=.pointer (some ⟨W.sz,0,none⟩):=(XE 2 (by decide)).trans g2; have q4:e2 4=.pointer (some ⟨b4,0,none⟩):=(XE 4 (by decide)).trans g4; have q6:e2 6=.pointer (some ⟨b6,0,none⟩):=(XE 6 (by decide)).trans g6; have q8:e2 8=.pointer (some ⟨W'.sz,0,none⟩):=(XE 8 (by decide)).trans rfl; have q29:e2 29=.slice (some p) l.length cap:=(XE 29 (by decide)).trans g29; have q30:e2 30=.int .i64 l.length:=(XE 30 (by decide)).trans g30; have q31:e2 31=.int .i64 i:=(XE 31 (by decide)).trans g31; have nz:=PX.ext t12 XK; have l58:∀ W7,As W7 W'.sz 58 [.string s.type,.string s.to,.slice am s.map.length cm]→ld prog 58 (.pointer (some ⟨W'.sz,0,none⟩)) W7=some (.agg [.string s.type,.string s.to,.slice am s.map.length cm].toArray):=fun W7 hB=>BO (vs:=[.string s.type,.string s.to,.slice am s.map.length cm]) a58 ZB rfl (by omega) hB.cells; have lr:∀ W7,As W7 b6 83 [.map (some w),.map (some r)]→ld prog 81 (.pointer (some ⟨b6,0+1,none⟩)) W7=some (.map (some r)):=fun W7 hB=>AB tv (a:=⟨b6,0+1,none⟩) (hB.cell rfl); have lto:∀ W7,As W7 W'.sz 58 [.string s.type,.string s.to,.slice am s.map.length cm]→ld prog 9 (.pointer (some ⟨W'.sz,0+1,none⟩)) W7=some (.string s.to):=fun W7 hB=>AB a9 (a:=⟨W'.sz,0+1,none⟩) (hB.cell rfl); simp only [B_,Va,M6,if_true,Yf,q6,q8,TX,TY,LQ,LR,AA,lr L5 dA.b6,qt L5 XK,qa L5 XK,l58 L5 nz]; rw [AB tv (a:=⟨b6,0,none⟩) (dA.b6.cell rfl)]; simp only [AA]; have ABo:=hw.kp I'.top ny; have ABp:=hr.kp I'.top ny; have hAS:fH L5 (.agg [.string s.type,.string s.to,.slice am s.map.length cm].toArray) s:=⟨am,cm,rfl,xo.imp fun _ _ _ hr=>hr.kp I'.top ny⟩
         refine ABo.put (key:=Bc.type) hs (fun j y hj hy e=>?_) hAS fun QH bB xv AEJ=>?_
         ·have:=r8 xu j i y s hj (by omega) hy hs; rw [e,PV] at this; cases this
         ·obtain ⟨m18,gw,_⟩:=id ABo; obtain ⟨AGC,gr,_⟩:=id ABp; have Vc:=gw.lt t18; have t20:=t18.A5 Vc bB; have sC:RP W QH W.sz b4 b6 r1 r2 w r c:=⟨dA.kp.A5 wW bB,t20,dA.b2.congr (bB.obj _ (Br dA.b2 gw)),dA.b4.congr (bB.obj _ (Br dA.b4 gw)),dA.b6.congr (bB.obj _ (Br dA.b6 gw)),dA.cat.A5 bB (by omega) (by omega) xv⟩
          have ABq:=ABp.cell (bB.obj _ (Ne.symm KC)) fun _ _ _ _ hc=>xv _ _ _ hc; have tx:As QH W'.sz 58 [.string s.type,.string s.to,.slice am s.map.length cm]:=nz.congr (bB.obj _ (Br nz gw))
          refine ABq.put (key:=Bc.to) hs (fun j y hj hy e=>?_) (hAS.cell fun _ _ _ _ hc=>xv _ _ _ hc) fun k_ fJ ABr AEK=>?_
          ·have:((l.take i).find? fun x=>decide (x.to=s.to)).isSome=true:=by
            rw [List.find?_isSome]; have U0:=(List.getElem?_eq_some_iff.1 hy).1; exact ⟨y,List.mem_take_iff_getElem.2 ⟨j,by omega,(List.getElem?_eq_some_iff.1 hy).2⟩,by simpa using e⟩
           rw [Yk] at this; cases this
          ·obtain ⟨m20,sD,_⟩:=id ABq; have ABs:=sD.lt t20; have I21:RP W k_ W.sz b4 b6 r1 r2 w r c:=⟨sC.kp.A5 rW fJ,t20.A5 ABs fJ,sC.b2.congr (fJ.obj _ (Br sC.b2 sD)),sC.b4.congr (fJ.obj _ (Br sC.b4 sD)),sC.b6.congr (fJ.obj _ (Br sC.b6 sD)),sC.cat.A5 fJ (by omega) (by omega) ABr⟩
           have AEL:=AEJ.cell (fJ.obj _ KC) fun _ _ _ _ hc=>ABr _ _ _ hc; refine ⟨by simp only [l58 QH tx,lto QH tx,lr QH sC.b6,and_self],trivial,?_⟩; simp only [JT,B_,HB]; simp only [Ao,BC,Nat.reduceEqDiff,↓reduceIte,q31,Az,AA]; refine ⟨Au,trivial,I21,q1,q29,q30,by rw [Du (by omega)],q2,q4,q6,AEL,AEK,KZ Bj ?_⟩; rw [nX,htw,Yk,hm]; unfold Ej; rw [TO,cu]; simp only [Bool.or_self,Bool.or_false]; rw [Bool.or_eq_false_iff]; simp only [Bool.or_eq_false_iff,decide_eq_false_iff_not,Decidable.not_not]; exact KE
   simp only [Ai,AA]
   cases TO:A_ c s.type with
   | none =>
    have hh:Ej c l i s=true:=by unfold Ej; rw [TO]
    simp only [Option.isSome_none,Bool.not_false,Bh]; exact ⟨trivial,trivial,leaf true _ (.put rfl) rfl rfl (fun _=>hh) (fun h=>by cases h)⟩
   | some t =>
    simp only [Option.isSome_some,Bool.not_true,Ar]
    cases cu:A_ c s.to with
    | none =>
     have hh:Ej c l i s=true:=by unfold Ej; rw [TO,cu]
     simp only [Option.isSome_none,Bool.not_false,Bh]; exact ⟨trivial,trivial,leaf true _ (.put rfl) rfl rfl (fun _=>hh) (fun h=>by cases h)⟩
    | some aa =>
     have hh:Ej c l i s=((decide (elemAt c t≠0) || decide (elemAt c aa≠0) || HC l s i) || decide (s.map.length≠(Ak c aa).length)):=by unfold Ej; rw [TO,cu]
     simp only [Option.isSome_some,Bool.not_true,Ar]; have e9:ld prog 5 (.pointer (some ⟨H0.sz,0+3,none⟩)) CQ=some (.int .u8 (elemAt c t)):=AB a5 (a:=⟨H0.sz,0+3,none⟩) (k16.cell t14 (hB9.cell (AED t TO))); have SX:ld prog 5 (.pointer (some ⟨MR.sz,0+3,none⟩)) CQ=some (.int .u8 (elemAt c aa)):=AB a5 (a:=⟨MR.sz,0+3,none⟩) (V_.cell (AEF aa cu)); obtain ⟨ara,cra,la,hra⟩:=tw.cat.rw.some cu; simp only [YZ,AA,e9,SX,DI,CY,LS,H5,qv CQ Ln,qm2 CQ tw,qa CQ Ln,qt CQ Ln,la,Ah H3,Ah RD]
     refine AP (fun he=>?_) (fun he=>?_)
     ·have he:elemAt c t≠0:=by simpa using he
      exact ⟨by simp only [and_self],trivial,leaf true _ (.put rfl) rfl rfl (fun _=>by rw [hh,decide_eq_true he]; rfl) (fun h=>by cases h)⟩
     ·have he:¬elemAt c t≠0:=by simpa using he
      refine AP (fun T0=>?_) (fun T0=>?_)
      ·have T0:elemAt c aa≠0:=by simpa using T0
       exact ⟨by simp only [and_self],trivial,leaf true _ (.put rfl) rfl rfl (fun _=>by rw [hh,decide_eq_true T0]; simp) (fun h=>by cases h)⟩
      ·have T0:¬elemAt c aa≠0:=by simpa using T0
       rw [decide_eq_false he,decide_eq_false T0,Bool.or_self,Bool.false_or] at hh
       have SG:HC l s i=false→((s.map.length:Int) != ((Ak c aa).length:Nat))=Ej c l i s:=fun hp=>by
        rw [hh,hp,Bool.false_or]
        by_cases e:s.map.length=(Ak c aa).length
        ·rw [decide_eq_false (by simpa using e),e]; simp
        ·rw [decide_eq_true e]; simp; omega
       cases i with
       | zero =>
        refine AP (fun h=>by simp at h) (fun _=>?_); have hp:=SG rfl; exact ⟨by simp only [qv CQ Ln,qm2 CQ tw,qa CQ Ln,Ah H3,Ah RD,and_self],trivial,leaf _ _ (.put rfl) rfl rfl (fun h=>by rw [←hp]; exact h) (fun h=>by rw [←hp]; exact h)⟩
       | succ i =>
        refine AP (fun _=>?_) (fun h=>by have:=of_decide_eq_false h; omega); have ABt:i<l.length:=by omega
        have hxp:=List.getElem?_eq_getElem ABt; obtain ⟨p',hp',cz⟩:=BI i _ hxp
        cases hp'
        have r3:ld prog 9 (.pointer (some ⟨p.block,p.off+i*3,none⟩)) CQ=some (.string l[i].type):=AB a9 (a:=⟨p.block,p.off+i*3,none⟩) (xq.cell I'.top cz.type); have es:((i+1:Nat):Int)-1=(i:Nat):=by omega
        simp only [D7,AA,es]; rw [wrap64 (by omega) (by omega),A8 iR ZB ABt]; simp only [AA,LQ,r3,Ww]; have hpb:HC l s (i+1)=!S7 (sb l[i].type) (sb s.type):=by unfold HC; simp only [hxp]
        refine AP (fun hq=>?_) (fun hq=>?_)
        ·exact ⟨by simp only [qt CQ Ln,and_self],trivial,leaf true _ (.put rfl) rfl rfl (fun _=>by rw [hh,hpb,hq]; rfl) (fun h=>by cases h)⟩
        ·have hp:=SG (hpb.trans hq); exact ⟨by simp only [qt CQ Ln,qv CQ Ln,qm2 CQ tw,qa CQ Ln,Ah H3,Ah RD,and_self],trivial,leaf _ _ (.put rfl) rfl rfl (fun h=>by rw [←hp]; exact h) (fun h=>by rw [←hp]; exact h)⟩
  ·have SV:l.take i=l:=List.take_of_length_le (by omega); rw [SV] at hw hr; have B6:∀ j,j<l.length→Jr c l j=false:=fun j hj=>Bj j (by omega); simp only [B_,Va,M6,PJ,if_true,RK]; simp only [Ao,BC,Nat.reduceEqDiff,↓reduceIte,h1]; simp only [Ah iR,AA]
   refine D8 (fun i e ds W'=>ds=[]∧RP W W' W.sz b4 b6 r1 r2 w r c∧e 161=.slice a l.length cap∧e 162=.int .i64 l.length∧e 163=.int .i64 i∧e 4=.pointer (some ⟨b4,0,none⟩)∧e 6=.pointer (some ⟨b6,0,none⟩)∧Ny Bc.type W' w l∧Ny Bc.to W' r l∧∀ j s,j<i→l[j]?=some s→RN l s=false) l.length
    ⟨rfl,I',rfl,rfl,rfl,h4,h6,hw,hr,by omega⟩ ?_
   rintro i2 e2 ds2 W2 hi2 ⟨rfl,I2,ABu,ABv,ABw,g4,g6,FI,NW,SW⟩; rw [xC,ABu,ABv,ABw,g6]; simp only [A7,AA]
   refine G6 (fun Au=>?_) (fun ABh=>?_)
   ·obtain ⟨s,hs⟩:∃ s,l[i2]?=some s:=⟨_,List.getElem?_eq_getElem Au⟩
    have hlW:Ax 3 (OM W2) (.slice a l.length cap) l:=hl.imp fun _ _ _ hr=>hr.kp ht I2.kp; obtain ⟨a',cap',ha,BI⟩:=id hlW
    cases ha
    obtain ⟨p,rfl,VV⟩:=BI i2 _ hs; obtain ⟨am,cm,xi,xo,Ac⟩:=VV.ld; rw [A8 iR ZB Au]; simp only [AA,xi]; refine CZ lE ZB rfl rfl rfl I2.top fun H0 cy t12 z12 PX=>?_; have I12:=I2.S4 cy t12; obtain ⟨ws,L,Zq,MA⟩:=Yj (FI.kp I2.top cy) s.to; simp only [TX,LR,AA]; rw [AB tv (a:=⟨b6,0,none⟩) (I12.b6.cell rfl),AB a9 (a:=⟨W2.sz,0+1,none⟩) (PX.cell rfl)]; simp only [AA,L,Be,Bf]; refine CZ lE ZB rfl MA Zq t12 fun MR fI t14 z14 AGD=>?_; have xp:=I12.S4 fI t14; have tz:RN l s=(l.find? fun x=>decide (x.type=s.to)).isSome:=rfl
    refine AP (fun hb=>?_) (fun hb=>?_)
    ·rw [g4,Yi xp.b6]; simp only [AA]
     have FY:BG c l=false:=by
      rw [Gz,Dt Au (by rw [RO hs,tz,hb]; simp)]; rfl
     refine F_ MR false xp FY.symm (fun h=>by rw [FY] at h; cases h) fun W8 sB=>?_; simp only [TR,Lm,Sz,HB,Vb,ed]; exact sB _ g4 rfl
    ·simp only [TR,B_,HB]; simp only [Ao,BC,Nat.reduceEqDiff,↓reduceIte,ABw,Az,AA]; refine ⟨Au,trivial,xp,ABu,ABv,by rw [Du (by omega)],g4,g6,FI.kp I2.top (cy.trans fI),NW.kp I2.top (cy.trans fI),fun j s' hj Jf=>?_⟩
     rcases Nat.lt_succ_iff_lt_or_eq.1 hj with h | rfl
     ·exact SW j s' h Jf
     ·rw [hs] at Jf; cases Jf; rw [tz]; exact hb
   ·have SU:BG c l=true:=by
     rw [Gz,FA fun j hj=>?_]
     ·rfl
     ·have fG:=List.getElem?_eq_getElem hj; rw [RO fG,B6 j hj,SW j _ (by omega) fG]; rfl
    simp only [B_,Va,M6,PJ,if_true,ed]; simp only [Ao,BC,Nat.reduceEqDiff,↓reduceIte,g4,g6]; rw [Yi I2.b6]; simp only [AA]; exact F_ W2 true I2 SU.symm (fun _=>⟨FI,NW⟩) fun W8 sB=>sB _ g4 rfl
end Go.Ce
namespace Go.Ce
open Go Go.Proofs Go.Proofs.Tryz
structure jd (W:CW) (bk bx r1 r2:Nat) (c:List Ad) (ty:ByteArray) (n:Nat):Prop where
 k0:W.cell bk 0=some (.map (some r1))
 k1:W.cell bk 1=some (.map (some r2))
 cat:Dr W r1 r2 c
 x0:W.cell bx 0=some (.string ty)
 x1:∃ a cap,W.cell bx 1=some (.slice a n cap)
theorem TV.elem {W:CW} {r:Nat} {c:List Ad} (h:TV W r c) {s:ByteArray} {i:Nat} (hi:A_ c s=Option.some i):∃ a b f g,GL prog 75 (.map (Option.some r)) (.string s) false W=Option.some (.agg #[a,b,f,.int .u8 (elemAt c i),g]):=by
 obtain ⟨u,x,hx,hu,_,l2⟩:=h.some hi; obtain ⟨vf,ab,lb,cb,rfl,_⟩:=hu; exact ⟨_,_,_,_,by unfold elemAt; rw [hx]; exact l2⟩
theorem PY {l:Nat} {args:List Value} {W:CW} {K:Value→CW→Prop} {KP:List PanicEntry→CW→Prop} (h:IP prog AV l args W (AT K KP)):DZ prog AV (.func (.yield l) #[] #[]) args W K KP:=by
 unfold DZ Hm
 simpa using h
theorem Me (Q:Ending→CW→Prop) (x:Exit) (hx:x=.normal∨x=.ret) (e:Env) (W:CW) (h:Q (.returned (.tuple #[])) W):AI prog Tryz.f108 Q x e [] W:=by
 have hr:Tryz.f108.results.toList=[]:=by kernel_rfl
 rcases hx with rfl | rfl <;> simp only [AI,CB,hr,IQ] <;> exact h
theorem je {l bk bx r1 r2 n ix:Nat} {c:List Ad} {ty:ByteArray} (SY:A_ c ty=some ix) (Jz:n<100000) (hn:elemAt c ix=0→n≤(Ak c ix).length) (J:Nat→CW→Prop) (Stop:CW→Prop) (hJ:∀ i W,J i W→jd W bk bx r1 r2 c ty n)
  (fK:∀ i W,i<n→J i W→IP prog AV l [.int .i64 i,.int .u8 (A6 c ix i)] W fun e W'=>(e=.returned (.bool true)∧J (i+1) W')∨(e=.returned (.bool false)∧Stop W')) {W:CW} (h0:J 0 W) :
  AF prog AV 108 [.func (.yield l) #[] #[],.pointer (some ⟨bk,0,none⟩),.pointer (some ⟨bx,0,none⟩)] W fun e W'=>e=.returned (.tuple #[])∧(J n W'∨Stop W'):=by
 refine nR ?_; rw [nQ]; have K0:=hJ 0 W h0; obtain ⟨a0,AEM,Y'⟩:=K0.x1; obtain ⟨ea,eb,ef,eg,N8⟩:=K0.cat.sh.elem SY; simp only [Gj,F1,D1,AA]; rw [AB nU (a:=⟨bk,0,none⟩) K0.k0,AB a9 (a:=⟨bx,0,none⟩) K0.x0,AB M7 (a:=⟨bx,0+1,none⟩) Y']; simp only [AA,N8,ND,Ah H3]; refine D8 (fun i e ds W'=>ds=[]∧e 0=.func (.yield l) #[] #[]∧e 1=.pointer (some ⟨bk,0,none⟩)∧e 2=.pointer (some ⟨bx,0,none⟩)∧e 4=.int .u8 (elemAt c ix)∧e 15=.int .i64 n∧e 16=.int .i64 i∧J i W') n ⟨rfl,rfl,rfl,rfl,rfl,rfl,rfl,h0⟩ ?_; rintro i e ds W' hi ⟨rfl,h0,h1,h2,h4,sE,h16,hj⟩; rw [gq,h1,h2,h4,sE,h16]; simp only [A7,AA]
 refine G6 (fun Au=>?_) (fun Of=>?_)
 ·have EE:∀ (e1:Env),DJ [0,1,2,4,15,16] e e1→e1 5=.int .i64 i→e1 6=.int .u8 (A6 c ix i) →
    (NB none (KY (fun i e ds W'=>ds=[]∧e 0=.func (.yield l) #[] #[]∧e 1=.pointer (some ⟨bk,0,none⟩)∧e 2=.pointer (some ⟨bx,0,none⟩)∧e 4=.int .u8 (elemAt c ix)∧e 15=.int .i64 n∧e 16=.int .i64 i∧J i W') i n (Bm 0 (AI prog Tryz.f108 fun e W'=>e=.returned (.tuple #[])∧(J n W'∨Stop W'))))) .normal e1 [] W':=by
   intro e1 hA h5 h6; have g0:=(hA 0 (by decide)).trans h0; have sF:=(hA 16 (by decide)).trans h16; simp only [NB,B_,g0,h5,h6]; refine PY ((fK i W' Au hj).mono fun en W1 hp=>?_)
   rcases hp with ⟨rfl,vH⟩ | ⟨rfl,EL⟩
   ·simp only [AT,Ai,AA,Bool.not_true,Ar,JU,B_,Lm,Sz,HB,Vb]; simp only [Ao,BC,Nat.reduceEqDiff,↓reduceIte,sF,Az,AA]; exact ⟨Au,trivial,g0,(hA 1 (by decide)).trans h1,(hA 2 (by decide)).trans h2,(hA 4 (by decide)).trans h4,(hA 15 (by decide)).trans sE,by rw [Du (by omega)],vH⟩
   ·simp only [AT,Ai,AA,Bool.not_false,Bh,JU,B_,Lm,Sz,HB,Vb]; exact Me _ _ (.inr rfl) _ _ ⟨rfl,.inr EL⟩
  simp only [Bp,AA]
  refine AP (fun he=>?_) (fun he=>?_)
  ·have he:elemAt c ix=0:=by simpa using he
   have Ki:=hJ i W' hj; have G4:=D2 SY; have VW:i<(Ak c ix).length:=by have:=hn he; omega
   obtain ⟨ar,cr,lr,qC⟩:=Ki.cat.rw.some SY; obtain ⟨_,_,e3,hrc⟩:=qC
   cases e3
   obtain ⟨pr,rfl,QC⟩:=hrc i _ (List.getElem?_eq_getElem VW); simp only [H5,F1,AA]; rw [AB rY (a:=⟨bk,0+1,none⟩) Ki.k1,AB a9 (a:=⟨bx,0,none⟩) Ki.x0]; simp only [AA,lr]; rw [A8 RD s5 VW]; simp only [AA]; rw [AB a5 (a:=⟨pr.block,pr.off+i*1,none⟩) QC]; simp only [AA]; refine EE _ (.put rfl) rfl ?_; show Value.int .u8 (Ak c ix)[i]=_; rw [Gg he G4,List.getElem?_eq_getElem VW]; rfl
  ·have he:elemAt c ix≠0:=by simpa using he
   refine EE _ (.put rfl) rfl ?_; show Value.int .u8 (elemAt c ix)=_; have G4:=D2 SY; unfold A6; unfold elemAt at he ⊢; rw [List.getElem?_eq_getElem G4] at he ⊢; simp only at he ⊢; rw [if_pos he]
 ·simp only [M6,PJ,if_true]; have hi:i=n:=by omega
  exact Me _ _ (.inl rfl) _ _ ⟨rfl,.inl (hi ▸ hj)⟩
theorem TZ {fn:FuncId} {nt:Nat} {f:Operand} {p1 p2 a1 a2:Tmp} {A B:Code} {e:Env} {ds:List Deferred} {W:CW} {K:AG} {bk bx r1 r2 n ix:Nat} {c:List Ad} {ty:ByteArray} (ht:Al W)
  (hf:e.ev f=.func (.func 108) #[] #[.pointer (some ⟨bk,0,none⟩),.pointer (some ⟨bx,0,none⟩)]) (SY:A_ c ty=some ix) (Jz:n<100000) (hn:elemAt c ix=0→n≤(Ak c ix).length)
  (hA:∀ ro e0 ds K W,AK prog AV ro fn nt A e0 ds W K=K .normal (Env.of e0 [(a2,e0 p2),(a1,e0 p1)]) ds W) (n8:p1≠p2∧a1≠a2)
  (J:Nat→CW→Prop) (Stop:Exit→CW→Prop) (hJ:∀ i W,J i W→jd W bk bx r1 r2 c ty n)
  (xw:∀ i W1 W2,J i W1→DO (W.sz+1) W1 W2→(∀ b k v,W1.cell b k=some v→W2.cell b k=some v)→J i W2)
  (hSl:∀ x W1 W2,Stop x W1→DO (W.sz+1) W1 W2→(∀ b k v,W1.cell b k=some v→W2.cell b k=some v)→Stop x W2)
  (h0:∀ W2,Kp W W2→Al W2→W2.sz=W.sz+2→W2.obj W.sz=some .deferred→J 0 W2)
  (Zx:∀ (i:Nat) W1 (Kb:AG) (E:Env),(∀ t,t≠p1→t≠p2→t≠a1→t≠a2→E t=e t)→E a1=.int .i64 i→E a2=.int .u8 (A6 c ix i)→i<n→J i W1→(∃ o,W1.obj (W.sz+1)=some o∧∀ a b c d,o≠.cells a b c d) →
   (∀ e' DN W3,W3.obj (W.sz+1)=W1.obj (W.sz+1)→J (i+1) W3→Kb .normal e' DN W3)→(∀ e' DN W3,W3.obj (W.sz+1)=W1.obj (W.sz+1)→Stop .ret W3→Kb .ret e' DN W3)→(∀ id e' DN W3,W3.obj (W.sz+1)=W1.obj (W.sz+1)→Stop (.exit id) W3→Kb (.exit id) e' DN W3) →
   AK prog AV (some (W.sz+1)) fn nt B E [] W1 Kb)
  (E3:∀ W',J n W'→K .normal e (mark W.sz::ds) W') (t_:∀ x W',Stop x W'→K x e (mark W.sz::ds) W') :
  C6 prog AV none fn nt (.rangeFunc f #[p1,p2] A B) e ds W K:=by
 have BI:∀ {W1 W2:CW} {st DX TD e' aH aI A' B' d'},Df W1 (W.sz+1) st DX TD e' aH aI A' B' d'→DO (W.sz+1) W1 W2→∀ b k v,W1.cell b k=some v→W2.cell b k=some v:=by
  intro W1 W2 st DX TD e' aH aI A' B' d' hl hu b k v hc; obtain ⟨T,ho,_⟩:=hl
  rw [hu.cell]
  ·exact hc
  ·rintro rfl; unfold CW.cell at hc; rw [ho] at hc; cases hc
 refine rE (g:=108) (args:=[.func (.yield (W.sz+1)) #[] #[],.pointer (some ⟨bk,0,none⟩),.pointer (some ⟨bx,0,none⟩)]) ht ?_ fun W2 k2 t2 z2 hd hl=>?_
 ·rw [hf]; rfl
 ·refine (je (J:=fun i W'=>J i W'∧Df W' (W.sz+1) .ready none fn e nt #[p1,p2] A B W.sz) (Stop:=fun W'=>∃ x,Stop x W'∧∃ pd,Df W' (W.sz+1) .done (some pd) fn e nt #[p1,p2] A B W.sz∧((pd=.ret∧x=.ret)∨∃ id,pd=.exit id∧x=.exit id)) SY Jz hn (fun i W' h=>hJ i W' h.1) (fun i W' hi h=>?_) ⟨h0 W2 k2 t2 z2 hd,hl⟩).mono fun en W' ⟨he,hr⟩=>?_
  ·obtain ⟨hj,Vm⟩:=h; refine gl Vm rfl ?_; rw [hA]; refine ⟨rfl,none,e,nt,#[p1,p2],A,B,W.sz,Vm,fun W3 hu jf=>?_⟩; have hj3:=xw i W' W3 hj hu (BI Vm hu); obtain ⟨uA,hd2⟩:=n8
   refine Zx i W3 _ _ (fun t h1 h2 h3 h4=>by simp only [Ao,BC,List.zip_cons_cons,List.zip_nil_left,Env.Hi,if_neg h1,if_neg h2,if_neg h3,if_neg h4]) (by simp only [Ao,BC,List.zip_cons_cons,List.zip_nil_left,Env.Hi,if_neg uA,if_neg hd2,if_true]) (by simp only [Ao,BC,List.zip_cons_cons,List.zip_nil_left,Env.Hi,if_true,if_neg (Ne.symm uA)]) hi hj3 (by obtain ⟨T,ho,_⟩:=jf; exact ⟨_,ho,fun _ _ _ _ h=>by cases h⟩) (fun e' DN W4 ho hj4=>?_) (fun e' DN W4 ho mT=>?_) (fun id e' DN W4 ho mT=>?_)
   ·refine ⟨.busy,none,fn,e,nt,#[p1,p2],A,B,W.sz,jf.congr ho,fun W5 OV xx=>.inl ⟨rfl,?_,xx⟩⟩; exact xw _ W4 W5 hj4 OV (BI (jf.congr ho) OV)
   ·refine ⟨.busy,none,fn,e,nt,#[p1,p2],A,B,W.sz,jf.congr ho,fun W5 OV xx=>.inr ⟨rfl,.ret,?_,.ret,xx,.inl ⟨rfl,rfl⟩⟩⟩; exact hSl _ W4 W5 mT OV (BI (jf.congr ho) OV)
   ·refine ⟨.busy,none,fn,e,nt,#[p1,p2],A,B,W.sz,jf.congr ho,fun W5 OV xx=>.inr ⟨rfl,.exit id,?_,.exit id,xx,.inr ⟨id,rfl,rfl⟩⟩⟩; exact hSl _ W4 W5 mT OV (BI (jf.congr ho) OV)
  ·refine ⟨⟨_,he⟩,?_⟩
   rcases hr with ⟨hj,Vm⟩ | ⟨x,hs,pd,Vm,hx⟩
   ·refine ⟨.ready,none,fn,e,nt,#[p1,p2],A,B,W.sz,Vm,(by intro h; cases h),fun W5 OV=>E3 W5 ?_⟩; exact xw _ W' W5 hj OV (BI Vm OV)
   ·refine ⟨.done,some pd,fn,e,nt,#[p1,p2],A,B,W.sz,Vm,(by intro h; cases h),fun W5 OV=>?_⟩; have hs5:=hSl _ W' W5 hs OV (BI Vm OV)
    rcases hx with ⟨rfl,rfl⟩ | ⟨id,rfl,rfl⟩
    ·exact t_ _ W5 hs5
    ·exact t_ _ W5 hs5
end Go.Ce
namespace Go.Ce
open Go Go.Proofs Go.Proofs.Tryz
theorem Yl:Tryz.f119.results.toList=[.cell 6 4]:=by kernel_rfl
theorem s4:DM prog 4=some 1:=by kernel_rfl
theorem a4:agg? prog 4=some false:=by kernel_rfl
theorem Im {P:Program} {fn:Func} {Q:Ending→CW→Prop} {x:Exit} {e:Env} {ds:List Deferred} {W:CW} {r:Nat} (ho:W.obj r=some .deferred) (h:AI P fn Q x e ds (W.A5 r .dead)):AI P fn Q x e (mark r::ds) W:=⟨ho,h⟩
def jg (r1 r2:Nat) (ty:ByteArray) (vx:Value) (W:CW):Ending→CW→Prop:=fun e W'=>Kp W W'∧Al W'∧∃ bk bx,e=.returned (.func (.func 108) #[] #[.pointer (some ⟨bk,0,none⟩),.pointer (some ⟨bx,0,none⟩)])∧W.sz≤bk∧W.sz≤bx∧As W' bk 78 [.map (some r1),.map (some r2)]∧As W' bx 56 [.string ty,vx]
theorem Mf {r1 r2:Nat} {ty:ByteArray} {vx:Value} {W:CW} (ht:Al W):AF prog AV 62 [H6 r1 r2,.agg #[.string ty,vx]] W (jg r1 r2 ty vx W):=by
 refine ABU ?_; rw [ABT]; unfold H6; refine Er NV ht fun W0 k0 t0 z0 XG=>?_; refine Er Ia t0 fun W1 k1 t1 z1 eU=>?_; simp only [AA]; rw [jZ]; exact ⟨k0.trans k1,t1,W.sz,W0.sz,rfl,Nat.le_refl _,k0.sz,XG.ext t0 k1,eU⟩
theorem fL (kind n:Int) (size:Nat):(!Gd kind n size)=((kind == 1 && !(decide (-1000000000≤n) && decide (n≤1000000000))) || (kind == 2 && !(decide ((0:Int)≤n) && decide (n≤(size:Int))))):=by
 unfold Gd; rw [Bool.not_not]
 congr 2
 ·by_cases h1:-1000000000≤n <;> by_cases h2:n≤1000000000 <;> simp [h1,h2] <;> omega
 ·by_cases h1:(0:Int)≤n <;> by_cases h2:n≤(size:Int) <;> simp [h1,h2] <;> omega
def RQ (c:List Ad) (i:Nat) (vs:List Int) (size k:Nat):Bool:=match vs[k]? with
 | some n=>!Gd (A6 c i k) n size
 | none=>false
theorem U7 {c:List Ad} {x:BM} {size i:Nat} {s:Ad} (hi:A_ c x.type=some i) (hs:c[i]?=some s):BF c x size=(Eh c i s x.AH.length && !Dq x.AH.length (RQ c i x.AH size)):=by
 unfold BF; rw [hi]; simp only [hs]; rfl
theorem sG {c:List Ad} {r1 r2:Nat} {x:BM} {vx:Value} {size:Nat} {W:CW} (ht:Al W) (EB:Dr W r1 r2 c) (Ac:BL c=true) (hC:OP c) (RR:Ax 1 (De W) vx x.AH) (hv:x.AH.length<100000) (Gp:size<1000000) :
  AF prog AV 119 [H6 r1 r2,.agg #[.string x.type,vx],.int .i64 size] W (rF (.bool (BF c x size)) W):=by
 refine xV ?_; rw [xU]; unfold H6; obtain ⟨ax,cx,rfl,_⟩:=id RR; refine Er NV ht fun W0 k0 t0 z0 Fg=>?_; have Fg:As W0 W.sz 78 [.map (some r1),.map (some r2)]:=Fg; refine Er Ia t0 fun W1 k1 t1 z1 Il=>?_; have Il:As W1 W0.sz 56 [.string x.type,.slice ax x.AH.length cx]:=Il; refine Er s3 t1 fun W2 k2 t2 z2 I3=>?_; have I3:As W2 W1.sz 3 [.int .i64 size]:=I3; refine Gx z4 s4 t2 fun W3 k3 t3 z3 Is=>?_; have Is:As W3 W2.sz 4 [.bool false]:=Is; have uB:=(k1.trans k2).trans k3; have kk:Kp W W3:=k0.trans uB; have Lo:=EB.kp ht kk; have Fg:=Fg.ext t0 uB; have Il:=Il.ext t1 (k2.trans k3); have I3:=I3.ext t2 k3; have sH:W.sz≤W2.sz:=by have:=k0.sz; have:=k1.sz; have:=k2.sz; omega
 have Dm:W2.sz≠W.sz∧W2.sz≠W0.sz∧W2.sz≠W1.sz:=by have:=k1.sz; omega
 generalize jh:W.sz=b3 at Fg sH Dm; generalize pz:W0.sz=b4 at Il Dm; generalize hb5:W1.sz=b5 at I3 Dm; generalize hb6:W2.sz=b6 at Is sH Dm; have q3:∀ W7,Kp W3 W7→ld prog 75 (.pointer (some ⟨b3,0,none⟩)) W7=some (.map (some r1)):=fun W7 k7=>AB nU (a:=⟨b3,0,none⟩) (k7.cell t3 (Fg.cell rfl)); have q3':∀ W7,Kp W3 W7→ld prog 76 (.pointer (some ⟨b3,0+1,none⟩)) W7=some (.map (some r2)):=fun W7 k7=>AB rY (a:=⟨b3,1,none⟩) (k7.cell t3 (Fg.cell rfl)); have q4:∀ W7,Kp W3 W7→ld prog 9 (.pointer (some ⟨b4,0,none⟩)) W7=some (.string x.type):=fun W7 k7=>AB a9 (a:=⟨b4,0,none⟩) (k7.cell t3 (Il.cell rfl)); have q4':∀ W7,Kp W3 W7→ld prog 40 (.pointer (some ⟨b4,0+1,none⟩)) W7=some (.slice ax x.AH.length cx):=fun W7 k7=>AB M7 (a:=⟨b4,1,none⟩) (k7.cell t3 (Il.cell rfl)); obtain ⟨ws,L,Zq,MA,N8⟩:=U6 Lo.sh x.type; simp only [Gj,F1,AA,q3 W3 (.refl _),q4 W3 (.refl _),L,Be,Bf]; refine CZ nH gi rfl MA Zq t3 fun W5 k5 t5 z5 sI=>?_; have gx:=Lo.kp t3 k5; generalize Jq:AI prog Tryz.f119 (rF (.bool (BF c x size)) W)=K
 have E3:∀ (W7:CW) (b:Bool) (e:Env),Bq (·=b6) W3 W7→Al W7→W7.cell b6 0=some (.bool b)→e 6=.pointer (some ⟨b6,0,none⟩)→b=BF c x size→K .ret e [] W7:=by
  intro W7 b e k t hb h6 hbe; rw [←Jq]; refine LZ Yl h6 (AB a4 (a:=⟨b6,0,none⟩) hb) ?_; exact ⟨by rw [hbe],Bq.kp kk k fun j hj=>by rw [hj]; omega,t⟩
 have leaf:∀ (b:Bool) (e:Env),e 44=.bool b→e 3=.pointer (some ⟨b3,0,none⟩)→e 4=.pointer (some ⟨b4,0,none⟩)→e 5=.pointer (some ⟨b5,0,none⟩)→e 6=.pointer (some ⟨b6,0,none⟩) →
   (b=true→BF c x size=false)→(b=false→∃ i s,A_ c x.type=some i∧c[i]?=some s∧Eh c i s x.AH.length=true)→(Ko none K) .normal e [] W5:=by
  intro b e h44 h3 h4 h5 h6 nu sA; have fN:=Is.ext t3 k5; simp only [Ko,B_,h44]
  refine AP (fun hb=>?_) (fun hb=>?_)
  ·rw [h6]; refine Af s4 (a:=⟨b6,0,none⟩) rfl fN (by simp) fun W6 hu hB=>?_; have hu:DO b6 W5 W6:=hu; have ABx:=fN.lt t5; simp only [Mc,Lm,Wt,PU]; exact E3 W6 false e ((Bq.Gc k5).then hu.EG fun _ _ h=>h) (t5.A5 ABx hu) (hB.cell rfl) h6 (nu hb).symm
  ·obtain ⟨i,s,hi,hs,hm⟩:=sA hb; have HD:BF c x size=!Dq x.AH.length (RQ c i x.AH size):=by rw [U7 hi hs,hm,Bool.true_and]
   have AEN:=Fg.ext t3 k5; have AEO:=Il.ext t3 k5; simp only [Mc,B_,h3,h4]; rw [BO (vs:=[.map (some r1),.map (some r2)]) lC NV rfl (by omega) AEN.cells,BO (vs:=[.string x.type,.slice ax x.AH.length cx]) YX Ia rfl (by omega) AEO.cells]; simp only [AA]; refine (Mf (r1:=r1) (r2:=r2) (ty:=x.type) t5).mono fun en W8 ⟨k8,t8,bk,bx,Ef,Y7,hbx,fP,fQ⟩=>?_; subst Ef; simp only [AT]; have bC:=gx.kp t5 k8; have xy:=k5.trans k8; have xz:=fN.ext t5 k8; have ABx:=xz.lt t8; have AEP:=fP.lt t8; have AEQ:=fQ.lt t8; have AGE:=Is.lt t3; have AGF:=k5.sz; have hv8:Ax 1 (De W8) (.slice ax x.AH.length cx) x.AH:=RR.imp fun _ _ _ hr=>hr.kp ht (kk.trans xy); have hKd:∀ W',Kp W8 W'→jd W' bk bx r1 r2 c x.type x.AH.length:=fun W' k=>⟨k.cell t8 (fP.cell rfl),k.cell t8 (fP.cell rfl),bC.kp t8 k,k.cell t8 (fQ.cell rfl),_,_,k.cell t8 (fQ.cell rfl)⟩
   refine TZ (bk:=bk) (bx:=bx) (r1:=r1) (r2:=r2) (n:=x.AH.length) (ix:=i) (c:=c) (ty:=x.type) (a1:=9) (a2:=10) t8 rfl hi hv (fun he=>by
     have:=Gf hs he hm; omega) (fun ro e0 ds K W=>by rw [rS]) (by decide)
    (fun j W'=>Kp W8 W'∧Al W'∧W'.obj W8.sz=some .deferred∧W8.sz+1<W'.sz∧∀ m,m<j→RQ c i x.AH size m=false)
    (fun y W'=>y=.ret∧Bq (·=b6) W8 W'∧Al W'∧W'.obj W8.sz=some .deferred∧W'.cell b6 0=some (.bool false)∧W8.sz+1<W'.sz∧BF c x size=false)
    (fun j W' h=>hKd W' h.1) (fun j W1 W2 ⟨h1,h2,h3,h4,h5⟩ hu hc=>?_) (fun y W1 W2 ⟨h1,h2,h3,h4,h5,h6,h7⟩ hu hc=>?_) (fun W2 k2 t2 z2 hd=>⟨k2,t2,hd,by omega,by omega⟩) (fun j W1 Kb E hE x3 x4 hj ⟨px,ht1,uA,Wd,Bj⟩ hlo hn hr hx=>?_) (fun W' ⟨h1,h2,h3,h4,h5⟩=>?_) (fun y W' ⟨y1,y2,y3,y4,y5,y6,y7⟩=>?_)
   ·exact ⟨h1.A5 (by omega) hu,h2.A5 h4 hu,by rw [hu.obj _ (by omega)]; exact h3,by rw [hu.sz]; exact h4,h5⟩
   ·exact ⟨h1,h2.then hu.EG fun i hi he=>by omega,h3.A5 h6 hu,by rw [hu.obj _ (by omega)]; exact h4,hc _ _ _ h5,by rw [hu.sz]; exact h6,h7⟩
   ·have fG:=List.getElem?_eq_getElem hj; obtain ⟨p,e2,hpc⟩:=id hv8; have Wf:Ax 1 (De W1) (.slice ax x.AH.length cx) x.AH:=hv8.imp fun _ _ _ hr=>hr.kp t8 px; obtain ⟨_,_,e3,hvc⟩:=Wf
    cases e3
    obtain ⟨q,rfl,hq⟩:=hvc j _ fG; have k31:=xy.trans px; have x5:=xz.ext t8 px; have l3:ld prog 3 (.pointer (some ⟨b5,0,none⟩)) W1=some (.int .i64 size):=AB a3 (a:=⟨b5,0,none⟩) (k31.cell t3 (I3.cell rfl)); have g4:E 4=.pointer (some ⟨b4,0,none⟩):=(hE 4 (by decide) (by decide) (by decide) (by decide)).trans h4; have g5:E 5=.pointer (some ⟨b5,0,none⟩):=(hE 5 (by decide) (by decide) (by decide) (by decide)).trans h5; have g6:E 6=.pointer (some ⟨b6,0,none⟩):=(hE 6 (by decide) (by decide) (by decide) (by decide)).trans h6; rw [rT,g4,g5,x3,x4]; simp only [D1,AA,q4' W1 k31]; rw [A8 H3 s3 hj]; simp only [AA]; rw [AB a3 (a:=⟨q.block,q.off+j*1,none⟩) hq.1]; simp only [AA,Bp]
    have ct:RQ c i x.AH size j=((A6 c i j == 1 && !(decide (-1000000000≤x.AH[j]) && decide (x.AH[j]≤1000000000))) || (A6 c i j == 2 && !(decide ((0:Int)≤x.AH[j]) && decide (x.AH[j]≤(size:Int))))):=by
     unfold RQ; rw [fG]; exact fL _ _ _
    have gy:∀ (b:Bool) (e2:Env),e2 71=.bool b→e2 6=.pointer (some ⟨b6,0,none⟩)→b=RQ c i x.AH size j→(Fq (some (W8.sz+1)) Kb) .normal e2 [] W1:=by
     intro b e2 h71 g6 hb; simp only [Fq,B_,h71]
     refine AP (fun V'=>?_) (fun V'=>?_)
     ·rw [g6]; refine Af s4 (a:=⟨b6,0,none⟩) (v:=.bool false) rfl x5 (by simp) fun W9 hu hB=>?_; have hu:DO b6 W1 W9:=hu; refine hr _ _ W9 (hu.obj _ (by omega)) ⟨rfl,(Bq.Gc px).then hu.EG fun _ _ h=>h,ht1.A5 (by omega) hu,by rw [hu.obj _ (by omega)]; exact uA,hB.cell rfl,by rw [hu.sz]; exact Wd,?_⟩; rw [HD,Dt hj (by rw [←hb,V'])]; rfl
     ·exact hn _ _ W1 rfl ⟨px,ht1,uA,Wd,KZ Bj (by rw [←hb,V'])⟩
    have second:∀ (e2:Env),e2 6=.pointer (some ⟨b6,0,none⟩)→True:=fun _ _=>trivial
    refine AP (fun hk=>?_) (fun hk=>?_)
    ·refine D0 (aF _ _ _ _) ?_; simp only [Ai,AA]; rw [hk,Bool.true_and] at ct
     refine AP (fun Mx=>?_) (fun Mx=>?_)
     ·exact gy true _ rfl (by exact g6) (by rw [ct,Mx]; rfl)
     ·have px:A6 c i j=1:=by simpa using hk
      rw [Mx,px,show ((1:Int) == 2)=false from rfl,Bool.false_and,Bool.or_self] at ct; simp only [px,Int.reduceBEq,Ar]; exact gy false _ rfl (by exact g6) ct.symm
    ·rw [hk,Bool.false_and,Bool.false_or] at ct
     refine AP (fun kf=>?_) (fun kf=>?_)
     ·simp only [l3,AA]; refine D0 (aF _ _ _ _) ?_; simp only [Ai,AA]; rw [kf,Bool.true_and] at ct; exact gy _ _ rfl (by exact g6) ct.symm
     ·exact gy false _ rfl (by exact g6) (by rw [ct,kf,Bool.false_and])
   ·simp only [B_,wx,PU]; simp only [Ao,BC,Nat.reduceEqDiff,↓reduceIte,h6]; have x5:=xz.ext t8 h1; refine Af s4 (a:=⟨b6,0,none⟩) (v:=.bool true) rfl x5 (by simp) fun W9 hu hB=>?_; have hu:DO b6 W' W9:=hu; rw [←Jq]; have hd9:W9.obj W8.sz=some .deferred:=by rw [hu.obj _ (by omega)]; exact h3
    refine Im hd9 ?_; have K1:DO W8.sz W9 (W9.A5 W8.sz .dead):=DO.of _ _ _; have t9:Al W9:=h2.A5 (by omega) hu; rw [Jq]; refine E3 _ true _ ((((Bq.Gc (xy.trans h1)).then hu.EG fun _ _ h=>h)).then K1.EG fun j hj he=>by omega) (t9.A5 (by rw [hu.sz]; omega) K1) (by rw [K1.cell (by omega)]; exact hB.cell rfl) h6 ?_; rw [HD,FA fun m hm=>h5 m hm]; rfl
   ·subst y1; simp only [Lm,Sz,PU]; rw [←Jq]; refine Im y4 ?_; have K1:DO W8.sz W' (W'.A5 W8.sz .dead):=DO.of _ _ _; rw [Jq]; exact E3 _ false _ (((Bq.Gc xy).then y2 fun _ _ h=>h).then K1.EG fun j hj he=>by omega) (y3.A5 (by omega) K1) (by rw [K1.cell (by omega)]; exact y5) h6 y7.symm
 simp only [Ai,AA]
 cases hi:A_ c x.type with
 | none =>
  simp only [Option.isSome_none,Bool.not_false,Bh]; exact leaf true _ rfl rfl rfl rfl rfl (fun _=>by unfold BF; rw [hi]) (fun h=>by cases h)
 | some i =>
  have G4:=D2 hi; have hs:=List.getElem?_eq_getElem G4; simp only [Option.isSome_some,Bool.not_true,Ar]; have e7:ld prog 5 (.pointer (some ⟨W3.sz,0+3,none⟩)) W5=some (.int .u8 (elemAt c i)):=AB a5 (a:=⟨W3.sz,0+3,none⟩) (sI.cell (N8 i hi)); obtain ⟨ar,cr,lr,qC⟩:=gx.rw.some hi; have ABy:elemAt c i=c[i].elem:=by unfold elemAt; rw [hs]
  have h60:=(TQ Ac G4).1; simp only [YZ,D1,H5,AA,e7,q4 W5 k5,q4' W5 k5,q3' W5 k5,lr,Ah H3,Ah RD,Bp,DI,CY]
  refine AP (fun he=>?_) (fun he=>?_)
  ·have he:elemAt c i=0:=by simpa using he
   have hm:Eh c i c[i] x.AH.length=decide (x.AH.length=(Ak c i).length):=by unfold Eh; rw [if_neg (by rw [←ABy]; simpa using he)]
   refine AP (fun hn=>?_) (fun hn=>?_)
   ·have hn:¬(x.AH.length:Int)=(Ak c i).length:=by simpa using hn
    exact leaf true _ rfl rfl rfl rfl rfl (fun _=>by rw [U7 hi hs,hm,decide_eq_false (by omega)]; rfl) (fun h=>by cases h)
   ·have hn:(x.AH.length:Int)=(Ak c i).length:=by simpa using hn
    refine leaf (decide ((x.AH.length:Int)>200)) _ rfl rfl rfl rfl rfl (fun h=>by have:=of_decide_eq_true h; omega) (fun _=>⟨i,c[i],hi,hs,by rw [hm]; exact decide_eq_true (by omega)⟩)
  ·have he:elemAt c i≠0:=by simpa using he
   have hm:Eh c i c[i] x.AH.length=decide (x.AH.length≤200):=by unfold Eh; rw [if_pos (by rw [←ABy]; exact he)]
   refine leaf (decide ((x.AH.length:Int)>200)) _ rfl rfl rfl rfl rfl (fun h=>?_) (fun h=>⟨i,c[i],hi,hs,?_⟩)
   ·have:=of_decide_eq_true h; rw [U7 hi hs,hm,decide_eq_false (by omega)]; rfl
   ·have:=of_decide_eq_false h; rw [hm]; exact decide_eq_true (by omega)
theorem s24:DM prog 24=some 1:=by kernel_rfl
theorem n9:agg? prog 24=some false:=by kernel_rfl
structure ABz (W:CW) (b2 b3 r1 r2:Nat) (c:List Ad) (h:List BM):Prop where
 k:Cells W b2 0 [.map (some r1),.map (some r2)]
 cat:Dr W r1 r2 c
 h:∃ a cap,W.cell b3 0=some (.slice a h.length cap)
theorem ji {c:List Ad} {r1 r2 b2 b3:Nat} {x:BM} {h:List BM} {vx:Value} {W:CW} (ht:Al W) (A:ABz W b2 b3 r1 r2 c h) (Ac:BL c=true) (hC:OP c) (RR:Ax 1 (De W) vx x.AH) (hv:x.AH.length<100000) (Gp:h.length<1000000) :
  AF prog AV 118 [.agg #[.string x.type,vx],.pointer (some ⟨b2,0,none⟩),.pointer (some ⟨b3,0,none⟩)] W (rF (.bool (!BF c x h.length)) W):=by
 refine xT ?_; rw [xS]; refine Er Ia ht fun W0 k0 t0 z0 hB=>?_; have hB:As W0 W.sz 56 [.string x.type,vx]:=hB; obtain ⟨a,cap,h3⟩:=A.h; have iw:Cells W0 b2 0 [.map (some r1),.map (some r2)]:=A.k.ext ht k0; rw [BO (vs:=[.map (some r1),.map (some r2)]) (a:=⟨b2,0,none⟩) lC NV rfl (by omega) iw,BO (vs:=[.string x.type,vx]) (a:=⟨W.sz,0,none⟩) YX Ia rfl (by omega) hB.cells,AB n9 (a:=⟨b3,0,none⟩) (k0.cell ht h3)]; simp only [AA,Ah Vg]; refine Uk (sG t0 (A.cat.kp ht k0) Ac hC (RR.imp fun _ _ _ hr=>hr.kp ht k0) hv Gp) fun W1 k1 t1=>?_; simp only [Ai,AA,e_]; exact ⟨rfl,k0.trans k1,t1⟩
theorem jj {c:List Ad} {r1 r2 b2 b3:Nat} {v0:Value} {h:List BM} {W:CW} (ht:Al W) (A:ABz W b2 b3 r1 r2 c h) (Ac:BL c=true) (hC:OP c) (hh:Ax 2 (IZ W) v0 h) (hv:∀ x,x ∈ h→x.AH.length<100000) (Gp:h.length<1000000) :
  AF prog AV 117 [v0,.func (.func 118) #[] #[.pointer (some ⟨b2,0,none⟩),.pointer (some ⟨b3,0,none⟩)]] W (rF (.int .i64 (Ib h fun x=>!BF c x h.length)) W):=by
 refine xR ?_; rw [xQ]; obtain ⟨a,cap,rfl,BI⟩:=hh; simp only [Ah Vg,AA]; refine D8 (fun i e ds W'=>Kp W W'∧Al W'∧ds=[]∧e 0=.slice a h.length cap∧e 1=.func (.func 118) #[] #[.pointer (some ⟨b2,0,none⟩),.pointer (some ⟨b3,0,none⟩)]∧e 7=.int .i64 h.length∧e 8=.int .i64 i∧∀ j x,j<i→h[j]?=some x→(!BF c x h.length)=false) h.length ⟨.refl _,ht,rfl,rfl,rfl,rfl,rfl,by omega⟩ ?_; rintro i e ds W' hi ⟨k',t',rfl,h0,h1,h7,h8,Bj⟩; rw [rR,h0,h1,h7,h8]; simp only [A7,AA]
 refine G6 (fun Au=>?_) (fun Of=>?_)
 ·have hx:=List.getElem?_eq_getElem Au; obtain ⟨p,rfl,hr⟩:=BI i _ hx; obtain ⟨u,hu,vx,rfl,RR⟩:=(hr.kp ht k').ld; rw [A8 Vg Ia Au]; simp only [AA,hu]; obtain ⟨ah,ch,h3⟩:=A.h; refine GY Tryz.func118 (by kernel_rfl) (Uk (ji t' ⟨A.k.ext ht k',A.cat.kp ht k',ah,ch,k'.cell ht h3⟩ Ac hC RR (hv _ (List.getElem_mem Au)) Gp) fun W1 k1 t1=>?_)
  refine AP (fun hq=>?_) (fun hq=>?_)
  ·simp only [PT,Lm,Sz,HB,Vb,Yg,Uy]; refine ⟨?_,k'.trans k1,t1⟩; simp only [Ao,↓reduceIte]; rw [KT Au hq Bj]
  ·simp only [PT,B_,HB]; simp only [Ao,BC,Nat.reduceEqDiff,↓reduceIte,h0,h1,h7,h8,Az,AA]; refine ⟨Au,k'.trans k1,t1,trivial,trivial,trivial,trivial,by rw [Du (by omega)],fun j x hj KW=>?_⟩
   rcases Nat.lt_succ_iff_lt_or_eq.1 hj with h2 | rfl
   ·exact Bj j x h2 KW
   ·rw [hx] at KW; cases KW; exact hq
 ·simp only [B_,Va,M6,PJ,if_true,Yg,Uy]; refine ⟨?_,k',t'⟩; simp only [Ao,↓reduceIte]; rw [KU fun j x hj hx=>Bj j x (by omega) hx]
theorem bD {c:List Ad} {r1 r2:Nat} {v1:Value} {h:List BM} {W:CW} (ht:Al W) (EB:Dr W r1 r2 c) (Ac:BL c=true) (hC:OP c) (hh:Ax 2 (IZ W) v1 h) (hv:∀ x,x ∈ h→x.AH.length<100000) (Gp:h.length<1000000) :
  AF prog AV 84 [H6 r1 r2,v1] W (rF (.int .i64 (ER c h)) W):=by
 refine ABW ?_; rw [ABV]; unfold H6; obtain ⟨a,cap,rfl,_⟩:=id hh; refine Er NV ht fun W0 k0 t0 z0 XG=>?_; refine Er s24 t0 fun W1 k1 t1 z1 eU=>?_; have kk:=k0.trans k1; rw [AB n9 (a:=⟨W0.sz,0,none⟩) (eU.cell rfl)]; simp only [AA,Ah Vg,CY]; unfold ER
 refine AP (fun hg=>?_) (fun hg=>?_)
 ·rw [XB,if_pos (by have:=of_decide_eq_true hg; omega)]; exact ⟨rfl,kk,t1⟩
 ·rw [if_neg (by have:=of_decide_eq_false hg; omega)]; refine Uk (jj t1 ⟨(XG.ext t0 k1).cells,EB.kp ht kk,_,_,eU.cell rfl⟩ Ac hC (hh.imp fun _ _ _ hr=>hr.kp ht kk) hv Gp) fun W2 k2 t2=>?_; rw [XB]; exact ⟨rfl,kk.trans k2,t2⟩
theorem bE:Tryz.f49.results.toList=[.cell 6 78,.tmp 7]:=by kernel_rfl
def C8 (c:List Ad) (h:List BM) (root:Int):Int:=if BL c then (if ER c h≥0 then 211 else if root<0∨root>h.length then 1 else 0) else 210
def U8 (c:List Ad) (h:List BM) (root:Int) (W:CW):Ending→CW→Prop:=fun e W'=>Kp W W'∧Al W'∧∃ r1 r2,e=.returned (.tuple #[H6 r1 r2,.int .i64 (C8 c h root)])∧(BL c=true→Dr W' r1 r2 c)
theorem Dr.AB0 {W W':CW} {r1 r2 b:Nat} {c:List Ad} {u v:Value} (h:Dr W r1 r2 c) (hu:DO b W W') (hB:As W b 78 [u,v]) (h1:∀ k n,u≠.int k n∧v≠.int k n) (h2:∀ s,u≠.string s∧v≠.string s):Dr W' r1 r2 c:=by
 have lX:∀ b' k k2 n,W.cell b' k=some (.int k2 n)→W'.cell b' k=some (.int k2 n):=fun b' k k2 n hc=>by
  rw [hu.cell]
  ·exact hc
  ·rintro rfl; have:=hB.Ik hc
   match k,this with
   | 0,this=>exact ((h1 k2 n).1 (Option.some.inj this)).elim
   | 1,this=>exact ((h1 k2 n).2 (Option.some.inj this)).elim
 have mB:∀ b' k s,W.cell b' k=some (.string s)→W'.cell b' k=some (.string s):=fun b' k s hc=>by
  rw [hu.cell]
  ·exact hc
  ·rintro rfl; have:=hB.Ik hc
   match k,this with
   | 0,this=>exact ((h2 s).1 (Option.some.inj this)).elim
   | 1,this=>exact ((h2 s).2 (Option.some.inj this)).elim
 constructor
 ·obtain ⟨m,m1,m2⟩:=h.sh; refine ⟨m,m1.congr (hu.obj _ (Ne.symm (Br hB m1))),fun s=>?_⟩; have:=m2 s
  cases hi:A_ c s with
  | none=>rw [hi] at this; exact this
  | some i =>
   rw [hi] at this; obtain ⟨w,x,h5,h6,vf,ab,lb,cb,h7,h8⟩:=this; exact ⟨w,x,h5,h6,vf,ab,lb,cb,h7,h8.imp fun _ _ _ hr=>⟨mB _ _ _ hr.name,lX _ _ _ _ hr.kind,hr.lo,hr.hi⟩⟩
 ·obtain ⟨m,m1,m2⟩:=h.rw; refine ⟨m,m1.congr (hu.obj _ (Ne.symm (Br hB m1))),fun s=>?_⟩; have:=m2 s
  cases hi:A_ (c.take c.length) s with
  | none=>rw [hi] at this; exact this
  | some i =>
   rw [hi] at this; obtain ⟨v,h5,h6⟩:=this; exact ⟨v,h5,h6.imp fun _ _ _ hr=>lX _ _ _ _ hr⟩
theorem RT {v0 v1:Value} {c:List Ad} {h:List BM} {root:Int} {W:CW} (ht:Al W) (hc:Ax 5 (Lu W) v0 c) (hC:OP c) (hh:Ax 2 (IZ W) v1 h) (hv:∀ x,x ∈ h→x.AH.length<100000) (Gp:h.length<1000000) :
  AF prog AV 49 [v0,v1,.int .i64 root] W (U8 c h root W):=by
 refine ABO ?_; rw [ABN]; obtain ⟨a,cap,rfl,_⟩:=id hh; refine Gx nZ NV ht fun W0 k0 t0 z0 Is=>?_; have Is:As W0 W.sz 78 [.map none,.map none]:=Is; refine (Md t0 (hc.imp fun _ _ _ hr=>hr.kp ht k0) hC).mono fun en W1 ⟨k1,t1,r1,r2,Ef,HZ,NW,EB⟩=>?_; subst Ef; simp only [AT,Be,Bf,AA]; unfold H6; refine CZ (ws:=[.map (some r1),.map (some r2)]) nZ NV rfl rfl rfl t1 fun W4 k4 t4 z4 PX=>?_; have AER:=Is.ext t0 (k1.trans k4); have jk:=(k0.trans k1).trans k4; generalize Jq:AI prog Tryz.f49 (U8 c h root W)=K
 have F_:∀ W5,Kp W4 W5→Al W5→(BL c=true→Dr W5 r1 r2 c)→∀ {K':Value→CW→Prop},(∀ v W6,(∀ e,e 6=.pointer (some ⟨W.sz,0,none⟩)→e 7=.int .i64 (C8 c h root)→K .ret e [] W6)→K' v W6) →
   wV (ld prog 78 (.pointer (some ⟨W1.sz,0,none⟩)) W5) fun v=>wV (CE prog 78 (.pointer (some ⟨W.sz,0,none⟩)) v W5) (K' v):=by
  intro W5 k5 t5 gx K' rk; rw [OU (PX.ext t4 k5)]; simp only [AA]; have fN:=AER.ext t4 k5; refine DF NV (a:=⟨W.sz,0,none⟩) rfl rfl fN (by simp) fun W6 hu hB=>rk _ W6 fun e h6 h7=>?_; have hu:DO W.sz W5 W6:=hu; have hB:As W6 W.sz 78 [.map (some r1),.map (some r2)]:=hB; rw [←Jq]; refine Ij bE h6 (OU hB) ?_; have hl:=fN.lt t5; refine ⟨(jk.trans k5).A5 (Nat.le_refl _) hu,t5.A5 hl hu,r1,r2,by rw [h7]; rfl,fun hc=>?_⟩; exact (gx hc).AB0 hu fN (fun k n=>⟨nofun,nofun⟩) (fun s=>⟨nofun,nofun⟩)
 simp only [Ai,AA]
 cases Ac:BL c with
 | false =>
  simp only [Bool.not_false,Bh]; refine F_ W4 (.refl _) t4 (fun h=>by rw [Ac] at h; cases h) fun v W6 hr=>?_; simp only [Jp,Lm]; exact hr _ rfl (by unfold C8; rw [Ac]; rfl)
 | true =>
  simp only [Bool.not_true,Ar]; have XL:=(EB Ac).kp t1 k4; rw [OU PX]; simp only [AA]; refine Uk (bD (v1:=.slice a h.length cap) t4 XL Ac hC (hh.imp fun _ _ _ hr=>hr.kp ht jk) hv Gp) fun W8 k8 t8=>?_; have bC:=XL.kp t4 k8; simp only [HM,AA]
  refine AP (fun hw=>?_) (fun hw=>?_)
  ·have hw:=of_decide_eq_true hw; refine F_ W8 k8 t8 (fun _=>bC) fun v W6 hr=>?_; simp only [Jp,Lm]; exact hr _ rfl (by unfold C8; rw [Ac,if_pos rfl,if_pos hw]; rfl)
  ·have hw:=of_decide_eq_false hw; simp only [Ah Vg,AA]; refine D0 (aF _ _ _ _) ?_; simp only [Ai,AA]
   refine AP (fun hb=>?_) (fun hb=>?_)
   ·refine F_ W8 k8 t8 (fun _=>bC) fun v W6 hr=>?_; simp only [Jp,Lm]; refine hr _ rfl ?_
    have:root<0∨root>h.length:=by
     by_cases h1:(0:Int)≤root
     ·right
      by_cases h2:root≤(h.length:Int)
      ·rw [decide_eq_true h1,decide_eq_true h2] at hb; cases hb
      ·omega
     ·left; omega
    unfold C8; rw [Ac,if_pos rfl,if_neg hw,if_pos this]; rfl
   ·have:¬(root<0∨root>h.length):=by
     rw [Bool.not_eq_false',Bool.and_eq_true,decide_eq_true_eq,decide_eq_true_eq] at hb; omega
    simp only [Jp,B_]; simp only [Ao,Nat.reduceEqDiff,↓reduceIte]; refine F_ W8 k8 t8 (fun _=>bC) fun v W6 hr=>?_; exact hr _ rfl (by unfold C8; rw [Ac,if_pos rfl,if_neg hw,if_neg this]; rfl)
end Go.Ce
