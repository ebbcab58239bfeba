/- A part of the proof: Pg, Ph, Pi, Pj, Pk, ShA, Hh, Pl, Pm, Pn, Po, Pp, Pq, Pr, ShB, Ps, Pt, Pu, Pv, Pw, Px, Py, Pz, ShC, Qa, Qb. -/
import Derived.Test.YtmknebebbbjdlaaGreatW02
import Derived.Test.YtmknebebbbjdlaaGreatProg
set_option linter.unusedSectionVars false
set_option linter.unusedVariables false
set_option linter.unusedSimpArgs false
set_option linter.defProp false
set_option maxRecDepth 200000
namespace Go.Ce
open Go Go.Proofs Go.Proofs.Tryz
theorem CD.kp {W W':CW} {el:TypeId} {n:Nat} {v:Value} {cs:List Value} (h:CD W el n v cs) (ht:Ag W) (k:Kp W W'):CD W' el n v cs:=by
 cases h with
 | nil=>exact CD.nil
 | some hB hl=>exact CD.some (hB.ext ht k) hl
theorem JL (c:List Al):∀ (f i:Nat) (l:List Nat),Bd c f i=some l→l.length≤f+1∧∀ j,j ∈ l→j<c.length
 | f,i,l,h=>by
  unfold Bd at h
  cases hx:c[i]? with
  | none=>rw [hx] at h; cases h
  | some x =>
   rw [hx] at h; have hi:i<c.length:=(List.getElem?_eq_some_iff.1 hx).1; simp only at h
   split at h
   ·cases h
    exact ⟨by simp,fun j hj=>by rw [List.mem_singleton.1 hj]; exact hi⟩
   ·cases f with
    | zero=>cases h
    | succ f =>
     simp only at h
     split at h
     ·rename_i j hj
      cases hl:Bd c f j with
      | none=>rw [hl] at h; cases h
      | some m =>
       rw [hl] at h
       cases h
       obtain ⟨h1,h2⟩:=JL c f j m hl
       exact ⟨by simp only [List.length_cons]; omega,fun j hj=>by
        rcases List.mem_cons.1 hj with rfl | hj
        ·exact hi
        ·exact h2 j hj⟩
     ·cases h
termination_by f=>f
def Is (c:List Al) (j:Nat):List RG:=match c[j]? with
 | some x=>x.fields
 | none=>[]
def C0 (c:List Al) (i:Nat):List RG:=match Bd c c.length i with
 | some l=>l.reverse.flatMap (Is c)
 | none=>[]
def Sw (f:RG):List Value:=[.string f.name,.int .u8 f.kind]
theorem Jw (f:RG):(Sw f).length=2:=rfl
theorem z72:Hz prog 72=some (.agg #[.string ⟨#[]⟩,.int .u8 0]):=by kernel_rfl
theorem AHC:(prog.info? 72).map (·.bytes)=some 24:=by kernel_rfl
theorem xk:HT prog 45=true:=by kernel_rfl
theorem Su.cells {W:CW} {b o:Nat} {x:RG} (h:Su W b o x):Cells W b o (Sw x):=by
 intro j v hj
 match j,hj with
 | 0,hj=>cases hj; exact h.name
 | 1,hj=>cases hj; exact h.kind
theorem tk {c:List Al} {m:Nat} (hf:∀ x,x ∈ c→x.fields.length≤m) (j:Nat):(Is c j).length≤m:=by
 unfold Is
 cases hx:c[j]? with
 | none=>simp
 | some x=>exact hf x (List.mem_of_getElem? hx)
theorem XK {c:List Al} {m:Nat} (hf:∀ x,x ∈ c→x.fields.length≤m):∀ l:List Nat,((l.flatMap (Is c)).flatMap Sw).length≤l.length*(2*m)
 | []=>by simp
 | j::l=>by
  rw [List.flatMap_cons,List.flatMap_append,List.length_append,List.length_cons,Nat.succ_mul]; have h1:=XK hf l
  have h2:((Is c j).flatMap Sw).length≤2*m:=by
   have h3:=tk hf j
   have:∀ fs:List RG,(fs.flatMap Sw).length=2*fs.length:=by
    intro fs
    induction fs with
    | nil=>rfl
    | cons f fs ih=>rw [List.flatMap_cons,List.length_append,ih,List.length_cons,Jw]; omega
   rw [this]; omega
  omega
theorem tp {l:List Nat} {k j:Nat} (h:l[k]?=some j):(ints l)[k]?=some (.int .i64 (j:Int)):=by
 unfold ints; rw [List.getElem?_map,h]; rfl
def jv (c:List Al) (i:Nat) (W:CW):Ending→CW→Prop:=fun e W'=>Kp W W'∧Ag W'∧∃ vo,e=.returned vo∧CD W' 72 2 vo ((C0 c i).flatMap Sw)∧BF W.sz vo
theorem ZT {v:Value} {c:List Al} {i0:Nat} {W:CW} (ht:Ag W) (hc:AV 5 (Dc W) v c) (hlen:c.length<200) (hf:∀ x,x ∈ c→x.fields.length≤100) (E0:i0<c.length):AX prog Br 98 [v,.int .i64 i0] W (jv c i0 W):=by
 refine AEk ?_; rw [AEj]; refine (nD ht hc (by omega) E0).mono fun en W0 ⟨k0,t0,Lb⟩=>?_
 obtain ⟨l,v13,ok,rfl,jw,hl,Fj,hfp⟩:∃ (l:List Nat) (v13:Value) (ok:Bool),en=.returned (.tuple #[v13,.bool ok])∧CD W0 3 1 v13 (ints l)∧l.length≤c.length+1∧(∀ j,j ∈ l→j<c.length)∧C0 c i0=l.reverse.flatMap (Is c):=by
  cases hl:Bd c c.length i0 with
  | none =>
   rw [hl] at Lb; exact ⟨[],_,_,Lb,CD.nil,by simp,by simp,by unfold C0; rw [hl]; rfl⟩
  | some l =>
   rw [hl] at Lb; obtain ⟨vo,h1,h2,_⟩:=Lb; obtain ⟨h3,h4⟩:=JL c _ _ _ hl; exact ⟨l,vo,true,h1,h2,h3,h4,by unfold C0; rw [hl]⟩
 have mP:AV 5 (Dc W0) v c:=hc.imp fun _ _ _ hr=>hr.kp ht k0; have e0:ext (.tuple #[v13,.bool ok]) 0=some v13:=rfl; have e1:ext (.tuple #[v13,.bool ok]) 1=some (.bool ok):=rfl; simp only [DQ,e0,e1,AA]; rw [GB FJ jw]; simp only [AA,Ak]; have UU:(ints l).length=l.length:=by simp [ints]
 rw [UU,wrap64 (by omega) (by omega)]; refine DK (fun k e ds W'=>ds=[]∧∃ vo:Value,e 0=v∧e 5=v13∧e 7=vo∧e 8=.int .i64 ((k:Int)-1)∧k≤l.length∧Kp W0 W'∧Ag W'∧BF W0.sz vo∧CD W' 72 2 vo (((l.drop k).reverse.flatMap (Is c)).flatMap Sw)) l.length ⟨rfl,.slice none 0 0,rfl,rfl,rfl,rfl,Nat.le_refl _,.refl _,t0,BF.nil _ _ _,by rw [List.drop_length]; exact CD.nil⟩ ?_; rintro k e ds W' ⟨rfl,vo,h0,h5,h7,h8,hk,Yg,xj,OL,zN⟩; rw [ABP,h0,h5,h7,h8]; simp only [CZ,AA]
 refine AD (fun h=>?_) (fun h=>?_)
 ·have h:(k:Int)-1≥0:=of_decide_eq_true h; obtain ⟨k,rfl⟩:∃ k',k=k'+1:=⟨k-1,by omega⟩
  have rn:((k+1:Nat):Int)-1=(k:Int):=by omega
  rw [rn]; have hlk:l[k]?=some l[k]:=List.getElem?_eq_getElem _; have hj:l[k]<c.length:=Fj _ (List.getElem_mem _); have fX:=jw.kp t0 Yg; have zO:AV 5 (Dc W') v c:=mP.imp fun _ _ _ hr=>hr.kp t0 Yg; obtain ⟨a,cap,rfl,Ah⟩:=zO; have RM:=List.getElem?_eq_getElem hj; obtain ⟨p,rfl,hp⟩:=Ah _ _ RM; generalize hints:ints l=il at fX
  cases fX with
  | nil=>rw [hints] at UU; simp at UU; omega
  | @some b len _ hB wH =>
   have AIz:len=l.length:=by rw [←hints,UU] at wH; omega
   rw [Ad FJ s3 (by omega:k<len)]
   have LP:W'.cell b (0+k*1)=some (.int .i64 (l[k]:Int)):=by
    rw [Nat.zero_add,Nat.mul_one]; exact hB.cell (by rw [←hints]; exact tp hlk)
   simp only [AA,AF a3 (a:=⟨b,0+k*1,none⟩) LP]; rw [Ad R_ Ui hj]; obtain ⟨vf,hvf,a2,xl,rfl,WI⟩:=hp.fields; simp only [AA,MO,AF a45 (a:=⟨p.block,p.off+l[k]*5+2,none⟩) hvf]; have hfj:Is c l[k]=c[l[k]].fields:=by unfold Is; rw [RM]
   have AAf:=XK hf (l.drop (k+1)).reverse; have hdl:(l.drop (k+1)).reverse.length≤201:=by simp; omega
   have AI6:c[l[k]].fields.length≤100:=hf _ (List.getElem_mem _)
   refine ABk (news:=c[l[k]].fields.flatMap Sw) Yd xk xg z72 rfl (by omega) AHC (by omega) xj zN (fun hm=>?_) ?_ ?_ ?_ fun v1 W1 H6 t1 o1 n1=>?_
   ·obtain ⟨q,rfl,_⟩:=WI 0 _ (List.getElem?_eq_getElem hm)
    exact ⟨q,rfl,XJ Jw _ _ fun i x hx=>by
     obtain ⟨q',dc,hr⟩:=WI i x hx
     cases dc
     exact hr.cells⟩
   ·rw [List.all_eq_true]; intro x hx; obtain ⟨f,_,hx⟩:=List.mem_flatMap.1 hx; simp only [Sw,List.mem_cons,List.not_mem_nil,or_false] at hx; rcases hx with rfl | rfl <;> rfl
   ·generalize c[l[k]].fields=fs
    induction fs with
    | nil=>rfl
    | cons f fs ih=>rw [List.flatMap_cons,List.length_append,ih,List.length_cons,Jw]; omega
   ·have:(l.drop (k+1)).reverse.length*(2*100)≤201*200:=Nat.mul_le_mul hdl (by omega); omega
   ·simp only [tY,Ay,AI,AQ,Nat.reduceEqDiff,↓reduceIte,h8,Ak,AA,St]
    refine ⟨k,by omega,trivial,v1,h0,h5,rfl,?_,by omega,H6.kp Yg OL,t1,n1 _ Yg.sz OL,?_⟩
    ·rw [rn,wrap64 (by omega) (by omega)]
    ·have:(l.drop k).reverse=(l.drop (k+1)).reverse++[l[k]]:=by
      rw [List.drop_eq_getElem_cons (by omega),List.reverse_cons]
     rw [this,List.flatMap_append,List.flatMap_append]; simp only [List.flatMap_cons,List.flatMap_nil,List.append_nil,hfj]; exact o1
 ·have h:¬(k:Int)-1≥0:=of_decide_eq_false h; have oD:k=0:=by omega
  subst oD; simp only [UF,Gc,tW,Ay,pI,AI,AQ,Nat.reduceEqDiff,↓reduceIte,h7]; refine ⟨k0.trans Yg,xj,vo,rfl,?_,fun b l c hh=>Nat.le_trans k0.sz (OL b l c hh)⟩; rw [hfp]; exact zN
end Go.Ce
namespace Go.Ce
open Go Go.Proofs Go.Proofs.Tryz
def Ap (c:List Al) (i:Nat):List Int:=(C0 c i).map (·.kind)
def Be (l:List Int):List Value:=l.map fun k=>Value.int .u8 k
theorem z5:Hz prog 5=some (.int .u8 0):=by kernel_rfl
theorem by5:(prog.info? 5).map (·.bytes)=some 1:=by kernel_rfl
theorem zP (n:Int) (W:CW):rB prog 29 1 [(0,.int .u8 n)] W=some (.slice (some ⟨W.sz,0,none⟩) 1 1,W.new (.cells (Tr.nil.Aa 0 [.int .u8 n]) [Value.int .u8 n].length #[] 5)):=by kernel_rfl
theorem O0 (fs:List RG):(fs.flatMap Sw).length=2*fs.length:=by
 induction fs with
 | nil=>rfl
 | cons f fs ih=>rw [List.flatMap_cons,List.length_append,ih,List.length_cons,Jw]; omega
theorem Ij {c:List Al} (hlen:c.length<200) (hf:∀ x,x ∈ c→x.fields.length≤100) (i:Nat):(C0 c i).length≤20100:=by
 unfold C0
 cases hl:Bd c c.length i with
 | none=>simp
 | some l =>
  have h1:=(JL c _ _ _ hl).1; have h2:=XK hf l.reverse; rw [O0] at h2; have:l.reverse.length*(2*100)≤200*200:=Nat.mul_le_mul (by simp; omega) (by omega); show (l.reverse.flatMap (Is c)).length≤20100; omega
def nE (c:List Al) (i:Nat) (W:CW):Ending→CW→Prop:=fun e W'=>Kp W W'∧Ag W'∧∃ vo,e=.returned vo∧CD W' 5 1 vo (Be (Ap c i))∧BF W.sz vo
theorem XL {v:Value} {c:List Al} {i0:Nat} {W:CW} (ht:Ag W) (hc:AV 5 (Dc W) v c) (hlen:c.length<200) (hf:∀ x,x ∈ c→x.fields.length≤100) (E0:i0<c.length):AX prog Br 88 [v,.int .i64 i0] W (nE c i0 W):=by
 refine AEm ?_; rw [AEl]; refine (ZT ht hc hlen hf E0).mono fun en W0 ⟨k0,t0,v10,he,jw,AI7⟩=>?_; subst he; have WI:=Ij hlen hf i0; unfold nE Ap; generalize C0 c i0=fs at jw WI ⊢; refine DK (fun k e ds W'=>ds=[]∧∃ (i:Nat) (vo:Value),e 5=v10∧e 6=vo∧e 7=.int .i64 i∧i≤fs.length∧k=fs.length-i∧Kp W0 W'∧Ag W'∧BF W0.sz vo∧CD W' 5 1 vo (Be ((fs.take i).map (·.kind)))) fs.length ⟨rfl,0,.slice none 0 0,rfl,rfl,rfl,Nat.zero_le _,rfl,.refl _,t0,BF.nil _ _ _,CD.nil⟩ ?_; rintro k e ds W' ⟨rfl,i,vo,h5,h6,h7,hi,rfl,Yg,xj,OL,ho⟩; have fX:=jw.kp t0 Yg
 obtain ⟨a,cap,ha,AHD⟩:∃ a cap,v10=.slice a fs.length cap∧∀ j f,fs[j]?=some f→∃ b,a=some ⟨b,0,none⟩∧W'.cell b (j*2+1)=some (.int .u8 f.kind):=by
  generalize dV:fs.flatMap Sw=cs at fX; have LP:=O0 fs
  cases fX with
  | nil =>
   rw [dV] at LP; have:fs.length=0:=by simp at LP; omega
   exact ⟨none,0,by rw [this],fun j f hj=>by have:=(List.getElem?_eq_some_iff.1 hj).1; omega⟩
  | @some b len _ hB wH =>
   have:len=fs.length:=by rw [←dV] at wH; omega
   refine ⟨_,len,by rw [this],fun j f hj=>⟨b,rfl,?_⟩⟩; have h1:=hB.cells; rw [←dV] at h1; have:=PL Jw fs 0 h1 j f hj 1 (.int .u8 f.kind) rfl
   rwa [Nat.zero_add] at this
 subst ha; rw [ABQ,h5,h6,h7,AU Yd]; simp only [AA,AS]
 refine AD (fun h=>?_) (fun h=>?_)
 ·have Ae:i<fs.length:=by simpa using h
  have hx:=List.getElem?_eq_getElem Ae; obtain ⟨b,rfl,Ah⟩:=AHD i _ hx; rw [Ad Yd xg Ae]; simp only [AA,VE]; rw [AF a5 (a:=⟨b,0+i*2+1,none⟩) (by rw [Nat.zero_add]; exact Ah)]; simp only [AA]; refine Sv Yc s5 z5 rfl (by omega) by5 (by omega) (zP _) rfl rfl xj ho (by simp [Be]; omega) fun u v1 W1 H6 t1 o1 n1=>?_; simp only [td,Ay,AI,AQ,Nat.reduceEqDiff,↓reduceIte,h7,AO,AA,St]
  refine ⟨fs.length-(i+1),by omega,trivial,i+1,v1,h5,rfl,?_,Ae,rfl,H6.kp Yg OL,t1,n1 _ Yg.sz,?_⟩
  ·rw [wrap64 (by omega) (by omega)]; rfl
  ·have:Be ((fs.take (i+1)).map (·.kind))=Be ((fs.take i).map (·.kind))++[.int .u8 fs[i].kind]:=by
    rw [List.take_add_one,hx]; simp only [Be,Option.toList_some,List.map_append,List.map_cons,List.map_nil]
   rw [this]; exact o1
 ·have HQ:i=fs.length:=by have:¬i<fs.length:=(by simpa using h); omega
  subst HQ; simp only [UF,Gc,tZ,Ay,pJ,AI,AQ,Nat.reduceEqDiff,↓reduceIte,h6]; refine ⟨k0.trans Yg,xj,vo,rfl,?_,fun b l c hh=>Nat.le_trans k0.sz (OL b l c hh)⟩; rw [List.take_length] at ho; exact ho
end Go.Ce
namespace Go.Ce
open Go Go.Proofs Go.Proofs.Tryz
def A4 (c:List Al) (i k:Nat):Int:=match c[i]? with
 | some x=>if x.elem≠0 then x.elem else ((Ap c i)[k]?).getD 0
 | none=>0
theorem b7 {v:Value} {c:List Al} {i k:Nat} {W:CW} (ht:Ag W) (hc:AV 5 (Dc W) v c) (hlen:c.length<200) (hf:∀ x,x ∈ c→x.fields.length≤100) (hi:i<c.length) (hk:c[i].elem=0→k<(Ap c i).length):AX prog Br 70 [v,.int .i64 i,.int .i64 k] W (YC (.int .u8 (A4 c i k)) W):=by
 refine AEp ?_; rw [AEo]; have wC:=hc; obtain ⟨a,cap,rfl,Ah⟩:=wC; have hx:=List.getElem?_eq_getElem hi; obtain ⟨p,rfl,hp⟩:=Ah i _ hx; rw [Ad R_ Ui hi]; simp only [AA,Ks,AF a5 (a:=⟨p.block,p.off+i*5+3,none⟩) hp.elem,Au]
 refine AD (fun h=>?_) (fun h=>?_)
 ·have h:c[i].elem≠0:=by simpa using h
  simp only [ZM,AI,↓reduceIte]; refine ⟨?_,.refl _,ht⟩; unfold A4; rw [hx]; simp only [if_pos h]
 ·have h:c[i].elem=0:=by simpa using h
  refine (XL ht hc hlen hf hi).mono fun en W0 ⟨k0,t0,vo,he,ho,hn⟩=>?_; subst he; have hk:=hk h; have hrk:=List.getElem?_eq_getElem hk; simp only [DQ]; generalize hl:Be (Ap c i)=l at ho; have UU:l.length=(Ap c i).length:=by rw [←hl]; simp [Be]
  cases ho with
  | nil=>simp at UU; omega
  | @some b len _ hB wH =>
   rw [Ad Yc s5 (by omega:k<len)]
   have:W0.cell b (0+k*1)=some (.int .u8 ((Ap c i)[k])):=by
    rw [Nat.zero_add,Nat.mul_one]; exact hB.cell (by rw [←hl]; unfold Be; rw [List.getElem?_map,hrk]; rfl)
   simp only [AA,AF a5 (a:=⟨b,0+k*1,none⟩) this,ZM,AI,↓reduceIte]; refine ⟨?_,k0,t0⟩; unfold A4; rw [hx]; simp only [h,ne_eq,not_true_eq_false,if_false,hrk,Option.getD_some]
end Go.Ce
namespace Go.Ce
open Go Go.Proofs Go.Proofs.Tryz
def RN (n:Nat):List Int:=if n<128 then [(n:Int)] else ((n % 128+128:Nat):Int)::RN (n / 128)
termination_by n
decreasing_by omega
theorem xm:HT prog 29=true:=by kernel_rfl
theorem AEu {x:Int} (h1:0≤x) (h2:x<256):IntKind.u8.wrap x=x:=by
 unfold IntKind.wrap; simp [IntKind.bits,IntKind.signed]; omega
end Go.Ce
namespace Go.Ce
open Go Go.Proofs Go.Proofs.Tryz
def ABl (s:ByteArray):List Int:=(sb s).map fun b=>(b.toNat:Int)
def zQ (s:ByteArray):List Int:=RN s.size++ABl s
end Go.Ce
namespace Go.Ce
open Go Go.Proofs Go.Proofs.Tryz
def XM (ro:Option Nat) (K:AB):AB:=AW (fun e ds W=>K .ret (Env.of e [(2,(.int .i64 0))]) ds W) K
def jx (ro:Option Nat) (K:AB):AB:=AW (fun a b c=>Gl ro 41 129 1 a (F_ 5 A5) b c 2 (XM ro K)) K
def fY:=by
 have h:=@jx.eq_1; dsimp at h; exact h
def AEv (v0:Value) (K:AB) (W:CW):=by
 have h:GO 41 129 v0 W K=DD 22 v0 W fun a=>DF a 100 fun b=>let a:=BO 13 b 12 a 11 v0 2 A5; LV b K (Dg v0) (NU 2 210 a) W (GS 41 129 (Dg v0) (eC 3 A5 a) W (jx none K)):=by kernel_rfl
 dsimp at h; exact h
def b_ (ro:Option Nat) (K:AB):AB:=AW (fun a b c=>Bc a 3 fun d=>CQ K a 3 d 19 18 b c) K
def fZ:=by
 have h:=@b_.eq_1; dsimp at h; exact h
def Hp (ro:Option Nat) (K:AB):AB:=AW (fun e ds W=>wI (e 70) ((b_ ro K) .ret (Env.of e [(2,(.int .i64 210))]) ds W) ((b_ ro K) .normal e ds W)) (CL 1 (b_ ro K))
def ABm (ro:Option Nat) (e:Env) (ds:List Deferred) (K:AB) (W:CW):=by
 have h:C9 ro 41 129 e ds W K=HK 22 e W fun a=>FU e 3 a fun b=>let a:=DG 17 b 16 a 15 e 0 14 3; Di b (Fy 22 e 0 3 fun b=>BI 48 b W fun c=>CI 48 W fun d f=>Dw 48 d c f fun f=>CO d 0 fun g=>BA g f fun h=>DR 95 h f (fun i j=>D1 i fun k=>let a:=Db 28 k 27 (Bh 26 i 25 h 24 g 4 d (BQ 23 c 22 b 21 e 3 20 a)); GP k ((KR 9 g f h)∧True) (Hp ro K) e 70 (A_ 69 65 68 67 66 (SX 65 true 64 63 undef 43 (Db 62 undef 61 (LU 60 59 58 57 (I_ 56 55 54 53 52 51 50 49 (Jl 48 undef 47 undef 43 true 46 undef (Wl 43 45 44 (Gk 43 Bs 43 (KT 42 41 28 40 (I_ 39 38 37 36 35 34 33 32 (EK 31 28 30 29 a))))))))))) ds j (NN .gtr 3 e 3 0 fun b=>let a:=Ds 31 b 28 30 b 29 (Ef e) a; wI b (FC e 3 fun b=>Iy 22 e 0 b fun c=>CO c 0 fun i=>BA i j fun k=>CO d 0 fun l=>BA l j fun m=>UZ .geq 9 k m fun n=>let a:=Db 43 n 42 (bN 41 n 28 false 40 n 31 true (Bo 39 m 31 38 l (Bo 37 k 31 36 i (Bo 35 c 31 34 b (GA 33 e 3 31 32 a))))); UD n ((FT 9 l j m)∧UC (FT 9 i j k) 9 g f h) (Hp ro K) e (KT 70 69 65 68 (Wl 65 67 66 (Gk 65 Bs 65 (Wi 64 true 63 undef (Ix 43 Bs 62 61 60 (LU 59 58 57 56 (I_ 55 54 53 52 51 50 49 48 (A_ 47 43 46 45 44 a)))))))) ds j (CO d 3 fun b=>Eg b j fun c=>Ov 5 c 0 fun n=>let a:=jK 47 n 43 false 46 (BJ 45 c 43 44 b a); wI n (CO d 3 fun n=>Eg n j fun o=>DR 96 o j (fun p q=>D1 p fun r=>let a:=Hi 52 r 47 51 r 47 50 p (Bo 49 o 47 48 n a); GP r ((E_ 5 n j o)∧Es (E_ 5 b j c) (E_ 9 l j m) (Oq (E_ 9 i j k) 9 g f h)) (Hp ro K) e 70 (A_ 69 65 68 67 66 (bN 65 Bs 64 true 63 Bs 43 false (Gq 62 true 47 61 undef 57 60 57 59 (WZ 58 undef 57 true 57 Bs 47 (Gq 56 true 47 55 undef 52 54 52 53 a))))) ds q (CO d 1 fun p=>BA p q fun r=>UY .neq 9 true r (.string ⟨#[]⟩) fun s=>let a:=Gk 57 s 47 (bN 56 s 47 true 55 s 52 false (BJ 54 r 52 53 p a)); GP s (Es (FT 9 p q r) (E_ 5 n j o) (Es (E_ 5 b j c) (E_ 9 l j m) (Oq (E_ 9 i j k) 9 g f h))) (Hp ro K) e 70 (EK 69 65 68 67 (WZ 66 undef 65 true 65 Bs 64 (bN 63 Bs 43 false 62 Bs 47 true (A_ 61 57 60 59 58 a)))) ds q (CO d 2 fun s=>BI 45 s q fun t=>DD 45 t q fun u=>DF u 0 fun v=>let a:=Db 65 v 64 (bN 63 v 43 false 62 v 47 true (BJ 61 v 57 60 u (BJ 59 t 57 58 s a))); GP v (NX (Iz 45 t q u True) 45 s q t (Es (FT 9 p q r) (E_ 5 n j o) (Es (E_ 5 b j c) (E_ 9 l j m) (Oq (E_ 9 i j k) 9 g f h)))) (Hp ro K) e 70 (A_ 69 65 68 67 66 a) ds q (CO d 2 fun d=>BI 45 d q fun v=>DD 45 v q fun w=>DF w 20 fun y=>Fw (NX (Iz 45 v q w True) 45 d q v (NX (Iz 45 t q u True) 45 s q t (Es (FT 9 p q r) (E_ 5 n j o) (Es (E_ 5 b j c) (E_ 9 l j m) (Oq (E_ 9 i j k) 9 g f h))))) (Hp ro K) e 70 y (BJ 69 y 65 68 w (BJ 67 v 65 66 d a)) ds q)))) fun _ _=>False) (CO d 2 fun d=>BI 45 d j fun n=>DD 45 n j fun o=>DF o 20 fun p=>SV (NX (Iz 45 n j o True) 45 d j n (NX (FT 5 b j c) 9 l j m (UC (FT 9 i j k) 9 g f h))) (Hp ro K) e (Jl 70 p 69 p 65 false 68 o (tD 65 false 67 n 65 false 66 d (SX 65 false 65 64 DX 63 (LY 43 62 undef (Ix 47 DX 61 60 59 (Jl 58 undef 57 undef 47 false 56 undef (Ix 47 DX 55 54 53 (Hy 52 undef 47 (CC 51 47 50 49 48 a))))))))) ds j))) (CO d 3 fun b=>Eg b j fun c=>Ov 5 c 0 fun i=>let a:=Ds 47 i 43 46 i 45 c (WZ 44 b 43 false 43 DX 42 (BG 41 28 40 31 39 38 (Ia 37 31 36 (CC 35 31 34 33 32 a)))); wI i (CO d 3 fun i=>Eg i j fun k=>DR 96 k j (fun l m=>D1 l fun n=>let a:=Hi 52 n 47 51 n 47 50 l (Bo 49 k 47 48 i a); GP n ((E_ 5 i j k)∧Oq (E_ 5 b j c) 9 g f h) (Hp ro K) e 70 (A_ 69 65 68 67 66 (bN 65 Bs 64 true 63 Bs 43 false (Gq 62 true 47 61 undef 57 60 57 59 (WZ 58 undef 57 true 57 Bs 47 (Gq 56 true 47 55 undef 52 54 52 53 a))))) ds m (CO d 1 fun l=>BA l m fun n=>UY .neq 9 true n (.string ⟨#[]⟩) fun o=>let a:=Gk 57 o 47 (bN 56 o 47 true 55 o 52 false (BJ 54 n 52 53 l a)); GP o (Es (FT 9 l m n) (E_ 5 i j k) (Oq (E_ 5 b j c) 9 g f h)) (Hp ro K) e 70 (EK 69 65 68 67 (WZ 66 undef 65 true 65 Bs 64 (bN 63 Bs 43 false 62 Bs 47 true (A_ 61 57 60 59 58 a)))) ds m (CO d 2 fun o=>BI 45 o m fun p=>DD 45 p m fun q=>DF q 0 fun r=>let a:=Db 65 r 64 (bN 63 r 43 false 62 r 47 true (BJ 61 r 57 60 q (BJ 59 p 57 58 o a))); GP r (NX (Iz 45 p m q True) 45 o m p (Es (FT 9 l m n) (E_ 5 i j k) (Oq (E_ 5 b j c) 9 g f h))) (Hp ro K) e 70 (A_ 69 65 68 67 66 a) ds m (CO d 2 fun d=>BI 45 d m fun r=>DD 45 r m fun s=>DF s 20 fun t=>Fw (NX (Iz 45 r m s True) 45 d m r (NX (Iz 45 p m q True) 45 o m p (Es (FT 9 l m n) (E_ 5 i j k) (Oq (E_ 5 b j c) 9 g f h)))) (Hp ro K) e 70 t (BJ 69 t 65 68 s (BJ 67 r 65 66 d a)) ds m)))) fun _ _=>False) (CO d 2 fun d=>BI 45 d j fun i=>DD 45 i j fun k=>DF k 20 fun l=>SV (NX (Iz 45 i j k True) 45 d j i (UC (FT 5 b j c) 9 g f h)) (Hp ro K) e (Jl 70 l 69 l 65 false 68 k (tD 65 false 67 i 65 false 66 d (SX 65 false 65 64 DX 63 (LY 43 62 undef (Ix 47 DX 61 60 59 (Jl 58 undef 57 undef 47 false 56 undef (Ix 47 DX 55 54 53 (Hy 52 undef 47 (CC 51 47 50 49 48 a))))))))) ds j)))) fun _ _=>False) K e a ds W:=by kernel_rfl
 dsimp at h; exact h
def N6 (ro:Option Nat) (K:AB):AB:=AW (fun a b c=>Bc a 5 fun d=>CQ K a 5 d 76 75 b c) K
def N7:=by
 have h:=@N6.eq_1; dsimp at h; exact h
def ABn (ro:Option Nat) (e:Env) (ds:List Deferred) (K:AB) (W:CW):=by
 have h:Fu ro 41 129 1 e ds W K=HK 22 e W fun a=>FU e 5 a fun b=>let a:=DG 74 b 73 a 72 e 0 71 5; ON b (KZ 97 e (DS e) W (fun b c=>CX b fun d=>CY b fun f=>D1 f fun g=>let a:=EC 84 g 83 f (Bh 7 f 6 d 82 f 81 d (BQ 77 b 80 b 79 e 5 78 a)); Wh g (N6 ro K) e (NU 2 210 a) ds c (KZ 98 e (DS e) c (fun b c=>DD 45 b c fun d=>DF d 60 fun f=>let a:=DO 90 f 89 d 88 b (BQ 8 b 87 b 86 e 5 85 a); Wh f (N6 ro K) e (NU 2 210 a) ds c (Gl ro 41 129 2 e (eC 9 A5 a) ds c 4 (CL 3 (N6 ro K)))) fun b c=>CM (N6 ro K) b e (EC 86 (DS e) 85 (BS e) a) ds c)) fun b c=>CM (N6 ro K) b e (EC 79 (DS e) 78 (BS e) a) ds c) K 2 e a ds W:=by kernel_rfl
 dsimp at h; exact h
def cA (ro:Option Nat) (K:AB):AB:=AW (fun a b c=>Bc a 9 fun d=>CQ K a 9 d 96 95 b c) K
def Sx:=by
 have h:=@cA.eq_1; dsimp at h; exact h
def VH (ro:Option Nat) (K:AB):AB:=Wk (fun a b c=>Gl ro 41 129 3 a (F_ 10 A5) b c 6 (CL 5 (cA ro K))) 5 (cA ro K)
def ZU:=by
 have h:=@VH.eq_1; dsimp at h; exact h
def N8 (ro:Option Nat) (K:AB):AB:=AW (fun e ds W=>wI (e 112) ((VH ro K) .ret (Env.of e [(2,(.int .i64 210))]) ds W) ((VH ro K) .normal e ds W)) (VH ro K)
def ABo (ro:Option Nat) (e:Env) (ds:List Deferred) (K:AB) (W:CW):=by
 have h:Fu ro 41 129 2 e ds W K=DD 45 (DH e) W fun a=>FU e 9 a fun b=>let a:=DG 94 b 93 a 92 e 8 91 9; ON b (Fy 45 e 8 9 fun b=>JH 72 b 0 fun c=>BA c W fun d=>let a:=eC 101 d (Dl 100 c 99 b 98 e 9 97 (DH e) a); DR 95 d W (fun b c=>D1 b fun d=>let a:=D9 104 d 103 102 b a; EW d (N8 ro K) e 112 (EK 111 104 110 109 (A_ 108 104 107 106 105 a)) ds c (Fy 45 e 8 9 fun b=>JH 72 b 1 fun d=>Eg d c fun f=>let a:=EU 104 (Ds 109 f 104 108 d 107 b (BJ 106 (Ee e) 104 105 (DH e) a)); DR 96 f c (fun b c=>D1 b fun d=>UA (N8 ro K) e (Jl 112 d 111 d 104 false 110 b a) ds c) fun b c=>CM (N8 ro K) b e a ds c)) fun b c=>CM (N8 ro K) b e a ds c) K 4 e a ds W:=by kernel_rfl
 dsimp at h; exact h
def cB (ro:Option Nat) (K:AB):AB:=AW (fun a b c=>Bc a 10 fun d=>CQ K a 10 d 117 116 b c) K
def ZV:=by
 have h:=@cB.eq_1; dsimp at h; exact h
def ABp (ro:Option Nat) (e:Env) (ds:List Deferred) (K:AB) (W:CW):=by
 have h:Fu ro 41 129 3 e ds W K=HM 3 e 10 9 fun a=>let b:=Oo 115 a 114 (Ee e) 113 e 10; ON a (Fy 45 e 8 10 fun a=>JH 72 a 0 fun c=>BA c W fun d=>Fy 45 e 8 9 fun f=>JH 72 f 0 fun g=>BA g W fun h=>Jn 9 d h fun i=>let a:=DO 128 i 127 h 126 g (Dl 125 f 124 (Ee e) 123 e 8 122 d (Dl 121 c 120 a 119 e 10 118 (DH e) b)); GZ (HN 9 g W h 9 c W d) (CB i (G_ (cB ro K) e (NU 2 210 a) ds W) (cB ro K) e a ds W)) K 6 e b ds W:=by kernel_rfl
 dsimp at h; exact h
theorem ZW (Q:Ending→CW→Prop) (e:Env) (W:CW):AJ prog Tryz.f41 Q .ret e [] W=Q (.returned (e 2)) W:=by kernel_rfl
def AEw {Q v0 W}:=Eo 41 129 [v0] Tryz.f41 Q W Tryz.func41 (by kernel_rfl)
def XN (ro:Option Nat) (K:AB):AB:=AW (fun e ds W=>K .ret (Env.of e [(4,(e 5)),(16,(e 5))]) ds W) K
def XO (ro:Option Nat) (K:AB):AB:=AW (fun e ds W=>wI (e 15) ((XN ro K) .normal (Env.of e [(5,(.int .i64 212))]) ds W) ((XN ro K) .normal e ds W)) (XN ro K)
def AEx (v0 v1:Value) (K:AB) (W:CW):=by
 have h:Dp 43 17 v0 v1 W K=DR 41 v0 W (fun a b=>tB .eql 30 a 0 fun c=>let a:=D9 10 c 9 8 a (BO 5 a 7 a 6 v0 4 A5); let d:=Qy 10 (Bo 12 v1 10 11 v0 a); CB c (DZ 99 v0 v1 b (fun a b=>D1 a fun c=>UA (XO none K) (QY v0 v1) (Jl 15 c 14 c 10 true 13 a d) [] b) fun a b=>Fv (XO none K) a v0 v1 d b) (XO none K) (QY v0 v1) (EU 15 (CC 14 10 13 12 11 a)) [] b) fun a b=>Fv K a v0 v1 (EC 6 v0 4 A5 []) b:=by kernel_rfl
 dsimp at h; exact h
theorem ZX (Q:Ending→CW→Prop) (e:Env) (W:CW):AJ prog Tryz.f43 Q .ret e [] W=Q (.returned (e 4)) W:=by kernel_rfl
def AEy {Q v0 v1 W}:=Eo 43 17 [v0,v1] Tryz.f43 Q W Tryz.func43 (by kernel_rfl)
def cC (ro:Option Nat) (K:AB):AB:=AW (fun e ds W=>K .ret (Env.of e [(8,(.int .i64 0))]) ds W) K
def jy (ro:Option Nat) (K:AB):AB:=AW (fun e ds W=>wI (e 27) ((cC ro K) .ret (Env.of e [(8,(.int .i64 1))]) ds W) ((cC ro K) .normal e ds W)) (cC ro K)
def AEz (v0 v1 v2 v3:Value) (K:AB) (W:CW):=by
 have h:PH 63 28 (Gm v0 v1 v2 v3) W K=(let a:=Gt 11 v1 10 v0 8 A5; DZ 43 v0 v1 W (fun b c=>NV 30 b 0 fun d=>let a:=NO 14 d 13 b 9 12 a; LV d K (Gm v0 v1 v2 v3) (Db 8 b 15 a) c (DZ 94 v0 v2 c (fun b c=>Mi b 0 fun d=>let a:=Bh 19 d 18 b 17 v2 16 v0 a; LV d K (Gm v0 v1 v2 v3) (NU 8 211 a) c (NT v3 0 fun b=>let a:=D9 22 b 21 20 v3 a; EW b (jy none K) (Gm v0 v1 v2 v3) 27 (A_ 26 22 25 24 23 a) [] c (DD 24 v2 c fun b=>FB .gtr v3 b fun d=>Dh (jy none K) (Gm v0 v1 v2 v3) 27 d (BJ 26 d 22 25 b (BJ 24 v2 22 23 v3 a)) [] c))) fun b c=>Ib K b (Gm v0 v1 v2 v3) (EC 17 v2 16 v0 a) c)) fun b c=>Ib K b (Gm v0 v1 v2 v3) a c):=by kernel_rfl
 dsimp at h; exact h
theorem Lg (Q:Ending→CW→Prop) (e:Env) (W:CW):AJ prog Tryz.f63 Q .ret e [] W=Q (.returned (e 8)) W:=by kernel_rfl
def AE0 {Q v0 v1 v2 v3 W}:=Eo 63 28 [v0,v1,v2,v3] Tryz.f63 Q W Tryz.func63 (by kernel_rfl)
def jz (ro:Option Nat) (K:AB):AB:=AW (fun e ds W=>K .ret (Env.of e [(4,(.int .i64 (-1)))]) ds W) K
def AE1 (v0 v1:Value) (K:AB) (W:CW):=by
 have h:Dp 94 25 v0 v1 W K=DD 24 v1 W fun a=>DF a 1000 fun b=>let a:=BO 8 b 7 a 6 v1 4 A5; Jq b K v0 v1 (NU 4 1000 a) W (Jp 94 25 v0 v1 (eC 5 A5 a) W (jz none K)):=by kernel_rfl
 dsimp at h; exact h
def cD (ro:Option Nat) (K:AB):AB:=AW (fun a b c=>Bc a 5 fun d=>CQ K a 5 d 14 13 b c) K
def fa:=by
 have h:=@cD.eq_1; dsimp at h; exact h
def ABq (ro:Option Nat) (e:Env) (ds:List Deferred) (K:AB) (W:CW):=by
 have h:C9 ro 94 25 e ds W K=DD 24 (BE e) W fun a=>FU e 5 a fun b=>let a:=DG 12 b 11 a 10 e 1 9 5; Di b (Fy 24 e 1 5 fun b=>BI 56 b W fun c=>DD 24 (BE e) W fun d=>let a:=DO 21 d 20 (BE e) 19 c (BQ 18 b 17 (DS e) 16 e 1 15 a); Ig 122 e c d W (fun b c=>D1 b fun d=>CB d (G_ (cD ro K) e (Bh 4 (DS e) 24 (DS e) 23 d 22 b a) ds c) (cD ro K) e (EC 23 d 22 b a) ds c) fun b c=>CM (cD ro K) b e a ds c) K e a ds W:=by kernel_rfl
 dsimp at h; exact h
theorem Sy (Q:Ending→CW→Prop) (e:Env) (W:CW):AJ prog Tryz.f94 Q .ret e [] W=Q (.returned (e 4)) W:=by kernel_rfl
def AE2 {Q v0 v1 W}:=Eo 94 25 [v0,v1] Tryz.f94 Q W Tryz.func94 (by kernel_rfl)
def PM (ro:Option Nat) (K:AB):AB:=AW (fun e ds W=>K .ret (Env.of e [(4,(.bool true))]) ds W) K
def AE3 (v0 v1:Value) (K:AB) (W:CW):=by
 have h:Dp 99 175 v0 v1 W K=DD 23 v1 W fun a=>DF a 20 fun b=>let a:=EC 16 b 15 a (Gr 14 v1 4); Jq b K v0 v1 (EU 4 a) W (Jp 99 175 v0 v1 (eC 5 A5 a) W (PM none K)):=by kernel_rfl
 dsimp at h; exact h
def MS (ro:Option Nat) (K:AB):AB:=AW (fun a b c=>Bc a 5 fun d=>CQ K a 5 d 22 21 b c) K
def Nc:=by
 have h:=@MS.eq_1; dsimp at h; exact h
def nF (ro:Option Nat) (K:AB):AB:=GR (fun a b c=>KZ 88 a (EY a) c (fun c d=>let c:=EC 116 (D3 a) 115 (BS a) (BQ 9 c 114 c 113 a 6 112 []); KZ 88 a (D3 a) d (fun d f=>Hk a 1 5 fun g=>Et g 2 fun h=>Bb h f fun i=>CP i f fun j=>DD 29 d f fun k=>HZ 3 j k fun l=>let c:=DO 126 l 125 k 124 d (Bh 123 j 122 i 121 h 120 g (Da 119 (DS a) 118 (BE a) 10 d 117 c)); Wh l (MS ro K) a (EU 4 c) b f (Gl ro 99 175 2 a (eC 11 A5 c) b f 4 (CL 1 (MS ro K)))) fun d f=>CM (MS ro K) d a c b f) fun c d=>CM (MS ro K) c a (EC 113 (EY a) 112 (BS a) []) b d) (MS ro K)
def ZY:=by
 have h:=@nF.eq_1; dsimp at h; exact h
def VI (ro:Option Nat) (K:AB):AB:=GR (fun a b c=>Gl ro 99 175 1 a (F_ 8 A5) b c 2 (nF ro K)) (MS ro K)
def ZZ:=by
 have h:=@VI.eq_1; dsimp at h; exact h
def Ku (ro:Option Nat) (K:AB):AB:=AW (fun e ds W=>wI (e 76) ((VI ro K) .ret (Env.of e [(4,(.bool false))]) ds W) ((VI ro K) .normal e ds W)) (VI ro K)
def ABr (ro:Option Nat) (e:Env) (ds:List Deferred) (K:AB) (W:CW):=by
 have h:C9 ro 99 175 e ds W K=DD 23 (BE e) W fun a=>FU e 5 a fun b=>let a:=DG 20 b 19 a 18 e 1 17 5; Di b (Hk e 1 5 fun b=>Et b 0 fun c=>BA c W fun d=>let a:=EC 28 d 27 c (BQ 26 b 25 (DS e) 24 e 1 23 a); KZ 69 e d W (fun b c=>Hk e 1 5 fun d=>Et d 1 fun f=>BA f c fun g=>let a:=Bh 35 g 34 f 33 d 32 (DS e) (Da 31 (BE e) 30 (BS e) 6 b 29 a); KZ 69 e g c (fun c d=>NT b 0 fun f=>let a:=eC 39 f (Da 38 f 37 b 7 c 36 a); GP f True (Ku ro K) e 76 (Gk 75 undef 59 (LU 74 73 72 71 (I_ 70 69 68 67 66 65 64 63 (K9 62 59 61 (WZ 60 undef 59 true 59 Bs 58 (K9 57 51 56 (A_ 55 51 54 53 52 (SX 51 true 50 49 undef 43 (A_ 48 43 47 46 45 (WZ 44 undef 43 true 43 Bs 42 (K9 41 39 40 a))))))))))) ds d (NT c 0 fun f=>let a:=Db 43 f 42 (BJ 41 f 39 40 c a); GP f True (Ku ro K) e 76 (Gk 75 undef 59 (LU 74 73 72 71 (I_ 70 69 68 67 66 65 64 63 (EK 62 59 61 60 (SX 59 true 58 57 undef 51 (A_ 56 51 55 54 53 (WZ 52 undef 51 true 51 Bs 50 (K9 49 43 48 (A_ 47 43 46 45 44 a))))))))) ds d (Iy 22 e 0 b fun f=>CO f 3 fun g=>Eg g d fun h=>Ov 5 h 0 fun i=>let a:=Db 51 i 50 (BJ 49 i 43 48 h (BJ 47 g 43 46 f (KY 45 b 43 44 e a))); GP i (FT 5 g d h) (Ku ro K) e 76 (Gk 75 undef 59 (LU 74 73 72 71 (I_ 70 69 68 67 66 65 64 63 (K9 62 59 61 (WZ 60 undef 59 true 59 Bs 58 (K9 57 51 56 (A_ 55 51 54 53 52 a))))))) ds d (Iy 22 e 0 c fun b=>CO b 3 fun f=>Eg f d fun i=>Ov 5 i 0 fun j=>let a:=Db 59 j 58 (BJ 57 j 51 56 i (BJ 55 f 51 54 b (KY 53 c 51 52 e a))); GP j (HN 5 f d i 5 g d h) (Ku ro K) e 76 (Gk 75 undef 59 (LU 74 73 72 71 (I_ 70 69 68 67 66 65 64 63 (EK 62 59 61 60 a)))) ds d (NN .gtr 3 e 5 0 fun b=>let a:=Ds 62 b 59 61 b 60 (DS e) a; Km b (FC e 5 fun b=>Iy 23 e 1 b fun c=>Et c 0 fun j=>BA j d fun k=>Hk e 1 5 fun l=>Et l 0 fun m=>BA m d fun n=>UZ .geq 9 k n fun o=>Fw (QZ (Mq 9 m d n) 9 j d k (HN 5 f d i 5 g d h)) (Ku ro K) e 76 o (Hy 75 o 59 (Bo 74 o 62 73 n (Bo 72 m 62 71 l (NP 70 e 5 62 69 (BE e) (Bo 68 k 62 67 j (Bo 66 c 62 65 b (NP 64 e 5 62 63 (BE e) a))))))) ds d) (HN 5 f d i 5 g d h) (Ku ro K) e (KX 76 75 DX 59 (CC 74 62 73 72 71 (CC 70 62 69 68 67 (CC 66 62 65 64 63 a)))) ds d))))) fun b c=>CM (MS ro K) b e a ds c) fun b c=>CM (MS ro K) b e a ds c) K e a ds W:=by kernel_rfl
 dsimp at h; exact h
def VJ (ro:Option Nat) (K:AB):AB:=AW (fun a b c=>Bc a 8 fun d=>CQ K a 8 d 82 81 b c) K
def Za:=by
 have h:=@VJ.eq_1; dsimp at h; exact h
def RO (ro:Option Nat) (K:AB):AB:=AW (fun e ds W=>wI (e 111) ((VJ ro K) .ret (Env.of e [(4,(.bool false))]) ds W) ((VJ ro K) .normal e ds W)) (CL 3 (VJ ro K))
def ABs (ro:Option Nat) (e:Env) (ds:List Deferred) (K:AB) (W:CW):=by
 have h:Fu ro 99 175 1 e ds W K=DD 23 (BE e) W fun a=>FU e 8 a fun b=>let a:=DG 80 b 79 a 78 e 1 77 8; ON b (Hk e 1 8 fun b=>Et b 0 fun c=>BA c W fun d=>Hk e 1 5 fun f=>Et f 1 fun g=>BA g W fun h=>Jn 9 d h fun i=>let a:=FA 94 i 93 92 h 91 g (Dl 90 f 89 (DS e) 88 e 1 87 d (Dl 86 c 85 b 84 e 8 83 (BE e) a)); UD i (HN 9 g W h 9 c W d) (RO ro K) e (Wi 111 true 110 undef (Ix 94 Bs 109 108 107 (I_ 106 105 104 103 102 101 100 99 (A_ 98 94 97 96 95 a)))) ds W (HM 3 e 8 5 fun b=>let a:=jK 98 b 94 false 97 (BJ 96 (DS e) 94 95 (DH e) a); Km b (Hk e 1 8 fun b=>Et b 1 fun f=>BA f W fun i=>Hk e 1 5 fun j=>Et j 1 fun k=>BA k W fun l=>Jn 9 i l fun m=>Fw (QZ (Mq 9 k W l) 9 f W i (HN 9 g W h 9 c W d)) (RO ro K) e 111 m (bN 110 m 94 false 109 m 98 true (Bo 108 l 98 107 k (Bo 106 j 98 105 (DS e) (NP 104 e 1 98 103 i (Bo 102 f 98 101 b (NP 100 e 8 98 99 (BE e) a)))))) ds W) (HN 9 g W h 9 c W d) (RO ro K) e (EU 111 (BG 110 94 109 98 108 107 (CC 106 98 105 104 103 (CC 102 98 101 100 99 a)))) ds W)) K 2 e a ds W:=by kernel_rfl
 dsimp at h; exact h
def cE (ro:Option Nat) (K:AB):AB:=AW (fun a b c=>Bc a 11 fun d=>CQ K a 11 d 132 131 b c) K
def Zb:=by
 have h:=@cE.eq_1; dsimp at h; exact h
def VK (ro:Option Nat) (K:AB):AB:=Wk (fun a b c=>Gl ro 99 175 3 a (F_ 13 A5) b c 6 (CL 5 (cE ro K))) 5 (cE ro K)
def Zc:=by
 have h:=@VK.eq_1; dsimp at h; exact h
def RP (ro:Option Nat) (K:AB):AB:=AW (fun e ds W=>wI (e 159) ((VK ro K) .ret (Env.of e [(4,(.bool false))]) ds W) ((VK ro K) .normal e ds W)) (VK ro K)
def ABt (ro:Option Nat) (e:Env) (ds:List Deferred) (K:AB) (W:CW):=by
 have h:Fu ro 99 175 2 e ds W K=DD 29 (D2 e) W fun a=>FU e 11 a fun b=>let a:=DG 130 b 129 a 128 e 10 127 11; ON b (Hk e 1 5 fun b=>Et b 2 fun c=>Bb c W fun d=>EZ d (Dq e) fun f=>Aj f W fun g=>NT g 0 fun h=>let a:=Da 143 h 142 h 141 g 12 (Dl 140 g 139 f 138 e 11 137 d (Dl 136 c 135 b 134 e 5 133 (BE e) a)); GP h True (RP ro K) e 159 (A_ 158 149 157 156 155 (A_ 154 149 153 152 151 (WZ 150 undef 149 true 149 Bs 148 (A_ 147 143 146 145 144 a)))) ds W (DD 29 (Ee e) W fun b=>FB .geq g b fun c=>let a:=Db 149 c 148 (BJ 147 c 143 146 b (BJ 145 (Ee e) 143 144 g a)); GP c (Iz 29 (Ee e) W b True) (RP ro K) e 159 (Gk 158 undef 149 (A_ 157 149 156 155 154 (A_ 153 149 152 151 150 a))) ds W (Iy 29 e 9 g fun c=>Eg c W fun d=>Fy 29 e 10 11 fun f=>Eg f W fun h=>HZ 5 d h fun i=>Fw (zI 5 f W h (KQ (Mq 5 c W d) (H2 29 (Ee e) W b))) (RP ro K) e 159 i (Ds 158 i 149 157 h 156 f (BJ 155 (Dq e) 149 154 (D2 e) (BJ 153 d 149 152 c (BJ 151 g 149 150 (Ee e) a)))) ds W))) K 4 e a ds W:=by kernel_rfl
 dsimp at h; exact h
def cF (ro:Option Nat) (K:AB):AB:=AW (fun a b c=>Bc a 13 fun d=>CQ K a 13 d 164 163 b c) K
def Zd:=by
 have h:=@cF.eq_1; dsimp at h; exact h
def ABu (ro:Option Nat) (e:Env) (ds:List Deferred) (K:AB) (W:CW):=by
 have h:Fu ro 99 175 3 e ds W K=HM 3 e 13 11 fun a=>let b:=Oo 162 a 161 (Dq e) 160 e 13; ON a (Hk e 1 5 fun a=>Et a 2 fun c=>Bb c W fun d=>EZ d (e 13) fun f=>Aj f W fun g=>Jn 3 g (e 12) fun h=>let a:=NQ 174 h 173 e 12 (Dl 172 g 171 f 170 e 13 169 d (Dl 168 c 167 a 166 e 5 165 (BE e) b)); CB h (G_ (cF ro K) e (EU 4 a) ds W) (cF ro K) e a ds W) K 6 e b ds W:=by kernel_rfl
 dsimp at h; exact h
theorem pM (Q:Ending→CW→Prop) (e:Env) (W:CW):AJ prog Tryz.f99 Q .ret e [] W=Q (.returned (e 4)) W:=by kernel_rfl
def AE4 {Q v0 v1 W}:=Eo 99 175 [v0,v1] Tryz.f99 Q W Tryz.func99 (by kernel_rfl)
def VL (ro:Option Nat) (K:AB):AB:=AW (fun e ds W=>K .ret (Env.of e [(6,(.bool true))]) ds W) K
def VM (ro:Option Nat) (K:AB):AB:=AW (fun a b c=>mj ro 122 89 0 a (F_ 8 A5) b c (VL ro K)) K
def Ze:=by
 have h:=@VM.eq_1; dsimp at h; exact h
def JM (ro:Option Nat) (K:AB):AB:=AW (fun e ds W=>wI (e 47) ((VM ro K) .ret (Env.of e [(6,(.bool false))]) ds W) ((VM ro K) .normal e ds W)) (VM ro K)
def ABv (v0 v1 v2:Value) (K:AB) (W:CW):=by
 have h:H3 122 89 v0 v1 v2 W K=Hj 56 v1 W fun a b=>Dr a 0 fun c=>BA c b fun d=>let c:=eC 12 d (Jl 11 c 10 v0 6 false 4 a []); DZ 69 v0 d b (fun b d=>NT b 0 fun f=>let c:=eC 16 f (NO 15 f 14 b 7 13 c); GP f True (JM none K) (E6 v0 v1 v2) 47 (Gk 46 undef 30 (I_ 45 44 43 42 41 40 39 38 (EK 37 30 36 35 (A_ 34 30 33 32 31 (SX 30 true 29 28 undef 16 (LU 27 26 25 24 (EK 23 16 22 21 (A_ 20 16 19 18 17 c)))))))) [] d (Mh 22 v0 b fun f=>CO f 3 fun g=>Eg g d fun h=>Ov 5 h 0 fun i=>let c:=Ds 23 i 16 22 i 21 h (BJ 20 g 16 19 f (BJ 18 b 16 17 v0 c)); wI i (Dr a 1 fun f=>Bb f d fun i=>CP i d fun j=>DF j 200 fun k=>let c:=Db 30 k 29 (Hy 28 k 16 (Bo 27 k 23 26 j (Bo 25 i 23 24 f c))); GP k (Iz 40 i d j (HN 40 f d i 5 g d h)) (JM none K) (E6 v0 v1 v2) 47 (Gk 46 undef 30 (I_ 45 44 43 42 41 40 39 38 (EK 37 30 36 35 (A_ 34 30 33 32 31 c)))) [] d (Mh 22 v0 b fun k=>CO k 3 fun l=>Eg l d fun m=>HL 5 m 0 fun n=>let c:=Ds 37 n 30 36 n 35 m (BJ 34 l 30 33 k (BJ 32 b 30 31 v0 c)); Km n (Dr a 1 fun a=>Bb a d fun k=>CP k d fun n=>DZ 88 v0 b d (fun o p=>DD 29 o p fun q=>HZ 3 n q fun r=>Fw ((Iz 29 o p q True)∧Es (Iz 40 k p n (H2 40 k d n)) (AAi (Mq 40 a p k) 40 a d k) (Es (KR 5 l d m) (Ko (H2 40 i d j)) (Gp 40 f d i 5 g d h))) (JM none K) (E6 v0 v1 v2) 47 r (Hy 46 r 30 (Bo 45 r 37 44 q (Bo 43 o 37 42 b (Bo 41 v0 37 40 n (Bo 39 k 37 38 a c))))) [] p) fun _ _=>False) (Es (Mq 5 l d m) (H2 40 i d j) (HN 40 f d i 5 g d h)) (JM none K) (E6 v0 v1 v2) (KX 47 46 DX 30 (CC 45 37 44 43 42 (CC 41 37 40 39 38 c))) [] d)) (Mh 22 v0 b fun f=>CO f 3 fun i=>Eg i d fun j=>HL 5 j 0 fun k=>let c:=Ds 37 k 30 36 k 35 j (BJ 34 i 30 33 f (BJ 32 b 30 31 v0 (mh 30 29 28 DX 16 27 23 26 (Ia 25 23 24 c)))); Km k (Dr a 1 fun a=>Bb a d fun f=>CP f d fun k=>DZ 88 v0 b d (fun l m=>DD 29 l m fun n=>HZ 3 k n fun o=>Fw ((Iz 29 l m n True)∧Es (Iz 40 f m k (H2 40 f d k)) (AAi (Mq 40 a m f) 40 a d f) (Gp 5 i d j 5 g d h)) (JM none K) (E6 v0 v1 v2) 47 o (Hy 46 o 30 (Bo 45 o 37 44 n (Bo 43 l 37 42 b (Bo 41 v0 37 40 k (Bo 39 f 37 38 a c))))) [] m) fun _ _=>False) (HN 5 i d j 5 g d h) (JM none K) (E6 v0 v1 v2) (KX 47 46 DX 30 (CC 45 37 44 43 42 (CC 41 37 40 39 38 c))) [] d))) fun a b=>Gn K a v0 v1 v2 c b:=by kernel_rfl
 dsimp at h; exact h
def RQ (ro:Option Nat) (K:AB):AB:=AW (fun a b c=>Bc a 8 fun d=>CQ K a 8 d 54 53 b c) K
def XP:=by
 have h:=@RQ.eq_1; dsimp at h; exact h
def Ev (ro:Option Nat) (K:AB):AB:=AW (fun e ds W=>wI (e 88) ((RQ ro K) .ret (Env.of e [(6,(.bool false))]) ds W) ((RQ ro K) .normal e ds W)) (CL 1 (RQ ro K))
def xn (ro:Option Nat) (e:Env) (ds:List Deferred) (K:AB) (W:CW):=by
 have h:C9 ro 122 89 e ds W K=Ih e 4 fun a=>Bb a W fun b=>CP b W fun c=>FU e 8 c fun d=>let a:=eC 52 d (BO 51 c 50 b 49 a 48 (DH e)); Di d (Ih e 4 fun b=>Bb b W fun c=>EZ c (DH e) fun d=>Aj d W fun f=>let a:=eC 62 (DH e) (Da 61 (D3 e) 60 (BS e) 9 f 59 (Bh 58 d 57 (DH e) 56 c 55 b a)); Ig 70 e (D3 e) (DH e) W (fun b c=>HL 5 b 1 fun d=>let a:=D9 65 d 64 63 b a; let b:=EU 73 (Ds 76 (DH e) 73 75 (D3 e) 74 (BS e) (SX 73 false 72 71 undef 65 (Db 70 undef 69 (Hy 68 undef 65 (Ia 67 65 66 a))))); wI d (NT f (-1000000000) fun b=>let a:=Hi 68 b 65 67 b 65 66 f a; UB b (Ev ro K) e (Wi 88 true 87 undef (Ix 73 Bs 86 85 84 (LU 83 82 81 80 (K9 79 73 78 (A_ 77 73 76 75 74 (Gq 73 true 72 71 Bs 65 70 68 69 a)))))) ds c (DF f 1000000000 fun b=>let a:=Db 73 b 72 (Gk 71 b 65 (BJ 70 b 68 69 f a)); let d:=EU 73 (Ds 76 (DH e) 73 75 (D3 e) 74 (BS e) a); UB b (Ev ro K) e (Wi 88 true 87 undef (Ix 73 Bs 86 85 84 (LU 83 82 81 80 (K9 79 73 78 (A_ 77 73 76 75 74 a))))) ds c (Ig 70 e (D3 e) (DH e) c (fun a b=>HL 5 a 2 fun c=>let a:=eC 79 c (tD 73 false 78 c 73 false 77 a d); CB c (NT f 0 fun c=>let a:=Hi 82 c 79 81 c 79 80 f a; EW c (Ev ro K) e 88 (Hy 87 Bs 73 (Gq 86 true 79 85 undef 82 84 82 83 a)) ds b (FB .gtr f (Bt e) fun c=>Dh (Ev ro K) e 88 c (Hy 87 c 73 (bN 86 c 79 true 85 c 82 false (BJ 84 (Bt e) 82 83 f a))) ds b)) (Ev ro K) e (Hy 88 DX 87 (LY 73 86 undef (Ix 79 DX 85 84 83 (Hy 82 undef 79 (Ia 81 79 80 a))))) ds b) fun a b=>CM (Ev ro K) a e d ds b))) (Ig 70 e (D3 e) (DH e) c (fun a c=>HL 5 a 2 fun d=>let a:=eC 79 d (tD 73 false 78 d 73 false 77 a b); CB d (NT f 0 fun b=>let a:=Hi 82 b 79 81 b 79 80 f a; EW b (Ev ro K) e 88 (Hy 87 Bs 73 (Gq 86 true 79 85 undef 82 84 82 83 a)) ds c (FB .gtr f (Bt e) fun b=>Dh (Ev ro K) e 88 b (Hy 87 b 73 (bN 86 b 79 true 85 b 82 false (BJ 84 (Bt e) 82 83 f a))) ds c)) (Ev ro K) e (Hy 88 DX 87 (LY 73 86 undef (Ix 79 DX 85 84 83 (Hy 82 undef 79 (Ia 81 79 80 a))))) ds c) fun a c=>CM (Ev ro K) a e b ds c)) fun b c=>CM (Ev ro K) b e a ds c) K e a ds W:=by kernel_rfl
 dsimp at h; exact h
theorem j4 (Q:Ending→CW→Prop) (e:Env) (W:CW):AJ prog Tryz.f122 Q .ret e [] W=Q (.returned (e 6)) W:=by kernel_rfl
def ABw {Q v0 v1 v2 W}:=Eo 122 89 [v0,v1,v2] Tryz.f122 Q W Tryz.func122 (by kernel_rfl)
end Go.Ce
namespace Go.Ce
section
variable {α:Type} {W:CW} {el n:Nat} {v:Value}
theorem Nd {enc:α→List Value} (hn:∀ x,(enc x).length=n) (l:List α):(l.flatMap enc).length=l.length*n:=by
 induction l with
 | nil=>simp
 | cons x l ih=>rw [List.flatMap_cons,List.length_append,ih,hn,List.length_cons,Nat.succ_mul,Nat.add_comm]
theorem zR {enc:α→List Value} (hn:∀ x,(enc x).length=n) (h0:0<n) {l:List α} (h:CD W el n v (l.flatMap enc)):AV n (fun b o x=>Cells W b o (enc x)) v l:=by
 generalize hc:l.flatMap enc=cs at h; have hl:=Nd hn l; rw [hc] at hl
 cases h with
 | nil =>
  have:l.length=0:=by
   rcases Nat.eq_zero_or_pos l.length with h | h
   ·exact h
   ·have:=Nat.mul_pos h h0; rw [←hl] at this; simp at this
  exact ⟨none,0,by rw [this],fun i x hx=>by have:=(List.getElem?_eq_some_iff.1 hx).1; omega⟩
 | @some b len _ hB wH =>
  have:len=l.length:=Nat.eq_of_mul_eq_mul_right h0 (by rw [←wH,hl]); refine ⟨some ⟨b,0,none⟩,len,by rw [this],fun i x hx=>⟨_,rfl,?_⟩⟩; have h1:=hB.cells; rw [←hc] at h1; exact PL hn l 0 h1 i x hx
theorem tq (f:α→Value) (l:List α):l.map f=l.flatMap fun x=>[f x]:=by
 induction l with
 | nil=>rfl
 | cons x l ih=>rw [List.map_cons,List.flatMap_cons,ih]; rfl
theorem LA {f:α→Value} {l:List α} (h:CD W el 1 v (l.map f)):AV 1 (fun b o x=>W.cell b o=some (f x)) v l:=by
 rw [tq] at h; obtain ⟨a,cap,h1,h2⟩:=zR (n:=1) (fun _=>rfl) (by omega) h; refine ⟨a,cap,h1,fun i x hx=>?_⟩; obtain ⟨p,hp,hr⟩:=h2 i x hx; exact ⟨p,hp,by have:=hr 0 (f x) rfl; rwa [Nat.add_zero] at this⟩
end
theorem MT {P:Program} {t xi:TypeId} (u:P.underlying t=some (.slice xi)) {W W':CW} {el n:Nat} {v:Value} {cs:List Value} (h:CD W el n v cs) (hn:0<n) {m:Nat} (hm:cs.length=m*n):OI P t v W'=some (.int .i64 m):=by
 cases h with
 | nil =>
  have:m=0:=by
   rcases Nat.eq_zero_or_pos m with h | h
   ·exact h
   ·have:=Nat.mul_pos h hn; rw [←hm] at this; simp at this
  rw [AU u,this]
 | @some b len _ hB hl =>
  have:len=m:=Nat.eq_of_mul_eq_mul_right hn (by rw [←hl,hm]); rw [AU u,this]
def Bi (ts:List Nat) (e e':Env):Prop:=∀ t,t ∈ ts→e' t=e t
theorem Bi.trans {ts:List Nat} {a b c:Env} (h:Bi ts a b) (k:Bi ts b c):Bi ts a c:=fun t ht=>(k t ht).trans (h t ht)
theorem Bi.put {ts:List Nat} {e:Env} {l:List (Nat × Value)} (h:(ts.all fun t=>l.all fun p=>!Nat.beq t p.1)=true):Bi ts e (Env.of e l):=by
 intro t ht; have h1:=List.all_eq_true.1 h t ht; clear h ht
 induction l with
 | nil=>rfl
 | cons p l ih =>
  simp only [List.all_cons,Bool.and_eq_true,Bool.not_eq_true'] at h1; simp only [Env.of,h1.1,cond_false]; exact ih h1.2
def J_ (J:Nat→Env→List Deferred→CW→Prop) (i n:Nat) (K:AB):AB:=fun x e ds W=>match x with
 | .normal=>i<n∧J (i+1) e ds W
 | x=>K x e ds W
section
variable (J:Nat→Env→List Deferred→CW→Prop) (i n:Nat) (K:AB) (e:Env) (ds:List Deferred) (W:CW)
theorem Fz:J_ J i n K .normal e ds W=(i<n∧J (i+1) e ds W):=rfl
theorem Ml:J_ J i n K .ret e ds W=K .ret e ds W:=rfl
theorem KA (j:Nat):J_ J i n K (.exit j) e ds W=K (.exit j) e ds W:=rfl
theorem zKp (ch:List PanicEntry):J_ J i n K (.panic ch) e ds W=K (.panic ch) e ds W:=rfl
end
theorem DI {P:Program} {L:List FuncId} {ro:Option Nat} {fn:FuncId} {nt:Nat} {b:Code} {K:AB} (J:Nat→Env→List Deferred→CW→Prop) (n:Nat) {e:Env} {ds:List Deferred} {W:CW} (h0:J 0 e ds W)
  (Og:∀ i e ds W,i≤n→J i e ds W→Ft P L ro fn nt b e ds W (J_ J i n K)):Fk P L ro fn nt (.loop b) e ds W K:=by
 suffices key:∀ k i e ds W,n-i=k→i≤n→J i e ds W→Fk P L ro fn nt (.loop b) e ds W K from key n 0 e ds W rfl (Nat.zero_le _) h0
 intro k
 induction k using Nat.strongRecOn with
 | ind k ih =>
  intro i e ds W hk OZ hi a ha hn; obtain ⟨m,⟨x1,a1,W1⟩,h1,e1,h2,h3,h4⟩:=IZ (Og i e ds W OZ hi) a ha hn
  cases x1 with
  | normal =>
   obtain ⟨h5,h6⟩:=h4; obtain ⟨m',o,h7,h8⟩:=ih (n-(i+1)) (by omega) (i+1) e1 a1.defers W1 rfl h5 h6 a1 h2 h3; refine ⟨max m m'+1,o,?_,h8⟩; show IS ((Du P L (max m m')).code ro fn b a W) ((Du P L (max m m')).code ro fn (.loop b))=some [o]; rw [HX (Nat.le_max_left m m') h1]; exact F8 (HX (Nat.le_max_right m m') h7)
  | _ =>
   refine ⟨m+1,_,?_,e1,h2,h3,h4⟩; show IS ((Du P L m).code ro fn b a W) ((Du P L m).code ro fn (.loop b))=_; rw [h1]; exact F8 rfl
theorem D4 {bad:Nat→Bool} {i:Nat} (h:∀ m,m<i→bad m=false) (hi:bad i=false):∀ m,m<i+1→bad m=false:=fun m hm=>by
 rcases Nat.lt_succ_iff_lt_or_eq.1 hm with h2 | rfl
 ·exact h m h2
 ·exact hi
theorem C4 {i:Nat} (h:i<1000000000000):IntKind.i64.wrap ((i:Int)+1)=((i+1:Nat):Int):=by rw [wrap64 (by omega) (by omega)]; rfl
theorem FW {i n:Nat} {X Y:Prop} (h1:i<n→X) (h2:n≤i→Y):wI (.bool (decide ((i:Int)<(n:Int)))) X Y :=
 AD (fun h=>h1 (by have:=of_decide_eq_true h; omega)) (fun h=>h2 (by have:=of_decide_eq_false h; omega))
theorem S1 {vs ws:List Value} (h:ws.length=vs.length):putAt vs 0 ws=ws:=by
 unfold putAt; rw [List.take_zero,List.nil_append,List.drop_eq_nil_of_le (by omega),List.append_nil]
section
variable {P:Program}
theorem Dt {t:TypeId} {m:Nat} {z:Value} (hz:Hz P t=some z) (hs:D_ P t=some m) (v_:z.cells.size=m) {ws:List Value} (h1:ws.all Ba=true) (hm:ws.length=m) {W:CW} {K:Value→CW→Prop} (ht:Ag W)
  (hk:∀ W2,Kp W W2→Ag W2→W2.sz=W.sz+1→BX W2 W.sz t ws→K (.pointer (some ⟨W.sz,0,none⟩)) W2):Mw (zG P t W) fun v W1=>wV (Mf P t v (.agg ws.toArray) W1) fun W2=>K v W2:=by
 refine JB hz hs ht fun W1 k1 t1 z1 hB=>?_; refine Eu hs (a:=⟨W.sz,0,none⟩) h1 hm hB (by simp [v_]) fun W2 hu JN=>?_; rw [S1 (by simp [v_,hm])] at JN; exact hk W2 (k1.BB (Nat.le_refl _) hu) (t1.BB (by rw [z1]; exact Nat.lt_succ_self _) hu) (by rw [hu.sz,z1]) JN
end
section
variable {P:Program}
theorem MU {t el:TypeId} {ts:List TypeId} {n bytes:Nat} {z x:Value} {xs:List Value} (ut:P.underlying t=some (.slice el)) (hs:D_ P el=some n) (hz:Hz P el=some z) (hY:z.cells.size=n) (hn:0<n) (pL:(P.info? el).map (·.bytes)=some bytes) (hb:bytes≤1024)
  (ABj:∀ W,rB P t 1 [(0,x)] W=some (.slice (some ⟨W.sz,0,none⟩) 1 1,W.new (.cells (Tr.nil.Aa 0 xs) xs.length #[] el))) (sW:xs.length=n) (YV:xs.all Ba=true)
  {W:CW} (ht:Ag W) {v:Value} {cs:List Value} (hv:CD W el n v cs) (bz:cs.length<900000) {K:Value→CW→Value→CW→Prop}
  (hk:∀ u Wa v1 W1,Kp W Wa→Ag Wa→K_ v W W1→Ag W1→CD W1 el n v1 (cs++xs)→(∀ A,A≤W.sz→BF A v1)→K u Wa v1 W1):Mw (rB P t 1 [(0,x)] W) fun u W1=>Mw (app P (t::t::ts) v u W1) fun v1 W2=>K u W1 v1 W2:=by
 refine Hm (ABj W) ?_; have Yg:Kp W (W.new (.cells (Tr.nil.Aa 0 xs) xs.length #[] el)):=.new _
 have hB:BX (W.new (.cells (Tr.nil.Aa 0 xs) xs.length #[] el)) W.sz el xs:=⟨_,_,_,by rw [BW,if_pos rfl],rfl,fun k w hw=>by
  rw [DE _ _ _ (List.getElem?_eq_some_iff.1 hw).1,List.getD_eq_getElem?_getD,hw]; rfl⟩
 have HD:CD (W.new (.cells (Tr.nil.Aa 0 xs) xs.length #[] el)) el n v cs:=by
  cases hv with
  | nil=>exact .nil
  | some h hl=>exact .some (h.ext ht Yg) hl
 have wG:∀ b l c,v=.slice (some b) l c→b.block<W.sz:=by
  intro b l c e
  cases hv with
  | nil=>cases e
  | some h hl=>cases e; exact h.lt ht
 have hu:HT P t=true:=by unfold HT; rw [ut]
 refine nC (x:=.slice (some ⟨W.sz,0,none⟩) 1 1) (m:=1) (news:=xs) ut hu hs hz hY hn pL hb (ht.new _) HD rfl (by omega) ?_ YV (by omega) (by omega) fun W1 len hg hl Uj=>?_
 ·show EO (some ⟨W.sz,0,none⟩) (1*n) _=some xs; rw [Nat.one_mul,←sW]; exact N4 hB.cells
 ·refine hk _ _ _ W1 Yg (ht.new _) ⟨by rw [hg.sz,HA]; omega,fun i hi D0=>?_⟩ (hg.top (ht.new _)) (.some Uj hl) (fun A hA b l c e=>by cases e; rw [HA]; show A≤W.sz+1; omega); rw [hg.obj i (by rw [HA]; omega) D0,BW,if_neg (by omega)]
end
theorem HB {W W':CW} {el n i:Nat} {v:Value} {cs:List Value} (h:CD W el n v cs) (hu:ED i W W') (hi:∀ b l c,v=.slice (some b) l c→b.block≠i):CD W' el n v cs:=by
 cases h with
 | nil=>exact CD.nil
 | some hB hl=>exact CD.some (hB.congr (hu.obj _ (hi _ _ _ rfl))) hl
theorem S6 {W:CW} {el n:Nat} {v:Value} {cs:List Value} (h:CD W el n v cs):Ba v=true:=by cases h <;> rfl
theorem UH {W:CW} {el xi n i:Nat} {v:Value} {cs ws:List Value} (h:CD W el n v cs) (hB:BX W i xi ws) (he:el≠xi):∀ b l c,v=.slice (some b) l c→b.block≠i:=by
 intro b l c hv hb
 cases h with
 | nil=>cases hv
 | some h1 hl =>
  cases hv
  simp only at hb; subst hb; obtain ⟨c1,n1,z1,h2,_⟩:=h1; obtain ⟨c2,n2,z2,h3,_⟩:=hB; rw [h2] at h3
  cases h3
  exact he rfl
theorem K_.j5 {v:Value} {W W':CW} (h:K_ v W W') (ht:Ag W) {i:Nat} {el:TypeId} {ws:List Value} (hB:BX W i el ws) (hi:∀ b l c,v=.slice (some b) l c→b.block≠i):BX W' i el ws :=
 hB.congr (h.obj i (hB.lt ht) fun b l c e=>(hi b l c e).symm)
theorem PN {P:Program} {fn:Func} {Q:Ending→CW→Prop} {e:Env} {W:CW} {s:Tmp} {ty:TypeId} {p:Addr} {v:Value} (hr:fn.results.toList=[.cell s ty]) (he:e s=.pointer (some p)) (hv:ld P ty (.pointer (some p)) W=some v) (hq:Q (.returned v) W):AJ P fn Q .ret e [] W:=by
 have hv:LI P ty p W=some v:=hv; simp only [AJ,FR,hr,Mg,s8,he,hv]; exact hq
structure D7 (S:Nat→Prop) (W W':CW):Prop where
 sz:W.sz≤W'.sz
 obj:∀ i,i<W.sz→¬S i→W'.obj i=W.obj i
theorem D7.refl (S:Nat→Prop) (W:CW):D7 S W W:=⟨Nat.le_refl _,fun _ _ _=>rfl⟩
theorem D7.H7 {S:Nat→Prop} {W W':CW} (h:Kp W W'):D7 S W W':=⟨h.sz,fun i hi _=>h.obj i hi⟩
theorem D7.then {S T:Nat→Prop} {A B C:CW} (h:D7 S A B) (k:D7 T B C) (hT:∀ i,i<A.sz→T i→S i):D7 S A C :=
 ⟨Nat.le_trans h.sz k.sz,fun i hi hs=>(k.obj i (Nat.lt_of_lt_of_le hi h.sz) fun ht=>hs (hT i hi ht)).trans (h.obj i hi hs)⟩
theorem D7.kp {S:Nat→Prop} {A B C:CW} (h:Kp A B) (k:D7 S B C) (hS:∀ i,S i→A.sz≤i):Kp A C :=
 ⟨Nat.le_trans h.sz k.sz,fun i hi=>(k.obj i (Nat.lt_of_lt_of_le hi h.sz) fun hs=>by have:=hS i hs; omega).trans (h.obj i hi)⟩
theorem D7.cell {S:Nat→Prop} {W W':CW} (h:D7 S W W') (ht:Ag W) {b k:Nat} (hb:¬S b) {v:Value} (hc:W.cell b k=some v):W'.cell b k=some v:=by
 rw [MM (h.obj b (bn ht hc) hb)]; exact hc
theorem D7.j5 {S:Nat→Prop} {W W':CW} (h:D7 S W W') (ht:Ag W) {b:Nat} (hb:¬S b) {el:TypeId} {ws:List Value} (hB:BX W b el ws):BX W' b el ws :=
 hB.congr (h.obj b (hB.lt ht) hb)
def Bj (v:Value) (i:Nat):Prop:=∃ b l c,v=.slice (some b) l c∧b.block=i
theorem K_.IF {v:Value} {W W':CW} (h:K_ v W W'):D7 (Bj v) W W':=⟨h.sz,fun i hi hs=>h.obj i hi fun b l c e hb=>hs ⟨b,l,c,e,hb.symm⟩⟩
theorem ED.IF {i:Nat} {W W':CW} (h:ED i W W'):D7 (·=i) W W':=⟨by rw [h.sz]; exact Nat.le_refl _,fun j _ hj=>h.obj j hj⟩
theorem D7.own {S:Nat→Prop} {W W':CW} (h:D7 S W W') (ht:Ag W) {el n:Nat} {v:Value} {cs:List Value} (ho:CD W el n v cs) (hv:∀ i,Bj v i→¬S i):CD W' el n v cs:=by
 cases ho with
 | nil=>exact CD.nil
 | some hB hl=>exact CD.some (h.j5 ht (hv _ ⟨_,_,_,rfl,rfl⟩) hB) hl
theorem BF.in {A:Nat} {v:Value} (h:BF A v) {i:Nat} (hi:Bj v i):A≤i:=by
 obtain ⟨b,l,c,e,rfl⟩:=hi; exact h b l c e
theorem tr {W:CW} (ht:Ag W) {el n:Nat} {v:Value} {cs:List Value} (h:CD W el n v cs) {i:Nat} (hi:Bj v i):i<W.sz:=by
 obtain ⟨b,l,c,e,rfl⟩:=hi
 cases h with
 | nil=>cases e
 | some hB hl=>cases e; exact hB.lt ht
theorem tu {α:Type} {n:Nat} {S:Nat→Prop} {W W':CW} {R:CW→Nat→Nat→α→Prop} {v:Value} {l:List α} (h:AV n (R W) v l) (hv:l≠[]→∀ i,Bj v i→¬S i) (hR:∀ b o x,¬S b→R W b o x→R W' b o x):AV n (R W') v l:=by
 obtain ⟨a,cap,rfl,h2⟩:=h; refine ⟨a,cap,rfl,fun i x hx=>?_⟩; obtain ⟨p,rfl,hr⟩:=h2 i x hx; exact ⟨p,rfl,hR _ _ _ (hv (fun e=>by rw [e] at hx; cases hx) _ ⟨_,_,_,rfl,rfl⟩) hr⟩
section
variable {P:Program}
theorem AE5 {t el:TypeId} {z:Value} {bytes:Nat} (ut:P.underlying t=some (.slice el)) (hs:D_ P el=some 1) (hz:Hz P el=some z) (hzc:z.cells=#[z]) (pL:(P.info? el).map (·.bytes)=some bytes) (hb:bytes≤1024) {n:Nat} (hn:n≤2000000) {k1 k2:IntKind} {W:CW} (ht:Ag W) {K:Value→CW→Prop}
  (hk:∀ W1,Kp W W1→Ag W1→W1.sz=W.sz+1→BX W1 W.sz el (List.replicate n z)→K (.slice (some ⟨W.sz,0,none⟩) n n) W1):Mw (mks P t (.int k1 n) (.int k2 n) W) K:=by
 have hc:mks P t (.int k1 n) (.int k2 n) W=some (.slice (some ⟨W.sz,0,none⟩) n n,W.new (.cells .nil (n*1) z.cells el)):=by
  unfold mks; simp only [ut,hs,hz,DJ,pL,Option.getD_some,hzc]; rw [show Nat.ble bytes 1024=true from Nat.ble_eq_true_of_le hb]; simp only [cond_eq_ite]; rw [if_pos (by simp; omega)]; simp
 refine Hm hc (hk _ (.new _) (ht.new _) rfl ⟨.nil,_,_,by rw [BW,if_pos rfl],by simp,fun k v hv=>?_⟩); have h1:v=z:=List.eq_of_mem_replicate (List.mem_of_getElem? hv); subst h1; unfold cellAt; simp only [Tr.get_nil,hzc]; simp [Nat.mod_one]
end
section
variable {P:Program}
theorem nG {t u el:TypeId} {ts:List TypeId} {n bytes:Nat} {z:Value} (ut:P.underlying t=some (.slice el)) (hu:HT P u=true) (hs:D_ P el=some n) (hz:Hz P el=some z) (hY:z.cells.size=n) (hn:0<n) (pL:(P.info? el).map (·.bytes)=some bytes) (hb:bytes≤1024)
  {W:CW} (ht:Ag W) {v:Value} {cs news:List Value} {a:Option Addr} {m cap:Nat} (hv:CD W el n v cs) (Ye:0<m→∃ p,a=some p∧Cells W p.block p.off news) (h1:news.all Ba=true) (K2:news.length=m*n) (bz:cs.length+m≤1000000) {K:Value→CW→Prop}
  (hk:∀ v1 W1,K_ v W W1→Ag W1→CD W1 el n v1 (cs++news)→(∀ j,Bj v1 j→Bj v j∨W.sz≤j)→K v1 W1):Mw (app P (t::u::ts) v (.slice a m cap) W) K:=by
 rcases Nat.eq_zero_or_pos m with rfl | hm
 ·have LN:news=[]:=List.length_eq_zero_iff.1 (by rw [K2,Nat.zero_mul]); subst LN; have Yf:Nat.ble ((P.info? el).map (·.bytes) |>.getD 2000) 1024=true:=by rw [pL]; exact Nat.ble_eq_true_of_le hb
  have yw:HS (.slice a 0 cap) 0 n W=some []:=by
   show EO a (0*n) W=some []; rw [Nat.zero_mul]; unfold EO
   cases a <;> rfl
  have hc:app P (t::u::ts) v (.slice a 0 cap) W=some (v,W):=by
   unfold app; simp only [hu,cond_true]
   cases hv with
   | nil =>
    unfold GG; simp only [ut,aG,DJ,hs,hz,yw,List.all_nil,List.length_nil,Nat.zero_mul,Nat.beq_refl,hY,Yf,Bool.true_and,Bool.and_true]; rw [show Nat.blt 0 n=true from Nat.ble_eq_true_of_le hn]; rfl
   | @some b len cs hB hl =>
    have hlen:len≤cs.length:=by rw [hl]; exact Nat.le_mul_of_pos_right _ hn
    unfold GG; simp only [ut,aG,DJ,hs,hz,yw,List.all_nil,List.length_nil,Nat.zero_mul,Nat.beq_refl,hY,Yf,Bool.true_and,Bool.and_true,Nat.add_zero]; rw [show Nat.blt 0 n=true from Nat.ble_eq_true_of_le hn,show Nat.ble len 1000000=true from Nat.ble_eq_true_of_le (by omega),show Nat.ble len len=true from Nat.ble_eq_true_of_le (Nat.le_refl _)]; rfl
  refine Hm hc (hk v W ⟨Nat.le_refl _,fun _ _ _=>rfl⟩ ht (by rw [List.append_nil]; exact hv) (fun j h=>.inl h))
 ·obtain ⟨p,rfl,LP⟩:=Ye hm
  refine nC (m:=m) ut hu hs hz hY hn pL hb ht hv rfl hm ?_ h1 K2 bz fun W1 len hg hl hB=>?_
  ·show EO (some p) (m*n) W=some news; rw [←K2]; exact N4 LP
  ·exact hk _ W1 ⟨by rw [hg.sz]; omega,hg.obj⟩ (hg.top ht) (.some hB hl) (fun j h=>.inr (by obtain ⟨b,l,c,e,rfl⟩:=h; cases e; exact Nat.le_refl _))
end
end Go.Ce
namespace Go.Ce
open Go Go.Proofs Go.Proofs.Tryz
def B5 (n:Nat) (p:Nat→Bool):Bool:=(List.range n).any p
theorem BT {n j:Nat} {p:Nat→Bool} (hj:j<n) (h:p j=true):B5 n p=true:=List.any_eq_true.2 ⟨j,List.mem_range.2 hj,h⟩
theorem Bu {n:Nat} {p:Nat→Bool} (h:∀ j,j<n→p j=false):B5 n p=false:=by
 unfold B5; rw [List.any_eq_false]; intro j hj; rw [h j (List.mem_range.1 hj)]; simp
theorem Ew {n:Nat} {p:Nat→Bool} (h:B5 n p=false) {j:Nat} (hj:j<n):p j=false:=by
 cases hp:p j with
 | false=>rfl
 | true=>rw [BT hj hp] at h; cases h
def GC (k:Int):Bool:=k == 1 || k == 2
def C1 (kind n:Int) (size:Nat):Bool:=!((kind == 1 && (decide (n < -1000000000) || decide (n>1000000000))) || (kind == 2 && (decide (n<0) || decide (n>size))))
def BL (c:List Al) (s:ByteArray):Option Nat:=c.findIdx? fun x=>decide (x.name=s)
def Dd (c:List Al) (i:Nat) (x:Al) (many:Nat):Bool:=if x.elem≠0 then decide (many≤200) else decide (many=(Ap c i).length)
def Ao (c:List Al) (x:B9) (size:Nat):Bool:=match BL c x.type with
 | none=>false
 | some i=>match c[i]? with
  | none=>false
  | some s=>Dd c i s x.AH.length && !B5 x.AH.length fun k=>match x.AH[k]? with
   | some n=>!C1 (A4 c i k) n size
   | none=>false
def DT (c:List Al) (h:List B9):Int:=if 1000<h.length then 1000 else RJ h fun x=>!Ao c x h.length
theorem Dx.kp {W W':CW} {b o:Nat} {x:Int} (h:Dx W b o x) (ht:Ag W) (k:Kp W W'):Dx W' b o x:=⟨k.cell ht h.1,h.2⟩
theorem Ek.kp {W W':CW} {b o:Nat} {x:B9} (h:Ek W b o x) (ht:Ag W) (k:Kp W W'):Ek W' b o x :=
 ⟨k.cell ht h.type,by obtain ⟨v,h1,h2⟩:=h.AH; exact ⟨v,k.cell ht h1,h2.imp fun _ _ _ hr=>hr.kp ht k⟩⟩
theorem Ho.kp {W W':CW} {b o:Nat} {x:C5} (h:Ho W b o x) (ht:Ag W) (k:Kp W W'):Ho W' b o x :=
 ⟨k.cell ht h.type,k.cell ht h.to,by obtain ⟨v,h1,h2,h3⟩:=h.map; exact ⟨v,k.cell ht h1,h2.imp fun _ _ _ hr=>hr.kp ht k,h3.kp ht k⟩⟩
def AE6 (W:CW) (u:Value) (x:B9):Prop:=∃ v,u=.agg #[.string x.type,v]∧AV 1 (Dx W) v x.AH
theorem Ek.ld {W:CW} {b o:Nat} {x:B9} (h:Ek W b o x):∃ u,ld prog 56 (.pointer (some ⟨b,o,none⟩)) W=some u∧AE6 W u x:=by
 obtain ⟨v,h1,h2⟩:=h.AH; refine ⟨_,CG (vs:=[.string x.type,v]) m5 MN rfl (by omega) ?_,v,rfl,h2⟩; intro j w hj
 match j,hj with
 | 0,hj=>cases hj; exact h.type
 | 1,hj=>cases hj; exact h1
theorem IG {c:List Al} {s:ByteArray} {i:Nat} (h:BL c s=some i):La c s=i:=by unfold La; unfold BL at h; rw [h]
theorem MV {c:List Al} {s:ByteArray} (h:BL c s=none):La c s=-1:=by unfold La; unfold BL at h; rw [h]
theorem Dm {c:List Al} {s:ByteArray} {i:Nat} (h:BL c s=some i):i<c.length:=(List.findIdx?_eq_some_iff_getElem.1 h).1
theorem tv {v0 v1:Value} {c:List Al} {x:B9} {size:Nat} {W:CW} (ht:Ag W) (hc:AV 5 (Dc W) v0 c) (hlen:c.length<200) (hf:∀ x,x ∈ c→x.fields.length≤100) (hx:AE6 W v1 x) (hv:x.AH.length<1000000) (J5:size<1000000) :
  AX prog Br 122 [v0,v1,.int .i64 size] W (YC (.bool (Ao c x size)) W):=by
 refine ABw ?_; rw [ABv]; obtain ⟨vv,rfl,zS⟩:=hx; refine Hn MN ht fun W0 k0 t0 z0 hB=>?_; have nH:W0.cell W.sz 0=some (.string x.type):=hB.cell rfl; have Uj:W0.cell W.sz 1=some vv:=hB.cell rfl; have mP:AV 5 (Dc W0) v0 c:=hc.imp fun _ _ _ hr=>hr.kp ht k0; simp only [IP,AA]; rw [AF a9 (a:=⟨W.sz,0,none⟩) nH]; simp only [AA]; refine At (MP mP (by omega)) ?_; generalize GD:AJ prog Tryz.f122 (YC (.bool (Ao c x size)) W)=K
 have Fl:∀ (b:Bool) (e:Env) W',Kp W W'→Ag W'→e 6=.bool b→b=Ao c x size→K .ret e [] W':=by
  intro b e W' k t h6 hb; rw [←GD,j4,h6,hb]; exact ⟨rfl,k,t⟩
 have ER:∀ (b:Bool) (e:Env) W',Kp W0 W'→Ag W'→e 47=.bool b→e 0=v0→e 2=.int .i64 size→e 4=.pointer (some ⟨W.sz,0,none⟩) →
   (b=true→Ao c x size=false)→(b=false→∃ i,e 7=.int .i64 (i:Nat)∧BL c x.type=some i∧∃ s,c[i]?=some s∧Dd c i s x.AH.length=true)→(JM none K) .normal e [] W':=by
  intro b e W' k t h47 h0 h2 h4 pN j6; simp only [JM,Ay]; rw [h47]
  refine AD (fun h=>?_) (fun h=>?_)
  ·simp only [Ze,G4]; exact Fl false _ _ (k0.trans k) t (by simp only [AI,↓reduceIte]) (pN h).symm
  ·obtain ⟨i,h7,hi,s,hs,hm⟩:=j6 h; have xo:=Dm hi; have j7:s=c[i]:=by rw [List.getElem?_eq_getElem xo] at hs; cases hs; rfl
   have JC:Ao c x size=!B5 x.AH.length fun k=>match x.AH[k]? with
     | some n=>!C1 (A4 c i k) n size
     | none=>false:=by
    unfold Ao; rw [hi]; simp only [hs,hm,Bool.true_and]
   simp only [Ze,Ay]; refine DK (fun k e ds W'=>ds=[]∧∃ j:Nat,Kp W0 W'∧Ag W'∧e 0=v0∧e 2=.int .i64 size∧e 4=.pointer (some ⟨W.sz,0,none⟩)∧e 7=.int .i64 i∧e 8=.int .i64 j∧j≤x.AH.length∧k=x.AH.length-j∧∀ m n,m<j→x.AH[m]?=some n→C1 (A4 c i m) n size=true) x.AH.length ⟨rfl,0,k,t,h0,h2,h4,h7,rfl,by omega,by omega,by omega⟩ ?_; rintro k e ds W' ⟨rfl,j,k',t',h0,h2,h4,h7,h8,hj,rfl,A0⟩; rw [xn,h0,h2,h4,h7,h8]; have Uy:AV 5 (Dc W') v0 c:=mP.imp fun _ _ _ hr=>hr.kp t0 k'; have YY:W'.cell W.sz 1=some vv:=k'.cell t0 Uj; have HD:AV 1 (Dx W') vv x.AH:=zS.imp fun _ _ _ hr=>hr.kp ht (k0.trans k'); obtain ⟨a,cap,rfl,Ah⟩:=HD; simp only [FL,AA]; rw [AF Nb (a:=⟨W.sz,0+1,none⟩) YY]; simp only [AA,AU FJ,AS]
   refine AD (fun h=>?_) (fun h=>?_)
   ·have Ae:j<x.AH.length:=by simpa using h
    have RM:=List.getElem?_eq_getElem Ae; obtain ⟨p,rfl,hp,sD,P1⟩:=Ah j _ RM; rw [Ad FJ s3 Ae]; simp only [AA]; rw [AF a3 (a:=⟨p.block,p.off+j*1,none⟩) hp]; simp only [AA]
    have hkj:c[i].elem=0→j<(Ap c i).length:=by
     intro he; subst j7; unfold Dd at hm; rw [if_neg (by simp [he])] at hm; have:=of_decide_eq_true hm; omega
    have Ik:∀ (b:Bool) (e:Env) W',Kp W0 W'→Ag W'→e 0=v0→e 2=.int .i64 size→e 4=.pointer (some ⟨W.sz,0,none⟩)→e 7=.int .i64 i→e 8=.int .i64 j→e 88=.bool b→b=!C1 (A4 c i j) x.AH[j] size →
      (Ev none (FD (fun k e ds W'=>ds=[]∧∃ j:Nat,Kp W0 W'∧Ag W'∧e 0=v0∧e 2=.int .i64 size∧e 4=.pointer (some ⟨W.sz,0,none⟩)∧e 7=.int .i64 i∧e 8=.int .i64 j∧j≤x.AH.length∧k=x.AH.length-j∧∀ m n,m<j→x.AH[m]?=some n→C1 (A4 c i m) n size=true) (x.AH.length-j) (CL 0 (VL none K)))) .normal e [] W':=by
     intro b e W1 k1 t1 g0 g2 g4 g7 g8 g88 hb; simp only [Ev,Ay]; rw [g88]
     refine AD (fun KB=>?_) (fun KB=>?_)
     ·simp only [XP,G4,tf,JI,VL]; refine Fl false _ _ (k0.trans k1) t1 (by simp only [AI,↓reduceIte]) ?_; rw [JC]
      symm
      rw [Bool.not_eq_false']; exact BT Ae (by rw [RM]; simp only; rw [←hb,KB])
     ·simp only [XP,Ay,g8,AO,AA,St]
      refine ⟨x.AH.length-(j+1),by omega,trivial,j+1,k1,t1,?_,?_,?_,?_,?_,Ae,rfl,fun m n hmn J'=>?_⟩
      ·simp only [AI,AQ,Nat.reduceEqDiff,↓reduceIte,g0]
      ·simp only [AI,AQ,Nat.reduceEqDiff,↓reduceIte,g2]
      ·simp only [AI,AQ,Nat.reduceEqDiff,↓reduceIte,g4]
      ·simp only [AI,AQ,Nat.reduceEqDiff,↓reduceIte,g7]
      ·simp only [AI,↓reduceIte]; rw [wrap64 (by omega) (by omega)]; rfl
      ·rcases Nat.lt_succ_iff_lt_or_eq.1 hmn with h2 | rfl
       ·exact A0 m n h2 J'
       ·rw [RM] at J'; cases J'; rw [KB] at hb
        simpa using hb
    have leaf:∀ (b:Bool) (e1:Env) W1,Kp W0 W1→Ag W1→e1 0=v0∧e1 2=.int .i64 size∧e1 4=.pointer (some ⟨W.sz,0,none⟩)∧e1 7=.int .i64 i∧e1 8=.int .i64 j∧e1 88=.bool b→b=!C1 (A4 c i j) x.AH[j] size→_:=fun b e1 W1 k1 t1 ⟨g0,g2,g4,g7,g8,g88⟩ hb=>Ik b e1 W1 k1 t1 g0 g2 g4 g7 g8 g88 hb
    have second:∀ W1,Kp W' W1→Ag W1→AX prog Br 70 [v0,.int .i64 i,.int .i64 j] W1 (YC (.int .u8 (A4 c i j)) W1):=fun W1 k1 t1 =>
     b7 t1 (Uy.imp fun _ _ _ hr=>hr.kp t' k1) hlen hf xo hkj
    refine FV (second W' (.refl _) t') fun W1 k1 t1=>?_; simp only [BK,AA]
    refine AD (fun h1=>?_) (fun h1=>?_)
    ·simp only [AS,Av,AA]
     refine AD (fun h3=>?_) (fun h3=>?_)
     ·refine leaf true _ W1 (k'.trans k1) t1 ?_ (by simp [C1,h1,h3]); simp only [AI,AQ,Nat.reduceEqDiff,↓reduceIte,h0,h2,h4,h7,h8,and_self]
     ·refine AD (fun h5=>?_) (fun h5=>?_)
      ·refine leaf true _ W1 (k'.trans k1) t1 ?_ (by simp [C1,h1,h3,h5]); simp only [AI,AQ,Nat.reduceEqDiff,↓reduceIte,h0,h2,h4,h7,h8,and_self]
      ·refine FV (second W1 k1 t1) fun W2 k2 t2=>?_; have k3:=(k'.trans k1).trans k2; have YU:A4 c i j=1:=by simpa using h1
       simp only [BK,AA,YU,Int.reduceBEq,Ab]; refine leaf false _ W2 k3 t2 ?_ (by simp [C1,YU,h3,h5]); simp only [AI,AQ,Nat.reduceEqDiff,↓reduceIte,h0,h2,h4,h7,h8,and_self]
    ·refine FV (second W1 k1 t1) fun W2 k2 t2=>?_; have k3:=(k'.trans k1).trans k2; simp only [BK,AA]
     refine AD (fun h3=>?_) (fun h3=>?_)
     ·simp only [AS,Av,AA]
      refine AD (fun h5=>?_) (fun h5=>?_)
      ·refine leaf true _ W2 k3 t2 ?_ (by simp [C1,h1,h3,h5]); simp only [AI,AQ,Nat.reduceEqDiff,↓reduceIte,h0,h2,h4,h7,h8,and_self]
      ·refine leaf (decide (x.AH[j]>size)) _ W2 k3 t2 ?_ (by simp [C1,h1,h3,h5]); simp only [AI,AQ,Nat.reduceEqDiff,↓reduceIte,h0,h2,h4,h7,h8,and_self]
     ·refine leaf false _ W2 k3 t2 ?_ (by simp [C1,h1,h3]); simp only [AI,AQ,Nat.reduceEqDiff,↓reduceIte,h0,h2,h4,h7,h8,and_self]
   ·have HQ:j=x.AH.length:=by have:¬j<x.AH.length:=(by simpa using h); omega
    subst HQ; simp only [UF,Gc,if_true,VL,Ay]; refine Fl true _ _ (k0.trans k') t' (by simp only [AI,↓reduceIte]) ?_
    rw [JC,Bu fun m hm=>?_]
    ·rfl
    ·have:=List.getElem?_eq_getElem hm; rw [this]; simp only; rw [A0 m _ hm this]; rfl
 have leaf:∀ (b:Bool) (e:Env) W',Kp W0 W'→Ag W'→e 47=.bool b∧e 0=v0∧e 2=.int .i64 size∧e 4=.pointer (some ⟨W.sz,0,none⟩) →
   (b=true→Ao c x size=false)→(b=false→∃ i,e 7=.int .i64 (i:Nat)∧BL c x.type=some i∧∃ s,c[i]?=some s∧Dd c i s x.AH.length=true)→(JM none K) .normal e [] W':=fun b e W' k t ⟨g47,g0,g2,g4⟩=>ER b e W' k t g47 g0 g2 g4
 simp only [AS,AA]
 cases hi:BL c x.type with
 | none =>
  rw [MV hi]; refine AD (fun h=>?_) (fun h=>by simp at h); refine ⟨trivial,trivial,leaf true _ W0 (.refl _) t0 ?_ (fun _=>by unfold Ao; rw [hi]) (fun h=>by cases h)⟩; simp only [AI,AQ,rC,Nat.reduceEqDiff,↓reduceIte,List.getElem?_cons_zero,List.getElem?_cons_succ,Option.getD_some,and_self]
 | some i =>
  rw [IG hi]; have xo:=Dm hi; have hs:=List.getElem?_eq_getElem xo; refine AD (fun h=>by have:=of_decide_eq_true h; omega) (fun h=>?_)
  have GK:Dd c i c[i] x.AH.length=false→Ao c x size=false:=fun h=>by
   unfold Ao; rw [hi]; simp only [hs,h,Bool.false_and]
  obtain ⟨a,cap,rfl,Ah⟩:=mP; obtain ⟨p,rfl,hp⟩:=Ah i _ hs; obtain ⟨a2,xl,rfl,hvc⟩:=zS; rw [Ad R_ Ui xo]; simp only [AA,Ks,FL]; have tw:ld prog 5 (.pointer (some ⟨p.block,p.off+i*5+3,none⟩)) W0=some (.int .u8 c[i].elem):=AF a5 (a:=⟨p.block,p.off+i*5+3,none⟩) hp.elem; have YY:∀ W1,Kp W0 W1→ld prog 40 (.pointer (some ⟨W.sz,0+1,none⟩)) W1=some (.slice a2 x.AH.length xl):=fun W1 k1=>AF Nb (a:=⟨W.sz,0+1,none⟩) (k1.cell t0 Uj); rw [tw,YY W0 (.refl _)]; simp only [AA,AU FJ,Au,Av,BK]
  refine AD (fun he=>?_) (fun he=>?_)
  ·have NG:c[i].elem≠0:=by simpa using he
   refine AD (fun hg=>?_) (fun hg=>?_)
   ·refine ⟨by simp only [and_self],trivial,leaf true _ W0 (.refl _) t0 ?_ (fun _=>GK ?_) (fun h=>by cases h)⟩
    ·simp only [AI,AQ,rC,Nat.reduceEqDiff,↓reduceIte,List.getElem?_cons_zero,List.getElem?_cons_succ,Option.getD_some,and_self]
    ·unfold Dd; rw [if_pos NG]; have:=of_decide_eq_true hg; exact decide_eq_false (by omega)
   ·have he0:(c[i].elem == 0)=false:=by simpa using NG
    rw [he0]; simp only [Ab]
    refine ⟨by simp only [and_self],trivial,leaf false _ W0 (.refl _) t0 ?_ (fun h=>by cases h) (fun _=>⟨i,?_,hi,_,hs,?_⟩)⟩
    ·simp only [AI,AQ,rC,Nat.reduceEqDiff,↓reduceIte,List.getElem?_cons_zero,List.getElem?_cons_succ,Option.getD_some,and_self]
    ·simp only [AI,Nat.reduceEqDiff,↓reduceIte]
    ·unfold Dd; rw [if_pos NG]; have:=of_decide_eq_false hg; exact decide_eq_true (by omega)
  ·have NG:c[i].elem=0:=by simpa using he
   have he0:(c[i].elem == 0)=true:=by simp [NG]
   rw [he0]; simp only [A3]; have AHE:AV 5 (Dc W0) (.slice (some p) c.length cap) c:=⟨_,_,rfl,Ah⟩
   refine (XL t0 AHE hlen hf xo).mono fun en W1 ⟨k1,t1,vo,E9,ho,hn⟩=>?_; subst E9; have YD:(Be (Ap c i)).length=(Ap c i).length*1:=by simp [Be]
   simp only [DQ,MT Yc ho (by omega) YD,AA,Au]
   refine ⟨by simp only [YY _ k1,and_self],trivial,leaf (((x.AH.length:Int) != ((Ap c i).length:Nat))) _ W1 k1 t1 ?_ (fun h=>GK ?_) (fun h=>⟨i,?_,hi,_,hs,?_⟩)⟩
   ·simp only [AI,AQ,rC,Nat.reduceEqDiff,↓reduceIte,List.getElem?_cons_zero,List.getElem?_cons_succ,Option.getD_some,and_self]
   ·unfold Dd; rw [if_neg (by simp [NG])]; have:(x.AH.length:Int)≠(Ap c i).length:=by simpa using h
    exact decide_eq_false (by omega)
   ·simp only [AI,Nat.reduceEqDiff,↓reduceIte]
   ·unfold Dd; rw [if_neg (by simp [NG])]; have:(x.AH.length:Int)=(Ap c i).length:=by simpa using h
    exact decide_eq_true (by omega)
end Go.Ce
namespace Go.Ce
open Go Go.Proofs Go.Proofs.Tryz
theorem Zf {v0 v1:Value} {c:List Al} {h:List B9} {W:CW} (ht:Ag W) (hc:AV 5 (Dc W) v0 c) (hlen:c.length<200) (hf:∀ x,x ∈ c→x.fields.length≤100) (hh:AV 2 (Ek W) v1 h) (hhl:h.length<100000) (hv:∀ x,x ∈ h→x.AH.length<1000000) :
  AX prog Br 94 [v0,v1] W (YC (.int .i64 (DT c h)) W):=by
 refine AE2 ?_; rw [AE1]; obtain ⟨a,cap,rfl,Ah⟩:=hh; simp only [AU P3,AA,Av]; unfold DT
 refine AD (fun hg=>?_) (fun hg=>?_)
 ·rw [Sy]; rw [if_pos (by have:=of_decide_eq_true hg; omega)]; exact ⟨by simp only [AI,↓reduceIte],.refl _,ht⟩
 ·rw [if_neg (by have:=of_decide_eq_false hg; omega)]; refine DK (fun k e ds W'=>ds=[]∧∃ j:Nat,Kp W W'∧Ag W'∧e 0=v0∧e 1=.slice a h.length cap∧e 5=.int .i64 j∧j≤h.length∧k=h.length-j∧∀ m x,m<j→h[m]?=some x→(!Ao c x h.length)=false) h.length ⟨rfl,0,.refl _,ht,rfl,rfl,rfl,by omega,by omega,by omega⟩ ?_; rintro k e ds W' ⟨rfl,j,k',t',h0,h1,h5,hj,rfl,A0⟩; rw [ABq,h0,h1,h5]; simp only [AU P3,AA,AS]
  refine AD (fun Ae=>?_) (fun Ae=>?_)
  ·have Ae:j<h.length:=by simpa using Ae
   have hx:=List.getElem?_eq_getElem Ae; obtain ⟨p,rfl,hr⟩:=Ah j _ hx; obtain ⟨u,hu,ha⟩:=(hr.kp ht k').ld; rw [Ad P3 MN Ae]; simp only [AA,hu]; refine FV (tv t' (hc.imp fun _ _ _ hr=>hr.kp ht k') hlen hf ha (hv _ (List.getElem_mem _)) (by omega)) fun W1 k1 t1=>?_; simp only [Ac,AA]
   refine AD (fun hb=>?_) (fun hb=>?_)
   ·simp only [fa,G4,JI,St,tf,jz,Sy]; refine ⟨?_,k'.trans k1,t1⟩; simp only [AI,↓reduceIte,N5 Ae hb A0]
   ·simp only [fa,Ay,St]; simp only [AI,AQ,Nat.reduceEqDiff,↓reduceIte,h0,h1,h5,AO,AA]
    refine ⟨h.length-(j+1),by omega,trivial,j+1,k'.trans k1,t1,trivial,trivial,?_,Ae,rfl,fun m x hm J'=>?_⟩
    ·rw [wrap64 (by omega) (by omega)]; rfl
    ·rcases Nat.lt_succ_iff_lt_or_eq.1 hm with h2 | rfl
     ·exact A0 m x h2 J'
     ·rw [hx] at J'; cases J'; exact hb
  ·have HQ:j=h.length:=by have:¬j<h.length:=(by simpa using Ae); omega
   subst HQ; simp only [Ay,Mk,Gc,UF,if_true,jz,Sy]; refine ⟨?_,k',t'⟩; simp only [AI,↓reduceIte,Lc fun j x hj hx=>A0 j x (by omega) hx]
end Go.Ce
namespace Go.Ce
open Go Go.Proofs Go.Proofs.Tryz
def LB (mp:List Int) (k:Nat) (n:Int):Bool:=B5 k fun m=>decide (mp[m]?=some n)
def Ey (fr to:List Int) (mp:List Int) (k:Nat):Bool:=match mp[k]? with
 | none=>true
 | some n=>decide (n<0) || decide (n≥fr.length) || decide (fr[n.toNat]?≠to[k]?) || LB mp k n
def EL (l:List C5) (s:C5) (i k:Nat):Bool:=match l[k]? with
 | none=>false
 | some x=>decide (x.type=s.to) || (decide (k<i) && decide (x.to=s.to))
def elemAt (c:List Al) (t:Nat):Int:=match c[t]? with
 | some x=>x.elem
 | none=>0
def Fx (l:List C5) (s:C5):Nat→Bool
 | 0=>false
 | i+1=>match l[i]? with
  | some x=>!SA (sb x.type) (sb s.type)
  | none=>false
def Gd (c:List Al) (l:List C5) (i:Nat):Bool:=match l[i]? with
 | none=>true
 | some s=>match BL c s.type,BL c s.to with
  | some t,some a=>(decide (elemAt c t≠0) || decide (elemAt c a≠0) || Fx l s i) || (B5 l.length (EL l s i) || (decide (s.map.length≠(Ap c a).length) || B5 (Ap c a).length (Ey (Ap c t) (Ap c a) s.map)))
  | _,_=>true
def Bl (c:List Al) (l:List C5):Bool:=decide (l.length≤20) && !B5 l.length (Gd c l)
theorem RR (W:CW) {b o:Nat} {x:C5} (h:Ho W b o x):ld prog 9 (.pointer (some ⟨b,o,none⟩)) W=some (.string x.type)∧ld prog 9 (.pointer (some ⟨b,o+1,none⟩)) W=some (.string x.to) :=
 ⟨AF a9 (a:=⟨b,o,none⟩) h.type,AF a9 (a:=⟨b,o+1,none⟩) h.to⟩
theorem Nf {W:CW} {b o:Nat} {x:C5} (h:Ho W b o x):∃ v,ld prog 40 (.pointer (some ⟨b,o+2,none⟩)) W=some v∧AV 1 (Dx W) v x.map:=by
 obtain ⟨v,h1,h2,_⟩:=h.map; exact ⟨v,AF Nb (a:=⟨b,o+2,none⟩) h1,h2⟩
theorem xp {ro:Option Nat} {e:Env} {ds:List Deferred} {W:CW} {K:AB} {v1:Value} {l:List C5} {i k:Nat} {s:C5} {n:Int} (hl:AV 3 (Ho W) v1 l) (hs:l[i]?=some s) (h1:e 1=v1) (h5:e 5=.int .i64 i) (Mr:e 11=.int .i64 k) (cG:e 12=.int .i64 n) (hk:k≤s.map.length) (hkb:k<100000)
  (PO:LB s.map k n=true→∀ e',e' 4=.bool false→K .ret e' ds W) (Hv:LB s.map k n=false→∀ e',Bi [0,1,5,6,7,8,9,10,11] e e'→K (.exit 6) e' ds W) :
  Fk prog Br ro 99 175 (.loop (ES prog 99 3)) (Env.of e [(13,.int .i64 0)]) ds W K:=by
 refine DI (fun m e' DC W'=>DC=ds∧W'=W∧Bi [0,1,5,6,7,8,9,10,11,12] e e'∧e' 13=.int .i64 m∧∀ j,j<m→decide (s.map[j]?=some n)=false) k ⟨rfl,rfl,.put rfl,rfl,by omega⟩ ?_; rintro m e' DC W' hm ⟨rfl,rfl,hA,h13,A0⟩; rw [ABu,h13,(hA 11 (by decide)).trans Mr,(hA 1 (by decide)).trans h1,(hA 5 (by decide)).trans h5,(hA 12 (by decide)).trans cG]; simp only [AS,AA]
 refine FW (fun Ae=>?_) (fun HQ=>?_)
 ·obtain ⟨a,cap,rfl,Ah⟩:=hl; obtain ⟨p,rfl,hr⟩:=Ah i _ hs; obtain ⟨vm,X_,a2,xl,rfl,fb⟩:=Nf hr; have qp:m<s.map.length:=by omega
  have hx:=List.getElem?_eq_getElem qp; obtain ⟨q,rfl,hq⟩:=fb m _ hx; rw [Ad Uq bq (List.getElem?_eq_some_iff.1 hs).1]; simp only [AA,Kt,X_]; rw [Ad FJ s3 qp]; simp only [AA]; rw [AF a3 (a:=⟨q.block,q.off+m*1,none⟩) hq.1]; simp only [AA,BK]
  refine AD (fun hb=>?_) (fun hb=>?_)
  ·simp only [Zd,G4,Fz,Ml]; exact PO (BT Ae (by rw [hx]; simpa using hb)) _ (by simp only [AI,↓reduceIte])
  ·simp only [Zd,Ay,Fz]; simp only [AI,AQ,Nat.reduceEqDiff,↓reduceIte,h13,AO,AA]; refine ⟨Ae,trivial,trivial,(hA.trans (.put rfl)).trans (.put rfl),by rw [C4 (by omega)],D4 A0 ?_⟩; rw [hx]; simpa using hb
 ·simp only [KA]; exact Hv (Bu fun j hj=>A0 j (by omega)) _ fun t ht=>(Bi.put rfl t (by exact ht)).trans (hA t (by revert t; decide))
theorem pO {ro:Option Nat} {e:Env} {ds:List Deferred} {W:CW} {K:AB} {v1:Value} {l:List C5} {i:Nat} {s:C5} (hl:AV 3 (Ho W) v1 l) (hs:l[i]?=some s) (h1:e 1=v1) (h5:e 5=.int .i64 i) (hlb:l.length<100000)
  (PO:B5 l.length (EL l s i)=true→∀ e',e' 4=.bool false→K .ret e' ds W) (Hv:B5 l.length (EL l s i)=false→∀ e',Bi [0,1,5,6,7] e e'→K (.exit 2) e' ds W) :
  Fk prog Br ro 99 175 (.loop (ES prog 99 1)) (Env.of e [(8,.int .i64 0)]) ds W K:=by
 refine DI (fun m e' DC W'=>DC=ds∧W'=W∧Bi [0,1,5,6,7] e e'∧e' 8=.int .i64 m∧∀ j,j<m→EL l s i j=false) l.length ⟨rfl,rfl,.put rfl,rfl,by omega⟩ ?_; rintro m e' DC W' hm ⟨rfl,rfl,hA,h8,A0⟩; obtain ⟨a,cap,rfl,Ah⟩:=hl; rw [ABs,h8,(hA 1 (by decide)).trans h1,(hA 5 (by decide)).trans h5]; simp only [AU Uq,AS,AA]; have IX:=(List.getElem?_eq_some_iff.1 hs).1
 refine FW (fun Ae=>?_) (fun HQ=>?_)
 ·obtain ⟨p,rfl,hr⟩:=Ah i _ hs; have hx:=List.getElem?_eq_getElem Ae; obtain ⟨p',hZ,hrm⟩:=Ah m _ hx
  cases hZ
  have sU:EL l s i m=(decide (l[m].type=s.to) || (decide (m<i) && decide (l[m].to=s.to))):=by unfold EL; rw [hx]
  rw [Ad Uq bq IX,Ad Uq bq Ae]; obtain ⟨r1,r2⟩:=RR _ hr; obtain ⟨r3,r4⟩:=RR _ hrm; simp only [AA,JJ,JK,r2,r3,r4,JV,G5]
  have leaf:∀ (b:Bool) (e1:Env),Bi [0,1,5,6,7,8] e' e1→e1 111=.bool b→b=EL l s i m→(RO ro (J_ (fun m e' j8 Zg=>j8=DC∧Zg=W'∧Bi [0,1,5,6,7] e e'∧e' 8=.int .i64 m∧∀ j,j<m→EL l s i j=false) m l.length K)) .normal e1 DC W':=by
   intro b e1 Y5 AHF hb; simp only [RO,Ay,AHF]
   refine AD (fun KB=>?_) (fun KB=>?_)
   ·simp only [Za,G4,Fz,Ml]; exact PO (BT Ae (by rw [←hb,KB])) _ (by simp only [AI,↓reduceIte])
   ·simp only [Za,Ay,Fz,(Y5 8 (by decide)).trans h8,AO,AA]; refine ⟨Ae,trivial,trivial,(hA.trans fun t ht=>Y5 t (by revert t; decide)).trans (.put rfl),?_,D4 A0 (by rw [←hb,KB])⟩; simp only [AI,↓reduceIte]; rw [C4 (by omega)]
  refine AD (fun hb=>?_) (fun hb=>?_)
  ·exact ⟨by simp only [and_self],trivial,leaf true _ (.put rfl) (by simp only [AI,↓reduceIte]) (by rw [sU,hb]; rfl)⟩
  ·refine FW (fun K3=>?_) (fun pP=>?_)
   ·exact ⟨by simp only [and_self],trivial,leaf (decide (l[m].to=s.to)) _ (.put rfl) (by simp only [AI,↓reduceIte]) (by rw [sU,hb,decide_eq_true K3]; rfl)⟩
   ·exact ⟨by simp only [and_self],trivial,leaf false _ (.put rfl) (by simp only [AI,↓reduceIte]) (by rw [sU,hb,decide_eq_false (by omega)]; rfl)⟩
 ·simp only [KA]; exact Hv (Bu fun j hj=>A0 j (by omega)) _ (hA.trans (.put rfl))
def wJ (W:CW) (b o:Nat) (x:Int):Prop:=W.cell b o=some (.int .u8 x)
theorem xq {ro:Option Nat} {e:Env} {ds:List Deferred} {W:CW} {K:AB} {v1 vf vt:Value} {l:List C5} {i:Nat} {s:C5} {fr to:List Int} (hl:AV 3 (Ho W) v1 l) (hs:l[i]?=some s) (h1:e 1=v1) (h5:e 5=.int .i64 i) (h9:e 9=vf) (KC:e 10=vt) (hf:AV 1 (wJ W) vf fr) (ht:AV 1 (wJ W) vt to) (hmt:s.map.length=to.length) (hlb:to.length<100000)
  (PO:B5 to.length (Ey fr to s.map)=true→∀ e',e' 4=.bool false→K .ret e' ds W) (Hv:B5 to.length (Ey fr to s.map)=false→∀ e',Bi [0,1,5] e e'→K (.exit 4) e' ds W) :
  Fk prog Br ro 99 175 (.loop (ES prog 99 2)) (Env.of e [(11,.int .i64 0)]) ds W K:=by
 refine DI (fun m e' DC W'=>DC=ds∧W'=W∧Bi [0,1,5,9,10] e e'∧e' 11=.int .i64 m∧∀ j,j<m→Ey fr to s.map j=false) to.length ⟨rfl,rfl,.put rfl,rfl,by omega⟩ ?_; rintro m e' DC W' hm ⟨rfl,rfl,hA,Mr,A0⟩; have NI:=hl; obtain ⟨a,cap,rfl,Ah⟩:=NI; obtain ⟨af,j_,rfl,hfc⟩:=hf; obtain ⟨at',AI8,rfl,htc⟩:=ht; have g1:=(hA 1 (by decide)).trans h1; have g5:=(hA 5 (by decide)).trans h5; rw [ABt,Mr,g1,g5,(hA 9 (by decide)).trans h9,(hA 10 (by decide)).trans KC]; simp only [AU Yc,AS,AA]; have IX:=(List.getElem?_eq_some_iff.1 hs).1
 refine FW (fun Ae=>?_) (fun HQ=>?_)
 ·obtain ⟨p,rfl,hr⟩:=Ah i _ hs; obtain ⟨vm,X_,a2,xl,rfl,fb⟩:=Nf hr; have qp:m<s.map.length:=by omega
  have hx:=List.getElem?_eq_getElem qp; have xu:=List.getElem?_eq_getElem Ae; obtain ⟨q,rfl,hq⟩:=fb m _ hx; obtain ⟨qt,rfl,hqt⟩:=htc m _ xu; rw [Ad Uq bq IX]; simp only [AA,Kt,X_]; rw [Ad FJ s3 qp]; simp only [AA]; rw [AF a3 (a:=⟨q.block,q.off+m*1,none⟩) hq.1]; simp only [AA,AS,CZ]; have zT:Ey fr to s.map m=(decide (s.map[m]<0) || decide (s.map[m]≥fr.length) || decide (fr[s.map[m].toNat]?≠to[m]?) || LB s.map m s.map[m]):=by unfold Ey; rw [hx]
  have leaf:∀ (b:Bool) (e1:Env),Bi [0,1,5,9,10,11] e' e1→e1 159=.bool b→e1 12=.int .i64 s.map[m]→(b=true→Ey fr to s.map m=true)→(b=false→Ey fr to s.map m=LB s.map m s.map[m])→(RP ro (J_ (fun m e' j8 Zg=>j8=DC∧Zg=W'∧Bi [0,1,5,9,10] e e'∧e' 11=.int .i64 m∧∀ j,j<m→Ey fr to s.map j=false) m to.length K)) .normal e1 DC W':=by
   intro b e1 Y5 ABx cG pN j6; simp only [RP,Ay,ABx]
   refine AD (fun KB=>?_) (fun KB=>?_)
   ·simp only [Zc,G4,JI]; exact PO (BT Ae (pN KB)) _ (by simp only [AI,↓reduceIte])
   ·simp only [Zc,Ay]; have tx:=j6 KB
    refine xp hl hs ((Y5 1 (by decide)).trans g1) ((Y5 5 (by decide)).trans g5) ((Y5 11 (by decide)).trans Mr) cG (by omega) (by omega) (fun hd e2 h4=>?_) (fun hd e2 Lh=>?_)
    ·simp only [G4,JI,Fz,Ml,Zb]; exact PO (BT Ae (by rw [tx,hd])) _ h4
    ·simp only [Ay,Mk,jr,Gc,Fz,KA,if_true,Zb,(Lh 11 (by decide)).trans ((Y5 11 (by decide)).trans Mr),AO,AA]; refine ⟨Ae,trivial,trivial,((hA.trans fun t ht=>Y5 t (by revert t; decide)).trans fun t ht=>Lh t (by revert t; decide)).trans (.put rfl),?_,D4 A0 (by rw [tx,hd])⟩; simp only [AI,↓reduceIte]; rw [C4 (by omega)]
  refine AD (fun hb=>?_) (fun hb=>?_)
  ·exact ⟨by trivial,trivial,leaf true _ (.put rfl) (by simp only [AI,↓reduceIte]) (by simp only [AI,Nat.reduceEqDiff,↓reduceIte]) (fun _=>by rw [zT,hb]; rfl) (fun h=>by cases h)⟩
  ·have wx:=of_decide_eq_false hb
   refine AD (fun P1=>?_) (fun P1=>?_)
   ·exact ⟨by simp only [and_self],trivial,leaf true _ (.put rfl) (by simp only [AI,↓reduceIte]) (by simp only [AI,Nat.reduceEqDiff,↓reduceIte]) (fun _=>by rw [zT,hb,P1]; rfl) (fun h=>by cases h)⟩
   ·have AHG:=of_decide_eq_false P1; have hn:s.map[m].toNat<fr.length:=by omega
    have hxf:=List.getElem?_eq_getElem hn; obtain ⟨qf,rfl,hqf⟩:=hfc _ _ hxf; have e1:(Value.int IntKind.i64 s.map[m])=.int .i64 ((s.map[m].toNat:Nat):Int):=by rw [Int.toNat_of_nonneg (by omega)]
    have YU:ew prog 29 (.slice (some qf) fr.length j_) (.int .i64 s.map[m])=some (.pointer (some ⟨qf.block,qf.off+s.map[m].toNat*1,none⟩)):=by rw [e1]; exact Ad Yc s5 hn
    rw [YU]; simp only [AA]; rw [AF a5 (a:=⟨qf.block,qf.off+s.map[m].toNat*1,none⟩) hqf,Ad Yc s5 Ae]; simp only [AA]; rw [AF a5 (a:=⟨qt.block,qt.off+m*1,none⟩) hqt]; simp only [AA,Au]
    refine ⟨by simp only [and_self],trivial,leaf (fr[s.map[m].toNat] != to[m]) _ (.put rfl) (by simp only [AI,↓reduceIte]) (by simp only [AI,Nat.reduceEqDiff,↓reduceIte]) (fun h=>?_) (fun h=>?_)⟩
    ·have h:fr[s.map[m].toNat]≠to[m]:=by simpa using h
     rw [zT,hxf,xu,decide_eq_true (show some fr[s.map[m].toNat]≠some to[m] by simpa using h)]; simp
    ·have h:fr[s.map[m].toNat]=to[m]:=by simpa using h
     rw [zT,hb,P1,hxf,xu,decide_eq_false (show ¬some fr[s.map[m].toNat]≠some to[m] by simp [h])]; rfl
 ·simp only [KA]; exact Hv (Bu fun j hj=>A0 j (by omega)) _ (fun t ht=>(Bi.put rfl t (by exact ht)).trans (hA t (by revert t; decide)))
end Go.Ce
namespace Go.Ce
open Go Go.Proofs Go.Proofs.Tryz
theorem fc {v0 v1:Value} {c:List Al} {l:List C5} {W:CW} (ht:Ag W) (hc:AV 5 (Dc W) v0 c) (hlen:c.length<200) (hf:∀ x,x ∈ c→x.fields.length≤100) (hl:AV 3 (Ho W) v1 l) (UU:l.length<100000) :
  AX prog Br 99 [v0,v1] W (YC (.bool (Bl c l)) W):=by
 refine AE4 ?_; rw [AE3]; have hl0:=hl; obtain ⟨a,cap,rfl,_⟩:=hl0; simp only [AU Uq,AA,Av]; generalize GD:AJ prog Tryz.f99 (YC (.bool (Bl c l)) W)=K
 have Fl:∀ (b:Bool) (e:Env) W',Kp W W'→Ag W'→e 4=.bool b→b=Bl c l→K .ret e [] W':=by
  intro b e W' k t h6 hb; rw [←GD,pM,h6,hb]; exact ⟨rfl,k,t⟩
 refine AD (fun hg=>?_) (fun hg=>?_)
 ·refine Fl false _ _ (.refl _) ht (by simp only [AI,↓reduceIte]) ?_; have:=of_decide_eq_true hg; unfold Bl; rw [decide_eq_false (by omega)]; rfl
 ·have hg:=of_decide_eq_false hg
  have Je:Bl c l=!B5 l.length (Gd c l):=by
   unfold Bl; rw [decide_eq_true (by omega)]; rfl
  refine DI (fun i e ds W'=>ds=[]∧Kp W W'∧Ag W'∧e 0=v0∧e 1=.slice a l.length cap∧e 5=.int .i64 i∧∀ j,j<i→Gd c l j=false) l.length ⟨rfl,.refl _,ht,rfl,rfl,rfl,by omega⟩ ?_; rintro i e ds W' hi ⟨rfl,k',t',h0,h1,h5,A0⟩; have Tx:AV 3 (Ho W') (.slice a l.length cap) l:=hl.imp fun _ _ _ hr=>hr.kp ht k'; have Uy:AV 5 (Dc W') v0 c:=hc.imp fun _ _ _ hr=>hr.kp ht k'; rw [ABr,h0,h1,h5]; simp only [AU Uq,AA,AS]
  refine FW (fun Ae=>?_) (fun HQ=>?_)
  ·have hx:=List.getElem?_eq_getElem Ae; have NI:=Tx; obtain ⟨a',cap',ha,Ah⟩:=NI
   cases ha
   obtain ⟨p,rfl,hr⟩:=Ah i _ hx; obtain ⟨r1,r2⟩:=RR _ hr; obtain ⟨vm,X_,fb⟩:=Nf hr; rw [Ad Uq bq Ae]; simp only [AA,JJ,JK,r1]; refine At (MP Uy (by omega)) ?_; simp only [AA,r2]; refine At (MP Uy (by omega)) ?_
   have nI:Gd c l i=true→∀ e1 W1,Kp W W1→Ag W1→e1 4=.bool false→K .ret e1 [] W1:=fun hb e1 W1 k1 t1 h4 =>
    Fl false e1 W1 k1 t1 h4 (by rw [Je,BT Ae hb]; rfl)
   have leaf:∀ (b:Bool) (e1:Env),Bi [0,1,5] e e1→e1 76=.bool b→(b=true→Gd c l i=true) →
     (b=false→∃ t a,e1 6=.int .i64 (t:Nat)∧e1 7=.int .i64 (a:Nat)∧t<c.length∧a<c.length∧Gd c l i=(B5 l.length (EL l l[i] i) || (decide (l[i].map.length≠(Ap c a).length) || B5 (Ap c a).length (Ey (Ap c t) (Ap c a) l[i].map)))) →
     (Ku none (J_ (fun i e ds W'=>ds=[]∧Kp W W'∧Ag W'∧e 0=v0∧e 1=.slice (some p) l.length cap∧e 5=.int .i64 i∧∀ j,j<i→Gd c l j=false) i l.length (CL 0 (PM none K)))) .normal e1 [] W':=by
    intro b e1 hA h76 pN j6; simp only [Ku,Ay,h76]
    refine AD (fun hb=>?_) (fun hb=>?_)
    ·simp only [ZZ,G4,JI,Fz,Ml,Nc,PM]; exact nI (pN hb) _ W' k' t' (by simp only [AI,↓reduceIte])
    ·obtain ⟨t,aa,h6,h7,kB,wK,GK⟩:=j6 hb; have g0:=(hA 0 (by decide)).trans h0; have g1:=(hA 1 (by decide)).trans h1; have g5:=(hA 5 (by decide)).trans h5; simp only [ZZ,Ay]
     refine pO Tx hx g1 g5 (by omega) (fun hn e2 h4=>?_) (fun hn e2 Lh=>?_)
     ·simp only [G4,xc,JI,bKp,Fz,Ml,zKp,ZY,Nc,PM]; exact nI (by rw [GK,hn]; rfl) _ W' k' t' h4
     ·have g0:=(Lh 0 (by decide)).trans g0; have g1:=(Lh 1 (by decide)).trans g1; have g5:=(Lh 5 (by decide)).trans g5; simp only [Ay,Mk,Gc,if_true,ZY,g0,g1,g5,(Lh 6 (by decide)).trans h6,(Lh 7 (by decide)).trans h7]; refine (XL t' Uy hlen hf kB).mono fun en W6 ⟨k6,t6,vf,E9,hof,gv⟩=>?_; subst E9; simp only [DQ]; refine (XL t6 (Uy.imp fun _ _ _ hr=>hr.kp t' k6) hlen hf wK).mono fun en W8 ⟨k8,t8,vt,E9,hot,OW⟩=>?_; subst E9; simp only [DQ]; have k68:=k6.trans k8; have hl8:AV 3 (Ho W8) (.slice (some p) l.length cap) l:=Tx.imp fun _ _ _ hr=>hr.kp t' k68; have AHH:AV 1 (wJ W8) vf (Ap c t):=LA (hof.kp t6 k8); have AHI:AV 1 (wJ W8) vt (Ap c aa):=LA hot; have tz:=hr.kp t' k68; obtain ⟨vm8,AHJ,AE7⟩:=Nf tz; obtain ⟨am,AHK,rfl,_⟩:=AE7; rw [Ad Uq bq Ae]; simp only [AA,Kt,AHJ,AU FJ]; have YD:(Be (Ap c aa)).length=(Ap c aa).length*1:=by simp [Be]
      simp only [MT Yc hot (by omega) YD,AA,Au]
      refine AD (fun hd=>?_) (fun hd=>?_)
      ·simp only [G4,JI,Fz,Ml,Nc,PM]; refine nI ?_ _ W8 (k'.trans k68) t8 (by simp only [AI,↓reduceIte]); have:(l[i].map.length:Int)≠(Ap c aa).length:=by simpa using hd
       rw [GK,hn,decide_eq_true (by omega)]; rfl
      ·have hd:(l[i].map.length:Int)=(Ap c aa).length:=by simpa using hd
       have hd:l[i].map.length=(Ap c aa).length:=by omega
       have hG:(Ap c aa).length≤20100:=by unfold Ap; rw [List.length_map]; exact Ij hlen hf aa
       refine xq hl8 hx g1 g5 rfl rfl AHH AHI hd (by omega) (fun hm e3 h4=>?_) (fun hm e3 hA3=>?_)
       ·simp only [G4,JI,Fz,Ml,Nc,PM]; exact nI (by rw [GK,hn,hd,hm]; simp) _ W8 (k'.trans k68) t8 h4
       ·have q0:e3 0=v0:=(hA3 0 (by decide)).trans g0; have q1:e3 1=.slice (some p) l.length cap:=(hA3 1 (by decide)).trans g1; have q5:e3 5=.int .i64 i:=(hA3 5 (by decide)).trans g5; simp only [Ay,Mk,jr,Gc,Fz,KA,if_true,Nc,q5,AO,AA]
        refine ⟨Ae,trivial,k'.trans k68,t8,?_,?_,?_,D4 A0 (by rw [GK,hn,hm,hd]; simp)⟩
        ·simp only [AI,AQ,Nat.reduceEqDiff,↓reduceIte,q0]
        ·simp only [AI,AQ,Nat.reduceEqDiff,↓reduceIte,q1]
        ·simp only [AI,↓reduceIte]; rw [C4 (by omega)]
   have cH:Gd c l i=match BL c l[i].type,BL c l[i].to with
     | some t,some a=>(decide (elemAt c t≠0) || decide (elemAt c a≠0) || Fx l l[i] i) || (B5 l.length (EL l l[i] i) || (decide (l[i].map.length≠(Ap c a).length) || B5 (Ap c a).length (Ey (Ap c t) (Ap c a) l[i].map)))
     | _,_=>true:=by first | (unfold Gd; rw [hx]; rfl) | (unfold Gd; rw [hx])
   cases PQ:BL c l[i].type with
   | none =>
    rw [MV PQ]; simp only [AS,AA]; refine AD (fun h=>?_) (fun h=>by simp at h); exact ⟨trivial,trivial,leaf true _ (.put rfl) (by simp only [AI,↓reduceIte]) (fun _=>by rw [cH,PQ]) (fun h=>by cases h)⟩
   | some t =>
    have kB:=Dm PQ; rw [IG PQ]; simp only [AS,AA]; refine AD (fun h=>by have:=of_decide_eq_true h; omega) (fun h=>?_)
    cases YE:BL c l[i].to with
    | none =>
     rw [MV YE]; refine AD (fun h=>?_) (fun h=>by simp at h); exact ⟨trivial,trivial,leaf true _ (.put rfl) (by simp only [AI,↓reduceIte]) (fun _=>by rw [cH,PQ,YE]) (fun h=>by cases h)⟩
    | some aa =>
     have wK:=Dm YE; rw [IG YE]; rw [PQ,YE] at cH; simp only at cH; refine AD (fun h=>by have:=of_decide_eq_true h; omega) (fun h=>?_); obtain ⟨ac,AI9,rfl,FP⟩:=Uy; have xu:=List.getElem?_eq_getElem kB; have nJ:=List.getElem?_eq_getElem wK; obtain ⟨pc,rfl,hpt⟩:=FP t _ xu; obtain ⟨pc',AHL,hpa⟩:=FP aa _ nJ
     cases AHL
     have et:elemAt c t=c[t].elem:=by unfold elemAt; rw [xu]
     have ea:elemAt c aa=c[aa].elem:=by unfold elemAt; rw [nJ]
     rw [et,ea] at cH; rw [Ad R_ Ui kB,Ad R_ Ui wK]; simp only [AA,Ks]; rw [AF a5 (a:=⟨pc.block,pc.off+t*5+3,none⟩) hpt.elem,AF a5 (a:=⟨pc.block,pc.off+aa*5+3,none⟩) hpa.elem]; simp only [AA,Au,Av]
     refine AD (fun he=>?_) (fun he=>?_)
     ·have he:c[t].elem≠0:=by simpa using he
      exact ⟨by simp only [and_self],trivial,leaf true _ (.put rfl) (by simp only [AI,↓reduceIte]) (fun _=>by rw [cH,decide_eq_true he]; rfl) (fun h=>by cases h)⟩
     ·have he:c[t].elem=0:=by simpa using he
      refine AD (fun OJ=>?_) (fun OJ=>?_)
      ·have OJ:c[aa].elem≠0:=by simpa using OJ
       exact ⟨by simp only [and_self],trivial,leaf true _ (.put rfl) (by simp only [AI,↓reduceIte]) (fun _=>by rw [cH,decide_eq_true OJ]; simp) (fun h=>by cases h)⟩
      ·have OJ:c[aa].elem=0:=by simpa using OJ
       have Ol:∀ b,Fx l l[i] i=b→b=false→Gd c l i=(B5 l.length (EL l l[i] i) || (decide (l[i].map.length≠(Ap c aa).length) || B5 (Ap c aa).length (Ey (Ap c t) (Ap c aa) l[i].map))):=by
        intro b h1 h2; rw [cH,h1,h2,decide_eq_false (by simpa using he),decide_eq_false (by simpa using OJ)]; rfl
       cases i with
       | zero =>
        refine AD (fun h=>by simp at h) (fun _=>?_); exact ⟨by simp only [and_self],trivial,leaf false _ (.put rfl) (by simp only [AI,↓reduceIte]) (fun h=>by cases h) (fun _=>⟨t,aa,by simp only [AI,Nat.reduceEqDiff,↓reduceIte],by simp only [AI,Nat.reduceEqDiff,↓reduceIte],kB,wK,Ol _ rfl rfl⟩)⟩
       | succ i =>
        refine AD (fun _=>?_) (fun h=>by have:=of_decide_eq_false h; omega); have kC:i<l.length:=by omega
        have nK:=List.getElem?_eq_getElem kC; obtain ⟨p',hZ,t_⟩:=Ah i _ nK
        cases hZ
        obtain ⟨r3,r4⟩:=RR _ t_; have es:((i+1:Nat):Int)-1=(i:Nat):=by omega
        simp only [Ak,AA,es]; rw [wrap64 (by omega) (by omega),Ad Uq bq kC]; simp only [AA,JJ,r1,r3,N3]; have uA:Fx l l[i+1] (i+1)=!SA (sb l[i].type) (sb l[i+1].type):=by unfold Fx; simp only [nK]
        exact ⟨by simp only [and_self],trivial,leaf (!SA (sb l[i].type) (sb l[i+1].type)) _ (.put rfl) (by simp only [AI,↓reduceIte]) (fun h=>by rw [cH,uA,h]; simp) (fun h=>⟨t,aa,by simp only [AI,Nat.reduceEqDiff,↓reduceIte],by simp only [AI,Nat.reduceEqDiff,↓reduceIte],kB,wK,Ol _ uA h⟩)⟩
  ·simp only [Ay,Mk,Gc,KA,if_true,PM]; exact Fl true _ W' k' t' (by simp only [AI,↓reduceIte]) (by rw [Je,Bu fun j hj=>A0 j (by omega)]; rfl)
end Go.Ce
namespace Go.Ce
open Go Go.Proofs Go.Proofs.Tryz
def FX (c:List Al) (x:Al):Nat→Bool
 | 0=>false
 | i+1=>match c[i]? with
  | some y=>!SA (sb y.name) (sb x.name)
  | none=>false
def A8 (c:List Al) (i:Nat):Bool:=match c[i]? with
 | none=>true
 | some x=>(!Gu x.name || FX c x i) || ((decide (x.elem≠0) && (!GC x.elem || decide (x.BR≠C') || decide (0<x.fields.length))) || decide (20<x.fields.length))
def Li (fs:List RG) (k:Nat) (s:ByteArray):Bool:=B5 k fun n=>decide ((fs[n]?).map (·.name)=some s)
def EM (fs:List RG) (k:Nat):Bool:=match fs[k]? with
 | none=>true
 | some f=>(!Gu f.name || !GC f.kind) || Li fs k f.name
def Hq (c:List Al) (i:Nat):Bool:=match Bd c c.length i with
 | none=>true
 | some _=>decide (60<(C0 c i).length) || B5 (C0 c i).length (EM (C0 c i))
def BM (c:List Al):Bool:=decide (c.length≤100) && (!B5 c.length (A8 c) && !B5 c.length (Hq c))
def ABy (W:CW) (b o:Nat) (x:RG):Prop:=Cells W b o (Sw x)
theorem cI {W:CW} {b o:Nat} {x:RG} (h:ABy W b o x):ld prog 9 (.pointer (some ⟨b,o,none⟩)) W=some (.string x.name)∧ld prog 5 (.pointer (some ⟨b,o+1,none⟩)) W=some (.int .u8 x.kind) :=
 ⟨AF a9 (a:=⟨b,o,none⟩) (h 0 _ rfl),AF a5 (a:=⟨b,o+1,none⟩) (h 1 _ rfl)⟩
theorem xv {ro:Option Nat} {e:Env} {ds:List Deferred} {W:CW} {K:AB} {v8:Value} {fs:List RG} {k:Nat} {f:RG} (hl:AV 2 (ABy W) v8 fs) (hs:fs[k]?=some f) (h8:e 8=v8) (h9:e 9=.int .i64 k) (hkb:fs.length<100000)
  (PO:Li fs k f.name=true→∀ e',e' 2=.int .i64 210→K .ret e' ds W) (Hv:Li fs k f.name=false→∀ e',Bi [0,5,8,9] e e'→K (.exit 6) e' ds W) :
  Fk prog Br ro 41 129 (.loop (ES prog 41 3)) (Env.of e [(10,.int .i64 0)]) ds W K:=by
 have YD:=(List.getElem?_eq_some_iff.1 hs).1; refine DI (fun m e' DC W'=>DC=ds∧W'=W∧Bi [0,5,8,9] e e'∧e' 10=.int .i64 m∧∀ j,j<m→decide ((fs[j]?).map (·.name)=some f.name)=false) k ⟨rfl,rfl,.put rfl,rfl,by omega⟩ ?_; rintro m e' DC W' hm ⟨rfl,rfl,hA,KC,A0⟩; rw [ABp,KC,(hA 9 (by decide)).trans h9,(hA 8 (by decide)).trans h8]; simp only [AS,AA]
 refine FW (fun Ae=>?_) (fun HQ=>?_)
 ·obtain ⟨a,cap,rfl,Ah⟩:=hl; obtain ⟨p,rfl,hr⟩:=Ah k _ hs; have qp:m<fs.length:=by omega
  have hx:=List.getElem?_eq_getElem qp; obtain ⟨p',hZ,hq⟩:=Ah m _ hx
  cases hZ
  rw [Ad Yd xg qp,Ad Yd xg YD]; simp only [AA,RI,(cI hr).1,(cI hq).1,JV,G5]
  refine ⟨by simp only [and_self],trivial,AD (fun hb=>?_) (fun hb=>?_)⟩
  ·simp only [ZV,G4,Fz,Ml]; refine PO (BT Ae ?_) _ rfl; rw [hx]; simpa using hb
  ·simp only [ZV,Ay,Fz]; simp only [AI,AQ,Nat.reduceEqDiff,↓reduceIte,KC,AO,AA]; refine ⟨Ae,trivial,trivial,(hA.trans (.put rfl)).trans (.put rfl),by rw [C4 (by omega)],D4 A0 ?_⟩; rw [hx]; simpa using hb
 ·simp only [KA]; exact Hv (Bu fun j hj=>A0 j (by omega)) _ (hA.trans (.put rfl))
theorem uB {ro:Option Nat} {e:Env} {ds:List Deferred} {W:CW} {K:AB} {v8:Value} {fs:List RG} (hl:AV 2 (ABy W) v8 fs) (h8:e 8=v8) (hkb:fs.length<100000) (hnm:∀ f,f ∈ fs→f.name.size<1000)
  (PO:B5 fs.length (EM fs)=true→∀ e',e' 2=.int .i64 210→K .ret e' ds W) (Hv:B5 fs.length (EM fs)=false→∀ e',Bi [0,5] e e'→K (.exit 4) e' ds W) :
  Fk prog Br ro 41 129 (.loop (ES prog 41 2)) (Env.of e [(9,.int .i64 0)]) ds W K:=by
 refine DI (fun m e' DC W'=>DC=ds∧W'=W∧Bi [0,5,8] e e'∧e' 9=.int .i64 m∧∀ j,j<m→EM fs j=false) fs.length ⟨rfl,rfl,.put rfl,rfl,by omega⟩ ?_; rintro m e' DC W' hm ⟨rfl,rfl,hA,h9,A0⟩; have NI:=hl; obtain ⟨a,cap,rfl,Ah⟩:=NI; rw [ABo,h9,(hA 8 (by decide)).trans h8]; simp only [AU Yd,AS,AA]
 refine FW (fun Ae=>?_) (fun HQ=>?_)
 ·have hx:=List.getElem?_eq_getElem Ae; obtain ⟨p,rfl,hr⟩:=Ah m _ hx; have hfb:EM fs m=((!Gu fs[m].name || !GC fs[m].kind) || Li fs m fs[m].name):=by unfold EM; rw [hx]
  rw [Ad Yd xg Ae]; simp only [AA,RI,VE,(cI hr).1]
  have leaf:∀ (b:Bool) (e1:Env),Bi [0,5,8,9] e' e1→e1 112=.bool b→b=(!Gu fs[m].name || !GC fs[m].kind)→(N8 ro (J_ (fun m e' j8 Zg=>j8=DC∧Zg=W'∧Bi [0,5,8] e e'∧e' 9=.int .i64 m∧∀ j,j<m→EM fs j=false) m fs.length K)) .normal e1 DC W':=by
   intro b e1 Y5 AHM hb; simp only [N8,Ay,AHM]
   refine AD (fun KB=>?_) (fun KB=>?_)
   ·simp only [ZU,G4,JI,Fz,Ml,Sx]; exact PO (BT Ae (by rw [hfb,←hb,KB]; rfl)) _ rfl
   ·simp only [ZU,Ay]
    refine xv hl hx ((Y5 8 (by decide)).trans ((hA 8 (by decide)).trans h8)) ((Y5 9 (by decide)).trans h9) (by omega) (fun hd e2 h4=>?_) (fun hd e2 Lh=>?_)
    ·simp only [G4,JI,Fz,Ml,Sx]; exact PO (BT Ae (by rw [hfb,hd]; simp)) _ h4
    ·simp only [Ay,Mk,jr,Gc,Fz,KA,if_true,Sx,(Lh 9 (by decide)).trans ((Y5 9 (by decide)).trans h9),AO,AA]; refine ⟨Ae,trivial,trivial,((hA.trans fun t ht=>Y5 t (by revert t; decide)).trans fun t ht=>Lh t (by revert t; decide)).trans (.put rfl),?_,D4 A0 (by rw [hfb,←hb,KB,hd]; rfl)⟩; simp only [AI,↓reduceIte]; rw [C4 (by omega)]
  refine At (RK (by have:=hnm _ (List.getElem_mem Ae); omega)) ?_; simp only [Ac,AA]
  refine AD (fun hb=>?_) (fun hb=>?_)
  ·exact leaf true _ (.put rfl) rfl (by rw [hb]; rfl)
  ·simp only [(cI hr).2,AA]; refine At (XH _ _) ?_; simp only [Ac,AA]; exact leaf (!GC fs[m].kind) _ (.put rfl) rfl (by rw [hb]; rfl)
 ·simp only [KA]; exact Hv (Bu fun j hj=>A0 j (by omega)) _ (fun t ht=>(Bi.put rfl t (by exact ht)).trans (hA t (by revert t; decide)))
theorem rD:Hz prog 48=some (.agg #[.string ⟨#[]⟩,.string ⟨#[]⟩,.slice none 0 0,.int .u8 0,.slice none 0 0]):=by kernel_rfl
theorem pQ {c:List Al} (hnm:∀ x,x ∈ c→∀ f,f ∈ x.fields→f.name.size<1000) (i:Nat):∀ f,f ∈ C0 c i→f.name.size<1000:=by
 intro f hf; unfold C0 at hf
 split at hf
 ·obtain ⟨j,_,hj⟩:=List.mem_flatMap.1 hf; unfold Is at hj
  split at hj
  ·rename_i x hx; exact hnm x (List.mem_of_getElem? hx) f hj
  ·cases hj
 ·cases hf
structure Ng (c:List Al):Prop where
 len:c.length<200
 fields:∀ x,x ∈ c→x.fields.length≤100
 name:∀ x,x ∈ c→x.name.size<1000
 sup:∀ x,x ∈ c→x.BR.size<1000
 zU:∀ x,x ∈ c→∀ f,f ∈ x.fields→f.name.size<1000
end Go.Ce
namespace Go.Ce
open Go Go.Proofs Go.Proofs.Tryz
theorem Dc.ld {W:CW} {b o:Nat} {x:Al} (h:Dc W b o x):∃ vf ab lb cb,ld prog 48 (.pointer (some ⟨b,o,none⟩)) W=some (.agg [.string x.name,.string x.BR,vf,.int .u8 x.elem,.slice ab lb cb].toArray)∧AV 2 (Su W) vf x.fields:=by
 obtain ⟨vf,h1,h2⟩:=h.fields; obtain ⟨ab,lb,cb,h3⟩:=h.binds; refine ⟨vf,ab,lb,cb,CG (vs:=[.string x.name,.string x.BR,vf,.int .u8 x.elem,.slice ab lb cb]) a48 Ui rfl (by omega) ?_,h2⟩; intro j w hj
 match j,hj with
 | 0,hj=>cases hj; exact h.name
 | 1,hj=>cases hj; exact h.BR
 | 2,hj=>cases hj; exact h1
 | 3,hj=>cases hj; exact h.elem
 | 4,hj=>cases hj; exact h3
theorem XQ (fs:List RG):(fs.flatMap Sw).length=fs.length*2:=Nd Jw fs
theorem RT {v0:Value} {c:List Al} {W:CW} (ht:Ag W) (hc:AV 5 (Dc W) v0 c) (hC:Ng c) :
  AX prog Br 41 [v0] W (YC (.int .i64 (if BM c then 0 else 210)) W):=by
 refine AEw ?_; rw [AEv]; have mP:=hc; obtain ⟨a,cap,rfl,_⟩:=mP; simp only [AU R_,AA,Av]; generalize GD:AJ prog Tryz.f41 (YC (.int .i64 (if BM c then 0 else 210)) W)=K
 have Hv:∀ (e:Env) W',Kp W W'→Ag W'→e 2=.int .i64 210→BM c=false→K .ret e [] W':=by
  intro e W' k t h6 hb; rw [←GD,ZW,h6,hb]; exact ⟨rfl,k,t⟩
 have PO:∀ (e:Env) W',Kp W W'→Ag W'→e 2=.int .i64 0→BM c=true→K .ret e [] W':=by
  intro e W' k t h6 hb; rw [←GD,ZW,h6,hb]; exact ⟨rfl,k,t⟩
 have hlen:=hC.len
 refine AD (fun hg=>?_) (fun hg=>?_)
 ·refine Hv _ _ (.refl _) ht rfl ?_; have:=of_decide_eq_true hg; unfold BM; rw [decide_eq_false (by omega)]; rfl
 ·have hg:=of_decide_eq_false hg
  have Je:BM c=(!B5 c.length (A8 c) && !B5 c.length (Hq c)):=by
   unfold BM; rw [decide_eq_true (by omega)]; rfl
  refine DI (fun i e ds W'=>ds=[]∧Kp W W'∧Ag W'∧e 0=.slice a c.length cap∧e 3=.int .i64 i∧∀ j,j<i→A8 c j=false) c.length ⟨rfl,.refl _,ht,rfl,rfl,by omega⟩ ?_; rintro i e ds W' hi ⟨rfl,k',t',h0,h3,A0⟩; have Uy:AV 5 (Dc W') (.slice a c.length cap) c:=hc.imp fun _ _ _ hr=>hr.kp ht k'; rw [ABm,h0,h3]; simp only [AU R_,AA,AS]
  refine FW (fun Ae=>?_) (fun HQ=>?_)
  ·obtain ⟨x,hx⟩:∃ x,c[i]?=some x:=⟨_,List.getElem?_eq_getElem Ae⟩
   obtain ⟨a',cap',ha,Ah⟩:=Uy
   cases ha
   obtain ⟨p,rfl,hr⟩:=Ah i _ hx; obtain ⟨vf,ab,lb,cb,xw,rE⟩:=hr.ld; have Fj:=List.mem_of_getElem? hx; have uC:A8 c i=((!Gu x.name || FX c x i) || ((decide (x.elem≠0) && (!GC x.elem || decide (x.BR≠C') || decide (0<x.fields.length))) || decide (20<x.fields.length))):=by unfold A8; rw [hx]
   rw [Ad R_ Ui Ae]; simp only [AA,xw]; obtain ⟨af,j_,rfl,_⟩:=rE; refine Dt rD Ui rfl rfl rfl t' fun W2 k2 t2 z2 hB=>?_; have q0:ld prog 9 (.pointer (some ⟨W'.sz,0,none⟩)) W2=some (.string x.name):=AF a9 (a:=⟨W'.sz,0,none⟩) (hB.cell rfl); have q1:ld prog 9 (.pointer (some ⟨W'.sz,0+1,none⟩)) W2=some (.string x.BR):=AF a9 (a:=⟨W'.sz,1,none⟩) (hB.cell rfl); have q2:ld prog 45 (.pointer (some ⟨W'.sz,0+2,none⟩)) W2=some (.slice af x.fields.length j_):=AF a45 (a:=⟨W'.sz,2,none⟩) (hB.cell rfl); have q3:ld prog 5 (.pointer (some ⟨W'.sz,0+3,none⟩)) W2=some (.int .u8 x.elem):=AF a5 (a:=⟨W'.sz,3,none⟩) (hB.cell rfl); simp only [AA,Kr,q0]
   have leaf:∀ (b:Bool) (e1:Env),Bi [0,3] e e1→e1 70=.bool b→b=A8 c i →
     (Hp none (J_ (fun i e ds W'=>ds=[]∧Kp W W'∧Ag W'∧e 0=.slice (some p) c.length cap∧e 3=.int .i64 i∧∀ j,j<i→A8 c j=false) i c.length (CL 0 (jx none K)))) .normal e1 [] W2:=by
    intro b e1 hA wL hb; simp only [Hp,Ay,wL]
    refine AD (fun KB=>?_) (fun KB=>?_)
    ·simp only [fZ,G4,JI,Fz,Ml,fY]; exact Hv _ W2 (k'.trans k2) t2 rfl (by rw [Je,BT Ae (by rw [←hb,KB])]; rfl)
    ·simp only [fZ,Ay,Fz,(hA 3 (by decide)).trans h3,AO,AA]; refine ⟨Ae,trivial,k'.trans k2,t2,(hA 0 (by decide)).trans h0,?_,D4 A0 (by rw [←hb,KB])⟩; simp only [AI,↓reduceIte]; rw [C4 (by omega)]
   refine At (RK (by have:=hC.name _ Fj; omega)) ?_; simp only [Ac,AA]
   refine AD (fun hb=>?_) (fun hb=>?_)
   ·exact ⟨by simp only [and_self],trivial,leaf true _ (.put rfl) rfl (by rw [uC,hb]; rfl)⟩
   ·simp only [Av,AA,RH,MO,Ks,q2,q3,AU Yd,Au]; have fin:FX c x i=false→A8 c i=((decide (x.elem≠0) && (!GC x.elem || decide (x.BR≠C') || decide (0<x.fields.length))) || decide (20<x.fields.length)):=fun hp=>by rw [uC,hb,hp]; rfl
    refine AD (fun h=>?g1) (fun h=>?g2)
    case' g1 =>
     obtain ⟨j,rfl⟩:∃ j,i=j+1:=⟨i-1,by have:=of_decide_eq_true h; omega⟩
     have YF:j<c.length:=by omega
     have nK:=List.getElem?_eq_getElem YF; obtain ⟨p',hZ,t_⟩:=Ah j _ nK
     cases hZ
     have es:((j+1:Nat):Int)-1=(j:Nat):=by omega
     have uA:FX c x (j+1)=!SA (sb c[j].name) (sb x.name):=by unfold FX; simp only [nK]
     have q4:ld prog 9 (.pointer (some ⟨p.block,p.off+j*5,none⟩)) W2=some (.string c[j].name):=AF a9 (a:=⟨p.block,p.off+j*5,none⟩) (k2.cell t' t_.name); simp only [Ak,AA,es]; rw [wrap64 (by omega) (by omega),Ad R_ Ui YF]; simp only [AA,Kr,q0,q4,N3]; refine AD (fun hq=>?h1) (fun hq=>?h2)
     case h1=>exact ⟨by simp only [and_self],trivial,leaf true _ (.put rfl) rfl (by rw [uC,uA,hq]; simp)⟩
     have hpf:=uA.trans hq
    case' g2 =>
     have hpf:FX c x i=false:=by
      cases i with
      | zero=>rfl
      | succ i=>have:=of_decide_eq_false h; omega
    all_goals
     have fin:=fin hpf
     refine AD (fun he=>?_) (fun he=>?_)
     ·have he:decide (x.elem≠0)=true:=by simpa using he
      rw [he,Bool.true_and] at fin; refine At (XH _ _) ?_; simp only [Ac,AA,q1,q2,JW,G5]
      refine AD (fun h1=>?_) (fun h1=>?_)
      ·exact ⟨by simp only [and_self],trivial,leaf true _ (.put rfl) rfl (by rw [fin]; unfold GC; rw [h1]; rfl)⟩
      ·refine AD (fun h2=>?_) (fun h2=>?_)
       ·have h2:decide (x.BR≠C')=true:=decide_eq_true (by simpa [C'] using h2); exact ⟨by simp only [and_self],trivial,leaf true _ (.put rfl) rfl (by rw [fin,h2]; simp)⟩
       ·have h2:decide (x.BR≠C')=false:=decide_eq_false (by simpa [C'] using h2); simp only [AU Yd,AA,Av]
        refine AD (fun h3=>?_) (fun h3=>?_)
        ·have h3:decide (0<x.fields.length)=true:=decide_eq_true (by have:=of_decide_eq_true h3; omega); exact ⟨by simp only [AU Yd,and_self],trivial,leaf true _ (.put rfl) rfl (by rw [fin,h3]; simp)⟩
        ·have h3:decide (0<x.fields.length)=false:=decide_eq_false (by have:=of_decide_eq_false h3; omega); refine ⟨by simp only [AU Yd,and_self],trivial,leaf _ _ (.put rfl) rfl ?_⟩; rw [fin,h2,h3]; unfold GC; rw [h1]; simp only [Bool.or_self,Bool.false_or]; exact decide_eq_decide.2 (by omega)
     ·have he:decide (x.elem≠0)=false:=by simpa using he
      rw [he,Bool.false_and,Bool.false_or] at fin; refine ⟨by simp only [AU Yd,and_self],trivial,leaf _ _ (.put rfl) rfl ?_⟩; rw [fin]; exact decide_eq_decide.2 (by omega)
  ·have hS:B5 c.length (A8 c)=false:=Bu fun j hj=>A0 j (by omega); rw [hS] at Je; simp only [Ay,Mk,Gc,KA,if_true,fY]; refine DI (fun i e ds W'=>ds=[]∧Kp W W'∧Ag W'∧e 0=.slice a c.length cap∧e 5=.int .i64 i∧∀ j,j<i→Hq c j=false) c.length ⟨rfl,k',t',h0,rfl,by omega⟩ ?_; rintro i2 e2 ds2 W2 hi2 ⟨rfl,k2,t2,g0,g5,Nh⟩; rw [ABn,g0,g5]; simp only [AU R_,AA,AS]
   refine FW (fun Ae=>?_) (fun pP=>?_)
   ·have wC:AV 5 (Dc W2) (.slice a c.length cap) c:=hc.imp fun _ _ _ hr=>hr.kp ht k2
    have GK:Hq c i2=true→∀ (e:Env) W',Kp W W'→Ag W'→e 2=.int .i64 210→K .ret e [] W':=fun hb e W' k t h2 =>
     Hv e W' k t h2 (by rw [Je,BT Ae hb]; rfl)
    refine (nD t2 wC (by omega) Ae).mono fun en W3 ⟨k3,t3,Lb⟩=>?_
    cases hli:Bd c c.length i2 with
    | none =>
     rw [hli] at Lb; subst Lb; have e0:ext (.tuple #[.slice none 0 0,.bool false]) 0=some (.slice none 0 0):=rfl; have e1:ext (.tuple #[.slice none 0 0,.bool false]) 1=some (.bool false):=rfl; simp only [DQ,e0,e1,AA,Ac]; rw [show (!false)=true from rfl]; simp only [A3,N7,G4,xc,JI,bKp,Fz,Ml,zKp,XM]; exact GK (by unfold Hq; rw [hli]) _ W3 (k2.trans k3) t3 rfl
    | some li =>
     rw [hli] at Lb; obtain ⟨vo,rfl,ho,OL⟩:=Lb; have e0:ext (.tuple #[vo,.bool true]) 0=some vo:=rfl; have e1:ext (.tuple #[vo,.bool true]) 1=some (.bool true):=rfl; have xx:Hq c i2=(decide (60<(C0 c i2).length) || B5 (C0 c i2).length (EM (C0 c i2))):=by unfold Hq; rw [hli]
     simp only [DQ,e0,e1,AA,Ac]; rw [show (!true)=false from rfl]; simp only [Ab]; have k23:=k2.trans k3; refine (ZT t3 (hc.imp fun _ _ _ hr=>hr.kp ht k23) hlen hC.fields Ae).mono fun en W4 ⟨k4,t4,v8,E9,ho8,hn8⟩=>?_; subst E9; have WI:=Ij hlen hC.fields i2; simp only [DQ]; rw [MT Yd ho8 (by omega) (XQ _)]; simp only [AA,Av]; have k24:=k23.trans k4
     refine AD (fun P2=>?_) (fun P2=>?_)
     ·simp only [N7,G4,JI,Fz,Ml,XM]; exact GK (by rw [xx,decide_eq_true (by have:=of_decide_eq_true P2; omega)]; rfl) _ W4 k24 t4 rfl
     ·have hle:decide (60<(C0 c i2).length)=false:=decide_eq_false (by have:=of_decide_eq_false P2; omega)
      refine uB (zR Jw (by omega) ho8) rfl (by omega) (pQ hC.zU i2) (fun hb e3 h2=>?_) (fun hb e3 hA=>?_)
      ·simp only [N7,G4,JI,Fz,Ml,XM]; exact GK (by rw [xx,hb]; simp) _ W4 k24 t4 h2
      ·have q0:e3 0=.slice a c.length cap:=(hA 0 (by decide)).trans g0; have q5:e3 5=.int .i64 i2:=(hA 5 (by decide)).trans g5; simp only [N7,Ay,Mk,jr,Gc,Fz,KA,if_true,q5,AO,AA]; refine ⟨Ae,trivial,k24,t4,q0,?_,D4 Nh (by rw [xx,hle,hb]; rfl)⟩; simp only [AI,↓reduceIte]; rw [C4 (by omega)]
   ·simp only [Ay,Mk,Gc,KA,if_true,XM]; exact PO _ W2 k2 t2 rfl (by rw [Je,Bu fun j hj=>Nh j (by omega)]; rfl)
end Go.Ce
namespace Go.Ce
open Go Go.Proofs Go.Proofs.Tryz
def Lj (c:List Al) (l:List C5):Int:=if BM c then (if Bl c l then 0 else 212) else 210
def HR (c:List Al) (l:List C5) (h:List B9) (root:Int):Int:=if Lj c l≠0 then Lj c l else if DT c h≥0 then 211 else if root<0∨root>h.length then 1 else 0
theorem fe {v0 v1:Value} {c:List Al} {l:List C5} {W:CW} (ht:Ag W) (hc:AV 5 (Dc W) v0 c) (hC:Ng c) (hl:AV 3 (Ho W) v1 l) (UU:l.length<100000) :
  AX prog Br 43 [v0,v1] W (YC (.int .i64 (Lj c l)) W):=by
 refine AEy ?_; rw [AEx]; refine FV (RT ht hc hC) fun W1 k1 t1=>?_; simp only [BK,AA]; unfold Lj
 cases hk:BM c with
 | false =>
  simp only [Bool.false_eq_true,↓reduceIte,Int.reduceBEq,Ab,XO,XN,Ay,xc]; rw [show ∀ l,(Env.of (Env.args [v0,v1]) ((15,.bool false)::l)) 15=.bool false from fun _=>rfl]; simp only [Ab,ZX]; exact ⟨rfl,k1,t1⟩
 | true =>
  simp only [↓reduceIte,Int.reduceBEq,A3]; refine FV (fc t1 (hc.imp fun _ _ _ hr=>hr.kp ht k1) hC.len hC.fields (hl.imp fun _ _ _ hr=>hr.kp ht k1) UU) fun W2 k2 t2=>?_; simp only [Ac,AA,XO,XN,Ay]; rw [show ∀ b l,(Env.of (Env.args [v0,v1]) ((15,b)::l)) 15=b from fun _ _=>rfl]
  cases hs:Bl c l <;> simp only [Bool.not_true,Bool.not_false,A3,Ab,ZX] <;> exact ⟨rfl,k1.trans k2,t2⟩
theorem fg {v0 v1 v2:Value} {c:List Al} {l:List C5} {h:List B9} {root:Int} {W:CW} (ht:Ag W) (hc:AV 5 (Dc W) v0 c) (hC:Ng c) (hl:AV 3 (Ho W) v1 l) (UU:l.length<100000) (hh:AV 2 (Ek W) v2 h) (hhl:h.length<100000) (hv:∀ x,x ∈ h→x.AH.length<1000000) :
  AX prog Br 63 [v0,v1,v2,.int .i64 root] W (YC (.int .i64 (HR c l h root)) W):=by
 refine AE0 ?_; rw [AEz]; refine FV (fe ht hc hC hl UU) fun W1 k1 t1=>?_; simp only [Au,AA]; unfold HR
 by_cases he:Lj c l=0
 ·rw [if_neg (by simp [he])]; simp only [he,bne_self_eq_false,Ab]; refine FV (Zf t1 (hc.imp fun _ _ _ hr=>hr.kp ht k1) hC.len hC.fields (hh.imp fun _ _ _ hr=>hr.kp ht k1) hhl hv) fun W2 k2 t2=>?_; simp only [CZ,AA]
  refine AD (fun hb=>?_) (fun hb=>?_)
  ·rw [if_pos (of_decide_eq_true hb),Lg]; exact ⟨rfl,k1.trans k2,t2⟩
  ·rw [if_neg (of_decide_eq_false hb)]; obtain ⟨a,cap,rfl,_⟩:=hh; simp only [AS,Av,AU P3,AA,jy,cC,Ay,G4]
   refine AD (fun hr=>?_) (fun hr=>?_)
   ·rw [show ∀ b l,(Env.of (Env.args [v0,v1,.slice a h.length cap,.int .i64 root]) ((27,b)::l)) 27=b from fun _ _=>rfl]; simp only [A3,Lg]; rw [if_pos (.inl (of_decide_eq_true hr))]; exact ⟨rfl,k1.trans k2,t2⟩
   ·rw [show ∀ b l,(Env.of (Env.args [v0,v1,.slice a h.length cap,.int .i64 root]) ((27,b)::l)) 27=b from fun _ _=>rfl]
    refine AD (fun fh=>?_) (fun fh=>?_)
    ·rw [Lg,if_pos (.inr (of_decide_eq_true fh))]; exact ⟨rfl,k1.trans k2,t2⟩
    ·rw [Lg,if_neg (by have:=of_decide_eq_false hr; have:=of_decide_eq_false fh; omega)]; exact ⟨rfl,k1.trans k2,t2⟩
 ·rw [if_pos he]; simp only [show (Lj c l != 0)=true from by simpa using he,A3,Lg]; exact ⟨rfl,k1,t1⟩
end Go.Ce
namespace Go.Ce
open Go Go.Proofs Go.Proofs.Tryz
def uD (ro:Option Nat) (K:AB):AB:=AW (fun e ds W=>K .ret (Env.of e [(9,(e 10)),(8,(e 11)),(88,(e 10)),(87,(e 11))]) ds W) K
def cJ (ro:Option Nat) (K:AB):AB:=AW (fun a b c=>mj ro 64 89 0 a (F_ 12 A5) b c (uD ro K)) K
def uE:=by
 have h:=@cJ.eq_1; dsimp at h; exact h
def AE8 (v0 v1 v2 v3:Value) (K:AB) (W:CW):=by
 have h:PH 64 89 (Gm v0 v1 v2 v3) W K=DD 24 v2 W fun a=>Mj a 1 fun b=>Mw (mks prog 40 b b W) fun c d=>DF v3 0 fun f=>let a:=EC 22 f 21 v3 (Bh 11 (.slice none 0 0) 10 c 20 c 19 b (UE 18 a 17 v2 9 (.slice none 0 0) 8 none 0 0)); CB f (Jo prog 40 1 [(0,v3)] d fun b d=>Jt prog 40 40 (.slice none 0 0) b d fun d f=>EZ c v3 fun g=>D' g (Jk 1) f fun f=>UA (cJ none K) (Gm v0 v1 v2 v3) (Bh 29 g 28 v3 27 c 11 d (Bh 26 d 25 b 24 v3 23 (.slice none 0 0) a)) [] f) (cJ none K) (Gm v0 v1 v2 v3) a [] d:=by kernel_rfl
 dsimp at h; exact h
def cK (ro:Option Nat) (K:AB):AB:=AW (fun a b c=>Bc a 12 fun d=>CQ K a 12 d 35 34 b c) K
def uF:=by
 have h:=@cK.eq_1; dsimp at h; exact h
def ABz (ro:Option Nat) (e:Env) (ds:List Deferred) (K:AB) (W:CW):=by
 have h:C9 ro 64 89 e ds W K=CP (Dq e) W fun a=>FU e 12 a fun b=>let a:=DG 33 b 32 a 31 e 11 30 12; Di b (LS e 11 12 fun b=>Aj b W fun c=>KU c 1 fun d=>Iy 24 e 2 d fun f=>BI 56 f W fun g=>let a:=eC 44 g (Bh 43 f 42 d 41 c 40 b (Dl 39 (e 12) 38 (Dq e) 37 e 2 36 (BE e) a)); DZ 65 (BE e) g W (fun b c=>CI 56 c fun c d=>Dw 56 c b d fun d=>Dr c 0 fun f=>BA f d fun g=>let a:=eC 48 g (Jr 47 f 46 e 13 c 45 b a); KZ 69 e g d (fun b c=>Gl ro 64 89 1 e (DO 15 A5 14 b 49 b a) ds c 2 (CL 1 (cK ro K))) fun b c=>CM (cK ro K) b e a ds c) fun b c=>CM (cK ro K) b e a ds c) K e a ds W:=by kernel_rfl
 dsimp at h; exact h
def VN (ro:Option Nat) (K:AB):AB:=AW (fun a b c=>Bc a 15 fun d=>CQ K a 15 d 56 55 b c) K
def Zh:=by
 have h:=@VN.eq_1; dsimp at h; exact h
def N9 (ro:Option Nat) (K:AB):AB:=Wk (fun a b c=>Y_ a 77 (Jo prog 40 1 [(0,a 16)] c fun c d=>Jt prog 40 40 (Dq a) c d fun d f=>CP d f fun g=>LS a 10 16 fun h=>D' h g f fun f=>UA (VN ro K) a (EC 86 h 85 g (Dl 84 d 83 (a 16) 82 a 10 11 d (DG 81 d 80 c 79 a 16 78 11))) b f) (VN ro K) a b c) 3 (VN ro K)
def pR:=by
 have h:=@N9.eq_1; dsimp at h; exact h
def AB0 (ro:Option Nat) (e:Env) (ds:List Deferred) (K:AB) (W:CW):=by
 have h:Fu ro 64 89 1 e ds W K=Ih e 13 fun a=>Bb a W fun b=>CP b W fun c=>FU e 15 c fun d=>let a:=eC 54 d (BO 53 c 52 b 51 a 50 (e 15)); ON d (Ih e 13 fun b=>Bb b W fun c=>EZ c (e 15) fun d=>Aj d W fun f=>let a:=eC 64 (e 15) (Da 63 (e 14) 62 (BS e) 16 f 61 (Bh 60 d 59 (e 15) 58 c 57 b a)); Ig 70 e (e 14) (e 15) W (fun b c=>HL 5 b 2 fun d=>let a:=D9 67 d 66 65 b a; CB d (DF f 0 fun b=>let a:=Db 71 b 70 (Bo 69 b 67 68 f a); CB b (Gs e 10 f fun b=>Aj b c fun d=>HY .eql d 0 fun g=>Dh (N9 ro K) e 77 g (Hi 76 g 71 75 d 71 74 b (Bo 73 f 71 72 (D2 e) a)) ds c) (N9 ro K) e (KX 77 76 undef 71 (CC 75 71 74 73 72 a)) ds c) (N9 ro K) e (EU 77 (CC 76 71 75 74 73 (WZ 72 undef 71 false 71 DX 70 (Ia 69 67 68 a)))) ds c) fun b c=>CM (N9 ro K) b e a ds c) K 2 e a ds W:=by kernel_rfl
 dsimp at h; exact h
theorem pS (Q:Ending→CW→Prop) (e:Env) (W:CW):AJ prog Tryz.f64 Q .ret e [] W=Q (.returned (.tuple #[e 8,e 9])) W:=by kernel_rfl
def AE9 {Q v0 v1 v2 v3 W}:=Eo 64 89 [v0,v1,v2,v3] Tryz.f64 Q W Tryz.func64 (by kernel_rfl)
def kD (ro:Option Nat) (K:AB):AB:=AW (fun e ds W=>wV (ld prog 56 (e 3) W) fun v56=>wV (Mf prog 56 (e 4) v56 W) fun W2=>K .ret (Env.of e [(56,v56)]) ds W2) K
def AE' (v0 v1:Value) (K:AB) (W:CW):=by
 have h:Dp 65 57 v0 v1 W K=Hj 56 v1 W fun a b=>CI 56 b fun b c=>Jp 65 57 v0 v1 (Gt 5 A5 4 b 3 a) c (kD none K):=by kernel_rfl
 dsimp at h; exact h
def cL (ro:Option Nat) (K:AB):AB:=AW (fun a b c=>Bc a 5 fun d=>CQ K a 5 d 13 12 b c) K
def fi:=by
 have h:=@cL.eq_1; dsimp at h; exact h
def uG (ro:Option Nat) (K:AB):AB:=AW (fun e ds W=>wV (ld prog 56 (e 6) W) fun v55=>wV (Mf prog 56 (e 4) v55 W) fun W7=>(cL ro K) .ret (Env.of e [(55,v55)]) ds W7) (CL 1 (cL ro K))
def AB1 (ro:Option Nat) (e:Env) (ds:List Deferred) (K:AB) (W:CW):=by
 have h:C9 ro 65 57 e ds W K=HK 23 e W fun a=>FU e 5 a fun b=>let a:=DG 11 b 10 a 9 e 0 8 5; Di b (Hk e 0 5 fun b=>Et b 0 fun c=>BA c W fun d=>J9 56 e 3 0 fun f=>BA f W fun g=>Jn 9 d g fun h=>let a:=Bh 21 h 20 g 19 f 18 d (BQ 17 c 16 b 15 e 5 14 a); GZ (HN 9 f W g 9 c W d) (CB h (Hk e 0 5 fun b=>Et b 1 fun c=>BA c W fun d=>LW prog 56 [(0,d)] fun f=>CI 56 W fun g h=>Dw 56 g f h fun h=>Gl ro 65 57 1 e (Bh 7 A5 6 g 27 f 26 d (BQ 25 c 24 b 23 e 5 22 a)) ds h 2 (uG ro K)) (cL ro K) e a ds W)) K e a ds W:=by kernel_rfl
 dsimp at h; exact h
def uH (ro:Option Nat) (K:AB):AB:=AW (fun a b c=>Bc a 7 fun d=>CQ K a 7 d 37 36 b c) K
def uI:=by
 have h:=@uH.eq_1; dsimp at h; exact h
def AB2 (ro:Option Nat) (e:Env) (ds:List Deferred) (K:AB) (W:CW):=by
 have h:Fu ro 65 57 1 e ds W K=Hk e 0 5 fun a=>Et a 2 fun b=>Bb b W fun c=>CP c W fun d=>FU e 7 d fun f=>let a:=Bh 35 f 34 d 33 c 32 b (DG 31 a 30 (DS e) 29 e 0 28 7); ON f (Ih e 6 fun b=>Bb b W fun c=>Ih e 3 fun d=>Bb d W fun f=>Hk e 0 5 fun g=>Et g 2 fun h=>Bb h W fun i=>EZ i (D3 e) fun j=>Aj j W fun k=>EZ f k fun l=>Aj l W fun m=>Jo prog 40 1 [(0,m)] W fun n o=>Jt prog 40 40 c n o fun p q=>Ih e 6 fun r=>Dw 40 r p q fun q=>Fw ((Ko (NS 3 l W m))∧Es (Ko (NS 3 j W k)) (Ko (NS 40 h W i)) (KQ (Ko (NS 40 d W f)) (Ko (Js True 40 b o c 40 b W c)))) (uH ro K) e 54 r (Bh 53 p 52 n 51 m 50 l (Dl 49 k 48 j 47 e 7 46 i (BQ 45 h 44 g 43 e 5 42 (Bh 41 f 40 d 39 c 38 b a)))) ds q) K 2 e a ds W:=by kernel_rfl
 dsimp at h; exact h
def AE_ {Q v0 v1 W}:=Eo 65 57 [v0,v1] Tryz.f65 Q W Tryz.func65 (by kernel_rfl)
end Go.Ce
namespace Go.Ce
open Go Go.Proofs Go.Proofs.Tryz
def H8 (l:List C5) (s:ByteArray):Option C5:=l.find? fun x=>decide (x.type=s)
def Lk (x:B9) (m:Int):Int:=(x.AH[m.toNat]?).getD 0
def AY (l:List C5) (x:B9):B9:=match H8 l x.type with
 | some s=>⟨s.to,s.map.map (Lk x)⟩
 | none=>x
def Bm (l:List Int):List Value:=l.map fun k=>Value.int .i64 k
theorem zV:D_ prog 40=some 1:=by kernel_rfl
theorem z56:Hz prog 56=some (.agg #[.string ⟨#[]⟩,.slice none 0 0]):=by kernel_rfl
theorem Dx.of {W:CW} {v:Value} {l:List Int} (h:AV 1 (fun b o x=>W.cell b o=some (Value.int .i64 x)) v l) (hb:∀ x,x ∈ l→-9223372036854775808≤x∧x≤9223372036854775807):AV 1 (Dx W) v l:=by
 obtain ⟨a,cap,h1,h2⟩:=h; exact ⟨a,cap,h1,fun i x hx=>by obtain ⟨p,hp,hr⟩:=h2 i x hx; exact ⟨p,hp,hr,hb x (List.mem_of_getElem? hx)⟩⟩
theorem fj {l:List C5} {s:ByteArray} {i:Nat} (hi:i<l.length) (h:decide (l[i].type=s)=true) (A0:∀ j,j<i→decide ((l[j]?).map (·.type)=some s)=false):H8 l s=some l[i]:=by
 unfold H8; rw [List.find?_eq_some_iff_getElem]; refine ⟨h,i,hi,rfl,fun j hj=>?_⟩; have:=A0 j hj; rw [List.getElem?_eq_getElem (by omega)] at this
 simpa using this
theorem pT {l:List C5} {s:ByteArray} (A0:∀ j,j<l.length→decide ((l[j]?).map (·.type)=some s)=false):H8 l s=none:=by
 unfold H8; rw [List.find?_eq_none]; intro x hx; obtain ⟨j,hj,rfl⟩:=List.mem_iff_getElem.1 hx; have:=A0 j hj; rw [List.getElem?_eq_getElem hj] at this
 simpa using this
theorem AFA (s:ByteArray):wE prog 56 [(0,.string s)]=some (.agg [.string s,.slice none 0 0].toArray):=by kernel_rfl
theorem uJ {e:Env} {A W:CW} {K:AB} {v0 vx:Value} {b3 b6 i:Nat} {l:List C5} {s:C5} {x:B9} (hA:Ag A) (ht:Ag W) (hk:Kp A W) (hl:AV 3 (Ho A) v0 l) (hs:l[i]?=some s) (h0:e 0=v0) (h5:e 5=.int .i64 i) (h3:e 3=.pointer (some ⟨b3,0,none⟩)) (h6:e 6=.pointer (some ⟨b6,0,none⟩)) (hb3:A.cell b3 1=some vx) (YG:AV 1 (Dx A) vx x.AH) (hb6:A.sz≤b6) (hB:BX W b6 56 [.string s.to,.slice none 0 0])
  (hm:∀ m,m ∈ s.map→0≤m∧m.toNat<x.AH.length) (hlen:s.map.length<100000)
  (hex:∀ e' W' vo,Kp A W'→Ag W'→BF A.sz vo→BX W' b6 56 [.string s.to,vo]→CD W' 3 1 vo (Bm (s.map.map (Lk x)))→Bi [0,3,4,5,6] e e'→K (.exit 2) e' [] W') :
  Fk prog Br none 65 57 (.loop (ES prog 65 1)) (Env.of e [(7,.int .i64 0)]) [] W K:=by
 refine DI (fun m e' DC W'=>DC=[]∧Kp A W'∧Ag W'∧Bi [0,3,4,5,6] e e'∧e' 7=.int .i64 m∧∃ vo,BX W' b6 56 [.string s.to,vo]∧CD W' 3 1 vo (Bm ((s.map.take m).map (Lk x)))∧BF A.sz vo) s.map.length ⟨rfl,hk,ht,.put rfl,rfl,_,hB,CD.nil,BF.nil _ _ _⟩ ?_; rintro m e' DC W' oO ⟨rfl,k',t',XR,h7,vo,rF,ho,OL⟩; have Tx:AV 3 (Ho W') v0 l:=hl.imp fun _ _ _ hr=>hr.kp hA k'; have AHN:AV 1 (Dx W') vx x.AH:=YG.imp fun _ _ _ hr=>hr.kp hA k'; obtain ⟨a,cap,rfl,Ah⟩:=Tx; obtain ⟨ax,AFB,rfl,hxc⟩:=AHN; have IX:=(List.getElem?_eq_some_iff.1 hs).1; obtain ⟨p,rfl,hr⟩:=Ah i _ hs; obtain ⟨vm,X_,am,AHK,rfl,hmc⟩:=Nf hr; have g0:=(XR 0 (by decide)).trans h0; have g3:=(XR 3 (by decide)).trans h3; have g5:=(XR 5 (by decide)).trans h5; have g6:=(XR 6 (by decide)).trans h6; rw [AB2,h7,g0,g3,g5,g6,Ad Uq bq IX]; simp only [AA,Kt,X_,AU FJ,AS]
 refine FW (fun Ae=>?_) (fun HQ=>?_)
 ·have hx:=List.getElem?_eq_getElem Ae; obtain ⟨q,rfl,hq⟩:=hmc m _ hx; obtain ⟨nu,QD⟩:=hm _ (List.getElem_mem Ae); have hxx:=List.getElem?_eq_getElem QD; obtain ⟨qx,rfl,hqx⟩:=hxc _ _ hxx; have q6:ld prog 40 (.pointer (some ⟨b6,0+1,none⟩)) W'=some vo:=AF Nb (a:=⟨b6,0+1,none⟩) (rF.cell rfl); have q3:ld prog 40 (.pointer (some ⟨b3,0+1,none⟩)) W'=some (.slice (some qx) x.AH.length AFB):=AF Nb (a:=⟨b3,0+1,none⟩) (k'.cell hA hb3)
  have ex:ew prog 40 (.slice (some qx) x.AH.length AFB) (.int .i64 s.map[m])=some (.pointer (some ⟨qx.block,qx.off+s.map[m].toNat*1,none⟩)):=by
   have e1:(Value.int IntKind.i64 s.map[m])=.int .i64 ((s.map[m].toNat:Nat):Int):=by rw [Int.toNat_of_nonneg nu]
   rw [e1]; exact Ad FJ s3 QD
  have q1:ld prog 3 (.pointer (some ⟨q.block,q.off+m*1,none⟩)) W'=some (.int .i64 s.map[m]):=AF a3 (a:=⟨q.block,q.off+m*1,none⟩) hq.1; have q2:ld prog 3 (.pointer (some ⟨qx.block,qx.off+s.map[m].toNat*1,none⟩)) W'=some (.int .i64 x.AH[s.map[m].toNat]):=AF a3 (a:=⟨qx.block,qx.off+s.map[m].toNat*1,none⟩) hqx.1; rw [Ad FJ s3 Ae]; simp only [FL,AA,q6,q3,q1,ex,q2]; have Mx:(Bm ((s.map.take m).map (Lk x))).length<900000:=by simp [Bm]; omega
  refine MU FJ s3 z3 rfl (by omega) tj (by omega) (Oz _) rfl rfl t' ho Mx fun u Wa v1 W1 ka ta H6 t1 o1 n1=>?_; have D0:=UH ho rF (by decide); have Uj:=H6.j5 t' rF D0; have dS:BF W'.sz v1:=n1 _ (Nat.le_refl _); refine An (vs:=[.string s.to,vo]) zV (a:=⟨b6,0+1,none⟩) (S6 o1) Uj (by simp) fun W2 hu JN=>?_; have AB3:b6<W'.sz:=rF.lt t'; have hu:ED b6 W1 W2:=hu; have k1:Kp A W1:=H6.kp k' OL; have k2:Kp A W2:=k1.BB hb6 hu; have t2:Ag W2:=t1.BB (by have:=H6.sz; omega) hu; have qa:ld prog 40 (.pointer (some ⟨b6,0+1,none⟩)) Wa=some vo:=AF Nb (a:=⟨b6,0+1,none⟩) (ka.cell t' (rF.cell rfl)); refine ⟨by simp only [qa,and_self],trivial,?_⟩; simp only [uI,Ay,Fz]; simp only [AI,AQ,Nat.reduceEqDiff,↓reduceIte,h7,AO,AA]
  refine ⟨Ae,trivial,k2,t2,(XR.trans (.put rfl)).trans (.put rfl),by rw [C4 (by omega)],v1,JN,?_,fun b l c e=>?_⟩
  ·have:Bm ((s.map.take (m+1)).map (Lk x))=Bm ((s.map.take m).map (Lk x))++[.int .i64 x.AH[s.map[m].toNat]]:=by
    rw [List.take_add_one,hx]; simp only [Option.toList_some,List.map_append,List.map_cons,List.map_nil,Bm,Lk,hxx,dKs]
   rw [this]; exact HB o1 hu fun b l c e=>by have:=dS b l c e; omega
  ·have:=dS b l c e; have:=k'.sz; omega
 ·simp only [KA]; have:s.map.take m=s.map:=List.take_of_length_le (by omega); rw [this] at ho; exact hex _ W' vo k' t' OL rF ho (XR.trans (.put rfl))
def uK (vx:Value) (y:B9) (W:CW):Ending→CW→Prop:=fun e W'=>Kp W W'∧Ag W'∧∃ vv,e=.returned (.agg #[.string y.type,vv])∧AV 1 (Dx W') vv y.AH∧(vv=vx∨BF W.sz vv)
theorem fk:Tryz.f65.results.toList=[.cell 4 56]:=by kernel_rfl
theorem kE {v0 v1 vx:Value} {l:List C5} {x:B9} {W:CW} (ht:Ag W) (hl:AV 3 (Ho W) v0 l) (UU:l.length<100000) (dY:v1=.agg #[.string x.type,vx]) (YG:AV 1 (Dx W) vx x.AH)
  (hm:∀ s,H8 l x.type=some s→∀ m,m ∈ s.map→0≤m∧m.toNat<x.AH.length) (My:∀ s,s ∈ l→s.map.length<100000) :
  AX prog Br 65 [v0,v1] W (uK vx (AY l x) W):=by
 refine AE_ ?_; rw [AE']; subst dY; refine Hn MN ht fun W0 k0 t0 z0 JY=>?_; have JY:BX W0 W.sz 56 [.string x.type,vx]:=JY; refine JB z56 MN t0 fun A kA tA zA Mz=>?_; have Mz:BX A W0.sz 56 [.string ⟨#[]⟩,.slice none 0 0]:=Mz; have JY:BX A W.sz 56 [.string x.type,vx]:=JY.ext t0 kA; have k:=k0.trans kA; have hlA:AV 3 (Ho A) v0 l:=hl.imp fun _ _ _ hr=>hr.kp ht k; have hvA:AV 1 (Dx A) vx x.AH:=YG.imp fun _ _ _ hr=>hr.kp ht k; obtain ⟨a0,AFC,rfl,Ah⟩:=hlA; generalize GD:AJ prog Tryz.f65 (uK vx (AY l x) W)=K
 have Ik:∀ W1 vv,Kp A W1→Ag W1→BX W1 W0.sz 56 [.string ⟨#[]⟩,.slice none 0 0]→Ba vv=true→(vv=vx∨BF W.sz vv)→(∀ W2,ED W0.sz W1 W2→AV 1 (Dx W2) vv (AY l x).AH)→∀ {K':CW→Prop},(∀ W2,(∀ e',e' 4=.pointer (some ⟨W0.sz,0,none⟩)→K .ret e' [] W2)→K' W2) →
   wV (Mf prog 56 (.pointer (some ⟨W0.sz,0,none⟩)) (.agg [.string (AY l x).type,vv].toArray) W1) K':=by
  intro W1 vv k1 t1 hB V3 yr eG K' hK'; refine Eu MN (a:=⟨W0.sz,0,none⟩) (by simp only [List.all_cons,List.all_nil,V3,Bool.and_true]; rfl) rfl hB (by simp) fun W2 hu JN=>hK' W2 fun e' h4'=>?_; have hu:ED W0.sz W1 W2:=hu; rw [←GD]; have JN:BX W2 W0.sz 56 [.string (AY l x).type,vv]:=JN; refine PN fk (p:=⟨W0.sz,0,none⟩) h4' (CG (vs:=[.string (AY l x).type,vv]) m5 MN rfl (by omega) JN.cells) ?_; exact ⟨(k.trans k1).BB (by rw [z0]; omega) hu,t1.BB (by have:=k1.sz; omega) hu,vv,rfl,eG W2 hu,yr⟩
 refine DI (fun i e ds W'=>ds=[]∧W'=A∧e 0=.slice a0 l.length AFC∧e 3=.pointer (some ⟨W.sz,0,none⟩)∧e 4=.pointer (some ⟨W0.sz,0,none⟩)∧e 5=.int .i64 i∧∀ j,j<i→decide ((l[j]?).map (·.type)=some x.type)=false) l.length ⟨rfl,rfl,rfl,rfl,rfl,rfl,by omega⟩ ?_; rintro i e ds W' hi ⟨rfl,rfl,h0,h3,h4,h5,A0⟩; rw [AB1,h0,h3,h5]; simp only [AU Uq,AA,AS]
 refine FW (fun Ae=>?_) (fun HQ=>?_)
 ·have hs:=List.getElem?_eq_getElem Ae; obtain ⟨p,rfl,hr⟩:=Ah i _ hs; obtain ⟨r1,r2⟩:=RR _ hr; have q3:ld prog 9 (.pointer (some ⟨W.sz,0,none⟩)) W'=some (.string x.type):=AF a9 (a:=⟨W.sz,0,none⟩) (JY.cell rfl); rw [Ad Uq bq Ae]; simp only [AA,JJ,JK,IP,r1,r2,q3,JV,G5]
  refine ⟨by simp only [and_self],trivial,AD (fun hq=>?_) (fun hq=>?_)⟩
  ·have Je:=fj Ae hq A0; have T5:AY l x=⟨l[i].to,l[i].map.map (Lk x)⟩:=by unfold AY; rw [Je]
   rw [AFA]; simp only [AA]; refine Dt z56 MN rfl rfl rfl tA fun W1 k1 t1 z1 It=>?_; refine uJ tA t1 k1 ⟨_,_,rfl,Ah⟩ hs h0 h5 h3 rfl (JY.cell rfl) hvA (Nat.le_refl _) It (hm _ Je) (My _ (List.getElem_mem _)) fun e' W2 vo k2 t2 OL JN ho hA=>?_; have g4:e' 4=.pointer (some ⟨W0.sz,0,none⟩):=(hA 4 (by decide)).trans h4; have g6:e' 6=.pointer (some ⟨W'.sz,0,none⟩):=(hA 6 (by decide)).trans rfl; simp only [Ay,Mk,Gc,if_true,uG,g6]; rw [CG (vs:=[.string l[i].to,vo]) m5 MN rfl (by omega) JN.cells]; simp only [AA]; have hb4:BX W2 W0.sz 56 [.string ⟨#[]⟩,.slice none 0 0]:=Mz.ext tA k2
   have hbd:∀ y,y ∈ (AY l x).AH→-9223372036854775808≤y∧y≤9223372036854775807:=by
    rw [T5]; intro y hy; obtain ⟨m,QD,rfl⟩:=List.mem_map.1 hy; have K3:=(hm _ Je m QD).2; obtain ⟨ax,cx,_,hxc⟩:=YG; obtain ⟨_,_,hxr⟩:=hxc _ _ (List.getElem?_eq_getElem K3); unfold Lk; rw [List.getElem?_eq_getElem K3]; exact hxr.2
   rw [g4]; have Uk:l[i].to=(AY l x).type:=by rw [T5]
   rw [Uk]
   refine Ik W2 vo k2 t2 hb4 (S6 ho) (.inr fun b l c e=>Nat.le_trans k.sz (OL b l c e)) (fun W3 hu=>Dx.of ?_ hbd) fun W3 hr=>?_
   ·have hwv:(AY l x).AH=l[i].map.map (Lk x):=by rw [T5]
    rw [hwv]; exact LA (HB ho hu (UH ho hb4 (by decide)))
   ·simp only [fi,G4,JI,Fz,Ml,kD]; exact hr _ g4
  ·simp only [fi,Ay,Fz]; simp only [AI,AQ,Nat.reduceEqDiff,↓reduceIte,h5,AO,AA]; refine ⟨Ae,trivial,trivial,h0,h3,h4,by rw [C4 (by omega)],D4 A0 ?_⟩; rw [hs]; simpa using hq
 ·have Je:=pT fun j hj=>A0 j (by omega); have T5:AY l x=x:=by unfold AY; rw [Je]
  simp only [Ay,Mk,Gc,KA,if_true,kD]; simp only [AI,AQ,Nat.reduceEqDiff,↓reduceIte,h3,h4]; rw [CG (vs:=[.string x.type,vx]) m5 MN rfl (by omega) JY.cells]; simp only [AA]; obtain ⟨ax,cx,rfl,_⟩:=hvA; have Uk:x.type=(AY l x).type:=by rw [T5]
  rw [Uk]
  refine Ik W' _ (.refl _) tA Mz rfl (.inl rfl) (fun W3 hu=>?_) fun W3 hr=>?_
  ·rw [T5]; exact YG.imp fun _ _ _ hr=>hr.kp ht (k.BB (by rw [z0]; omega) hu)
  ·exact hr _ h4
end Go.Ce
namespace Go.Ce
open Go Go.Proofs Go.Proofs.Tryz
theorem PR {l:List C5} {s:ByteArray} {x:C5} (h:H8 l s=some x):∃ i:Nat,l[i]?=some x∧x.type=s:=by
 unfold H8 at h; obtain ⟨h1,i,hi,h2,_⟩:=List.find?_eq_some_iff_getElem.1 h; exact ⟨i,by rw [List.getElem?_eq_getElem hi,h2],by simpa using h1⟩
structure zX (c:List Al) (s:C5) (t a:Nat):Prop where
 ti:BL c s.type=some t
 ai:BL c s.to=some a
 et:elemAt c t=0
 ea:elemAt c a=0
 len:s.map.length=(Ap c a).length
 map:∀ k,k<(Ap c a).length→∃ n:Int,s.map[k]?=some n∧0≤n∧n<(Ap c t).length∧(Ap c t)[n.toNat]?=(Ap c a)[k]?∧LB s.map k n=false
theorem kG {c:List Al} {l:List C5} (h:Bl c l=true) {i:Nat} {s:C5} (hs:l[i]?=some s):∃ t a,zX c s t a:=by
 unfold Bl at h; simp only [Bool.and_eq_true,Bool.not_eq_true'] at h; have hb:=Ew h.2 (List.getElem?_eq_some_iff.1 hs).1; unfold Gd at hb; rw [hs] at hb; simp only at hb
 cases PQ:BL c s.type with
 | none=>rw [PQ] at hb; cases hb
 | some t =>
  rw [PQ] at hb
  cases YE:BL c s.to with
  | none=>rw [YE] at hb; cases hb
  | some a =>
   rw [YE] at hb; simp only [Bool.or_eq_false_iff,decide_eq_false_iff_not,Decidable.not_not] at hb; obtain ⟨⟨⟨h1,h2⟩,h3⟩,h4,h5,h6⟩:=hb; refine ⟨t,a,PQ,YE,h1,h2,h5,fun k hk=>?_⟩; have hm:=Ew h6 hk; unfold Ey at hm
   cases hx:s.map[k]? with
   | none=>rw [hx] at hm; cases hm
   | some n =>
    rw [hx] at hm; simp only [Bool.or_eq_false_iff,decide_eq_false_iff_not,Decidable.not_not] at hm; obtain ⟨⟨⟨m1,m2⟩,m3⟩,m4⟩:=hm; exact ⟨n,rfl,by omega,by omega,m3,m4⟩
structure UI (c:List Al) (x:B9) (size i:Nat) (s:Al):Prop where
 ti:BL c x.type=some i
 si:c[i]?=some s
 many:Dd c i s x.AH.length=true
 val:∀ (k:Nat) n,x.AH[k]?=some n→C1 (A4 c i k) n size=true
theorem C_ {c:List Al} {x:B9} {size:Nat} (h:Ao c x size=true):∃ i s,UI c x size i s:=by
 unfold Ao at h
 cases PQ:BL c x.type with
 | none=>rw [PQ] at h; cases h
 | some i =>
  rw [PQ] at h; have hs:=List.getElem?_eq_getElem (Dm PQ); simp only [hs,Bool.and_eq_true,Bool.not_eq_true'] at h; refine ⟨i,_,PQ,hs,h.1,fun k n hk=>?_⟩; have:=Ew h.2 (List.getElem?_eq_some_iff.1 hk).1; rw [hk] at this
  simpa using this
theorem XS {c:List Al} {x:B9} {size i:Nat} {s:Al} (h:UI c x size i s):Ao c x size=true:=by
 unfold Ao; rw [h.ti]; simp only [h.si,h.many,Bool.true_and]
 rw [Bu fun j hj=>?_]
 ·rfl
 ·have:=List.getElem?_eq_getElem hj; rw [this]; simp only [h.val j _ this,Bool.not_true]
theorem D5 {c:List Al} {h:List B9} (ht:¬DT c h≥0):h.length≤1000∧∀ x,x ∈ h→Ao c x h.length=true:=by
 unfold DT at ht
 by_cases hl:1000<h.length
 ·rw [if_pos hl] at ht; omega
 ·rw [if_neg hl] at ht; refine ⟨by omega,fun x hx=>?_⟩; unfold RJ at ht
  cases hf:h.findIdx? fun x=>!Ao c x h.length with
  | some i=>rw [hf] at ht; simp only at ht; omega
  | none =>
   rw [List.findIdx?_eq_none_iff] at hf
   simpa using hf x hx
theorem Hr {c:List Al} {i many:Nat} {s:Al} (hs:c[i]?=some s) (he:elemAt c i=0) (hm:Dd c i s many=true):many=(Ap c i).length:=by
 unfold Dd at hm; unfold elemAt at he; rw [hs] at he; rw [if_neg (by simpa using he)] at hm; exact of_decide_eq_true hm
theorem Ll {c:List Al} {i:Nat} (he:elemAt c i=0) (hi:i<c.length) (k:Nat):A4 c i k=((Ap c i)[k]?).getD 0:=by
 unfold A4; unfold elemAt at he; rw [List.getElem?_eq_getElem hi] at he ⊢; simp only at he ⊢; rw [if_neg (by simpa using he)]
theorem fm {c:List Al} {l:List C5} {x:B9} {size:Nat} (hs:Bl c l=true) (hx:Ao c x size=true):∀ s,H8 l x.type=some s→∀ m,m ∈ s.map→0≤m∧m.toNat<x.AH.length:=by
 intro s Je m hm; obtain ⟨i,hi,Uk⟩:=PR Je; obtain ⟨t,a,S⟩:=kG hs hi; obtain ⟨ti,si,T⟩:=C_ hx; have PQ:ti=t:=by have h1:=T.ti; rw [←Uk,S.ti] at h1; exact (Option.some.inj h1).symm
 subst PQ; have My:=Hr T.si S.et T.many; obtain ⟨k,hk,hkm⟩:=List.mem_iff_getElem.1 hm; obtain ⟨n,h1,h2,h3,_⟩:=S.map k (by rw [←S.len]; exact hk); rw [List.getElem?_eq_getElem hk,hkm] at h1
 cases h1
 omega
theorem Fh {c:List Al} {l:List C5} {x:B9} {size:Nat} (hs:Bl c l=true) (hx:Ao c x size=true):Ao c (AY l x) size=true:=by
 unfold AY
 cases Je:H8 l x.type with
 | none=>exact hx
 | some s =>
  obtain ⟨i,hi,Uk⟩:=PR Je; obtain ⟨t,a,S⟩:=kG hs hi; obtain ⟨ti,si,T⟩:=C_ hx; have PQ:ti=t:=by have h1:=T.ti; rw [←Uk,S.ti] at h1; exact (Option.some.inj h1).symm
  subst PQ; have My:=Hr T.si S.et T.many; have wK:=Dm S.ai; have kB:=Dm S.ti
  refine XS (i:=a) (s:=c[a]) ⟨S.ai,List.getElem?_eq_getElem wK,?_,fun k n hk=>?_⟩
  ·have hea:=S.ea; unfold elemAt at hea; rw [List.getElem?_eq_getElem wK] at hea; unfold Dd; rw [if_neg (by simpa using hea)]; exact decide_eq_true (by rw [List.length_map]; exact S.len)
  ·have sC:k<s.map.length:=by
    have:=(List.getElem?_eq_some_iff.1 hk).1
    simpa using this
   obtain ⟨m,h1,h2,h3,h4,_⟩:=S.map k (by rw [←S.len]; exact sC); simp only [List.getElem?_map,h1,Option.map_some,Option.some.injEq] at hk; have dv:m.toNat<x.AH.length:=by omega
   have zY:=List.getElem?_eq_getElem dv; have:=T.val _ _ zY; rw [Ll S.et kB,h4] at this; rw [Ll S.ea wK,←hk]; unfold Lk; rw [zY]; exact this
def FM (c:List Al) (i:Nat) (vs:List Int):Nat→List Int
 | 0=>[]
 | k+1=>FM c i vs k++(if A4 c i k=2 then (vs[k]?).toList else [])
def refsOf (c:List Al) (y:B9):List Int:=match BL c y.type with
 | some i=>FM c i y.AH y.AH.length
 | none=>[]
def visit (o:List Int) (v:Int):List Int:=if 0<v∧v ∉ o then o++[v] else o
def C2 (refs:Int→List Int):Nat→List Int→Nat→List Int
 | 0,o,_=>o
 | f+1,o,n=>match o[n]? with
  | none=>o
  | some v=>C2 refs f ((refs v).foldl visit o) (n+1)
def placeOf (o:List Int) (v:Int):Int:=match o.findIdx? (fun x=>decide (x=v)) with
 | some i=>(i:Int)+1
 | none=>0
def Dn (o:List Int) (n:Nat):List Value:=(List.range n).map fun v=>Value.int .i64 (placeOf o (v:Nat))
theorem FN {o:List Int} {v:Int} (h:v ∉ o):placeOf o v=0:=by
 unfold placeOf
 have:o.findIdx? (fun x=>decide (x=v))=none:=by
  rw [List.findIdx?_eq_none_iff]; intro x hx; exact decide_eq_false (fun e=>h (e ▸ hx))
 rw [this]
theorem Ni {o:List Int} {v:Int} (h:v ∈ o):0<placeOf o v:=by
 unfold placeOf
 cases hf:o.findIdx? (fun x=>decide (x=v)) with
 | none =>
  rw [List.findIdx?_eq_none_iff] at hf; have:=hf v h; simp at this
 | some i=>simp only; omega
theorem Nj {o:List Int} {u v:Int} (h:v ∉ o):placeOf (o++[v]) u=if u=v then (o.length:Int)+1 else placeOf o u:=by
 unfold placeOf; rw [List.findIdx?_append]
 by_cases e:u=v
 ·subst e
  have:o.findIdx? (fun x=>decide (x=u))=none:=by
   rw [List.findIdx?_eq_none_iff]; intro x hx; exact decide_eq_false (fun e=>h (e ▸ hx))
  rw [this,if_pos rfl]; simp
 ·rw [if_neg e]
  cases hf:o.findIdx? (fun x=>decide (x=u)) with
  | some i=>simp
  | none =>
   have:([v].findIdx? fun x=>decide (x=u))=none:=by
    simp [Ne.symm e,List.findIdx?_cons]
   rw [this]; simp
theorem PS (o:List Int) {n v:Nat} (h:v<n):(Dn o n)[v]?=some (.int .i64 (placeOf o v)):=by
 unfold Dn; rw [List.getElem?_map,List.getElem?_range h]; rfl
theorem Gv (o:List Int) (n:Nat):(Dn o n).length=n:=by simp [Dn]
theorem XT {o:List Int} {n v:Nat} (h:v<n) (hv:(v:Int) ∉ o):putAt (Dn o n) v [.int .i64 ((o.length:Int)+1)]=Dn (o++[(v:Int)]) n:=by
 apply List.ext_getElem?; intro j; rw [N2 (by rw [Gv]; simp only [List.length_singleton]; omega)]
 by_cases hj:j<n
 ·rw [PS _ hj,PS _ hj,Nj hv]
  by_cases e:j=v
  ·subst e; rw [if_pos (by simp),if_pos rfl]; simp
  ·rw [if_neg (by simp only [List.length_singleton]; omega),if_neg (by omega)]
 ·rw [if_neg (by simp only [List.length_singleton]; omega),List.getElem?_eq_none (by rw [Gv]; omega),List.getElem?_eq_none (by rw [Gv]; omega)]
structure Found (o:List Int) (n:Nat):Prop where
 nodup:o.Nodup
 low:∀ v,v ∈ o→0<v
 high:∀ v,v ∈ o→v≤n
theorem cM:∀ (n:Nat) (o:List Int),o.Nodup→(∀ v,v ∈ o→0<v∧v≤n)→o.length≤n
 | 0,o,_,h=>by
  cases o with
  | nil=>exact Nat.le_refl _
  | cons a o=>have:=h a (List.mem_cons_self ..); omega
 | n+1,o,hd,h=>by
  by_cases hm:((n+1:Nat):Int) ∈ o
  ·have h1:=cM n (o.erase ((n+1:Nat):Int)) (hd.erase _) fun v hv=>by
    obtain ⟨h2,h3⟩:=(List.Nodup.mem_erase_iff hd).1 hv; have:=h v h3; omega
   rw [List.length_erase_of_mem hm] at h1; omega
  ·have:=cM n o hd fun v hv=>by
    have h1:=h v hv; have:v≠((n+1:Nat):Int):=fun e=>hm (e ▸ hv); omega
   omega
theorem Found.len {o:List Int} {n:Nat} (h:Found o n):o.length≤n:=cM n o h.nodup fun v hv=>⟨h.low v hv,h.high v hv⟩
theorem Found.visit {o:List Int} {n:Nat} (h:Found o n) {v:Int} (hv:v≤n):Found (visit o v) n:=by
 unfold Go.Ce.visit
 split
 ·rename_i hc
  refine ⟨?_,?_,?_⟩
  ·rw [List.nodup_append]; exact ⟨h.nodup,by simp,fun a ha b hb=>by rw [List.mem_singleton.1 hb]; exact fun e=>hc.2 (e ▸ ha)⟩
  ·intro u hu
   rcases List.mem_append.1 hu with hu | hu
   ·exact h.low u hu
   ·rw [List.mem_singleton.1 hu]; exact hc.1
  ·intro u hu
   rcases List.mem_append.1 hu with hu | hu
   ·exact h.high u hu
   ·rw [List.mem_singleton.1 hu]; exact hv
 ·exact h
theorem XU {refs:Int→List Int} {o:List Int} {n:Nat} (h:o.length≤n):∀ f,C2 refs f o n=o
 | 0=>rfl
 | f+1=>by unfold C2; rw [List.getElem?_eq_none h]
theorem UJ {refs:Int→List Int} {o:List Int} {n f:Nat} {v:Int} (h:o[n]?=some v):C2 refs (f+1) o n=C2 refs f ((refs v).foldl visit o) (n+1):=by
 rw [C2,h]
end Go.Ce
namespace Go.Ce
open Go Go.Proofs Go.Proofs.Tryz
theorem Lm (o:List Int) (v:Int):Bm (o++[v])=Bm o++[.int .i64 v]:=by simp [Bm]
theorem BY (o:List Int):(Bm o).length=o.length:=by simp [Bm]
theorem Nk {c:List Al} {i k:Nat} {vs:List Int} {n:Int} (h:vs[k]?=some n):FM c i vs (k+1)=FM c i vs k++(if A4 c i k=2 then [n] else []):=by
 rw [FM,h]; rfl
theorem uL {e:Env} {A W:CW} {K:AB} {v0 vv vo:Value} {zZ bp i n:Nat} {c:List Al} {y:B9} {s:Al} {o:List Int} (hA:Ag A) (ht:Ag W) (hk:Kp A W) (hc:AV 5 (Dc A) v0 c) (hC:Ng c) (hy:UI c y n i s) (hvl:y.AH.length<100000) (hn:n<100000)
  (h0:e 0=v0) (KC:e 10=.slice (some ⟨bp,0,none⟩) (n+1) (n+1)) (Mr:e 11=vo) (h13:e 13=.pointer (some ⟨zZ,0,none⟩)) (h14:e 14=.int .i64 i) (hB:BX W zZ 56 [.string y.type,vv]) (eG:AV 1 (Dx W) vv y.AH) (ho:CD W 3 1 vo (Bm o)) (hp:BX W bp 3 (Dn o (n+1))) (hF:Found o n)
  (hbp:A.sz≤bp) (kH:BF A.sz vo) (AB4:zZ≠bp) (AFD:¬Bj vo zZ) (hvp:y.AH≠[]→∀ j,Bj vv j→j≠bp∧¬Bj vo j) (AHO:¬Bj vo bp)
  (hex:∀ e' W' XV o',D7 (fun j=>j=bp∨Bj vo j) W W'→Ag W'→Bi [0,1,2,10,12] e e'→e' 11=XV→CD W' 3 1 XV (Bm o')→BX W' bp 3 (Dn o' (n+1))→Found o' n→(∀ j,Bj XV j→j≠bp∧(Bj vo j∨W.sz≤j))→o'=(refsOf c y).foldl visit o→K (.exit 2) e' [] W') :
  Fk prog Br none 64 89 (.loop (ES prog 64 1)) (Env.of e [(15,.int .i64 0)]) [] W K:=by
 refine DI (fun k e' DC W'=>DC=[]∧∃ o' XV,D7 (fun j=>j=bp∨Bj vo j) W W'∧Ag W'∧Bi [0,1,2,10,12,13,14] e e'∧e' 11=XV∧e' 15=.int .i64 k∧CD W' 3 1 XV (Bm o')∧BX W' bp 3 (Dn o' (n+1))∧(∀ j,Bj XV j→j≠bp∧(Bj vo j∨W.sz≤j))∧Found o' n∧o'=(FM c i y.AH k).foldl visit o) y.AH.length
  ⟨rfl,o,vo,.refl _ _,ht,.put rfl,Mr,rfl,ho,hp,fun j hj=>⟨fun e=>AHO (e ▸ hj),.inl hj⟩,hF,rfl⟩ ?_
 rintro k e' DC W' YD ⟨rfl,o',XV,JS,t',XR,kJ,g15,IK,hZ,xy,oQ,wM⟩
 have hS:∀ j,(j=bp∨Bj vo j)→A.sz≤j:=fun j hj=>by
  rcases hj with rfl | hj
  ·exact hbp
  ·exact kH.in hj
 have kA:Kp A W':=D7.kp hk JS hS; have zO:AV 5 (Dc W') v0 c:=hc.imp fun _ _ _ hr=>hr.kp hA kA; have hBW:=JS.j5 ht (fun h=>h.elim AB4 AFD) hB; have hvW:AV 1 (Dx W') vv y.AH:=tu eG (fun D0 j hj h=>h.elim (hvp D0 j hj).1 (hvp D0 j hj).2) fun b o x hb hr=>⟨JS.cell ht hb hr.1,hr.2⟩
 have g0:=(XR 0 (by decide)).trans h0; have Zi:=(XR 10 (by decide)).trans KC; have g13:=(XR 13 (by decide)).trans h13; have g14:=(XR 14 (by decide)).trans h14; obtain ⟨av,cv,rfl,hvc⟩:=hvW; have q13:ld prog 40 (.pointer (some ⟨zZ,0+1,none⟩)) W'=some (.slice av y.AH.length cv):=AF Nb (a:=⟨zZ,0+1,none⟩) (hBW.cell rfl); rw [AB0,g0,g13,g14,g15]; simp only [FL,AA,q13,AU FJ,AS]
 refine FW (fun Ae=>?_) (fun HQ=>?_)
 ·have hx:=List.getElem?_eq_getElem Ae; obtain ⟨q,rfl,hq⟩:=hvc k _ hx; have xo:=Dm hy.ti; have hsi:s=c[i]:=by have:=hy.si; rw [List.getElem?_eq_getElem xo] at this; exact (Option.some.inj this).symm
  have rn:c[i].elem=0→k<(Ap c i).length:=fun he=>by
   have:=Hr hy.si (by unfold elemAt; rw [hy.si,hsi]; exact he) hy.many; omega
  have F1:=hy.val k _ hx; rw [Ad FJ s3 Ae]; simp only [AA]; rw [AF a3 (a:=⟨q.block,q.off+k*1,none⟩) hq.1]; simp only [AA,Zi]; refine FV (b7 t' zO hC.len hC.fields xo rn) fun W1 k1 t1=>?_; have c1:D7 (fun j=>j=bp∨Bj vo j) W W1:=JS.then (D7.H7 (S:=fun _=>False) k1) fun _ _ h=>h.elim; have db:=IK.kp t' k1; have O1:=hZ.ext t' k1
  have leaf:∀ (b:Bool) (e1:Env),Bi [0,1,2,10,11,12,13,14,15] e' e1→e1 77=.bool b→e1 16=.int .i64 y.AH[k]→b=(A4 c i k == 2 && decide (0<y.AH[k]∧y.AH[k] ∉ o')) →
    (N9 none (J_ (fun k e' DC W'=>DC=[]∧∃ o' XV,D7 (fun j=>j=bp∨Bj vo j) W W'∧Ag W'∧Bi [0,1,2,10,12,13,14] e e'∧e' 11=XV∧e' 15=.int .i64 k∧CD W' 3 1 XV (Bm o')∧BX W' bp 3 (Dn o' (n+1))∧(∀ j,Bj XV j→j≠bp∧(Bj vo j∨W.sz≤j))∧Found o' n∧o'=(FM c i y.AH k).foldl visit o) k y.AH.length K)) .normal e1 [] W1:=by
   intro b e1 Y5 h77 h16 hb; have r10:=(Y5 10 (by decide)).trans Zi; have r11:=(Y5 11 (by decide)).trans kJ; have r15:=(Y5 15 (by decide)).trans g15; simp only [pR,Ay,h77,h16,r10,r11]; have Lh:Bi [0,1,2,10,12,13,14] e e1:=XR.trans fun t ht=>Y5 t (by revert t; decide)
   refine AD (fun KB=>?_) (fun KB=>?_)
   ·rw [KB] at hb; have hb:=hb.symm; simp only [Bool.and_eq_true,beq_iff_eq,decide_eq_true_eq] at hb; obtain ⟨YP,LL,cN⟩:=hb
    have L5:y.AH[k]≤n:=by
     unfold C1 at F1; rw [YP] at F1; simp at F1; omega
    obtain ⟨w,hw⟩:∃ w:Nat,y.AH[k]=(w:Int):=⟨y.AH[k].toNat,by omega⟩
    rw [hw] at LL cN L5; rw [hw]; have hol:=oQ.len; refine Sv FJ s3 z3 rfl (by omega) tj (by omega) (Oz _) rfl rfl t1 db (by rw [BY]; omega) fun u v1 W2 H6 t2 o2 n2=>?_; rw [←Lm] at o2; have AFE:(Bm (o'++[(w:Int)])).length=(o'.length+1)*1:=by rw [BY]; simp
    rw [MT FJ o2 (by omega) AFE,Ad FJ s3 (by omega:w<n+1)]; simp only [AA]; have sU:∀ b l c,XV=.slice (some b) l c→b.block≠bp:=fun b l c e=>(xy b.block ⟨b,l,c,e,rfl⟩).1; have wA:=H6.j5 t1 O1 sU; have mJ:BF W1.sz v1:=n2 _ (Nat.le_refl _); have AI':=O1.lt t1; refine An (vs:=Dn o' (n+1)) s3 (a:=⟨bp,0+w*1,none⟩) rfl wA (by rw [Gv]; show 0+w*1<n+1; omega) fun W3 hu hp3=>?_; have hu:ED bp W2 W3:=hu; have hp3:BX W3 bp 3 (putAt (Dn o' (n+1)) (0+w*1) [.int .i64 ((o'.length+1:Nat):Int)]):=hp3; rw [show 0+w*1=w by omega,show ((o'.length+1:Nat):Int)=(o'.length:Int)+1 by omega,XT (by omega) cN] at hp3; have AI_:=H6.sz; have t3:Ag W3:=t2.BB (by omega) hu; simp only [Zh,Ay,Fz]; simp only [AI,AQ,Nat.reduceEqDiff,↓reduceIte,r15,AO,AA]
    refine ⟨Ae,trivial,o'++[(w:Int)],v1,?_,t3,?_,rfl,by rw [C4 (by omega)],?_,hp3,fun j hj=>?_,?_,?_⟩
    ·refine (c1.then H6.IF fun j hj hi=>?_).then hu.IF fun j hj hi=>.inl hi
     rcases (xy j hi).2 with h | h
     ·exact .inr h
     ·omega
    ·exact (Lh.trans (.put rfl)).trans (.put rfl)
    ·exact HB o2 hu fun b l c e=>by have:=mJ b l c e; omega
    ·have h1:=mJ.in hj; have:=c1.sz; exact ⟨by omega,.inr (by omega)⟩
    ·have:=oQ.visit (v:=(w:Int)) L5; unfold visit at this
     rwa [if_pos ⟨LL,cN⟩] at this
    ·rw [Nk hx,List.foldl_append,←wM,if_pos YP,hw]; show _=visit o' _; unfold visit; rw [if_pos ⟨LL,cN⟩]
   ·rw [KB] at hb; simp only [Zh,Ay,Fz]; simp only [r15,AO,AA]
    refine ⟨Ae,trivial,o',XV,c1,t1,Lh.trans (.put rfl),r11,?_,db,O1,xy,oQ,?_⟩
    ·simp only [AI,↓reduceIte]; rw [C4 (by omega)]
    ·rw [Nk hx,List.foldl_append,←wM]
     by_cases YP:A4 c i k=2
     ·rw [if_pos YP]; show _=visit o' _; have hb:=hb.symm; simp only [YP,beq_self_eq_true,Bool.true_and,decide_eq_false_iff_not] at hb; unfold visit; rw [if_neg hb]
     ·rw [if_neg YP]; rfl
  simp only [BK,AA]
  refine AD (fun hb=>?_) (fun hb=>?_)
  ·simp only [Av,AA]
   refine AD (fun P1=>?_) (fun P1=>?_)
   ·have LL:=of_decide_eq_true P1; have YP:A4 c i k=2:=by simpa using hb
    have L5:y.AH[k]≤n:=by
     unfold C1 at F1; rw [YP] at F1; simp at F1; omega
    obtain ⟨w,hw⟩:∃ w:Nat,y.AH[k]=(w:Int):=⟨y.AH[k].toNat,by omega⟩
    have hwn:w<n+1:=by omega
    have q:ld prog 3 (.pointer (some ⟨bp,0+w*1,none⟩)) W1=some (.int .i64 (placeOf o' (w:Nat))):=AF a3 (a:=⟨bp,0+w*1,none⟩) (by
     show W1.cell bp (0+w*1)=_; rw [Nat.mul_one,Nat.zero_add]
     exact O1.cell (PS o' hwn))
    have ei:ew prog 40 (.slice (some ⟨bp,0,none⟩) (n+1) (n+1)) (.int .i64 y.AH[k])=some (.pointer (some ⟨bp,0+w*1,none⟩)):=by rw [hw]; exact Ad FJ s3 hwn
    rw [ei]; simp only [AA,q,BK]; refine leaf (placeOf o' (w:Nat) == 0) _ (.put rfl) rfl rfl ?_; rw [hb,Bool.true_and,hw]
    by_cases hm:(w:Int) ∈ o'
    ·rw [decide_eq_false (fun h=>h.2 hm)]; have:=Ni hm; simp; omega
    ·rw [decide_eq_true ⟨by omega,hm⟩,FN hm]; rfl
   ·exact leaf false _ (.put rfl) rfl rfl (by rw [decide_eq_false (fun h=>of_decide_eq_false P1 h.1),Bool.and_false])
  ·exact leaf false _ (.put rfl) rfl rfl (by rw [hb,Bool.false_and])
 ·simp only [KA]; have YD:k=y.AH.length:=by omega
  refine hex _ W' XV o' JS t' (fun t ht=>(Bi.put rfl t (by exact ht)).trans (XR t (by revert t; decide))) kJ IK hZ oQ xy ?_; rw [wM,YD]; unfold refsOf; rw [hy.ti]
def Gw (c:List Al) (l:List C5) (h:List B9) (v:Int):List Int:=match h[(v-1).toNat]? with
 | some x=>refsOf c (AY l x)
 | none=>[]
def start (root:Int):List Int:=if root>0 then [root] else []
def Ax (c:List Al) (l:List C5) (h:List B9) (root:Int):List Int:=C2 (Gw c l h) h.length (start root) 0
theorem Found.start {root:Int} {n:Nat} (h:root≤n):Found (start root) n:=by
 unfold Go.Ce.start
 split
 ·exact ⟨List.pairwise_singleton _ _,fun v hv=>by rw [List.mem_singleton.1 hv]; assumption,fun v hv=>by rw [List.mem_singleton.1 hv]; exact h⟩
 ·exact ⟨List.nodup_nil,fun v hv=>(by cases hv),fun v hv=>(by cases hv)⟩
theorem N' {c:List Al} {i m:Nat} {s:Al} (hC:Ng c) (h:Dd c i s m=true):m≤20100:=by
 unfold Dd at h
 split at h
 ·have:=of_decide_eq_true h; omega
 ·have:=of_decide_eq_true h; have h2:=Ij hC.len hC.fields i; unfold Ap at this; rw [List.length_map] at this; omega
theorem AB5 {A W:CW} (hA:Ag A) (k:Kp A W) {b o:Nat} {x:B9} (h:Ek A b o x):∃ vx,ld prog 56 (.pointer (some ⟨b,o,none⟩)) W=some (.agg #[.string x.type,vx])∧AV 1 (Dx W) vx x.AH∧(x.AH≠[]→∀ j,Bj vx j→j<A.sz):=by
 obtain ⟨v,h1,h2⟩:=h.AH
 refine ⟨v,CG (vs:=[.string x.type,v]) m5 MN rfl (by omega) ?_,h2.imp fun _ _ _ hr=>hr.kp hA k,fun D0 j hj=>?_⟩
 ·intro j w hj
  match j,hj with
  | 0,hj=>cases hj; exact k.cell hA h.type
  | 1,hj=>cases hj; exact k.cell hA h1
 ·obtain ⟨b,l,c,rfl,rfl⟩:=hj; obtain ⟨a',c',e,hc⟩:=h2
  cases e
  cases hv:x.AH with
  | nil=>exact (D0 hv).elim
  | cons n ns =>
   obtain ⟨p,hp,hr⟩:=hc 0 n (by rw [hv]; rfl)
   cases hp
   exact bn hA hr.1
def XW (o:List Int) (n:Nat) (W:CW):Ending→CW→Prop:=fun e W'=>Kp W W'∧Ag W'∧∃ vo bp,e=.returned (.tuple #[vo,.slice (some ⟨bp,0,none⟩) (n+1) (n+1)])∧CD W' 3 1 vo (Bm o)∧BF W.sz vo∧BX W' bp 3 (Dn o (n+1))∧W.sz≤bp∧Found o n
theorem kK (n:Nat):Dn [] n=List.replicate n (.int .i64 0):=by
 unfold Dn; rw [List.eq_replicate_iff]; refine ⟨by simp,fun x hx=>?_⟩; obtain ⟨v,_,rfl⟩:=List.mem_map.1 hx; rfl
theorem UK {v0 v1 v2:Value} {c:List Al} {l:List C5} {h:List B9} {root:Int} {W:CW} (ht:Ag W) (hc:AV 5 (Dc W) v0 c) (hC:Ng c) (hl:AV 3 (Ho W) v1 l) (UU:l.length<100000) (My:∀ s,s ∈ l→s.map.length<100000) (hh:AV 2 (Ek W) v2 h)
  (hs:Bl c l=true) (hn:h.length<100000) (JC:∀ x,x ∈ h→Ao c x h.length=true) (hvl:∀ x,x ∈ h→x.AH.length<100000) (wN:0≤root) (SJ:root≤h.length) :
  AX prog Br 64 [v0,v1,v2,.int .i64 root] W (XW (Ax c l h root) h.length W):=by
 refine AE9 ?_; rw [AE8]; have wo:=hh; obtain ⟨ah,ch,rfl,_⟩:=wo; simp only [AU P3,AA,AO]; rw [C4 (by omega)]; refine AE5 FJ s3 z3 rfl tj (by omega) (by omega) ht fun A k0 t0 z0 hB=>?_; rw [show List.replicate (h.length+1) (Value.int .i64 0)=Dn [] (h.length+1) from (kK _).symm] at hB; simp only [Av,AA]
 have Ol:∀ (e:Env) (W1:CW) (vo:Value),Kp W W1→Ag W1→e 0=v0→e 1=v1→e 2=.slice ah h.length ch→e 10=.slice (some ⟨W.sz,0,none⟩) (h.length+1) (h.length+1)→e 11=vo→CD W1 3 1 vo (Bm (start root))→(∀ j,Bj vo j→W.sz<j)→BX W1 W.sz 3 (Dn (start root) (h.length+1)) →
   (cJ none (AJ prog Tryz.f64 (XW (Ax c l h root) h.length W))) .normal e [] W1:=by
  intro e W1 vo k1 t1 h0 h1 h2 KC Mr ho kH hp; simp only [uE,Ay]
  refine DI (fun i e' DC W'=>DC=[]∧∃ o vo,Kp W W'∧Ag W'∧Bi [0,1,2,10] e e'∧e' 11=vo∧e' 12=.int .i64 i∧CD W' 3 1 vo (Bm o)∧(∀ j,Bj vo j→W.sz<j)∧BX W' W.sz 3 (Dn o (h.length+1))∧Found o h.length∧C2 (Gw c l h) (h.length-i) o i=Ax c l h root) h.length
   ⟨rfl,_,vo,k1,t1,.put rfl,Mr,rfl,ho,kH,hp,.start SJ,rfl⟩ ?_
  rintro i e' DC W' hi ⟨rfl,o,vo,k',t',XR,kJ,g12,ho,kH,hp,hF,hR⟩; have g0:=(XR 0 (by decide)).trans h0; have g1:=(XR 1 (by decide)).trans h1; have g2:=(XR 2 (by decide)).trans h2; have Zi:=(XR 10 (by decide)).trans KC; have hol:=hF.len; have AB6:(Bm o).length=o.length*1:=by rw [BY]; omega
  rw [ABz,g0,g1,g2,kJ,g12,MT FJ ho (by omega) AB6]; simp only [AA,AS]
  refine FW (fun Ae=>?_) (fun HQ=>?_)
  ·have hx:=List.getElem?_eq_getElem Ae; obtain ⟨ao,co,rfl,hoc⟩:=LA (f:=fun k=>Value.int .i64 k) ho; obtain ⟨po,rfl,hpo⟩:=hoc i _ hx; have AB7:=hF.low _ (List.getElem_mem Ae); have uM:=hF.high _ (List.getElem_mem Ae); obtain ⟨w,hw⟩:∃ w:Nat,o[i]=((w+1:Nat):Int):=⟨(o[i]-1).toNat,by omega⟩
   have uN:w<h.length:=by omega
   have hxw:=List.getElem?_eq_getElem uN; obtain ⟨ah',ch',kL,hhc⟩:=hh
   cases kL
   obtain ⟨ph,rfl,hrh⟩:=hhc w _ hxw; obtain ⟨vx,hu,YG,AHP⟩:=AB5 ht k' hrh; rw [Ad FJ s3 Ae]; simp only [AA]; rw [AF a3 (a:=⟨po.block,po.off+i*1,none⟩) hpo,hw]; simp only [AA,Ak]; rw [show ((w+1:Nat):Int)-1=(w:Nat) by omega,wrap64 (by omega) (by omega),Ad P3 MN uN]; simp only [AA,hu]; have Fj:=List.getElem_mem uN; have Uk:=JC _ Fj; refine (kE t' (hl.imp fun _ _ _ hr=>hr.kp ht k') UU rfl YG (fm hs Uk) My).mono fun en W7 ⟨k7,t7,vv,E9,eG,yr⟩=>?_; subst E9; simp only [DQ]; have hyt:=Fh hs Uk; obtain ⟨iy,sy,Y⟩:=C_ hyt; generalize hy:AY l h[w]=y at eG hyt Y; have AHQ:=eG; obtain ⟨av,cv,rfl,_⟩:=AHQ; refine Dt (ws:=[.string y.type,.slice av y.AH.length cv]) z56 MN rfl rfl rfl t7 fun W10 k10 t10 z10 AB8=>?_; simp only [IP,AA]; rw [AF a9 (a:=⟨W7.sz,0,none⟩) (AB8.cell rfl)]; simp only [AA]; have kk:=k7.trans k10; refine At (MP (hc.imp fun _ _ _ hr=>hr.kp ht (k'.trans kk)) (by have:=hC.len; omega)) ?_; rw [IG Y.ti]; have AFF:∀ j,Bj (.slice (some po) o.length co) j→j<W'.sz:=fun j hj=>tr t' ho hj; have qq:=hp.lt t'; have h7:=k7.sz
   have AHR:y.AH≠[]→∀ j,Bj (.slice av y.AH.length cv) j→j<W.sz∨W'.sz≤j:=fun D0 j hj=>by
    rcases yr with e | OL
    ·left; subst e; refine AHP (fun LN=>D0 ?_) j hj; obtain ⟨a1,c1,e1,_⟩:=YG
     injection e1 with _ e2 _
     exact List.length_eq_zero_iff.1 (by rw [e2,LN]; rfl)
    ·exact .inr (OL.in hj)
   have hyl:y.AH.length<100000:=by have:=N' hC Y.many; omega
   refine uL (A:=W) (vo:=.slice (some po) o.length co) ht t10 (k'.trans kk) hc hC Y hyl hn g0 Zi kJ rfl rfl AB8 (eG.imp fun _ _ _ hr=>hr.kp t7 k10) (ho.kp t' kk) (hp.ext t' kk) hF (Nat.le_refl _) (fun b l c e=>Nat.le_of_lt (kH _ ⟨b,l,c,e,rfl⟩)) (by omega) (fun hj=>by have:=AFF _ hj; omega) (fun D0 j hj=>?_) (fun hj=>by have:=kH _ hj; omega) fun e2 W2 vo2 o2 cO t2 Lh AFG dW wA hF2 AHS AHT=>?_
   ·rcases AHR D0 j hj with h | h
    ·exact ⟨by omega,fun oJ=>by have:=kH _ oJ; omega⟩
    ·exact ⟨by omega,fun oJ=>by have:=AFF _ oJ; omega⟩
   ·have q12:e2 12=.int .i64 i:=(Lh 12 (by decide)).trans g12; simp only [Ay,Mk,jr,Gc,Fz,KA,if_true,uF,q12,AO,AA]
    refine ⟨by omega,trivial,o2,vo2,?_,t2,?_,AFG,?_,dW,fun j hj=>?_,wA,hF2,?_⟩
    ·exact D7.kp (k'.trans kk) cO fun j hj=>by
      rcases hj with rfl | hj
      ·exact Nat.le_refl _
      ·exact Nat.le_of_lt (kH _ hj)
    ·exact fun t ht=>by
      simp only [List.mem_cons,List.not_mem_nil,or_false] at ht
      rcases ht with rfl | rfl | rfl | rfl
      ·exact ((Lh 0 (by decide)).trans g0).trans h0.symm
      ·exact ((Lh 1 (by decide)).trans g1).trans h1.symm
      ·exact ((Lh 2 (by decide)).trans g2).trans h2.symm
      ·exact ((Lh 10 (by decide)).trans Zi).trans KC.symm
    ·simp only [AI,↓reduceIte]; rw [C4 (by omega)]
    ·rcases (AHS j hj).2 with h | h
     ·exact kH _ h
     ·have:=k'.sz; have:=k10.sz; omega
    ·rw [←hR,AHT,show h.length-i=(h.length-(i+1))+1 by omega,UJ hx]; congr 2; unfold Gw; rw [hw,show (((w+1:Nat):Int)-1).toNat=w by omega,hxw]; simp only [hy]
  ·simp only [Ay,Mk,Gc,KA,if_true,uD,pS]; have wM:o=Ax c l h root:=by rw [←hR,XU HQ]
   refine ⟨k',t',vo,W.sz,?_,wM ▸ ho,fun b l c e=>Nat.le_of_lt (kH _ ⟨b,l,c,e,rfl⟩),wM ▸ hp,Nat.le_refl _,wM ▸ hF⟩; simp only [AI,AQ,Nat.reduceEqDiff,↓reduceIte,Zi,kJ]
 refine AD (fun hr=>?_) (fun hr=>?_)
 ·have hr:=of_decide_eq_true hr; obtain ⟨w,hw⟩:∃ w:Nat,root=(w:Int):=⟨root.toNat,by omega⟩
  subst hw; have EB:start (w:Int)=[(w:Int)]:=by unfold start; rw [if_pos hr]
  refine Sv FJ s3 z3 rfl (by omega) tj (by omega) (Oz _) rfl rfl t0 CD.nil (by simp) fun u v1 W1 H6 t1 o1 n1=>?_; rw [Ad FJ s3 (by omega:w<h.length+1)]; simp only [AA]; have Uj:=H6.j5 t0 hB (fun b l c e=>by cases e); refine An (vs:=Dn [] (h.length+1)) s3 (a:=⟨W.sz,0+w*1,none⟩) rfl Uj (by rw [Gv]; show 0+w*1<_; omega) fun W2 hu JN=>?_; have hu:ED W.sz W1 W2:=hu; have JN:BX W2 W.sz 3 (putAt (Dn [] (h.length+1)) (0+w*1) [.int .i64 ((([]:List Int).length:Int)+1)]):=JN; rw [show 0+w*1=w by omega,XT (by omega) (by simp)] at JN; have dS:BF (W.sz+1) v1:=n1 _ (by rw [z0]; exact Nat.le_refl _); have Ul:=H6.sz
  refine Ol _ W2 v1 ((H6.kp k0 (BF.nil _ _ _)).BB (Nat.le_refl _) hu) (t1.BB (by omega) hu) rfl rfl rfl rfl rfl ?_ (fun j hj=>dS.in hj) ?_
  ·rw [EB]; exact HB o1 hu fun b l c e=>by have:=dS b l c e; omega
  ·rw [EB]; exact JN
 ·have hr:=of_decide_eq_false hr; have EB:start root=[]:=by unfold start; rw [if_neg hr]
  refine Ol _ A (.slice none 0 0) k0 t0 rfl rfl rfl rfl rfl (by rw [EB]; exact CD.nil) (fun j hj=>by obtain ⟨b,l,c,e,_⟩:=hj; cases e) ?_; rw [EB]; exact hB
end Go.Ce
namespace Go.Ce
open Go Go.Proofs Go.Proofs.Tryz
def zb (n:Int):Int:=if n<0 then -2*n-1 else 2*n
def CS (t:List ByteArray) (s:ByteArray):List ByteArray:=if t.any (fun x=>decide (x=s)) then t else t++[s]
def IH (l:List C5) (xs:List B9):List ByteArray:=xs.foldl (fun t x=>CS t (AY l x).type) []
def fo (o:List Int) (kind n:Int):List Int:=if kind=2 then RN (placeOf o n).toNat else RN (zb n).toNat
def XX (c:List Al) (o:List Int) (i:Nat) (vs:List Int):Nat→List Int
 | 0=>[]
 | k+1=>XX c o i vs k++(match vs[k]? with
  | some n=>fo o (A4 c i k) n
  | none=>[])
def S7 (c:List Al) (t:List ByteArray) (o:List Int) (y:B9):List Int:=match BL c y.type with
 | some i=>RN (RJ t fun x=>decide (x=y.type)).toNat++(if elemAt c i≠0 then RN y.AH.length else [])++XX c o i y.AH y.AH.length
 | none=>[]
def A9 (h:List B9) (o:List Int):List B9:=o.flatMap fun v=>(h[(v-1).toNat]?).toList
def cP (c:List Al) (l:List C5) (h:List B9) (o:List Int):List Int :=
 [1]++RN (IH l (A9 h o)).length++(IH l (A9 h o)).flatMap zQ++RN o.length++(A9 h o).flatMap fun x=>S7 c (IH l (A9 h o)) o (AY l x)
def zc (l:List C5) (h:List B9) (o:List Int):Bool:=(A9 h o).any fun x=>l.any fun s=>decide (s.to=x.type)
theorem VO {c:List Al} (h:BM c=true) {i:Nat} (hi:i<c.length):(Ap c i).length≤60∧∀ (k:Nat) n,(Ap c i)[k]?=some n→n=1∨n=2:=by
 unfold BM at h; simp only [Bool.and_eq_true,Bool.not_eq_true'] at h; have hb:=Ew h.2.2 hi; unfold Hq at hb
 cases hl:Bd c c.length i with
 | none=>rw [hl] at hb; cases hb
 | some l =>
  rw [hl] at hb; simp only [Bool.or_eq_false_iff,decide_eq_false_iff_not] at hb; refine ⟨by unfold Ap; rw [List.length_map]; omega,fun k n hk=>?_⟩; unfold Ap at hk; rw [List.getElem?_map] at hk
  cases hf:(C0 c i)[k]? with
  | none=>rw [hf] at hk; cases hk
  | some f =>
   rw [hf] at hk
   cases hk
   have:=Ew hb.2 (List.getElem?_eq_some_iff.1 hf).1; unfold EM at this; rw [hf] at this; simp only [Bool.or_eq_false_iff,Bool.not_eq_false'] at this; have hk:=this.1.2; unfold GC at hk
   simpa using hk
theorem uO {c:List Al} (h:BM c=true) {i:Nat} (hi:i<c.length):elemAt c i=0∨elemAt c i=1∨elemAt c i=2:=by
 unfold BM at h; simp only [Bool.and_eq_true,Bool.not_eq_true'] at h; have hb:=Ew h.2.1 hi; unfold A8 at hb; unfold elemAt; rw [List.getElem?_eq_getElem hi] at hb ⊢; simp only [Bool.or_eq_false_iff] at hb ⊢; have h1:=hb.2.1
 by_cases he:c[i].elem=0
 ·exact .inl he
 ·rw [decide_eq_true he,Bool.true_and] at h1; simp only [Bool.or_eq_false_iff,Bool.not_eq_false'] at h1; have:=h1.1.1; unfold GC at this; right
  simpa using this
theorem xz {c:List Al} (h:BM c=true) {i k:Nat} (hi:i<c.length) (hk:elemAt c i=0→k<(Ap c i).length):A4 c i k=1∨A4 c i k=2:=by
 by_cases he:elemAt c i=0
 ·rw [Ll he hi,List.getElem?_eq_getElem (hk he)]; exact (VO h hi).2 k _ (List.getElem?_eq_getElem (hk he))
 ·have:=uO h hi; unfold A4; unfold elemAt at he this; rw [List.getElem?_eq_getElem hi] at he this ⊢; simp only at he this ⊢; rw [if_pos he]; omega
theorem MW (a:List Int):(Be a).length=a.length:=by simp [Be]
theorem kM (a:List Int):(Be a).all Ba=true:=by
 rw [List.all_eq_true]; intro x hx; obtain ⟨y,_,rfl⟩:=List.mem_map.1 hx; rfl
end Go.Ce
namespace Go.Ce
open Go Go.Proofs Go.Proofs.Tryz
def strs (l:List ByteArray):List Value:=l.map fun s=>Value.string s
theorem z9:Hz prog 9=some (.string ⟨#[]⟩):=by kernel_rfl
theorem fp (t:List ByteArray) (s:ByteArray):(CS t s).length≤t.length+1:=by
 unfold CS; split <;> simp
theorem Zj (l:List C5):∀ (xs:List B9) (t:List ByteArray),(xs.foldl (fun t x=>CS t (AY l x).type) t).length≤t.length+xs.length
 | [],t=>by simp
 | x::xs,t=>by
  have:=Zj l xs (CS t (AY l x).type); have:=fp t (AY l x).type; simp only [List.foldl_cons,List.length_cons]; omega
end Go.Ce
namespace Go.Ce
open Go Go.Proofs Go.Proofs.Tryz
theorem XY (o:List Int) (v:Int):0≤placeOf o v∧placeOf o v≤o.length:=by
 unfold placeOf
 split
 ·rename_i i hi; have:=(List.findIdx?_eq_some_iff_getElem.1 hi).1; omega
 ·omega
theorem Nl {c:List Al} {y:B9} {n i:Nat} {s:Al} (h:BM c=true) (Y:UI c y n i s) {k:Nat} {v:Int} (hx:y.AH[k]?=some v):(A4 c i k=2∧0≤v∧v≤n)∨(A4 c i k=1∧-1000000000≤v∧v≤1000000000):=by
 have hv:=Y.val k v hx
 have hk:A4 c i k=1∨A4 c i k=2:=xz h (Dm Y.ti) fun he=>by
  have:=Hr Y.si he Y.many; have:=(List.getElem?_eq_some_iff.1 hx).1; omega
 unfold C1 at hv
 rcases hk with hk | hk
 ·right; rw [hk] at hv; simp at hv; exact ⟨hk,by omega,by omega⟩
 ·left; rw [hk] at hv; simp at hv; exact ⟨hk,by omega,by omega⟩
end Go.Ce
namespace Go.Ce
open Go Go.Proofs Go.Proofs.Tryz
theorem XZ (l:List C5) {s:ByteArray}:∀ (xs:List B9) (t:List ByteArray),s ∈ xs.foldl (fun t x=>CS t (AY l x).type) t→s ∈ t∨∃ x,x ∈ xs∧s=(AY l x).type
 | [],t,h=>.inl h
 | y::xs,t,h=>by
  rw [List.foldl_cons] at h
  rcases XZ l xs _ h with h | ⟨x,hx,e⟩
  ·unfold CS at h
   split at h
   ·exact .inl h
   ·rcases List.mem_append.1 h with h | h
    ·exact .inl h
    ·exact .inr ⟨y,List.mem_cons_self ..,List.mem_singleton.1 h⟩
  ·exact .inr ⟨x,List.mem_cons_of_mem _ hx,e⟩
end Go.Ce
namespace Go.Ce
open Go Go.Proofs Go.Proofs.Tryz
theorem BU (a b:Value):ext (.tuple #[a,b]) 0=some a:=rfl
theorem BV (a b:Value):ext (.tuple #[a,b]) 1=some b:=rfl
theorem GL {c:List Al} {l:List C5} {h:List B9} {root:Int} (hz:HR c l h root=0):BM c=true∧Bl c l=true∧(¬DT c h≥0)∧0≤root∧root≤h.length:=by
 unfold HR at hz
 by_cases h1:Lj c l≠0
 ·rw [if_pos h1] at hz; exact (h1 hz).elim
 ·rw [if_neg h1] at hz
  by_cases h2:DT c h≥0
  ·rw [if_pos h2] at hz; cases hz
  ·rw [if_neg h2] at hz
   by_cases h3:root<0∨root>h.length
   ·rw [if_pos h3] at hz; cases hz
   ·have h1:Lj c l=0:=by omega
    unfold Lj at h1
    cases hc:BM c with
    | false=>rw [hc] at h1; simp at h1
    | true =>
     cases hs:Bl c l with
     | false=>rw [hc,hs] at h1; simp at h1
     | true=>exact ⟨rfl,rfl,h2,by omega,by omega⟩
end Go.Ce
namespace Go.Ce
open Go Go.Proofs Go.Proofs.Tryz
def kN (ro:Option Nat) (K:AB):AB:=AW (fun e ds W=>wV (ld prog 78 (e 4) W) fun AFH=>wV (Mf prog 78 (e 2) AFH W) fun W6=>K .ret (Env.of e [(3,(.bool true)),(103,AFH)]) ds W6) K
def cQ (ro:Option Nat) (K:AB):AB:=AW (fun a b c=>HK 22 a c fun d=>Gl ro 47 104 1 a (Gt 83 A5 82 d 81 (BS a)) b c 2 (kN ro K)) K
def fq:=by
 have h:=@cQ.eq_1; dsimp at h; exact h
def AFI (v0:Value) (K:AB) (W:CW):=by
 have h:GO 47 104 v0 W K=CI 78 W fun a b=>Mw (zH b) fun b c=>Mw (zH c) fun c d=>LW prog 78 [(0,b),(1,c)] fun f=>CI 78 d fun d g=>I9 d f g fun g=>DD 22 v0 g fun h=>DF h 100 fun i=>let b:=eC 17 i (Bh 16 h 15 v0 4 d 14 f (Jl 13 c 12 b 3 false 2 a [])); wI i (BI 78 d g fun c=>I9 a c g fun a=>NW K v0 (LY 3 18 c b) a) (DD 22 v0 g fun a=>GS 47 104 (Dg v0) (DO 21 A5 20 a 19 v0 b) g (cQ none K)):=by kernel_rfl
 dsimp at h; exact h
def cR (ro:Option Nat) (K:AB):AB:=AW (fun a b c=>Bc a 21 fun d=>D8 K a 21 d 80 [] b c) K
def ft:=by
 have h:=@cR.eq_1; dsimp at h; exact h
def VP (ro:Option Nat) (K:AB):AB:=GR (fun a b c=>J9 78 a 4 0 fun d=>BI 75 d c fun f=>J9 48 a 6 0 fun g=>BA g c fun h=>EJ 48 a 6 c fun i=>wV (hX prog 75 f h i c) fun c=>Dh (cR ro K) a 79 i (BO 78 h 77 g 76 f 75 d) b c) (cR ro K)
def Zk:=by
 have h:=@VP.eq_1; dsimp at h; exact h
def Kv (ro:Option Nat) (K:AB):AB:=AW (fun a b c=>Y_ a 73 (EJ 78 a 4 c fun d=>I9 (Bt a) d c fun c=>G_ (VP ro K) a (LY 3 74 d []) b c) (VP ro K) a b c) (VP ro K)
def pU:=by
 have h:=@Kv.eq_1; dsimp at h; exact h
def MX (ro:Option Nat) (K:AB):AB:=GR (fun a b c=>J9 48 a 6 0 fun d=>BA d c fun f=>DR 101 f c (fun g h=>D1 g fun i=>let g:=eC 49 i (BO 48 i 47 g 46 f 45 d); UD i ((KR 9 d c f)∧True) (Kv ro K) a (KT 73 72 68 71 (Wl 68 70 69 (Gk 68 Bs 68 (KT 67 66 64 65 (Gk 64 Bs 64 (KT 63 62 49 61 (I_ 60 59 58 57 56 55 54 53 (EK 52 49 51 50 g)))))))) b h (NN .gtr 3 a 5 0 fun i=>let g:=Ds 52 i 49 51 i 50 (DS a) g; wI i (FC a 5 fun i=>Iy 22 a 0 i fun j=>CO j 0 fun k=>BA k h fun l=>J9 48 a 6 0 fun m=>BA m h fun n=>UZ .geq 9 l n fun o=>let g:=Db 64 o 63 (bN 62 o 49 false 61 o 52 true (Bo 60 n 52 59 m (Bo 58 l 52 57 k (Bo 56 j 52 55 i (GA 54 a 5 52 53 g))))); GP o ((FT 9 m h n)∧UC (FT 9 k h l) 9 d c f) (Kv ro K) a 73 (EK 72 68 71 70 (WZ 69 undef 68 true 68 Bs 67 (K9 66 64 65 g))) b h (D1 (D3 a) fun i=>let g:=Db 68 i 67 (BJ 66 i 64 65 (D3 a) g); GP i ((FT 9 m h n)∧UC (FT 9 k h l) 9 d c f) (Kv ro K) a 73 (A_ 72 68 71 70 69 g) b h (J9 48 a 6 2 fun i=>BI 45 i h fun j=>DD 45 j h fun o=>DF o 20 fun p=>Fw ((Iz 45 j h o True)∧NX (FT 45 i h j) 9 m h n (UC (FT 9 k h l) 9 d c f)) (Kv ro K) a 73 p (BJ 72 p 68 71 o (BJ 70 j 68 69 i g)) b h))) (D1 (D3 a) fun i=>let g:=Db 68 i 67 (Hy 66 i 64 (WZ 65 (D3 a) 64 false 64 DX 63 (BG 62 49 61 52 60 59 (Ia 58 52 57 (CC 56 52 55 54 53 g))))); GP i ((KR 9 d c f)∧True) (Kv ro K) a 73 (A_ 72 68 71 70 69 g) b h (J9 48 a 6 2 fun i=>BI 45 i h fun j=>DD 45 j h fun k=>DF k 20 fun l=>Fw ((Iz 45 j h k True)∧UC (FT 45 i h j) 9 d c f) (Kv ro K) a 73 l (BJ 72 l 68 71 k (BJ 70 j 68 69 i g)) b h)))) fun _ _=>False) (cR ro K)
def pV:=by
 have h:=@MX.eq_1; dsimp at h; exact h
def AB9 (ro:Option Nat) (e:Env) (ds:List Deferred) (K:AB) (W:CW):=by
 have h:C9 ro 47 104 e ds W K=HM 3 e 21 20 fun a=>Di a (Fy 22 e 19 21 fun b=>BI 48 b W fun c=>CI 48 W fun d f=>Dw 48 d c f fun f=>CO d 3 fun g=>Eg g f fun h=>HL 5 h 0 fun i=>let a:=Db 29 i 28 (Dl 27 h 26 g 5 e 21 6 d (NR 25 c 24 b 23 e 21 22 a)); EW i (MX ro K) e 7 (Wi 44 true 43 undef (Ix 29 Bs 42 41 40 (Jl 39 undef 38 undef 29 true 37 undef (Ix 29 Bs 36 35 34 (A_ 33 29 32 31 30 a))))) ds f (CO d 3 fun b=>Eg b f fun c=>let a:=EU 29 (BJ 31 c 29 30 b a); DR 100 c f (fun b c=>let a:=DO 33 b 29 DX 32 b a; CB b (CO d 1 fun b=>BA b c fun f=>UY .eql 9 true f (.string ⟨#[]⟩) fun g=>let a:=Hy 38 g 29 (bN 37 g 29 false 36 g 33 true (Bo 35 f 33 34 b a)); CB g (CO d 2 fun b=>BI 45 b c fun d=>DD 45 d c fun f=>HY .eql f 0 fun g=>D8 (MX ro K) e 7 g 44 (Hy 43 g 29 (Bo 42 g 38 41 f (Bo 40 d 38 39 b a))) ds c) (MX ro K) e (mh 7 44 43 DX 29 42 38 41 (Ia 40 38 39 a)) ds c) (MX ro K) e (Hy 7 DX 44 (BG 43 29 42 38 41 40 (WZ 39 undef 38 false 38 DX 29 (BG 37 29 36 33 35 34 a)))) ds c) fun b c=>CM (MX ro K) b e a ds c)) K e (F_ 22 a) ds W:=by kernel_rfl
 dsimp at h; exact h
def VQ (ro:Option Nat) (K:AB):AB:=AW (fun a b c=>Bc a 83 fun d=>D8 K a 83 d 102 [] b c) K
def Zl:=by
 have h:=@VQ.eq_1; dsimp at h; exact h
def AB' (ro:Option Nat) (e:Env) (ds:List Deferred) (K:AB) (W:CW):=by
 have h:Fu ro 47 104 1 e ds W K=HM 3 e 83 82 fun a=>ON a (Fy 22 e 81 83 fun b=>BI 48 b W fun c=>CI 48 W fun d f=>Dw 48 d c f fun f=>EJ 78 e 4 f fun g=>CO d 0 fun h=>BA h f fun i=>let a:=DO 90 i 89 h 88 g (BO 9 d 86 c 85 b 84 a); DZ 102 g i f (fun b c=>CX b fun f=>CY b fun g=>D1 g fun h=>let a:=Bh 95 h 94 g 11 g 10 f (Da 93 g 92 f 87 b 91 a); wI h (EJ 78 e 4 c fun b=>I9 (Bt e) b c fun c=>G_ (VQ ro K) e (LY 3 96 b a) ds c) (I1 78 e 4 fun b=>BI 76 b c fun g=>CO d 0 fun d=>BA d c fun h=>wV (hX prog 76 g h f c) fun c=>Dh (VQ ro K) e 101 f (Bh 100 h 99 d 98 g 97 b a) ds c)) fun b c=>CM (VQ ro K) b e a ds c) K 2 e (F_ 84 a) ds W:=by kernel_rfl
 dsimp at h; exact h
def AFJ {Q v0 W}:=Eo 47 104 [v0] Tryz.f47 Q W Tryz.func47 (by kernel_rfl)
def kO (ro:Option Nat) (K:AB):AB:=AW (fun e ds W=>wV (ld prog 83 (e 6) W) fun AFK=>wV (Mf prog 83 (e 4) AFK W) fun W7=>K .ret (Env.of e [(5,(.bool true)),(178,AFK)]) ds W7) K
def kP (ro:Option Nat) (K:AB):AB:=AW (fun a b c=>DD 23 (BE a) c fun d=>Gl ro 48 179 2 a (Oo 163 A5 162 d 161 a 1) b c 4 (kO ro K)) K
def RU:=by
 have h:=@kP.eq_1; dsimp at h; exact h
def AFL (v0 v1:Value) (K:AB) (W:CW):=by
 have h:Dp 48 179 v0 v1 W K=Hj 78 v0 W fun a b=>CI 83 b fun b c=>Mw (zH c) fun c d=>Mw (zH d) fun d f=>LW prog 83 [(0,c),(1,d)] fun g=>CI 83 f fun f h=>Dw 83 f g h fun h=>DD 23 v1 h fun i=>DF i 20 fun j=>let a:=EC 27 j 26 i (Bh 25 v1 6 f 24 g 23 d (Hy 22 c 5 (EC 4 b 2 a []))); wI j (BI 83 f h fun c=>Dw 83 b c h fun b=>LX K v0 v1 (LY 5 28 c a) b) (DD 23 v1 h fun b=>Jp 48 179 v0 v1 (DO 31 A5 30 b 29 v1 a) h (kP none K)):=by kernel_rfl
 dsimp at h; exact h
def RV (ro:Option Nat) (K:AB):AB:=AW (fun a b c=>Bc a 31 fun d=>D8 K a 31 d 160 [] b c) K
def N_:=by
 have h:=@RV.eq_1; dsimp at h; exact h
def nL (ro:Option Nat) (K:AB):AB:=GR (fun a b c=>J9 83 a 6 0 fun d=>BI 81 d c fun f=>J9 58 a 8 0 fun g=>BA g c fun h=>I1 83 a 6 fun i=>BI 81 i c fun j=>I1 58 a 8 fun k=>BA k c fun l=>EJ 58 a 8 c fun m=>EJ 58 a 8 c fun n=>wV (hX prog 81 f h m c) fun o=>wV (hX prog 81 j l n o) fun p=>SV (Es (Js True 58 (DH a) o n 58 (DH a) c n) (NS 58 (DH a) c m) (Es (Js True 9 k o l 9 k c l) (Js True 81 i o j 81 i c j) (Kn 9 g c h 81 d c f))) (RV ro K) a (EC 159 n 158 m (Bh 157 l 156 k 155 j 154 i (BO 153 h 152 g 151 f 150 d))) b p) (RV ro K)
def Zm:=by
 have h:=@nL.eq_1; dsimp at h; exact h
def VR (ro:Option Nat) (K:AB):AB:=GR (fun a b c=>I1 83 a 6 fun d=>BI 81 d c fun f=>I1 58 a 8 fun g=>BA g c fun h=>GU 81 f h true c fun i=>CX i fun j=>CY i fun k=>CI 58 c fun c l=>let d:=D9 104 k 14 13 c (Da 103 k 102 j 96 i 101 (BO 100 h 99 g 98 f 97 d)); Dw 58 c j l fun c=>wI k (EJ 83 a 6 c fun f=>Dw 83 (H4 a) f c fun c=>G_ (RV ro K) a (LY 5 105 f d) b c) (J9 58 a 8 2 fun f=>Bb f c fun g=>CP g c fun h=>Gl ro 48 179 1 a (Bh 109 A5 108 h 107 g 106 f d) b c 2 (nL ro K))) (RV ro K)
def Zn:=by
 have h:=@VR.eq_1; dsimp at h; exact h
def JO (ro:Option Nat) (K:AB):AB:=AW (fun e ds W=>wI (e 94) (wV (ld prog 83 (e 6) W) fun v95=>wV (Mf prog 83 (e 4) v95 W) fun W24=>(VR ro K) .ret (Env.of e [(5,(.bool false)),(95,v95)]) ds W24) ((VR ro K) .normal e ds W)) (VR ro K)
def AB_ (ro:Option Nat) (e:Env) (ds:List Deferred) (K:AB) (W:CW):=by
 have h:C9 ro 48 179 e ds W K=HM 3 e 31 30 fun a=>Di a (Hk e 29 31 fun b=>BI 58 b W fun c=>CI 58 W fun d f=>Dw 58 d c f fun f=>J9 78 e 2 0 fun g=>BI 75 g f fun h=>Et d 0 fun i=>BA i f fun j=>GU 75 h j true f fun k=>CX k fun l=>CY k fun m=>CI 48 f fun f n=>Dw 48 f l n fun n=>J9 78 e 2 0 fun o=>BI 75 o n fun p=>Et d 1 fun q=>BA q n fun r=>GU 75 p r true n fun s=>CX s fun t=>CY s fun u=>CI 48 n fun n v=>Dw 48 n t v fun v=>D1 m fun w=>let a:=eC 54 w (Bh 53 w 52 m 12 u 11 n (Da 51 u 50 t 44 s 49 (Bh 48 r 47 q 46 p 45 o (Bh 10 m 9 f 43 m 42 l (FA 36 k 41 40 j 39 i (Dl 38 h 37 g 7 e 31 8 d (NR 35 c 34 b 33 e 31 32 a))))))); UD w True (JO ro K) e (KT 94 93 83 92 (JA 91 90 (JA 89 88 (JA 87 86 (JA 85 84 (Gk 83 Bs 83 (KT 82 81 68 80 (I_ 79 78 77 76 75 74 73 72 (K9 71 68 70 (WZ 69 undef 68 true 68 Bs 67 (K9 66 63 65 (WZ 64 undef 63 true 63 Bs 62 (K9 61 58 60 (WZ 59 undef 58 true 58 Bs 57 (K9 56 54 55 a))))))))))))))) ds v (D1 u fun b=>let a:=Db 58 b 57 (BJ 56 b 54 55 u a); UD b True (JO ro K) e (KT 94 93 83 92 (JA 91 90 (JA 89 88 (JA 87 86 (JA 85 84 (Gk 83 Bs 83 (KT 82 81 68 80 (I_ 79 78 77 76 75 74 73 72 (EK 71 68 70 69 (Gq 68 true 67 66 undef 63 65 63 64 (Gq 63 true 62 61 undef 58 60 58 59 a))))))))))) ds v (CO f 3 fun b=>Eg b v fun c=>Ov 5 c 0 fun f=>let a:=Db 63 f 62 (Ds 61 f 58 60 c 59 b a); UD f (FT 5 b v c) (JO ro K) e (KT 94 93 83 92 (JA 91 90 (JA 89 88 (JA 87 86 (JA 85 84 (Gk 83 Bs 83 (KT 82 81 68 80 (I_ 79 78 77 76 75 74 73 72 (EK 71 68 70 69 (Gq 68 true 67 66 undef 63 65 63 64 a)))))))))) ds v (CO n 3 fun f=>Eg f v fun g=>Ov 5 g 0 fun h=>let a:=Db 68 h 67 (Ds 66 h 63 65 g 64 f a); UD h (HN 5 f v g 5 b v c) (JO ro K) e (KT 94 93 83 92 (JA 91 90 (JA 89 88 (JA 87 86 (JA 85 84 (Gk 83 Bs 83 (KT 82 81 68 80 (I_ 79 78 77 76 75 74 73 72 (EK 71 68 70 69 a))))))))) ds v (NN .gtr 3 e 31 0 fun h=>let a:=Ds 71 h 68 70 h 69 (e 31) a; wI h (FC e 31 fun h=>Iy 23 e 1 h fun i=>Et i 0 fun j=>BA j v fun k=>Et d 0 fun l=>BA l v fun m=>UZ .geq 9 k m fun n=>let a:=Db 83 n 82 (bN 81 n 68 false 80 n 71 true (Bo 79 m 71 78 l (Bo 77 k 71 76 j (Bo 75 i 71 74 h (NP 73 e 31 71 72 (BE e) a))))); GP n (QZ (Mq 9 l v m) 9 j v k (HN 5 f v g 5 b v c)) (JO ro K) e 94 (K9 93 83 92 (A_ 91 83 90 89 88 (A_ 87 83 86 85 84 a))) ds v (Et d 2 fun h=>Bb h v fun i=>CP i v fun n=>I1 78 e 2 fun o=>BI 76 o v fun p=>Et d 1 fun d=>BA d v fun q=>GU 76 p q false v fun r=>DD 29 r v fun s=>HZ 3 n s fun t=>Fw (Es (H2 29 r v s) (YB prog 76 p q false v=some r) (QZ (Mq 9 d v q) 76 o v p (QZ (H2 40 i v n) 40 h v i (QZ (Mq 9 l v m) 9 j v k (HN 5 f v g 5 b v c))))) (JO ro K) e 94 t (BJ 93 t 83 92 s (BJ 91 r 83 90 q (BJ 89 d 83 88 p (BJ 87 o 83 86 n (BJ 85 i 83 84 h a))))) ds v)) (Et d 2 fun h=>Bb h v fun i=>CP i v fun j=>I1 78 e 2 fun k=>BI 76 k v fun l=>Et d 1 fun d=>BA d v fun m=>GU 76 l m false v fun n=>DD 29 n v fun o=>HZ 3 j o fun p=>Fw (Es (H2 29 n v o) (YB prog 76 l m false v=some n) (QZ (Mq 9 d v m) 76 k v l (QZ (H2 40 i v j) 40 h v i (HN 5 f v g 5 b v c)))) (JO ro K) e 94 p (Ds 93 p 83 92 o 91 n (BJ 90 m 83 89 d (BJ 88 l 83 87 k (BJ 86 j 83 85 i (WZ 84 h 83 false 83 DX 82 (BG 81 68 80 71 79 78 (Ia 77 71 76 (CC 75 71 74 73 72 a)))))))) ds v)))))) K e (F_ 32 a) ds W:=by kernel_rfl
 dsimp at h; exact h
def VS (ro:Option Nat) (K:AB):AB:=AW (fun a b c=>Bc a 109 fun d=>D8 K a 109 d 149 [] b c) K
def Zo:=by
 have h:=@VS.eq_1; dsimp at h; exact h
def RW (ro:Option Nat) (K:AB):AB:=Wk (fun a b c=>Y_ a 147 (EJ 83 a 6 c fun d=>Dw 83 (H4 a) d c fun c=>G_ (VS ro K) a (LY 5 148 d []) b c) (VS ro K) a b c) 3 (VS ro K)
def pW:=by
 have h:=@RW.eq_1; dsimp at h; exact h
def ACA (ro:Option Nat) (e:Env) (ds:List Deferred) (K:AB) (W:CW):=by
 have h:Fu ro 48 179 1 e ds W K=HM 3 e 109 108 fun a=>ON a (LS e 107 109 fun b=>Aj b W fun c=>I1 78 e 2 fun d=>BI 76 d W fun f=>J9 58 e 8 0 fun g=>BA g W fun h=>GU 76 f h false W fun i=>DD 29 i W fun j=>KU j 1 fun k=>Ic 103 c A5 k W (fun l m=>D1 l fun n=>let a:=D9 125 n 124 123 l (Bh 122 k 121 j 120 i 119 c (FA 17 i 118 117 h 116 g (Bh 115 f 114 d 16 c 15 (e 109) (NR 113 c 112 b 111 e 109 110 a)))); GP n ((Ko (H2 29 i W j))∧True) (RW ro K) e 147 (A_ 146 133 145 144 143 (A_ 142 133 141 140 139 (A_ 138 133 137 136 135 (WZ 134 undef 133 true 133 Bs 132 (K9 131 125 130 (A_ 129 125 128 127 126 a)))))) ds m (J9 58 e 8 2 fun b=>Bb b m fun d=>wV (slc prog 40 d none (some (e 109)) none m) fun f=>DZ 104 f c m (fun g h=>let a:=Db 133 g 132 (BJ 131 g 125 130 c (BJ 129 f 125 128 (e 109) (BJ 127 d 125 126 b a))); GP g ((KQ True (slc prog 40 d none (some (e 109)) none m=some f))∧KQ (E_ 40 b m d) (GZ True (H2 29 i W j))) (RW ro K) e 147 (Gk 146 undef 133 (A_ 145 133 144 143 142 (A_ 141 133 140 139 138 (A_ 137 133 136 135 134 a)))) ds h (Mh 29 i c fun g=>Eg g h fun k=>I1 78 e 2 fun l=>BI 76 l h fun n=>I1 58 e 8 fun o=>BA o h fun p=>GU 76 n p false h fun q=>Mh 29 q (e 109) fun r=>Eg r h fun s=>HZ 5 k s fun t=>Fw (Es (FT 5 r h s) ((YB prog 76 n p false h=some q)∧True) (NX (FT 9 o h p) 76 l h n (Es (FT 5 g h k) (KQ True (slc prog 40 d none (some (e 109)) none m=some f)) (KQ (E_ 40 b m d) (GZ True (H2 29 i W j)))))) (RW ro K) e 147 t (Ds 146 t 133 145 s 144 r (BJ 143 (e 109) 133 142 q (BJ 141 p 133 140 o (BJ 139 n 133 138 l (BJ 137 k 133 136 g (BJ 135 c 133 134 i a)))))) ds h)) fun _ _=>False)) fun _ _=>False) K 2 e (F_ 110 a) ds W:=by kernel_rfl
 dsimp at h; exact h
def cS (ro:Option Nat) (K:AB):AB:=AW (fun a b c=>Bc a 163 fun d=>D8 K a 163 d 177 [] b c) K
def Zp:=by
 have h:=@cS.eq_1; dsimp at h; exact h
def ACB (ro:Option Nat) (e:Env) (ds:List Deferred) (K:AB) (W:CW):=by
 have h:Fu ro 48 179 2 e ds W K=HM 3 e 163 162 fun a=>ON a (Hk e 161 163 fun b=>BI 58 b W fun c=>CI 58 W fun d f=>Dw 58 d c f fun f=>J9 83 e 6 0 fun g=>BI 81 g f fun h=>Et d 1 fun i=>BA i f fun j=>GU 81 h j true f fun k=>CX k fun l=>CY k fun m=>CI 58 f fun f n=>let a:=D9 175 m 21 20 f (Da 174 m 173 l 167 k 172 (Bh 171 j 170 i 169 h 168 g (BO 19 d 166 c 165 b 164 a))); Dw 58 f l n fun b=>CB m (EJ 83 e 6 b fun c=>Dw 83 (H4 e) c b fun b=>G_ (cS ro K) e (LY 5 176 c a) ds b) (cS ro K) e a ds b) K 4 e (F_ 164 a) ds W:=by kernel_rfl
 dsimp at h; exact h
def AFM {Q v0 v1 W}:=Eo 48 179 [v0,v1] Tryz.f48 Q W Tryz.func48 (by kernel_rfl)
def LC (ro:Option Nat) (K:AB):AB:=AW (fun e ds W=>wV (ld prog 78 (e 8) W) fun v32=>wV (Mf prog 78 (e 6) v32 W) fun W5=>K .ret (Env.of e [(7,(.int .i64 0)),(32,v32)]) ds W5) K
def AFN (v0 v1 v2:Value) (K:AB) (W:CW):=by
 have h:H3 49 33 v0 v1 v2 W K=CI 78 W fun a b=>let c:=Gt 11 v0 7 A5 6 a; DR 47 v0 b (fun b d=>CX b fun f=>CY b fun g=>CI 78 d fun d h=>I9 d f h fun h=>D1 g fun i=>let b:=eC 15 i (Bh 17 i 16 g 9 g 8 d (Da 14 g 13 f 10 b 12 c)); wI i (BI 78 d h fun c=>I9 a c h fun a=>Jm (LC none K) (E6 v0 v1 v2) (EC 7 (Jk 210) 18 c b) a) (BI 78 d h fun c=>DZ 84 c v1 h (fun f g=>Mi f 0 fun h=>let b:=eC 19 h (Bh 23 h 22 f 21 v1 20 c b); wI h (BI 78 d g fun c=>I9 a c g fun a=>Jm (LC none K) (E6 v0 v1 v2) (EC 7 (Jk 211) 24 c b) a) (DD 24 v1 g fun c=>let b:=DO 28 c 27 v1 26 v2 b; Ic 103 v2 A5 c g (fun c f=>D1 c fun g=>let b:=D9 25 g 30 29 c b; CB g (BI 78 d f fun c=>I9 a c f fun a=>Jm (LC none K) (E6 v0 v1 v2) (EC 7 (Jk 1) 31 c b) a) (LC none K) (E6 v0 v1 v2) b [] f) fun a c=>Gn (LC none K) a v0 v1 v2 b c)) fun a d=>Gn (LC none K) a v0 v1 v2 (EC 21 v1 20 c b) d)) fun a b=>Gn K a v0 v1 v2 c b:=by kernel_rfl
 dsimp at h; exact h
def AFO {Q v0 v1 v2 W}:=Eo 49 33 [v0,v1,v2] Tryz.f49 Q W Tryz.func49 (by kernel_rfl)
def uP (ro:Option Nat) (K:AB):AB:=AW (fun e ds W=>K .ret (Env.of e [(4,(e 5)),(42,(e 5))]) ds W) K
def AFP (v0 v1:Value) (K:AB) (W:CW):=by
 have h:Dp 50 43 v0 v1 W K=Mw (zH W) fun a b=>LW prog 100 [(1,a)] fun c=>Hj 100 c b fun b d=>let a:=DO 13 v0 12 b 5 b (BO 11 b 10 c 9 a 4 (.pointer none)); DZ 105 b v0 d (fun b c=>Jp 50 43 v0 v1 (EC 6 A5 14 b a) c (uP none K)) fun b c=>Fv K b v0 v1 a c:=by kernel_rfl
 dsimp at h; exact h
def kQ (ro:Option Nat) (K:AB):AB:=AW (fun a b c=>Bc a 6 fun d=>CQ K a 6 d 23 22 b c) K
def uQ:=by
 have h:=@kQ.eq_1; dsimp at h; exact h
def ACC (ro:Option Nat) (e:Env) (ds:List Deferred) (K:AB) (W:CW):=by
 have h:C9 ro 50 43 e ds W K=EV (DS e) fun a=>I0 a 0 fun b=>Bb b W fun c=>CP c W fun d=>FU e 6 d fun f=>let a:=DO 21 f 20 d 19 c (DG 18 b 17 a 16 e 5 15 6); Di f (EV (DS e) fun b=>I0 b 0 fun c=>Bb c W fun d=>EZ d (EY e) fun f=>Aj f W fun g=>let a:=Dl 31 g 30 f 29 e 6 28 d (Dl 27 c 26 b 25 e 5 24 (BE e) a); G9 prog Br (BE e) [g] W (fun b c=>CP b c fun d=>Gl ro 50 43 1 e (DO 34 A5 33 d 32 b a) ds c 2 (CL 1 (kQ ro K))) fun b c=>CM (kQ ro K) b e a ds c) K e a ds W:=by kernel_rfl
 dsimp at h; exact h
def kR (ro:Option Nat) (K:AB):AB:=AW (fun a b c=>Bc a 34 fun d=>D8 K a 34 d 41 [] b c) K
def uR:=by
 have h:=@kR.eq_1; dsimp at h; exact h
def ACD (ro:Option Nat) (e:Env) (ds:List Deferred) (K:AB) (W:CW):=by
 have h:Fu ro 50 43 1 e ds W K=HM 3 e 34 33 fun a=>ON a (LS e 32 34 fun b=>Aj b W fun c=>let a:=NQ 39 c 38 e 5 (BO 8 c 37 c 36 b 35 a); DZ 105 (DS e) c W (fun b c=>Dh (kR ro K) e 40 b a ds c) fun b c=>CM (kR ro K) b e a ds c) K 2 e (F_ 35 a) ds W:=by kernel_rfl
 dsimp at h; exact h
theorem pX (Q:Ending→CW→Prop) (e:Env) (W:CW):AJ prog Tryz.f50 Q .ret e [] W=Q (.returned (e 4)) W:=by kernel_rfl
def AFQ {Q v0 v1 W}:=Eo 50 43 [v0,v1] Tryz.f50 Q W Tryz.func50 (by kernel_rfl)
def kT (ro:Option Nat) (K:AB):AB:=AW (fun e ds W=>wV (ld prog 40 (e 5) W) fun v23=>K .ret (Env.of e [(4,v23),(23,v23)]) ds W) K
def AFR (v0 v1:Value) (K:AB) (W:CW):=by
 have h:Dp 52 24 v0 v1 W K=Hj 78 v0 W fun a b=>Hj 56 v1 b fun b c=>CI 40 c fun c d=>BI 78 a d fun f=>BI 56 b d fun g=>let a:=EC 9 g 8 f (BO 5 c 4 (.slice none 0 0) 3 b 2 a); DZ 62 f g d (fun b c=>Fk prog Br none 52 24 (.rangeFunc (.tmp 10) #[11,12] (AM prog 52 0) (AN prog 52 0)) (Env.of (QY v0 v1) (eC 10 b a)) [] c (CL 0 (kT none K))) fun b c=>Fv (kT none K) b v0 v1 a c:=by kernel_rfl
 dsimp at h; exact h
theorem ACE (ro:Option Nat) (e:Env) (ds:List Deferred) (K:AB) (W:CW):Ft prog Br ro 52 24 (AM prog 52 0) e ds W K=(K .normal (Env.of e [(7,(e 12)),(6,(e 11))]) ds W):=by kernel_rfl
def ACF (ro:Option Nat) (e:Env) (ds:List Deferred) (K:AB) (W:CW):=by
 have h:jL ro 52 24 (AN prog 52 0) e ds W K=HL 5 (D3 e) 2 fun a=>CB a (EJ 40 e 5 W fun b=>Ih e 3 fun c=>Bb c W fun d=>EZ d (EY e) fun f=>Aj f W fun g=>Jo prog 40 1 [(0,g)] W fun h i=>Jt prog 40 40 b h i fun j k=>Dw 40 (DS e) j k fun k=>SV ((Ko (NS 3 f W g))∧KQ (Ko (NS 40 c W d)) (Ko (Js True 40 (DS e) i b 40 (DS e) W b))) K e (EC 22 j 21 h (Dl 20 g 19 f 18 e 6 17 d (BO 16 c 15 b 14 a 13 (D3 e)))) ds k) K e (Qz 14 a 13 e 7) ds W:=by kernel_rfl
 dsimp at h; exact h
theorem pY (Q:Ending→CW→Prop) (e:Env) (W:CW):AJ prog Tryz.f52 Q .ret e [] W=Q (.returned (e 4)) W:=by kernel_rfl
def AFS {Q v0 v1 W}:=Eo 52 24 [v0,v1] Tryz.f52 Q W Tryz.func52 (by kernel_rfl)
def AFT (v0 v1:Value) (K:AB) (W:CW):=by
 have h:Dp 62 6 v0 v1 W K=Hj 78 v0 W fun a b=>Hj 56 v1 b fun b c=>wV (some (.func (.func 108) #[] #[a,b])) fun d=>LX K v0 v1 (eC 4 d (BO 5 d 4 .nilFunc 3 b 2 a)) c:=by kernel_rfl
 dsimp at h; exact h
theorem pZ (Q:Ending→CW→Prop) (e:Env) (W:CW):AJ prog Tryz.f62 Q .ret e [] W=Q (.returned (e 4)) W:=by kernel_rfl
def AFU {Q v0 v1 W}:=Eo 62 6 [v0,v1] Tryz.f62 Q W Tryz.func62 (by kernel_rfl)
def AFV (v0 v1:Value) (K:AB) (W:CW):=by
 have h:Dp 84 11 v0 v1 W K=Hj 78 v0 W fun a b=>Hj 24 v1 b fun b c=>BI 24 b c fun d=>DD 24 d c fun f=>DF f 1000 fun g=>let d:=EC 7 g 6 f (BO 5 d 4 A5 3 b 2 a); Jq g K v0 v1 (NU 4 1000 d) c (BI 24 b c fun f=>wV (some (.func (.func 118) #[] #[a,b])) fun a=>DZ 117 f a c (fun b c=>LX K v0 v1 (FA 4 b 10 9 a 8 f d) c) fun b c=>Fv K b v0 v1 (EC 9 a 8 f d) c):=by kernel_rfl
 dsimp at h; exact h
theorem Zq (Q:Ending→CW→Prop) (e:Env) (W:CW):AJ prog Tryz.f84 Q .ret e [] W=Q (.returned (e 4)) W:=by kernel_rfl
def AFW {Q v0 v1 W}:=Eo 84 11 [v0,v1] Tryz.f84 Q W Tryz.func84 (by kernel_rfl)
def VT (ro:Option Nat) (K:AB):AB:=AW (fun a b c=>EV (BS a) fun d=>I0 d 0 fun f=>Bb f c fun g=>Jo prog 40 1 [(0,BE a)] c fun c h=>Jt prog 40 40 g c h fun h i=>EV (BS a) fun j=>I0 j 0 fun k=>Dw 40 k h i fun i=>EV (BS a) fun l=>I0 l 1 fun m=>BI 98 m i fun n=>EV (BS a) fun o=>I0 o 0 fun p=>Bb p i fun q=>CP q i fun r=>wV (hX prog 98 n (BE a) r i) fun s=>SV ((Ko (H2 40 q i r))∧Gp 40 p i q 98 m i n) K a (Bh 34 r 33 q 32 p 31 o (Bh 30 (BS a) 29 (BE a) 28 n 27 m (Jr 26 l 25 a 24 k 23 j (Dl 22 h 21 c 20 a 1 19 g (BQ 18 f 17 d 16 a 0 15 []))))) b s) K
def Zr:=by
 have h:=@VT.eq_1; dsimp at h; exact h
def VU (ro:Option Nat) (K:AB):AB:=AW (fun e ds W=>wI (e 14) ((VT ro K) .ret e ds W) ((VT ro K) .normal e ds W)) (VT ro K)
def ACG (v0 v1:Value) (K:AB) (W:CW):=by
 have h:Dp 105 35 v0 v1 W K=HY .eql v1 0 fun a=>let b:=D9 6 a 5 4 v1 []; EW a (VU none K) (QY v0 v1) 14 (EK 13 6 12 11 (A_ 10 6 9 8 7 b)) [] W (EV v0 fun a=>I0 a 1 fun c=>BI 98 c W fun d=>GU 98 d v1 false W fun f=>DF f 0 fun g=>Dh (VU none K) (QY v0 v1) 14 g (Ds 13 g 6 12 f 11 v1 (BJ 10 d 6 9 c (BJ 8 a 6 7 v0 b))) [] W):=by kernel_rfl
 dsimp at h; exact h
def kU (Q:Ending→CW→Prop) (e:Env) (W:CW):=by
 have h:AEB Tryz.f105 Q e W=zJ Q #[] W:=by kernel_rfl
 dsimp at h; exact h
def ACH {Q v0 v1 W}:=Eo 105 35 [v0,v1] Tryz.f105 Q W Tryz.func105 (by kernel_rfl)
def ACI (v0 v1 v2:Value) (K:AB) (W:CW):=by
 have h:H3 108 36 v0 v1 v2 W K=JH 78 v1 0 fun a=>BI 75 a W fun b=>Dr v2 0 fun c=>BA c W fun d=>GU 75 b d false W fun f=>wV (fld prog 48 f 3) fun g=>Dr v2 1 fun h=>Bb h W fun i=>CP i W fun j=>GS 108 36 (E6 v0 v1 v2) (DO 16 A5 15 j 14 i (Bh 13 h 4 g 12 g 11 f (BO 10 d 9 c 8 b 7 a))) W K:=by kernel_rfl
 dsimp at h; exact h
def RX (ro:Option Nat) (K:AB):AB:=AW (fun a b c=>Bc a 16 fun d=>D8 K a 16 d 35 [] b c) K
def Zs:=by
 have h:=@RX.eq_1; dsimp at h; exact h
def VV (ro:Option Nat) (K:AB):AB:=GR (fun a b c=>let d:=Gt 32 (EY a) 31 (DS a) 30 (BS a); G9 prog Br (BS a) [DS a,EY a] c (fun c f=>D1 c fun g=>CB g (G_ (RX ro K) a (EC 34 g 33 c d) b f) (RX ro K) a (EC 34 g 33 c d) b f) fun c f=>CM (RX ro K) c a d b f) (RX ro K)
def pb:=by
 have h:=@VV.eq_1; dsimp at h; exact h
def x_ (ro:Option Nat) (e:Env) (ds:List Deferred) (K:AB) (W:CW):=by
 have h:C9 ro 108 36 e ds W K=HM 3 e 16 15 fun a=>Di a (HL 5 (H4 e) 0 fun b=>let a:=oc 21 b 20 (H4 e) 6 e 4 (NR 19 (H4 e) 5 (e 16) 18 e 16 17 a); CB b (I1 78 e 1 fun b=>BI 76 b W fun c=>J9 56 e 2 0 fun d=>BA d W fun f=>GU 76 c f false W fun g=>Mh 29 g (e 16) fun h=>Eg h W fun i=>Dh (VV ro K) e 6 i (Dl 29 i 28 h 27 e 16 26 g (Bh 25 f 24 d 23 c 22 b a)) ds W) (VV ro K) e a ds W) K e (F_ 17 a) ds W:=by kernel_rfl
 dsimp at h; exact h
def ACJ {Q v0 v1 v2 W}:=Eo 108 36 [v0,v1,v2] Tryz.f108 Q W Tryz.func108 (by kernel_rfl)
def cT (ro:Option Nat) (K:AB):AB:=AW (fun e ds W=>K .ret (Env.of e [(4,(.int .i64 (-1)))]) ds W) K
def ACK (v0 v1:Value) (K:AB) (W:CW):=by
 have h:Dp 117 19 v0 v1 W K=DD 24 v0 W fun a=>Jp 117 19 v0 v1 (BO 8 A5 7 a 6 v0 4 A5) W (cT none K):=by kernel_rfl
 dsimp at h; exact h
def VW (ro:Option Nat) (K:AB):AB:=AW (fun a b c=>Bc a 8 fun d=>D8 K a 8 d 18 [] b c) K
def Zt:=by
 have h:=@VW.eq_1; dsimp at h; exact h
def yA (ro:Option Nat) (e:Env) (ds:List Deferred) (K:AB) (W:CW):=by
 have h:C9 ro 117 19 e ds W K=HM 3 e 8 7 fun a=>Di a (Fy 24 e 0 8 fun b=>BI 56 b W fun c=>let a:=BQ 15 c 14 b 13 e 8 12 (NR 11 (BE e) 5 (DH e) 10 e 8 9 a); G9 prog Br (BE e) [c] W (fun b c=>CB b (G_ (VW ro K) e (DO 4 (DH e) 17 (DH e) 16 b a) ds c) (VW ro K) e (eC 16 b a) ds c) fun b c=>CM (VW ro K) b e a ds c) K e (F_ 9 a) ds W:=by kernel_rfl
 dsimp at h; exact h
theorem Xa (Q:Ending→CW→Prop) (e:Env) (W:CW):AJ prog Tryz.f117 Q .ret e [] W=Q (.returned (e 4)) W:=by kernel_rfl
def ACL {Q v0 v1 W}:=Eo 117 19 [v0,v1] Tryz.f117 Q W Tryz.func117 (by kernel_rfl)
def ACN (v0 v1 v2:Value) (K:AB) (W:CW):=by
 have h:H3 118 11 v0 v1 v2 W K=Hj 56 v0 W fun a b=>BI 78 v1 b fun c=>BI 56 a b fun d=>BI 24 v2 b fun f=>DD 24 f b fun g=>let a:=EC 8 g 7 f (Jl 6 d 5 c 4 false 3 a []); Ic 119 c d g b (fun b c=>D1 b fun d=>Jm K (E6 v0 v1 v2) (D9 4 d 10 9 b a) c) fun b c=>Gn K b v0 v1 v2 a c:=by kernel_rfl
 dsimp at h; exact h
theorem kV (Q:Ending→CW→Prop) (e:Env) (W:CW):AJ prog Tryz.f118 Q .ret e [] W=Q (.returned (e 4)) W:=by kernel_rfl
def ACO {Q v0 v1 v2 W}:=Eo 118 11 [v0,v1,v2] Tryz.f118 Q W Tryz.func118 (by kernel_rfl)
def RY (ro:Option Nat) (K:AB):AB:=AW (fun e ds W=>wV (Mf prog 4 (e 6) (.bool true) W) fun W6=>K .ret e ds W6) K
def RZ (ro:Option Nat) (K:AB):AB:=AW (fun a b c=>EJ 78 a 3 c fun d=>EJ 56 a 4 c fun f=>DZ 62 d f c (fun c g=>Fk prog Br ro 119 72 (.rangeFunc (.tmp 47) #[48,49] (AM prog 119 0) (AN prog 119 0)) (Env.of a (Gt 47 c 46 f 45 d)) b g (CL 0 (RY ro K))) fun c g=>CM (RY ro K) c a (EC 46 f 45 d []) b g) K
def Xb:=by
 have h:=@RZ.eq_1; dsimp at h; exact h
def Ln (ro:Option Nat) (K:AB):AB:=AW (fun e ds W=>wI (e 44) (wV (Mf prog 4 (e 6) (.bool false) W) fun Xc=>(RZ ro K) .ret e ds Xc) ((RZ ro K) .normal e ds W)) (RZ ro K)
def ACP (v0 v1 v2:Value) (K:AB) (W:CW):=by
 have h:H3 119 72 v0 v1 v2 W K=Hj 78 v0 W fun a b=>Hj 56 v1 b fun b c=>Hj 3 v2 c fun c d=>CI 4 d fun d f=>JH 78 a 0 fun g=>BI 75 g f fun h=>Dr b 0 fun i=>BA i f fun j=>GU 75 h j true f fun k=>CX k fun l=>CY k fun m=>CI 48 f fun f n=>Dw 48 f l n fun n=>D1 m fun o=>let c:=eC 22 o (Bh 21 o 20 m 8 m 7 f (Da 19 m 18 l 12 k 17 (Bh 16 j 15 i 14 h 13 g (BO 6 d 5 c 4 b 3 a)))); EW o (Ln none K) (E6 v0 v1 v2) 44 (A_ 43 39 42 41 40 (SX 39 true 38 37 undef 22 (Db 36 undef 35 (I_ 34 33 32 31 30 29 28 27 (A_ 26 22 25 24 23 c))))) [] n (CO f 3 fun d=>Eg d n fun f=>HL 5 f 0 fun g=>let c:=jK 26 g 22 false 25 (BJ 24 f 22 23 d c); wI g (Dr b 1 fun d=>Bb d n fun f=>CP f n fun g=>JH 78 a 1 fun a=>BI 76 a n fun h=>Dr b 0 fun i=>BA i n fun j=>GU 76 h j false n fun k=>DD 29 k n fun l=>HZ 3 g l fun m=>let a:=Db 39 m 38 (Hy 37 m 22 (Bo 36 m 26 35 l (Bo 34 k 26 33 j (Bo 32 i 26 31 h (Bo 30 a 26 29 g (Bo 28 f 26 27 d c)))))); EW m (Ln none K) (E6 v0 v1 v2) 44 (A_ 43 39 42 41 40 a) [] n (Dr b 1 fun b=>Bb b n fun c=>CP c n fun d=>DF d 200 fun f=>Dh (Ln none K) (E6 v0 v1 v2) 44 f (BJ 43 f 39 42 d (BJ 41 c 39 40 b a)) [] n)) (Dr b 1 fun a=>Bb a n fun b=>CP b n fun d=>DF d 200 fun f=>Dh (Ln none K) (E6 v0 v1 v2) 44 f (BJ 43 f 39 42 d (BJ 41 b 39 40 a (mh 39 38 37 DX 22 36 26 35 (CC 34 26 33 32 31 (CC 30 26 29 28 27 c))))) [] n)):=by kernel_rfl
 dsimp at h; exact h
theorem yB (ro:Option Nat) (e:Env) (ds:List Deferred) (K:AB) (W:CW):Ft prog Br ro 119 72 (AM prog 119 0) e ds W K=(K .normal (Env.of e [(10,(e 49)),(9,(e 48))]) ds W):=by kernel_rfl
def Gx (ro:Option Nat) (K:AB):AB:=AW (fun e ds W=>wI (e 71) (wV (Mf prog 4 (e 6) (.bool false) W) fun W13=>K .ret e ds W13) (K .normal e ds W)) (CL 1 K)
def yC (ro:Option Nat) (e:Env) (ds:List Deferred) (K:AB) (W:CW):=by
 have h:jL ro 119 72 (AN prog 119 0) e ds W K=Ih e 4 fun a=>Bb a W fun b=>EZ b (Ee e) fun c=>Aj c W fun d=>HL 5 (D2 e) 1 fun f=>let a:=eC 57 f (Da 56 f 55 (D2 e) 11 d 54 (BO 53 c 52 (Ee e) 51 b 50 a)); let b:=Qy 57 (Gk 58 d 57 a); wI f (Ic 103 d (Jk (-1000000000)) (Jk 1000000000) W (fun a c=>D1 a fun f=>let a:=eC 62 f (Jl 61 f 60 f 57 true 59 a b); EW f (Gx ro K) e 71 (Gk 70 undef 62 (LU 69 68 67 66 (EK 65 62 64 63 a))) ds c (HL 5 (D2 e) 2 fun b=>let a:=Ds 65 b 62 64 b 63 (D2 e) a; CB b (EJ 3 e 5 c fun b=>let a:=Qy 65 (Bo 67 b 65 66 d a); Ic 103 d A5 b c (fun b c=>D1 b fun d=>D8 (Gx ro K) e 71 d 70 (tI 62 false 69 d 65 68 b a) ds c) fun b c=>CM (Gx ro K) b e a ds c) (Gx ro K) e (KX 71 70 DX 62 (CC 69 65 68 67 66 a)) ds c)) fun a c=>CM (Gx ro K) a e b ds c) (HL 5 (D2 e) 2 fun b=>let a:=Ds 65 b 62 64 b 63 (D2 e) (BG 62 61 60 57 59 58 a); CB b (EJ 3 e 5 W fun b=>let a:=Qy 65 (Bo 67 b 65 66 d a); Ic 103 d A5 b W (fun b c=>D1 b fun d=>D8 (Gx ro K) e 71 d 70 (tI 62 false 69 d 65 68 b a) ds c) fun b c=>CM (Gx ro K) b e a ds c) (Gx ro K) e (KX 71 70 DX 62 (CC 69 65 68 67 66 a)) ds W):=by kernel_rfl
 dsimp at h; exact h
def ACQ {Q v0 v1 v2 W}:=Eo 119 72 [v0,v1,v2] Tryz.f119 Q W Tryz.func119 (by kernel_rfl)
def ACR (v0 v1:Value) (K:AB) (W:CW):=by
 have h:Dp 104 9 v0 v1 W K=(let a:=eC 6 v1 (Gr 5 v0 4); DZ 126 v0 v1 W (fun b c=>Mi b 0 fun d=>LX K v0 v1 (D9 4 d 8 7 b a) c) fun b c=>Fv K b v0 v1 a c):=by kernel_rfl
 dsimp at h; exact h
theorem kX (Q:Ending→CW→Prop) (e:Env) (W:CW):AJ prog Tryz.f104 Q .ret e [] W=Q (.returned (e 4)) W:=by kernel_rfl
def ACS {Q v0 v1 W}:=Eo 104 9 [v0,v1] Tryz.f104 Q W Tryz.func104 (by kernel_rfl)
def cU (ro:Option Nat) (K:AB):AB:=AW (fun e ds W=>K .ret (Env.of e [(4,(.int .i64 (-1)))]) ds W) K
def ACT (v0 v1:Value) (K:AB) (W:CW):=by
 have h:Dp 126 19 v0 v1 W K=CP v0 W fun a=>Jp 126 19 v0 v1 (BO 8 A5 7 a 6 v0 4 A5) W (cU none K):=by kernel_rfl
 dsimp at h; exact h
def cV (ro:Option Nat) (K:AB):AB:=AW (fun a b c=>Bc a 8 fun d=>D8 K a 8 d 18 [] b c) K
def Zu:=by
 have h:=@cV.eq_1; dsimp at h; exact h
def yD (ro:Option Nat) (e:Env) (ds:List Deferred) (K:AB) (W:CW):=by
 have h:C9 ro 126 19 e ds W K=HM 3 e 8 7 fun a=>Di a (Bx e 8 fun b=>Aj b W fun c=>Yb .eql 3 e 1 c fun d=>let a:=eC 16 d (BQ 15 c 14 b 13 e 8 12 (NR 11 (BE e) 5 (DH e) 10 e 8 9 a)); CB d (G_ (cV ro K) e (NQ 4 (DH e) 17 e 8 a) ds W) (cV ro K) e a ds W) K e (F_ 9 a) ds W:=by kernel_rfl
 dsimp at h; exact h
theorem Xd (Q:Ending→CW→Prop) (e:Env) (W:CW):AJ prog Tryz.f126 Q .ret e [] W=Q (.returned (e 4)) W:=by kernel_rfl
def ACU {Q v0 v1 W}:=Eo 126 19 [v0,v1] Tryz.f126 Q W Tryz.func126 (by kernel_rfl)
end Go.Ce
namespace Go.Ce
open Go Go.Proofs Go.Proofs.Tryz
theorem Rd:∀ a:List UInt8,SA a a=false
 | []=>rfl
 | a::x=>by
  simp only [SA,Nat.beq_refl,Bool.true_and,Rd x,Bool.or_false]
  cases h:Nat.blt a.toNat a.toNat with
  | false=>rfl
  | true=>have:=Nat.le_of_ble_eq_true h; omega
theorem OA:∀ a b c:List UInt8,SA a b=true→SA b c=true→SA a c=true
 | _,_,[],_,h=>by simp [SA] at h
 | _,[],_::_,h,_=>by simp [SA] at h
 | [],_::_,_::_,_,_=>rfl
 | a::x,b::y,c::z,h1,h2=>by
  simp only [SA,Bool.or_eq_true,Bool.and_eq_true] at h1 h2 ⊢; have blt:∀ m n:Nat,Nat.blt m n=true↔m<n:=fun m n=>⟨fun h=>Nat.le_of_ble_eq_true h,fun h=>Nat.ble_eq_true_of_le h⟩
  rw [blt,Nat.beq_eq] at h1 h2 ⊢
  rcases h1 with h1 | ⟨h1,h1'⟩
  ·rcases h2 with h2 | ⟨h2,h2'⟩
   ·exact .inl (Nat.lt_trans h1 h2)
   ·exact .inl (by omega)
  ·rcases h2 with h2 | ⟨h2,h2'⟩
   ·exact .inl (by omega)
   ·exact .inr ⟨by omega,OA x y z h1' h2'⟩
theorem uS {c:List Al}:∀ {i:Nat},(∀ j,j<i→A8 c j=false)→∀ j k x y,j<k→k<i→c[j]?=some x→c[k]?=some y→SA (sb x.name) (sb y.name)=true:=by
 intro i h j k
 induction k with
 | zero=>intro x y hj; omega
 | succ k ih =>
  intro x y hj hk hx hy; have hb:=h (k+1) hk; unfold A8 at hb; rw [hy] at hb; simp only [Bool.or_eq_false_iff] at hb; have hp:=hb.1.2; unfold FX at hp; have YD:k<c.length:=by have:=(List.getElem?_eq_some_iff.1 hy).1; omega
  have hz:=List.getElem?_eq_getElem YD; simp only [hz,Bool.not_eq_false'] at hp
  rcases Nat.lt_succ_iff_lt_or_eq.1 hj with h1 | rfl
  ·exact OA _ _ _ (ih x _ h1 (by omega) hx hz) hp
  ·rw [hx] at hz; cases hz; exact hp
theorem kY {c:List Al} {i:Nat} (h:∀ j,j<i→A8 c j=false) {j k:Nat} {x y:Al} (hjk:j≠k) (hj:j<i) (hk:k<i) (hx:c[j]?=some x) (hy:c[k]?=some y):x.name≠y.name:=by
 intro e
 rcases Nat.lt_or_gt_of_ne hjk with h1 | h1
 ·have:=uS h j k x y h1 hk hx hy; rw [e,Rd] at this; cases this
 ·have:=uS h k j y x h1 hj hy hx; rw [e,Rd] at this; cases this
theorem yE {c:List Al} (h:∀ j,j<c.length→A8 c j=false) {i:Nat} {x:Al} (hx:c[i]?=some x):BL c x.name=some i:=by
 unfold BL; have hi:=(List.getElem?_eq_some_iff.1 hx).1; have he:=(List.getElem?_eq_some_iff.1 hx).2; rw [List.findIdx?_eq_some_iff_getElem]; refine ⟨hi,by rw [he]; simp,fun j hj=>?_⟩; have YF:j<c.length:=by omega
 have:=kY h (by omega:j≠i) YF hi (List.getElem?_eq_getElem YF) hx
 simpa using this
theorem Dy {c:List Al} {f i:Nat} {l:List Nat} {x:Al} (hx:c[i]?=some x) (h:Bd c f i=some l):(x.BR=C'∧l=[i])∨(x.BR≠C'∧∃ f' j m,f=f'+1∧RL c i=some j∧Bd c f' j=some m∧l=i::m):=by
 by_cases hs:x.BR=C'
 ·rw [Lf hx hs] at h; exact .inl ⟨hs,(Option.some.inj h).symm⟩
 ·right; refine ⟨hs,?_⟩
  cases f with
  | zero=>rw [PK hx hs] at h; cases h
  | succ f =>
   rw [IE hx hs] at h
   cases hj:RL c i with
   | none=>rw [hj] at h; cases h
   | some j =>
    rw [hj] at h; simp only at h
    cases h1:Bd c f j with
    | none=>rw [h1] at h; cases h
    | some m =>
     rw [h1] at h; exact ⟨f,j,m,rfl,rfl,h1,(Option.some.inj h).symm⟩
theorem GM {c:List Al} {f i:Nat} {l:List Nat} (h:Bd c f i=some l):∃ x,c[i]?=some x:=by
 unfold Bd at h
 cases hx:c[i]? with
 | none=>rw [hx] at h; cases h
 | some x=>exact ⟨x,rfl⟩
theorem Zv {c:List Al}:∀ {f i:Nat} {l:List Nat},Bd c f i=some l→∀ {f':Nat} {l':List Nat},Bd c f' i=some l'→l=l':=by
 intro f
 induction f with
 | zero =>
  intro i l h f' l' h'; obtain ⟨x,hx⟩:=GM h
  rcases Dy hx h with ⟨hs,rfl⟩ | ⟨hs,f1,j,m,h1,_⟩
  ·rcases Dy hx h' with ⟨_,rfl⟩ | ⟨O',_⟩
   ·rfl
   ·exact (O' hs).elim
  ·omega
 | succ f ih =>
  intro i l h f' l' h'; obtain ⟨x,hx⟩:=GM h
  rcases Dy hx h with ⟨hs,rfl⟩ | ⟨hs,f1,j,m,h1,h2,h3,rfl⟩
  ·rcases Dy hx h' with ⟨_,rfl⟩ | ⟨O',_⟩
   ·rfl
   ·exact (O' hs).elim
  ·rcases Dy hx h' with ⟨O',_⟩ | ⟨_,f1',j',m',h1',h2',h3',rfl⟩
   ·exact (hs O').elim
   ·have:f1=f:=by omega
    subst this; rw [h2] at h2'
    cases h2'
    rw [ih h3 h3']
theorem pe {c:List Al}:∀ {f i:Nat} {l:List Nat},Bd c f i=some l→∀ k,l.length≤k+1→Bd c k i=some l:=by
 intro f
 induction f with
 | zero =>
  intro i l h k hk; obtain ⟨x,hx⟩:=GM h
  rcases Dy hx h with ⟨hs,rfl⟩ | ⟨hs,f1,j,m,h1,_⟩
  ·exact Lf hx hs
  ·omega
 | succ f ih =>
  intro i l h k hk; obtain ⟨x,hx⟩:=GM h
  rcases Dy hx h with ⟨hs,rfl⟩ | ⟨hs,f1,j,m,h1,h2,h3,rfl⟩
  ·exact Lf hx hs
  ·have:f1=f:=by omega
   subst this; simp only [List.length_cons] at hk
   have hm:0<m.length:=by
    obtain ⟨y,hy⟩:=GM h3; rcases Dy hy h3 with ⟨_,rfl⟩ | ⟨_,_,_,_,_,_,_,rfl⟩ <;> simp
   cases k with
   | zero=>omega
   | succ k =>
    rw [IE hx hs,h2]; simp only; rw [ih h3 k (by omega)]; rfl
theorem fu {c:List Al}:∀ {f i:Nat} {l:List Nat},Bd c f i=some l→∀ j,j ∈ l→∃ f' m,Bd c f' j=some m∧m.length≤l.length:=by
 intro f
 induction f with
 | zero =>
  intro i l h j hj; obtain ⟨x,hx⟩:=GM h
  rcases Dy hx h with ⟨hs,rfl⟩ | ⟨hs,f1,j,m,h1,_⟩
  ·rw [List.mem_singleton.1 hj]; exact ⟨_,_,h,Nat.le_refl _⟩
  ·omega
 | succ f ih =>
  intro i l h j hj; obtain ⟨x,hx⟩:=GM h
  rcases Dy hx h with ⟨hs,rfl⟩ | ⟨hs,f1,k,m,h1,h2,h3,rfl⟩
  ·rw [List.mem_singleton.1 hj]; exact ⟨_,_,h,Nat.le_refl _⟩
  ·have:f1=f:=by omega
   subst this
   rcases List.mem_cons.1 hj with rfl | hj
   ·exact ⟨_,_,h,Nat.le_refl _⟩
   ·obtain ⟨f',m',h4,h5⟩:=ih h3 j hj; exact ⟨f',m',h4,by simp only [List.length_cons]; omega⟩
theorem kZ {c:List Al}:∀ {f i:Nat} {l:List Nat},Bd c f i=some l→l.Nodup:=by
 intro f
 induction f with
 | zero =>
  intro i l h; obtain ⟨x,hx⟩:=GM h
  rcases Dy hx h with ⟨hs,rfl⟩ | ⟨hs,f1,j,m,h1,_⟩
  ·exact List.pairwise_singleton _ _
  ·omega
 | succ f ih =>
  intro i l h; obtain ⟨x,hx⟩:=GM h
  rcases Dy hx h with ⟨hs,rfl⟩ | ⟨hs,f1,k,m,h1,h2,h3,rfl⟩
  ·exact List.pairwise_singleton _ _
  ·have:f1=f:=by omega
   subst this; refine List.nodup_cons.2 ⟨fun hm=>?_,ih h3⟩; obtain ⟨f',m',h4,h5⟩:=fu h3 i hm; have:=Zv h h4; rw [←this] at h5; simp only [List.length_cons] at h5; omega
theorem nM {n:Nat} {o:List Nat} (h:o.Nodup) (hl:∀ v,v ∈ o→v<n):o.length≤n:=by
 have:=cM n (o.map fun v:Nat=>((v:Int)+1)) (by
  rw [List.Nodup,List.pairwise_map]
  exact h.imp fun D0 e=>D0 (by omega)) fun v hv=>by
   obtain ⟨u,hu,rfl⟩:=List.mem_map.1 hv; have:=hl u hu; omega
 rwa [List.length_map] at this
theorem Zw {c:List Al} {f i:Nat} {l:List Nat} (h:Bd c f i=some l):Bd c c.length i=some l :=
 pe h _ (by have:=nM (kZ h) (JL c _ _ _ h).2; omega)
def CV:List ByteArray→List RG→Bool
 | _,[]=>true
 | F,f::fs=>(Gu f.name && (GC f.kind && !F.any fun s=>decide (s=f.name))) && CV (F++[f.name]) fs
theorem HC:∀ (F:List ByteArray) (fs gs:List RG),CV F (fs++gs)=(CV F fs && CV (F++fs.map (·.name)) gs)
 | F,[],gs=>by simp [CV]
 | F,f::fs,gs=>by
  rw [List.cons_append,CV,CV,HC]; simp [Bool.and_assoc]
theorem UL {fs:List RG}:∀ k,k≤fs.length→(CV [] (fs.take k)=true↔∀ j,j<k→EM fs j=false)
 | 0,_=>by simp [CV]
 | k+1,hk=>by
  have hx:=List.getElem?_eq_getElem (show k<fs.length by omega); have ih:=UL k (by omega:k≤fs.length); rw [List.take_add_one,hx,Option.toList_some,HC,Bool.and_eq_true,ih]
  have hb:EM fs k=false↔CV ([]++(fs.take k).map (·.name)) [fs[k]]=true:=by
   unfold EM CV CV; rw [hx]; simp only [Bool.and_true,Bool.and_eq_true,Bool.or_eq_false_iff,Bool.not_eq_false',Bool.not_eq_true',List.nil_append]
   have:Li fs k fs[k].name=((fs.take k).map (·.name)).any fun s=>decide (s=fs[k].name):=by
    unfold Li B5; rw [Bool.eq_iff_iff,List.any_eq_true,List.any_eq_true]
    constructor
    ·rintro ⟨n,hn,h⟩; have hnk:=List.mem_range.1 hn; rw [List.getElem?_eq_getElem (by omega)] at h; refine ⟨fs[n].name,List.mem_map.2 ⟨fs[n],?_,rfl⟩,by simpa using h⟩; exact List.mem_take_iff_getElem.2 ⟨n,by omega,rfl⟩
    ·rintro ⟨s,hs,h⟩; obtain ⟨f,hf,rfl⟩:=List.mem_map.1 hs; obtain ⟨n,hn,rfl⟩:=List.mem_take_iff_getElem.1 hf; refine ⟨n,List.mem_range.2 (by omega),?_⟩; rw [List.getElem?_eq_getElem (by omega)]
     simpa using h
   rw [this,and_assoc]
  constructor
  ·rintro ⟨h1,h2⟩ j hj
   rcases Nat.lt_succ_iff_lt_or_eq.1 hj with h | rfl
   ·exact h1 j h
   ·exact hb.2 h2
  ·intro h; exact ⟨fun j hj=>h j (by omega),hb.1 (h k (by omega))⟩
theorem kf (fs:List RG):CV [] fs=!B5 fs.length (EM fs):=by
 have h:=UL (fs:=fs) fs.length (Nat.le_refl _); rw [List.take_length] at h; rw [Bool.eq_iff_iff,h,Bool.not_eq_true']; exact ⟨fun h=>Bu h,fun h j hj=>Ew h hj⟩
def CU (W:CW) (r:Nat) (S:List ByteArray):Prop:=∃ m:List (ByteArray × Value),GW Value.string W r m∧∀ s,MQ m s=if S.any (fun x=>decide (x=s)) then some (.bool true) else none
theorem CU.congr {W W':CW} {r:Nat} {S:List ByteArray} (h:CU W r S) (ho:W'.obj r=W.obj r):CU W' r S:=by
 obtain ⟨m,h1,h2⟩:=h; exact ⟨m,h1.congr ho,h2⟩
theorem CU.lt {W:CW} (ht:Ag W) {r:Nat} {S:List ByteArray} (h:CU W r S):r<W.sz:=by
 obtain ⟨m,h1,h2⟩:=h; exact h1.lt ht
theorem AFX:prog.underlying 181=some (.map 9 4):=by kernel_rfl
theorem z4:Hz prog 4=some (.bool false):=by kernel_rfl
theorem CU.look {W:CW} {r:Nat} {S:List ByteArray} (h:CU W r S) (s:ByteArray):YB prog 181 (.map (some r)) (.string s) false W=some (.bool (S.any fun x=>decide (x=s))):=by
 obtain ⟨m,h1,h2⟩:=h; rw [MR AFX u9 rfl z4 G6 h1 s false,h2]
 cases S.any fun x=>decide (x=s) <;> rfl
theorem CU.put {W:CW} {r:Nat} {S:List ByteArray} (h:CU W r S) {s:ByteArray} {K:CW→Prop} (hK:∀ W1,ED r W W1→CU W1 r (S++[s])→K W1):wV (hX prog 181 (.map (some r)) (.string s) (.bool true) W) K:=by
 obtain ⟨m,h1,h2⟩:=h; refine fS AFX u9 rfl G6 h1 fun W1 hu hm=>hK W1 hu ⟨_,hm,fun u=>?_⟩; rw [JX,h2,List.any_append]
 by_cases e:u=s
 ·rw [if_pos e,e]; simp
 ·rw [if_neg e]; have:([s].any fun x=>decide (x=u))=false:=by simp; exact fun h=>e h.symm
  rw [this,Bool.or_false]
def fv (W:CW) (u:Value) (x:Al):Prop:=∃ vf ab lb cb,u=.agg #[.string x.name,.string x.BR,vf,.int .u8 x.elem,.slice ab lb cb]∧AV 2 (Su W) vf x.fields
end Go.Ce
namespace Go.Ce
open Go Go.Proofs Go.Proofs.Tryz
theorem FY {S:Nat→Prop} {W W':CW} (h:D7 S W W') (ht:Ag W) (hm:∀ j,S j→∀ k,W.cell j k=none) {b k:Nat} {v:Value} (hc:W.cell b k=some v):W'.cell b k=some v :=
 h.cell ht (fun hs=>by rw [hm b hs k] at hc; cases hc) hc
theorem CU.cell {W:CW} {r:Nat} {S:List ByteArray} (h:CU W r S) (k:Nat):W.cell r k=none:=by
 obtain ⟨m,⟨es,E7,h1,_⟩,_⟩:=h; unfold CW.cell; rw [h1]
def VX (W:CW) (r:Nat) (c:List Al):Prop:=∃ m:List (ByteArray × Value),GW Value.string W r m∧∀ s,match BL c s with
 | some i=>∃ u x,MQ m s=some u∧c[i]?=some x∧fv W u x
 | none=>MQ m s=none
theorem u75:prog.underlying 75=some (.map 9 48):=by kernel_rfl
def yF:Value:=.agg #[.string ⟨#[]⟩,.string ⟨#[]⟩,.slice none 0 0,.int .u8 0,.slice none 0 0]
theorem VX.some {W:CW} {r:Nat} {c:List Al} (h:VX W r c) {s:ByteArray} {i:Nat} (hi:BL c s=Option.some i):∃ u x,c[i]?=Option.some x∧fv W u x∧YB prog 75 (.map (Option.some r)) (.string s) true W=Option.some (.tuple #[u,.bool true])∧YB prog 75 (.map (Option.some r)) (.string s) false W=Option.some u:=by
 obtain ⟨m,h1,h2⟩:=h; have:=h2 s; rw [hi] at this; obtain ⟨u,x,h3,h4,h5⟩:=this
 refine ⟨u,x,h4,h5,?_,?_⟩
 ·rw [MR u75 u9 rfl rD G6 h1 s true,h3]; rfl
 ·rw [MR u75 u9 rfl rD G6 h1 s false,h3]; rfl
theorem VX.none {W:CW} {r:Nat} {c:List Al} (h:VX W r c) {s:ByteArray} (hi:BL c s=Option.none):YB prog 75 (.map (Option.some r)) (.string s) true W=Option.some (.tuple #[yF,.bool false])∧YB prog 75 (.map (Option.some r)) (.string s) false W=Option.some yF:=by
 obtain ⟨m,h1,h2⟩:=h; have:=h2 s; rw [hi] at this
 constructor
 ·rw [MR u75 u9 rfl rD G6 h1 s true,this]; rfl
 ·rw [MR u75 u9 rfl rD G6 h1 s false,this]; rfl
theorem fv.IF {S:Nat→Prop} {W W':CW} (h:D7 S W W') (ht:Ag W) (hm:∀ j,S j→∀ k,W.cell j k=none) {u:Value} {x:Al} (hu:fv W u x):fv W' u x:=by
 obtain ⟨vf,ab,lb,cb,h1,h2⟩:=hu; exact ⟨vf,ab,lb,cb,h1,h2.imp fun _ _ _ hr=>⟨FY h ht hm hr.name,FY h ht hm hr.kind,hr.lo,hr.hi⟩⟩
theorem VX.IF {S:Nat→Prop} {W W':CW} (h:D7 S W W') (ht:Ag W) (hm:∀ j,S j→∀ k,W.cell j k=Option.none) {r:Nat} {c:List Al} (hr:VX W r c) (hS:¬S r):VX W' r c:=by
 obtain ⟨m,h1,h2⟩:=hr; refine ⟨m,h1.congr (h.obj r (h1.lt ht) hS),fun s=>?_⟩; have:=h2 s
 cases hi:BL c s with
 | none=>rw [hi] at this; exact this
 | some i =>
  rw [hi] at this; obtain ⟨u,x,h3,h4,h5⟩:=this; exact ⟨u,x,h3,h4,h5.IF h ht hm⟩
theorem VX.kp {W W':CW} {r:Nat} {c:List Al} (hr:VX W r c) (ht:Ag W) (k:Kp W W'):VX W' r c:=hr.IF (D7.H7 (S:=fun _=>False) k) ht (fun _ h=>h.elim) (fun h=>h)
theorem CU.kp {W W':CW} {r:Nat} {S:List ByteArray} (h:CU W r S) (ht:Ag W) (k:Kp W W'):CU W' r S:=h.congr (k.obj r (h.lt ht))
structure S9 (W:CW) (bk bs ba bf rs rf r1:Nat) (c:List Al):Prop where
 k:W.cell bk 0=some (.map (some r1))
 s:W.cell bs 0=some (.map (some rs))
 f:W.cell bf 0=some (.map (some rf))
 a:W.cell ba 0=some (.func (.func 125) #[] #[.pointer (some ⟨bk,0,none⟩),.pointer (some ⟨bs,0,none⟩),.pointer (some ⟨ba,0,none⟩),.pointer (some ⟨bf,0,none⟩)])
 sh:VX W r1 c
 ns:r1≠rs
 nf:r1≠rf
 sf:rs≠rf
def Xe (rs rf:Nat) (j:Nat):Prop:=j=rs∨j=rf
theorem Xe.none {W:CW} {rs rf:Nat} {S F:List ByteArray} (hs:CU W rs S) (hf:CU W rf F):∀ j,Xe rs rf j→∀ k,W.cell j k=none:=by
 rintro j (rfl | rfl) k
 ·exact hs.cell k
 ·exact hf.cell k
theorem S9.IF {W W':CW} {bk bs ba bf rs rf r1:Nat} {c:List Al} (R:S9 W bk bs ba bf rs rf r1 c) (ht:Ag W) {S F:List ByteArray} (hs:CU W rs S) (hf:CU W rf F) (h:D7 (Xe rs rf) W W'):S9 W' bk bs ba bf rs rf r1 c :=
 have hm:=Xe.none hs hf
 ⟨FY h ht hm R.k,FY h ht hm R.s,FY h ht hm R.f,FY h ht hm R.a,R.sh.IF h ht hm (fun h=>h.elim R.ns R.nf),R.ns,R.nf,R.sf⟩
theorem Su.ld {W:CW} {b o:Nat} {x:RG} (h:Su W b o x):ld prog 72 (.pointer (some ⟨b,o,none⟩)) W=some (.agg [.string x.name,.int .u8 x.kind].toArray) :=
 CG (vs:=[.string x.name,.int .u8 x.kind]) a72 xg rfl (by omega) h.cells
theorem ACV:agg? prog 181=some false:=by kernel_rfl
theorem zd:agg? prog 75=some false:=by kernel_rfl
theorem a76:agg? prog 76=some false:=by kernel_rfl
theorem AFY:agg? prog 161=some false:=by kernel_rfl
theorem Kw (a:Addr):R' prog 78 (.pointer (some a)) 0=some (.pointer (some ⟨a.block,a.off,none⟩)):=by kernel_rfl
theorem OB (a:Addr):R' prog 78 (.pointer (some a)) 1=some (.pointer (some ⟨a.block,a.off+1,none⟩)):=by kernel_rfl
theorem fw {F:List ByteArray} {gs:List RG} {j:Nat} {g:RG} (hg:gs[j]?=some g):CV F (gs.take (j+1))=(CV F (gs.take j) && (Gu g.name && (GC g.kind && !(F++(gs.take j).map (·.name)).any fun s=>decide (s=g.name)))):=by
 rw [List.take_add_one,hg,Option.toList_some,HC]; congr 1; simp [CV]
theorem kg {F:List ByteArray} {gs:List RG} (j:Nat) (h:CV F (gs.take j)=false):CV F gs=false:=by
 rw [←List.take_append_drop j gs,HC,h,Bool.false_and]
theorem pf {W0 W:CW} {K:AB} {e e1:Env} {vf out:Value} {bk bs ba bf rs rf r1:Nat} {c:List Al} {S F:List ByteArray} {gs:List RG} {ks:List Int} (t0:Ag W0) (R:S9 W0 bk bs ba bf rs rf r1 c) {S0 F0:List ByteArray} (Yt:CU W0 rs S0) (hf0:CU W0 rf F0) (JS:D7 (Xe rs rf) W0 W) (ht:Ag W) (hs:CU W rs S) (hf:CU W rf F)
  (hv:AV 2 (Su W0) vf gs) (hgl:gs.length≤100) (hnm:∀ g,g ∈ gs→g.name.size<1000) (ho:CD W 5 1 out (Be ks)) (OL:BF W0.sz out) (YD:ks.length<100000)
  (h4:e 4=.pointer (some ⟨bf,0,none⟩)) (h49:e 49=vf) (h50:e 50=.int .i64 gs.length) (he:Bi [4,49,50] e e1) (KC:e1 10=out) (h51:e1 51=.int .i64 0)
  (GK:CV F gs=false→∀ e' W',D7 (Xe rs rf) W0 W'→Ag W'→e' 6=.slice none 0 0→e' 7=.bool false→K .ret e' [] W')
  (UM:CV F gs=true→∀ e' W' Ms,D7 (Xe rs rf) W0 W'→Ag W'→e' 10=Ms→CD W' 5 1 Ms (Be (ks++gs.map (·.kind)))→BF W0.sz Ms→CU W' rs S→CU W' rf (F++gs.map (·.name))→K (.exit 0) e' [] W') :
  Fk prog Br none 125 84 (.loop (ES prog 125 0)) e1 [] W K:=by
 have WK:=Xe.none Yt hf0; have AHU:=Yt.lt t0; have AHV:=hf0.lt t0
 refine DI (fun j e' DC W'=>DC=[]∧∃ Ms,D7 (Xe rs rf) W0 W'∧Ag W'∧Bi [4,49,50] e e'∧e' 10=Ms∧e' 51=.int .i64 j∧CD W' 5 1 Ms (Be (ks++(gs.take j).map (·.kind)))∧BF W0.sz Ms∧CU W' rs S∧CU W' rf (F++(gs.take j).map (·.name))∧CV F (gs.take j)=true) gs.length
  ⟨rfl,out,JS,ht,he,KC,h51,by simpa using ho,OL,hs,by simpa using hf,by simp [CV]⟩ ?_
 rintro j e' DC W' hj ⟨rfl,Ms,uT,t',XR,Zi,g51,IK,ACW,O',mW,Ai⟩; have g4:=(XR 4 (by decide)).trans h4; have g49:=(XR 49 (by decide)).trans h49; have g50:=(XR 50 (by decide)).trans h50; rw [xa,g4,g49,g50,g51]; simp only [AS,AA]
 refine FW (fun Ae=>?_) (fun HQ=>?_)
 ·have hx:=List.getElem?_eq_getElem Ae; obtain ⟨a,cap,rfl,hc⟩:=hv; obtain ⟨p,rfl,hp⟩:=hc j _ hx; have hpW:Su W' p.block (p.off+j*2) gs[j]:=⟨FY uT t0 WK hp.name,FY uT t0 WK hp.kind,hp.lo,hp.hi⟩
  rw [Ad Yd xg Ae]; simp only [AA]; rw [hpW.ld]; simp only [AA]; refine Dt z72 xg rfl rfl rfl t' fun W1 k1 t1 z1 hB=>?_; have q0:∀ W2,Kp W1 W2→ld prog 9 (.pointer (some ⟨W'.sz,0,none⟩)) W2=some (.string gs[j].name):=fun W2 k2=>AF a9 (a:=⟨W'.sz,0,none⟩) (k2.cell t1 (hB.cell rfl)); have q1:∀ W2,Kp W1 W2→ld prog 5 (.pointer (some ⟨W'.sz,0+1,none⟩)) W2=some (.int .u8 gs[j].kind):=fun W2 k2=>AF a5 (a:=⟨W'.sz,0+1,none⟩) (k2.cell t1 (hB.cell rfl)); simp only [RI,VE,AA,q0 W1 (.refl _)]; have yu:=fw (F:=F) hx; rw [Ai,Bool.true_and] at yu; have AJA:=uT.sz; refine FV (UG t1 (by have:=hnm _ (List.getElem_mem Ae); omega)) fun W2 k2 t2=>?_; have Xf:=k1.trans k2; have cO:D7 (Xe rs rf) W0 W2:=uT.then (D7.H7 (S:=fun _=>False) Xf) fun _ _ h=>h.elim
  have leaf:∀ (b:Bool) (e2:Env),Bi [4,10,49,50,51] e' e2→e2 12=.pointer (some ⟨W'.sz,0,none⟩)→e2 70=.bool b→(b=!CV F (gs.take (j+1))) →
    (Jv none (J_ (fun j e' DC W'=>DC=[]∧∃ Ms,D7 (Xe rs rf) W0 W'∧Ag W'∧Bi [4,49,50] e e'∧e' 10=Ms∧e' 51=.int .i64 j∧CD W' 5 1 Ms (Be (ks++(gs.take j).map (·.kind)))∧BF W0.sz Ms∧CU W' rs S∧CU W' rf (F++(gs.take j).map (·.name))∧CV F (gs.take j)=true) j gs.length K)) .normal e2 [] W2:=by
   intro b e2 Lh r12 r70 hb; simp only [Jv,Ay,r70]
   refine AD (fun KB=>?_) (fun KB=>?_)
   ·simp only [XB,ZQ,Ay,G4,JI,Fz,Ml]; rw [KB] at hb; exact GK (kg (j+1) (by simpa using hb.symm)) _ W2 cO t2 rfl rfl
   ·rw [KB] at hb; have YT:CV F (gs.take (j+1))=true:=by simpa using hb.symm
    have r4:=(Lh 4 (by decide)).trans g4; have r10:=(Lh 10 (by decide)).trans Zi; have r51:=(Lh 51 (by decide)).trans g51; simp only [XB,Ay,r4,r10,r12]; have qf:ld prog 181 (.pointer (some ⟨bf,0,none⟩)) W2=some (.map (some rf)):=AF ACV (a:=⟨bf,0,none⟩) (FY cO t0 WK R.f); simp only [qf,AA,RI,VE,q0 W2 k2]; refine (mW.kp t' Xf).put fun W3 hu hf3=>?_; have AHW:rf<W2.sz:=by have:=cO.sz; omega
    have t3:Ag W3:=t2.BB AHW hu; have AHX:W'.sz≠rf:=by omega
    have qk:ld prog 5 (.pointer (some ⟨W'.sz,0+1,none⟩)) W3=some (.int .u8 gs[j].kind):=AF a5 (a:=⟨W'.sz,0+1,none⟩) (by
     show W3.cell W'.sz (0+1)=_; rw [hu.cell AHX]
     exact k2.cell t1 (hB.cell rfl))
    simp only [qk,AA]; have ho3:CD W3 5 1 Ms (Be (ks++(gs.take j).map (·.kind))):=HB (IK.kp t' Xf) hu fun b l c e=>by have:=ACW b l c e; omega
    refine Sv Yc s5 z5 rfl (by omega) by5 (by omega) (zP _) rfl rfl t3 ho3 (by rw [MW,List.length_append,List.length_map,List.length_take]; omega) fun u v1 W4 H6 t4 o4 n4=>?_; have Hv:∀ i,Bj Ms i→W0.sz≤i:=fun i hi=>ACW.in hi; have AHY:D7 (Xe rs rf) W0 W4:=((cO.then hu.IF fun i hi h=>.inr h)).then H6.IF fun i hi h=>by have:=Hv i h; omega
    have Ul:=H6.sz; simp only [ZQ,Ay,Fz]; simp only [AI,AQ,Nat.reduceEqDiff,↓reduceIte,r51,AO,AA]
    have dX:CU W4 rs S:=by
     have h2:=O'.kp t' Xf; have h3:CU W3 rs S:=h2.congr (hu.obj rs R.sf); exact h3.congr (H6.obj rs (by rw [hu.sz]; have:=cO.sz; omega) fun b l c e hb=>by have:=Hv rs ⟨b,l,c,e,hb.symm⟩; omega)
    have hf4:CU W4 rf ((F++(gs.take j).map (·.name))++[gs[j].name]) :=
     hf3.congr (H6.obj rf (by rw [hu.sz]; omega) fun b l c e hb=>by have:=Hv rf ⟨b,l,c,e,hb.symm⟩; omega)
    refine ⟨Ae,trivial,v1,AHY,t4,(XR.trans fun t ht=>Lh t (by revert t; decide)).trans ((Bi.put rfl).trans (.put rfl)),rfl,by rw [C4 (by omega)],?_,n4 _ (by rw [hu.sz]; exact cO.sz),dX,?_,YT⟩
    ·rw [List.take_add_one,hx]; have:Be (ks++((gs.take j)++(some gs[j]).toList).map (·.kind))=Be (ks++(gs.take j).map (·.kind))++[.int .u8 gs[j].kind]:=by simp only [Be,List.map_append,Option.toList_some,List.map_cons,List.map_nil,List.append_assoc]
     rw [this]; exact o4
    ·rw [List.take_add_one,hx,List.map_append,←List.append_assoc]; exact hf4
  simp only [Ac,AA]
  refine AD (fun hb=>?_) (fun hb=>?_)
  ·have hb:Gu gs[j].name=false:=by simpa using hb
   exact leaf true _ (.put rfl) rfl rfl (by rw [yu,hb]; rfl)
  ·have hb:Gu gs[j].name=true:=by simpa using hb
   simp only [q1 W2 k2,AA]; refine At (ZR _ _) ?_; simp only [Ac,AA]
   refine AD (fun P1=>?_) (fun P1=>?_)
   ·have P1:GC gs[j].kind=false:=by unfold GC; simpa only [Bool.not_eq_true'] using P1
    exact leaf true _ (.put rfl) rfl rfl (by rw [yu,hb,P1]; rfl)
   ·have P1:GC gs[j].kind=true:=by unfold GC; simpa only [Bool.not_eq_false'] using P1
    have qf:ld prog 181 (.pointer (some ⟨bf,0,none⟩)) W2=some (.map (some rf)):=AF ACV (a:=⟨bf,0,none⟩) (FY cO t0 WK R.f); simp only [qf,q0 W2 k2,AA,(mW.kp t' Xf).look]; exact leaf _ _ (.put rfl) rfl rfl (by rw [yu,hb,P1]; simp)
 ·simp only [KA]; have htk:gs.take j=gs:=List.take_of_length_le (by omega); rw [htk] at IK mW Ai; exact UM Ai _ W' Ms uT t' Zi IK ACW O' mW
end Go.Ce
