/- A part of the proof: ShD, Qj, Qk, Ql, Qm, Qn, Qo, Qp, Qq, Qr, Qs, Ra, Rb, Rc, Re, Rf, Rg, Rh, Ri, Rj, Rk, Rl. -/
import Derived.Test.YtmknebebbbjdlaaGreatW02
import Derived.Test.YtmknebebbbjdlaaGreatW03
import Derived.Test.YtmknebebbbjdlaaGreatProg
set_option linter.unusedSectionVars false
set_option linter.unusedVariables false
set_option linter.unusedSimpArgs false
set_option maxRecDepth 200000
namespace Go.Ce
open Go Go.Proofs Go.Proofs.Tryz
def Ym (ro:Option Nat) (K:AG):AG:=Aw (fun e ds W=>wV (ld prog 88 (e 15) W) fun TH=>wV (IM TH) fun nN=>wV (A0 prog 97 nN 0) fun Z'=>AF prog AV 55 [Z',(.int .i64 1)] W (AT (fun cq L5=>wV (ld prog 88 (e 15) L5) fun Lt=>wV (IM Lt) fun RL=>wV (A0 prog 97 RL 0) fun MU=>wV (ld prog 51 (e 16) L5) fun Gt=>wV (ld prog 88 (e 15) L5) fun NO=>wV (IM NO) fun OI=>wV (A0 prog 97 OI 0) fun LH=>wV (some (.func (.func 57) #[LH] #[])) fun LI=>AF prog AV 56 [MU,Gt,LI] L5 (AT (fun LJ QH=>(((True)∧ld prog 88 (e 15) L5=some NO)∧(((True)∧ld prog 51 (e 16) L5=some Gt)∧(((True)∧ld prog 88 (e 15) L5=some Lt)∧True)))∧True∧AF prog AV 58 [] QH (AT (fun m5 p8=>Bw (F5 prog 108 p8) fun FX eF=>wV (CE prog 108 FX m5 eF) fun VY=>wV (ld prog 88 (e 15) VY) fun Sy=>wV (IM Sy) fun Ua=>wV (A0 prog 97 Ua 0) fun Jn=>wV (ld prog 88 (e 15) VY) fun Iz=>wV (IM Iz) fun NS=>wV (A0 prog 97 NS 1) fun MT=>wV (ld prog 89 MT VY) fun KM=>wV (IM KM) fun Hz=>wV (A0 prog 100 Hz 0) fun GJ=>wV (ld prog 40 GJ VY) fun KN=>wV (some (.func (.func 60) #[] #[(e 12),(e 6),(e 15),(e 16),(e 10),FX])) fun UX=>AF prog AV 59 [Jn,KN,UX] VY (AT (fun NP cn=>(((True)∧ld prog 40 GJ VY=some KN)∧(((True)∧ld prog 89 MT VY=some KM)∧(((True)∧ld prog 88 (e 15) VY=some Iz)∧(((True)∧ld prog 88 (e 15) VY=some Sy)∧True))))∧True∧wV (ld prog 88 (e 15) cn) fun V5=>wV (IM V5) fun IV=>wV (A0 prog 97 IV 0) fun Iy=>wV (A0 prog 95 Iy 0) fun n_=>wV (ld prog 29 n_ cn) fun Jl=>K .ret (Env.of e [(9,(.int .i64 0)),(8,Jl),(126,Jl),(125,n_),(124,Iy),(123,IV),(122,V5),(121,NP),(120,UX),(119,KN),(118,GJ),(117,Hz),(116,KM),(115,MT),(114,NS),(113,Iz),(112,Jn),(111,Ua),(110,Sy),(22,FX),(109,m5),(108,LJ),(107,LI),(106,LH),(105,OI),(104,NO),(103,Gt),(102,MU),(101,RL),(100,Lt),(99,cq),(98,Z'),(97,nN),(96,TH)]) ds cn) (fun AAp VX=>False))) (fun wG jK=>K (.panic wG) (Env.of e [(108,LJ),(107,LI),(106,LH),(105,OI),(104,NO),(103,Gt),(102,MU),(101,RL),(100,Lt),(99,cq),(98,Z'),(97,nN),(96,TH)]) ds jK))) (fun AAo k_=>False))) (fun AES J6=>K (.panic AES) (Env.of e [(98,Z'),(97,nN),(96,TH)]) ds J6))) K
theorem AB1 (v0 v1 v2 v3:Value) (K:AG) (W:CW):AK prog AV none 17 127 (AM prog 17) (Env.args [v0,v1,v2,v3]) [] W K=(Bw (QE prog 24 v2 W) fun v6 W0=>AF prog AV 47 [v0] W0 (AT (fun Dc W1=>wV (ext Dc 0) fun Dx=>wV (ext Dc 1) fun D_=>Bw (F5 prog 78 W1) fun v10 W3=>wV (CE prog 78 v10 Dx W3) fun W4=>wV (KG D_) fun D'=>wI D' (K .ret (Env.of (Env.args [v0,v1,v2,v3]) [(9,(.int .i64 210)),(8,(.slice none 0 0)),(29,D'),(28,D_),(11,D_),(10,v10),(27,D_),(26,Dx),(23,Dc),(25,Dc),(24,v0),(9,(.int .i64 0)),(8,(.slice none 0 0)),(6,v6)]) [] W4) (wV (ld prog 78 v10 W4) fun EA=>AF prog AV 48 [EA,v1] W4 (AT (fun EW W5=>wV (ext EW 0) fun Fi=>wV (ext EW 1) fun FF=>Bw (F5 prog 83 W5) fun BR W7=>wV (CE prog 83 BR Fi W7) fun W8=>wV (KG FF) fun Fh=>wI Fh (K .ret (Env.of (Env.args [v0,v1,v2,v3]) [(9,(.int .i64 212)),(8,(.slice none 0 0)),(37,Fh),(36,FF),(11,FF),(12,BR),(35,FF),(34,Fi),(30,EW),(33,EW),(32,v1),(31,EA),(29,D'),(28,D_),(11,D_),(10,v10),(27,D_),(26,Dx),(23,Dc),(25,Dc),(24,v0),(9,(.int .i64 0)),(8,(.slice none 0 0)),(6,v6)]) [] W8) (wV (ld prog 24 v6 W8) fun FZ=>AF prog AV 49 [v0,FZ,v3] W8 (AT (fun HL W9=>wV (ext HL 0) fun FE=>wV (ext HL 1) fun KL=>Bw (F5 prog 78 W9) fun DQ Dd=>wV (CE prog 78 DQ FE Dd) fun H0=>wV (AU prog .neq 30 true KL (.int .i64 0)) fun Hx=>wI Hx (K .ret (Env.of (Env.args [v0,v1,v2,v3]) [(9,KL),(8,(.slice none 0 0)),(47,KL),(46,Hx),(45,KL),(14,KL),(13,DQ),(44,KL),(43,FE),(38,HL),(42,HL),(41,v3),(40,FZ),(39,v0),(37,Fh),(36,FF),(11,FF),(12,BR),(35,FF),(34,Fi),(30,EW),(33,EW),(32,v1),(31,EA),(29,D'),(28,D_),(11,D_),(10,v10),(27,D_),(26,Dx),(23,Dc),(25,Dc),(24,v0),(9,(.int .i64 0)),(8,(.slice none 0 0)),(6,v6)]) [] H0) (wV (some (.func (.func 51) #[] #[v10,BR,v6])) fun Ix=>AF prog AV 50 [v3,Ix] (H0.new (.cells .nil 1 #[.pointer none] 88)) (AT (fun Hr Iw=>wV (ld prog 78 v10 Iw) fun GH=>wV (QF prog 97 [(1,Hr),(2,GH)]) fun Ls=>Bw (QE prog 97 Ls Iw) fun Gu Og=>true=true∧wV (CE prog 88 (.pointer (some ⟨H0.sz,0,none⟩)) Gu Og) fun CQ=>(((True)∧((True)∧((ld prog 78 v10 Iw=some GH)∧ld prog 78 v10 (H0.new (.cells .nil 1 #[.pointer none] 88))=some GH)))∧True)∧(((True)∧((G5 (.pointer (some ⟨H0.sz,0,none⟩)) ((H0.new (.cells .nil 1 #[.pointer none] 88)).obj H0.sz) Og=true)∧((G5 (.pointer (some ⟨H0.sz,0,none⟩)) ((H0.new (.cells .nil 1 #[.pointer none] 88)).obj H0.sz) Iw=true)∧G5 (.pointer (some ⟨H0.sz,0,none⟩)) ((H0.new (.cells .nil 1 #[.pointer none] 88)).obj H0.sz) (H0.new (.cells .nil 1 #[.pointer none] 88))=true)))∧True)∧Bw (F5 prog 51 CQ) fun DS NQ=>wV (ld prog 88 (.pointer (some ⟨H0.sz,0,none⟩)) NQ) fun F7=>wV (IM F7) fun Ns=>wV (A0 prog 97 Ns 1) fun FU=>wV (ld prog 89 FU NQ) fun SP=>wV (IM SP) fun Hq=>wV (A0 prog 100 Hq 0) fun Fx=>wV (ld prog 40 Fx NQ) fun E_=>wV (Aj prog 40 E_ NQ) fun FR=>C6 prog AV none 17 127 (.loop (Ae prog 17 0)) (Env.of (Env.args [v0,v1,v2,v3]) [(62,(.int .i64 0)),(61,FR),(60,E_),(59,Fx),(58,Hq),(57,SP),(56,FU),(55,Ns),(54,F7),(16,DS),(15,(.pointer (some ⟨H0.sz,0,none⟩))),(53,Gu),(52,Ls),(51,GH),(50,Hr),(49,Ix),(48,v3),(46,Hx),(45,KL),(14,KL),(13,DQ),(44,KL),(43,FE),(38,HL),(42,HL),(41,v3),(40,FZ),(39,v0),(37,Fh),(36,FF),(11,FF),(12,BR),(35,FF),(34,Fi),(30,EW),(33,EW),(32,v1),(31,EA),(29,D'),(28,D_),(11,D_),(10,v10),(27,D_),(26,Dx),(23,Dc),(25,Dc),(24,v0),(9,(.int .i64 0)),(8,(.slice none 0 0)),(6,v6)]) [] NQ (Bm 0 (Ym none K))) (fun q5 MR=>False)))) (fun eH QG=>K (.panic eH) (Env.of (Env.args [v0,v1,v2,v3]) [(41,v3),(40,FZ),(39,v0),(37,Fh),(36,FF),(11,FF),(12,BR),(35,FF),(34,Fi),(30,EW),(33,EW),(32,v1),(31,EA),(29,D'),(28,D_),(11,D_),(10,v10),(27,D_),(26,Dx),(23,Dc),(25,Dc),(24,v0),(9,(.int .i64 0)),(8,(.slice none 0 0)),(6,v6)]) [] QG)))) (fun ch6 W6=>K (.panic ch6) (Env.of (Env.args [v0,v1,v2,v3]) [(32,v1),(31,EA),(29,D'),(28,D_),(11,D_),(10,v10),(27,D_),(26,Dx),(23,Dc),(25,Dc),(24,v0),(9,(.int .i64 0)),(8,(.slice none 0 0)),(6,v6)]) [] W6)))) (fun m9 W2=>K (.panic m9) (Env.of (Env.args [v0,v1,v2,v3]) [(24,v0),(9,(.int .i64 0)),(8,(.slice none 0 0)),(6,v6)]) [] W2))):=by kernel_rfl
def Ld (ro:Option Nat) (K:AG):AG:=Aw (fun e ds W=>wV (AU prog .add 3 true (e 62) (.int .i64 1)) fun TG=>K .normal (Env.of e [(62,TG),(95,TG)]) ds W) K
theorem x6 (ro:Option Nat) (e:Env) (ds:List Deferred) (K:AG) (W:CW):AK prog AV ro 17 127 (Ae prog 17 0) e ds W K=(wV (AU prog .lss 3 false (e 62) (e 61)) fun PC=>wI PC (wV (EV prog 40 (e 60) (e 62)) fun K2=>wV (ld prog 3 K2 W) fun Ll=>wV (A0 prog 83 (e 12) 1) fun J4=>wV (ld prog 81 J4 W) fun J5=>wV (ld prog 24 (e 6) W) fun HP=>wV (AU prog .sub 3 true Ll (.int .i64 1)) fun UZ=>wV (EV prog 24 HP UZ) fun RA=>wV (A0 prog 56 RA 0) fun V4=>wV (ld prog 9 V4 W) fun PA=>wV (GL prog 81 J5 PA true W) fun HQ=>wV (ext HQ 0) fun OK=>wV (ext HQ 1) fun Jm=>Bw (F5 prog 58 W) fun CH tW=>wV (CE prog 58 CH OK tW) fun Q6=>(((True)∧((GL prog 81 J5 PA true tW=some HQ)∧GL prog 81 J5 PA true W=some HQ))∧(((True)∧((ld prog 9 V4 tW=some PA)∧ld prog 9 V4 W=some PA))∧(((True)∧((ld prog 24 (e 6) tW=some HP)∧ld prog 24 (e 6) W=some HP))∧(((True)∧((ld prog 81 J4 tW=some J5)∧ld prog 81 J4 W=some J5))∧True))))∧True∧wI Jm ((Ld ro K) .ret (Env.of e [(9,(.int .i64 214)),(8,(.slice none 0 0)),(78,Jm),(20,Jm),(19,CH),(77,Jm),(76,OK),(66,HQ),(75,HQ),(74,PA),(73,V4),(72,RA),(71,UZ),(70,Ll),(69,HP),(68,J5),(67,J4),(18,Ll),(65,Ll),(64,K2),(63,PC)]) ds Q6) (wV (ld prog 83 (e 12) Q6) fun Nt=>wV (ld prog 24 (e 6) Q6) fun JN=>wV (AU prog .sub 3 true Ll (.int .i64 1)) fun Ws=>wV (EV prog 24 JN Ws) fun eI=>wV (ld prog 56 eI Q6) fun L4=>AF prog AV 53 [Nt,L4] Q6 (AT (fun QI wD=>wV (tU prog 56 QI 0) fun PD=>(((True)∧ld prog 56 eI Q6=some L4)∧(((True)∧ld prog 24 (e 6) Q6=some JN)∧(((True)∧ld prog 83 (e 12) Q6=some Nt)∧True)))∧True∧wV (ld prog 51 (e 16) wD) fun VZ=>AF prog AV 54 [VZ,PD] wD (AT (fun XA eG=>wV (KG XA) fun OH=>wI OH (wV (ld prog 51 (e 16) eG) fun Nr=>Bw (V3 prog 51 1 [(0,PD)] eG) fun Sx W36=>Bw (app prog [51,51] Nr Sx W36) fun YQ jO=>wV (CE prog 51 (e 16) YQ jO) fun W38=>(Ld ro K) .normal (Env.of e [(94,YQ),(93,Sx),(92,PD),(91,Nr),(90,OH),(89,XA),(88,PD),(87,VZ),(21,PD),(86,PD),(85,QI),(84,L4),(83,eI),(82,Ws),(81,Ll),(80,JN),(79,Nt),(78,Jm),(20,Jm),(19,CH),(77,Jm),(76,OK),(66,HQ),(75,HQ),(74,PA),(73,V4),(72,RA),(71,UZ),(70,Ll),(69,HP),(68,J5),(67,J4),(18,Ll),(65,Ll),(64,K2),(63,PC)]) ds W38) ((Ld ro K) .normal (Env.of e [(90,OH),(89,XA),(88,PD),(87,VZ),(21,PD),(86,PD),(85,QI),(84,L4),(83,eI),(82,Ws),(81,Ll),(80,JN),(79,Nt),(78,Jm),(20,Jm),(19,CH),(77,Jm),(76,OK),(66,HQ),(75,HQ),(74,PA),(73,V4),(72,RA),(71,UZ),(70,Ll),(69,HP),(68,J5),(67,J4),(18,Ll),(65,Ll),(64,K2),(63,PC)]) ds eG)) (fun wE Q_=>(Ld ro K) (.panic wE) (Env.of e [(88,PD),(87,VZ),(21,PD),(86,PD),(85,QI),(84,L4),(83,eI),(82,Ws),(81,Ll),(80,JN),(79,Nt),(78,Jm),(20,Jm),(19,CH),(77,Jm),(76,OK),(66,HQ),(75,HQ),(74,PA),(73,V4),(72,RA),(71,UZ),(70,Ll),(69,HP),(68,J5),(67,J4),(18,Ll),(65,Ll),(64,K2),(63,PC)]) ds Q_))) (fun AGG vz=>False)))) (K (.exit 0) (Env.of e [(63,PC)]) ds W)):=by kernel_rfl
theorem jl (Q:Ending→CW→Prop) (e:Env) (W:CW):AI prog Tryz.f17 Q .ret e [] W=Q (.returned (.tuple #[e 8,e 9])) W:=by kernel_rfl
theorem AB2 {Q:Ending→CW→Prop} {v0 v1 v2 v3:Value} {W:CW} (h:AK prog AV none 17 127 (AM prog 17) (Env.args [v0,v1,v2,v3]) [] W (AI prog Tryz.f17 Q)):AF prog AV 17 [v0,v1,v2,v3] W Q:=AX Tryz.func17 (by kernel_rfl) (by kernel_rfl) (by kernel_rfl) (by kernel_rfl) (by kernel_rfl) h
theorem AB3 (v0 v1 v2 v3:Value) (K:AG) (W:CW):AK prog AV none 51 15 (AM prog 51) (Env.args [v0,v1,v2,v3]) [] W K=(wV (ld prog 78 v1 W) fun v6=>wV (ld prog 83 v2 W) fun v7=>wV (ld prog 24 v3 W) fun v8=>wV (AU prog .sub 3 true v0 (.int .i64 1)) fun v10=>wV (EV prog 24 v8 v10) fun v11=>wV (ld prog 56 v11 W) fun BR=>AF prog AV 53 [v7,BR] W (AT (fun DQ W0=>AF prog AV 52 [v6,DQ] W0 (AT (fun Bk W2=>(((True)∧((True)∧ld prog 56 v11 W=some BR))∧(((True)∧((True)∧ld prog 24 v3 W=some v8))∧(((True)∧((True)∧ld prog 83 v2 W=some v7))∧(((True)∧((ld prog 78 v1 W0=some v6)∧ld prog 78 v1 W=some v6))∧True))))∧True∧K .ret (Env.of (Env.args [v0,v1,v2,v3]) [(5,Bk),(14,Bk),(13,DQ),(12,BR),(11,v11),(10,v10),(9,v0),(8,v8),(7,v7),(6,v6),(5,(.slice none 0 0))]) [] W2) (fun Wo W3=>False))) (fun L0 W1=>False))):=by kernel_rfl
theorem jm (Q:Ending→CW→Prop) (e:Env) (W:CW):AI prog Tryz.f51 Q .ret e [] W=Q (.returned (e 5)) W:=by kernel_rfl
theorem AB4 {Q:Ending→CW→Prop} {v0 v1 v2 v3:Value} {W:CW} (h:AK prog AV none 51 15 (AM prog 51) (Env.args [v0,v1,v2,v3]) [] W (AI prog Tryz.f51 Q)):AF prog AV 51 [v0,v1,v2,v3] W Q:=AX Tryz.func51 (by kernel_rfl) (by kernel_rfl) (by kernel_rfl) (by kernel_rfl) (by kernel_rfl) h
def oB (ro:Option Nat) (K:AG):AG:=Aw (fun e ds W=>wV (ld prog 56 (e 7) W) fun HL=>wV (CE prog 56 (e 4) HL W) fun W8=>K .ret (Env.of e [(42,HL)]) ds W8) K
theorem AB5 (v0 v1:Value) (K:AG) (W:CW):AK prog AV none 53 43 (AM prog 53) (Env.args [v0,v1]) [] W K=(Bw (QE prog 83 v0 W) fun v2 W0=>Bw (QE prog 56 v1 W0) fun v3 W1=>Bw (F5 prog 56 W1) fun v4 W2=>wV (A0 prog 83 v2 0) fun v11=>wV (ld prog 81 v11 W2) fun BR=>wV (A0 prog 56 v3 0) fun DQ=>wV (ld prog 9 DQ W2) fun Bk=>wV (GL prog 81 BR Bk true W2) fun DE=>wV (ext DE 0) fun DS=>wV (ext DE 1) fun B7=>Bw (F5 prog 58 W2) fun v5 W3=>wV (CE prog 58 v5 DS W3) fun W4=>wV (KG B7) fun CH=>wI CH (wV (ld prog 56 v3 W4) fun v20=>wV (CE prog 56 v4 v20 W4) fun W5=>K .ret (Env.of (Env.args [v0,v1]) [(20,v20),(19,CH),(18,B7),(6,B7),(5,v5),(17,B7),(16,DS),(10,DE),(15,DE),(14,Bk),(13,DQ),(12,BR),(11,v11),(4,v4),(3,v3),(2,v2)]) [] W5) (wV (A0 prog 58 v5 1) fun DR=>wV (ld prog 9 DR W4) fun FX=>wV (QF prog 56 [(0,FX)]) fun Da=>Bw (F5 prog 56 W4) fun v7 W6=>wV (CE prog 56 v7 Da W6) fun W7=>wV (A0 prog 58 v5 2) fun Eu=>wV (ld prog 40 Eu W7) fun Dc=>wV (Aj prog 40 Dc W7) fun Dx=>C6 prog AV none 53 43 (.loop (Ae prog 53 0)) (Env.of (Env.args [v0,v1]) [(27,(.int .i64 0)),(26,Dx),(25,Dc),(24,Eu),(7,v7),(23,Da),(22,FX),(21,DR),(19,CH),(18,B7),(6,B7),(5,v5),(17,B7),(16,DS),(10,DE),(15,DE),(14,Bk),(13,DQ),(12,BR),(11,v11),(4,v4),(3,v3),(2,v2)]) [] W7 (Bm 0 (oB none K)))):=by kernel_rfl
def gz (ro:Option Nat) (K:AG):AG:=Aw (fun e ds W=>wV (AU prog .add 3 true (e 27) (.int .i64 1)) fun FL=>K .normal (Env.of e [(27,FL),(41,FL)]) ds W) K
theorem x7 (ro:Option Nat) (e:Env) (ds:List Deferred) (K:AG) (W:CW):AK prog AV ro 53 43 (Ae prog 53 0) e ds W K=(wV (AU prog .lss 3 false (e 27) (e 26)) fun DG=>wI DG (wV (EV prog 40 (e 25) (e 27)) fun D'=>wV (ld prog 3 D' W) fun v30=>wV (A0 prog 56 (e 7) 1) fun EA=>wV (ld prog 40 EA W) fun Ep=>wV (A0 prog 56 (e 3) 1) fun EW=>wV (ld prog 40 EW W) fun Fi=>wV (EV prog 40 Fi v30) fun I0=>wV (ld prog 3 I0 W) fun Fh=>Bw (V3 prog 40 1 [(0,Fh)] W) fun IC Dd=>Bw (app prog [40,40] Ep IC Dd) fun JO H0=>wV (A0 prog 56 (e 7) 1) fun FZ=>wV (CE prog 40 FZ JO H0) fun Iw=>(((True)∧((True)∧((True)∧ld prog 3 I0 W=some Fh)))∧(((True)∧((True)∧((True)∧ld prog 40 EW W=some Fi)))∧(((True)∧((True)∧((ld prog 40 EA Dd=some Ep)∧ld prog 40 EA W=some Ep)))∧True)))∧True∧(gz ro K) .normal (Env.of e [(40,FZ),(39,JO),(38,IC),(37,Fh),(36,I0),(35,v30),(34,Fi),(33,EW),(32,Ep),(31,EA),(9,v30),(30,v30),(29,D'),(28,DG)]) ds Iw) (K (.exit 0) (Env.of e [(28,DG)]) ds W)):=by kernel_rfl
theorem AB6 {Q:Ending→CW→Prop} {v0 v1:Value} {W:CW} (h:AK prog AV none 53 43 (AM prog 53) (Env.args [v0,v1]) [] W (AI prog Tryz.f53 Q)):AF prog AV 53 [v0,v1] W Q:=AX Tryz.func53 (by kernel_rfl) (by kernel_rfl) (by kernel_rfl) (by kernel_rfl) (by kernel_rfl) h
theorem AB7 (v0 v1:Value) (K:AG) (W:CW):AK prog AV none 54 9 (AM prog 54) (Env.args [v0,v1]) [] W K=(AF prog AV 61 [v0,v1] W (AT (fun v7 W0=>wV (AU prog .geq 3 true v7 (.int .i64 0)) fun v8=>K .ret (Env.of (Env.args [v0,v1]) [(4,v8),(8,v8),(7,v7),(6,v1),(5,v0),(4,(.bool false))]) [] W0) (fun L0 W1=>K (.panic L0) (Env.of (Env.args [v0,v1]) [(6,v1),(5,v0),(4,(.bool false))]) [] W1))):=by kernel_rfl
theorem jn (Q:Ending→CW→Prop) (e:Env) (W:CW):AI prog Tryz.f54 Q .ret e [] W=Q (.returned (e 4)) W:=by kernel_rfl
theorem AB8 {Q:Ending→CW→Prop} {v0 v1:Value} {W:CW} (h:AK prog AV none 54 9 (AM prog 54) (Env.args [v0,v1]) [] W (AI prog Tryz.f54 Q)):AF prog AV 54 [v0,v1] W Q:=AX Tryz.func54 (by kernel_rfl) (by kernel_rfl) (by kernel_rfl) (by kernel_rfl) (by kernel_rfl) h
def oC (ro:Option Nat) (K:AG):AG:=Aw (fun e ds W=>wV (IM (e 0)) fun Da=>wV (A0 prog 95 Da 0) fun Eu=>wV (ld prog 29 Eu W) fun Dc=>wV (tS prog 3 5 (e 1)) fun D_=>Bw (V3 prog 29 1 [(0,D_)] W) fun DG W0=>Bw (app prog [29,29] Dc DG W0) fun D' W1=>wV (IM (e 0)) fun v30=>wV (A0 prog 95 v30 0) fun EA=>wV (CE prog 29 EA D' W1) fun W2=>K .normal (Env.of e [(31,EA),(30,v30),(29,D'),(28,DG),(27,D_),(26,(e 1)),(25,Dc),(24,Eu),(23,Da),(22,(e 0)),(21,(e 0))]) ds W2) K
theorem AB9 (v0 v1:Value) (K:AG) (W:CW):AK prog AV none 55 32 (AM prog 55) (Env.args [v0,v1]) [] W K=(C6 prog AV none 55 32 (.loop (Ae prog 55 0)) (Env.args [v0,v1]) [] W (Bm 0 (oC none K))):=by kernel_rfl
def oD (ro:Option Nat) (K:AG):AG:=Aw (fun e ds W=>wV (AU prog .shr 3 true (e 1) (.int .u64 7)) fun v7=>K .normal (Env.of e [(1,v7),(7,v7),(6,(e 1))]) ds W) K
theorem x8 (ro:Option Nat) (e:Env) (ds:List Deferred) (K:AG) (W:CW):AK prog AV ro 55 32 (Ae prog 55 0) e ds W K=(wV (AU prog .geq 3 true (e 1) (.int .i64 128)) fun v5=>wI v5 (wV (IM (e 0)) fun v10=>wV (A0 prog 95 v10 0) fun v11=>wV (ld prog 29 v11 W) fun BR=>wV (AU prog .rem 3 true (e 1) (.int .i64 128)) fun Bk=>wV (AU prog .add 3 true Bk (.int .i64 128)) fun DE=>wV (tS prog 3 5 DE) fun DS=>Bw (V3 prog 29 1 [(0,DS)] W) fun B7 W5=>Bw (app prog [29,29] BR B7 W5) fun CP W6=>wV (IM (e 0)) fun CH=>wV (A0 prog 95 CH 0) fun v20=>wV (CE prog 29 v20 CP W6) fun W7=>(oD ro K) .normal (Env.of e [(20,v20),(19,CH),(18,CP),(17,B7),(16,DS),(15,DE),(14,Bk),(13,(e 1)),(12,BR),(11,v11),(10,v10),(9,(e 0)),(8,(e 0)),(5,v5),(4,(e 1))]) ds W7) (K (.exit 0) (Env.of e [(5,v5),(4,(e 1))]) ds W)):=by kernel_rfl
theorem AB' {Q:Ending→CW→Prop} {v0 v1:Value} {W:CW} (h:AK prog AV none 55 32 (AM prog 55) (Env.args [v0,v1]) [] W (AI prog Tryz.f55 Q)):AF prog AV 55 [v0,v1] W Q:=AX Tryz.func55 (by kernel_rfl) (by kernel_rfl) (by kernel_rfl) (by kernel_rfl) (by kernel_rfl) h
theorem AB_ (v0 v1 v2:Value) (K:AG) (W:CW):AK prog AV none 56 22 (AM prog 56) (Env.args [v0,v1,v2]) [] W K=(wV (Aj prog 51 v1 W) fun v10=>AF prog AV 55 [v0,v10] W (AT (fun v11 W0=>wV (Aj prog 51 v1 W0) fun DQ=>C6 prog AV none 56 22 (.loop (Ae prog 56 0)) (Env.of (Env.args [v0,v1,v2]) [(14,(.int .i64 0)),(13,DQ),(12,v1),(11,v11),(10,v10),(9,v1),(8,v0)]) [] W0 (Bm 0 K)) (fun L0 W1=>K (.panic L0) (Env.of (Env.args [v0,v1,v2]) [(10,v10),(9,v1),(8,v0)]) [] W1))):=by kernel_rfl
def fR (ro:Option Nat) (K:AG):AG:=Aw (fun e ds W=>wV (AU prog .add 3 true (e 14) (.int .i64 1)) fun DR=>K .normal (Env.of e [(14,DR),(21,DR)]) ds W) K
theorem x9 (ro:Option Nat) (e:Env) (ds:List Deferred) (K:AG) (W:CW):AK prog AV ro 56 22 (Ae prog 56 0) e ds W K=(wV (AU prog .lss 3 false (e 14) (e 13)) fun DE=>wI DE (wV (EV prog 51 (e 12) (e 14)) fun DS=>wV (ld prog 9 DS W) fun B7=>DZ prog AV (e 2) [B7] W (fun v20 W3=>(fR ro K) .normal (Env.of e [(20,v20),(19,B7),(18,(e 2)),(7,B7),(17,B7),(16,DS),(15,DE)]) ds W3) (fun tX W4=>(fR ro K) (.panic tX) (Env.of e [(19,B7),(18,(e 2)),(7,B7),(17,B7),(16,DS),(15,DE)]) ds W4)) (K (.exit 0) (Env.of e [(15,DE)]) ds W)):=by kernel_rfl
theorem ACA {Q:Ending→CW→Prop} {v0 v1 v2:Value} {W:CW} (h:AK prog AV none 56 22 (AM prog 56) (Env.args [v0,v1,v2]) [] W (AI prog Tryz.f56 Q)):AF prog AV 56 [v0,v1,v2] W Q:=AX Tryz.func56 (by kernel_rfl) (by kernel_rfl) (by kernel_rfl) (by kernel_rfl) (by kernel_rfl) h
theorem ACB (v0 v1:Value) (K:AG) (W:CW):AK prog AV none 57 17 (AM prog 57) (Env.args [v0,v1]) [] W K=(wV (Aj prog 9 v1 W) fun v6=>AF prog AV 55 [v0,v6] W (AT (fun v7 W0=>wV (IM v0) fun v10=>wV (A0 prog 95 v10 0) fun v11=>wV (ld prog 29 v11 W0) fun BR=>Bw (app prog [29,9] BR v1 W0) fun Bk W2=>wV (IM v0) fun DE=>wV (A0 prog 95 DE 0) fun DS=>wV (CE prog 29 DS Bk W2) fun W3=>K .normal (Env.of (Env.args [v0,v1]) [(16,DS),(15,DE),(14,Bk),(13,v1),(12,BR),(11,v11),(10,v10),(9,v0),(8,v0),(7,v7),(6,v6),(5,v1),(4,v0)]) [] W3) (fun L0 W1=>K (.panic L0) (Env.of (Env.args [v0,v1]) [(6,v6),(5,v1),(4,v0)]) [] W1))):=by kernel_rfl
theorem ACC {Q:Ending→CW→Prop} {v0 v1:Value} {W:CW} (h:AK prog AV none 57 17 (AM prog 57) (Env.args [v0,v1]) [] W (AI prog Tryz.f57 Q)):AF prog AV 57 [v0,v1] W Q:=AX Tryz.func57 (by kernel_rfl) (by kernel_rfl) (by kernel_rfl) (by kernel_rfl) (by kernel_rfl) h
theorem ACD (K:AG) (W:CW):AK prog AV none 58 2 (AM prog 58) (Env.args []) [] W K=(Bw (F5 prog 108 W) fun v0 W0=>wV (QF prog 108 [(1,(.func (.func 106) #[] #[])),(2,(.func (.func 107) #[] #[]))]) fun v1=>wV (CE prog 108 v0 v1 W0) fun W1=>K .ret (Env.of (Env.args []) [(1,v1),(0,v0)]) [] W1):=by kernel_rfl
theorem ACE {Q:Ending→CW→Prop} {W:CW} (h:AK prog AV none 58 2 (AM prog 58) (Env.args []) [] W (AI prog Tryz.f58 Q)):AF prog AV 58 [] W Q:=AX Tryz.func58 (by kernel_rfl) (by kernel_rfl) (by kernel_rfl) (by kernel_rfl) (by kernel_rfl) h
theorem ACF (v0 v1 v2:Value) (K:AG) (W:CW):AK prog AV none 59 22 (AM prog 59) (Env.args [v0,v1,v2]) [] W K=(wV (Aj prog 40 v1 W) fun v10=>AF prog AV 55 [v0,v10] W (AT (fun v11 W0=>wV (Aj prog 40 v1 W0) fun DQ=>C6 prog AV none 59 22 (.loop (Ae prog 59 0)) (Env.of (Env.args [v0,v1,v2]) [(14,(.int .i64 0)),(13,DQ),(12,v1),(11,v11),(10,v10),(9,v1),(8,v0)]) [] W0 (Bm 0 K)) (fun L0 W1=>K (.panic L0) (Env.of (Env.args [v0,v1,v2]) [(10,v10),(9,v1),(8,v0)]) [] W1))):=by kernel_rfl
def fS (ro:Option Nat) (K:AG):AG:=Aw (fun e ds W=>wV (AU prog .add 3 true (e 14) (.int .i64 1)) fun DR=>K .normal (Env.of e [(14,DR),(21,DR)]) ds W) K
theorem x_ (ro:Option Nat) (e:Env) (ds:List Deferred) (K:AG) (W:CW):AK prog AV ro 59 22 (Ae prog 59 0) e ds W K=(wV (AU prog .lss 3 false (e 14) (e 13)) fun DE=>wI DE (wV (EV prog 40 (e 12) (e 14)) fun DS=>wV (ld prog 3 DS W) fun B7=>DZ prog AV (e 2) [B7] W (fun v20 W3=>(fS ro K) .normal (Env.of e [(20,v20),(19,B7),(18,(e 2)),(7,B7),(17,B7),(16,DS),(15,DE)]) ds W3) (fun tX W4=>(fS ro K) (.panic tX) (Env.of e [(19,B7),(18,(e 2)),(7,B7),(17,B7),(16,DS),(15,DE)]) ds W4)) (K (.exit 0) (Env.of e [(15,DE)]) ds W)):=by kernel_rfl
theorem ACG {Q:Ending→CW→Prop} {v0 v1 v2:Value} {W:CW} (h:AK prog AV none 59 22 (AM prog 59) (Env.args [v0,v1,v2]) [] W (AI prog Tryz.f59 Q)):AF prog AV 59 [v0,v1,v2] W Q:=AX Tryz.func59 (by kernel_rfl) (by kernel_rfl) (by kernel_rfl) (by kernel_rfl) (by kernel_rfl) h
def Yn (ro:Option Nat) (K:AG):AG:=Aw (fun e ds W=>wV (ld prog 78 (e 5) W) fun FZ=>wV (ld prog 56 (e 8) W) fun FL=>AF prog AV 62 [FZ,FL] W (AT (fun HL W7=>C6 prog AV ro 60 55 (.rangeFunc (.tmp 42) #[43,44] (AS prog 60 0) (AQ prog 60 0)) (Env.of e [(42,HL),(41,FL),(40,FZ)]) ds W7 (Bm 0 K)) (fun ch8 W8=>K (.panic ch8) (Env.of e [(41,FL),(40,FZ)]) ds W8))) K
theorem ACH (v0 v1 v2 v3 v4 v5 v6:Value) (K:AG) (W:CW):AK prog AV none 60 55 (AM prog 60) (Env.args [v0,v1,v2,v3,v4,v5,v6]) [] W K=(wV (ld prog 83 v1 (W.new (.cells .nil 2 #[.string ⟨#[]⟩,.slice none 0 0] 56))) fun v11=>wV (ld prog 24 v2 (W.new (.cells .nil 2 #[.string ⟨#[]⟩,.slice none 0 0] 56))) fun BR=>wV (AU prog .sub 3 true v0 (.int .i64 1)) fun Bk=>wV (EV prog 24 BR Bk) fun DE=>wV (ld prog 56 DE (W.new (.cells .nil 2 #[.string ⟨#[]⟩,.slice none 0 0] 56))) fun DS=>AF prog AV 53 [v11,DS] (W.new (.cells .nil 2 #[.string ⟨#[]⟩,.slice none 0 0] 56)) (AT (fun B7 W0=>true=true∧wV (CE prog 56 (.pointer (some ⟨W.sz,0,none⟩)) B7 W0) fun W2=>(((True)∧((True)∧ld prog 56 DE (W.new (.cells .nil 2 #[.string ⟨#[]⟩,.slice none 0 0] 56))=some DS))∧(((True)∧((True)∧ld prog 24 v2 (W.new (.cells .nil 2 #[.string ⟨#[]⟩,.slice none 0 0] 56))=some BR))∧(((True)∧((True)∧ld prog 83 v1 (W.new (.cells .nil 2 #[.string ⟨#[]⟩,.slice none 0 0] 56))=some v11))∧True)))∧(((True)∧((G5 (.pointer (some ⟨W.sz,0,none⟩)) ((W.new (.cells .nil 2 #[.string ⟨#[]⟩,.slice none 0 0] 56)).obj W.sz) W0=true)∧G5 (.pointer (some ⟨W.sz,0,none⟩)) ((W.new (.cells .nil 2 #[.string ⟨#[]⟩,.slice none 0 0] 56)).obj W.sz) (W.new (.cells .nil 2 #[.string ⟨#[]⟩,.slice none 0 0] 56))=true))∧True)∧wV (ld prog 88 v3 W2) fun CP=>wV (IM CP) fun CH=>wV (A0 prog 97 CH 0) fun v20=>wV (ld prog 51 v4 W2) fun DR=>wV (A0 prog 56 (.pointer (some ⟨W.sz,0,none⟩)) 0) fun FX=>wV (ld prog 9 FX W2) fun Da=>AF prog AV 61 [DR,Da] W2 (AT (fun Eu W3=>AF prog AV 55 [v20,Eu] W3 (AT (fun Dc W5=>(((True)∧((True)∧ld prog 9 FX W2=some Da))∧(((True)∧((True)∧ld prog 51 v4 W2=some DR))∧(((True)∧((ld prog 88 v3 W3=some CP)∧ld prog 88 v3 W2=some CP))∧True)))∧True∧wV (A0 prog 78 v5 0) fun Dx=>wV (ld prog 75 Dx W5) fun D_=>wV (A0 prog 56 (.pointer (some ⟨W.sz,0,none⟩)) 0) fun DG=>wV (ld prog 9 DG W5) fun D'=>wV (GL prog 75 D_ D' false W5) fun v30=>wV (tU prog 48 v30 3) fun EA=>wV (AU prog .neq 5 true EA (.int .u8 0)) fun Ep=>wI Ep (wV (ld prog 88 v3 W5) fun EW=>wV (IM EW) fun Fi=>wV (A0 prog 97 Fi 0) fun FF=>wV (A0 prog 56 (.pointer (some ⟨W.sz,0,none⟩)) 1) fun I0=>wV (ld prog 40 I0 W5) fun Fh=>wV (Aj prog 40 Fh W5) fun IC=>AF prog AV 55 [FF,IC] W5 (AT (fun JO QG=>(((True)∧Aj prog 40 Fh W5=some IC)∧(((True)∧ld prog 40 I0 W5=some Fh)∧(((True)∧ld prog 88 v3 W5=some EW)∧True)))∧True∧(Yn none K) .normal (Env.of (Env.args [v0,v1,v2,v3,v4,v5,v6]) [(39,JO),(38,IC),(37,Fh),(36,I0),(35,FF),(34,Fi),(33,EW),(32,Ep),(31,EA),(30,v30),(29,D'),(28,DG),(27,D_),(26,Dx),(25,Dc),(24,Eu),(23,Da),(22,FX),(21,DR),(20,v20),(19,CH),(18,CP),(8,(.pointer (some ⟨W.sz,0,none⟩))),(17,B7),(16,DS),(15,DE),(14,Bk),(13,v0),(12,BR),(11,v11)]) [] QG) (fun jJ Dd=>False))) ((Yn none K) .normal (Env.of (Env.args [v0,v1,v2,v3,v4,v5,v6]) [(32,Ep),(31,EA),(30,v30),(29,D'),(28,DG),(27,D_),(26,Dx),(25,Dc),(24,Eu),(23,Da),(22,FX),(21,DR),(20,v20),(19,CH),(18,CP),(8,(.pointer (some ⟨W.sz,0,none⟩))),(17,B7),(16,DS),(15,DE),(14,Bk),(13,v0),(12,BR),(11,v11)]) [] W5)) (fun ch6 W6=>False))) (fun tX W4=>False))) (fun L0 W1=>False))):=by kernel_rfl
theorem yA (ro:Option Nat) (e:Env) (ds:List Deferred) (K:AG) (W:CW):AK prog AV ro 60 55 (AS prog 60 0) e ds W K=(K .normal (Env.of e [(10,(e 44)),(9,(e 43))]) ds W):=by kernel_rfl
theorem yB (ro:Option Nat) (e:Env) (ds:List Deferred) (K:AG) (W:CW):AK prog AV ro 60 55 (AQ prog 60 0) e ds W K=(wV (EV prog 108 (e 6) (e 10)) fun Hx=>wV (ld prog 107 Hx W) fun IU=>wV (ld prog 88 (e 3) W) fun IB=>wV (A0 prog 56 (e 8) 1) fun Ix=>wV (ld prog 40 Ix W) fun Hr=>wV (EV prog 40 Hr (e 9)) fun Ls=>wV (ld prog 3 Ls W) fun Gu=>DZ prog AV IU [IB,Gu] W (fun F7 H0=>(((True)∧ld prog 3 Ls W=some Gu)∧(((True)∧ld prog 40 Ix W=some Hr)∧(((True)∧ld prog 88 (e 3) W=some IB)∧(((True)∧ld prog 107 Hx W=some IU)∧True))))∧True∧K .normal (Env.of e [(54,F7),(53,Gu),(52,Ls),(51,(e 9)),(50,Hr),(49,Ix),(48,IB),(47,IU),(46,Hx),(45,(e 10))]) ds H0) (fun AA9 Iw=>False)):=by kernel_rfl
theorem ACI {Q:Ending→CW→Prop} {v0 v1 v2 v3 v4 v5 v6:Value} {W:CW} (h:AK prog AV none 60 55 (AM prog 60) (Env.args [v0,v1,v2,v3,v4,v5,v6]) [] W (AI prog Tryz.f60 Q)):AF prog AV 60 [v0,v1,v2,v3,v4,v5,v6] W Q:=AX Tryz.func60 (by kernel_rfl) (by kernel_rfl) (by kernel_rfl) (by kernel_rfl) (by kernel_rfl) h
def fT (ro:Option Nat) (K:AG):AG:=Aw (fun e ds W=>K .ret (Env.of e [(4,(.int .i64 (-1)))]) ds W) K
theorem ACJ (v0 v1:Value) (K:AG) (W:CW):AK prog AV none 61 19 (AM prog 61) (Env.args [v0,v1]) [] W K=(wV (Aj prog 51 v0 W) fun v7=>C6 prog AV none 61 19 (.loop (Ae prog 61 0)) (Env.of (Env.args [v0,v1]) [(8,(.int .i64 0)),(7,v7),(6,v0),(4,(.int .i64 0))]) [] W (Bm 0 (fT none K))):=by kernel_rfl
def Yo (ro:Option Nat) (K:AG):AG:=Aw (fun e ds W=>wV (AU prog .add 3 true (e 8) (.int .i64 1)) fun CP=>K .normal (Env.of e [(8,CP),(18,CP)]) ds W) K
theorem yC (ro:Option Nat) (e:Env) (ds:List Deferred) (K:AG) (W:CW):AK prog AV ro 61 19 (Ae prog 61 0) e ds W K=(wV (AU prog .lss 3 false (e 8) (e 7)) fun v9=>wI v9 (wV (EV prog 51 (e 0) (e 8)) fun Bk=>wV (ld prog 9 Bk W) fun DE=>wV (AU prog .eql 9 false (e 1) DE) fun DS=>wI DS ((Yo ro K) .ret (Env.of e [(4,(e 8)),(17,(e 8)),(16,DS),(15,DE),(14,Bk),(13,(e 8)),(12,(e 0)),(11,(e 1)),(5,(e 8)),(10,(e 8)),(9,v9)]) ds W) ((Yo ro K) .normal (Env.of e [(16,DS),(15,DE),(14,Bk),(13,(e 8)),(12,(e 0)),(11,(e 1)),(5,(e 8)),(10,(e 8)),(9,v9)]) ds W)) (K (.exit 0) (Env.of e [(9,v9)]) ds W)):=by kernel_rfl
theorem XM (Q:Ending→CW→Prop) (e:Env) (W:CW):AI prog Tryz.f61 Q .ret e [] W=Q (.returned (e 4)) W:=by kernel_rfl
theorem ACK {Q:Ending→CW→Prop} {v0 v1:Value} {W:CW} (h:AK prog AV none 61 19 (AM prog 61) (Env.args [v0,v1]) [] W (AI prog Tryz.f61 Q)):AF prog AV 61 [v0,v1] W Q:=AX Tryz.func61 (by kernel_rfl) (by kernel_rfl) (by kernel_rfl) (by kernel_rfl) (by kernel_rfl) h
theorem yD (v0 v1:Value) (K:AG) (W:CW):AK prog AV none 106 19 (AM prog 106) (Env.args [v0,v1]) [] W K=(wV (AU prog .lss 3 true v1 (.int .i64 0)) fun v5=>wI v5 (wV (IM v0) fun v7=>wV (A0 prog 97 v7 0) fun v8=>wV (AU prog .mul 3 true (.int .i64 (-2)) v1) fun v10=>wV (AU prog .sub 3 true v10 (.int .i64 1)) fun v11=>AF prog AV 55 [v8,v11] W (AT (fun BR W0=>K .normal (Env.of (Env.args [v0,v1]) [(12,BR),(11,v11),(10,v10),(9,v1),(8,v8),(7,v7),(6,v0),(5,v5),(4,v1)]) [] W0) (fun L0 W1=>K (.panic L0) (Env.of (Env.args [v0,v1]) [(11,v11),(10,v10),(9,v1),(8,v8),(7,v7),(6,v0),(5,v5),(4,v1)]) [] W1))) (wV (IM v0) fun Bk=>wV (A0 prog 97 Bk 0) fun DE=>wV (AU prog .mul 3 true (.int .i64 2) v1) fun B7=>AF prog AV 55 [DE,B7] W (AT (fun CP W2=>K .normal (Env.of (Env.args [v0,v1]) [(18,CP),(17,B7),(16,v1),(15,DE),(14,Bk),(13,v0),(5,v5),(4,v1)]) [] W2) (fun Wo W3=>K (.panic Wo) (Env.of (Env.args [v0,v1]) [(17,B7),(16,v1),(15,DE),(14,Bk),(13,v0),(5,v5),(4,v1)]) [] W3)))):=by kernel_rfl
theorem yE {Q:Ending→CW→Prop} {v0 v1:Value} {W:CW} (h:AK prog AV none 106 19 (AM prog 106) (Env.args [v0,v1]) [] W (AI prog Tryz.f106 Q)):AF prog AV 106 [v0,v1] W Q:=AX Tryz.func106 (by kernel_rfl) (by kernel_rfl) (by kernel_rfl) (by kernel_rfl) (by kernel_rfl) h
theorem yF (v0 v1:Value) (K:AG) (W:CW):AK prog AV none 107 17 (AM prog 107) (Env.args [v0,v1]) [] W K=(wV (IM v0) fun v5=>wV (A0 prog 97 v5 0) fun v6=>wV (IM v0) fun v8=>wV (A0 prog 97 v8 1) fun v9=>wV (ld prog 89 v9 W) fun v10=>wV (IM v10) fun v11=>wV (A0 prog 100 v11 1) fun BR=>wV (ld prog 98 BR W) fun DQ=>wV (GL prog 98 DQ v1 false W) fun DE=>AF prog AV 55 [v6,DE] W (AT (fun DS W0=>(((True)∧GL prog 98 DQ v1 false W=some DE)∧(((True)∧ld prog 98 BR W=some DQ)∧(((True)∧ld prog 89 v9 W=some v10)∧True)))∧True∧K .normal (Env.of (Env.args [v0,v1]) [(16,DS),(15,DE),(14,v1),(13,DQ),(12,BR),(11,v11),(10,v10),(9,v9),(8,v8),(7,v0),(6,v6),(5,v5),(4,v0)]) [] W0) (fun L0 W1=>False))):=by kernel_rfl
theorem yG {Q:Ending→CW→Prop} {v0 v1:Value} {W:CW} (h:AK prog AV none 107 17 (AM prog 107) (Env.args [v0,v1]) [] W (AI prog Tryz.f107 Q)):AF prog AV 107 [v0,v1] W Q:=AX Tryz.func107 (by kernel_rfl) (by kernel_rfl) (by kernel_rfl) (by kernel_rfl) (by kernel_rfl) h
end Go.Ce
namespace Go.Ce
open Go Go.Proofs Go.Proofs.Tryz
def oE (n:Int):Value:=.int .i64 n
theorem g_ (a b:Int):NY (.int .i64) (oE a) (oE b)=some (decide (a=b)):=by
 show (if IntKind.i64=IntKind.i64 then some (a == b) else none)=_; rw [if_pos rfl]; rfl
theorem u98:prog.underlying 98=some (.map 3 3):=by kernel_rfl
theorem u3:prog.underlying 3=some (.int .i64):=by kernel_rfl
theorem a98:agg? prog 98=some false:=by kernel_rfl
theorem Kr (a:Addr):A0 prog 100 (.pointer (some a)) 0=some (.pointer (some ⟨a.block,a.off,none⟩)):=by kernel_rfl
theorem PZ (a:Addr):A0 prog 100 (.pointer (some a)) 1=some (.pointer (some ⟨a.block,a.off+1,none⟩)):=by kernel_rfl
theorem CO (a:Addr):IM (.pointer (some a))=some (.pointer (some a)):=rfl
def dB (W:CW) (r:Nat) (o:List Int):Prop:=∃ m:List (Int × Value),FV oE W r m∧∀ n,LU m n=if n ∈ o then some (.int .i64 (placeOf o n)) else none
theorem dB.lt {W:CW} (ht:Al W) {r:Nat} {o:List Int} (h:dB W r o):r<W.sz:=by
 obtain ⟨m,h1,_⟩:=h; exact h1.lt ht
theorem dB.congr {W W':CW} {r:Nat} {o:List Int} (h:dB W r o) (ho:W'.obj r=W.obj r):dB W' r o:=by
 obtain ⟨m,h1,h2⟩:=h; exact ⟨m,h1.congr ho,h2⟩
theorem dB.look {W:CW} {r:Nat} {o:List Int} (h:dB W r o) (n:Int):GL prog 98 (.map (some r)) (.int .i64 n) false W=some (.int .i64 (placeOf o n)):=by
 obtain ⟨m,h1,h2⟩:=h; have:=LV u98 u3 rfl z3 g_ h1 n false; rw [h2] at this
 by_cases hm:n ∈ o
 ·rw [if_pos hm] at this; exact this
 ·rw [if_neg hm] at this; rw [Gh hm]; exact this
theorem dB.put {W:CW} {r:Nat} {o:List Int} {n:Int} (h:dB W r o) (hn:n ∉ o) {K:CW→Prop} (hK:∀ W1,DO r W W1→dB W1 r (o++[n])→K W1):wV (cj prog 98 (.map (some r)) (.int .i64 n) (.int .i64 ((o.length+1:Nat):Int)) W) K:=by
 obtain ⟨m,h1,h2⟩:=h; refine aL (enc:=oE) (s:=n) u98 u3 rfl g_ h1 fun W1 hu hm=>hK W1 hu ⟨_,hm,fun u=>?_⟩; rw [ID,h2,SR hn]
 by_cases e:u=n
 ·rw [if_pos e,if_pos e,if_pos (by rw [e]; simp)]; rfl
 ·rw [if_neg e,if_neg e]
  by_cases hu:u ∈ o
  ·rw [if_pos hu,if_pos (List.mem_append_left _ hu)]
  ·rw [if_neg hu,if_neg (by simp [hu,e])]
theorem dB.ne {W:CW} {r b:Nat} {el:TypeId} {vs:List Value} {o:List Int} (h:dB W r o) (hB:As W b el vs):b≠r:=by
 rintro rfl; obtain ⟨m,⟨es,EC,h1,_⟩,_⟩:=h; obtain ⟨c,n,z,h2,_⟩:=hB; rw [h1] at h2; cases h2
structure Mg (W:CW) (bw rp:Nat) (vo:Value) (o:List Int):Prop where
 w:As W bw 100 [vo,.map (some rp)]
 own:DU W 3 1 vo (C7 o)
 p:dB W rp o
def WkS (bw rp:Nat) (vo:Value) (j:Nat):Prop:=j=bw∨j=rp∨BV vo j
def bF (bw rp:Nat) (vo:Value) (o:List Int) (W:CW):Ending→CW→Prop:=fun e W'=>(∃ v,e=.returned v)∧Bq (WkS bw rp vo) W W'∧Al W'∧∃ lF,Mg W' bw rp lF o∧∀ j,BV lF j→BV vo j∨W.sz≤j
theorem bG {bw rp:Nat} {vo:Value} {o:List Int} {n:Int} {W:CW} (ht:Al W) (hw:Mg W bw rp vo o) (hn:0≤n) (dU:o.length<100000) :
  AF prog AV 105 [.pointer (some ⟨bw,0,none⟩),.int .i64 n] W (bF bw rp vo (visit o n) W):=by
 refine xP ?_; rw [xO]; have q0:ld prog 40 (.pointer (some ⟨bw,0,none⟩)) W=some vo:=AB M7 (a:=⟨bw,0,none⟩) (hw.w.cell rfl); have q1:ld prog 98 (.pointer (some ⟨bw,0+1,none⟩)) W=some (.map (some rp)):=AB a98 (a:=⟨bw,0+1,none⟩) (hw.w.cell rfl)
 have leaf:∀ (b:Bool) (e:Env),e 14=.bool b→e 0=.pointer (some ⟨bw,0,none⟩)→e 1=.int .i64 n→(b=true→visit o n=o)→(b=false→0<n∧n ∉ o)→(TS none (AI prog Tryz.f105 (bF bw rp vo (visit o n) W))) .normal e [] W:=by
  intro b e qE h0 h1 nu sA; simp only [TS,B_,qE]
  refine AP (fun hb=>?_) (fun hb=>?_)
  ·simp only [PS,Lm]; rw [nu hb,ez]; exact ⟨⟨_,rfl⟩,.refl _ _,ht,vo,hw,fun j hj=>.inl hj⟩
  ·obtain ⟨N9,r7⟩:=sA hb; have hv:visit o n=o++[n]:=by unfold visit; rw [if_pos ⟨N9,r7⟩]
   rw [hv]; simp only [PS,B_,h0,h1,CO,Kr,PZ,AA,q0]; refine nD H3 s3 z3 rfl (by omega) by3 (by omega) (nE _) rfl rfl ht hw.own (by rw [Ih]; omega) fun u v1 W1 L6 t1 o1 n1=>?_; rw [←aQ] at o1; have Dm:=Wy hw.own hw.w (by decide); have Dz:=L6.HR ht hw.w Dm; refine Af (vs:=[vo,.map (some rp)]) s40 (a:=⟨bw,0,none⟩) (OO o1) Dz (by simp) fun W2 hu FI=>?_; have hu:DO bw W1 W2:=hu; have FI:As W2 bw 100 [v1,.map (some rp)]:=FI; have yH:=Dz.lt t1; have t2:Al W2:=t1.A5 yH hu; have Nb:CC W.sz v1:=n1 _ (Nat.le_refl _); have hbw:=hw.w.lt ht; have o2:DU W2 3 1 v1 (C7 (o++[n])):=LY o1 hu fun b l c e=>by have:=Nb b l c e; omega
   have cz:=hw.p.lt ht; have AET:rp≠bw:=fun e=>hw.p.ne hw.w e.symm
   have AEU:∀ b l c,vo=.slice (some b) l c→rp≠b.block:=fun b l c e hb=>by
    have ho:=hw.own; rw [e] at ho
    cases ho with
    | some hB hl=>exact hw.p.ne hB hb.symm
   have hp1:dB W1 rp o:=hw.p.congr (L6.obj rp cz AEU); have vI:dB W2 rp o:=hp1.congr (hu.obj rp AET); have Mz:(C7 (o++[n])).length=(o.length+1)*1:=by rw [Ih]; simp
   have c1:ld prog 98 (.pointer (some ⟨bw,0+1,none⟩)) W2=some (.map (some rp)):=AB a98 (a:=⟨bw,0+1,none⟩) (FI.cell rfl); have c2:ld prog 40 (.pointer (some ⟨bw,0,none⟩)) W2=some v1:=AB M7 (a:=⟨bw,0,none⟩) (FI.cell rfl); have c3:Aj prog 40 v1 W2=some (.int .i64 ((o.length+1:Nat):Int)):=Hl H3 o2 (by omega) Mz; simp only [c1,c2,c3,AA]; refine vI.put r7 fun W3 OW hp3=>?_; have AEV:=vI.lt t2; have t3:=t2.A5 AEV OW; refine ⟨by simp only [and_self],trivial,?_⟩
   have hlv:∀ (e:Env) (W:CW) (Q:Ending→CW→Prop),Q (.returned (.tuple #[])) W→AI prog Tryz.f105 Q .normal e [] W:=fun e W Q h=>by
    have hr:Tryz.f105.results.toList=[]:=by kernel_rfl
    simp only [AI,CB,hr,IQ]; exact h
   refine hlv _ _ _ ⟨⟨_,rfl⟩,?_,t3,v1,⟨FI.congr (OW.obj _ (vI.ne FI)),LY o2 OW fun b l c e hb=>?_,hp3⟩,fun j hj=>.inr (Nb.in hj)⟩
   ·exact ⟨by rw [OW.sz,hu.sz]; exact L6.sz,fun j hj hS=>by
     rw [OW.obj j fun e=>hS (.inr (.inl e)),hu.obj j fun e=>hS (.inl e)]
     exact L6.EG.obj j hj fun h=>hS (.inr (.inr h))⟩
   ·have:=Nb b l c e; omega
 simp only [Bp,AA]
 refine AP (fun h0=>?_) (fun h0=>?_)
 ·have h0:n=0:=by simpa using h0
  exact leaf true _ rfl rfl rfl (fun _=>by unfold visit; rw [if_neg (by omega)]) (fun h=>by cases h)
 ·have h0:n≠0:=by simpa using h0
  simp only [CO,PZ,AA,q1,hw.p.look,CY]
  refine leaf _ _ rfl rfl rfl (fun h=>?_) (fun h=>?_)
  ·have h:=of_decide_eq_true h; unfold visit; rw [if_neg (fun hh=>by rw [Gh hh.2] at h; omega)]
  ·have h:=of_decide_eq_false h; exact ⟨by omega,fun hm=>h (SQ hm)⟩
end Go.Ce
namespace Go.Ce
open Go Go.Proofs Go.Proofs.Tryz
theorem z40:Gm prog 40=some (.slice none 0 0):=by kernel_rfl
def U9 (l:List Int) (W:CW):Ending→CW→Prop:=fun e W'=>Kp W W'∧Al W'∧∃ vr,e=.returned vr∧DU W' 3 1 vr (C7 l)∧CC W.sz vr
theorem OX (c:List Ad) (i:Nat) (vs:List Int):∀ k,(FB c i vs k).length≤k
 | 0=>by simp [FB]
 | k+1=>by
  have h:=OX c i vs k
  have h2:(if A6 c i k=2 then (vs[k]?).toList else []).length≤1:=by
   split
   ·cases vs[k]? <;> simp
   ·simp
  rw [FB,List.length_append]; omega
theorem hP {c:List Ad} {r1 r2 i:Nat} {y:BM} {vx:Value} {W:CW} (ht:Al W) (EB:Dr W r1 r2 c) (hi:A_ c y.type=some i) (Lw:elemAt c i=0→y.AH.length≤(Ak c i).length) (RR:Ax 1 (De W) vx y.AH) (hv:y.AH.length<100000) :
  AF prog AV 52 [H6 r1 r2,.agg #[.string y.type,vx]] W (U9 (refsOf c y) W):=by
 refine ABS ?_; rw [ABR]; unfold H6; obtain ⟨ax,cx,rfl,_⟩:=id RR; refine Er NV ht fun W0 k0 t0 z0 GK=>?_; have GK:As W0 W.sz 78 [.map (some r1),.map (some r2)]:=GK; refine Er Ia t0 fun W1 k1 t1 z1 Fg=>?_; have Fg:As W1 W0.sz 56 [.string y.type,.slice ax y.AH.length cx]:=Fg; refine Gx z40 s40 t1 fun W2 k2 t2 z2 I3=>?_; have I3:As W2 W1.sz 40 [.slice none 0 0]:=I3; have AEW:=GK.ext t0 (k1.trans k2); have sJ:=Fg.ext t1 k2; have k02:=(k0.trans k1).trans k2; have AEX:W.sz≤W1.sz:=(k0.trans k1).sz; have yI:W0.sz≠W1.sz:=by omega
 rw [BO (vs:=[.map (some r1),.map (some r2)]) lC NV rfl (by omega) AEW.cells,BO (vs:=[.string y.type,.slice ax y.AH.length cx]) YX Ia rfl (by omega) sJ.cells]; simp only [AA]; generalize jh:W0.sz=b3 at sJ Fg yI; generalize hb5:W1.sz=b5 at I3 AEX yI; refine (Mf (r1:=r1) (r2:=r2) (ty:=y.type) t2).mono fun en W4 ⟨k4,t4,bk,bx,Ef,Y7,hbx,fP,fQ⟩=>?_; subst Ef; simp only [AT]; have jk:=k02.trans k4; have XL:=EB.kp ht jk; have hv4:Ax 1 (De W4) (.slice ax y.AH.length cx) y.AH:=RR.imp fun _ _ _ hr=>hr.kp ht jk; have AEY:=I3.ext t2 k4; have oF:=sJ.ext t2 k4; have AGH:=I3.lt t2; have AGI:=sJ.lt t2; have AGJ:=k4.sz; have hKs:∀ W',Bq (·=b5) W4 W'→∀ b k v,b≠b5→W4.cell b k=some v→W'.cell b k=some v:=fun W' h b k v hb hc=>h.cell t4 hb hc
 have hKd:∀ W',Bq (·=b5) W4 W'→jd W' bk bx r1 r2 c y.type y.AH.length:=fun W' h=>by
  have h78:bk≠b5:=by omega
  have h56:bx≠b5:=by omega
  refine ⟨hKs W' h _ _ _ h78 (fP.cell rfl),hKs W' h _ _ _ h78 (fP.cell rfl),?_,hKs W' h _ _ _ h56 (fQ.cell rfl),_,_,hKs W' h _ _ _ h56 (fQ.cell rfl)⟩; have tu:=EB; exact EB.kp ht (Bq.kp jk h fun j hj=>by omega)
 have UJ:∀ (W':CW) (vo:Value) (e:Env),Bq (·=b5) W4 W'→Al W'→W'.obj W4.sz=some .deferred→W4.sz<W'.sz→As W' b5 40 [vo]→DU W' 3 1 vo (C7 (refsOf c y))→(∀ j,BV vo j→W4.sz+2≤j)→e 4=vo →
   AI prog Tryz.f52 (U9 (refsOf c y) W) .ret e [mark W4.sz] W':=by
  intro W' vo e HI t' hd hl hB ho hn h4; refine Im hd ?_; have hu:DO W4.sz W' (W'.A5 W4.sz .dead):=DO.of _ _ _; rw [jY,h4]; have hW4:=jk.sz; exact ⟨(Bq.kp jk HI fun j hj=>by omega).A5 hW4 hu,t'.A5 hl hu,vo,rfl,LY ho hu fun b l c e he=>by have:=hn b.block ⟨b,l,c,e,rfl⟩; omega,fun b l c e=>by have:=hn b.block ⟨b,l,c,e,rfl⟩; omega⟩
 refine TZ (bk:=bk) (bx:=bx) (r1:=r1) (r2:=r2) (n:=y.AH.length) (ix:=i) (c:=c) (ty:=y.type) (a1:=6) (a2:=7) t4 rfl hi hv Lw (fun ro e0 ds K W=>by rw [xM]) (by decide)
  (fun j W'=>Bq (·=b5) W4 W'∧Al W'∧W'.obj W4.sz=some .deferred∧W4.sz+1<W'.sz∧∃ vo,As W' b5 40 [vo]∧DU W' 3 1 vo (C7 (FB c i y.AH j))∧∀ m,BV vo m→W4.sz+2≤m)
  (fun _ _=>False) (fun j W' h=>hKd W' h.1) (fun j W1 W2 ⟨h1,h2,h3,h4,vo,h5,h6,h7⟩ hu hc=>?_) (fun _ _ _ h _ _=>h.elim) (fun W3 k3 t3 z3 hd=>⟨Bq.Gc k3,t3,hd,by omega,_,AEY.ext t4 k3,DU.nil,fun m hm=>by obtain ⟨b,l,c,e,_⟩:=hm; cases e⟩)
  (fun j W1 Kb E hE x3 x4 hj ⟨HI,ky,hd,hl,vo,oG,uC,kj⟩ hlo hn _ _=>?_) (fun W' ⟨h1,h2,h3,h4,vo,h5,h6,h7⟩=>?_) (fun _ _ h=>h.elim)
 ·exact ⟨h1.then hu.EG fun i hi he=>by omega,h2.A5 h4 hu,by rw [hu.obj _ (by omega)]; exact h3,by rw [hu.sz]; exact h4,vo,h5.congr (hu.obj _ (by omega)),LY h6 hu fun b l c e he=>by have:=h7 b.block ⟨b,l,c,e,rfl⟩; omega,h7⟩
 ·have fG:=List.getElem?_eq_getElem hj; have g3:E 3=.pointer (some ⟨b3,0,none⟩):=(hE 3 (by decide) (by decide) (by decide) (by decide)).trans rfl; have g5:E 5=.pointer (some ⟨b5,0,none⟩):=(hE 5 (by decide) (by decide) (by decide) (by decide)).trans rfl; have VV:FB c i y.AH (j+1)=FB c i y.AH j++(if A6 c i j=2 then [y.AH[j]] else []):=aR fG; rw [xN,g3,g5,x3,x4]; simp only [Bp,AA]
  refine AP (fun hk=>?_) (fun hk=>?_)
  ·have hk:A6 c i j=2:=by simpa using hk
   have Wf:Ax 1 (De W1) (.slice ax y.AH.length cx) y.AH:=by
    have:=RR.imp (S:=fun b o x=>De W1 b o x) fun _ _ _ hr=>hr.kp ht (Bq.kp jk HI fun j hj=>by omega); exact this
   obtain ⟨_,_,e3,hvc⟩:=Wf
   cases e3
   obtain ⟨q,rfl,hq⟩:=hvc j _ fG; have l5:∀ W7,Kp W1 W7→ld prog 40 (.pointer (some ⟨b5,0,none⟩)) W7=some vo:=fun W7 k7=>AB M7 (a:=⟨b5,0,none⟩) (k7.cell ky (oG.cell rfl)); have l3:ld prog 40 (.pointer (some ⟨b3,0+1,none⟩)) W1=some (.slice (some q) y.AH.length cx):=AB M7 (a:=⟨b3,0+1,none⟩) (hKs W1 HI _ _ _ yI (oF.cell rfl)); simp only [l5 W1 (.refl _),D1,AA,l3]; rw [A8 H3 s3 hj]; simp only [AA]; rw [AB a3 (a:=⟨q.block,q.off+j*1,none⟩) hq.1]; simp only [AA]; have VW:=OX c i y.AH j; refine NA H3 s3 z3 rfl (by omega) by3 (by omega) (nE _) rfl rfl ky uC (by rw [Ih]; omega) fun u Wa v1 W7 ka ta L6 t7 o7 n7=>?_; rw [←aQ] at o7; have Dm:=Wy uC oG (by decide); have sI:=L6.HR ky oG Dm; refine Af (vs:=[vo]) s40 (a:=⟨b5,0,none⟩) (OO o7) sI (by simp) fun W8 hu PX=>?_; have hu:DO b5 W7 W8:=hu; have nX:=L6.sz; have hn7:CC W1.sz v1:=n7 _ (Nat.le_refl _); refine ⟨by simp only [l5 Wa ka,and_self],trivial,?_⟩
   refine hn _ _ W8 ?_ ⟨(HI.then L6.EG fun m hm hi=>by have:=kj m hi; omega).then hu.EG fun m hm hi=>hi,t7.A5 (by omega) hu,?_,by rw [hu.sz]; omega,v1,PX,?_,fun m hm=>by have:=hn7.in hm; omega⟩
   ·rw [hu.obj _ (by omega)]; exact L6.obj _ (by omega) fun b l c e hb=>by have:=kj b.block ⟨b,l,c,e,rfl⟩; omega
   ·rw [hu.obj _ (by omega)]; rw [L6.obj _ (by omega) fun b l c e hb=>by have:=kj b.block ⟨b,l,c,e,rfl⟩; omega]; exact hd
   ·rw [VV,if_pos hk]; exact LY o7 hu fun b l c e=>by have:=hn7 b l c e; omega
  ·have hk:¬A6 c i j=2:=by simpa using hk
   refine hn _ _ W1 rfl ⟨HI,ky,hd,hl,vo,oG,?_,kj⟩; rw [VV,if_neg hk,List.append_nil]; exact uC
 ·simp only [B_,wx,ey]; simp only [Ao,Nat.reduceEqDiff,↓reduceIte]; rw [AB M7 (a:=⟨b5,0,none⟩) (h5.cell rfl)]; simp only [AA]; have vE:refsOf c y=FB c i y.AH y.AH.length:=by unfold refsOf; rw [hi]
  exact UJ W' vo _ h1 h2 h3 (by omega) h5 (by rw [vE]; exact h6) h7 rfl
theorem bH:Tryz.f53.results.toList=[.cell 4 56]:=by kernel_rfl
theorem oH {e e1:Env} {A W:CW} {K:AG} {vm vx:Value} {b3 b7:Nat} {s:Bc} {x:BM} (hA:Al A) (ht:Al W) (hk:Kp A W) (ZN:Ax 1 (De A) vm s.map) (he:DJ [3,4,7,25,26] e e1) (h27:e1 27=.int .i64 0) (h25:e 25=vm) (h26:e 26=.int .i64 s.map.length) (h3:e 3=.pointer (some ⟨b3,0,none⟩)) (h7:e 7=.pointer (some ⟨b7,0,none⟩)) (jh:A.cell b3 1=some vx) (RR:Ax 1 (De A) vx x.AH) (hb7:A.sz≤b7) (hB:As W b7 56 [.string s.to,.slice none 0 0])
  (hm:∀ m,m ∈ s.map→0≤m∧m.toNat<x.AH.length) (hlen:s.map.length<100000)
  (hex:∀ e' W' vo,Kp A W'→Al W'→CC A.sz vo→As W' b7 56 [.string s.to,vo]→DU W' 3 1 vo (C7 (s.map.map (Ge x)))→DJ [3,4,7] e e'→K (.exit 0) e' [] W') :
  C6 prog AV none 53 43 (.loop (Ae prog 53 0)) e1 [] W K:=by
 refine D8 (fun m e' DN W'=>DN=[]∧Kp A W'∧Al W'∧DJ [3,4,7,25,26] e e'∧e' 27=.int .i64 m∧∃ vo,As W' b7 56 [.string s.to,vo]∧DU W' 3 1 vo (C7 ((s.map.take m).map (Ge x)))∧CC A.sz vo) s.map.length ⟨rfl,hk,ht,he,h27,_,hB,DU.nil,CC.nil _ _ _⟩ ?_; rintro m e' DN W' mR ⟨rfl,k',t',PW,g27,vo,dC,ho,Su⟩; have AEZ:Ax 1 (De W') vm s.map:=ZN.imp fun _ _ _ hr=>hr.kp hA k'; have AEa:Ax 1 (De W') vx x.AH:=RR.imp fun _ _ _ hr=>hr.kp hA k'; obtain ⟨am,AGK,rfl,hmc⟩:=AEZ; obtain ⟨ax,ACL,rfl,hxc⟩:=AEa; have g3:=(PW 3 (by decide)).trans h3; have g7:=(PW 7 (by decide)).trans h7; rw [x7,g27,g3,g7,(PW 25 (by decide)).trans h25,(PW 26 (by decide)).trans h26]; simp only [A7,AA]
 refine G6 (fun Au=>?_) (fun Of=>?_)
 ·have hx:=List.getElem?_eq_getElem Au; obtain ⟨q,rfl,hq⟩:=hmc m _ hx; obtain ⟨iY,Vj⟩:=hm _ (List.getElem_mem Au); have pn:=List.getElem?_eq_getElem Vj; obtain ⟨qx,rfl,hqx⟩:=hxc _ _ pn; have q6:∀ W7,Kp W' W7→ld prog 40 (.pointer (some ⟨b7,0+1,none⟩)) W7=some vo:=fun W7 k7=>AB M7 (a:=⟨b7,0+1,none⟩) (k7.cell t' (dC.cell rfl)); have q3:ld prog 40 (.pointer (some ⟨b3,0+1,none⟩)) W'=some (.slice (some qx) x.AH.length ACL):=AB M7 (a:=⟨b3,0+1,none⟩) (k'.cell hA jh)
  have ex:EV prog 40 (.slice (some qx) x.AH.length ACL) (.int .i64 s.map[m])=some (.pointer (some ⟨qx.block,qx.off+s.map[m].toNat*1,none⟩)):=by
   have e1:(Value.int IntKind.i64 s.map[m])=.int .i64 ((s.map[m].toNat:Nat):Int):=by rw [Int.toNat_of_nonneg iY]
   rw [e1]; exact A8 H3 s3 Vj
  have q1:ld prog 3 (.pointer (some ⟨q.block,q.off+m*1,none⟩)) W'=some (.int .i64 s.map[m]):=AB a3 (a:=⟨q.block,q.off+m*1,none⟩) hq.1; have q2:ld prog 3 (.pointer (some ⟨qx.block,qx.off+s.map[m].toNat*1,none⟩)) W'=some (.int .i64 x.AH[s.map[m].toNat]):=AB a3 (a:=⟨qx.block,qx.off+s.map[m].toNat*1,none⟩) hqx.1; rw [A8 H3 s3 Au]; simp only [D1,AA,q6 W' (.refl _),q3,q1,ex,q2]; have hln:(C7 ((s.map.take m).map (Ge x))).length<900000:=by rw [Ih,List.length_map,List.length_take]; omega
  refine NA H3 s3 z3 rfl (by omega) by3 (by omega) (nE _) rfl rfl t' ho hln fun u Wa v1 W1 ka ta L6 t1 o1 n1=>?_; have Dm:=Wy ho dC (by decide); have eU:=L6.HR t' dC Dm; have Nb:CC W'.sz v1:=n1 _ (Nat.le_refl _); refine Af (vs:=[.string s.to,vo]) s40 (a:=⟨b7,0+1,none⟩) (OO o1) eU (by simp) fun W2 hu GK=>?_; have AGL:b7<W'.sz:=dC.lt t'; have hu:DO b7 W1 W2:=hu; have k1:Kp A W1:=L6.kp k' Su; have k2:Kp A W2:=k1.A5 hb7 hu; have t2:Al W2:=t1.A5 (by have:=L6.sz; omega) hu; refine ⟨by simp only [q6 Wa ka,and_self],trivial,?_⟩; simp only [gz,B_,HB]; simp only [Ao,BC,Nat.reduceEqDiff,↓reduceIte,g27,Az,AA]
  refine ⟨Au,trivial,k2,t2,(PW.trans (.put rfl)).trans (.put rfl),by rw [Du (by omega)],v1,GK,?_,fun b l c e=>?_⟩
  ·have:C7 ((s.map.take (m+1)).map (Ge x))=C7 ((s.map.take m).map (Ge x))++[.int .i64 x.AH[s.map[m].toNat]]:=by
    rw [List.take_add_one,hx]; simp only [Option.toList_some,List.map_append,List.map_cons,List.map_nil,C7,Ge,pn,rD]
   rw [this]; exact LY o1 hu fun b l c e=>by have:=Nb b l c e; omega
  ·have:=Nb b l c e; have:=k'.sz; omega
 ·simp only [PJ]; have:s.map.take m=s.map:=List.take_of_length_le (by omega); rw [this] at ho; exact hex _ W' vo k' t' Su dC ho (fun t ht=>(DJ.put rfl t (by exact ht)).trans (PW t (by revert t; decide)))
theorem oI {w r:Nat} {vx:Value} {l:List Bc} {x:BM} {W:CW} (ht:Al W) (hw:Ny Bc.type W w l) (RR:Ax 1 (De W) vx x.AH) (hm:∀ s,Gy l x.type=some s→∀ m,m ∈ s.map→0≤m∧m.toNat<x.AH.length) (Nx:∀ s,s ∈ l→s.map.length<100000) :
  AF prog AV 53 [.agg #[.map (some w),.map (some r)],.agg #[.string x.type,vx]] W (nJ vx (AL l x) W):=by
 refine AB6 ?_; rw [AB5]; obtain ⟨ax,cx,rfl,_⟩:=id RR; refine Er np ht fun W0 k0 t0 z0 GK=>?_; have GK:As W0 W.sz 83 [.map (some w),.map (some r)]:=GK; refine Er Ia t0 fun W1 k1 t1 z1 Fg=>?_; have Fg:As W1 W0.sz 56 [.string x.type,.slice ax x.AH.length cx]:=Fg; refine Gx z56 Ia t1 fun A kA tA zA Il=>?_; have Il:As A W1.sz 56 [.string ⟨#[]⟩,.slice none 0 0]:=Il; have k:=(k0.trans k1).trans kA; have Fg:=Fg.ext t1 kA; have nq:W.sz≤W1.sz:=(k0.trans k1).sz; have hwA:=hw.kp ht k; have hvA:Ax 1 (De A) (.slice ax x.AH.length cx) x.AH:=RR.imp fun _ _ _ hr=>hr.kp ht k; have q3:∀ W7,Kp A W7→ld prog 9 (.pointer (some ⟨W0.sz,0,none⟩)) W7=some (.string x.type):=fun W7 k7=>AB a9 (a:=⟨W0.sz,0,none⟩) (k7.cell tA (Fg.cell rfl)); simp only [TX,F1,AA]; rw [AB tv (a:=⟨W.sz,0,none⟩) ((GK.ext t0 (k1.trans kA)).cell rfl)]; simp only [AA,q3 A (.refl _)]; generalize Jq:AI prog Tryz.f53 (nJ (.slice ax x.AH.length cx) (AL l x) W)=K
 have F_:∀ Y8 vv,Kp A Y8→Al Y8→BN vv=true→(vv=.slice ax x.AH.length cx∨CC W.sz vv)→(∀ W2,DO W1.sz Y8 W2→Ax 1 (De W2) vv (AL l x).AH)→∀ {K':CW→Prop},(∀ W2,(∀ e',e' 4=.pointer (some ⟨W1.sz,0,none⟩)→K .ret e' [] W2)→K' W2) →
   wV (CE prog 56 (.pointer (some ⟨W1.sz,0,none⟩)) (.agg [.string (AL l x).type,vv].toArray) Y8) K':=by
  intro Y8 vv qV ky MA WQ Vo K' rk; have hB:=Il.ext tA qV; refine DF Ia (a:=⟨W1.sz,0,none⟩) (by simp only [List.all_cons,List.all_nil,MA,Bool.and_true]; rfl) rfl hB (by simp) fun W2 hu GK=>rk W2 fun e' h4'=>?_; have hu:DO W1.sz Y8 W2:=hu; rw [←Jq]; have GK:As W2 W1.sz 56 [.string (AL l x).type,vv]:=GK; refine LZ bH (p:=⟨W1.sz,0,none⟩) h4' (BO (vs:=[.string (AL l x).type,vv]) YX Ia rfl (by omega) GK.cells) ?_; have jU:=hB.lt ky; exact ⟨(k.trans qV).A5 nq hu,ky.A5 jU hu,vv,rfl,Vo W2 hu,WQ⟩
 cases Gz:Gy l x.type with
 | none =>
  have KC:AL l x=x:=by unfold AL; rw [Gz]
  rw [hwA.none Gz]; simp only [AA,Be,Bf]; unfold rz; refine CZ (ws:=[.string ⟨#[]⟩,.string ⟨#[]⟩,.slice none 0 0]) lE ZB rfl rfl rfl tA fun W4 k4 t4 z4 I3=>?_; simp only [Ai,AA,Bool.not_false,Bh]; rw [BO (vs:=[.string x.type,.slice ax x.AH.length cx]) YX Ia rfl (by omega) (Fg.ext tA k4).cells]; simp only [AA]; have NU:x.type=(AL l x).type:=by rw [KC]
  rw [NU]; refine F_ W4 _ k4 t4 rfl (.inl rfl) (fun W3 hu=>?_) fun W3 hr=>hr _ rfl; rw [KC]; exact RR.imp fun _ _ _ hr=>hr.kp ht ((k.trans k4).A5 nq hu)
 | some s =>
  have KC:AL l x=⟨s.to,s.map.map (Ge x)⟩:=by unfold AL; rw [Gz]
  obtain ⟨i,hi,AGM⟩:=Ig Gz; obtain ⟨u,hu,L⟩:=hwA.some Gz; obtain ⟨am,cm,rfl,hum⟩:=hu; rw [L]; simp only [AA,Be,Bf]; refine CZ (ws:=[.string s.type,.string s.to,.slice am s.map.length cm]) lE ZB rfl rfl rfl tA fun W4 k4 t4 z4 I3=>?_; simp only [Ai,AA,Bool.not_true,Ar,LR,LS]; rw [AB a9 (a:=⟨A.sz,0+1,none⟩) (I3.cell rfl)]; simp only [AA]; rw [ABD]; simp only [AA]; refine CZ z56 Ia rfl rfl rfl t4 fun W7 k7 t7 z7 sI=>?_; rw [AB M7 (a:=⟨A.sz,0+2,none⟩) ((I3.ext t4 k7).cell rfl)]; simp only [AA,Ah H3]
  refine oH (e:=Env.of (Env.args []) [(3,.pointer (some ⟨W0.sz,0,none⟩)),(4,.pointer (some ⟨W1.sz,0,none⟩)),(7,.pointer (some ⟨W4.sz,0,none⟩)),(25,.slice am s.map.length cm),(26,.int .i64 s.map.length)]) tA t7 (k4.trans k7) hum (fun t ht=>by
   simp only [List.mem_cons,List.not_mem_nil,or_false] at ht
   rcases ht with rfl | rfl | rfl | rfl | rfl <;> rfl) rfl rfl rfl rfl rfl (Fg.cell rfl) hvA (k4.sz) sI (hm s Gz) (Nx s (List.mem_of_getElem? hi)) fun e' W2 vo k2 t2 Su hBo ho PW=>?_
  have g4:e' 4=.pointer (some ⟨W1.sz,0,none⟩):=(PW 4 (by decide)).trans rfl; have g7:e' 7=.pointer (some ⟨W4.sz,0,none⟩):=(PW 7 (by decide)).trans rfl; simp only [B_,Va,M6,if_true,oB,g4,g7]; rw [BO (vs:=[.string s.to,vo]) YX Ia rfl (by omega) hBo.cells]; simp only [AA]; have NU:s.to=(AL l x).type:=by rw [KC]
  rw [NU]
  have cU:∀ y,y ∈ (AL l x).AH→-9223372036854775808≤y∧y≤9223372036854775807:=by
   rw [KC]; intro y hy; obtain ⟨m,Vj,rfl⟩:=List.mem_map.1 hy; have QV:=(hm _ Gz m Vj).2; obtain ⟨ax',cx',_,hxc⟩:=RR; obtain ⟨_,_,zx⟩:=hxc _ _ (List.getElem?_eq_getElem QV); unfold Ge; rw [List.getElem?_eq_getElem QV]; exact zx.2
  refine F_ W2 vo k2 t2 (OO ho) (.inr fun b l' c e=>Nat.le_trans k.sz (Su b l' c e)) (fun W3 hu=>De.of ?_ cU) fun W3 hr=>?_
  ·have hwv:(AL l x).AH=s.map.map (Ge x):=by rw [KC]
   rw [hwv]; have pz:=Il.ext tA k2; exact Hk (LY ho hu (Wy ho pz (by decide)))
  ·exact hr _ g4
end Go.Ce
namespace Go.Ce
open Go Go.Proofs Go.Proofs.Tryz
theorem yJ (r:Nat):QF prog 100 [(1,.map (some r))]=some (.agg #[.slice none 0 0,.map (some r)]):=by kernel_rfl
theorem AEb:DM prog 100=some 2:=by kernel_rfl
theorem bJ (root:Int):visit [] root=start root:=by
 unfold visit start
 by_cases h:root>0
 ·rw [if_pos h,if_pos ⟨h,by simp⟩]; rfl
 ·rw [if_neg h,if_neg (fun hh=>h hh.1)]
theorem Mg.lt {W:CW} {bw rp:Nat} {vo:Value} {o:List Int} (h:Mg W bw rp vo o) (ht:Al W):bw<W.sz∧rp<W.sz∧∀ j,BV vo j→j<W.sz:=⟨h.w.lt ht,h.p.lt ht,fun j hj=>Nw ht h.own hj⟩
theorem Mg.kp {W W':CW} {bw rp:Nat} {vo:Value} {o:List Int} (h:Mg W bw rp vo o) (ht:Al W) (k:Kp W W'):Mg W' bw rp vo o:=⟨h.w.ext ht k,h.own.kp ht k,h.p.congr (k.obj _ (h.p.lt ht))⟩
def bK (o:List Int) (N:Nat) (W:CW):Ending→CW→Prop:=fun e W'=>Kp W W'∧Al W'∧∃ bw rp vo,e=.returned (.pointer (some ⟨bw,0,none⟩))∧Mg W' bw rp vo o∧W.sz≤bw∧W.sz≤rp∧CC W.sz vo∧Found o N
theorem XN {v1:Value} {root:Int} {N:Nat} {refs:Int→List Int} {W:CW} (ht:Al W) (hX:0≤root) (HZ:root≤N) (hN:N<100000) (Mx:∀ n:Int,0<n→n≤N→∀ r,r ∈ refs n→0≤r∧r≤N) (VW:∀ n:Int,(refs n).length<100000)
  (hrefs:∀ (n:Int) (W':CW),Kp W W'→Al W'→0<n→n≤N→∀ (K:Value→CW→Prop) KP,(∀ vr gv,Kp W' gv→Al gv→DU gv 3 1 vr (C7 (refs n))→CC W'.sz vr→K vr gv)→DZ prog AV v1 [.int .i64 n] W' K KP) :
  AF prog AV 50 [.int .i64 root,v1] W (bK (Ap refs N (start root) 0) N W):=by
 refine ABQ ?_; rw [ABP]; refine Uj (enc:=oE) ht fun W0 k0 t0 z0 hm=>?_; rw [yJ]; simp only [AA]; refine Er AEb t0 fun W1 k1 t1 z1 hB=>?_; have hB:As W1 W0.sz 100 [.slice none 0 0,.map (some W.sz)]:=hB; have hw0:Mg W1 W0.sz W.sz (.slice none 0 0) []:=⟨hB,DU.nil,⟨[],hm.kp t0 k1,fun n=>by simp [LU]⟩⟩
 have oJ:=k0.trans k1; have oK:W.sz≤W0.sz:=k0.sz; have AEc:W0.sz≠W.sz:=by omega
 generalize hbw:W0.sz=bw at hw0 oK AEc; refine (bG t1 hw0 hX (by simp)).mono fun en W2 ⟨⟨v,he⟩,c2,t2,vo,FI,QY⟩=>?_; subst he; simp only [AT]; rw [bJ] at FI; have KA:∀ j,¬BV (.slice none 0 0) j:=fun j ⟨b,l,c,e,_⟩=>by cases e
 have kS:∀ {A:CW} {vo:Value},(∀ j,BV vo j→W.sz≤j)→∀ j,WkS bw W.sz vo j→W.sz≤j:=fun hv j hj=>by
  rcases hj with rfl | rfl | hj
  ·exact oK
  ·exact Nat.le_refl _
  ·exact hv j hj
 have k2:Kp W W2:=Bq.kp oJ c2 fun j hj=>by
  rcases hj with rfl | rfl | hj
  ·exact oK
  ·exact Nat.le_refl _
  ·exact (KA j hj).elim
 have Oe:CC W.sz vo:=fun b l c e=>by
  rcases QY _ ⟨b,l,c,e,rfl⟩ with h | h
  ·exact (KA _ h).elim
  ·have:=oJ.sz; omega
 refine D8 (fun i e ds W'=>ds=[]∧∃ o vo,Kp W W'∧Al W'∧e 1=v1∧e 5=.pointer (some ⟨bw,0,none⟩)∧e 6=.int .i64 i∧Mg W' bw W.sz vo o∧CC W.sz vo∧Found o N∧Ap refs (N-i) o i=Ap refs N (start root) 0) N
  ⟨rfl,_,vo,k2,t2,rfl,rfl,rfl,FI,Oe,.start HZ,rfl⟩ ?_
 rintro i e ds W' hi ⟨rfl,o,vo,k',t',h1,h5,h6,hw,kj,hF,hR⟩; have dU:=hF.len; obtain ⟨yH,AGN,AEd⟩:=hw.lt t'; have q0:ld prog 40 (.pointer (some ⟨bw,0,none⟩)) W'=some vo:=AB M7 (a:=⟨bw,0,none⟩) (hw.w.cell rfl); have AEe:(C7 o).length=o.length*1:=by rw [Ih]; omega
 rw [xK,h1,h5,h6]; simp only [CO,Kr,AA,q0,Hl H3 hw.own (by omega) AEe,A7]
 refine G6 (fun Au=>?_) (fun Of=>?_)
 ·have hx:=List.getElem?_eq_getElem Au; obtain ⟨ao,co,rfl,yK⟩:=Hk (f:=fun k=>Value.int .i64 k) hw.own; obtain ⟨po,rfl,hpo⟩:=yK i _ hx; have ACN:=hF.low _ (List.getElem_mem Au); have uD:=hF.high _ (List.getElem_mem Au); rw [A8 H3 s3 Au]; simp only [AA]; rw [AB a3 (a:=⟨po.block,po.off+i*1,none⟩) hpo]; simp only [AA]; refine hrefs o[i] W' k' t' ACN uD _ _ fun vr W6 k6 t6 dr sK=>?_; have VV:=Mx o[i] ACN uD; have VW:=VW o[i]
  have Lk:Ap refs (N-(i+1)) ((refs o[i]).foldl visit o) (i+1)=Ap refs N (start root) 0:=by
   rw [←hR,show N-i=(N-(i+1))+1 by omega,aP hx]
  generalize refs o[i]=rs at dr VV VW Lk; have AEf:(C7 rs).length=rs.length*1:=by rw [Ih]; omega
  rw [Hl H3 dr (by omega) AEf]; simp only [AA]; have hw6:=hw.kp t' k6; have AGO:=k6.sz
  have AEg:∀ j,BV vr j→¬WkS bw W.sz (.slice (some po) o.length co) j:=fun j hj hS=>by
   have:=sK.in hj
   rcases hS with rfl | rfl | hS
   ·omega
   ·omega
   ·have:=AEd j hS; omega
  refine D8 (fun k e' DN W7=>DN=[]∧∃ o' lF,Bq (WkS bw W.sz (.slice (some po) o.length co)) W6 W7∧Al W7∧e' 1=v1∧e' 5=.pointer (some ⟨bw,0,none⟩)∧e' 6=.int .i64 i∧e' 32=vr∧e' 33=.int .i64 rs.length∧e' 34=.int .i64 k∧Mg W7 bw W.sz lF o'∧(∀ j,BV lF j→BV (.slice (some po) o.length co) j∨W6.sz≤j)∧Found o' N∧o'=(rs.take k).foldl visit o) rs.length
   ⟨rfl,o,_,.refl _ _,t6,h1,h5,h6,rfl,rfl,rfl,hw6,fun j hj=>.inl hj,hF,rfl⟩ ?_
  rintro k e' DN W7 hk ⟨rfl,o',lF,c7,t7,g1,g5,g6,g32,g33,g34,hw7,hv7,hF7,ho7⟩; rw [xL,g5,g32,g33,g34]; simp only [A7,AA]
  refine G6 (fun QV=>?_) (fun ABh=>?_)
  ·have zx:=List.getElem?_eq_getElem QV; have AEh:=c7.own t6 dr AEg; obtain ⟨ar,cr,rfl,hrc⟩:=Hk (f:=fun k=>Value.int .i64 k) AEh; obtain ⟨pr,rfl,QC⟩:=hrc k _ zx; rw [A8 H3 s3 QV]; simp only [AA]; rw [AB a3 (a:=⟨pr.block,pr.off+k*1,none⟩) QC]; simp only [AA]; obtain ⟨qR,WT⟩:=VV _ (List.getElem_mem QV); have:=hF7.len; refine (bG t7 hw7 qR (by omega)).mono fun en W9 ⟨⟨v,he⟩,c9,t9,vo9,hw9,hv9⟩=>?_; subst he; simp only [AT,ew,B_,HB]; simp only [Ao,BC,Nat.reduceEqDiff,↓reduceIte,g34,Az,AA]; have AGP:=c7.sz
   refine ⟨QV,trivial,_,vo9,c7.then c9 fun j hj hS=>?_,t9,g1,g5,g6,g32,g33,by rw [Du (by omega)],hw9,fun j hj=>?_,hF7.visit WT,?_⟩
   ·rcases hS with h | h | h
    ·exact .inl h
    ·exact .inr (.inl h)
    ·rcases hv7 j h with h | h
     ·exact .inr (.inr h)
     ·omega
   ·rcases hv9 j hj with h | h
    ·exact hv7 j h
    ·exact .inr (by omega)
   ·rw [List.take_add_one,zx,List.foldl_append,←ho7]; rfl
  ·have hkr:rs.take k=rs:=List.take_of_length_le (by omega); rw [hkr] at ho7; simp only [B_,Va,wx,M6,HB,PJ,if_true,eu]; simp only [Ao,BC,Nat.reduceEqDiff,↓reduceIte,g6,Az,AA]
   refine ⟨by omega,trivial,o',lF,Bq.kp (k'.trans k6) c7 fun j hj=>?_,t7,g1,g5,by rw [Du (by omega)],hw7,fun b l c e=>?_,hF7,by rw [ho7]; exact Lk⟩
   ·rcases hj with rfl | rfl | hj
    ·exact oK
    ·exact Nat.le_refl _
    ·exact kj.in hj
   ·rcases hv7 _ ⟨b,l,c,e,rfl⟩ with h | h
    ·exact kj.in h
    ·have:=(k'.trans k6).sz; omega
 ·have hfo:o=Ap refs N (start root) 0:=by rw [←hR,eW Of]
  simp only [B_,Va,M6,PJ,if_true,nP,jX]; refine ⟨k',t',bw,W.sz,vo,?_,hfo ▸ hw,oK,Nat.le_refl _,kj,hfo ▸ hF⟩; simp only [Ao,BC,Nat.reduceEqDiff,↓reduceIte,h5]
theorem NH {c:List Ad} {l:List Bc} {h:List BM} (Ac:BL c=true) (hs:BG c l=true) (HD:∀ x,x ∈ h→BF c x h.length=true) {n:Int}:∀ r,r ∈ CS c l h n→0≤r∧r≤h.length:=by
 intro r hr; unfold CS at hr
 cases hx:h[(n-1).toNat]? with
 | none=>rw [hx] at hr; cases hr
 | some x =>
  rw [hx] at hr; simp only at hr; obtain ⟨i,s,Y⟩:=DK (CJ hs (HD x (List.mem_of_getElem? hx))); generalize AL l x=y at hr Y; unfold refsOf at hr; rw [Y.ti] at hr; simp only at hr
  have:∀ k,r ∈ FB c i y.AH k→0≤r∧r≤h.length:=by
   intro k
   induction k with
   | zero=>intro h; cases h
   | succ k ih =>
    intro h; rw [FB] at h
    rcases List.mem_append.1 h with h | h
    ·exact ih h
    ·split at h
     ·rename_i hk
      cases hv:y.AH[k]? with
      | none=>rw [hv] at h; cases h
      | some v =>
       rw [hv] at h; have pj:=List.mem_singleton.1 h; subst pj
       rcases Ii Ac Y hv with h | h
       ·exact ⟨h.2.1,h.2.2⟩
       ·omega
     ·cases h
  exact this _ hr
theorem bL {c:List Ad} {l:List Bc} {h:List BM} (hC:OP c) (hs:BG c l=true) (HD:∀ x,x ∈ h→BF c x h.length=true) (n:Int):(CS c l h n).length<100000:=by
 unfold CS
 cases hx:h[(n-1).toNat]? with
 | none=>simp
 | some x =>
  simp only; obtain ⟨i,s,Y⟩:=DK (CJ hs (HD x (List.mem_of_getElem? hx))); have:=OX c i (AL l x).AH (AL l x).AH.length; have:=PL hC Y.many; unfold refsOf; rw [Y.ti]; simp only; omega
structure U' (W:CW) (bk br bh r1 r2 w r:Nat) (c:List Ad) (l:List Bc) (h:List BM):Prop where
 k:Cells W bk 0 [.map (some r1),.map (some r2)]
 rl:Cells W br 0 [.map (some w),.map (some r)]
 cat:Dr W r1 r2 c
 sp:Ny Bc.type W w l
 hs:∃ vh,W.cell bh 0=some vh∧Ax 2 (IZ W) vh h
theorem U'.kp {W W':CW} {bk br bh r1 r2 w r:Nat} {c:List Ad} {l:List Bc} {h:List BM} (A:U' W bk br bh r1 r2 w r c l h) (ht:Al W) (k:Kp W W'):U' W' bk br bh r1 r2 w r c l h:=by
 obtain ⟨vh,h1,h2⟩:=A.hs; exact ⟨A.k.ext ht k,A.rl.ext ht k,A.cat.kp ht k,A.sp.kp ht k,vh,k.cell ht h1,h2.imp fun _ _ _ hr=>hr.kp ht k⟩
theorem jo {bk br bh r1 r2 w r:Nat} {c:List Ad} {l:List Bc} {h:List BM} {n:Int} {W:CW} (ht:Al W) (A:U' W bk br bh r1 r2 w r c l h) (hC:OP c) (hs:BG c l=true) (HD:∀ x,x ∈ h→BF c x h.length=true) (Nx:∀ s,s ∈ l→s.map.length<100000) (SI:0<n) (Nb:n≤h.length) (re:h.length<100000) :
  AF prog AV 51 [.int .i64 n,.pointer (some ⟨bk,0,none⟩),.pointer (some ⟨br,0,none⟩),.pointer (some ⟨bh,0,none⟩)] W (U9 (CS c l h n) W):=by
 refine AB4 ?_; rw [AB3]; obtain ⟨vh,hbh,hh⟩:=A.hs; obtain ⟨i,hi⟩:∃ i:Nat,n=((i+1:Nat):Int):=⟨(n-1).toNat,by omega⟩
 subst hi; have G4:i<h.length:=by omega
 have hx:=List.getElem?_eq_getElem G4; obtain ⟨ah,ch,rfl,oL⟩:=id hh; obtain ⟨p,rfl,hp⟩:=oL i _ hx; have l78:∀ W1,Kp W W1→ld prog 78 (.pointer (some ⟨bk,0,none⟩)) W1=some (.agg [.map (some r1),.map (some r2)].toArray):=fun W1 k1=>BO (vs:=[.map (some r1),.map (some r2)]) (a:=⟨bk,0,none⟩) lC NV rfl (by omega) (A.k.ext ht k1); have l83:ld prog 83 (.pointer (some ⟨br,0,none⟩)) W=some (.agg [.map (some w),.map (some r)].toArray):=BO (vs:=[.map (some w),.map (some r)]) (a:=⟨br,0,none⟩) a83 np rfl (by omega) A.rl; have jq:ld prog 24 (.pointer (some ⟨bh,0,none⟩)) W=some (.slice (some p) h.length ch):=AB n9 (a:=⟨bh,0,none⟩) hbh; obtain ⟨vx,hu,RR,ACO⟩:=eX ht (.refl _) hp; rw [l78 W (.refl _),l83,jq]; simp only [AA,D7]; rw [show ((i+1:Nat):Int)-1=(i:Nat) by omega,wrap64 (by omega) (by omega),A8 Vg Ia G4]; simp only [AA,hu]; have NU:=HD _ (List.getElem_mem G4); refine (oI (r:=r) ht A.sp RR (MZ hs NU) Nx).mono fun en W0 ⟨k0,t0,vv,Ef,Vo,WQ⟩=>?_; subst Ef; simp only [AT]; have hyt:=CJ hs NU; obtain ⟨iy,sy,Y⟩:=DK hyt
 have cz:CS c l h ((i+1:Nat):Int)=refsOf c (AL l h[i]):=by
  unfold CS; rw [show (((i+1:Nat):Int)-1).toNat=i by omega,hx]
 have AEi:=PL hC Y.many; refine (hP t0 (A.cat.kp ht k0) Y.ti (fun he=>by rw [Gf Y.si he Y.many]; exact Nat.le_refl _) Vo (by omega)).mono fun en W2 ⟨k2,t2,vr,Ef,dr,sK⟩=>?_; subst Ef; simp only [AT]; refine ⟨by simp only [l78 W0 k0,and_self],trivial,?_⟩; rw [jm]; refine ⟨k0.trans k2,t2,vr,rfl,by rw [cz]; exact dr,fun b l c e=>Nat.le_trans k0.sz (sK b l c e)⟩
end Go.Ce
namespace Go.Ce
open Go Go.Proofs Go.Proofs.Tryz
theorem Tb (a:Addr):A0 prog 95 (.pointer (some a)) 0=some (.pointer (some ⟨a.block,a.off,none⟩)):=by kernel_rfl
theorem H7 (a:Addr):A0 prog 97 (.pointer (some a)) 0=some (.pointer (some ⟨a.block,a.off,none⟩)):=by kernel_rfl
theorem Yp (a:Addr):A0 prog 97 (.pointer (some a)) 1=some (.pointer (some ⟨a.block,a.off+1,none⟩)):=by kernel_rfl
theorem jr (n:Nat) (h:n<1000000000000000000):AU prog .shr 3 true (.int .i64 n) (.int .u64 7)=some (.int .i64 ((n / 128:Nat):Int)):=by
 have h1:AU prog .shr 3 true (.int .i64 n) (.int .u64 7)=some (.int .i64 ((n:Int).fdiv (2 ^ (min (7:Int).toNat 64)))):=by kernel_rfl
 rw [h1]; congr 2; have:((2:Int) ^ (min (7:Int).toNat 64))=((128:Nat):Int):=by decide
 rw [this,Int.fdiv_eq_ediv_of_nonneg _ (by omega)]; omega
structure Ks (W:CW) (wb:Nat) (rest:List Value) (vb:Value) (bs:List Int):Prop where
 b:As W wb 97 (vb::rest)
 own:DU W 5 1 vb (BB bs)
def hY (wb:Nat) (vb:Value) (j:Nat):Prop:=j=wb∨BV vb j
def Mh (wb:Nat) (rest:List Value) (vb:Value) (bs:List Int) (W:CW):Ending→CW→Prop:=fun e W'=>(∃ v,e=.returned v)∧Bq (hY wb vb) W W'∧Al W'∧∃ H8,Ks W' wb rest H8 bs∧∀ j,BV H8 j→BV vb j∨W.sz≤j
theorem Ks.ld {W:CW} {wb:Nat} {rest:List Value} {vb:Value} {bs:List Int} (h:Ks W wb rest vb bs):Go.Ce.ld prog 29 (.pointer (some ⟨wb,0,none⟩)) W=some vb:=AB a29 (a:=⟨wb,0,none⟩) (h.b.cell rfl)
theorem OY {wb:Nat} {rest:List Value} {vb lG sL:Value} {bs:List Int} {W W1 W2:CW} (c1:Bq (hY wb vb) W W1) (n1:∀ j,BV lG j→BV vb j∨W.sz≤j) (c2:Bq (hY wb lG) W1 W2) (n2:∀ j,BV sL j→BV lG j∨W1.sz≤j):Bq (hY wb vb) W W2∧∀ j,BV sL j→BV vb j∨W.sz≤j:=by
 have h1:=c1.sz
 refine ⟨c1.then c2 fun j hj hS=>?_,fun j hj=>?_⟩
 ·rcases hS with h | h
  ·exact .inl h
  ·rcases n1 j h with h | h
   ·exact .inr h
   ·omega
 ·rcases n2 j hj with h | h
  ·exact n1 j h
  ·exact .inr (by omega)
theorem hZ {W:CW} (ht:Al W) {wb:Nat} {rest:List Value} {vb:Value} {bs:List Int} (hb:Ks W wb rest vb bs) {n:Int} (hl:bs.length<900000) {K:Value→CW→Value→CW→CW→Prop}
  (hk:∀ u Wa v1 W1 W2,Bq (hY wb vb) W W2→Al W2→Ks W2 wb rest v1 (bs++[n])→(∀ j,BV v1 j→BV vb j∨W.sz≤j)→K u Wa v1 W1 W2) :
  Bw (V3 prog 29 1 [(0,.int .u8 n)] W) fun u Wa=>Bw (app prog [29,29] vb u Wa) fun v1 W1=>wV (CE prog 29 (.pointer (some ⟨wb,0,none⟩)) v1 W1) fun W2=>K u Wa v1 W1 W2:=by
 refine NA RD s5 z5 rfl (by omega) by5 (by omega) (tZ _) rfl rfl ht hb.own (by rw [ET]; omega) fun u Wa v1 W1 ka ta L6 t1 o1 n1=>?_; have Dm:=Wy hb.own hb.b (by decide); have WT:=L6.HR ht hb.b Dm; refine Af (vs:=vb::rest) s29 (a:=⟨wb,0,none⟩) (OO o1) WT (by simp) fun W2 hu Nd=>?_; have hu:DO wb W1 W2:=hu; have Nd:As W2 wb 97 (v1::rest):=by simpa [putAt] using Nd
 have Nb:CC W.sz v1:=n1 _ (Nat.le_refl _); have Vc:=hb.b.lt ht; have nX:=L6.sz
 refine hk _ _ _ _ W2 ⟨by rw [hu.sz]; omega,fun j hj hS=>?_⟩ (t1.A5 (by omega) hu) ⟨Nd,?_⟩ fun j hj=>.inr (Nb.in hj)
 ·rw [hu.obj j fun e=>hS (.inl e)]; exact L6.EG.obj j hj fun h=>hS (.inr h)
 ·rw [Ut]; exact LY o1 hu fun b l c e=>by have:=Nb b l c e; omega
theorem Io {fn:Func} (hr:fn.results.toList=[]) (Q:Ending→CW→Prop) (x:Exit) (hx:x=.normal∨x=.ret) (e:Env) (W:CW) (h:Q (.returned (.tuple #[])) W):AI prog fn Q x e [] W:=by
 rcases hx with rfl | rfl <;> simp only [AI,CB,hr,IQ] <;> exact h
theorem Th {wb:Nat} {rest:List Value} {vb:Value} {bs:List Int} {n:Nat} {W:CW} (ht:Al W) (hb:Ks W wb rest vb bs) (hn:n<100000000000000) (hl:bs.length<800000) :
  AF prog AV 55 [.pointer (some ⟨wb,0,none⟩),.int .i64 n] W (Mh wb rest vb (bs++B0 n) W):=by
 refine AB' ?_; rw [AB9]
 refine eQ (fun k e ds W'=>ds=[]∧∃ (m:Nat) (pre:List Int) (H8:Value),k=m∧m≤n∧e 0=.pointer (some ⟨wb,0,none⟩)∧e 1=.int .i64 m∧Bq (hY wb vb) W W'∧Al W'∧Ks W' wb rest H8 (bs++pre)∧(∀ j,BV H8 j→BV vb j∨W.sz≤j)∧pre++B0 m=B0 n) n
  ⟨rfl,n,[],vb,rfl,Nat.le_refl _,rfl,rfl,.refl _ _,ht,by simpa using hb,fun j hj=>.inl hj,rfl⟩ ?_
 rintro k e ds W' ⟨rfl,m,pre,H8,rfl,uE,h0,h1,HI,t',cX,Vq,Bj⟩; have gI:(pre++B0 k).length≤8:=by rw [Bj]; exact Di hn
 rw [List.length_append] at gI; rw [x8,h0,h1]; simp only [HM,AA]
 refine AP (fun hg=>?_) (fun hg=>?_)
 ·have hg:¬k<128:=by have:=of_decide_eq_true hg; omega
  have hnk:B0 k=((k % 128+128:Nat):Int)::B0 (k / 128):=by rw [B0,if_neg hg]
  rw [Uf _ _ _ (by omega)]; have e1:(k:Int).tmod 128=((k % 128:Nat):Int):=by rw [Int.tmod_eq_emod_of_nonneg (by omega)]; omega
  rw [e1]; simp only [CO,Tb,AA,cX.ld,Az]; rw [wrap64 (by omega) (by omega),tc,td (by omega) (by omega)]; simp only [AA]; refine hZ t' cX (by rw [List.length_append]; omega) fun u Wa v1 W1 W2 c2 t2 Nd n2=>?_; simp only [oD,B_,tKn]; simp only [Ao,BC,Nat.reduceEqDiff,↓reduceIte,h1]; rw [jr k (by omega)]; simp only [AA]; obtain ⟨c3,n3⟩:=OY (rest:=rest) (bs:=bs) HI Vq c2 n2
  refine ⟨k / 128,by omega,trivial,k / 128,pre++[((k % 128+128:Nat):Int)],v1,rfl,by omega,?_,?_,c3,t2,?_,n3,?_⟩
  ·simp only [h0]
  ·rfl
  ·rw [←List.append_assoc]; simpa using Nd
  ·rw [List.append_assoc,List.singleton_append,←hnk,Bj]
 ·have hg:k<128:=by have:=of_decide_eq_false hg; omega
  have hnk:B0 k=[(k:Int)]:=by rw [B0,if_pos hg]
  simp only [B_,Va,M6,tKx,if_true,oC]; simp only [Ao,BC,Nat.reduceEqDiff,↓reduceIte,h0,h1]; simp only [CO,Tb,AA,cX.ld]; rw [tc,td (by omega) (by omega)]; simp only [AA]; refine hZ t' cX (by rw [List.length_append]; omega) fun u Wa v1 W1 W2 c2 t2 Nd n2=>?_; obtain ⟨c3,n3⟩:=OY (rest:=rest) (bs:=bs) HI Vq c2 n2; refine Io (by kernel_rfl) _ _ (.inl rfl) _ _ ⟨⟨_,rfl⟩,c3,t2,v1,?_,n3⟩; rw [←Bj,hnk,←List.append_assoc]; exact Nd
theorem yL:HF prog 9=true:=by kernel_rfl
theorem Yq (s:ByteArray):C0 ((sb s).take s.size)=BB (Hj s):=by
 rw [List.take_of_length_le (by rw [M']; exact Nat.le_refl _)]; unfold C0 BB Hj; rw [List.map_map]; rfl
theorem oM {wb:Nat} {rest:List Value} {vb:Value} {bs:List Int} {s:ByteArray} {W:CW} (ht:Al W) (hb:Ks W wb rest vb bs) (TB:0<s.size) (hs:s.size<1000) (hl:bs.length<700000) :
  AF prog AV 57 [.pointer (some ⟨wb,0,none⟩),.string s] W (Mh wb rest vb (bs++GZ s) W):=by
 refine ACC ?_; rw [ACB,KQ u9]; simp only [AA]; refine (Th (n:=s.size) ht hb (by omega) (by omega)).mono fun en W1 ⟨⟨v,he⟩,c1,t1,lG,WT,n1⟩=>?_; subst he; simp only [AT,CO,Tb,AA,WT.ld]; have h8:=Di (n:=s.size) (by omega); have jU:(Hj s).length=s.size:=by unfold Hj; rw [List.length_map,M']
 refine gp (x:=.string s) (m:=s.size) (news:=BB (Hj s)) RD yL s5 z5 rfl (by omega) by5 (by omega) t1 WT.own rfl TB ?_ (Uu _) (by rw [ET,jU]; omega) (by rw [ET,List.length_append]; omega) fun W2 len hg hlen hB=>?_
 ·show cond (Nat.beq 1 1) (some (C0 ((sb s).take s.size))) none=_; rw [Yq]; rfl
 ·have Dm:=Wy WT.own WT.b (by decide); have AEj:=WT.b.lt t1; have Nd:As W2 wb 97 (lG::rest):=WT.b.congr (hg.obj wb AEj fun b l c e=>(Dm b l c e).symm); refine Af (vs:=lG::rest) s29 (a:=⟨wb,0,none⟩) rfl Nd (by simp) fun W3 hu jh=>?_; have hu:DO wb W2 W3:=hu; have jh:As W3 wb 97 (.slice (some ⟨W1.sz,0,none⟩) len len::rest):=by simpa [putAt] using jh
  have Gp:=hg.sz; have yH:=WT.b.lt t1
  have o3:DU W3 5 1 (.slice (some ⟨W1.sz,0,none⟩) len len) (BB (bs++GZ s)):=by
   have:BB (bs++GZ s)=BB (bs++B0 s.size)++BB (Hj s):=by
    unfold GZ; rw [←List.append_assoc,Ut]
   rw [this]; exact DU.some (hB.congr (hu.obj _ (by omega))) hlen
  have c2:Bq (hY wb lG) W1 W3:=⟨by rw [hu.sz]; omega,fun j hj hS=>by
   rw [hu.obj j fun e=>hS (.inl e)]
   exact hg.obj j hj fun b l c e hbj=>hS (.inr ⟨b,l,c,e,hbj.symm⟩)⟩
  obtain ⟨c3,n3⟩:=OY (sL:=.slice (some ⟨W1.sz,0,none⟩) len len) (rest:=rest) (bs:=bs) c1 n1 c2 (fun j hj=>.inr (by obtain ⟨b,l,c,e,rfl⟩:=hj; cases e; exact Nat.le_refl _)); refine Io (by kernel_rfl) _ _ (.inl rfl) _ _ ⟨⟨_,rfl⟩,c3,?_,_,⟨jh,o3⟩,n3⟩; exact (hg.top t1).A5 (by omega) hu
theorem oN {wb:Nat} {rest:List Value} {vb:Value} {bs:List Int} {n:Int} {W:CW} (ht:Al W) (hb:Ks W wb rest vb bs) (h1:-4000000000000≤n) (h2:n≤4000000000000) (hl:bs.length<700000) :
  AF prog AV 106 [.pointer (some ⟨wb,0,none⟩),.int .i64 n] W (Mh wb rest vb (bs++B0 (Km n).toNat) W):=by
 refine yE ?_; rw [yD]; simp only [A7,AA]
 have fin:∀ (z:Nat),Km n=(z:Int)→AF prog AV 55 [.pointer (some ⟨wb,0,none⟩),.int .i64 z] W (Mh wb rest vb (bs++B0 (Km n).toNat) W):=fun z hz=>by
  rw [hz,Int.toNat_natCast]; refine Th ht hb ?_ (by omega); unfold Km at hz; split at hz <;> omega
 refine AP (fun h=>?_) (fun h=>?_)
 ·have h:n<0:=of_decide_eq_true h; simp only [CO,H7,AA,aD,D7]; rw [wrap64 (x:=-2*n) (by omega) (by omega),wrap64 (x:=-2*n-1) (by omega) (by omega)]; obtain ⟨z,hz⟩:∃ z:Nat,-2*n-1=(z:Int):=⟨(-2*n-1).toNat,by omega⟩
  rw [hz]; refine (fin z (by unfold Km; rw [if_pos h,hz])).mono fun en W1 hp=>?_; obtain ⟨v,rfl⟩:=hp.1; simp only [AT]; exact Io (by kernel_rfl) _ _ (.inl rfl) _ _ ⟨⟨_,rfl⟩,hp.2⟩
 ·have h:¬n<0:=of_decide_eq_false h; simp only [CO,H7,AA,aD]; rw [wrap64 (x:=2*n) (by omega) (by omega)]; obtain ⟨z,hz⟩:∃ z:Nat,2*n=(z:Int):=⟨(2*n).toNat,by omega⟩
  rw [hz]; refine (fin z (by unfold Km; rw [if_neg h,hz])).mono fun en W1 hp=>?_; obtain ⟨v,rfl⟩:=hp.1; simp only [AT]; exact Io (by kernel_rfl) _ _ (.inl rfl) _ _ ⟨⟨_,rfl⟩,hp.2⟩
theorem uF:agg? prog 89=some false:=by kernel_rfl
theorem sM {wb bw rp:Nat} {rest:List Value} {vb vo:Value} {bs o:List Int} {n:Int} {W:CW} (ht:Al W) (hb:Ks W wb (.pointer (some ⟨bw,0,none⟩)::rest) vb bs) (hw:Mg W bw rp vo o) (dU:o.length<100000) (hl:bs.length<700000) :
  AF prog AV 107 [.pointer (some ⟨wb,0,none⟩),.int .i64 n] W (Mh wb (.pointer (some ⟨bw,0,none⟩)::rest) vb (bs++B0 (placeOf o n).toNat) W):=by
 refine yG ?_; rw [yF]; have q1:ld prog 89 (.pointer (some ⟨wb,0+1,none⟩)) W=some (.pointer (some ⟨bw,0,none⟩)):=AB uF (a:=⟨wb,0+1,none⟩) (hb.b.cell rfl); have q2:ld prog 98 (.pointer (some ⟨bw,0+1,none⟩)) W=some (.map (some rp)):=AB a98 (a:=⟨bw,0+1,none⟩) (hw.w.cell rfl); have hp:=OR o n; obtain ⟨z,hz⟩:∃ z:Nat,placeOf o n=(z:Int):=⟨(placeOf o n).toNat,by omega⟩
 simp only [CO,H7,Yp,AA,q1,PZ,q2,hw.p.look]; rw [hz,Int.toNat_natCast]; refine (Th (n:=z) ht hb (by omega) (by omega)).mono fun en W1 hpp=>?_; obtain ⟨v,rfl⟩:=hpp.1; simp only [AT]; refine ⟨by simp only [and_self],trivial,?_⟩; exact Io (by kernel_rfl) _ _ (.inl rfl) _ _ ⟨⟨_,rfl⟩,hpp.2⟩
end Go.Ce
namespace Go.Ce
open Go Go.Proofs Go.Proofs.Tryz
theorem U_ {v:Value} {l:List ByteArray} {s:ByteArray} {W:CW} (hc:Ax 1 (ABA W) v l) (hlen:l.length<1000000):AF prog AV 61 [v,.string s] W (Nu (.int .i64 (Ib l fun x=>decide (x=s))) W):=by
 refine ACK ?_; rw [ACJ]; obtain ⟨a,cap,rfl,BI⟩:=hc; simp only [Ah p9,AA]; refine D8 (fun i e ds W'=>W'=W∧ds=[]∧e 0=.slice a l.length cap∧e 1=.string s∧e 7=.int .i64 l.length∧e 8=.int .i64 i∧∀ j x,j<i→l[j]?=some x→decide (x=s)=false) l.length ⟨rfl,rfl,rfl,rfl,rfl,rfl,by omega⟩ ?_; rintro i e ds W' hi ⟨rfl,rfl,h0,h1,h7,h8,Bj⟩; rw [yC,h0,h1,h7,h8]; simp only [A7,AA]
 refine G6 (fun Au=>?_) (fun Of=>?_)
 ·have hx:=List.getElem?_eq_getElem Au; obtain ⟨p,rfl,hp⟩:=BI i _ hx; rw [A8 p9 s9 Au]; simp only [AA]; rw [AB a9 (a:=⟨p.block,p.off+i*1,none⟩) hp]; simp only [AA,Wv,PF]
  refine AP (fun hq=>?_) (fun hq=>?_)
  ·have hq:s=l[i]:=by simpa using hq
   simp only [Yo,Lm,Sz,HB,Vb,fT,XM]; refine ⟨?_,rfl⟩; simp only [Ao,↓reduceIte]; rw [KT Au (by simp [hq]) Bj]
  ·have hq:¬s=l[i]:=by simpa using hq
   simp only [Yo,B_,HB]; simp only [Ao,BC,Nat.reduceEqDiff,↓reduceIte,h0,h1,h7,h8,Az,AA]; refine ⟨Au,trivial,trivial,trivial,trivial,trivial,by rw [Du (by omega)],fun j x hj KW=>?_⟩
   rcases Nat.lt_succ_iff_lt_or_eq.1 hj with h2 | rfl
   ·exact Bj j x h2 KW
   ·rw [hx] at KW; cases KW; exact decide_eq_false fun e=>hq e.symm
 ·simp only [B_,Va,M6,PJ,if_true,fT,XM]; refine ⟨?_,rfl⟩; simp only [Ao,↓reduceIte]; rw [KU fun j x hj hx=>Bj j x (by omega) hx]
theorem Nz {v:Value} {l:List ByteArray} {s:ByteArray} {W:CW} (hc:Ax 1 (ABA W) v l) (hlen:l.length<1000000):AF prog AV 54 [v,.string s] W (Nu (.bool (l.any fun x=>decide (x=s))) W):=by
 refine AB8 ?_; rw [AB7]; refine D0 (U_ hc hlen) ?_; simp only [HM,AA,jn]; refine ⟨?_,rfl⟩; simp only [Ao,↓reduceIte]; congr 2
 cases h:l.any fun x=>decide (x=s) with
 | false=>exact decide_eq_false (by have:=aU.2 h; omega)
 | true =>
  refine decide_eq_true ?_; have:¬Ib l (fun x=>decide (x=s))<0:=fun hn=>by rw [aU.1 hn] at h; cases h
  omega
structure WA where
 A:CW
 (bk br bh lH H9 bd wb bw rp r1 r2 w r:Nat)
 (vt vo:Value)
 bdt:TypeId
 dvs:List Value
 c:List Ad
 l:List Bc
 h:List BM
 o:List Int
 ts:List ByteArray
def WA.rest (p:WA):List Value:=[.pointer (some ⟨p.bw,0,none⟩),.map (some p.r1),.map (some p.r2)]
structure DT (p:WA) (W:CW) (vb:Value) (bs:List Int):Prop where
 kp:Kp p.A W
 top:Al W
 tA:Al p.A
 d:U' p.A p.bk p.br p.bh p.r1 p.r2 p.w p.r p.c p.l p.h
 wk:Mg W p.bw p.rp p.vo p.o
 wv:As W p.lH 88 [.pointer (some ⟨p.wb,0,none⟩)]
 ty:As W p.H9 51 [p.vt]
 sN:DU W 9 1 p.vt (strs p.ts)
 dv:As W p.bd p.bdt p.dvs
 dvn:p.bdt≠97∧p.bdt≠5
 buf:Ks W p.wb p.rest vb bs
 ge:p.A.sz≤p.wb∧∀ j,BV vb j→p.A.sz≤j
def WA.Has (p:WA) (vb:Value) (i:Nat):Prop:=i=p.bw∨i=p.rp∨BV p.vo i∨i=p.lH∨i=p.H9∨BV p.vt i∨i=p.bd∨i=p.wb∨BV vb i
theorem N0 {W W':CW} {el n:Nat} {v:Value} {cs:List Value} (h:DU W el n v cs) (ho:∀ i,BV v i→W'.obj i=W.obj i):DU W' el n v cs:=by
 cases h with
 | nil=>exact DU.nil
 | some hB hl=>exact DU.some (hB.congr (ho _ ⟨_,_,_,rfl,rfl⟩)) hl
theorem DT.of {p:WA} {W W':CW} {vb:Value} {bs:List Int} (h:DT p W vb bs) (hk:Kp p.A W') (ht:Al W') (ho:∀ i,p.Has vb i→W'.obj i=W.obj i):DT p W' vb bs :=
 ⟨hk,ht,h.tA,h.d,⟨h.wk.w.congr (ho _ (.inl rfl)),N0 h.wk.own fun i hi=>ho i (.inr (.inr (.inl hi))),h.wk.p.congr (ho _ (.inr (.inl rfl)))⟩,h.wv.congr (ho _ (.inr (.inr (.inr (.inl rfl))))),h.ty.congr (ho _ (.inr (.inr (.inr (.inr (.inl rfl)))))),N0 h.sN fun i hi=>ho i (.inr (.inr (.inr (.inr (.inr (.inl hi)))))),h.dv.congr (ho _ (.inr (.inr (.inr (.inr (.inr (.inr (.inl rfl)))))))),h.dvn,⟨h.buf.b.congr (ho _ (.inr (.inr (.inr (.inr (.inr (.inr (.inr (.inl rfl))))))))),N0 h.buf.own fun i hi=>ho i (.inr (.inr (.inr (.inr (.inr (.inr (.inr (.inr hi)))))))) ⟩,h.ge⟩
theorem DT.lt {p:WA} {W:CW} {vb:Value} {bs:List Int} (h:DT p W vb bs):∀ i,p.Has vb i→i<W.sz:=by
 intro i hi
 rcases hi with rfl | rfl | hi | rfl | rfl | hi | rfl | rfl | hi
 ·exact h.wk.w.lt h.top
 ·exact h.wk.p.lt h.top
 ·exact Nw h.top h.wk.own hi
 ·exact h.wv.lt h.top
 ·exact h.ty.lt h.top
 ·exact Nw h.top h.sN hi
 ·exact h.dv.lt h.top
 ·exact h.buf.b.lt h.top
 ·exact Nw h.top h.buf.own hi
theorem DT.S4 {p:WA} {W W':CW} {vb:Value} {bs:List Int} (h:DT p W vb bs) (k:Kp W W') (ht:Al W'):DT p W' vb bs:=h.of (h.kp.trans k) ht fun i hi=>k.obj i (h.lt i hi)
theorem Bl {W:CW} {b:Nat} {e1 e2:TypeId} {v1 v2:List Value} (h1:As W b e1 v1) (h2:As W b e2 v2):e1=e2:=by
 obtain ⟨c,n,z,h,_⟩:=h1; obtain ⟨c',n',z',h',_⟩:=h2; rw [h] at h'; cases h'; rfl
theorem D3 {W:CW} {el n:Nat} {v:Value} {cs:List Value} (h:DU W el n v cs) {j:Nat} (hj:BV v j):As W j el cs:=by
 obtain ⟨b,l,c,e,rfl⟩:=hj
 cases h with
 | nil=>cases e
 | some hB hl=>cases e; exact hB
theorem Mi {p:WA} {W:CW} {vb:Value} {bs:List Int} (h:DT p W vb bs) {i:Nat} {el:TypeId} {vs:List Value} (hB:As W i el vs) (h1:el≠97) (h2:el≠5):¬hY p.wb vb i:=by
 rintro (rfl | hi)
 ·exact h1 (Bl hB h.buf.b)
 ·exact h2 (Bl hB (D3 h.buf.own hi))
theorem DT.emit {p:WA} {W W':CW} {vb H8:Value} {bs h_:List Int} (h:DT p W vb bs) (hc:Bq (hY p.wb vb) W W') (ht:Al W') (hb:Ks W' p.wb p.rest H8 h_) (hn:∀ j,BV H8 j→BV vb j∨W.sz≤j):DT p W' H8 h_:=by
 have cz:¬hY p.wb vb p.rp:=by
  rintro (e | hi)
  ·exact (h.wk.p.ne h.buf.b) e.symm
  ·exact (h.wk.p.ne (D3 h.buf.own hi)) rfl
 have Gp:=h.kp.sz
 refine ⟨Bq.kp h.kp hc fun j hj=>?_,ht,h.tA,h.d,⟨hc.HR h.top (Mi h h.wk.w (by decide) (by decide)) h.wk.w,hc.own h.top h.wk.own fun j hj=>Mi h (D3 h.wk.own hj) (by decide) (by decide),h.wk.p.congr (hc.obj _ (h.wk.p.lt h.top) cz)⟩,hc.HR h.top (Mi h h.wv (by decide) (by decide)) h.wv,hc.HR h.top (Mi h h.ty (by decide) (by decide)) h.ty,hc.own h.top h.sN fun j hj=>Mi h (D3 h.sN hj) (by decide) (by decide),hc.HR h.top (Mi h h.dv h.dvn.1 h.dvn.2) h.dv,h.dvn,hb,h.ge.1,fun j hj=>?_⟩
 ·rcases hj with rfl | hj
  ·exact h.ge.1
  ·exact h.ge.2 j hj
 ·rcases hn j hj with h1 | h1
  ·exact h.ge.2 j h1
  ·omega
theorem VA {p:WA} {W W':CW} {vb:Value} {bs:List Int} (h:DT p W vb bs) (hc:Bq (hY p.wb vb) W W') {b k:Nat} {n:Int} (BI:W.cell b k=some (.int .i64 n)):W'.cell b k=some (.int .i64 n):=by
 refine hc.cell h.top ?_ BI
 rintro (rfl | hi)
 ·have:=h.buf.b.Ik BI; unfold WA.rest at this
  match k,this with
  | 0,this =>
   have hv:=Option.some.inj this; have ho:=h.buf.own; rw [hv] at ho
   cases ho
  | 1,this=>cases this
  | 2,this=>cases this
  | 3,this=>cases this
 ·have:=(D3 h.buf.own hi).Ik BI; unfold BB at this; rw [List.getElem?_map] at this
  cases hx:bs[k]? with
  | none=>rw [hx] at this; cases this
  | some x=>rw [hx] at this; cases this
def P0 (p:WA) (bs:List Int):Ending→CW→Prop:=fun e W'=>(∃ v,e=.returned v)∧∃ H8,DT p W' H8 bs
theorem DT.num {p:WA} {W:CW} {vb:Value} {bs:List Int} (h:DT p W vb bs) {n:Nat} (hn:n<100000000000000) (hl:bs.length<700000):AF prog AV 55 [.pointer (some ⟨p.wb,0,none⟩),.int .i64 n] W fun e W'=>(∃ v,e=.returned v)∧Bq (hY p.wb vb) W W'∧∃ H8,DT p W' H8 (bs++B0 n)∧∀ j,BV H8 j→BV vb j∨W.sz≤j :=
 (Th h.top h.buf hn (by omega)).mono fun en W1 ⟨hv,c,t,H8,hb,hn⟩=>⟨hv,c,H8,h.emit c t hb hn,hn⟩
theorem oO {p:WA} {W:CW} {vb:Value} {bs:List Int} (h:DT p W vb bs) (Gp:∀ s,s ∈ p.ts→0<s.size∧s.size<1000) (S1:p.ts.length≤100) (jU:bs.length≤100) :
  AF prog AV 56 [.pointer (some ⟨p.wb,0,none⟩),p.vt,.func (.func 57) #[.pointer (some ⟨p.wb,0,none⟩)] #[]] W (P0 p (bs++B0 p.ts.length++p.ts.flatMap GZ)):=by
 refine ACA ?_; rw [AB_]; have ACP:(strs p.ts).length=p.ts.length*1:=by rw [Mb]; omega
 rw [Hl p9 h.sN (by omega) ACP]; simp only [AA]; refine (h.num (n:=p.ts.length) (by omega) (by omega)).mono fun en W1 ⟨⟨v,he⟩,_,lG,h1,_⟩=>?_; subst he; simp only [AT]; rw [Hl p9 h1.sN (by omega) ACP]; simp only [AA]; have h8:=Di (n:=p.ts.length) (by omega); refine D8 (fun i e ds W'=>ds=[]∧∃ H8,DT p W' H8 (bs++B0 p.ts.length++(p.ts.take i).flatMap GZ)∧e 2=.func (.func 57) #[.pointer (some ⟨p.wb,0,none⟩)] #[]∧e 12=p.vt∧e 13=.int .i64 p.ts.length∧e 14=.int .i64 i) p.ts.length ⟨rfl,lG,by simpa using h1,rfl,rfl,rfl,rfl⟩ ?_; rintro i e ds W' hi ⟨rfl,H8,h',g2,oP,g13,g14⟩; rw [x9,g2,oP,g13,g14]; simp only [A7,AA]
 refine G6 (fun Au=>?_) (fun Of=>?_)
 ·have hx:=List.getElem?_eq_getElem Au; obtain ⟨a,cap,oQ,hc⟩:=Hk (f:=fun s=>Value.string s) h'.sN; obtain ⟨q,rfl,hq⟩:=hc i _ hx; rw [oQ,A8 p9 s9 Au]; simp only [AA]; rw [AB a9 (a:=⟨q.block,q.off+i*1,none⟩) hq]; simp only [AA]; obtain ⟨TB,Vs⟩:=Gp _ (List.getElem_mem Au); have Wd:=RJ (p.ts.take i) fun s hs=>(Gp s (List.mem_of_mem_take hs)).2; have jf:(p.ts.take i).length*1008≤100*1008:=Nat.mul_le_mul_right _ (by rw [List.length_take]; omega); refine GY Tryz.func57 (by kernel_rfl) ((oM h'.top h'.buf TB Vs (by rw [List.length_append,List.length_append]; omega)).mono fun en W2 ⟨⟨v,he⟩,c2,t2,sL,Nd,Oe⟩=>?_); subst he; simp only [AT,fR,B_,HB]; simp only [Ao,BC,Nat.reduceEqDiff,↓reduceIte,g14,Az,AA]; refine ⟨Au,trivial,sL,?_,g2,oP.trans (by rw [oQ]) ,g13,by rw [Du (by omega)]⟩; have:=h'.emit c2 t2 Nd Oe; rw [List.take_add_one,hx,List.flatMap_append,←List.append_assoc]
  simpa using this
 ·have SV:p.ts.take i=p.ts:=List.take_of_length_le (by omega); rw [SV] at h'; simp only [M6,PJ,if_true]; exact Io (by kernel_rfl) _ _ (.inl rfl) _ _ ⟨⟨_,rfl⟩,H8,h'⟩
theorem bM:Tryz.f58.results.toList=[.cell 0 108]:=by kernel_rfl
theorem yM:DM prog 108=some 3:=by kernel_rfl
theorem AEk:agg? prog 108=some true:=by kernel_rfl
theorem ACQ:Gm prog 108=some (.agg #[.nilFunc,.nilFunc,.nilFunc]):=by kernel_rfl
theorem yN:QF prog 108 [(1,(.func (.func 106) #[] #[])),(2,(.func (.func 107) #[] #[]))]=some (.agg [.nilFunc,.func (.func 106) #[] #[],.func (.func 107) #[] #[]].toArray):=by kernel_rfl
theorem js {W:CW} (ht:Al W):AF prog AV 58 [] W (rF (.agg [.nilFunc,.func (.func 106) #[] #[],.func (.func 107) #[] #[]].toArray) W):=by
 refine ACE ?_; rw [ACD,yN]; simp only [AA]; refine CZ ACQ yM rfl rfl rfl ht fun W1 k1 t1 z1 hB=>?_; refine LZ bM rfl (BO (vs:=[.nilFunc,.func (.func 106) #[] #[],.func (.func 107) #[] #[]]) (a:=⟨W.sz,0,none⟩) AEk yM rfl (by omega) hB.cells) ?_; exact ⟨rfl,k1,t1⟩
end Go.Ce
namespace Go.Ce
open Go Go.Proofs Go.Proofs.Tryz
theorem oR (b:Nat):EV prog 108 (.pointer (some ⟨b,0,none⟩)) (.int .u8 1)=some (.pointer (some ⟨b,1,none⟩)):=by kernel_rfl
theorem oS (b:Nat):EV prog 108 (.pointer (some ⟨b,0,none⟩)) (.int .u8 2)=some (.pointer (some ⟨b,2,none⟩)):=by kernel_rfl
theorem ACR:agg? prog 107=some false:=by kernel_rfl
theorem a88:agg? prog 88=some false:=by kernel_rfl
theorem a51:agg? prog 51=some false:=by kernel_rfl
theorem GI {W W0:CW} {n:Nat} {z:Array Value} {e:TypeId} (h:W0.obj W.sz=some (.cells .nil n z e)) (hz:CM (some (.cells .nil n z e)) (some (.cells .nil n z e))=true):G5 (.pointer (some ⟨W.sz,0,none⟩)) ((W.new (.cells .nil n z e)).obj W.sz) W0=true:=by
 show CM (W0.obj W.sz) ((W.new (.cells .nil n z e)).obj W.sz)=true; rw [h,BK,if_pos rfl]; exact hz
theorem jt {p:WA} {W:CW} {vb:Value} {bs:List Int} {n:Int} (h:DT p W vb bs) (hC:OP p.c) (Ac:BL p.c=true) (hs:BG p.c p.l=true) (HD:∀ x,x ∈ p.h→BF p.c x p.h.length=true) (Nx:∀ s,s ∈ p.l→s.map.length<100000) (re:p.h.length<100000) (dU:p.o.length<100000) (S1:p.ts.length<100000) {i:Nat} (hn:n=((i+1:Nat):Int)) (G4:i<p.h.length)
  (NU:p.ts.any (fun u=>decide (u=(AL p.l p.h[i]).type))=true) (jU:bs.length≤500000) (hdv:p.dvs=[.nilFunc,.func (.func 106) #[] #[],.func (.func 107) #[] #[]]) :
  AF prog AV 60 [.int .i64 n,.pointer (some ⟨p.br,0,none⟩),.pointer (some ⟨p.bh,0,none⟩),.pointer (some ⟨p.lH,0,none⟩),.pointer (some ⟨p.H9,0,none⟩),.pointer (some ⟨p.bk,0,none⟩),.pointer (some ⟨p.bd,0,none⟩)] W (P0 p (bs++FC p.c p.ts p.o (AL p.l p.h[i]))):=by
 subst hn; refine ACI ?_; rw [ACH]; have kn:Kp W (W.new (.cells .nil 2 #[.string ⟨#[]⟩,.slice none 0 0] 56)):=.new _; have tn:=h.top.new (.cells .nil 2 #[.string ⟨#[]⟩,.slice none 0 0] 56); have I9:(W.new (.cells .nil 2 #[.string ⟨#[]⟩,.slice none 0 0] 56)).obj W.sz=some (.cells .nil 2 #[.string ⟨#[]⟩,.slice none 0 0] 56):=by rw [BK,if_pos rfl]
 have iA:As (W.new (.cells .nil 2 #[.string ⟨#[]⟩,.slice none 0 0] 56)) W.sz 56 [.string ⟨#[]⟩,.slice none 0 0]:=⟨.nil,2,_,I9,rfl,fun k v hk=>by
  match k,hk with
  | 0,hk=>cases hk; rfl
  | 1,hk=>cases hk; rfl⟩
 have bN:(W.new (.cells .nil 2 #[.string ⟨#[]⟩,.slice none 0 0] 56)).sz=W.sz+1:=rfl; have My:∀ W0:CW,W0.obj W.sz=some (.cells .nil 2 #[.string ⟨#[]⟩,.slice none 0 0] 56)→G5 (.pointer (some ⟨W.sz,0,none⟩)) ((W.new (.cells .nil 2 #[.string ⟨#[]⟩,.slice none 0 0] 56)).obj W.sz) W0=true:=fun W0 h0=>GI h0 rfl; have Vq:=h.S4 kn tn; generalize hWn:W.new (.cells .nil 2 #[.string ⟨#[]⟩,.slice none 0 0] 56)=Wn at kn tn I9 iA bN My Vq ⊢; have D:=Vq.d.kp h.tA Vq.kp; obtain ⟨vh,hbh,hh⟩:=D.hs; have hx:=List.getElem?_eq_getElem G4; obtain ⟨ah,ch,rfl,oL⟩:=id hh; obtain ⟨q,rfl,hq⟩:=oL i _ hx; have l83:ld prog 83 (.pointer (some ⟨p.br,0,none⟩)) Wn=some (.agg [.map (some p.w),.map (some p.r)].toArray):=BO (vs:=[.map (some p.w),.map (some p.r)]) (a:=⟨p.br,0,none⟩) a83 np rfl (by omega) D.rl; have jq:ld prog 24 (.pointer (some ⟨p.bh,0,none⟩)) Wn=some (.slice (some q) p.h.length ch):=AB n9 (a:=⟨p.bh,0,none⟩) hbh; obtain ⟨vx,hu,RR,ACO⟩:=eX tn (.refl _) hq; rw [l83,jq]; simp only [AA,D7]; rw [show ((i+1:Nat):Int)-1=(i:Nat) by omega,wrap64 (by omega) (by omega),A8 Vg Ia G4]; simp only [AA,hu]; have ACS:=HD _ (List.getElem_mem G4); refine (oI (r:=p.r) tn D.sp RR (MZ hs ACS) Nx).mono fun en W0 ⟨k0,t0,vv,Ef,Vo,WQ⟩=>?_; subst Ef; simp only [AT]; have hyt:=CJ hs ACS; obtain ⟨iy,sy,Y⟩:=DK hyt; generalize hy:AL p.l p.h[i]=y at Vo hyt Y NU ⊢; obtain ⟨av,cv,rfl,_⟩:=id Vo; have AEl:W.sz<Wn.sz:=by omega
 have XG:=iA.ext tn k0; refine ⟨trivial,?_⟩; refine DF Ia (a:=⟨W.sz,0,none⟩) (ws:=[.string y.type,.slice av y.AH.length cv]) rfl rfl XG (by simp) fun W2 K1 GK=>?_; have K1:DO W.sz W0 W2:=K1; have GK:As W2 W.sz 56 [.string y.type,.slice av y.AH.length cv]:=GK; refine ⟨by simp only [and_self],⟨⟨trivial,My W0 (by rw [k0.obj _ AEl]; exact I9),My Wn I9⟩,trivial⟩,?_⟩; have hpA:=h.kp.sz; have Au:=h.lt; have AEm:=XG.lt t0; have E2:DT p W2 vb bs:=(Vq.S4 k0 t0).of ((Vq.kp.trans k0).A5 hpA K1) (t0.A5 AEm K1) fun i hi=>K1.obj i (by have:=Au i hi; omega)
 have QY:Ax 1 (De W2) (.slice av y.AH.length cv) y.AH:=Vo.imp fun b o x hr=>⟨by
  by_cases hb:b=W.sz
  ·subst hb; have:=XG.Ik hr.1
   match o,this with
   | 0,this=>cases this
   | 1,this=>cases this
  ·rw [K1.cell hb]; exact hr.1,hr.2⟩
 have hkW:∀ i,p.Has vb i→i<W.sz:=Au; clear Vo XG My WQ iA I9; have qF:∀ W' H8 h_,DT p W' H8 h_→ld prog 88 (.pointer (some ⟨p.lH,0,none⟩)) W'=some (.pointer (some ⟨p.wb,0,none⟩)):=fun W' H8 h_ E=>AB a88 (a:=⟨p.lH,0,none⟩) (E.wv.cell rfl); have q51:∀ W' H8 h_,DT p W' H8 h_→ld prog 51 (.pointer (some ⟨p.H9,0,none⟩)) W'=some p.vt:=fun W' H8 h_ E=>AB a51 (a:=⟨p.H9,0,none⟩) (E.ty.cell rfl); have q9:∀ W',As W' W.sz 56 [.string y.type,.slice av y.AH.length cv]→ld prog 9 (.pointer (some ⟨W.sz,0,none⟩)) W'=some (.string y.type):=fun W' hB=>AB a9 (a:=⟨W.sz,0,none⟩) (hB.cell rfl); have q40:∀ W',As W' W.sz 56 [.string y.type,.slice av y.AH.length cv]→ld prog 40 (.pointer (some ⟨W.sz,0+1,none⟩)) W'=some (.slice av y.AH.length cv):=fun W' hB=>AB M7 (a:=⟨W.sz,0+1,none⟩) (hB.cell rfl); simp only [qF W2 _ _ E2,q51 W2 _ _ E2,CO,H7,F1,AA,q9 W2 GK]; refine D0 (U_ (Hk (f:=fun s=>Value.string s) E2.sN) (by omega)) ?_
 obtain ⟨z,hz,mC⟩:∃ z:Nat,Ib p.ts (fun x=>decide (x=y.type))=(z:Int)∧z<100000:=by
  unfold Ib
  cases hf:p.ts.findIdx? (fun x=>decide (x=y.type)) with
  | none =>
   rw [List.findIdx?_eq_none_iff] at hf; obtain ⟨u,hu,Vi⟩:=List.any_eq_true.1 NU; rw [hf u hu] at Vi; cases Vi
  | some i =>
   have:=(List.findIdx?_eq_some_iff_getElem.1 hf).1; exact ⟨i,rfl,by omega⟩
 rw [hz]; refine (E2.num (n:=z) (by omega) (by omega)).mono fun en W5 ⟨⟨ve,Ef⟩,c5,vb5,E5,n5⟩=>?_; subst Ef; simp only [AT]; have I3:=c5.HR E2.top (Mi E2 GK (by decide) (by decide)) GK; have hv5:Ax 1 (De W5) (.slice av y.AH.length cv) y.AH:=QY.imp fun b o x hr=>⟨VA E2 c5 hr.1,hr.2⟩
 have D5:=E5.d.kp E5.tA E5.kp; refine ⟨by simp only [true_and,and_true]; exact qF W2 _ _ E2,?_⟩; have Bz:=aS Ac Y.si Y.many; have AGQ:=Di (n:=z) (by omega); have AEo:=Di (n:=y.AH.length) (by omega); obtain ⟨ea,eb,ef,eg,N8⟩:=D5.cat.sh.elem Y.ti
 have HD:FC p.c p.ts p.o y=B0 z++(if elemAt p.c iy≠0 then B0 y.AH.length else [])++F9 p.c p.o iy y.AH y.AH.length:=by
  unfold FC; rw [Y.ti]; simp only [hz,Int.toNat_natCast]
 rw [HD]; generalize Jq:AI prog Tryz.f60 (P0 p (bs++(B0 z++(if elemAt p.c iy≠0 then B0 y.AH.length else [])++F9 p.c p.o iy y.AH y.AH.length)))=KK
 have k9:∀ (W6:CW) (vb6:Value) (e:Env),DT p W6 vb6 (bs++B0 z++(if elemAt p.c iy≠0 then B0 y.AH.length else []))→As W6 W.sz 56 [.string y.type,.slice av y.AH.length cv]→Ax 1 (De W6) (.slice av y.AH.length cv) y.AH→e 3=.pointer (some ⟨p.lH,0,none⟩)→e 5=.pointer (some ⟨p.bk,0,none⟩)→e 6=.pointer (some ⟨p.bd,0,none⟩)→e 8=.pointer (some ⟨W.sz,0,none⟩)→(Yn none KK) .normal e [] W6:=by
  intro W6 vb6 e E6 Is hv6 g3 g5 g6 g8; have D6:=E6.d.kp E6.tA E6.kp; simp only [Yn,B_,g5,g8]; rw [BO (vs:=[.map (some p.r1),.map (some p.r2)]) (a:=⟨p.bk,0,none⟩) lC NV rfl (by omega) D6.k,BO (vs:=[.string y.type,.slice av y.AH.length cv]) (a:=⟨W.sz,0,none⟩) YX Ia rfl (by omega) Is.cells]; simp only [AA]; refine (Mf (r1:=p.r1) (r2:=p.r2) (ty:=y.type) E6.top).mono fun en W8 ⟨k8,t8,bk',bx,Ef,Y7,hbx,fP,fQ⟩=>?_; subst Ef; simp only [AT]; have AEP:=fP.lt t8; have AEQ:=fQ.lt t8; have h68:=k8.sz; have AGR:=Is.lt E6.top; have AEp:=E6.lt
  refine TZ (bk:=bk') (bx:=bx) (r1:=p.r1) (r2:=p.r2) (n:=y.AH.length) (ix:=iy) (c:=p.c) (ty:=y.type) (a1:=9) (a2:=10) t8 rfl Y.ti (by omega) (fun he=>by
     have:=Gf Y.si he Y.many; omega) (fun ro e0 ds K W=>by rw [yA]) (by decide)
    (fun j W'=>∃ H8,DT p W' H8 (bs++B0 z++(if elemAt p.c iy≠0 then B0 y.AH.length else [])++F9 p.c p.o iy y.AH j)∧As W' W.sz 56 [.string y.type,.slice av y.AH.length cv]∧As W' bk' 78 [.map (some p.r1),.map (some p.r2)]∧As W' bx 56 [.string y.type,.slice av y.AH.length cv]∧Ax 1 (De W') (.slice av y.AH.length cv) y.AH∧W'.obj W8.sz=some .deferred∧W8.sz+1<W'.sz∧∀ i,p.Has H8 i→i≠W8.sz∧i≠W8.sz+1)
    (fun _ _=>False)
    (fun j W' ⟨H8,E,b1,b2,b3,v,d,z,n⟩=>⟨b2.cell rfl,b2.cell rfl,(E.d.kp E.tA E.kp).cat,b3.cell rfl,_,_,b3.cell rfl⟩) (fun j W1 W2 ⟨H8,E,b1,b2,b3,v,d,z,n⟩ hu hc=>?_) (fun _ _ _ hf=>hf.elim) (fun W2 k2 t2 z2 hd=>?_) (fun j W1 Kb E hE x3 x4 hj ⟨H8,E',b1,b2,b3,v,d,zl,n⟩ hlo hn hr hx=>?_) (fun W' ⟨H8,E,b1,b2,b3,v,d,zl,n⟩=>?_) (fun _ _ hf=>hf.elim)
  ·have h1:=E.kp.sz; have hpw:p.A.sz≤W8.sz+1:=by have:=E6.kp.sz; omega
   exact ⟨H8,E.of (E.kp.A5 hpw hu) (E.top.A5 z hu) (fun i hi=>hu.obj i (n i hi).2),b1.congr (hu.obj _ (by omega)),b2.congr (hu.obj _ (by omega)),b3.congr (hu.obj _ (by omega)),v.imp fun b o x hr=>⟨hc _ _ _ hr.1,hr.2⟩,by rw [hu.obj _ (by omega)]; exact d,by rw [hu.sz]; exact z,n⟩
  ·have k62:=k8.trans k2
   refine ⟨vb6,?_,Is.ext E6.top k62,fP.ext t8 k2,fQ.ext t8 k2,hv6.imp fun b o x hr=>hr.kp E6.top k62,hd,by omega,fun i hi=>?_⟩
   ·have:=E6.S4 k62 t2
    simpa [F9] using this
   ·have:=AEp i hi; omega
  ·have fG:=List.getElem?_eq_getElem hj; obtain ⟨_,_,e3,hvc⟩:=id v
   cases e3
   obtain ⟨q,rfl,hq⟩:=hvc j _ fG; have gg3:=(hE 3 (by decide) (by decide) (by decide) (by decide)).trans g3; have gg6:=(hE 6 (by decide) (by decide) (by decide) (by decide)).trans g6; have gg8:=(hE 8 (by decide) (by decide) (by decide) (by decide)).trans g8; have l3:ld prog 3 (.pointer (some ⟨q.block,q.off+j*1,none⟩)) W1=some (.int .i64 y.AH[j]):=AB a3 (a:=⟨q.block,q.off+j*1,none⟩) hq.1
   have fU:=OQ (c:=p.c) (o:=p.o) (i:=iy) (vs:=y.AH) dU (fun k n hx hk=>by
    rcases Ii Ac Y hx with h | h
    ·exact (hk h.1).elim
    ·exact h.2) j
   have QD:(if elemAt p.c iy≠0 then B0 y.AH.length else []).length≤8:=by split <;> simp [AEo]
   have Ty:(bs++B0 z++(if elemAt p.c iy≠0 then B0 y.AH.length else [])++F9 p.c p.o iy y.AH j).length<700000:=by
    rw [List.length_append,List.length_append,List.length_append]; omega
   have iB:∀ (e':Env) (DN:List Deferred) (W3:CW) (uG:Value),Bq (hY p.wb H8) W1 W3→Al W3→Ks W3 p.wb p.rest uG (bs++B0 z++(if elemAt p.c iy≠0 then B0 y.AH.length else [])++F9 p.c p.o iy y.AH j++RI p.o (A6 p.c iy j) y.AH[j])→(∀ i,BV uG i→BV H8 i∨W1.sz≤i)→Kb .normal e' DN W3:=by
    intro e' DN W3 uG c3 t3 jh ZC
    have Ho:∀ i,hY p.wb H8 i→i≠W8.sz∧i≠W8.sz+1:=by
     rintro i (rfl | hi)
     ·exact n _ (.inr (.inr (.inr (.inr (.inr (.inr (.inr (.inl rfl))))))))
     ·exact n _ (.inr (.inr (.inr (.inr (.inr (.inr (.inr (.inr hi))))))))
    refine hn e' DN W3 (c3.obj _ (by omega) fun hs=>(Ho _ hs).2 rfl) ⟨uG,?_,c3.HR E'.top (Mi E' b1 (by decide) (by decide)) b1,c3.HR E'.top (Mi E' b2 (by decide) (by decide)) b2,c3.HR E'.top (Mi E' b3 (by decide) (by decide)) b3,v.imp fun b o x hr=>⟨VA E' c3 hr.1,hr.2⟩,by rw [c3.obj _ (by omega) fun hs=>(Ho _ hs).1 rfl]; exact d,by have:=c3.sz; omega,fun i hi=>?_⟩
    ·have:=E'.emit c3 t3 jh ZC; unfold F9; rw [fG]
     simpa using this
    ·rcases hi with hi | hi | hi | hi | hi | hi | hi | hi | hi
     ·exact n _ (.inl hi)
     ·exact n _ (.inr (.inl hi))
     ·exact n _ (.inr (.inr (.inl hi)))
     ·exact n _ (.inr (.inr (.inr (.inl hi))))
     ·exact n _ (.inr (.inr (.inr (.inr (.inl hi)))))
     ·exact n _ (.inr (.inr (.inr (.inr (.inr (.inl hi))))))
     ·exact n _ (.inr (.inr (.inr (.inr (.inr (.inr (.inl hi)))))))
     ·exact n _ (.inr (.inr (.inr (.inr (.inr (.inr (.inr (.inl hi))))))))
     ·rcases ZC i hi with hi | hi
      ·exact n _ (.inr (.inr (.inr (.inr (.inr (.inr (.inr (.inr hi))))))))
      ·omega
   rw [yB,gg3,gg6,gg8,x3,x4]
   rcases Ii Ac Y fG with hk | hk
   ·have yO:ld prog 107 (.pointer (some ⟨p.bd,2,none⟩)) W1=some (.func (.func 107) #[] #[]):=AB ACR (a:=⟨p.bd,2,none⟩) (E'.dv.cell (by rw [hdv]; rfl)); rw [hk.1] at iB ⊢; simp only [oS,yO,qF W1 _ _ E',D1,AA,q40 W1 b1,A8 H3 s3 hj,l3]; refine GY Tryz.func107 (by kernel_rfl) ((sM E'.top E'.buf E'.wk dU Ty).mono fun en W3 ⟨⟨v3,he3⟩,c3,t3,uG,jh,ZC⟩=>?_); subst he3; refine ⟨by simp only [and_self],?_⟩
    try refine ⟨trivial,?_⟩
    exact iB _ _ W3 uG c3 t3 (by simpa [RI,WA.rest] using jh) ZC
   ·have yO:ld prog 107 (.pointer (some ⟨p.bd,1,none⟩)) W1=some (.func (.func 106) #[] #[]):=AB ACR (a:=⟨p.bd,1,none⟩) (E'.dv.cell (by rw [hdv]; rfl)); rw [hk.1] at iB ⊢; simp only [oR,yO,qF W1 _ _ E',D1,AA,q40 W1 b1,A8 H3 s3 hj,l3]; refine GY Tryz.func106 (by kernel_rfl) ((oN E'.top E'.buf (by omega) (by omega) Ty).mono fun en W3 ⟨⟨v3,he3⟩,c3,t3,uG,jh,ZC⟩=>?_); subst he3; refine ⟨by simp only [and_self],?_⟩
    try refine ⟨trivial,?_⟩
    exact iB _ _ W3 uG c3 t3 (by simpa [RI,WA.rest] using jh) ZC
  ·simp only [wx]; rw [←Jq]; refine Im d ?_; have K1:DO W8.sz W' (W'.A5 W8.sz .dead):=DO.of _ _ _; have hpw:p.A.sz≤W8.sz:=by have:=E6.kp.sz; omega
   refine Io (by kernel_rfl) _ _ (.inl rfl) _ _ ⟨⟨_,rfl⟩,H8,?_⟩; have:=E.of (E.kp.A5 hpw K1) (E.top.A5 (by omega) K1) (fun i hi=>K1.obj i (n i hi).1)
   simpa using this
 have l75:ld prog 75 (.pointer (some ⟨p.bk,0,none⟩)) W5=some (.map (some p.r1)):=AB nU (a:=⟨p.bk,0,none⟩) (D5.k 0 _ rfl); simp only [Gj,AA,l75,q9 W5 I3,N8,ND,DI]; refine ⟨trivial,?_⟩
 refine AP (fun he=>?_) (fun he=>?_)
 ·have he:elemAt p.c iy≠0:=by simpa using he
  simp only [qF W5 _ _ E5,CO,H7,D1,AA,q40 W5 I3,Ah H3]; refine (E5.num (n:=y.AH.length) (by omega) (by rw [List.length_append]; omega)).mono fun en W6 ⟨⟨ve,Ef⟩,c6,vb6,E6,n6⟩=>?_; subst Ef; simp only [AT]; refine ⟨by simp only [and_self],?_⟩
  try refine ⟨trivial,?_⟩
  refine k9 W6 vb6 _ (by rw [if_pos he]; exact E6) (c6.HR E5.top (Mi E5 I3 (by decide) (by decide)) I3) (hv5.imp fun b o x hr=>⟨VA E5 c6 hr.1,hr.2⟩) rfl rfl rfl rfl
 ·have he:¬elemAt p.c iy≠0:=by simpa using he
  refine k9 W5 vb5 _ (by rw [if_neg he,List.append_nil]; exact E5) I3 hv5 rfl rfl rfl rfl
end Go.Ce
namespace Go.Ce
open Go Go.Proofs Go.Proofs.Tryz
theorem oT {p:WA} {W:CW} {vb:Value} {bs:List Int} (h:DT p W vb bs) (hC:OP p.c) (Ac:BL p.c=true) (hs:BG p.c p.l=true) (H:Hp p.c p.h p.o) (Nx:∀ s,s ∈ p.l→s.map.length<100000) (S5:p.h.length≤1000) (yP:((AN p.h p.o).flatMap fun x=>FC p.c p.ts p.o (AL p.l x)).length≤161600) (S1:p.ts.length<100000)
  (NU:∀ x,x ∈ AN p.h p.o→p.ts.any (fun u=>decide (u=(AL p.l x).type))=true) (jU:bs.length≤200000) (hdv:p.dvs=[.nilFunc,.func (.func 106) #[] #[],.func (.func 107) #[] #[]]) :
  AF prog AV 59 [.pointer (some ⟨p.wb,0,none⟩),p.vo,.func (.func 60) #[] #[.pointer (some ⟨p.br,0,none⟩),.pointer (some ⟨p.bh,0,none⟩),.pointer (some ⟨p.lH,0,none⟩),.pointer (some ⟨p.H9,0,none⟩),.pointer (some ⟨p.bk,0,none⟩),.pointer (some ⟨p.bd,0,none⟩)]] W
   (P0 p (bs++B0 p.o.length++(AN p.h p.o).flatMap fun x=>FC p.c p.ts p.o (AL p.l x))):=by
 refine ACG ?_; rw [ACF]; have dU:=H.found.len; have G4:(C7 p.o).length=p.o.length*1:=by unfold C7; rw [List.length_map]; omega
 rw [Hl H3 h.wk.own (by omega) G4]; simp only [AA]; refine (h.num (n:=p.o.length) (by omega) (by omega)).mono fun en W1 ⟨⟨v,he⟩,_,lG,h1,_⟩=>?_; subst he; simp only [AT]; rw [Hl H3 h1.wk.own (by omega) G4]; simp only [AA]; have h8:=Di (n:=p.o.length) (by omega); refine D8 (fun i e ds W'=>ds=[]∧∃ H8,DT p W' H8 (bs++B0 p.o.length++(AN p.h (p.o.take i)).flatMap fun x=>FC p.c p.ts p.o (AL p.l x))∧e 2=.func (.func 60) #[] #[.pointer (some ⟨p.br,0,none⟩),.pointer (some ⟨p.bh,0,none⟩),.pointer (some ⟨p.lH,0,none⟩),.pointer (some ⟨p.H9,0,none⟩),.pointer (some ⟨p.bk,0,none⟩),.pointer (some ⟨p.bd,0,none⟩)]∧e 12=p.vo∧e 13=.int .i64 p.o.length∧e 14=.int .i64 i) p.o.length ⟨rfl,lG,by simpa [AN] using h1,rfl,rfl,rfl,rfl⟩ ?_; rintro i e ds W' hi ⟨rfl,H8,h',g2,oP,g13,g14⟩; rw [x_,g2,oP,g13,g14]; simp only [A7,AA]
 refine G6 (fun Au=>?_) (fun Of=>?_)
 ·have hx:=List.getElem?_eq_getElem Au; obtain ⟨w,hw,Vc,_⟩:=H.at Au; have SV:=Jo H Au hw Vc; obtain ⟨a,cap,oQ,hc⟩:=Hk (f:=fun n=>Value.int .i64 n) h'.wk.own; obtain ⟨q,rfl,hq⟩:=hc i _ hx; rw [oQ,A8 H3 s3 Au]; simp only [AA]; rw [AB a3 (a:=⟨q.block,q.off+i*1,none⟩) hq]; simp only [AA]
  have Mx:p.h[w] ∈ AN p.h p.o:=by
   have:p.h[w] ∈ AN p.h (p.o.take (i+1)):=by rw [SV]; simp
   unfold AN at this ⊢; obtain ⟨v,hv,hx⟩:=List.mem_flatMap.1 this; exact List.mem_flatMap.2 ⟨v,List.mem_of_mem_take hv,hx⟩
  have AGS:((AN p.h (p.o.take i)).flatMap fun x=>FC p.c p.ts p.o (AL p.l x)).length≤161600:=by
   have e:AN p.h p.o=AN p.h (p.o.take i)++AN p.h (p.o.drop i):=by
    unfold AN; rw [←List.flatMap_append,List.take_append_drop]
   rw [e,List.flatMap_append,List.length_append] at yP; omega
  refine GY Tryz.func60 (by kernel_rfl) ((jt h' hC Ac hs H.ok Nx (by omega) (by omega) S1 hw Vc (NU _ Mx) (by rw [List.length_append,List.length_append]; omega) hdv).mono fun en W2 ⟨⟨v,he⟩,sL,h2⟩=>?_); subst he; simp only [AT,fS,B_,HB]; simp only [Ao,BC,Nat.reduceEqDiff,↓reduceIte,g14,Az,AA]; refine ⟨Au,trivial,sL,?_,g2,oP.trans (by rw [oQ]) ,g13,by rw [Du (by omega)]⟩; rw [SV,List.flatMap_append,←List.append_assoc]
  simpa using h2
 ·have SV:p.o.take i=p.o:=List.take_of_length_le (by omega); rw [SV] at h'; simp only [M6,PJ,if_true]; exact Io (by kernel_rfl) _ _ (.inl rfl) _ _ ⟨⟨_,rfl⟩,H8,h'⟩
end Go.Ce
namespace Go.Ce
open Go Go.Proofs Go.Proofs.Tryz
theorem XO {t:TypeId} {r:Nat} {k:Value} {ok:Bool} {W W':CW} (h:W'.obj r=W.obj r):GL prog t (.map (some r)) k ok W'=GL prog t (.map (some r)) k ok W:=by
 unfold GL
 cases prog.underlying t with
 | none=>rfl
 | some d=>cases d <;> simp only [h]
theorem oU {l:List Bc} {s:ByteArray}:(l.find? fun x=>decide (Bc.to x=s)).isSome=l.any fun x=>decide (x.to=s):=by
 rw [Bool.eq_iff_iff,List.find?_isSome,List.any_eq_true]
structure ACT (A:CW) (bk br bh r1 r2 w r:Nat) (c:List Ad) (l:List Bc) (h:List BM) (o:List Int):Prop where
 top:Al A
 d:U' A bk br bh r1 r2 w r c l h
 to:Ny Bc.to A r l
 sok:BG c l=true
 sm:∀ s,s ∈ l→s.map.length<100000
 H:Hp c h o
theorem ju {A W0:CW} {K:AG} {e:Env} {bk br bh r1 r2 w r H9:Nat} {vo:Value} {c:List Ad} {l:List Bc} {h:List BM} {o:List Int} (I:ACT A bk br bh r1 r2 w r c l h o) (kA:Kp A W0) (t0:Al W0) (XG:As W0 H9 51 [.slice none 0 0]) (h16:A.sz≤H9) (nj:DU W0 3 1 vo (C7 o))
  (g6:e 6=.pointer (some ⟨bh,0,none⟩)) (oP:e 12=.pointer (some ⟨br,0,none⟩)) (sF:e 16=.pointer (some ⟨H9,0,none⟩)) (g60:e 60=vo) (g61:e 61=.int .i64 o.length) (g62:e 62=.int .i64 0)
  (a8:Ma l h o=true→∀ e' W',Kp A W'→Al W'→e' 8=.slice none 0 0→e' 9=.int .i64 214→K .ret e' [] W')
  (Ho:Ma l h o=false→∀ e' W' vt,Bq (·=H9) W0 W'→Al W'→DJ [6,10,12,15,16] e e'→As W' H9 51 [vt]→DU W' 9 1 vt (strs (DD l (AN h o)))→CC W0.sz vt→K (.exit 0) e' [] W') :
  C6 prog AV none 17 127 (.loop (Ae prog 17 0)) e [] W0 K:=by
 have dU:=I.H.found.len; have hhs:=I.H.small; have hsA:=kA.sz; have AGT:=XG.lt t0
 refine D8 (fun i e' DN W'=>DN=[]∧∃ vt,Bq (·=H9) W0 W'∧Al W'∧DJ [6,10,12,15,16,60,61] e e'∧e' 62=.int .i64 i∧As W' H9 51 [vt]∧DU W' 9 1 vt (strs (JR l h o i))∧CC W0.sz vt∧((AN h (o.take i)).any fun x=>l.any fun s=>decide (s.to=x.type))=false) o.length
  ⟨rfl,_,.refl _ _,t0,.refl _ _,g62,XG,DU.nil,CC.nil _ _ _,rfl⟩ ?_
 rintro i e' DN W' hi ⟨rfl,vt,HI,t',PW,q62,hB,htv,Su,Bj⟩; have q6:=(PW 6 (by decide)).trans g6; have q12:=(PW 12 (by decide)).trans oP; have q16:=(PW 16 (by decide)).trans sF; have q60:=(PW 60 (by decide)).trans g60; have q61:=(PW 61 (by decide)).trans g61; have k':Kp A W':=Bq.kp kA HI fun j hj=>by omega
 have D:=I.d.kp I.top k'; have AEq:=HI.own t0 nj fun j hj he=>by subst he; have:=Bl XG (D3 nj hj); cases this
 obtain ⟨ao,co,rfl,yK⟩:=Hk (f:=fun n=>Value.int .i64 n) AEq; have cX:=hB.lt t'; rw [x6,q6,q12,q16,q60,q61,q62]; simp only [A7,AA]
 refine G6 (fun Au=>?_) (fun Of=>?_)
 ·have hx:=List.getElem?_eq_getElem Au; obtain ⟨w',hw,Vc,_⟩:=I.H.at Au; have SV:=Jo I.H Au hw Vc; obtain ⟨q,rfl,hq⟩:=yK i _ hx; obtain ⟨vh,hbh,hh⟩:=D.hs; have hxh:=List.getElem?_eq_getElem Vc; obtain ⟨ah,ch,rfl,oL⟩:=id hh; obtain ⟨p,rfl,hp⟩:=oL w' _ hxh; have l3:∀ W1,Kp W' W1→ld prog 3 (.pointer (some ⟨q.block,q.off+i*1,none⟩)) W1=some (.int .i64 ((w'+1:Nat):Int)):=fun W1 k1=>AB a3 (a:=⟨q.block,q.off+i*1,none⟩) (k1.cell t' (by rw [←hw]; exact hq)); have l81:∀ W1,Kp W' W1→ld prog 81 (.pointer (some ⟨br,0+1,none⟩)) W1=some (.map (some r)):=fun W1 k1=>AB tv (a:=⟨br,0+1,none⟩) (k1.cell t' (D.rl 1 _ rfl)); have jq:∀ W1,Kp W' W1→ld prog 24 (.pointer (some ⟨bh,0,none⟩)) W1=some (.slice (some p) h.length ch):=fun W1 k1=>AB n9 (a:=⟨bh,0,none⟩) (k1.cell t' hbh); have l9:∀ W1,Kp W' W1→ld prog 9 (.pointer (some ⟨p.block,p.off+w'*2,none⟩)) W1=some (.string h[w'].type):=fun W1 k1=>AB a9 (a:=⟨p.block,p.off+w'*2,none⟩) (k1.cell t' hp.type)
  have AEr:AU prog .sub 3 true (.int .i64 ((w'+1:Nat):Int)) (.int .i64 1)=some (.int .i64 (w':Nat)):=by
   rw [D7,show ((w'+1:Nat):Int)-1=(w':Nat) by omega,wrap64 (by omega) (by omega)]
  have jv:Ny Bc.to W' r l:=I.to.kp I.top k'; obtain ⟨ws,L,Zq,MA⟩:=Yj jv h[w'].type; obtain ⟨mto,AEs,_⟩:=id jv; have VW:=AEs.lt t'; rw [A8 H3 s3 Au]; simp only [AA]; rw [l3 W' (.refl _)]; simp only [TY,AA]; rw [l81 W' (.refl _),jq W' (.refl _)]; simp only [AA]; rw [AEr]; simp only [AA]; rw [A8 Vg Ia Vc]; simp only [F1,AA]; rw [l9 W' (.refl _)]; simp only [AA]; refine Ay L ?_; refine Ay (Be _ _) ?_; refine Ay (Bf _ _) ?_; refine Gx lE ZB t' fun W1 k1 t1 z1 eU=>?_; refine DF ZB (a:=⟨W'.sz,0,none⟩) MA Zq eU (Nat.le_refl 3) fun W2 hu GK=>?_; have hu:DO W'.sz W1 W2:=hu; have k2:Kp W' W2:=k1.A5 (Nat.le_refl _) hu; have t2:Al W2:=t1.A5 (by rw [z1]; exact Nat.lt_succ_self _) hu; have hL1:GL prog 81 (.map (some r)) (.string h[w'].type) true W1=some (.tuple #[.agg ws.toArray,.bool (l.find? fun x=>decide (Bc.to x=h[w'].type)).isSome]):=by rw [←L]; exact XO (k1.obj _ VW)
  refine ⟨by simp only [hL1,L,l9 W1 k1,l9 W' (.refl _),jq W1 k1,jq W' (.refl _),l81 W1 k1,l81 W' (.refl _),and_self],trivial,?_⟩; have SZ:=k'.trans k2
  have Mx:h[w'] ∈ AN h o:=by
   have:h[w'] ∈ AN h (o.take (i+1)):=by rw [SV]; simp
   unfold AN at this ⊢; obtain ⟨v,hv,hx⟩:=List.mem_flatMap.1 this; exact List.mem_flatMap.2 ⟨v,List.mem_of_mem_take hv,hx⟩
  rw [oU]
  refine AP (fun FY=>?_) (fun FY=>?_)
  ·simp only [Ld,Lm,HB,Vb]; refine a8 ?_ _ W2 SZ t2 rfl rfl; unfold Ma; rw [List.any_eq_true]; exact ⟨_,Mx,FY⟩
  ·have l83:ld prog 83 (.pointer (some ⟨br,0,none⟩)) W2=some (.agg [.map (some w),.map (some r)].toArray):=BO (vs:=[.map (some w),.map (some r)]) (a:=⟨br,0,none⟩) a83 np rfl (by omega) (D.rl.ext t' k2); obtain ⟨vx,hux,RR,ACO⟩:=eX t' k2 hp; simp only [l83,jq W2 k2,A8 Vg Ia Vc,hux,AA]; have HY:=List.getElem_mem Vc; have NU:=I.H.ok _ HY; refine (oI (r:=r) t2 (D.sp.kp t' k2) RR (MZ I.sok NU) I.sm).mono fun en W3 ⟨k3,t3,vv,Ef,Vo,WQ⟩=>?_; subst Ef; simp only [AT,rJ,AA]; refine ⟨by simp only [and_self],trivial,?_⟩; have yQ:=k2.trans k3; have Fg:=hB.ext t' yQ; have sO:=htv.kp t' yQ; have AGU:=aW l h o i; have l51:∀ W1,Kp W3 W1→ld prog 51 (.pointer (some ⟨H9,0,none⟩)) W1=some vt:=fun W1 k1=>AB a51 (a:=⟨H9,0,none⟩) (k1.cell t3 (Fg.cell rfl)); simp only [l51 W3 (.refl _),AA]; refine D0 (Nz (Hk (f:=fun s=>Value.string s) sO) (by omega)) ?_; have uH:=eY (l:=l) I.H Au hw Vc
   have uI:((AN h (o.take (i+1))).any fun x=>l.any fun s=>decide (s.to=x.type))=false:=by
    rw [SV,List.any_append,Bj]; simp only [List.any_cons,FY,List.any_nil,Bool.or_self]
   have yR:Bq (·=H9) W0 W3:=HI.then (Bq.Gc yQ (S:=(·=H9))) fun _ _ h=>h; simp only [Ai,AA]
   cases hc:(JR l h o i).any (fun x=>decide (x=(AL l h[w']).type)) with
   | false =>
    simp only [Bool.not_false,Bh,l51 W3 (.refl _),AA]; refine NA p9 s9 z9 rfl (by omega) by9 (by omega) (th _) rfl rfl t3 sO (by rw [Mb]; omega) fun u Wa gJ W4 ka ta L6 t4 o4 n4=>?_; have Dm:¬BV vt H9:=fun hj=>by have:=Bl Fg (D3 sO hj); cases this
    have Il:=L6.EG.HR t3 Dm Fg; refine Af s51 (a:=⟨H9,0,none⟩) (v:=gJ) (OO o4) Il (by simp) fun W5 OV I3=>?_; have OV:DO H9 W4 W5:=OV; have I3:As W5 H9 51 [gJ]:=I3; have pz:=Il.lt t4; have rn:=n4 W0.sz yR.sz; simp only [Ld,B_,HB]; simp only [Ao,BC,Nat.reduceEqDiff,↓reduceIte,q62,Az,AA]
    refine ⟨Au,trivial,gJ,(yR.then L6.EG fun j hj hi=>?_).then OV.EG fun _ _ h=>h,t4.A5 pz OV,(PW.trans (.put rfl)).trans (.put rfl),by rw [Du (by omega)],I3,?_,rn,uI⟩
    ·obtain ⟨b,l',c',e1,e2⟩:=hi; have:=Su b l' c' e1; omega
    ·have AEt:∀ j,BV gJ j→¬j=H9:=fun j hj he=>by subst he; have:=Bl Il (D3 o4 hj); cases this
     have:=OV.EG.own t4 o4 AEt; rw [uH]; unfold BS; rw [if_neg (by rw [hc]; simp),aT]; exact this
   | true =>
    simp only [Bool.not_true,Ar,Ld,B_,HB]; simp only [Ao,BC,Nat.reduceEqDiff,↓reduceIte,q62,Az,AA]; refine ⟨Au,trivial,vt,yR,t3,(PW.trans (.put rfl)).trans (.put rfl),by rw [Du (by omega)],Fg,?_,Su,uI⟩; rw [uH]; unfold BS; rw [if_pos hc]; exact sO
 ·simp only [PJ]; have SV:o.take i=o:=List.take_of_length_le (by omega); rw [SV] at Bj; unfold JR at htv; rw [SV] at htv; have AEu:=PW.trans (.put rfl:DJ [6,10,12,15,16,60,61] e' (Env.of e' [(63,.bool (decide ((i:Int)<o.length)))])); refine Ho Bj _ W' vt HI t' (fun t ht=>AEu t ?_) hB htv Su; simp only [List.mem_cons,List.not_mem_nil,or_false] at ht ⊢; rcases ht with rfl | rfl | rfl | rfl | rfl <;> simp
end Go.Ce
namespace Go.Ce
open Go Go.Proofs Go.Proofs.Tryz
theorem sP {c:List Ad} (Ac:BL c=true) {s:ByteArray} {i:Nat} (h:A_ c s=some i):0<s.size:=by
 have G4:=D2 h; obtain ⟨h1,h2,_⟩:=List.findIdx?_eq_some_iff_getElem.1 h; unfold BL at Ac; simp only [Bool.and_eq_true,Bool.not_eq_true'] at Ac; have hb:=Dh Ac.2.1 G4; unfold BW at hb; rw [List.getElem?_eq_getElem G4] at hb; simp only [Bool.or_eq_false_iff,Bool.not_eq_false'] at hb; have:=hb.1.1; unfold Fp at this; simp only [Bool.and_eq_true,decide_eq_true_eq] at this; rw [←of_decide_eq_true h2]; omega
theorem oV:B0 1=[1]:=by unfold B0; rfl
def oW (c:List Ad) (l:List Bc) (h:List BM) (o:List Int):Prop:=h.length≤40∨((DD l (AN h o)).length≤100∧(Ei c l h o).length≤3000)
theorem fV {p:WA} {W:CW} {vb:Value} {K:AG} {e:Env} (h:DT p W vb []) (IL:p.ts=DD p.l (AN p.h p.o)) (hC:OP p.c) (Ac:BL p.c=true) (hs:BG p.c p.l=true) (H:Hp p.c p.h p.o) (Nx:∀ s,s ∈ p.l→s.map.length<100000) (JV:p.h.length≤1000) (S5:oW p.c p.l p.h p.o)
  (g6:e 6=.pointer (some ⟨p.bh,0,none⟩)) (nW:e 10=.pointer (some ⟨p.bk,0,none⟩)) (oP:e 12=.pointer (some ⟨p.br,0,none⟩)) (g15:e 15=.pointer (some ⟨p.lH,0,none⟩)) (sF:e 16=.pointer (some ⟨p.H9,0,none⟩))
  (hK:∀ e' W' v,Kp p.A W'→Al W'→e' 8=v→e' 9=.int .i64 0→DU W' 5 1 v (BB (Ei p.c p.l p.h p.o))→K .ret e' [] W'):(Ym none K) .normal e [] W:=by
 have dU:=H.found.len
 have Gp:∀ s,s ∈ p.ts→0<s.size∧s.size<1000:=fun s Jf=>by
  rw [IL] at Jf
  rcases OS p.l (AN p.h p.o) [] Jf with h | ⟨x,hx,rfl⟩
  ·cases h
  ·obtain ⟨i,s,Y⟩:=DK (CJ hs (H.ok _ (Ye hx))); exact ⟨sP Ac Y.ti,nM hC Y.ti⟩
 have S1:p.ts.length≤100:=by
  rcases S5 with S5 | S5
  ·have h1:=Kn p.l (AN p.h p.o) []; have h2:=Gi p.h p.o; rw [IL]; unfold DD; simp only [List.length_nil] at h1; omega
  ·rw [IL]; exact S5.1
 have AGV:(p.ts.flatMap GZ).length≤100*1008:=by
  have htx:=RJ p.ts fun s hs=>(Gp s hs).2; have:p.ts.length*1008≤100*1008:=Nat.mul_le_mul_right _ S1; omega
 have yP:((AN p.h p.o).flatMap fun x=>FC p.c p.ts p.o (AL p.l x)).length≤161600:=by
  rcases S5 with S5 | S5
  ·have h1:=OT (l:=p.l) (t:=p.ts) (o:=p.o) (n:=p.h.length) Ac (by omega) (by omega) (AN p.h p.o) fun x hx=>CJ hs (H.ok x (by
    unfold AN at hx; obtain ⟨v,_,hv⟩:=List.mem_flatMap.1 hx
    cases hg:p.h[(v-1).toNat]? with
    | none=>rw [hg] at hv; cases hv
    | some y=>rw [hg] at hv; rw [List.mem_singleton.1 hv]; exact List.mem_of_getElem? hg))
   have h2:=Gi p.h p.o; have h3:(AN p.h p.o).length*1616≤100*1616:=Nat.mul_le_mul_right _ (by omega); omega
  ·have:=S5.2; unfold Ei at this; rw [IL]; simp only [List.length_append] at this; omega
 have qF:∀ (p':WA) W' H8 h_,DT p' W' H8 h_→ld prog 88 (.pointer (some ⟨p'.lH,0,none⟩)) W'=some (.pointer (some ⟨p'.wb,0,none⟩)):=fun p' W' H8 h_ E=>AB a88 (a:=⟨p'.lH,0,none⟩) (E.wv.cell rfl); have q51:∀ W' H8 h_,DT p W' H8 h_→ld prog 51 (.pointer (some ⟨p.H9,0,none⟩)) W'=some p.vt:=fun W' H8 h_ E=>AB a51 (a:=⟨p.H9,0,none⟩) (E.ty.cell rfl); simp only [Ym,B_,g6,nW,oP,g15,sF]; rw [qF p W _ _ h]; simp only [CO,H7,AA]; refine (h.num (n:=1) (by omega) (by simp)).mono fun en W1 ⟨⟨v,he⟩,_,lG,h1,_⟩=>?_; subst he; simp only [AT]; rw [qF p W1 _ _ h1,q51 W1 _ _ h1]; simp only [CO,H7,AA]; rw [oV] at h1; refine (oO h1 Gp (by omega) (by simp)).mono fun en W2 ⟨⟨v,he⟩,sL,h2⟩=>?_; subst he; simp only [AT]; refine ⟨by simp only [and_self],trivial,?_⟩; refine Uk (js h2.top) fun W3 k3 t3=>?_; refine CZ (ws:=[.nilFunc,.func (.func 106) #[] #[],.func (.func 107) #[] #[]]) ACQ yM rfl rfl rfl t3 fun W4 k4 t4 z4 Il=>?_; have h4:=h2.S4 (k3.trans k4) t4; have E4:DT { p with bd:=W3.sz,bdt:=108,dvs:=[.nilFunc,.func (.func 106) #[] #[],.func (.func 107) #[] #[]] } W4 sL ([]++[1]++B0 p.ts.length++p.ts.flatMap GZ):=⟨h4.kp,h4.top,h4.tA,h4.d,h4.wk,h4.wv,h4.ty,h4.sN,Il,⟨(by decide:(108:Nat)≠97),(by decide:(108:Nat)≠5)⟩,h4.buf,h4.ge⟩
 have l89:ld prog 89 (.pointer (some ⟨p.wb,0+1,none⟩)) W4=some (.pointer (some ⟨p.bw,0,none⟩)):=AB uF (a:=⟨p.wb,0+1,none⟩) (h4.buf.b.cell rfl); have l40:ld prog 40 (.pointer (some ⟨p.bw,0,none⟩)) W4=some p.vo:=AB M7 (a:=⟨p.bw,0,none⟩) (h4.wk.w.cell rfl); rw [qF p W4 _ _ h4]; simp only [CO,H7,Yp,AA]; rw [l89]; simp only [CO,Kr,AA]; rw [l40]; simp only [AA]; have hn8:=Di (n:=p.ts.length) (by omega)
 refine (oT E4 hC Ac hs H Nx JV yP (by show p.ts.length<100000; omega) (fun x hx=>by
  show p.ts.any _=true
  rw [IL]; exact Wz p.l _ [] x hx) (by simp only [List.length_append,List.length_cons,List.length_nil]; omega) rfl).mono fun en W5 ⟨⟨v,he⟩,vb5,h5⟩=>?_
 subst he; simp only [AT]; refine ⟨by simp only [and_self],trivial,?_⟩; rw [qF _ W5 _ _ h5]; simp only [CO,H7,Tb,AA]; have l29:ld prog 29 (.pointer (some ⟨p.wb,0,none⟩)) W5=some vb5:=h5.buf.ld; rw [l29]; simp only [AA]; refine hK _ W5 vb5 h5.kp h5.top rfl rfl ?_; have:=h5.buf.own; unfold Ei; rw [←IL]
 simpa using this
end Go.Ce
namespace Go.Ce
open Go Go.Proofs Go.Proofs.Tryz
theorem s97:DM prog 97=some 4:=by kernel_rfl
theorem s88:DM prog 88=some 1:=by kernel_rfl
theorem z51:Gm prog 51=some (.slice none 0 0):=by kernel_rfl
theorem ACU (a:Addr) (r1 r2:Nat):QF prog 97 [(1,.pointer (some a)),(2,.agg [.map (some r1),.map (some r2)].toArray)]=some (.agg [.slice none 0 0,.pointer (some a),.map (some r1),.map (some r2)].toArray):=by kernel_rfl
theorem AZ {K:Value→CW→Prop} {KP:List PanicEntry→CW→Prop} {v:Value} {W:CW} (h:K v W):AT K KP (.returned v) W:=h
theorem jw {c:List Ad} {l:List Bc} {h:List BM} {root:Int} (hc:BL c=true) (hs:BG c l=true):I1 c l h root=C8 c h root:=by
 unfold I1 C8 PK; rw [hc,hs]; rfl
theorem VB {v0 v1 v2:Value} {c:List Ad} {l:List Bc} {h:List BM} {root:Int} {W:CW} (ht:Al W) (hc:Ax 5 (Lu W) v0 c) (hC:OP c) (hl:Ax 3 (OM W) v1 l) (gL:l.length<100000) (Nx:∀ s,s ∈ l→s.map.length<100000) (hh:Ax 2 (IZ W) v2 h) (re:h.length<100000) (AEv:h.length≤40∨1000<h.length∨(I1 c l h root=0→Ma l h (Ab c l h root)=false→oW c l h (Ab c l h root))) (hv:∀ x,x ∈ h→x.AH.length<100000) :
  AF prog AV 17 [v0,v1,v2,.int .i64 root] W (W_ (Dg c l h root) W):=by
 refine AB2 ?_; rw [AB1]; obtain ⟨ah,ch,rfl,_⟩:=id hh; refine Er s24 ht fun W0 k0 t0 z0 Is=>?_; have Is:As W0 W.sz 24 [.slice ah h.length ch]:=Is; refine (Md t0 (hc.imp fun _ _ _ hr=>hr.kp ht k0) hC).mono fun en W1 ⟨k1,t1,r1,r2,Ef,HZ,NW,EB⟩=>?_; subst Ef; refine AZ ?_; refine Ay (Be _ _) ?_; refine Ay (Bf _ _) ?_; unfold H6; refine CZ (ws:=[.map (some r1),.map (some r2)]) nZ NV rfl rfl rfl t1 fun W4 k4 t4 z4 Mj=>?_; have jk:=(k0.trans k1).trans k4; generalize Jq:AI prog Tryz.f17 (W_ (Dg c l h root) W)=KK
 have F_:∀ (e':Env) W' v n,Kp W W'→Al W'→e' 8=v→e' 9=.int .i64 n→DU W' 5 1 v (BB (Dg c l h root).1)→(Dg c l h root).2=n→KK .ret e' [] W':=by
  intro e' W' v n k t h8 h9 ho hn; rw [←Jq,jl,h8,h9]; exact ⟨k,t,v,by rw [hn],ho⟩
 simp only [Ai,AA]
 cases Ac:BL c with
 | false =>
  simp only [Bool.not_false,Bh]
  have hw:Dg c l h root=([],210):=by
   unfold Dg I1 PK; rw [Ac]; rfl
  exact F_ _ W4 _ 210 jk t4 rfl rfl (by rw [hw]; exact DU.nil) (by rw [hw])
 | true =>
  simp only [Bool.not_true,Ar]; have XL:=(EB Ac).kp t1 k4; rw [OU Mj]; simp only [AA]; refine (bA t4 XL hC (hl.imp fun _ _ _ hr=>hr.kp ht jk) gL Nx).mono fun en W5 ⟨k5,t5,w,r,Ef,Gz⟩=>?_; subst Ef; refine AZ ?_; refine Ay (Be _ _) ?_; refine Ay (Bf _ _) ?_; refine CZ (ws:=[.map (some w),.map (some r)]) z83 np rfl rfl rfl t5 fun W8 k8 t8 z8 Yr=>?_; have uJ:=k5.trans k8; have xh:=jk.trans uJ; simp only [Ai,AA]
  cases hs:BG c l with
  | false =>
   simp only [Bool.not_false,Bh]
   have hw:Dg c l h root=([],212):=by
    unfold Dg I1 PK; rw [Ac,hs]; rfl
   exact F_ _ W8 _ 212 xh t8 rfl rfl (by rw [hw]; exact DU.nil) (by rw [hw])
  | true =>
   simp only [Bool.not_true,Ar]; have jq:ld prog 24 (.pointer (some ⟨W.sz,0,none⟩)) W8=some (.slice ah h.length ch):=AB n9 (a:=⟨W.sz,0,none⟩) (((k1.trans k4).trans uJ).cell t0 (Is.cell rfl)); rw [jq]; simp only [AA]; refine (RT t8 (hc.imp fun _ _ _ hr=>hr.kp ht xh) hC (hh.imp fun _ _ _ hr=>hr.kp ht xh) hv (by omega)).mono fun en W9 ⟨k9,t9,r1',r2',Ef,AFx⟩=>?_; subst Ef; refine AZ ?_; refine Ay (Be _ _) ?_; refine Ay (Bf _ _) ?_; unfold H6; refine CZ (ws:=[.map (some r1'),.map (some r2')]) nZ NV rfl rfl rfl t9 fun A cy tA z12 AEI=>?_; have yS:=k9.trans cy; have qG:=xh.trans yS; have Ys:=jw (h:=h) (root:=root) Ac hs; rw [←Ys]; simp only [DI,AA]
   by_cases hz:I1 c l h root=0
   ·obtain ⟨_,_,Yt,hX,HZ⟩:=FN hz; obtain ⟨JV,iC⟩:=ES Yt; simp only [hz,bne_self_eq_false,Ar]; obtain ⟨hsw,qY⟩:=Gz hs; have D:U' A W1.sz W5.sz W.sz r1 r2 w r c l h:=⟨(Mj.ext t4 (uJ.trans yS)).cells,(Yr.ext t8 yS).cells,XL.kp t4 (uJ.trans yS),hsw.kp t5 (k8.trans yS),_,(((k1.trans k4).trans uJ).trans yS).cell t0 (Is.cell rfl),hh.imp fun _ _ _ hr=>hr.kp ht qG⟩
    have hrA:Ny Bc.to A r l:=qY.kp t5 (k8.trans yS); have kn:Kp A (A.new (.cells .nil 1 #[.pointer none] 88)):=.new _; have tn:=tA.new (.cells .nil 1 #[.pointer none] 88); have I9:(A.new (.cells .nil 1 #[.pointer none] 88)).obj A.sz=some (.cells .nil 1 #[.pointer none] 88):=by rw [BK,if_pos rfl]
    have iA:As (A.new (.cells .nil 1 #[.pointer none] 88)) A.sz 88 [.pointer none]:=⟨.nil,1,_,I9,rfl,fun k v hk=>by
     match k,hk with
     | 0,hk=>cases hk; rfl⟩
    have bN:(A.new (.cells .nil 1 #[.pointer none] 88)).sz=A.sz+1:=rfl; have My:∀ W0:CW,W0.obj A.sz=some (.cells .nil 1 #[.pointer none] 88)→G5 (.pointer (some ⟨A.sz,0,none⟩)) ((A.new (.cells .nil 1 #[.pointer none] 88)).obj A.sz) W0=true:=fun W0 h0=>GI h0 rfl; generalize hAn:A.new (.cells .nil 1 #[.pointer none] 88)=An at kn tn I9 iA bN My ⊢
    refine (XN (refs:=CS c l h) (N:=h.length) tn hX HZ re (fun n _ _=>NH Ac hs iC) (fun n=>bL hC hs iC n) (fun n W' k' t' SI Nb K KP hk=>?_)).mono fun en Iw ⟨uB,t13,bw,rp,vo,Ef,oY,hbw,cz,AEw,hF⟩=>?_
    ·refine GY Tryz.func51 (by kernel_rfl) ((jo t' (D.kp tA (kn.trans k')) hC hs iC Nx SI Nb re).mono fun en W2 ⟨k2,t2,vr,Ef,dr,sK⟩=>?_); subst Ef; exact hk vr W2 k2 t2 dr sK
    subst Ef; have hfo:Ap (CS c l h) h.length (start root) 0=Ab c l h root:=rfl; rw [hfo] at oY hF; generalize ho:Ab c l h root=o at oY hF; refine AZ ?_; have yT:=kn.trans uB; have lA:∀ W',Kp A W'→ld prog 78 (.pointer (some ⟨W1.sz,0,none⟩)) W'=some (.agg [.map (some r1),.map (some r2)].toArray):=fun W' k=>BO (vs:=[.map (some r1),.map (some r2)]) (a:=⟨W1.sz,0,none⟩) lC NV rfl (by omega) (D.kp tA k).k; rw [lA Iw yT]; simp only [AA]; refine Ay (ACU _ _ _) ?_; refine Er s97 t13 fun Og c_ t15 z15 hBb=>?_; have hBb:As Og Iw.sz 97 [.slice none 0 0,.pointer (some ⟨bw,0,none⟩),.map (some r1),.map (some r2)]:=hBb; have uK:=iA.ext tn (uB.trans c_); refine ⟨trivial,?_⟩; refine Af s88 (a:=⟨A.sz,0,none⟩) (v:=.pointer (some ⟨Iw.sz,0,none⟩)) rfl uK (by simp) fun CQ hu yU=>?_; have hu:DO A.sz Og CQ:=hu; have yU:As CQ A.sz 88 [.pointer (some ⟨Iw.sz,0,none⟩)]:=yU; have hAl:=uK.lt t15; have AGW:A.sz<Iw.sz:=by have:=uB.sz; omega
    refine ⟨by simp only [lA Iw yT,lA An kn,and_self],?_⟩; refine ⟨⟨⟨trivial,My Og (by rw [(uB.trans c_).obj _ (by omega)]; exact I9),My Iw (by rw [uB.obj _ (by omega)]; exact I9),My An I9⟩,trivial⟩,?_⟩; have t16:=t15.A5 hAl hu; refine Gx z51 s51 t16 fun NQ k17 t17 z17 WB=>?_; have WB:As NQ CQ.sz 51 [.slice none 0 0]:=WB; have z16:CQ.sz=Iw.sz+1:=by rw [hu.sz,z15]
    have ACV:Kp A NQ:=((yT.trans c_).A5 (Nat.le_refl _) hu).trans k17; have Bb:∀ j,j<Og.sz→j≠A.sz→NQ.obj j=Og.obj j:=fun j hj Dm=>by rw [k17.obj j (by rw [hu.sz]; exact hj),hu.obj j Dm]
    have fW:∀ j,j<Iw.sz→j≠A.sz→NQ.obj j=Iw.obj j:=fun j hj Dm=>by rw [Bb j (by omega) Dm,c_.obj j hj]
    have oZ:DU NQ 3 1 vo (C7 o):=N0 oY.own fun j hj=>fW j (Nw t13 oY.own hj) (by obtain ⟨b,l',c',e1,e2⟩:=hj; have:=AEw b l' c' e1; omega); have ACW:As NQ bw 100 [vo,.map (some rp)]:=oY.w.congr (fW _ (oY.w.lt t13) (by omega)); have ACX:As NQ Iw.sz 97 [.slice none 0 0,.pointer (some ⟨bw,0,none⟩),.map (some r1),.map (some r2)]:=hBb.congr (Bb _ (by omega) (by omega)); have AEx:dB NQ rp o:=oY.p.congr (fW _ (oY.p.lt t13) (by omega)); have yV:As NQ A.sz 88 [.pointer (some ⟨Iw.sz,0,none⟩)]:=yU.ext t16 k17; have l88:ld prog 88 (.pointer (some ⟨A.sz,0,none⟩)) NQ=some (.pointer (some ⟨Iw.sz,0,none⟩)):=AB a88 (a:=⟨A.sz,0,none⟩) (yV.cell rfl); have l89:ld prog 89 (.pointer (some ⟨Iw.sz,0+1,none⟩)) NQ=some (.pointer (some ⟨bw,0,none⟩)):=AB uF (a:=⟨Iw.sz,0+1,none⟩) (ACX.cell rfl); have l40:ld prog 40 (.pointer (some ⟨bw,0,none⟩)) NQ=some vo:=AB M7 (a:=⟨bw,0,none⟩) (ACW.cell rfl); have dU:=hF.len; have G4:(C7 o).length=o.length*1:=by unfold C7; rw [List.length_map]; omega
    rw [l88]; simp only [CO,Yp,AA]; rw [l89]; simp only [CO,Kr,AA]; rw [l40]; simp only [AA]; rw [Hl H3 oZ (by omega) G4]; simp only [AA]; have hH:Hp c h o:=⟨hF,re,iC⟩
    have I:ACT A W1.sz W5.sz W.sz r1 r2 w r c l h o:=⟨tA,D,hrA,hs,Nx,hH⟩
    have AFy:Iw.sz≤CQ.sz:=by omega
    refine ju I ACV t17 WB (by omega) oZ rfl rfl rfl rfl rfl rfl (fun hb e' W' k' t' q8 q9=>?_) (fun hb e' W' vt HI t' PW hBt htv Su=>?_)
    ·simp only [Sz]
     have hw:Dg c l h root=([],214):=by
      unfold Dg; rw [if_neg (by simp [hz]),ho,if_pos hb]
     exact F_ _ W' _ 214 (qG.trans k') t' q8 q9 (by rw [hw]; exact DU.nil) (by rw [hw])
    ·simp only [M6,if_true]; have cX:¬Ma l h o=true:=by rw [hb]; simp
     have hw:Dg c l h root=(Ei c l h o,0):=by
      unfold Dg; rw [if_neg (by simp [hz]),ho,if_neg cX]
     have Y9:∀ j,j<CQ.sz→W'.obj j=NQ.obj j:=fun j hj=>HI.obj j (by omega) (by omega)
     have E:DT { A:=A,bk:=W1.sz,br:=W5.sz,bh:=W.sz,lH:=A.sz,H9:=CQ.sz,bd:=A.sz,wb:=Iw.sz,bw:=bw,rp:=rp,r1:=r1,r2:=r2,w:=w,r:=r,vt:=vt,vo:=vo,bdt:=88,dvs:=[.pointer (some ⟨Iw.sz,0,none⟩)],c:=c,l:=l,h:=h,o:=o,ts:=DD l (AN h o) } W' (.slice none 0 0) [] :=
      ⟨Bq.kp ACV HI fun j hj=>by have hj:j=CQ.sz:=hj; show A.sz≤j; omega,t',tA,D,⟨ACW.congr (Y9 _ (by have:=oY.w.lt t13; omega)),N0 oZ fun j hj=>Y9 j (by have:=Nw t13 oY.own hj; omega),AEx.congr (Y9 _ (by have:=oY.p.lt t13; omega))⟩,yV.congr (Y9 _ (by omega)),hBt,htv,yV.congr (Y9 _ (by omega)),⟨(by decide:(88:Nat)≠97),(by decide:(88:Nat)≠5)⟩,⟨ACX.congr (Y9 _ (by omega)),DU.nil⟩,by show A.sz≤Iw.sz; omega,fun j hj=>by obtain ⟨_,_,_,e1,_⟩:=hj; cases e1⟩
     refine fV E rfl hC Ac hs hH Nx JV (by
      rcases AEv with Yu | Yu | Yu
      ·exact .inl Yu
      ·omega
      ·rw [←ho]; exact Yu hz (by rw [ho]; exact hb)) ((PW 6 (by decide)).trans rfl) ((PW 10 (by decide)).trans rfl) ((PW 12 (by decide)).trans rfl) ((PW 15 (by decide)).trans rfl) ((PW 16 (by decide)).trans rfl) fun e2 W2 v k2 t2 h8 h9 uC=>?_
     exact F_ _ W2 v 0 (qG.trans k2) t2 h8 h9 (by rw [hw]; exact uC) (by rw [hw])
   ·simp only [show (I1 c l h root != 0)=true from by simpa using hz,Bh]
    have hw:Dg c l h root=([],I1 c l h root):=by
     unfold Dg; rw [if_pos hz]
    exact F_ _ A _ (I1 c l h root) qG tA rfl rfl (by rw [hw]; exact DU.nil) (by rw [hw])
end Go.Ce
namespace Go.Ce
open Go Go.Proofs Go.Proofs.Tryz
def DL (e:Int):List PanicEntry:=[{ v:=.iface 167 (.agg #[.int .i64 e]),recovered:=false }]
theorem yW (e:Int):QF prog 167 [(0,.int .i64 e)]=some (.agg #[.int .i64 e]):=by kernel_rfl
theorem yX (v:Value):mki prog 167 v=some (.iface 167 v):=by kernel_rfl
theorem AEy:DM prog 170=some 2:=by kernel_rfl
theorem bO (a:Addr):A0 prog 170 (.pointer (some a)) 0=some (.pointer (some ⟨a.block,a.off,none⟩)):=by kernel_rfl
theorem bP (a:Addr):A0 prog 170 (.pointer (some a)) 1=some (.pointer (some ⟨a.block,a.off+1,none⟩)):=by kernel_rfl
theorem a3':agg? prog 3=some false:=by kernel_rfl
theorem D9 {K:Value→CW→Prop} {KP:List PanicEntry→CW→Prop} {ch:List PanicEntry} {W:CW} (h:KP ch W):AT K KP (.panicked ch) W:=h
theorem yY (n:Int):tS prog 5 3 (.int .u8 n)=some (.int .i64 (IntKind.i64.wrap n)):=by kernel_rfl
theorem ACY (x:UInt8):tS prog 5 3 (.int .u8 x.toNat)=some (.int .i64 ((x.toNat:Nat):Int)):=by
 have:=x.toNat_lt; rw [yY,wrap64 (by omega) (by omega)]
theorem Gk {b:Bool} {e:Int} {W:CW} {K:Value→CW→Prop} {KP:List PanicEntry→CW→Prop} (hk:b=true→K (.tuple #[]) W) (hp:b=false→KP (DL e) W):AF prog AV 76 [.bool b,.int .i64 e] W (AT K KP):=by
 refine AA5 ?_; rw [AA4]; simp only [Ai,AA]
 cases b with
 | true =>
  simp only [Bool.not_true,Ar]; exact Io (by kernel_rfl) _ _ (.inl rfl) _ _ (hk rfl)
 | false =>
  simp only [Bool.not_false,Bh]; refine Ay (yW _) ?_; refine Ay (yX _) ?_; exact hp rfl
structure bQ (A:CW) (vb:Value) (b:List UInt8):Prop where
 top:Al A
 sl:∃ a cap,vb=.slice a b.length cap∧b.length≤cap∧∀ i x,b[i]?=some x→∃ p,a=some p∧KR A p.block (p.off+i*1) x
 lim:b.length≤100000
structure Rd (A W:CW) (rb:Nat) (vb:Value) (at_:Nat):Prop where
 kp:Kp A W
 top:Al W
 hb:A.sz≤rb
 HR:As W rb 170 [vb,.int .i64 at_]
def WC (rb j:Nat):Prop:=j=rb
theorem Rd.ld0 {A W:CW} {rb at_:Nat} {vb:Value} (h:Rd A W rb vb at_):ld prog 29 (.pointer (some ⟨rb,0,none⟩)) W=some vb:=AB a29 (a:=⟨rb,0,none⟩) (h.HR.cell rfl)
theorem Rd.z_ {A W:CW} {rb at_:Nat} {vb:Value} (h:Rd A W rb vb at_):ld prog 3 (.pointer (some ⟨rb,0+1,none⟩)) W=some (.int .i64 at_):=AB a3' (a:=⟨rb,0+1,none⟩) (h.HR.cell rfl)
theorem Rd.S4 {A W W':CW} {rb at_:Nat} {vb:Value} (h:Rd A W rb vb at_) (k:Kp W W') (t:Al W'):Rd A W' rb vb at_:=⟨h.kp.trans k,t,h.hb,h.HR.ext h.top k⟩
def HN (b:List UInt8) (at_ n:Nat):Except Int Nat:=if at_+n≤b.length then .ok (at_+n) else .error 4
def Mk {α:Type} (A:CW) (rb:Nat) (vb:Value) (R:Value→α→CW→Prop) (r:Except Int (α × Nat)) (W:CW):Ending→CW→Prop:=fun en W'=>Bq (WC rb) W W'∧Al W'∧match r with
 | .ok (x,Ds)=>∃ v,en=.returned v∧R v x W'∧Rd A W' rb vb Ds
 | .error e=>en=.panicked (DL e)
theorem ACZ {a:Option Addr} {len cap lo hi:Nat} (h1:lo≤hi) (h2:hi≤cap) (W:CW):∃ a',ma prog 29 (.slice a len cap) (some (.int .i64 lo)) (some (.int .i64 hi)) (some (.int .i64 hi)) W=some (.slice a' (hi-lo) (hi-lo))∧(lo<hi→∀ p,a=some p→∃ p',a'=some p'∧p'.block=p.block∧p'.off=p.off+lo):=by
 refine ⟨cond (Nat.beq hi lo) a (a.map fun a=>⟨a.block,a.off+lo*1,none⟩),?_,fun Au p hp=>?_⟩
 ·have cU:∀ n y d:Nat,n≤y→bound (some (.int .i64 (n:Int))) d y=some n:=by
   intro n y d h; simp only [bound]; rw [show (decide ((0:Int)≤(n:Int)) && decide ((n:Int)≤(y:Int)))=true by simp; omega]; simp
  unfold ma; rw [RD]; simp only [QK,RD,CV,s5,cU hi cap cap h2,cU hi hi len (Nat.le_refl _),cU lo hi 0 h1]; rw [show Nat.ble hi hi=true from Nat.ble_eq_true_of_le (by omega)]; rfl
 ·have hb:Nat.beq hi lo=false:=by
   cases hq:Nat.beq hi lo with
   | false=>rfl
   | true=>have:=Nat.eq_of_beq_eq_true hq; omega
  subst hp; rw [hb]; exact ⟨_,rfl,rfl,by show p.off+lo*1=_; rw [Nat.mul_one]⟩
theorem iD {A W:CW} {rb at_ n:Nat} {vb:Value} {b:List UInt8} (I:bQ A vb b) (h:Rd A W rb vb at_) (ha:at_≤b.length) (hn:n≤100000) :
  AF prog AV 121 [.pointer (some ⟨rb,0,none⟩),.int .i64 n] W (Mk A rb vb (fun v x _=>Ax 1 (KR A) v x) (match HN b at_ n with | .ok Ds=>.ok ((b.drop at_).take n,Ds) | .error e=>.error e) W):=by
 have V7:=I.lim; obtain ⟨a,cap,ct,Zf,nu⟩:=I.sl; refine wQ ?_; rw [wP]; simp only [CO,bO,bP,AA,h.ld0,h.z_]; subst ct; rw [Ah RD]; simp only [AA,D7,HM]; rw [wrap64 (by omega) (by omega)]
 have hd:decide ((b.length:Int)-(at_:Int)≥(n:Int))=decide (at_+n≤b.length):=by
  by_cases hq:at_+n≤b.length
  ·rw [decide_eq_true hq,decide_eq_true (by omega)]
  ·rw [decide_eq_false hq,decide_eq_false (by omega)]
 rw [hd]
 refine Gk (fun hb=>?_) (fun hb=>?_)
 ·have hle:=of_decide_eq_true hb; have SV:HN b at_ n=.ok (at_+n):=by unfold HN; rw [if_pos hle]
  refine ⟨by simp,trivial,?_⟩; simp only [h.z_,Az,AA]; rw [wrap64 (by omega) (by omega)]; refine Af s3 (a:=⟨rb,0+1,none⟩) (v:=.int .i64 ((at_:Int)+(n:Int))) rfl h.HR (by simp) fun W2 hu hB=>?_; have hu:DO rb W W2:=hu
  have hB:As W2 rb 170 [.slice a b.length cap,.int .i64 ((at_+n:Nat):Int)]:=by
   have:((at_+n:Nat):Int)=(at_:Int)+(n:Int):=by omega
   rw [this]
   simpa [putAt] using hB
  have hW2:Rd A W2 rb (.slice a b.length cap) (at_+n):=⟨h.kp.A5 h.hb hu,h.top.A5 (h.HR.lt h.top) hu,h.hb,hB⟩
  simp only [hW2.ld0,hW2.z_,AA,D7]; rw [show (((at_+n:Nat):Int)-(n:Int))=((at_:Nat):Int) by omega,wrap64 (by omega) (by omega)]; obtain ⟨a',hs,hp⟩:=ACZ (a:=a) (len:=b.length) (show at_≤at_+n by omega) (show at_+n≤cap by omega) W2; rw [hs]; simp only [AA]; refine ⟨by simp,trivial,?_⟩; rw [eK,SV]; refine ⟨hu.EG,hW2.top,_,rfl,?_,hW2⟩; have hlen:((b.drop at_).take n).length=n:=by rw [List.length_take,List.length_drop]; omega
  refine ⟨a',n,by rw [hlen,show at_+n-at_=n by omega]; rfl,fun i x hx=>?_⟩; have hi:i<n:=by have:=(List.getElem?_eq_some_iff.1 hx).1; omega
  rw [List.getElem?_take,if_pos hi,List.getElem?_drop] at hx; obtain ⟨p,hpa,hr⟩:=nu _ x hx; obtain ⟨p',hp1,vI,hp3⟩:=hp (by omega) p hpa; refine ⟨p',hp1,?_⟩; rw [vI,hp3]
  rwa [show p.off+at_+i*1=p.off+(at_+i)*1 by omega]
 ·have hle:=of_decide_eq_false hb; have SV:HN b at_ n=.error 4:=by unfold HN; rw [if_neg hle]
  refine ⟨by simp,?_⟩; rw [SV]; exact ⟨.refl _ _,h.top,rfl⟩
def Ml (b:List UInt8):Nat→Nat→Nat→Nat→Except Int (Nat × Nat)
 | 0,_,_,_=>.error 4
 | f+1,at_,n,sh=>match b[at_]? with
  | none=>.error 4
  | some x=>if x.toNat<128 then (if 0<x.toNat∨sh=0 then .ok (n+x.toNat*2 ^ sh,at_+1) else .error 4)
   else Ml b f (at_+1) (n+(x.toNat % 128)*2 ^ sh) (sh+7)
def Et (b:List UInt8) (at_:Nat) (most:Int):Except Int (Nat × Nat):=match Ml b 6 at_ 0 0 with
 | .error e=>.error e
 | .ok (n,Ds)=>if (n:Int)≤most then .ok (n,Ds) else .error 4
theorem oa (y sh:Nat) (hy:y<128) (hs:sh≤35):AU prog .shl 3 false (.int .i64 y) (.int .i64 sh)=some (.int .i64 ((y*2 ^ sh:Nat):Int)):=by
 have h1:AU prog .shl 3 false (.int .i64 y) (.int .i64 sh)=cond (decide ((sh:Int)<0)) none (some (.int .i64 (IntKind.i64.wrap ((y:Int)*2 ^ (min (sh:Int).toNat 64))))):=rfl; rw [h1,show decide ((sh:Int)<0)=false by simp]; have h2:min (sh:Int).toNat 64=sh:=by rw [Int.toNat_natCast]; omega
 rw [h2]; have h3:2 ^ sh≤2 ^ 35:=Nat.pow_le_pow_right (by omega) hs; have h4:y*2 ^ sh≤127*2 ^ 35:=Nat.mul_le_mul (by omega) h3; have h5:(y:Int)*2 ^ sh=((y*2 ^ sh:Nat):Int):=by simp
 rw [h5]; simp only [cond_false]; rw [wrap64 (by omega) (by omega)]
theorem sQ (n y sh:Nat) (hn:n<2 ^ sh) (hy:y<128) (hs:sh≤35):AU prog .or 3 false (.int .i64 n) (.int .i64 ((y*2 ^ sh:Nat):Int))=some (.int .i64 ((n+y*2 ^ sh:Nat):Int)):=by
 have h3:2 ^ sh≤2 ^ 35:=Nat.pow_le_pow_right (by omega) hs; have h4:y*2 ^ sh≤127*2 ^ 35:=Nat.mul_le_mul (by omega) h3; have h1:AU prog .or 3 false (.int .i64 n) (.int .i64 ((y*2 ^ sh:Nat):Int))=some (.int .i64 (IntKind.i64.wrap ((BitVec.ofInt 64 (n:Int) ||| BitVec.ofInt 64 ((y*2 ^ sh:Nat):Int)).toNat))):=rfl; rw [h1]
 have h5:(BitVec.ofInt 64 (n:Int) ||| BitVec.ofInt 64 ((y*2 ^ sh:Nat):Int)).toNat=n+y*2 ^ sh:=by
  rw [BitVec.toNat_or,BitVec.ofInt_natCast,BitVec.ofInt_natCast,BitVec.toNat_ofNat,BitVec.toNat_ofNat,Nat.mod_eq_of_lt (by omega),Nat.mod_eq_of_lt (by omega)]; have:=Nat.shiftLeft_add_eq_or_of_lt hn y; rw [Nat.shiftLeft_eq] at this; rw [Nat.or_comm,←this,Nat.add_comm]
 rw [h5,wrap64 (by omega) (by omega)]
end Go.Ce
namespace Go.Ce
open Go Go.Proofs Go.Proofs.Tryz
theorem take_one {b:List UInt8} {at_:Nat} {x:UInt8} (hx:b[at_]?=some x):(b.drop at_).take 1=[x]:=by
 have Au:=(List.getElem?_eq_some_iff.1 hx).1; apply List.ext_getElem?; intro i
 cases i with
 | zero=>rw [List.getElem?_take,if_pos (by omega),List.getElem?_drop]; exact hx
 | succ i=>rw [List.getElem?_take,if_neg (by omega)]; rfl
theorem JW {A W:CW} {rb at_:Nat} {most:Int} {vb:Value} {b:List UInt8} (I:bQ A vb b) (h:Rd A W rb vb at_) (ha:at_≤b.length) :
  AF prog AV 110 [.pointer (some ⟨rb,0,none⟩),.int .i64 most] W (Mk A rb vb (fun v n _=>v=.int .i64 ((n:Nat):Int)) (Et b at_ most) W):=by
 refine wO ?_; rw [wN]; generalize Jq:AI prog Tryz.f110 (Mk A rb vb (fun v n _=>v=.int .i64 ((n:Nat):Int)) (Et b at_ most) W)=KK
 have Gr:∀ (e:Env) W',Bq (WC rb) W W'→Al W'→Et b at_ most=.error 4→KK (.panic (DL 4)) e [] W':=by
  intro e W' hc ht hn; rw [←Jq]; show Mk A rb vb (fun v n _=>v=.int .i64 ((n:Nat):Int)) (Et b at_ most) W (.panicked (DL 4)) W'; rw [hn]; exact ⟨hc,ht,rfl⟩
 have hgo:∀ (e:Env) W' n Ds,Bq (WC rb) W W'→Rd A W' rb vb Ds→e 1=.int .i64 most→e 5=.int .i64 (n:Nat)→Ml b 6 at_ 0 0=.ok (n,Ds)→(LM none KK) .normal e [] W':=by
  intro e W' n Ds hc hr h1 h5 hn; simp only [LM,B_,h1,h5,IY,AA]
  refine Gk (fun hb=>?_) (fun hb=>?_)
  ·have hle:=of_decide_eq_true hb; rw [←Jq,eJ]; refine ⟨hc,hr.top,?_⟩; have:Et b at_ most=.ok (n,Ds):=by unfold Et; rw [hn]; simp only; rw [if_pos (by omega)]
   rw [this]; refine ⟨_,rfl,?_,hr⟩; simp only [Ao,↓reduceIte]
  ·have hle:=of_decide_eq_false hb; refine Gr _ W' hc hr.top ?_; unfold Et; rw [hn]; simp only; rw [if_neg (by omega)]
 refine eQ (fun k e ds W'=>Bq (WC rb) W W'∧ds=[]∧1≤k∧k≤6∧∃ Ds n sh:Nat,Rd A W' rb vb Ds∧Ds≤b.length∧e 0=.pointer (some ⟨rb,0,none⟩)∧e 1=.int .i64 most∧e 5=.int .i64 n∧e 6=.int .i64 sh∧sh=7*(6-k)∧n<2 ^ sh∧Ml b 6 at_ 0 0=Ml b k Ds n sh) 6 ⟨.refl _ _,rfl,by omega,by omega,at_,0,0,h,ha,rfl,rfl,rfl,rfl,rfl,by omega,rfl⟩ ?_; rintro k e ds W' ⟨hc,rfl,px,hk6,Ds,n,sh,hr,XP,h0,h1,h5,h6,hsh,hn,hG⟩; obtain ⟨f,rfl⟩:∃ f,k=f+1:=⟨k-1,by omega⟩
 rw [q_,h0]; refine (iD (n:=1) I hr XP (by omega)).mono fun en W1 ⟨Ti,t1,hp⟩=>?_; have X9:Bq (WC rb) W W1:=hc.then Ti fun _ _ h=>h
 cases hx:b[Ds]? with
 | none =>
  have Of:b.length≤Ds:=by
   by_cases hq:b.length≤Ds
   ·exact hq
   ·rw [List.getElem?_eq_getElem (by omega)] at hx; cases hx
  have SV:HN b Ds 1=.error 4:=by unfold HN; rw [if_neg (by omega)]
  rw [SV] at hp; have hp:en=.panicked (DL 4):=hp; subst hp; refine D9 ?_; simp only [tKp,lB,LM,Wt]; refine Gr _ W1 X9 t1 ?_; unfold Et; rw [hG,Ml,hx]
 | some x =>
  have Au:=(List.getElem?_eq_some_iff.1 hx).1; have SV:HN b Ds 1=.ok (Ds+1):=by unfold HN; rw [if_pos (by omega)]
  rw [SV] at hp; obtain ⟨v,rfl,hv,HZ⟩:=hp; rw [take_one hx] at hv; obtain ⟨a,cap,rfl,hv⟩:=hv; obtain ⟨p,rfl,hbx⟩:=hv 0 x rfl; refine AZ ?_; have jx:EV prog 29 (.slice (some p) [x].length cap) (.int .i64 0)=some (.pointer (some ⟨p.block,p.off+0*1,none⟩)):=A8 (i:=0) RD s5 (by simp); refine Ay jx ?_; have AEz:W1.cell p.block (p.off+0*1)=some (.int .u8 x.toNat):=HZ.kp.cell I.top hbx; refine Ay (AB a5 (a:=⟨p.block,p.off+0*1,none⟩) AEz) ?_; have AFz:x.toNat<256:=x.toNat_lt; refine Ay (v:=.int .i64 ((x.toNat:Nat):Int)) (ACY x) ?_; refine Ay (Uf _ _ _ (by decide)) ?_; rw [show ((x.toNat:Int).tmod 128)=((x.toNat % 128:Nat):Int) by rw [Int.tmod_eq_emod_of_nonneg (by omega)]; rfl]; have hy:x.toNat % 128<128:=Nat.mod_lt _ (by omega); have ACa:sh≤35:=by omega
  rw [h6,h5]; refine Ay (oa _ _ hy ACa) ?_; refine Ay (sQ _ _ _ hn hy ACa) ?_; refine Ay (Az _ _ _) ?_; rw [wrap64 (by omega) (by omega)]; refine Ay (A7 _ _ _) ?_
  have Vq:n+x.toNat % 128*2 ^ sh<2 ^ (sh+7):=by
   have h1:x.toNat % 128*2 ^ sh≤127*2 ^ sh:=Nat.mul_le_mul_right _ (by omega); have h2:2 ^ (sh+7)=128*2 ^ sh:=by rw [Nat.pow_add,Nat.mul_comm]
   omega
  have hGs:Ml b (f+1) Ds n sh=if x.toNat<128 then (if 0<x.toNat∨sh=0 then .ok (n+x.toNat*2 ^ sh,Ds+1) else .error 4) else Ml b f (Ds+1) (n+(x.toNat % 128)*2 ^ sh) (sh+7):=by
   rw [Ml,hx]
  refine AP (fun hb=>?_) (fun hb=>?_)
  ·have hb:x.toNat<128:=by have:=of_decide_eq_true hb; omega
   have hm:x.toNat % 128=x.toNat:=Nat.mod_eq_of_lt hb; rw [if_pos hb] at hGs
   have done:∀ e1:Env,e1 1=.int .i64 most→e1 5=.int .i64 ((n+x.toNat % 128*2 ^ sh:Nat):Int)→(0<x.toNat∨sh=0)→(LN none (Wu (fun k e ds W'=>Bq (WC rb) W W'∧ds=[]∧1≤k∧k≤6∧∃ Ds n sh:Nat,Rd A W' rb vb Ds∧Ds≤b.length∧e 0=.pointer (some ⟨rb,0,none⟩)∧e 1=.int .i64 most∧e 5=.int .i64 n∧e 6=.int .i64 sh∧sh=7*(6-k)∧n<2 ^ sh∧Ml b 6 at_ 0 0=Ml b k Ds n sh) (f+1) (Bm 0 (LM none KK)))) .normal e1 [] W1:=by
    intro e1 g1 g5 WQ; simp only [LN,B_,M6,tKx]; simp only [if_true]; refine hgo e1 W1 _ (Ds+1) X9 HZ g1 g5 ?_; rw [hG,hGs,if_pos WQ,hm]
   refine Ay (CY _ _ _) ?_
   refine AP (fun hq=>?_) (fun hq=>?_)
   ·have hq:0<x.toNat:=by have:=of_decide_eq_true hq; omega
    refine Gk (fun _=>?_) (fun hf=>by cases hf); exact done _ (by simp only [Ao,BC,Nat.reduceEqDiff,↓reduceIte,h1]) (by simp only [Ao,Nat.reduceEqDiff,↓reduceIte]) (.inl hq)
   ·have hq:¬0<x.toNat:=by have:=of_decide_eq_false hq; omega
    refine Ay (Bp _ _ _) ?_
    refine Gk (fun hz=>?_) (fun hz=>?_)
    ·have hz:sh=0:=by have:=eq_of_beq hz; omega
     exact done _ (by simp only [Ao,BC,Nat.reduceEqDiff,↓reduceIte,h1]) (by simp only [Ao,Nat.reduceEqDiff,↓reduceIte]) (.inr hz)
    ·have hz:¬sh=0:=by
      intro e; subst e; simp at hz
     simp only [LN,Wt,lB,tKp,LM]; refine Gr _ W1 X9 t1 ?_; unfold Et; rw [hG,hGs,if_neg (by omega)]
  ·have hb:¬x.toNat<128:=by have:=of_decide_eq_false hb; omega
   rw [if_neg hb] at hGs; refine Ay (CY _ _ _) ?_
   refine AP (fun hq=>?_) (fun hq=>?_)
   ·have hq:=of_decide_eq_true hq; have hf:f=0:=by omega
    refine Gk (fun hf=>by cases hf) (fun _=>?_); simp only [tKp,lB,LM,Wt]; refine Gr _ W1 X9 t1 ?_; unfold Et; rw [hG,hGs,hf]; rfl
   ·have hq:=of_decide_eq_false hq; simp only [tKn]; exact ⟨f,by omega,X9,trivial,by omega,by omega,Ds+1,_,sh+7,HZ,by omega,by simp only [Ao,BC,Nat.reduceEqDiff,↓reduceIte,h0],by simp only [Ao,BC,Nat.reduceEqDiff,↓reduceIte,h1],by simp only [Ao,Nat.reduceEqDiff,↓reduceIte],by simp only [Ao,Nat.reduceEqDiff,↓reduceIte]; rfl,by omega,Vq,by rw [hG,hGs]⟩
end Go.Ce
namespace Go.Ce
open Go Go.Proofs Go.Proofs.Tryz
def strOf (l:List UInt8):ByteArray:=⟨l.toArray⟩
theorem P1:∀ l:List UInt8,FG (l.map fun x=>Value.int .u8 (x.toNat:Int))=some l
 | []=>rfl
 | x::l=>by
  simp only [List.map_cons,FG,P1 l]; congr 2; simp
theorem XQ {W:CW} {v:Value} {l:List UInt8} (h:Ax 1 (KR W) v l):qo prog 29 9 v W=some (.string (strOf l)):=by
 obtain ⟨a,cap,rfl,hc⟩:=h; have h5:prog.underlying 5=some (.int .u8):=by kernel_rfl
 unfold qo; rw [RD,u9]
 have hf:EI a l.length W=some (l.map fun x=>Value.int .u8 (x.toNat:Int)):=by
  cases l with
  | nil=>cases a <;> rfl
  | cons x l =>
   obtain ⟨p,rfl,_⟩:=hc 0 x rfl
   have:=M8 (W:=W) (a:=p) (cs:=(x::l).map fun x=>Value.int .u8 (x.toNat:Int)) fun j v hj=>by
    rw [List.getElem?_map,Option.map_eq_some_iff] at hj; obtain ⟨y,hy,rfl⟩:=hj; obtain ⟨p',hp',hr⟩:=hc j y hy
    cases hp'
    rwa [show p.off+j=p.off+j*1 by omega]
   rwa [List.length_map] at this
 simp only [dE,h5,hf,CV,P1]; rfl
def oc (A:CW) (vf:Value) (ask:ByteArray→Option Int):Prop:=∀ s W K KP,Kp A W→Al W→(ask s=none→∀ v W',Kp W W'→Al W'→K v W')→(∀ e,ask s=some e→∀ W',Kp W W'→Al W'→KP (DL e) W')→DZ prog AV vf [.string s] W K KP
def JX (b:List UInt8) (ask:ByteArray→Option Int):Nat→Nat→List ByteArray→Except Int (List ByteArray × Nat)
 | 0,at_,out=>.ok (out,at_)
 | k+1,at_,out=>match Et b at_ 60 with
  | .error e=>.error e
  | .ok (n,a1)=>match HN b a1 n with
   | .error e=>.error e
   | .ok a2=>if Fp (strOf ((b.drop a1).take n))=true∧(out.any fun x=>decide (x=strOf ((b.drop a1).take n)))=false then
     (match ask (strOf ((b.drop a1).take n)) with
     | some e=>.error e
     | none=>JX b ask k a2 (out++[strOf ((b.drop a1).take n)]))
    else .error 4
def Ip (b:List UInt8) (ask:ByteArray→Option Int) (at_:Nat):Except Int (List ByteArray × Nat):=match Et b at_ 128 with
 | .error e=>.error e
 | .ok (n,a1)=>if n=1 then (match Et b a1 100 with
   | .error e=>.error e
   | .ok (k,a2)=>JX b ask k a2 [])
  else .error 4
theorem bR {b:List UInt8} {at_ n a:Nat} (h:HN b at_ n=.ok a):a=at_+n∧a≤b.length:=by
 unfold HN at h
 split at h
 ·cases h; exact ⟨rfl,by assumption⟩
 ·cases h
theorem jy {b:List UInt8} {at_ n:Nat} {e:Int} (h:HN b at_ n=.error e):e=4:=by
 unfold HN at h
 split at h
 ·cases h
 ·cases h; rfl
theorem iE {b:List UInt8}:∀ {f at_ n sh m a:Nat},Ml b f at_ n sh=.ok (m,a)→at_<a∧a≤b.length
 | 0,_,_,_,_,_,h=>by cases h
 | f+1,at_,n,sh,m,a,h=>by
  unfold Ml at h
  split at h
  ·cases h
  ·rename_i x hx; have Au:=(List.getElem?_eq_some_iff.1 hx).1
   split at h
   ·split at h
    ·cases h; omega
    ·cases h
   ·have:=iE h; omega
theorem FP {b:List UInt8} {at_ n a:Nat} {most:Int} (h:Et b at_ most=.ok (n,a)):(n:Int)≤most∧at_<a∧a≤b.length:=by
 unfold Et at h
 split at h
 ·cases h
 ·rename_i n' a' hg
  split at h
  ·cases h; exact ⟨by assumption,iE hg⟩
  ·cases h
theorem Bq.rd {rb:Nat} {A B C:CW} (h:Bq (WC rb) A B) (k:Bq (WC rb) B C):Bq (WC rb) A C:=h.then k fun _ _ h=>h
theorem Kp.rd {rb:Nat} {A B:CW} (h:Kp A B):Bq (WC rb) A B:=Bq.Gc h
theorem KR.kp {A W:CW} {v:Value} {x:List UInt8} (I:Al A) (k:Kp A W) (h:Ax 1 (KR A) v x):Ax 1 (KR W) v x:=h.imp fun _ _ _ hr=>k.cell I hr
theorem sR {A W:CW} {rb at_:Nat} {vb vf:Value} {b:List UInt8} {ask:ByteArray→Option Int} (I:bQ A vb b) (h:Rd A W rb vb at_) (ha:at_≤b.length) (Ys:oc A vf ask) :
  AF prog AV 92 [.pointer (some ⟨rb,0,none⟩),vf] W (Mk A rb vb (fun v l W'=>DU W' 9 1 v (strs l)∧CC W.sz v) (Ip b ask at_) W):=by
 refine AA' ?_; rw [AA8]; generalize bS:Mk A rb vb (fun v l W'=>DU W' 9 1 v (strs l)∧CC W.sz v) (Ip b ask at_) W=od; generalize Jq:AI prog Tryz.f92 od=KK
 have Gr:∀ (e:Env) W' c,Bq (WC rb) W W'→Al W'→Ip b ask at_=.error c→KK (.panic (DL c)) e [] W':=by
  intro e W' c hc ht hn; rw [←Jq]; show od (.panicked (DL c)) W'; rw [←bS]; refine ⟨hc,ht,?_⟩; rw [hn]
 refine (JW (most:=128) I h ha).mono fun en W1 ⟨Ti,t1,hp⟩=>?_
 cases Nb:Et b at_ 128 with
 | error c =>
  rw [Nb] at hp; have hp:en=.panicked (DL c):=hp; subst hp; exact D9 (Gr _ W1 c Ti t1 (by unfold Ip; rw [Nb]))
 | ok r =>
  obtain ⟨n,a1⟩:=r; rw [Nb] at hp; obtain ⟨v,rfl,rfl,HZ⟩:=hp; refine AZ ?_; refine Ay (Bp _ _ _) ?_; refine Gk (fun hb=>?_) (fun hb=>?_)
  rotate_left
  ·have hb:¬n=1:=by intro e; subst e; simp at hb
   exact Gr _ W1 4 Ti t1 (by unfold Ip; rw [Nb]; simp only; rw [if_neg hb])
  have hb:n=1:=by have:=eq_of_beq hb; omega
  obtain ⟨_,_,DC⟩:=FP Nb; refine (JW (most:=100) I HZ DC).mono fun en W2 ⟨iw,t2,hp⟩=>?_; have iw:=Ti.rd iw
  cases Oe:Et b a1 100 with
  | error c =>
   rw [Oe] at hp; have hp:en=.panicked (DL c):=hp; subst hp; refine D9 ?_; simp only [LL,Wt]; exact Gr _ W2 c iw t2 (by unfold Ip; rw [Nb]; simp only; rw [if_pos hb,Oe])
  | ok r =>
   obtain ⟨m,a2⟩:=r; rw [Oe] at hp; obtain ⟨v,rfl,rfl,NW⟩:=hp; obtain ⟨AF0,_,sS⟩:=FP Oe; refine AZ ?_; have hH:Ip b ask at_=JX b ask m a2 []:=by unfold Ip; rw [Nb]; simp only; rw [if_pos hb,Oe]
   refine D8 (fun i e ds W'=>ds=[]∧∃ Ds out vo,Bq (WC rb) W W'∧Rd A W' rb vb Ds∧Ds≤b.length∧out.length=i∧e 0=.pointer (some ⟨rb,0,none⟩)∧e 1=vf∧e 5=vo∧e 12=.int .i64 m∧e 13=.int .i64 i∧DU W' 9 1 vo (strs out)∧CC W.sz vo∧JX b ask m a2 []=JX b ask (m-i) Ds out) m
    ⟨rfl,a2,[],.slice none 0 0,iw,NW,sS,rfl,rfl,rfl,rfl,rfl,rfl,DU.nil,CC.nil _ _ _,rfl⟩ ?_
   rintro i e ds W' hi ⟨rfl,Ds,out,vo,hc,hr,XP,dU,h0,h1,h5,iF,h13,hO,hN,hG⟩; rw [wM,h0,h5,iF,h13]; simp only [A7,AA]; refine G6 (fun Au=>?_) (fun Of=>?_)
   rotate_left
   ·have:i=m:=by omega
    subst this; simp only [B_,Va,M6,PJ,M6,if_true,LL]; rw [←Jq,jQ,←bS]; refine ⟨hc,hr.top,?_⟩; rw [hH,hG,Nat.sub_self]; exact ⟨_,rfl,⟨by simp only [Ao,BC,Nat.reduceEqDiff,↓reduceIte,h5]; exact hO,by simp only [Ao,BC,Nat.reduceEqDiff,↓reduceIte,h5]; exact hN⟩,hr⟩
   ·obtain ⟨f,hf⟩:∃ f,m-i=f+1:=⟨m-i-1,by omega⟩
    rw [hf] at hG
    have Lk:JX b ask (f+1) Ds out=match Et b Ds 60 with
      | .error e=>.error e
      | .ok (n,a1)=>match HN b a1 n with
       | .error e=>.error e
       | .ok a2=>if Fp (strOf ((b.drop a1).take n))=true∧(out.any fun x=>decide (x=strOf ((b.drop a1).take n)))=false then
         (match ask (strOf ((b.drop a1).take n)) with
         | some e=>.error e
         | none=>JX b ask f a2 (out++[strOf ((b.drop a1).take n)]))
        else .error 4:=rfl
    rw [Lk] at hG; have bad:∀ (e:Env) W1 c,Bq (WC rb) W' W1→Al W1→JX b ask m a2 []=.error c→KK (.panic (DL c)) e [] W1:=fun e W1 c c1 t1 hh=>Gr e W1 c (hc.rd c1) t1 (by rw [hH,hh]); refine (JW (most:=60) I hr XP).mono fun en W3 ⟨sT,t3,hp⟩=>?_
    cases ZC:Et b Ds 60 with
    | error c =>
     rw [ZC] at hp hG; have hp:en=.panicked (DL c):=hp; subst hp; refine D9 ?_; simp only [IW,Wt,lB,HB,qB,LL]; exact bad _ W3 c sT t3 hG
    | ok r =>
     obtain ⟨k,a3⟩:=r; rw [ZC] at hp hG; obtain ⟨v,rfl,rfl,hr3⟩:=hp; obtain ⟨AGX,_,ha3⟩:=FP ZC; refine AZ ?_; simp only at hG; refine (iD I hr3 ha3 (by omega)).mono fun en W4 ⟨sU,t4,hp⟩=>?_; have sU:=sT.rd sU
     cases rn:HN b a3 k with
     | error c =>
      rw [rn] at hp hG; have hp:en=.panicked (DL c):=hp; subst hp; refine D9 ?_; simp only [IW,Wt,lB,HB,qB,LL]; exact bad _ W4 c sU t4 hG
     | ok a4 =>
      rw [rn] at hp hG; obtain ⟨v,rfl,hv,hr4⟩:=hp; obtain ⟨ha4,AE0⟩:=bR rn; simp only at hG; generalize hs:strOf ((b.drop a3).take k)=s at hG; refine AZ ?_; refine Ay (v:=.string s) (by rw [←hs]; exact XQ (KR.kp I.top hr4.kp hv)) ?_
      have xe:s.size<1000000:=by
       rw [←hs]; show ((b.drop a3).take k).toArray.size<1000000; rw [List.size_toArray,List.length_take]; omega
      refine (MW t4 xe).mono fun en W5 ⟨he,k5,t5⟩=>?_; subst he; refine AZ ?_; have hc5:=sU.rd (k5.rd (rb:=rb))
      have hO5:DU W5 9 1 vo (strs out):=(hc5).own hr.top hO fun j hj e=>by
       have e:j=rb:=e; subst e; have:=Bl hr.HR (D3 hO hj); cases this
      have hr5:=hr4.S4 k5 t5; refine AP (fun yZ=>?_) (fun yZ=>?_)
      rotate_left
      ·refine Gk (fun hf=>by cases hf) (fun _=>?_); simp only [H2,IW,B_,Wt,lB,HB,qB,LL]; refine bad _ W5 4 hc5 t5 ?_; rw [hG,if_neg (by rw [yZ]; simp)]
      obtain ⟨ao,co,nj,yK⟩:=Hk (f:=fun (s:ByteArray)=>Value.string s) hO5; have AE1:=Nz (s:=s) (W:=W5) (v:=vo) (l:=out) ⟨ao,co,nj,yK⟩ (by omega); refine D0 AE1 ?_; refine Ay (Ai _) ?_; refine Gk (fun qn=>?_) (fun qn=>?_)
      rotate_left
      ·simp only [H2,IW,B_,Wt,lB,HB,qB,LL]; refine bad _ W5 4 hc5 t5 ?_; rw [hG,if_neg (by rintro ⟨_,h2⟩; rw [h2] at qn; cases qn)]
      have qn:(out.any fun x=>decide (x=s))=false:=by
       cases hq:out.any fun x=>decide (x=s) with
       | false=>rfl
       | true=>rw [hq] at qn; cases qn
      rw [if_pos ⟨yZ,qn⟩] at hG; simp only [H2,B_]; simp only [Ao,BC,Nat.reduceEqDiff,↓reduceIte,h1,h5]; refine Ys s W5 _ _ hr5.kp t5 (fun Ho v W6 k6 t6=>?_) (fun c a8 W6 k6 t6=>?_)
      rotate_left
      ·rw [a8] at hG; simp only [IW,Wt,lB,HB,qB,LL]; exact bad _ W6 c (hc5.rd k6.rd) t6 hG
      ·rw [Ho] at hG; have hO6:DU W6 9 1 vo (strs out):=(Bq.Gc (S:=fun _=>False) k6).own t5 hO5 fun j hj h=>h; refine NA p9 s9 z9 rfl (by omega) by9 (by omega) (th _) rfl rfl t6 hO6 (by rw [Mb]; omega) fun u Wa gJ W7 ka ta L6 t7 o7 n7=>?_; have hc6:Bq (WC rb) W' W6:=hc5.rd k6.rd; have hr6:=hr5.S4 k6 t6; have Dm:¬BV vo rb:=fun hj=>by have:=Bl hr6.HR (D3 hO6 hj); cases this
       have AE2:W.sz≤W6.sz:=Nat.le_trans hc.sz hc6.sz
       have AE3:Kp A W7:=L6.kp hr6.kp fun b' l' c' e=>by
        have:=hN b' l' c' e; have:=h.kp.sz; omega
       have hc7:Bq (WC rb) W W7:=(hc.rd hc6).then (L6.EG) fun j hj hi=>by
        obtain ⟨b',l',c',e1,e2⟩:=hi; have:=hN b' l' c' e1; omega
       simp only [IW,B_,HB]; simp only [Ao,BC,Nat.reduceEqDiff,↓reduceIte,h13,Az,AA]
       refine ⟨Au,trivial,a4,out++[s],gJ,hc7,⟨AE3,t7,hr.hb,L6.HR t6 hr6.HR fun b' l' c' e hb=>Dm ⟨b',l',c',e,hb⟩⟩,AE0,by simp [dU],?_,?_,?_,?_,?_,by rw [aT]; exact o7,n7 _ AE2,?_⟩
       ·simp only [h0]
       ·simp only [h1]
       ·first | rfl | (simp only [Ao,BC,eKa,Nat.reduceEqDiff,↓reduceIte,gKz,gKs,rD,and_self])
       ·simp only [iF]
       ·rw [Du (by omega)]
       ·rw [hG,show m-(i+1)=f by omega]
end Go.Ce
namespace Go.Ce
open Go Go.Proofs Go.Proofs.Tryz
theorem fX {l bk bx r1 r2 n ix:Nat} {c:List Ad} {ty:ByteArray} (SY:A_ c ty=some ix) (Jz:n<100000) (hn:elemAt c ix=0→n≤(Ak c ix).length) (J:Nat→CW→Prop) (uL:List PanicEntry→CW→Prop) (hJ:∀ i W,J i W→jd W bk bx r1 r2 c ty n)
  (fK:∀ i W,i<n→J i W→IP prog AV l [.int .i64 i,.int .u8 (A6 c ix i)] W fun e W'=>(e=.returned (.bool true)∧J (i+1) W')∨∃ ch,e=.panicked ch∧uL ch W') {W:CW} (h0:J 0 W) :
  AF prog AV 108 [.func (.yield l) #[] #[],.pointer (some ⟨bk,0,none⟩),.pointer (some ⟨bx,0,none⟩)] W fun e W'=>(e=.returned (.tuple #[])∧J n W')∨∃ ch,e=.panicked ch∧uL ch W':=by
 refine nR ?_; rw [nQ]; have K0:=hJ 0 W h0; obtain ⟨a0,AEM,Y'⟩:=K0.x1; obtain ⟨ea,eb,ef,eg,N8⟩:=K0.cat.sh.elem SY; simp only [Gj,F1,D1,AA]; rw [AB nU (a:=⟨bk,0,none⟩) K0.k0,AB a9 (a:=⟨bx,0,none⟩) K0.x0,AB M7 (a:=⟨bx,0+1,none⟩) Y']; simp only [AA,N8,ND,Ah H3]; refine D8 (fun i e ds W'=>ds=[]∧e 0=.func (.yield l) #[] #[]∧e 1=.pointer (some ⟨bk,0,none⟩)∧e 2=.pointer (some ⟨bx,0,none⟩)∧e 4=.int .u8 (elemAt c ix)∧e 15=.int .i64 n∧e 16=.int .i64 i∧J i W') n ⟨rfl,rfl,rfl,rfl,rfl,rfl,rfl,h0⟩ ?_; rintro i e ds W' hi ⟨rfl,h0,h1,h2,h4,sE,h16,hj⟩; rw [gq,h1,h2,h4,sE,h16]; simp only [A7,AA]
 refine G6 (fun Au=>?_) (fun Of=>?_)
 ·have EE:∀ (e1:Env),DJ [0,1,2,4,15,16] e e1→e1 5=.int .i64 i→e1 6=.int .u8 (A6 c ix i) →
    (NB none (KY (fun i e ds W'=>ds=[]∧e 0=.func (.yield l) #[] #[]∧e 1=.pointer (some ⟨bk,0,none⟩)∧e 2=.pointer (some ⟨bx,0,none⟩)∧e 4=.int .u8 (elemAt c ix)∧e 15=.int .i64 n∧e 16=.int .i64 i∧J i W') i n (Bm 0 (AI prog Tryz.f108 fun e W'=>(e=.returned (.tuple #[])∧J n W')∨∃ ch,e=.panicked ch∧uL ch W')))) .normal e1 [] W':=by
   intro e1 hA h5 h6; have g0:=(hA 0 (by decide)).trans h0; have sF:=(hA 16 (by decide)).trans h16; simp only [NB,B_,g0,h5,h6]; refine PY ((fK i W' Au hj).mono fun en W1 hp=>?_)
   rcases hp with ⟨rfl,vH⟩ | ⟨ch,rfl,EL⟩
   ·simp only [AT,Ai,AA,Bool.not_true,Ar,JU,B_,Lm,Sz,HB,Vb]; simp only [Ao,BC,Nat.reduceEqDiff,↓reduceIte,sF,Az,AA]; exact ⟨Au,trivial,g0,(hA 1 (by decide)).trans h1,(hA 2 (by decide)).trans h2,(hA 4 (by decide)).trans h4,(hA 15 (by decide)).trans sE,by rw [Du (by omega)],vH⟩
   ·simp only [AT,JU,Wt,lB,HB,qB]; exact .inr ⟨ch,rfl,EL⟩
  simp only [Bp,AA]
  refine AP (fun he=>?_) (fun he=>?_)
  ·have he:elemAt c ix=0:=by simpa using he
   have Ki:=hJ i W' hj; have G4:=D2 SY; have VW:i<(Ak c ix).length:=by have:=hn he; omega
   obtain ⟨ar,cr,lr,qC⟩:=Ki.cat.rw.some SY; obtain ⟨_,_,e3,hrc⟩:=qC
   cases e3
   obtain ⟨pr,rfl,QC⟩:=hrc i _ (List.getElem?_eq_getElem VW); simp only [H5,F1,AA]; rw [AB rY (a:=⟨bk,0+1,none⟩) Ki.k1,AB a9 (a:=⟨bx,0,none⟩) Ki.x0]; simp only [AA,lr]; rw [A8 RD s5 VW]; simp only [AA]; rw [AB a5 (a:=⟨pr.block,pr.off+i*1,none⟩) QC]; simp only [AA]; refine EE _ (.put rfl) rfl ?_; show Value.int .u8 (Ak c ix)[i]=_; rw [Gg he G4,List.getElem?_eq_getElem VW]; rfl
  ·have he:elemAt c ix≠0:=by simpa using he
   refine EE _ (.put rfl) rfl ?_; show Value.int .u8 (elemAt c ix)=_; have G4:=D2 SY; unfold A6; unfold elemAt at he ⊢; rw [List.getElem?_eq_getElem G4] at he ⊢; simp only at he ⊢; rw [if_pos he]
 ·simp only [M6,PJ,if_true]; have hi:i=n:=by omega
  exact Me _ _ (.inl rfl) _ _ (.inl ⟨rfl,hi ▸ hj⟩)
theorem oe {fn:FuncId} {nt:Nat} {f:Operand} {p1 p2 a1 a2:Tmp} {A B:Code} {e:Env} {ds:List Deferred} {W:CW} {K:AG} {bk bx r1 r2 n ix:Nat} {c:List Ad} {ty:ByteArray} (ht:Al W)
  (hf:e.ev f=.func (.func 108) #[] #[.pointer (some ⟨bk,0,none⟩),.pointer (some ⟨bx,0,none⟩)]) (SY:A_ c ty=some ix) (Jz:n<100000) (hn:elemAt c ix=0→n≤(Ak c ix).length)
  (hA:∀ ro e0 ds K W,AK prog AV ro fn nt A e0 ds W K=K .normal (Env.of e0 [(a2,e0 p2),(a1,e0 p1)]) ds W) (n8:p1≠p2∧a1≠a2)
  (J:Nat→CW→Prop) (uL:List PanicEntry→CW→Prop) (hJ:∀ i W,J i W→jd W bk bx r1 r2 c ty n)
  (xw:∀ i W1 W2,J i W1→DO (W.sz+1) W1 W2→(∀ b k v,W1.cell b k=some v→W2.cell b k=some v)→J i W2)
  (h0:∀ W2,Kp W W2→Al W2→W2.sz=W.sz+2→W2.obj W.sz=some .deferred→J 0 W2)
  (Zx:∀ (i:Nat) W1 (Kb:AG) (E:Env),(∀ t,t≠p1→t≠p2→t≠a1→t≠a2→E t=e t)→E a1=.int .i64 i→E a2=.int .u8 (A6 c ix i)→i<n→J i W1→(∃ o,W1.obj (W.sz+1)=some o∧∀ a b c d,o≠.cells a b c d) →
   (∀ e' DN W3,W3.obj (W.sz+1)=W1.obj (W.sz+1)→J (i+1) W3→Kb .normal e' DN W3)→(∀ ch e' W3,W3.obj (W.sz+1)=W1.obj (W.sz+1)→uL ch W3→Kb (.panic ch) e' [] W3) →
   AK prog AV (some (W.sz+1)) fn nt B E [] W1 Kb)
  (E3:∀ W',J n W'→K .normal e (mark W.sz::ds) W') (Gr:∀ ch W',uL ch W'→K (.panic ch) e (mark W.sz::ds) W') :
  C6 prog AV none fn nt (.rangeFunc f #[p1,p2] A B) e ds W K:=by
 have BI:∀ {W1 W2:CW} {st DX TD e' aH aI A' B' d'},Df W1 (W.sz+1) st DX TD e' aH aI A' B' d'→DO (W.sz+1) W1 W2→∀ b k v,W1.cell b k=some v→W2.cell b k=some v:=by
  intro W1 W2 st DX TD e' aH aI A' B' d' hl hu b k v hc; obtain ⟨T,ho,_⟩:=hl
  rw [hu.cell]
  ·exact hc
  ·rintro rfl; unfold CW.cell at hc; rw [ho] at hc; cases hc
 refine nC (g:=108) (args:=[.func (.yield (W.sz+1)) #[] #[],.pointer (some ⟨bk,0,none⟩),.pointer (some ⟨bx,0,none⟩)]) ht ?_ fun W2 k2 t2 z2 hd hl=>?_
 ·rw [hf]; rfl
 ·refine (fX (J:=fun i W'=>J i W'∧Df W' (W.sz+1) .ready none fn e nt #[p1,p2] A B W.sz) (uL:=uL) SY Jz hn (fun i W' h=>hJ i W' h.1) (fun i W' hi h=>?_) ⟨h0 W2 k2 t2 z2 hd,hl⟩).mono fun en W' hr=>?_
  ·obtain ⟨hj,Vm⟩:=h; refine gl Vm rfl ?_; rw [hA]; refine ⟨rfl,none,e,nt,#[p1,p2],A,B,W.sz,Vm,fun W3 hu jf=>?_⟩; have hj3:=xw i W' W3 hj hu (BI Vm hu); obtain ⟨uA,hd2⟩:=n8
   refine Zx i W3 _ _ (fun t h1 h2 h3 h4=>by simp only [Ao,BC,List.zip_cons_cons,List.zip_nil_left,Env.Hi,if_neg h1,if_neg h2,if_neg h3,if_neg h4]) (by simp only [Ao,BC,List.zip_cons_cons,List.zip_nil_left,Env.Hi,if_neg uA,if_neg hd2,if_true]) (by simp only [Ao,BC,List.zip_cons_cons,List.zip_nil_left,Env.Hi,if_true,if_neg (Ne.symm uA)]) hi hj3 (by obtain ⟨T,ho,_⟩:=jf; exact ⟨_,ho,fun _ _ _ _ h=>by cases h⟩) (fun e' DN W4 ho hj4=>?_) (fun ch e' W4 ho pz=>?_)
   ·refine ⟨.busy,none,fn,e,nt,#[p1,p2],A,B,W.sz,jf.congr ho,fun W5 OV xx=>.inl ⟨rfl,?_,xx⟩⟩; exact xw _ W4 W5 hj4 OV (BI (jf.congr ho) OV)
   ·exact ⟨.busy,none,fn,e,nt,#[p1,p2],A,B,W.sz,jf.congr ho,rfl,.inr ⟨ch,rfl,pz⟩⟩
  ·rcases hr with ⟨rfl,hj,Vm⟩ | ⟨ch,rfl,hb⟩
   ·refine ⟨⟨_,rfl⟩,.ready,none,fn,e,nt,#[p1,p2],A,B,W.sz,Vm,(by intro h; cases h),fun W5 OV=>E3 W5 ?_⟩; exact xw _ W' W5 hj OV (BI Vm OV)
   ·exact Gr ch W' hb
end Go.Ce
namespace Go.Ce
open Go Go.Proofs Go.Proofs.Tryz
def WD (n:Nat):Int:=if n % 2=1 then -((((n+1) / 2:Nat)):Int) else ((n / 2:Nat):Int)
def FD (b:List UInt8) (c:List Ad) (ix many:Nat):Nat→Nat→Nat→Nat→List Int→Except Int (List Int × Nat × Nat)
 | 0,_,at_,fd,vs=>.ok (vs,fd,at_)
 | m+1,k,at_,fd,vs=>if A6 c ix k=2 then
   (match Et b at_ ((min (fd+1) many:Nat):Int) with
   | .error e=>.error e
   | .ok (n,a)=>FD b c ix many m (k+1) a (max fd n) (vs++[(n:Int)]))
  else
   (match Et b at_ 2000000000 with
   | .error e=>.error e
   | .ok (n,a)=>FD b c ix many m (k+1) a fd (vs++[WD n]))
theorem iG (a b:Int) (W:CW):blt prog .min [3,3] [.int .i64 a,.int .i64 b] W=some (.int .i64 (min a b),W):=by
 have h:blt prog .min [3,3] [.int .i64 a,.int .i64 b] W=some (.int .i64 (cond (decide (b<a)) b a),W):=rfl; rw [h]
 by_cases hq:b<a
 ·rw [decide_eq_true hq,Int.min_eq_right (by omega)]; rfl
 ·rw [decide_eq_false hq,Int.min_eq_left (by omega)]; rfl
theorem ACb (a b:Int) (W:CW):blt prog .max [3,3] [.int .i64 a,.int .i64 b] W=some (.int .i64 (max a b),W):=by
 have h:blt prog .max [3,3] [.int .i64 a,.int .i64 b] W=some (.int .i64 (cond (decide (a<b)) b a),W):=rfl; rw [h]
 by_cases hq:a<b
 ·rw [decide_eq_true hq,Int.max_eq_right (by omega)]; rfl
 ·rw [decide_eq_false hq,Int.max_eq_left (by omega)]; rfl
theorem ya:agg? prog 124=some false:=by kernel_rfl
def Js (n:Nat) (vs:List Int):List Value:=C7 (vs++List.replicate (n-vs.length) 0)
theorem Mm {n:Nat} {vs:List Int} (h:vs.length≤n):(Js n vs).length=n:=by
 unfold Js C7; rw [List.length_map,List.length_append,List.length_replicate]; omega
theorem og {n:Nat} {vs:List Int} (h:vs.length<n) (x:Int):putAt (Js n vs) (0+vs.length*1) [.int .i64 x]=Js n (vs++[x]):=by
 have h1:0+vs.length*1=vs.length:=by omega
 have hl:=Mm (Nat.le_of_lt h); have Mz:=Mm (n:=n) (vs:=vs++[x]) (by simp; omega); rw [h1]; apply List.ext_getElem?; intro j; rw [KO (by rw [hl]; simp; omega)]; unfold Js C7; simp only [List.length_singleton,List.getElem?_map]
 by_cases e:vs.length≤j∧j<vs.length+1
 ·have:j=vs.length:=by omega
  subst this; rw [if_pos e,Nat.sub_self]; rw [List.getElem?_append_left (by simp),List.getElem?_append_right (by omega),Nat.sub_self]; rfl
 ·rw [if_neg e]
  by_cases hj:j<vs.length
  ·rw [List.getElem?_append_left hj,List.getElem?_append_left (by simp; omega),List.getElem?_append_left hj]
  ·rw [List.getElem?_append_right (by omega),List.getElem?_append_right (by simp; omega)]; simp only [List.length_append,List.length_singleton,List.getElem?_replicate]
   by_cases h2:j-vs.length<n-vs.length
   ·rw [if_pos h2,if_pos (by omega)]
   ·rw [if_neg h2,if_neg (by omega)]
theorem jz {n:Nat} {vs:List Int} (h:vs.length<n) (x y:Int):putAt (Js n (vs++[x])) (0+vs.length*1) [.int .i64 y]=Js n (vs++[y]):=by
 have h1:0+vs.length*1=vs.length:=by omega
 have hl:=Mm (n:=n) (vs:=vs++[x]) (by simp; omega); rw [h1]; apply List.ext_getElem?; intro j; rw [KO (by rw [hl]; simp; omega)]; unfold Js C7; simp only [List.length_singleton,List.getElem?_map]
 by_cases e:vs.length≤j∧j<vs.length+1
 ·have:j=vs.length:=by omega
  subst this; rw [if_pos e,Nat.sub_self]; rw [List.getElem?_append_left (by simp),List.getElem?_append_right (by omega),Nat.sub_self]; rfl
 ·rw [if_neg e]
  by_cases hj:j<vs.length
  ·rw [List.getElem?_append_left (by simp; omega),List.getElem?_append_left hj,List.getElem?_append_left (by simp; omega),List.getElem?_append_left hj]
  ·rw [List.getElem?_append_right (by simp; omega),List.getElem?_append_right (by simp; omega)]; simp only [List.length_append,List.length_singleton]
def S3 (rb CU bv j:Nat):Prop:=j=rb∨j=CU∨j=bv
structure VIn (A WI:CW) (rb b3 b8 CU Tj bv n many:Nat) (ty:ByteArray):Prop where
 top:Al WI
 c3:As WI b3 124 [.pointer (some ⟨rb,0,none⟩)]
 c8:As WI b8 3 [.int .i64 many]
 x:As WI Tj 56 [.string ty,.slice (some ⟨bv,0,none⟩) n n]
 lD:A.sz≤rb∧A.sz≤CU∧A.sz≤bv
 ne:b8≠CU∧b8≠bv∧CU≠bv
 many:many≤1000
structure VJ (A WI:CW) (rb CU bv n:Nat) (vb:Value) (W:CW) (at_ fd:Nat) (vs:List Int):Prop where
 EG:Bq (S3 rb CU bv) WI W
 rd:Rd A W rb vb at_
 f:As W CU 3 [.int .i64 fd]
 v:As W bv 3 (Js n vs)
theorem Yv {rb CU bv:Nat} {WI:CW} {b:Nat} {el:TypeId} {vs x y z:List Value} (h:As WI b el vs) (hr:As WI rb 170 x) (hf:As WI CU 3 y) (hv:As WI bv 3 z) (h1:el≠170) (h2:el≠3):¬S3 rb CU bv b:=by
 rintro (rfl | rfl | rfl)
 ·exact h1 (Bl h hr)
 ·exact h2 (Bl h hf)
 ·exact h2 (Bl h hv)
theorem oh {A WI W:CW} {K:AG} {E:Env} {rb b3 b8 CU Tj bv n many ix at_ fd i:Nat} {vb:Value} {b:List UInt8} {c:List Ad} {ty:ByteArray} {vs:List Int} {ro:Option Nat}
  (I:bQ A vb b) (V:VIn A WI rb b3 b8 CU Tj bv n many ty) {xr yf zv:List Value} (hX:As WI rb 170 xr) (tj:As WI CU 3 yf) (py:As WI bv 3 zv) (J:VJ A WI rb CU bv n vb W at_ fd vs) (XP:at_≤b.length) (fU:vs.length=i) (hi:i<n) (cV:fd≤1000)
  (q3:E 3=.pointer (some ⟨b3,0,none⟩)) (q8:E 8=.pointer (some ⟨b8,0,none⟩)) (q10:E 10=.pointer (some ⟨CU,0,none⟩)) (q14:E 14=.pointer (some ⟨Tj,0,none⟩)) (q16:E 16=.int .i64 i) (q17:E 17=.int .u8 (A6 c ix i)) {G:Except Int (List Int × Nat × Nat)} {m:Nat}
  (hG:G=FD b c ix many (m+1) i at_ fd vs)
  (Ac:∀ e' W' Ds Fs vs',Bq (S3 rb CU bv) W W'→VJ A WI rb CU bv n vb W' Ds Fs vs'→Ds≤b.length→Fs≤1000→vs'.length=i+1→G=FD b c ix many m (i+1) Ds Fs vs'→K .normal e' [] W')
  (FY:∀ e' W' x,Bq (S3 rb CU bv) W W'→Bq (S3 rb CU bv) WI W'→Al W'→G=.error x→K (.panic (DL x)) e' [] W') :
  AK prog AV ro 74 140 (AQ prog 74 0) E [] W K:=by
 obtain ⟨Nb,Oe,ZC⟩:=V.ne; have nb3:=Yv V.c3 hX tj py (by decide) (by decide); have nbx:=Yv V.x hX tj py (by decide) (by decide)
 have nb8:¬S3 rb CU bv b8:=by
  rintro (e | e | e)
  ·have h8:=V.c8; rw [e] at h8; have:=Bl h8 hX; cases this
  ·exact Nb e
  ·exact Oe e
 have bT:bv≠rb:=by
  rintro rfl; have:=Bl py hX; cases this
 have fY:CU≠rb:=by
  rintro rfl; have:=Bl tj hX; cases this
 have atW:∀ W',Bq (S3 rb CU bv) WI W'→ld prog 124 (.pointer (some ⟨b3,0,none⟩)) W'=some (.pointer (some ⟨rb,0,none⟩))∧ld prog 3 (.pointer (some ⟨b8,0,none⟩)) W'=some (.int .i64 many)∧ld prog 40 (.pointer (some ⟨Tj,0+1,none⟩)) W'=some (.slice (some ⟨bv,0,none⟩) n n):=fun W' h =>
  ⟨AB ya (a:=⟨b3,0,none⟩) ((h.HR V.top nb3 V.c3).cell rfl),AB a3 (a:=⟨b8,0,none⟩) ((h.HR V.top nb8 V.c8).cell rfl),AB M7 (a:=⟨Tj,0+1,none⟩) ((h.HR V.top nbx V.x).cell rfl)⟩
 have gI:(Js n vs).length=n:=Mm (by omega); have uM:=V.many; obtain ⟨l3,l8,lx⟩:=atW W J.EG; have l10:ld prog 3 (.pointer (some ⟨CU,0,none⟩)) W=some (.int .i64 fd):=AB a3 (a:=⟨CU,0,none⟩) (J.f.cell rfl); rw [FD] at hG
 have put:∀ (W1:CW) (x:Int),Bq (S3 rb CU bv) WI W1→Al W1→As W1 bv 3 (Js n vs)→∀ {Kx:CW→Prop},(∀ W2,DO bv W1 W2→Bq (S3 rb CU bv) WI W2→Al W2→As W2 bv 3 (Js n (vs++[x]))→Kx W2)→wV (CE prog 3 (.pointer (some ⟨bv,0+i*1,none⟩)) (.int .i64 x) W1) Kx:=by
  intro W1 x hc ht hB Kx hk; refine Af s3 (a:=⟨bv,0+i*1,none⟩) (v:=.int .i64 x) rfl hB (by rw [gI]; simp; omega) fun W2 hu GK=>?_; have hu:DO bv W1 W2:=hu; refine hk W2 hu (hc.then hu.EG fun j _ h=>.inr (.inr h)) (ht.A5 (hB.lt ht) hu) ?_; have:=og (n:=n) (vs:=vs) (by omega) x; rw [fU] at this; rw [←this]; exact GK
 have jx:EV prog 40 (.slice (some ⟨bv,0,none⟩) n n) (.int .i64 i)=some (.pointer (some ⟨bv,0+i*1,none⟩)):=A8 (i:=i) H3 s3 hi; rw [wJ,q17]; simp only [Bp,AA]
 refine AP (fun hk=>?_) (fun hk=>?_)
 ·have hk:A6 c ix i=2:=by simpa using hk
  rw [if_pos hk] at hG; rw [q14,q3,q10,q8,q16]; simp only [D1,AA]; rw [lx,l3,l10,l8]; simp only [Az,AA]; rw [show ((fd:Int)+1)=((fd+1:Nat):Int) by omega,wrap64 (by omega) (by omega)]; refine GX (iG _ _ W) ?_; rw [show min ((fd+1:Nat):Int) (many:Int)=((min (fd+1) many:Nat):Int) by omega]; refine (JW I J.rd XP).mono fun en W1 ⟨Ti,t1,hp⟩=>?_; have yb:Bq (S3 rb CU bv) WI W1:=J.EG.then Ti fun j _ h=>.inl h; obtain ⟨l3',l8',lx'⟩:=atW W1 yb
  cases hn:Et b at_ ((min (fd+1) many:Nat):Int) with
  | error x =>
   rw [hn] at hp hG; have hp:en=.panicked (DL x):=hp; subst hp; refine D9 ?_; exact ⟨by simp only [l3,lx,and_self],FY _ W1 x (Bq.refl (S3 rb CU bv) W |>.then Ti fun j _ h=>.inl h) yb t1 hG⟩
  | ok r =>
   obtain ⟨x,a1⟩:=r; rw [hn] at hp hG; obtain ⟨v,rfl,rfl,HZ⟩:=hp; obtain ⟨Y',_,DC⟩:=FP hn; refine AZ ?_; rw [jx]; simp only [AA]; have Wf:=Ti.HR J.rd.top bT J.v; have Zd:=Ti.HR J.rd.top fY J.f; refine put W1 x yb t1 Wf fun W2 hu lI t2 GK=>?_; obtain ⟨yc,AE4,yd⟩:=atW W2 lI; refine ⟨by simp only [l3,lx,lx',and_self],trivial,?_⟩; have Xw:As W2 CU 3 [.int .i64 fd]:=Zd.congr (hu.obj _ ZC); have AE5:ld prog 3 (.pointer (some ⟨CU,0,none⟩)) W2=some (.int .i64 fd):=AB a3 (a:=⟨CU,0,none⟩) (Xw.cell rfl)
   have lv:ld prog 3 (.pointer (some ⟨bv,0+i*1,none⟩)) W2=some (.int .i64 x):=by
    refine AB a3 (a:=⟨bv,0+i*1,none⟩) (GK.cell ?_); show (Js n (vs++[(x:Int)]))[0+i*1]?=_; unfold Js C7; rw [List.getElem?_map,List.getElem?_append_left (by simp; omega),List.getElem?_append_right (by omega),show 0+i*1-vs.length=0 by omega]; rfl
   rw [AE5,yd]; simp only [AA]; rw [jx]; simp only [AA]; rw [lv]; simp only [AA]; refine GX (ACb _ _ W2) ?_; rw [show max (fd:Int) (x:Int)=((max fd x:Nat):Int) by omega]; refine Af s3 (a:=⟨CU,0,none⟩) (v:=.int .i64 ((max fd x:Nat):Int)) rfl Xw (by simp) fun W3 OW Fg=>?_; have OW:DO CU W2 W3:=OW; have Fg:As W3 CU 3 [.int .i64 ((max fd x:Nat):Int)]:=Fg; have hC3:Bq (S3 rb CU bv) WI W3:=lI.then OW.EG fun j _ h=>.inr (.inl h); have t3:=t2.A5 (Xw.lt t2) OW; refine ⟨by simp only [and_self],trivial,?_⟩; refine Ac _ W3 a1 (max fd x) (vs++[(x:Int)]) (((Bq.refl (S3 rb CU bv) W |>.then Ti fun j _ h=>.inl h).then hu.EG fun j _ h=>.inr (.inr h)).then OW.EG fun j _ h=>.inr (.inl h)) ⟨hC3,⟨(HZ.kp.A5 V.lD.2.2 hu).A5 V.lD.2.1 OW,t3,HZ.hb,(HZ.HR.congr (hu.obj _ (Ne.symm bT))).congr (OW.obj _ (Ne.symm fY))⟩,Fg,GK.congr (OW.obj _ (Ne.symm ZC))⟩ DC (by omega) (by simp [fU]) hG
 ·have hk:A6 c ix i≠2:=by simpa using hk
  rw [if_neg hk] at hG; rw [q14,q3,q16,l3]; simp only [AA]; refine (JW (most:=2000000000) I J.rd XP).mono fun en W1 ⟨Ti,t1,hp⟩=>?_; have yb:Bq (S3 rb CU bv) WI W1:=J.EG.then Ti fun j _ h=>.inl h; obtain ⟨l3',l8',lx'⟩:=atW W1 yb
  cases hn:Et b at_ 2000000000 with
  | error x =>
   rw [hn] at hp hG; have hp:en=.panicked (DL x):=hp; subst hp; refine D9 ?_; exact FY _ W1 x (Bq.refl (S3 rb CU bv) W |>.then Ti fun j _ h=>.inl h) yb t1 hG
  | ok r =>
   obtain ⟨x,a1⟩:=r; rw [hn] at hp hG; obtain ⟨v,rfl,rfl,HZ⟩:=hp; obtain ⟨Y',_,DC⟩:=FP hn; refine AZ ?_; simp only [D1,AA]; rw [lx']; simp only [AA]; refine Ay (aE _ _ _ (by decide)) ?_; rw [show ((x:Int).tdiv 2)=((x / 2:Nat):Int) by rw [Int.tdiv_eq_ediv_of_nonneg (by omega)]; omega,wrap64 (by omega) (by omega)]; rw [jx]; simp only [AA]; have Wf:=Ti.HR J.rd.top bT J.v; have Zd:=Ti.HR J.rd.top fY J.f; refine put W1 _ yb t1 Wf fun W2 hu lI t2 GK=>?_; obtain ⟨yc,AE4,yd⟩:=atW W2 lI; have Xw:As W2 CU 3 [.int .i64 fd]:=Zd.congr (hu.obj _ ZC); have NW:Rd A W2 rb vb a1:=⟨HZ.kp.A5 V.lD.2.2 hu,t2,HZ.hb,HZ.HR.congr (hu.obj _ (Ne.symm bT))⟩
   refine Ay (Uf _ _ _ (by decide)) ?_; rw [show ((x:Int).tmod 2)=((x % 2:Nat):Int) by rw [Int.tmod_eq_emod_of_nonneg (by omega)]; rfl]; refine Ay (Bp _ _ _) ?_
   refine AP (fun ho=>?_) (fun ho=>?_)
   ·have ho:x % 2=1:=by have:=eq_of_beq ho; omega
    rw [yd]; simp only [Az,AA]; rw [show ((x:Int)+1)=((x+1:Nat):Int) by omega,wrap64 (by omega) (by omega)]
    refine Ay (v:=.int .i64 (-((x+1:Nat):Int))) (by
     show some (Value.int .i64 (IntKind.i64.wrap (0-((x+1:Nat):Int))))=_
     rw [wrap64 (by omega) (by omega),Int.zero_sub]) ?_
    refine Ay (aE _ _ _ (by decide)) ?_; rw [show ((-((x+1:Nat):Int)).tdiv 2)=-(((x+1) / 2:Nat):Int) by rw [Int.neg_tdiv,Int.tdiv_eq_ediv_of_nonneg (by omega)]; omega,wrap64 (by omega) (by omega)]; rw [jx]; simp only [AA]; have Mz:=Mm (n:=n) (vs:=vs++[((x / 2:Nat):Int)]) (by simp; omega); refine Af s3 (a:=⟨bv,0+i*1,none⟩) (v:=.int .i64 (-(((x+1) / 2:Nat):Int))) rfl GK (by rw [Mz]; simp; omega) fun W3 OW Fg=>?_; have OW:DO bv W2 W3:=OW; have uC:=jz (n:=n) (vs:=vs) (by omega) ((x / 2:Nat):Int) (-(((x+1) / 2:Nat):Int)); rw [fU] at uC; have Fg:As W3 bv 3 (Js n (vs++[-(((x+1) / 2:Nat):Int)])):=by rw [←uC]; exact Fg
    have t3:=t2.A5 (GK.lt t2) OW; have Vi:WD x=-(((x+1) / 2:Nat):Int):=by unfold WD; rw [if_pos ho]
    refine Ac _ W3 a1 fd (vs++[-(((x+1) / 2:Nat):Int)]) (((Bq.refl (S3 rb CU bv) W |>.then Ti fun j _ h=>.inl h).then hu.EG fun j _ h=>.inr (.inr h)).then OW.EG fun j _ h=>.inr (.inr h)) ⟨lI.then OW.EG fun j _ h=>.inr (.inr h),⟨NW.kp.A5 V.lD.2.2 OW,t3,HZ.hb,NW.HR.congr (OW.obj _ (Ne.symm bT))⟩,Xw.congr (OW.obj _ ZC),Fg⟩ DC cV (by simp [fU]) (by rw [hG]; show FD b c ix many m (i+1) a1 fd (vs++[WD x])=_; rw [Vi])
   ·have ho:¬x % 2=1:=by
     intro e; rw [e] at ho; simp at ho
    have Vi:WD x=((x / 2:Nat):Int):=by unfold WD; rw [if_neg ho]
    exact Ac _ W2 a1 fd (vs++[((x / 2:Nat):Int)]) ((Bq.refl (S3 rb CU bv) W |>.then Ti fun j _ h=>.inl h).then hu.EG fun j _ h=>.inr (.inr h)) ⟨lI,NW,Xw,GK⟩ DC cV (by simp [fU]) (by rw [hG]; show FD b c ix many m (i+1) a1 fd (vs++[WD x])=_; rw [Vi])
end Go.Ce
namespace Go.Ce
open Go Go.Proofs Go.Proofs.Tryz
def Marks (B:Nat) (W:CW) (ds:List Deferred):Prop:=∃ rs:List Nat,ds=rs.map mark∧rs.Nodup∧∀ r,r ∈ rs→W.obj r=some .deferred∧B≤r
theorem Marks.nil (B:Nat) (W:CW):Marks B W []:=⟨[],rfl,List.nodup_nil,fun r h=>by cases h⟩
theorem Mn {P:Program} {fn:Func} {Q:Ending→CW→Prop} {x:Exit} {e:Env} {B:Nat} {W:CW} (ht:Al W) {ds:List Deferred} (h:Marks B W ds) (hq:∀ W',(∀ j o,W.obj j=some o→o≠.deferred→W'.obj j=some o)→(∀ j,j<B→W'.obj j=W.obj j)→W'.sz=W.sz→Al W'→AI P fn Q x e [] W'):AI P fn Q x e ds W:=by
 obtain ⟨rs,rfl,Vx,hr⟩:=h
 suffices key:∀ (rs:List Nat) (W0:CW),Al W0→rs.Nodup→(∀ r,r ∈ rs→W0.obj r=some .deferred∧B≤r)→(∀ W',(∀ j o,W0.obj j=some o→o≠.deferred→W'.obj j=some o)→(∀ j,j<B→W'.obj j=W0.obj j)→W'.sz=W0.sz→Al W'→AI P fn Q x e [] W')→AI P fn Q x e (rs.map mark) W0 from key rs W ht Vx hr hq
 intro rs
 induction rs with
 | nil=>intro W0 ht _ _ hq; exact hq W0 (fun j o h _=>h) (fun j _=>rfl) rfl ht
 | cons r rs ih =>
  intro W0 ht Vx hr hq; obtain ⟨HZ,NW⟩:=hr r (by simp); obtain ⟨Nb,Oe⟩:=List.nodup_cons.1 Vx
  refine Im HZ (ih (W0.A5 r .dead) (ht.A5 (ht _ _ HZ) (DO.of _ _ _)) Oe (fun r' h'=>?_) fun W' h1 h2 h3 h4=>hq W' (fun j o hj ho=>?_) (fun j hj=>?_) h3 h4)
  ·obtain ⟨a,b⟩:=hr r' (by simp [h']); exact ⟨by rw [Fz,if_neg (by rintro rfl; exact Nb h')]; exact a,b⟩
  ·refine h1 j o ?_ ho
   rw [Fz,if_neg]
   ·exact hj
   ·rintro rfl; rw [HZ] at hj; cases hj; exact ho rfl
  ·rw [h2 j hj,Fz,if_neg (by omega)]
theorem Marks.EG {B:Nat} {W W':CW} {ds:List Deferred} (h:Marks B W ds) (ho:∀ j,W.obj j=some .deferred→B≤j→W'.obj j=some .deferred):Marks B W' ds:=by
 obtain ⟨rs,h1,h2,h3⟩:=h; exact ⟨rs,h1,h2,fun r hr=>⟨ho r (h3 r hr).1 (h3 r hr).2,(h3 r hr).2⟩⟩
theorem Marks.push {B:Nat} {W:CW} {ds:List Deferred} {r:Nat} (h:Marks B W ds) (hr:W.obj r=some .deferred) (hB:B≤r) (hn:mark r ∉ ds):Marks B W (mark r::ds):=by
 obtain ⟨rs,rfl,h2,h3⟩:=h; refine ⟨r::rs,rfl,List.nodup_cons.2 ⟨fun hm=>hn (List.mem_map.2 ⟨r,hm,rfl⟩),h2⟩,fun r' Iq=>?_⟩
 rcases List.mem_cons.1 Iq with rfl | hm
 ·exact ⟨hr,hB⟩
 ·exact h3 r' hm
def Ek (b:List UInt8) (c:List Ad) (ts:List ByteArray) (many:Nat):Nat→Nat→Nat→Nat→Nat→List BM→Except Int (List BM × Nat × Nat × Nat)
 | 0,_,at_,used,fd,out=>.ok (out,used,fd,at_)
 | m+1,i,at_,used,fd,out=>if i<fd then
   (match Et b at_ (min (used:Int) ((ts.length:Int)-1)) with
   | .error e=>.error e
   | .ok (t,a1)=>match ts[t]? with
    | none=>.error 4
    | some ty=>match A_ c ty with
     | none=>.error 4
     | some ix=>match (if elemAt c ix≠0 then Et b a1 200 else .ok ((Ak c ix).length,a1)) with
      | .error e=>.error e
      | .ok (n,a2)=>match FD b c ix many n 0 a2 fd [] with
       | .error e=>.error e
       | .ok (vs,Fs,a3)=>Ek b c ts many m (i+1) a3 (if t=used then used+1 else used) Fs (out++[⟨ty,vs⟩]))
  else .error 4
def CF (b:List UInt8) (c:List Ad) (ask:ByteArray→Option Int) (at_:Nat):Except Int (List BM × Nat):=match Ip b ask at_ with
 | .error e=>.error e
 | .ok (ts,a1)=>match Et b a1 1000 with
  | .error e=>.error e
  | .ok (many,a2)=>match Ek b c ts many many 0 a2 0 (min many 1) [] with
   | .error e=>.error e
   | .ok (out,used,fd,a3)=>if fd=many∧used=ts.length∧a3=b.length then .ok (out,a3) else .error 4
def Gl (p:BM × Value):List Value:=[.string p.1.type,p.2]
def AE6 (B:Nat) (W:CW) (ps:List (BM × Value)):Prop:=∀ p,p ∈ ps→∃ bv,p.2=.slice (some ⟨bv,0,none⟩) p.1.AH.length p.1.AH.length∧As W bv 3 (C7 p.1.AH)∧B≤bv
structure El (B:Nat) (W:CW) (v:Value) (ps:List (BM × Value)):Prop where
 own:DU W 56 2 v (ps.flatMap Gl)
 new:CC B v
 pv:AE6 B W ps
theorem El.of {B:Nat} {W W':CW} {v:Value} {ps:List (BM × Value)} (h:El B W v ps) (ho:∀ j o,B≤j→W.obj j=some o→o≠.deferred→W'.obj j=some o):El B W' v ps:=by
 refine ⟨N0 h.own fun j hj=>?_,h.new,fun p hp=>?_⟩
 ·obtain ⟨c,n,z,X6,_⟩:=D3 h.own hj; rw [X6]; exact ho j _ (h.new.in hj) X6 (by simp)
 ·obtain ⟨bv,h1,hB,h3⟩:=h.pv p hp; refine ⟨bv,h1,?_,h3⟩; obtain ⟨c,n,z,X6,hx⟩:=hB; exact ⟨c,n,z,ho bv _ h3 X6 (by simp),hx⟩
end Go.Ce
namespace Go.Ce
open Go Go.Proofs Go.Proofs.Tryz
structure TP where
 A:CW
 L:CW
 rb:Nat
 b3:Nat
 b4:Nat
 b8:Nat
 CU:Nat
 r1:Nat
 r2:Nat
 vb:Value
 vt:Value
 b:List UInt8
 c:List Ad
 ts:List ByteArray
 many:Nat
 G:Except Int (List BM × Nat × Nat × Nat)
structure uN (p:TP):Prop where
 rd:bQ p.A p.vb p.b
 cat:Dr p.A p.r1 p.r2 p.c
 ok:BL p.c=true
 C:OP p.c
 top:Al p.L
 kA:Kp p.A p.L
 c3:As p.L p.b3 124 [.pointer (some ⟨p.rb,0,none⟩)]
 c4:As p.L p.b4 78 [.map (some p.r1),.map (some p.r2)]
 c8:As p.L p.b8 3 [.int .i64 p.many]
 vt:DU p.L 9 1 p.vt (strs p.ts)
 tl:p.ts.length≤100
 known:∀ s,s ∈ p.ts→(A_ p.c s).isSome=true
 xr:∃ v,As p.L p.rb 170 v
 xf:∃ v,As p.L p.CU 3 v
 lD:p.A.sz≤p.rb∧p.A.sz≤p.CU
 ne:p.b8≠p.CU
 many:p.many≤1000
def S2 (rb CU j:Nat):Prop:=j=rb∨j=CU
structure TJ (p:TP) (W:CW) (at_ fd:Nat) (vo:Value) (ps:List (BM × Value)) (ds:List Deferred):Prop where
 EG:Bq (S2 p.rb p.CU) p.L W
 rd:Rd p.A W p.rb p.vb at_
 f:As W p.CU 3 [.int .i64 fd]
 heap:El p.L.sz W vo ps
 marks:Marks p.L.sz W ds
structure TE (p:TP) (e:Env) (i used:Nat) (vo:Value):Prop where
 e3:e 3=.pointer (some ⟨p.b3,0,none⟩)
 e4:e 4=.pointer (some ⟨p.b4,0,none⟩)
 e7:e 7=p.vt
 e8:e 8=.pointer (some ⟨p.b8,0,none⟩)
 e9:e 9=.int .i64 used
 Vd:e 10=.pointer (some ⟨p.CU,0,none⟩)
 SX:e 11=vo
 ra:e 26=.int .i64 p.many
 ye:e 27=.int .i64 i
def TP.J (p:TP) (i:Nat) (e:Env) (ds:List Deferred) (W:CW):Prop:=∃ at_ fd used vo ps,TJ p W at_ fd vo ps ds∧TE p e i used vo∧at_≤p.b.length∧fd≤1000∧used≤p.ts.length∧ps.length=i∧p.G=Ek p.b p.c p.ts p.many (p.many-i) i at_ used fd (ps.map (·.1))
section
variable {p:TP} (I:uN p)
include I
theorem uN.lts:p.rb<p.L.sz∧p.CU<p.L.sz:=by
 obtain ⟨_,h1⟩:=I.xr; obtain ⟨_,h2⟩:=I.xf; exact ⟨h1.lt I.top,h2.lt I.top⟩
theorem uN.rne:p.rb≠p.CU:=by
 obtain ⟨_,h1⟩:=I.xr; obtain ⟨_,h2⟩:=I.xf; intro e; rw [e] at h1; have:=Bl h1 h2; cases this
theorem uN.yg {b:Nat} {el:TypeId} {vs:List Value} (h:As p.L b el vs) (h1:el≠170) (h2:el≠3):¬S2 p.rb p.CU b:=by
 obtain ⟨_,k1⟩:=I.xr; obtain ⟨_,k2⟩:=I.xf
 rintro (rfl | rfl)
 ·exact h1 (Bl h k1)
 ·exact h2 (Bl h k2)
theorem uN.at {W:CW} (h:Bq (S2 p.rb p.CU) p.L W):ld prog 124 (.pointer (some ⟨p.b3,0,none⟩)) W=some (.pointer (some ⟨p.rb,0,none⟩))∧As W p.b4 78 [.map (some p.r1),.map (some p.r2)]∧As W p.b3 124 [.pointer (some ⟨p.rb,0,none⟩)]∧As W p.b8 3 [.int .i64 p.many]∧DU W 9 1 p.vt (strs p.ts):=by
 have h3:=h.HR I.top (I.yg I.c3 (by decide) (by decide)) I.c3; refine ⟨AB ya (a:=⟨p.b3,0,none⟩) (h3.cell rfl),h.HR I.top (I.yg I.c4 (by decide) (by decide)) I.c4,h3,h.HR I.top ?_ I.c8,h.own I.top I.vt fun j hj=>I.yg (D3 I.vt hj) (by decide) (by decide)⟩
 rintro (e | e)
 ·obtain ⟨_,k1⟩:=I.xr; have h8:=I.c8; rw [e] at h8; have:=Bl h8 k1; cases this
 ·exact I.ne e
theorem TJ.step {W W':CW} {at_ fd Ds:Nat} {vo:Value} {ps:List (BM × Value)} {ds:List Deferred} (J:TJ p W at_ fd vo ps ds) (hc:Bq (WC p.rb) W W') (hr:Rd p.A W' p.rb p.vb Ds):TJ p W' Ds fd vo ps ds:=by
 have hl:=I.lts; have hs:=J.EG.sz; have X6:∀ j o,W.obj j=some o→j≠p.rb→W'.obj j=some o:=fun j o hj Dm=>by rw [hc.obj j (J.rd.top _ _ hj) Dm]; exact hj
 exact ⟨J.EG.then hc fun j _ h=>.inl h,hr,J.f.congr (hc.obj _ (by omega) (Ne.symm I.rne)),J.heap.of fun j o hB hj _=>X6 j o hj (by omega),J.marks.EG fun j hj hB=>X6 j _ hj (by omega)⟩
end
end Go.Ce
namespace Go.Ce
open Go Go.Proofs Go.Proofs.Tryz
theorem AE7:(prog.info? 56).map (·.bytes)=some 40:=by kernel_rfl
theorem ACc (s:ByteArray) (a:Addr) (n m:Nat) (W:CW):V3 prog 24 1 [(0,.agg [.string s,.slice (some a) n m].toArray)] W=some (.slice (some ⟨W.sz,0,none⟩) 1 1,W.new (.cells (Tr.nil.Ag 0 [.string s,.slice (some a) n m]) [Value.string s,.slice (some a) n m].length #[] 56)):=by kernel_rfl
theorem AE8:DM prog 40=some 1:=by kernel_rfl
theorem om (n:Nat):Js n []=List.replicate n (.int .i64 0):=by
 unfold Js C7; simp
theorem oo {n:Nat} {vs:List Int} (h:vs.length=n):Js n vs=C7 vs:=by
 unfold Js; rw [h,Nat.sub_self]; simp
theorem HO:∀ ps:List (BM × Value),(ps.flatMap Gl).length=ps.length*2
 | []=>rfl
 | q::ps=>by
  have ih:=HO ps; simp only [List.flatMap_cons,List.length_append,ih,List.length_cons,Gl,List.length_nil]; omega
theorem bU {a b:Nat} (h:mark a=mark b):a=b:=by
 unfold mark at h
 injection h with h1 h2
 injection h1
theorem fZ {p:TP} (I:uN p) {K:AG} {W:CW} {e:Env} {ds:List Deferred} {i n ix Tj at_ fd used m:Nat} {vo:Value} {ps:List (BM × Value)} {ty:ByteArray} (J:TJ p W at_ fd vo ps ds) (E:TE p e i used vo)
  (qE:e 14=.pointer (some ⟨Tj,0,none⟩)) (sE:e 15=.int .i64 n) (hx:As W Tj 56 [.string ty,.slice none 0 0]) (sV:p.L.sz≤Tj) (Dm:∀ j,BV vo j→j≠Tj) (SY:A_ p.c ty=some ix) (Lw:elemAt p.c ix=0→n≤(Ak p.c ix).length) (hn:n≤20100) (XP:at_≤p.b.length) (cV:fd≤1000) (hi:i<1000)
  (hlen:ps.length=i)
  (hG:p.G=match FD p.b p.c ix p.many n 0 at_ fd [] with | .error e=>.error e | .ok (vs,Fs,a3)=>Ek p.b p.c p.ts p.many m (i+1) a3 used Fs (ps.map (·.1)++[⟨ty,vs⟩]))
  (Gr:∀ e' DN W' x,Marks p.L.sz W' DN→Bq (S2 p.rb p.CU) p.L W'→Al W'→p.G=.error x→K (.panic (DL x)) e' DN W')
  (Ac:∀ e' DN W' Ds Fs lF q,TJ p W' Ds Fs lF (ps++[q]) DN→TE p e' (i+1) used lF→Ds≤p.b.length→Fs≤1000→p.G=Ek p.b p.c p.ts p.many m (i+1) Ds used Fs ((ps++[q]).map (·.1))→K .normal e' DN W') :
  (LK none K) .normal e ds W:=by
 obtain ⟨Wd,Mz⟩:=I.lts; have hs:=J.EG.sz; simp only [LK,B_]; rw [sE,qE]; refine te H3 s3 z3 rfl by3 (by omega) (n:=n) (by omega) J.rd.top fun W1 k1 t1 z1 oG=>?_; simp only [D1,AA]; have Y':=hx.ext J.rd.top k1; refine Af AE8 (a:=⟨Tj,0+1,none⟩) (v:=.slice (some ⟨W.sz,0,none⟩) n n) rfl Y' (by simp) fun W2 hu GK=>?_; have hu:DO Tj W1 W2:=hu; have GK:As W2 Tj 56 [.string ty,.slice (some ⟨W.sz,0,none⟩) n n]:=by simpa [putAt] using GK
 have AGY:=hx.lt J.rd.top; have t2:=t1.A5 (Y'.lt t1) hu; have K1:∀ j,j<W.sz→j≠Tj→W2.obj j=W.obj j:=fun j hj Dm=>by rw [hu.obj j Dm,k1.obj j hj]
 have lI:Bq (S2 p.rb p.CU) p.L W2:=⟨by rw [hu.sz]; have:=k1.sz; omega,fun j hj hS=>by rw [K1 j (by omega) (by omega)]; exact J.EG.obj j hj hS⟩
 have NW:Rd p.A W2 p.rb p.vb at_:=⟨(J.rd.kp.trans k1).A5 (by have:=I.kA.sz; omega) hu,t2,J.rd.hb,J.rd.HR.congr (K1 _ (by omega) (by omega))⟩
 have AE9:As W2 W.sz 3 (Js n []):=by
  rw [om]; exact oG.congr (hu.obj _ (by omega))
 have J2:TJ p W2 at_ fd vo ps ds:=by
  refine ⟨lI,NW,J.f.congr (K1 _ (by omega) (by omega)),⟨N0 J.heap.own fun j hj=>K1 j (Nw J.rd.top J.heap.own hj) (Dm j hj),J.heap.new,fun q hq=>?_⟩,J.marks.EG fun j hj hB=>?_⟩
  ·obtain ⟨bv,h1,h2,h3⟩:=J.heap.pv q hq; exact ⟨bv,h1,h2.congr (K1 _ (h2.lt J.rd.top) (by rintro rfl; have:=Bl h2 hx; cases this)),h3⟩
  ·rw [K1 j (J.rd.top _ _ hj) (by
    rintro rfl; obtain ⟨c,nn,z,ho,_⟩:=hx
    rw [ho] at hj; cases hj)]
   exact hj
 obtain ⟨l3,B4,B3,B8,BT⟩:=I.at lI; rw [E.e4,OU B4,BO (vs:=[.string ty,.slice (some ⟨W.sz,0,none⟩) n n]) (a:=⟨Tj,0,none⟩) YX Ia rfl (by omega) GK.cells]; simp only [AA]; refine (Mf (r1:=p.r1) (r2:=p.r2) (ty:=ty) (vx:=.slice (some ⟨W.sz,0,none⟩) n n) t2).mono fun en W3 ⟨k3,t3,bk,bx,Ef,Y7,hbx,fP,fQ⟩=>?_; subst Ef; refine AZ ?_; have z2:W.sz<W2.sz:=by rw [hu.sz,z1]; omega
 have hs3:=k3.sz; have J3:TJ p W3 at_ fd vo ps ds:=J2.step I k3.rd (NW.S4 k3 t3); have hC3:=J3.EG; obtain ⟨l3',B4',B3',B8',BT'⟩:=I.at hC3; have ACd:As W3 Tj 56 [.string ty,.slice (some ⟨W.sz,0,none⟩) n n]:=GK.ext t2 k3; have sW:As W3 W.sz 3 (Js n []):=AE9.ext t2 k3; have V:VIn p.A W3 p.rb p.b3 p.b8 p.CU Tj W.sz n p.many ty:=⟨t3,B3',B8',ACd,⟨I.lD.1,I.lD.2,by have:=I.kA.sz; omega⟩,⟨I.ne,by have:=I.c8.lt I.top; omega,by omega⟩,I.many⟩
 have nS:∀ j,W3.sz≤j→¬S3 p.rb p.CU W.sz j:=by
  rintro j hj (rfl | rfl | rfl) <;> omega
 have mk:∀ W',Bq (S3 p.rb p.CU W.sz) W3 W'→W'.obj W3.sz=some .deferred→(∀ j o,W.obj j=some o→p.L.sz≤j→j≠Tj→W'.obj j=some o)∧Marks p.L.sz W' (mark W3.sz::ds)∧Bq (S2 p.rb p.CU) p.L W':=by
  intro W' hc hd
  have X6:∀ j o,W.obj j=some o→p.L.sz≤j→j≠Tj→W'.obj j=some o:=by
   intro j o hj hB AE'; have U0:=J.rd.top _ _ hj; rw [hc.obj j (by omega) (by rintro (rfl | rfl | rfl) <;> omega),k3.obj j (by omega),K1 j U0 AE']; exact hj
  refine ⟨X6,Marks.push (J.marks.EG fun j hj hB=>?_) hd (by omega) fun hm=>?_,⟨by have:=hc.sz; omega,fun j hj hS=>by rw [hc.obj j (by omega) (by rintro (e | e | e); exact hS (.inl e); exact hS (.inr e); omega)]; exact hC3.obj j hj hS⟩⟩
  ·exact X6 j _ hj hB (by
    rintro rfl; obtain ⟨c,nn,z,ho,_⟩:=hx
    rw [ho] at hj; cases hj)
  ·obtain ⟨rs,VV,_,hr⟩:=J.marks; rw [VV] at hm; obtain ⟨r,HZ,NW⟩:=List.mem_map.1 hm; have:=bU NW; subst this; have:=J.rd.top _ _ (hr _ HZ).1; omega
 have fin:∀ (W':CW) Ds Fs vs,VJ p.A W3 p.rb p.CU W.sz n p.vb W' Ds Fs vs→W'.obj W3.sz=some .deferred→vs.length=n→TJ p W' Ds Fs vo ps (mark W3.sz::ds)∧As W' W.sz 3 (C7 vs)∧As W' Tj 56 [.string ty,.slice (some ⟨W.sz,0,none⟩) n n]:=by
  intro W' Ds Fs vs hv hd fU; obtain ⟨X6,qi,hcL⟩:=mk W' hv.EG hd
  refine ⟨⟨hcL,hv.rd,hv.f,⟨N0 J.heap.own fun j hj=>?_,J.heap.new,fun q hq=>?_⟩,qi⟩,?_,?_⟩
  ·obtain ⟨c,nn,z,ho,_⟩:=D3 J.heap.own hj; rw [ho]; exact X6 j _ ho (J.heap.new.in hj) (Dm j hj)
  ·obtain ⟨bv,h1,h2,h3⟩:=J.heap.pv q hq; refine ⟨bv,h1,?_,h3⟩; obtain ⟨c,nn,z,ho,KW⟩:=h2
   exact ⟨c,nn,z,X6 bv _ ho h3 (by
    rintro rfl
    have:=Bl (⟨c,nn,z,ho,KW⟩:As W bv 3 _) hx; cases this),KW⟩
  ·rw [←oo fU]; exact hv.v
  ·refine ACd.congr (hv.EG.obj _ (by omega) ?_); rintro (e | e | e) <;> omega
 have xr3:=J3.rd.HR; have xf3:=J3.f
 refine oe (bk:=bk) (bx:=bx) (r1:=p.r1) (r2:=p.r2) (n:=n) (ix:=ix) (c:=p.c) (ty:=ty) t3 rfl SY (by omega) Lw (fun ro e0 ds K W=>wH ro e0 ds K W) ⟨by decide,by decide⟩
  (fun j W'=>W'.obj W3.sz=some .deferred∧W3.sz+2≤W'.sz∧∃ Ds Fs vs,VJ p.A W3 p.rb p.CU W.sz n p.vb W' Ds Fs vs∧Ds≤p.b.length∧Fs≤1000∧vs.length=j∧FD p.b p.c ix p.many n 0 at_ fd []=FD p.b p.c ix p.many (n-j) j Ds Fs vs)
  (fun ch W'=>W'.obj W3.sz=some .deferred∧∃ x,ch=DL x∧Bq (S3 p.rb p.CU W.sz) W3 W'∧Al W'∧FD p.b p.c ix p.many n 0 at_ fd []=.error x)
  ?_ ?_ ?_ ?_ ?_ ?_
 ·rintro j W' ⟨_,_,Ds,Fs,vs,hv,_⟩; have hk:=hv.EG.HR t3 (Yv fP xr3 xf3 sW (by decide) (by decide)) fP; have pn:=hv.EG.HR t3 (Yv fQ xr3 xf3 sW (by decide) (by decide)) fQ; exact ⟨hk.cell rfl,hk.cell rfl,I.cat.kp I.rd.top hv.rd.kp,pn.cell rfl,_,_,pn.cell rfl⟩
 ·rintro j Y8 W2' ⟨hd,Gp,Ds,Fs,vs,hv,h1,h2,h3,h4⟩ sX _; refine ⟨by rw [sX.obj _ (by omega)]; exact hd,by rw [sX.sz]; exact Gp,Ds,Fs,vs,⟨⟨by rw [sX.sz]; exact hv.EG.sz,fun j hj hS=>by rw [sX.obj j (by omega)]; exact hv.EG.obj j hj hS⟩,⟨hv.rd.kp.A5 (by have:=I.kA.sz; omega) sX,hv.rd.top.A5 (by omega) sX,hv.rd.hb,hv.rd.HR.congr (sX.obj _ (by omega))⟩,hv.f.congr (sX.obj _ (by omega)),hv.v.congr (sX.obj _ (by omega))⟩,h1,h2,h3,h4⟩
 ·rintro W4 k4 t4 z4 hd4; exact ⟨hd4,by omega,at_,fd,[],⟨Bq.Gc k4,J3.rd.S4 k4 t4,xf3.ext t3 k4,sW.ext t3 k4⟩,XP,cV,rfl,rfl⟩
 ·rintro j W1 Kb E' hE DC sS hj ⟨hd,Gp,Ds,Fs,vs,hv,sY,sZ,fU,QY⟩ hlo ACe ACf
  refine oh (m:=n-j-1) (G:=FD p.b p.c ix p.many n 0 at_ fd []) I.rd V xr3 xf3 sW hv sY fU hj sZ ((hE 3 (by decide) (by decide) (by decide) (by decide)).trans (by simp only [Ao,BC,Nat.reduceEqDiff,↓reduceIte,E.e3])) ((hE 8 (by decide) (by decide) (by decide) (by decide)).trans (by simp only [Ao,BC,Nat.reduceEqDiff,↓reduceIte,E.e8])) ((hE 10 (by decide) (by decide) (by decide) (by decide)).trans (by simp only [Ao,BC,Nat.reduceEqDiff,↓reduceIte,E.Vd])) ((hE 14 (by decide) (by decide) (by decide) (by decide)).trans (by simp only [Ao,BC,Nat.reduceEqDiff,↓reduceIte,qE])) DC sS (by rw [QY,Nat.sub_add_cancel (show 1≤n-j by omega)]) (fun e' W' AE_ AFA AFB hcw Gw AFC AFD AFE AFF=>?_) (fun e' W' x hcw X9 uO KW=>?_)
  ·have:=hcw.sz; exact ACe e' [] W' (hcw.obj _ (by omega) (nS _ (by omega))) ⟨by rw [hcw.obj _ (by omega) (nS _ (by omega))]; exact hd,by omega,AE_,AFA,AFB,Gw,AFC,AFD,AFE,by rw [AFF,show n-j-1=n-(j+1) by omega]⟩
  ·exact ACf _ e' W' (hcw.obj _ (by omega) (nS _ (by omega))) ⟨by rw [hcw.obj _ (by omega) (nS _ (by omega))]; exact hd,x,rfl,X9,uO,KW⟩
 ·rintro W' ⟨hd,Gp,Ds,Fs,vs,hv,sY,sZ,fU,QY⟩; rw [Nat.sub_self] at QY; obtain ⟨JF,oq,AFG⟩:=fin W' Ds Fs vs hv hd fU; have QY:FD p.b p.c ix p.many n 0 at_ fd []=.ok (vs,Fs,Ds):=QY; rw [QY] at hG; simp only [TI,B_,wx]; simp only [Ao,BC,Nat.reduceEqDiff,↓reduceIte,qE,E.SX]; rw [BO (vs:=[.string ty,.slice (some ⟨W.sz,0,none⟩) n n]) (a:=⟨Tj,0,none⟩) YX Ia rfl (by omega) AFG.cells]; simp only [AA]; have Lj:=HO ps; refine NA Vg Ia z56 rfl (by omega) AE7 (by omega) (ACc _ _ _ _) rfl rfl hv.rd.top JF.heap.own (by rw [Lj]; omega) fun u Wa gJ QG ka ta L6 t10 o10 n10=>?_; have AGZ:=L6.sz; have hzv:=hv.EG.sz; have hpo:∀ j o,W'.obj j=some o→¬BV vo j→QG.obj j=some o:=fun j o hj hS=>by rw [L6.EG.obj j (hv.rd.top _ _ hj) hS]; exact hj
  have hnS:∀ j,j<p.L.sz→¬BV vo j:=fun j hj hi=>by have:=J.heap.new.in hi; omega
  have hnB:∀ {j:Nat} {el:TypeId} {ws:List Value},As W' j el ws→el≠56→¬BV vo j:=fun hB he hi=>he (Bl hB (D3 JF.heap.own hi))
  have ot:∀ {j:Nat} {ws:List Value},As W' j 3 ws→As QG j 3 ws:=fun {j ws} hB=>by
   obtain ⟨c,nn,z,ho,KW⟩:=hB; exact ⟨c,nn,z,hpo j _ ho (hnB (⟨c,nn,z,ho,KW⟩:As W' j 3 ws) (by decide)),KW⟩
  simp only [GV,B_]; simp only [Ao,BC,Nat.reduceEqDiff,↓reduceIte,E.ye,Az,AA]
  refine Ac _ _ QG Ds Fs gJ (⟨ty,vs⟩,.slice (some ⟨W.sz,0,none⟩) n n) ⟨?_,⟨?_,t10,hv.rd.hb,?_⟩,ot hv.f,⟨?_,n10 _ (by omega),fun q hq=>?_⟩,JF.marks.EG fun j hj hB=>?_⟩ ⟨?_,?_,?_,?_,?_,?_,?_,?_,?_⟩ sY sZ ?_
  ·exact JF.EG.then L6.EG fun j hj hi=>(hnS j hj hi).elim
  ·exact L6.kp hv.rd.kp fun b' l' c' e'=>by have:=J.heap.new b' l' c' e'; have:=I.kA.sz; omega
  ·exact hv.rd.HR.congr (L6.EG.obj _ (by omega) (hnS _ Wd))
  ·rw [List.flatMap_append]
   simpa [Gl] using o10
  ·rcases List.mem_append.1 hq with hq | hq
   ·obtain ⟨bv,h1,h2,h3⟩:=JF.heap.pv q hq; exact ⟨bv,h1,ot h2,h3⟩
   ·cases List.mem_singleton.1 hq
    exact ⟨W.sz,by rw [←fU],ot oq,by omega⟩
  ·refine hpo j _ hj fun hi=>?_; obtain ⟨c,nn,z,ho,_⟩:=D3 JF.heap.own hi; rw [ho] at hj; cases hj
  ·simp only [Ao,BC,Nat.reduceEqDiff,↓reduceIte,E.e3]
  ·simp only [Ao,BC,Nat.reduceEqDiff,↓reduceIte,E.e4]
  ·simp only [Ao,BC,Nat.reduceEqDiff,↓reduceIte,E.e7]
  ·simp only [Ao,BC,Nat.reduceEqDiff,↓reduceIte,E.e8]
  ·simp only [Ao,BC,Nat.reduceEqDiff,↓reduceIte,E.e9]
  ·simp only [Ao,BC,Nat.reduceEqDiff,↓reduceIte,E.Vd]
  ·first | rfl | (simp only [Ao,BC,eKa,Nat.reduceEqDiff,↓reduceIte,gKz,gKs,rD,and_self])
  ·simp only [Ao,BC,Nat.reduceEqDiff,↓reduceIte,E.ra]
  ·rw [Du (by omega)]; rfl
  ·rw [hG,List.map_append]; rfl
 ·rintro ch W' ⟨hd,x,rfl,hc,uO,KW⟩; obtain ⟨_,qi,hcL⟩:=mk W' hc hd; simp only [TI,GV,B_,Wt,lB]; exact Gr _ _ W' x qi hcL uO (by rw [hG,KW])
end Go.Ce
namespace Go.Ce
open Go Go.Proofs Go.Proofs.Tryz
theorem yh (s:ByteArray):QF prog 56 [(0,.string s)]=some (.agg [.string s,.slice none 0 0].toArray):=by kernel_rfl
theorem AFH:DM prog 124=some 1:=by kernel_rfl
theorem iH {c:List Ad} (C:OP c) (i:Nat):(Ak c i).length≤20100:=by
 unfold Ak; rw [List.length_map]; exact MX C.len C.fields i
theorem XR {b:List UInt8} {ask:ByteArray→Option Int}:∀ {k at_:Nat} {out ts:List ByteArray} {a:Nat},JX b ask k at_ out=.ok (ts,a)→at_≤b.length→(∀ s,s ∈ ts→s ∈ out∨ask s=none)∧ts.length=k+out.length∧a≤b.length
 | 0,at_,out,ts,a,h,ha=>by cases h; exact ⟨fun s hs=>.inl hs,by omega,ha⟩
 | k+1,at_,out,ts,a,h,ha=>by
  unfold JX at h
  split at h
  ·cases h
  ·rename_i n a1 hn
   split at h
   ·cases h
   ·rename_i a2 ht
    split at h
    ·split at h
     ·cases h
     ·rename_i Ys; obtain ⟨h1,h2,h3⟩:=XR h (bR ht).2; refine ⟨fun s hs=>?_,by rw [h2]; simp; omega,h3⟩
      rcases h1 s hs with h | h
      ·rcases List.mem_append.1 h with h | h
       ·exact .inl h
       ·rw [List.mem_singleton.1 h]; exact .inr Ys
      ·exact .inr h
    ·cases h
theorem j0 {b:List UInt8} {ask:ByteArray→Option Int} {at_:Nat} {ts:List ByteArray} {a:Nat} (h:Ip b ask at_=.ok (ts,a)):(∀ s,s ∈ ts→ask s=none)∧ts.length≤100∧a≤b.length:=by
 unfold Ip at h
 split at h
 ·cases h
 ·split at h
  ·split at h
   ·cases h
   ·rename_i k a2 hn; obtain ⟨h1,h2,h3⟩:=FP hn; obtain ⟨h4,h5,h6⟩:=XR h h3; refine ⟨fun s hs=>?_,by simp at h5; omega,h6⟩
    rcases h4 s hs with h | h
    ·cases h
    ·exact h
  ·cases h
theorem ou {p:TP} (I:uN p) {K:AG} {e:Env} {W:CW} (h0:p.J 0 e [] W)
  (Gr:∀ e' DN W' x,Marks p.L.sz W' DN→Bq (S2 p.rb p.CU) p.L W'→Al W'→p.G=.error x→K (.panic (DL x)) e' DN W')
  (E3:∀ e' DN W',p.J p.many e' DN W'→K (.exit 0) e' DN W'):C6 prog AV none 74 140 (.loop (Ae prog 74 0)) e [] W K:=by
 obtain ⟨Wd,Mz⟩:=I.lts; have uM:=I.many; refine D8 p.J p.many h0 ?_; rintro i e ds W hi ⟨at_,fd,used,vo,ps,J,E,XP,cV,hus,hlen,hG⟩; rw [wF,E.ye,E.ra]; simp only [A7,AA]; refine G6 (fun Au=>?_) (fun Of=>?_)
 rotate_left
 ·have:i=p.many:=by omega
  subst this; simp only [PJ]; exact E3 _ ds W ⟨at_,fd,used,vo,ps,J,⟨by simp only [Ao,BC,Nat.reduceEqDiff,↓reduceIte,E.e3],by simp only [Ao,BC,Nat.reduceEqDiff,↓reduceIte,E.e4],by simp only [Ao,BC,Nat.reduceEqDiff,↓reduceIte,E.e7],by simp only [Ao,BC,Nat.reduceEqDiff,↓reduceIte,E.e8],by simp only [Ao,BC,Nat.reduceEqDiff,↓reduceIte,E.e9],by simp only [Ao,BC,Nat.reduceEqDiff,↓reduceIte,E.Vd],by simp only [Ao,BC,Nat.reduceEqDiff,↓reduceIte,E.SX],by simp only [Ao,BC,Nat.reduceEqDiff,↓reduceIte,E.ra],by simp only [Ao,BC,Nat.reduceEqDiff,↓reduceIte,E.ye]⟩,XP,cV,hus,hlen,hG⟩
 ·obtain ⟨m,hm⟩:∃ m,p.many-i=m+1:=⟨p.many-i-1,by omega⟩
  rw [hm,Ek] at hG; have pan:∀ e' W' x,Marks p.L.sz W' ds→Bq (S2 p.rb p.CU) p.L W'→Al W'→p.G=.error x→(KY p.J i p.many K) (.panic (DL x)) e' ds W':=fun e' W' x h1 h2 h3 h4=>Gr e' ds W' x h1 h2 h3 h4; obtain ⟨l3,B4,B3,B8,BT⟩:=I.at J.EG; have l10:ld prog 3 (.pointer (some ⟨p.CU,0,none⟩)) W=some (.int .i64 fd):=AB a3 (a:=⟨p.CU,0,none⟩) (J.f.cell rfl); rw [E.Vd,l10]; simp only [A7,AA]; refine Gk (fun hb=>?_) (fun hb=>?_)
  rotate_left
  ·have hb:¬i<fd:=by have:=of_decide_eq_false hb; omega
   rw [if_neg hb] at hG; simp only [GV,Wt,HB,qB]; exact Gr _ ds W 4 J.marks J.EG J.rd.top hG
  have hb:i<fd:=by have:=of_decide_eq_true hb; omega
  rw [if_pos hb] at hG; rw [E.e3,l3,E.e7,PI p9 BT,Mb]; simp only [D7,AA]; have S1:=I.tl; rw [wrap64 (by omega) (by omega),E.e9]; refine GX (iG _ _ W) ?_; refine (JW I.rd J.rd XP).mono fun en W1 ⟨Ti,t1,hp⟩=>?_
  cases hn:Et p.b at_ (min (used:Int) ((p.ts.length:Int)-1)) with
  | error x =>
   rw [hn] at hp hG; have hp:en=.panicked (DL x):=hp; subst hp; refine D9 ?_; simp only [GV,Wt,HB,qB]; refine Gr _ ds W1 x (J.marks.EG fun j hj hB=>?_) (J.EG.then Ti fun j _ h=>.inl h) t1 hG; rw [Ti.obj j (J.rd.top _ _ hj) (fun h=>by have h:j=p.rb:=h; omega)]; exact hj
  | ok r =>
   obtain ⟨t,a1⟩:=r; rw [hn] at hp hG; obtain ⟨v,rfl,rfl,HZ⟩:=hp; obtain ⟨htm,_,DC⟩:=FP hn; have yi:t<p.ts.length:=by omega
   have ZY:t≤used:=by omega
   refine AZ ?_; have J1:TJ p W1 a1 fd vo ps ds:=J.step I Ti HZ; obtain ⟨l3',B4',B3',B8',BT'⟩:=I.at J1.EG; simp only at hG; have NU:=List.getElem?_eq_getElem yi; rw [NU] at hG; simp only at hG; obtain ⟨ix,SY⟩:=Option.isSome_iff_exists.1 (I.known _ (List.getElem_mem yi)); rw [SY] at hG; simp only at hG; generalize vT:p.ts[t]=ty at hG SY
   have k36:∀ (e1:Env) (Kt:Nat),TE p e1 i Kt vo→e1 13=.int .i64 t→Kt=(if t=used then used+1 else used)→(TK none (KY p.J i p.many K)) .normal e1 ds W1:=by
    intro e1 Kt E1 h13 Vi; rw [←Vi] at hG; have ACg:Kt≤p.ts.length:=by rw [Vi]; split <;> omega
    simp only [TK,B_]; obtain ⟨ao,co,oQ,yK⟩:=Hk (f:=fun (s:ByteArray)=>Value.string s) BT'; obtain ⟨q,rfl,hq⟩:=yK t _ NU; rw [vT] at hq; rw [E1.e7,h13,oQ,A8 p9 s9 yi]; simp only [AA]; rw [AB a9 (a:=⟨q.block,q.off+t*1,none⟩) hq]; simp only [AA]; refine Ay (yh _) ?_; refine CZ (ws:=[.string ty,.slice none 0 0]) z56 Ia rfl rfl rfl t1 fun W2 k2 t2 z2 sV=>?_; have NW:=HZ.S4 k2 t2; have J2:TJ p W2 a1 fd vo ps ds:=J1.step I k2.rd NW; obtain ⟨yc,ACh,AGa,AGb,AGc⟩:=I.at J2.EG; have ACi:=I.cat.kp I.rd.top NW.kp; obtain ⟨ea,eb,ef,eg,N8⟩:=ACi.sh.elem SY; obtain ⟨ar,cr,lr,qC⟩:=ACi.rw.some SY; have l9:ld prog 9 (.pointer (some ⟨W1.sz,0,none⟩)) W2=some (.string ty):=AB a9 (a:=⟨W1.sz,0,none⟩) (sV.cell rfl); have l76:ld prog 76 (.pointer (some ⟨p.b4,0+1,none⟩)) W2=some (.map (some p.r2)):=AB rY (a:=⟨p.b4,0+1,none⟩) (ACh.cell rfl); have l75:ld prog 75 (.pointer (some ⟨p.b4,0,none⟩)) W2=some (.map (some p.r1)):=AB nU (a:=⟨p.b4,0,none⟩) (ACh.cell rfl); rw [E1.e4]; simp only [H5,Gj,F1,AA,l76,l75,l9,lr,N8,Ah RD,ND,DI]; have ACj:∀ j,BV vo j→j≠W1.sz:=fun j hj e=>by have:=Nw t1 J1.heap.own hj; omega
    have AFI:p.L.sz≤W1.sz:=J1.EG.sz
    have go:∀ (e2:Env) (W3:CW) (a2 n:Nat),TJ p W3 a2 fd vo ps ds→TE p e2 i Kt vo→e2 14=.pointer (some ⟨W1.sz,0,none⟩)→e2 15=.int .i64 n→As W3 W1.sz 56 [.string ty,.slice none 0 0]→a2≤p.b.length→(elemAt p.c ix=0→n≤(Ak p.c ix).length)→n≤20100 →
      (if elemAt p.c ix≠0 then Et p.b a1 200 else .ok ((Ak p.c ix).length,a1))=.ok (n,a2)→(LK none (KY p.J i p.many K)) .normal e2 ds W3:=by
     intro e2 W3 a2 n J3 E2 qE sE Fg sS Lw AFJ AFK; rw [AFK] at hG; refine fZ I (m:=m) J3 E2 qE sE Fg AFI ACj SY Lw AFJ sS cV (by omega) hlen hG (fun e' DN W' x h1 h2 h3 h4=>Gr e' DN W' x h1 h2 h3 h4) (fun e' DN W' Ds Fs lF q hJ' hE' ha' ca hG'=>?_); refine ⟨Au,Ds,Fs,Kt,lF,ps++[q],hJ',hE',ha',ca,ACg,by simp [hlen],?_⟩; rw [hG',show p.many-(i+1)=m by omega]
    refine AP (fun Yw=>?_) (fun Yw=>?_)
    ·have Yw:elemAt p.c ix≠0:=by simpa using Yw
     rw [E1.e3,yc]; simp only [AA]; refine (JW (most:=200) I.rd NW DC).mono fun en W3 ⟨sT,t3,hp⟩=>?_
     cases Oe:Et p.b a1 200 with
     | error x =>
      rw [Oe] at hp; have hp:en=.panicked (DL x):=hp; subst hp; rw [if_pos Yw,Oe] at hG; refine D9 ?_; simp only [LK,GV,Wt,lB,HB,qB]; refine Gr _ ds W3 x (J2.marks.EG fun j hj hB=>?_) (J2.EG.then sT fun j _ h=>.inl h) t3 hG; rw [sT.obj j (t2 _ _ hj) (fun h=>by have h:j=p.rb:=h; omega)]; exact hj
     | ok r =>
      obtain ⟨n,a2⟩:=r; rw [Oe] at hp; obtain ⟨v,rfl,rfl,hr3⟩:=hp; obtain ⟨AF1,_,sS⟩:=FP Oe; refine AZ ?_; refine go _ W3 a2 n (J2.step I sT hr3) ⟨by simp only [Ao,BC,Nat.reduceEqDiff,↓reduceIte,E1.e3],by simp only [Ao,BC,Nat.reduceEqDiff,↓reduceIte,E1.e4],by simp only [Ao,BC,Nat.reduceEqDiff,↓reduceIte,E1.e7],by simp only [Ao,BC,Nat.reduceEqDiff,↓reduceIte,E1.e8],by simp only [Ao,BC,Nat.reduceEqDiff,↓reduceIte,E1.e9],by simp only [Ao,BC,Nat.reduceEqDiff,↓reduceIte,E1.Vd],by simp only [Ao,BC,Nat.reduceEqDiff,↓reduceIte,E1.SX],by simp only [Ao,BC,Nat.reduceEqDiff,↓reduceIte,E1.ra],by simp only [Ao,BC,Nat.reduceEqDiff,↓reduceIte,E1.ye]⟩ (by simp only [Ao,Nat.reduceEqDiff,↓reduceIte]) (by simp only [Ao,↓reduceIte]) (sV.congr (sT.obj _ (by omega) (fun h=>by have h:W1.sz=p.rb:=h; omega))) sS (fun h=>(Yw h).elim) (by omega) (by rw [if_pos Yw,Oe])
    ·have Yw:elemAt p.c ix=0:=by simpa using Yw
     refine go _ W2 a1 _ J2 ⟨by simp only [Ao,BC,Nat.reduceEqDiff,↓reduceIte,E1.e3],by simp only [Ao,BC,Nat.reduceEqDiff,↓reduceIte,E1.e4],by simp only [Ao,BC,Nat.reduceEqDiff,↓reduceIte,E1.e7],by simp only [Ao,BC,Nat.reduceEqDiff,↓reduceIte,E1.e8],by simp only [Ao,BC,Nat.reduceEqDiff,↓reduceIte,E1.e9],by simp only [Ao,BC,Nat.reduceEqDiff,↓reduceIte,E1.Vd],by simp only [Ao,BC,Nat.reduceEqDiff,↓reduceIte,E1.SX],by simp only [Ao,BC,Nat.reduceEqDiff,↓reduceIte,E1.ra],by simp only [Ao,BC,Nat.reduceEqDiff,↓reduceIte,E1.ye]⟩ (by simp only [Ao,Nat.reduceEqDiff,↓reduceIte]) (by simp only [Ao,Nat.reduceEqDiff,↓reduceIte]) sV DC (fun _=>Nat.le_refl _) (iH I.C ix) (by rw [if_neg (by simp [Yw])])
   refine Ay (Bp _ _ _) ?_
   refine AP (fun hq=>?_) (fun hq=>?_)
   ·have hq:t=used:=by have:=eq_of_beq hq; omega
    simp only [Az,AA]; refine k36 _ (used+1) ⟨by simp only [Ao,BC,Nat.reduceEqDiff,↓reduceIte,E.e3],by simp only [Ao,BC,Nat.reduceEqDiff,↓reduceIte,E.e4],by simp only [Ao,BC,Nat.reduceEqDiff,↓reduceIte,E.e7],by simp only [Ao,BC,Nat.reduceEqDiff,↓reduceIte,E.e8],?_,by simp only [Ao,BC,Nat.reduceEqDiff,↓reduceIte,E.Vd],by simp only [Ao,BC,Nat.reduceEqDiff,↓reduceIte,E.SX],by simp only [Ao,BC,Nat.reduceEqDiff,↓reduceIte,E.ra],by simp only [Ao,BC,Nat.reduceEqDiff,↓reduceIte,E.ye]⟩ (by simp only [Ao,Nat.reduceEqDiff,↓reduceIte]) (by rw [if_pos hq]); rw [Du (by omega)]; rfl
   ·have hq:¬t=used:=by rintro rfl; simp at hq
    exact k36 _ used ⟨by simp only [Ao,BC,Nat.reduceEqDiff,↓reduceIte,E.e3],by simp only [Ao,BC,Nat.reduceEqDiff,↓reduceIte,E.e4],by simp only [Ao,BC,Nat.reduceEqDiff,↓reduceIte,E.e7],by simp only [Ao,BC,Nat.reduceEqDiff,↓reduceIte,E.e8],by simp only [Ao,BC,Nat.reduceEqDiff,↓reduceIte,E.e9],by simp only [Ao,BC,Nat.reduceEqDiff,↓reduceIte,E.Vd],by simp only [Ao,BC,Nat.reduceEqDiff,↓reduceIte,E.SX],by simp only [Ao,BC,Nat.reduceEqDiff,↓reduceIte,E.ra],by simp only [Ao,BC,Nat.reduceEqDiff,↓reduceIte,E.ye]⟩ (by simp only [Ao,Nat.reduceEqDiff,↓reduceIte]) (by rw [if_neg hq])
end Go.Ce
namespace Go.Ce
open Go Go.Proofs Go.Proofs.Tryz
theorem j1 {W W':CW} {v:Value} {ts:List ByteArray} (h:DU W 9 1 v (strs ts)):Aj prog 51 v W'=some (.int .i64 ts.length):=by
 rw [PI p9 h,Mb]
theorem bV {A W:CW} {rb at_ r1 r2:Nat} {vb vf:Value} {b:List UInt8} {c:List Ad} {ask:ByteArray→Option Int} (I:bQ A vb b) (h:Rd A W rb vb at_) (ha:at_≤b.length) (Ys:oc A vf ask) (hak:∀ s,ask s=none→(A_ c s).isSome=true) (EB:Dr A r1 r2 c) (Ac:BL c=true) (hC:OP c) :
  AF prog AV 74 [.pointer (some ⟨rb,0,none⟩),H6 r1 r2,vf] W (Mk A rb vb (fun v xs W'=>∃ ps,ps.map (·.1)=xs∧El W.sz W' v ps) (CF b c ask at_) W):=by
 refine AA1 ?_; rw [AAz]; generalize bS:Mk A rb vb (fun v xs W'=>∃ ps,ps.map (·.1)=xs∧El W.sz W' v ps) (CF b c ask at_) W=od; generalize Jq:AI prog Tryz.f74 od=KK; have AGd:=h.HR.lt h.top
 have Gr:∀ (e:Env) (ds:List Deferred) W' x,Marks W.sz W' ds→Bq (WC rb) W W'→Al W'→CF b c ask at_=.error x→KK (.panic (DL x)) e ds W':=by
  intro e ds W' x hm hc ht hn; rw [←Jq]; refine Mn ht hm fun W2 h1 h2 h3 t2=>?_; show od (.panicked (DL x)) W2; rw [←bS]; refine ⟨⟨by rw [h3]; exact hc.sz,fun j hj hS=>by rw [h2 j hj]; exact hc.obj j hj hS⟩,t2,?_⟩; rw [hn]
 unfold H6; refine Er AFH h.top fun W0 k0 t0 z0 Fg=>?_; have Fg:As W0 W.sz 124 [.pointer (some ⟨rb,0,none⟩)]:=Fg; refine Er NV t0 fun W1 k1 t1 z1 Il=>?_; have Il:As W1 W0.sz 78 [.map (some r1),.map (some r2)]:=Il; have HZ:=(h.S4 k0 t0).S4 k1 t1; have Fg:=Fg.ext t0 k1; have l3:∀ W',W'.obj W.sz=W1.obj W.sz→ld prog 124 (.pointer (some ⟨W.sz,0,none⟩)) W'=some (.pointer (some ⟨rb,0,none⟩)):=fun W' ho=>AB ya (a:=⟨W.sz,0,none⟩) ((Fg.congr ho).cell rfl); rw [l3 W1 rfl]; simp only [AA]; have Ti:Bq (WC rb) W W1:=(k0.trans k1).rd; refine (sR I HZ ha Ys).mono fun en W2 ⟨iw,t2,hp⟩=>?_; have lI:=Ti.rd iw
 cases hh:Ip b ask at_ with
 | error x =>
  rw [hh] at hp; have hp:en=.panicked (DL x):=hp; subst hp; refine D9 ?_; exact Gr _ [] W2 x (.nil _ _) lI t2 (by unfold CF; rw [hh])
 | ok r =>
  obtain ⟨ts,a1⟩:=r; rw [hh] at hp; obtain ⟨vt,rfl,⟨oQ,Na⟩,NW⟩:=hp; obtain ⟨IL,S1,DC⟩:=j0 hh; refine AZ ?_; have iF:∀ j,j<W1.sz→j≠rb→W2.obj j=W1.obj j:=fun j hj Dm=>iw.obj j hj Dm; rw [l3 W2 (iF _ (by omega) (by omega))]; simp only [AA]; refine (JW (most:=1000) I NW DC).mono fun en W4 ⟨sU,t4,hp⟩=>?_; have hC4:=lI.rd sU
  cases hn:Et b a1 1000 with
  | error x =>
   rw [hn] at hp; have hp:en=.panicked (DL x):=hp; subst hp; refine D9 ?_; exact Gr _ [] W4 x (.nil _ _) hC4 t4 (by unfold CF; rw [hh]; simp only; rw [hn])
  | ok r =>
   obtain ⟨many,a2⟩:=r; rw [hn] at hp; obtain ⟨v,rfl,rfl,hr4⟩:=hp; obtain ⟨uM,_,sS⟩:=FP hn; have Vs:W.sz<W1.sz:=by omega
   have cW:=iw.sz; have mT:=sU.sz; refine AZ ?_; refine Gx z3 s3 t4 fun W6 k6 t6 z6 PX=>?_; have PX:As W6 W4.sz 3 [.int .i64 0]:=PX; refine Af s3 (a:=⟨W4.sz,0,none⟩) (v:=.int .i64 many) rfl PX (by simp) fun W7 ZD PX=>?_; have ZD:DO W4.sz W6 W7:=ZD; have PX:As W7 W4.sz 3 [.int .i64 many]:=PX; have t7:=t6.A5 (by omega) ZD; have z7:W7.sz=W4.sz+1:=by rw [ZD.sz,z6]
   have kn:Kp W7 (W7.new (.cells .nil 1 #[.int .i64 0] 3)):=.new _; have tn:=t7.new (.cells .nil 1 #[.int .i64 0] 3); have I9:(W7.new (.cells .nil 1 #[.int .i64 0] 3)).obj W7.sz=some (.cells .nil 1 #[.int .i64 0] 3):=by rw [BK,if_pos rfl]
   have iA:As (W7.new (.cells .nil 1 #[.int .i64 0] 3)) W7.sz 3 [.int .i64 0]:=⟨.nil,1,_,I9,rfl,fun k v hk=>by
    match k,hk with
    | 0,hk=>cases hk; rfl⟩
   have bN:(W7.new (.cells .nil 1 #[.int .i64 0] 3)).sz=W7.sz+1:=rfl; have My:G5 (.pointer (some ⟨W7.sz,0,none⟩)) ((W7.new (.cells .nil 1 #[.int .i64 0] 3)).obj W7.sz) (W7.new (.cells .nil 1 #[.int .i64 0] 3))=true:=GI I9 rfl; generalize hAn:W7.new (.cells .nil 1 #[.int .i64 0] 3)=An at kn tn I9 iA bN My ⊢; have l8:∀ W',W'.obj W4.sz=W7.obj W4.sz→ld prog 3 (.pointer (some ⟨W4.sz,0,none⟩)) W'=some (.int .i64 many):=fun W' ho=>AB a3 (a:=⟨W4.sz,0,none⟩) ((PX.congr ho).cell rfl); have ho8:=kn.obj W4.sz (by omega); rw [l8 An ho8]; simp only [AA]; refine GX (iG _ _ An) ?_; rw [show min (many:Int) 1=((min many 1:Nat):Int) by omega]; refine ⟨trivial,?_⟩; refine Af s3 (a:=⟨W7.sz,0,none⟩) (v:=.int .i64 ((min many 1:Nat):Int)) rfl iA (by simp) fun L ov Mj=>?_; have ov:DO W7.sz An L:=ov; have Mj:As L W7.sz 3 [.int .i64 ((min many 1:Nat):Int)]:=Mj; refine ⟨by simp only [l8 An ho8,and_self],by simp only [My,and_self],?_⟩; have hoL:∀ j,j<W7.sz→L.obj j=W7.obj j:=fun j hj=>by rw [ov.obj j (by omega),kn.obj j hj]
   rw [l8 L (hoL _ (by omega))]; simp only [AA]; have tL:=tn.A5 (by omega) ov; have zL:L.sz=W7.sz+1:=by rw [ov.sz,bN]
   have ho4:∀ j,j<W4.sz→L.obj j=W4.obj j:=fun j hj=>by rw [hoL j (by omega),ZD.obj j (by omega),k6.obj j hj]
   have k4L:Kp W4 L:=⟨by omega,ho4⟩
   have hCL:Bq (WC rb) W L:=hC4.rd k4L.rd; have hrL:=hr4.S4 k4L tL; have qE:∀ j,j<W1.sz→j≠rb→L.obj j=W1.obj j:=fun j hj Dm=>by rw [ho4 j (by omega),sU.obj j (by omega) Dm,iF j hj Dm]
   have AFL:DU L 9 1 vt (strs ts):=N0 oQ fun j hj=>by
    have:=Nw t2 oQ hj; have Dm:j≠rb:=by rintro rfl; have:=Bl NW.HR (D3 oQ hj); cases this
    rw [ho4 j (by omega),sU.obj j this Dm]
   let p:TP:={ A:=A,L:=L,rb:=rb,b3:=W.sz,b4:=W0.sz,b8:=W4.sz,CU:=W7.sz,r1:=r1,r2:=r2,vb:=vb,vt:=vt,b:=b,c:=c,ts:=ts,many:=many,G:=Ek b c ts many many 0 a2 0 (min many 1) [] }
   have hAW:=h.kp.sz; have IN:uN p:=⟨I,EB,Ac,hC,tL,hrL.kp,Fg.congr (qE _ (by omega) (by omega)),Il.congr (qE _ (by omega) (by omega)),PX.congr (hoL _ (by omega)),AFL,S1,fun s hs=>hak s (IL s hs),⟨_,hrL.HR⟩,⟨_,Mj⟩,⟨h.hb,by show A.sz≤W7.sz; omega⟩,by show W4.sz≠W7.sz; omega,by show many≤1000; omega⟩
   have J0:TJ p L a2 (min many 1) (.slice none 0 0) [] []:=⟨.refl _ _,hrL,Mj,⟨DU.nil,CC.nil _ _ _,fun q hq=>by cases hq⟩,.nil _ _⟩
   have tu:∀ W',Bq (S2 p.rb p.CU) p.L W'→Bq (WC rb) W W':=fun W' hc=>⟨by have:=hc.sz; have:L.sz≤W'.sz:=this; omega,fun j hj hS=>by
    rw [hc.obj j (show j<L.sz by omega) (by
     rintro (e | e)
     ·exact hS e
     ·have e:j=W7.sz:=e
      omega),]
    exact hCL.obj j hj hS⟩
   have hmW:∀ W' ds,Marks p.L.sz W' ds→Marks W.sz W' ds:=fun W' ds ⟨rs,h1,h2,h3⟩=>⟨rs,h1,h2,fun r hr=>⟨(h3 r hr).1,by have:L.sz≤r:=(h3 r hr).2; omega⟩⟩
   have hR:CF b c ask at_=match p.G with | .error e=>.error e | .ok (out,used,fd,a3)=>if fd=many∧used=ts.length∧a3=b.length then .ok (out,a3) else .error 4:=by
    unfold CF; rw [hh]; simp only; rw [hn] <;> rfl
   refine ou IN ⟨a2,min many 1,0,.slice none 0 0,[],J0,⟨rfl,rfl,rfl,rfl,rfl,rfl,rfl,rfl,rfl⟩,sS,by omega,Nat.zero_le _,rfl,rfl⟩ (fun e' DN W' x h1 h2 h3 h4=>?_) (fun e' DN W' hj=>?_)
   ·simp only [lB,YO,Wt]; exact Gr e' DN W' x (hmW _ _ h1) (tu _ h2) h3 (by rw [hR,h4])
   ·obtain ⟨Ds,Fs,Kt,vo,ps,J,E,sY,sZ,ACg,gI,hG⟩:=hj; have hG:p.G=Ek b c ts many (many-many) many Ds Kt Fs (ps.map (·.1)):=hG; rw [Nat.sub_self] at hG; have hG:p.G=.ok (ps.map (·.1),Kt,Fs,Ds):=hG; rw [hG] at hR; have hR:CF b c ask at_=if Fs=many∧Kt=ts.length∧Ds=b.length then .ok (ps.map (·.1),Ds) else .error 4:=hR; obtain ⟨q3,Q4,Q3,Q8,QT⟩:=IN.at J.EG; have q10:ld prog 3 (.pointer (some ⟨W7.sz,0,none⟩)) W'=some (.int .i64 Fs):=AB a3 (a:=⟨W7.sz,0,none⟩) (J.f.cell rfl); have q8:ld prog 3 (.pointer (some ⟨W4.sz,0,none⟩)) W'=some (.int .i64 many):=AB a3 (a:=⟨W4.sz,0,none⟩) (Q8.cell rfl); have q3:ld prog 124 (.pointer (some ⟨W.sz,0,none⟩)) W'=some (.pointer (some ⟨rb,0,none⟩)):=q3; have e3:e' 3=.pointer (some ⟨W.sz,0,none⟩):=E.e3; have e7:e' 7=vt:=E.e7; have e8:e' 8=.pointer (some ⟨W4.sz,0,none⟩):=E.e8; have Vd:e' 10=.pointer (some ⟨W7.sz,0,none⟩):=E.Vd; have qT:Aj prog 51 vt W'=some (.int .i64 ts.length):=j1 QT; simp only [M6,if_true,YO,B_,e3,e7,e8,Vd,E.e9,q10,q8,Bp,AA]
    have bad:∀ e2,¬(Fs=many∧Kt=ts.length∧Ds=b.length)→(Hy none KK) (.panic (DL 4)) e2 DN W':=by
     intro e2 Ho; simp only [Hy,Wt]; exact Gr _ DN W' 4 (hmW _ _ J.marks) (tu _ J.EG) J.rd.top (by rw [hR,if_neg Ho])
    refine AP (fun h1=>?_) (fun h1=>?_)
    ·have h1:Fs=many:=by have:=eq_of_beq h1; omega
     simp only [qT,AA,Bp]
     refine AP (fun h2=>?_) (fun h2=>?_)
     ·have h2:Kt=ts.length:=by have:=eq_of_beq h2; omega
      obtain ⟨av,cv,ct,_,_⟩:=I.sl; have lb:Aj prog 29 vb W'=some (.int .i64 b.length):=by rw [ct]; exact Ah RD _ _ _ _
      have AFM:ld prog 29 (.pointer (some ⟨rb,0,none⟩)) W'=some vb:=J.rd.ld0; have AFN:ld prog 3 (.pointer (some ⟨rb,0+1,none⟩)) W'=some (.int .i64 Ds):=J.rd.z_; simp only [q3,CO,bO,bP,AA,AFM,AFN,lb,Bp]
      refine Gk (fun h3=>?_) (fun h3=>?_)
      ·have h3:Ds=b.length:=by have:=eq_of_beq h3; omega
       refine ⟨by simp only [and_self],trivial,?_⟩; simp only [Hy,B_]; rw [←Jq]; refine Mn J.rd.top (hmW _ _ J.marks) fun W2 g1 g2 g3 t2'=>?_; rw [jP,←bS]; have ACk:=tu _ J.EG; refine ⟨⟨by rw [g3]; exact ACk.sz,fun j hj hS=>by rw [g2 j hj]; exact ACk.obj j hj hS⟩,t2',?_⟩; rw [hR,if_pos ⟨h1,h2,h3⟩]; have hz:p.L.sz=L.sz:=rfl
       refine ⟨_,rfl,⟨ps,rfl,?_⟩,⟨⟨by rw [g3]; exact J.rd.kp.sz,fun j hj=>by rw [g2 j (by omega)]; exact J.rd.kp.obj j hj⟩,t2',h.hb,?_⟩⟩
       ·have hH:=J.heap.of fun j o hB hj ho=>g1 j o hj ho; simp only [Ao,BC,Nat.reduceEqDiff,↓reduceIte,E.SX]
        refine ⟨hH.own,fun b' l' c' e=>?_,fun q hq=>?_⟩
        ·have:=hH.new b' l' c' e; omega
        ·obtain ⟨bv,k1,k2,k3⟩:=hH.pv q hq; exact ⟨bv,k1,k2,by omega⟩
       ·obtain ⟨cc,nn,zz,ho,hx⟩:=J.rd.HR; exact ⟨cc,nn,zz,g1 _ _ ho (by simp),hx⟩
      ·have h3:¬Ds=b.length:=by rintro rfl; simp at h3
       exact ⟨by simp only [and_self],bad _ fun hh=>h3 hh.2.2⟩
     ·have h2:¬Kt=ts.length:=by rintro rfl; simp at h2
      refine Gk (fun hf=>by cases hf) (fun _=>?_); exact ⟨by simp only [and_self],bad _ fun hh=>h2 hh.2.1⟩
    ·have h1:¬Fs=many:=by rintro rfl; simp at h1
     refine Gk (fun hf=>by cases hf) (fun _=>?_); exact ⟨by simp only [and_self],bad _ fun hh=>h1 hh.1⟩
end Go.Ce
namespace Go.Ce
open Go Go.Proofs Go.Proofs.Tryz
theorem yj (v:Value):AU prog .neq 20 true (.iface 167 v) .nilIface=some (.bool true):=by kernel_rfl
theorem yk:AU prog .neq 20 true .nilIface .nilIface=some (.bool false):=by kernel_rfl
theorem yl (v:Value):tas prog 167 (.iface 167 v) true=some (.tuple #[v,.bool true]):=by kernel_rfl
theorem AFO:Gm prog 167=some (.agg #[.int .i64 0]):=by kernel_rfl
theorem AFP:DM prog 167=some 1:=by kernel_rfl
theorem ym (a:Addr):A0 prog 167 (.pointer (some a)) 0=some (.pointer (some ⟨a.block,a.off,none⟩)):=by kernel_rfl
theorem a30:agg? prog 30=some false:=by kernel_rfl
theorem uP:DM prog 30=some 1:=by kernel_rfl
theorem z30:Gm prog 30=some (.int .i64 0):=by kernel_rfl
theorem yn (v:Value) (a:Option Addr) (n m:Nat) (h:v=.slice a n m):QF prog 170 [(0,v)]=some (.agg [v,.int .i64 0].toArray):=by subst h; kernel_rfl
theorem P2:Tryz.f109.results.toList=[]:=by kernel_rfl
theorem bW:∃ ty,Tryz.f72.results.toList=[.cell 4 ty]∧ty=30:=⟨30,by kernel_rfl,rfl⟩
theorem ACl (x:Int) (K:Value→FrameMode→Prop):mn (.panicking (DL x)) K=K (.iface 167 (.agg #[.int .i64 x])) (.panicking [{ v:=.iface 167 (.agg #[.int .i64 x]),recovered:=true }]):=rfl
theorem ACm (K:Value→FrameMode→Prop):mn .returning K=K .nilIface .returning:=rfl
structure ow (b:Nat) (W W':CW):Prop where
 sz:W.sz≤W'.sz
 obj:∀ j,j<W.sz→j≠b→W'.obj j=W.obj j
theorem yo {W:CW} {b:Nat} {x y:Int} (ht:Al W) (hB:As W b 30 [.int .i64 y]) {Q:FrameMode→CW→Prop} (hq:∀ W',ow b W W'→Al W'→As W' b 30 [.int .i64 x]→Q (.panicking [{ v:=.iface 167 (.agg #[.int .i64 x]),recovered:=true }]) W'):MS prog AV 109 [.pointer (some ⟨b,0,none⟩)] (.panicking (DL x)) W Q:=by
 refine Wp (fn:=Tryz.f109) (c:=AM prog 109) (by kernel_rfl) Tryz.func109 (by kernel_rfl) (by kernel_rfl) ?_; have:=m8 (.pointer (some ⟨b,0,none⟩)) (.panicking (DL x)) (fun x e u W=>(x=.normal∨x=.ret)∧(∃ v,CB prog Tryz.f109.results.toList e W=some v)∧Q u W) W; refine this.mpr ?_; rw [ACl]; refine Ay (yj _) ?_; simp only [Bh]; refine Ay (yl _) ?_; refine Ay (Be _ _) ?_; refine Ay (Bf _ _) ?_; refine CZ (ws:=[.int .i64 x]) AFO AFP rfl rfl rfl ht fun W2 k2 t2 z2 GK=>?_; simp only [Ai,AA,Bool.not_true,Ar,ym]; refine ⟨by first | rfl | trivial,?_⟩; rw [AB a30 (a:=⟨W.sz,0,none⟩) (GK.cell rfl)]; simp only [AA]; have hb:=hB.lt ht; have dC:=hB.ext ht k2; refine Af uP (a:=⟨b,0,none⟩) (v:=.int .i64 x) rfl dC (by simp) fun W3 hu Fg=>?_; have hu:DO b W2 W3:=hu; refine ⟨.inl (by first | rfl | trivial),⟨.tuple #[],by simp only [CB,P2,IQ]⟩,hq W3 ⟨by rw [hu.sz]; exact k2.sz,fun j hj Dm=>by rw [hu.obj j Dm,k2.obj j hj]⟩ (t2.A5 (dC.lt t2) hu) Fg⟩
theorem sa {W:CW} {b:Nat} {Q:FrameMode→CW→Prop} (hq:Q .returning W):MS prog AV 109 [.pointer (some ⟨b,0,none⟩)] .returning W Q:=by
 refine Wp (fn:=Tryz.f109) (c:=AM prog 109) (by kernel_rfl) Tryz.func109 (by kernel_rfl) (by kernel_rfl) ?_; have:=m8 (.pointer (some ⟨b,0,none⟩)) .returning (fun x e u W=>(x=.normal∨x=.ret)∧(∃ v,CB prog Tryz.f109.results.toList e W=some v)∧Q u W) W; refine this.mpr ?_; rw [ACm]; refine Ay yk ?_; simp only [Ar]; exact ⟨by first | rfl | trivial,.inl (by first | rfl | trivial),⟨.tuple #[],by simp only [CB,P2,IQ]⟩,hq⟩
theorem fa {W:CW} {a:Option Addr} {n cap:Nat} {vf:Value} (ht:Al W) {Q:Ending→CW→Prop}
  (Ty:100000<n→∀ W',Kp W W'→Al W'→Q (.returned (.int .i64 2)) W')
  (hdo:n≤100000→∀ W0,Kp W W0→Al W0→W0.sz=W.sz+2→As W0 W.sz 30 [.int .i64 0]→As W0 (W.sz+1) 170 [.slice a n cap,.int .i64 0]→DZ prog AV vf [.pointer (some ⟨W.sz+1,0,none⟩)] W0
   (fun _ W3=>Al W3∧As W3 W.sz 30 [.int .i64 0]∧∀ W',ow W.sz W3 W'→Al W'→Q (.returned (.int .i64 0)) W')
   (fun ch W4=>∃ x,ch=DL x∧Al W4∧As W4 W.sz 30 [.int .i64 0]∧∀ W',ow W.sz W4 W'→Al W'→Q (.returned (.int .i64 x)) W')) :
  AF prog AV 72 [.slice a n cap,vf] W Q:=by
 obtain ⟨ty,UJ,rfl⟩:=bW; refine mz (fn:=Tryz.f72) (c:=AM prog 72) (by kernel_rfl) (by kernel_rfl) (by kernel_rfl) Tryz.func72 (by kernel_rfl) (by kernel_rfl) ?_; refine (AAw (.slice a n cap) vf _ W).mpr ?_
 have ret:∀ (e:Env) W' x,e 4=.pointer (some ⟨W.sz,0,none⟩)→As W' W.sz 30 [.int .i64 x]→Q (.returned (.int .i64 x)) W'→my prog AV Tryz.f72 Q e [] .returning W':=by
  intro e W' x h4 hB hq; have hv:JB prog 30 ⟨W.sz,0,none⟩ W'=some (.int .i64 x):=AB a30 (a:=⟨W.sz,0,none⟩) (hB.cell rfl); simp only [my,CB,UJ,IQ,jG,h4,hv,AA]; exact hq
 refine Gx z30 uP ht fun W1 k1 t1 z1 hB=>?_; have hB:As W1 W.sz 30 [.int .i64 0]:=hB; rw [Ah RD]; simp only [CY,AA]
 refine AP (fun hb=>?_) (fun hb=>?_)
 ·have hb:100000<n:=by have:=of_decide_eq_true hb; omega
  refine Af uP (a:=⟨W.sz,0,none⟩) (v:=.int .i64 2) rfl hB (by simp) fun W2 hu GK=>?_; have hu:DO W.sz W1 W2:=hu; exact ret _ W2 2 rfl GK (Ty hb W2 (k1.A5 (Nat.le_refl _) hu) (t1.A5 (hB.lt t1) hu))
 ·have hb:n≤100000:=by have:=of_decide_eq_false hb; omega
  refine Ay (yn _ a n cap rfl) ?_; refine Er AEy t1 fun W2 k2 t2 z2 iI=>?_; rw [z1] at iI z2 ⊢; have iI:As W2 (W.sz+1) 170 [.slice a n cap,.int .i64 0]:=iI; have GK:=hB.ext t1 k2
  have Zf:∀ (d:Deferred) (l:List Value) (m:FrameMode) W' Q',d=({ target:=.fn (.func 109) #[.pointer (some ⟨W.sz,0,none⟩)],args:=#[] }:Deferred)→MS prog AV 109 [.pointer (some ⟨W.sz,0,none⟩)] m W' Q'→MS prog AV 109 (d.args.toList++[Value.pointer (some ⟨W.sz,0,none⟩)]) m W' Q':=by
   intro d l m W' Q' hd h; subst hd; exact h
  have EE:=hdo hb W2 (k1.trans k2) t2 (by rw [z2]) GK iI; unfold DZ at EE ⊢
  have yp:∀ (v:Value) (W3:CW),(Al W3∧As W3 W.sz 30 [.int .i64 0]∧∀ W',ow W.sz W3 W'→Al W'→Q (.returned (.int .i64 0)) W')→∀ (e:Env),e 4=.pointer (some ⟨W.sz,0,none⟩)→wV (CE prog 30 (.pointer (some ⟨W.sz,0,none⟩)) (.int .i64 0) W3) fun W5=>my prog AV Tryz.f72 Q e [({ target:=.fn (.func 109) #[.pointer (some ⟨W.sz,0,none⟩)],args:=#[] }:Deferred)] .returning W5:=by
   rintro v W3 ⟨t3,Fg,hq⟩ e h4; refine Af uP (a:=⟨W.sz,0,none⟩) (v:=.int .i64 0) rfl Fg (by simp) fun W5 hu I3=>?_; have hu:DO W.sz W3 W5:=hu; show MS _ _ _ _ _ _ _; refine sa ?_; exact ret e W5 0 h4 I3 (hq W5 ⟨by rw [hu.sz]; exact Nat.le_refl _,fun j hj Dm=>hu.obj j Dm⟩ (t3.A5 (Fg.lt t3) hu))
  have bad:∀ ch W4,(∃ x,ch=DL x∧Al W4∧As W4 W.sz 30 [.int .i64 0]∧∀ W',ow W.sz W4 W'→Al W'→Q (.returned (.int .i64 x)) W')→∀ (e:Env),e 4=.pointer (some ⟨W.sz,0,none⟩)→my prog AV Tryz.f72 Q e [({ target:=.fn (.func 109) #[.pointer (some ⟨W.sz,0,none⟩)],args:=#[] }:Deferred)] (.panicking ch) W4:=by
   rintro ch W4 ⟨x,rfl,t4,Il,hq⟩ e h4; show MS _ _ _ _ _ _ _; refine yo t4 Il fun W' hu t' dC=>?_; exact ret e W' x h4 dC (hq W' hu t')
  have ACn:∀ {f:FuncId} {xs:List Value} {K K':Value→CW→Prop} {KP KP':List PanicEntry→CW→Prop},AF prog AV f xs W2 (AT K KP)→(∀ v W,K v W→K' v W)→(∀ v W,KP v W→KP' v W)→AF prog AV f xs W2 (AT K' KP'):=fun h h1 h2=>h.mono fun en W' he=>by
   cases en with
   | returned v=>exact h1 _ _ he
   | panicked ch=>exact h2 _ _ he
   | outgrown=>exact he
  have yq:∀ {f:Nat} {xs:List Value} {K K':Value→CW→Prop} {KP KP':List PanicEntry→CW→Prop},IP prog AV f xs W2 (AT K KP)→(∀ v W,K v W→K' v W)→(∀ v W,KP v W→KP' v W)→IP prog AV f xs W2 (AT K' KP'):=fun h h1 h2=>h.mono fun en W' he=>by
   cases en with
   | returned v=>exact h1 _ _ he
   | panicked ch=>exact h2 _ _ he
   | outgrown=>exact he
  split at EE
  ·split at EE
   ·exact yp (.bool false) _ EE _ rfl
   ·exact ACn EE (fun v W h=>yp v W h _ rfl) (fun ch W h=>⟨fun k n m hh=>(by cases hh),bad ch W h _ rfl⟩)
  ·exact yq EE (fun v W h=>yp v W h _ rfl) (fun ch W h=>⟨fun k n m hh=>(by cases hh),bad ch W h _ rfl⟩)
  ·exact EE.elim
end Go.Ce
