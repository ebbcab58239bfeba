/- A part of the proof: ShE, Qu, Qv, Qw, Qx, Se, Sj, Sk, ShT, Tc, Ta, Td, Te, Tf, ShL6, Sl, Sm, Sn, So, Tg, Tb, Th, Ti, Tj, Tk, Tl. -/
import Derived.Test.YtmknebebbbjdlaaGreatW02
import Derived.Test.YtmknebebbbjdlaaGreatW04
import Derived.Test.YtmknebebbbjdlaaGreatProg
set_option linter.unusedSectionVars false
set_option linter.unusedVariables false
set_option linter.unusedSimpArgs false
set_option maxRecDepth 200000
namespace Go.Ce
open Go Go.Proofs Go.Proofs.Tryz
def PC (ro:Option Nat) (K:AG):AG:=Aq (fun e ds W=>K .ret e ds W) K
def PD (ro:Option Nat) (K:AG):AG:=Aq (fun e ds W=>wV (AY prog 22 (e 0) W) fun QG=>wV (AQ prog .leq 3 true QG (.int .i64 12)) fun RI=>wI RI ((PC ro K) .normal (Env.of e [(2,(.bool true)),(82,(.bool true)),(81,undef),(73,(.bool true)),(80,undef),(79,undef),(78,undef),(77,undef),(73,(.bool true)),(76,undef),(73,(.bool true)),(75,undef),(73,(.bool true)),(74,undef),(73,(.bool true)),(73,RI),(72,RI),(71,QG),(70,(e 0))]) ds W) (wV (AY prog 22 (e 0) W) fun LA=>wV (AQ prog .gtr 3 true LA (.int .i64 100)) fun L_=>wI L_ (wV (AY prog 22 (e 0) W) fun QH=>wV (AQ prog .leq 3 true QH (.int .i64 102)) fun Mc=>(PC ro K) .normal (Env.of e [(2,Mc),(82,Mc),(81,Mc),(73,(.bool false)),(80,Mc),(77,(.bool true)),(79,QH),(77,(.bool true)),(78,(e 0)),(77,(.bool true)),(77,L_),(73,(.bool false)),(76,L_),(73,(.bool false)),(75,LA),(73,(.bool false)),(74,(e 0)),(73,(.bool false)),(73,RI),(72,RI),(71,QG),(70,(e 0))]) ds W) ((PC ro K) .normal (Env.of e [(2,(.bool false)),(82,(.bool false)),(81,(.bool false)),(73,(.bool false)),(80,undef),(77,(.bool false)),(79,undef),(77,(.bool false)),(78,undef),(77,(.bool false)),(77,L_),(73,(.bool false)),(76,L_),(73,(.bool false)),(75,LA),(73,(.bool false)),(74,(e 0)),(73,(.bool false)),(73,RI),(72,RI),(71,QG),(70,(e 0))]) ds W))) K
theorem AA1 (v0:Value) (K:AG) (W:CW):AP prog AT none 13 83 (AS prog 13) (Env.args [v0]) [] W K=(C1 prog AT none 13 83 (.loop (Ag prog 13 0)) (Env.of (Env.args [v0]) [(3,(.int .i64 0)),(2,(.bool false))]) [] W (BU 0 (PD none K))):=by kernel_rfl
def Tx (ro:Option Nat) (K:AG):AG:=Aq (fun e ds W=>wV (AQ prog .add 3 true (e 3) (.int .i64 1)) fun B9=>K .normal (Env.of e [(3,B9),(14,B9),(13,(e 3))]) ds W) K
def Ty (ro:Option Nat) (K:AG):AG:=Aq (fun e ds W=>C1 prog AT ro 13 83 (.loop (Ag prog 13 1)) (Env.of e [(4,(.int .i64 0))]) ds W (BU 2 (BU 1 (Tx ro K)))) (BU 1 (Tx ro K))
def PE (ro:Option Nat) (K:AG):AG:=Aq (fun e ds W=>wI (e 48) ((Ty ro K) .ret (Env.of e [(2,(.bool false))]) ds W) ((Ty ro K) .normal e ds W)) (Ty ro K)
def PF (ro:Option Nat) (K:AG):AG:=Aq (fun e ds W=>wV (Dz prog 22 (e 0) (e 3)) fun DI=>wV (A_ prog 48 DI 0) fun C3=>wV (ld prog 9 C3 W) fun C5=>wV (AY prog 9 C5 W) fun v20=>wV (AQ prog .gtr 3 true v20 (.int .i64 70)) fun DB=>wI DB ((PE ro K) .normal (Env.of e [(48,(.bool true)),(47,undef),(40,(.bool true)),(46,undef),(40,(.bool true)),(45,undef),(40,(.bool true)),(44,undef),(40,(.bool true)),(43,undef),(40,(.bool true)),(42,undef),(40,(.bool true)),(41,undef),(40,(.bool true)),(40,(.bool true)),(39,(.bool true)),(38,undef),(31,(.bool true)),(37,undef),(31,(.bool true)),(36,undef),(31,(.bool true)),(35,undef),(31,(.bool true)),(34,undef),(31,(.bool true)),(33,undef),(31,(.bool true)),(32,undef),(31,(.bool true)),(31,(.bool true)),(30,(.bool true)),(29,undef),(22,(.bool true)),(28,undef),(22,(.bool true)),(27,undef),(22,(.bool true)),(26,undef),(22,(.bool true)),(25,undef),(22,(.bool true)),(24,undef),(22,(.bool true)),(23,undef),(22,(.bool true)),(22,DB),(21,DB),(20,v20),(19,C5),(18,C3),(17,DI),(16,(e 3)),(15,(e 0))]) ds W) (wV (Dz prog 22 (e 0) (e 3)) fun EB=>wV (A_ prog 48 EB 1) fun Fz=>wV (ld prog 9 Fz W) fun D4=>wV (AY prog 9 D4 W) fun CQ=>wV (AQ prog .gtr 3 true CQ (.int .i64 70)) fun DY=>wI DY ((PE ro K) .normal (Env.of e [(48,(.bool true)),(47,undef),(40,(.bool true)),(46,undef),(40,(.bool true)),(45,undef),(40,(.bool true)),(44,undef),(40,(.bool true)),(43,undef),(40,(.bool true)),(42,undef),(40,(.bool true)),(41,undef),(40,(.bool true)),(40,(.bool true)),(39,(.bool true)),(38,undef),(31,(.bool true)),(37,undef),(31,(.bool true)),(36,undef),(31,(.bool true)),(35,undef),(31,(.bool true)),(34,undef),(31,(.bool true)),(33,undef),(31,(.bool true)),(32,undef),(31,(.bool true)),(31,DY),(30,DY),(29,DY),(22,(.bool false)),(28,CQ),(22,(.bool false)),(27,D4),(22,(.bool false)),(26,Fz),(22,(.bool false)),(25,EB),(22,(.bool false)),(24,(e 3)),(22,(.bool false)),(23,(e 0)),(22,(.bool false)),(22,DB),(21,DB),(20,v20),(19,C5),(18,C3),(17,DI),(16,(e 3)),(15,(e 0))]) ds W) (wV (Dz prog 22 (e 0) (e 3)) fun GK=>wV (A_ prog 48 GK 2) fun EL=>wV (ld prog 45 EL W) fun H8=>wV (AY prog 45 H8 W) fun EK=>wV (AQ prog .gtr 3 true EK (.int .i64 24)) fun IQ=>wI IQ ((PE ro K) .normal (Env.of e [(48,(.bool true)),(47,undef),(40,(.bool true)),(46,undef),(40,(.bool true)),(45,undef),(40,(.bool true)),(44,undef),(40,(.bool true)),(43,undef),(40,(.bool true)),(42,undef),(40,(.bool true)),(41,undef),(40,(.bool true)),(40,IQ),(39,IQ),(38,IQ),(31,(.bool false)),(37,EK),(31,(.bool false)),(36,H8),(31,(.bool false)),(35,EL),(31,(.bool false)),(34,GK),(31,(.bool false)),(33,(e 3)),(31,(.bool false)),(32,(e 0)),(31,(.bool false)),(31,DY),(30,DY),(29,DY),(22,(.bool false)),(28,CQ),(22,(.bool false)),(27,D4),(22,(.bool false)),(26,Fz),(22,(.bool false)),(25,EB),(22,(.bool false)),(24,(e 3)),(22,(.bool false)),(23,(e 0)),(22,(.bool false)),(22,DB),(21,DB),(20,v20),(19,C5),(18,C3),(17,DI),(16,(e 3)),(15,(e 0))]) ds W) (wV (Dz prog 22 (e 0) (e 3)) fun D9=>wV (A_ prog 48 D9 4) fun Lh=>wV (ld prog 46 Lh W) fun FC=>wV (AY prog 46 FC W) fun GJ=>wV (AQ prog .gtr 3 true GJ (.int .i64 20)) fun Iv=>(PE ro K) .normal (Env.of e [(48,Iv),(47,Iv),(40,(.bool false)),(46,GJ),(40,(.bool false)),(45,FC),(40,(.bool false)),(44,Lh),(40,(.bool false)),(43,D9),(40,(.bool false)),(42,(e 3)),(40,(.bool false)),(41,(e 0)),(40,(.bool false)),(40,IQ),(39,IQ),(38,IQ),(31,(.bool false)),(37,EK),(31,(.bool false)),(36,H8),(31,(.bool false)),(35,EL),(31,(.bool false)),(34,GK),(31,(.bool false)),(33,(e 3)),(31,(.bool false)),(32,(e 0)),(31,(.bool false)),(31,DY),(30,DY),(29,DY),(22,(.bool false)),(28,CQ),(22,(.bool false)),(27,D4),(22,(.bool false)),(26,Fz),(22,(.bool false)),(25,EB),(22,(.bool false)),(24,(e 3)),(22,(.bool false)),(23,(e 0)),(22,(.bool false)),(22,DB),(21,DB),(20,v20),(19,C5),(18,C3),(17,DI),(16,(e 3)),(15,(e 0))]) ds W)))) K
def XV (ro:Option Nat) (K:AG):AG:=Aq (fun e ds W=>wI (e 12) ((PF ro K) .normal e ds W) ((PF ro K) (.exit 0) e ds W)) (PF ro K)
theorem wM (ro:Option Nat) (e:Env) (ds:List Deferred) (K:AG) (W:CW):AP prog AT ro 13 83 (Ag prog 13 0) e ds W K=(wV (AY prog 22 (e 0) W) fun v7=>wV (AQ prog .lss 3 false (e 3) v7) fun v8=>wI v8 (wV (AQ prog .lss 3 true (e 3) (.int .i64 103)) fun v11=>(XV ro K) .normal (Env.of e [(12,v11),(11,v11),(9,(.bool true)),(10,(e 3)),(9,(.bool true)),(9,v8),(8,v8),(7,v7),(6,(e 0)),(5,(e 3))]) ds W) ((XV ro K) .normal (Env.of e [(12,(.bool false)),(11,undef),(9,(.bool false)),(10,undef),(9,(.bool false)),(9,v8),(8,v8),(7,v7),(6,(e 0)),(5,(e 3))]) ds W)):=by kernel_rfl
def XW (ro:Option Nat) (K:AG):AG:=Aq (fun e ds W=>wV (AQ prog .add 3 true (e 4) (.int .i64 1)) fun JZ=>K .normal (Env.of e [(4,JZ),(58,JZ),(57,(e 4))]) ds W) K
theorem wN (ro:Option Nat) (e:Env) (ds:List Deferred) (K:AG) (W:CW):AP prog AT ro 13 83 (Ag prog 13 1) e ds W K=(wV (Dz prog 22 (e 0) (e 3)) fun NA=>wV (A_ prog 48 NA 2) fun FD=>wV (ld prog 45 FD W) fun GL=>wV (AY prog 45 GL W) fun MC=>wV (AQ prog .lss 3 false (e 4) MC) fun EU=>wI EU (wV (Dz prog 22 (e 0) (e 3)) fun GR=>wV (A_ prog 48 GR 2) fun Wi=>wV (ld prog 45 Wi W) fun Ld=>wV (Dz prog 45 Ld (e 4)) fun KQ=>wV (A_ prog 72 KQ 0) fun Fw=>wV (ld prog 9 Fw W) fun UZ=>wV (AY prog 9 UZ W) fun Jo=>wV (AQ prog .gtr 3 true Jo (.int .i64 70)) fun Jq=>wI Jq ((XW ro K) .ret (Env.of e [(2,(.bool false)),(69,Jq),(68,Jo),(67,UZ),(66,Fw),(65,KQ),(64,(e 4)),(63,Ld),(62,Wi),(61,GR),(60,(e 3)),(59,(e 0)),(56,EU),(55,MC),(54,GL),(53,FD),(52,NA),(51,(e 3)),(50,(e 0)),(49,(e 4))]) ds W) ((XW ro K) .normal (Env.of e [(69,Jq),(68,Jo),(67,UZ),(66,Fw),(65,KQ),(64,(e 4)),(63,Ld),(62,Wi),(61,GR),(60,(e 3)),(59,(e 0)),(56,EU),(55,MC),(54,GL),(53,FD),(52,NA),(51,(e 3)),(50,(e 0)),(49,(e 4))]) ds W)) (K (.exit 2) (Env.of e [(56,EU),(55,MC),(54,GL),(53,FD),(52,NA),(51,(e 3)),(50,(e 0)),(49,(e 4))]) ds W)):=by kernel_rfl
theorem iM (Q:Ending→CW→Prop) (e:Env) (W:CW):AK prog Tryz.f13 Q .ret e [] W=Q (.returned (e 2)) W:=by kernel_rfl
theorem AA2 {Q:Ending→CW→Prop} {v0:Value} {W:CW} (h:AP prog AT none 13 83 (AS prog 13) (Env.args [v0]) [] W (AK prog Tryz.f13 Q)):AH prog AT 13 [v0] W Q:=Ab Tryz.func13 (by kernel_rfl) (by kernel_rfl) (by kernel_rfl) (by kernel_rfl) (by kernel_rfl) h
def XX (ro:Option Nat) (K:AG):AG:=Aq (fun e ds W=>wV (AY prog 23 (e 0) W) fun E3=>wV (AQ prog .leq 3 true E3 (.int .i64 22)) fun EO=>K .ret (Env.of e [(2,EO),(41,EO),(40,E3),(39,(e 0))]) ds W) K
theorem AA3 (v0:Value) (K:AG) (W:CW):AP prog AT none 14 42 (AS prog 14) (Env.args [v0]) [] W K=(C1 prog AT none 14 42 (.loop (Ag prog 14 0)) (Env.of (Env.args [v0]) [(3,(.int .i64 0)),(2,(.bool false))]) [] W (BU 0 (XX none K))):=by kernel_rfl
def PG (ro:Option Nat) (K:AG):AG:=Aq (fun e ds W=>wV (AQ prog .add 3 true (e 3) (.int .i64 1)) fun Dn=>K .normal (Env.of e [(3,Dn),(13,Dn),(12,(e 3))]) ds W) K
def PH (ro:Option Nat) (K:AG):AG:=Aq (fun e ds W=>wI (e 38) ((PG ro K) .ret (Env.of e [(2,(.bool false))]) ds W) ((PG ro K) .normal e ds W)) (BU 1 (PG ro K))
def PI (ro:Option Nat) (K:AG):AG:=Aq (fun e ds W=>wV (Dz prog 23 (e 0) (e 3)) fun FL=>wV (A_ prog 58 FL 0) fun DI=>wV (ld prog 9 DI W) fun C3=>wV (AY prog 9 C3 W) fun C5=>wV (AQ prog .gtr 3 true C5 (.int .i64 70)) fun v20=>wI v20 ((PH ro K) .normal (Env.of e [(38,(.bool true)),(37,undef),(30,(.bool true)),(36,undef),(30,(.bool true)),(35,undef),(30,(.bool true)),(34,undef),(30,(.bool true)),(33,undef),(30,(.bool true)),(32,undef),(30,(.bool true)),(31,undef),(30,(.bool true)),(30,(.bool true)),(29,(.bool true)),(28,undef),(21,(.bool true)),(27,undef),(21,(.bool true)),(26,undef),(21,(.bool true)),(25,undef),(21,(.bool true)),(24,undef),(21,(.bool true)),(23,undef),(21,(.bool true)),(22,undef),(21,(.bool true)),(21,v20),(20,v20),(19,C5),(18,C3),(17,DI),(16,FL),(15,(e 3)),(14,(e 0))]) ds W) (wV (Dz prog 23 (e 0) (e 3)) fun E0=>wV (A_ prog 58 E0 1) fun EB=>wV (ld prog 9 EB W) fun Fz=>wV (AY prog 9 Fz W) fun D4=>wV (AQ prog .gtr 3 true D4 (.int .i64 70)) fun CQ=>wI CQ ((PH ro K) .normal (Env.of e [(38,(.bool true)),(37,undef),(30,(.bool true)),(36,undef),(30,(.bool true)),(35,undef),(30,(.bool true)),(34,undef),(30,(.bool true)),(33,undef),(30,(.bool true)),(32,undef),(30,(.bool true)),(31,undef),(30,(.bool true)),(30,CQ),(29,CQ),(28,CQ),(21,(.bool false)),(27,D4),(21,(.bool false)),(26,Fz),(21,(.bool false)),(25,EB),(21,(.bool false)),(24,E0),(21,(.bool false)),(23,(e 3)),(21,(.bool false)),(22,(e 0)),(21,(.bool false)),(21,v20),(20,v20),(19,C5),(18,C3),(17,DI),(16,FL),(15,(e 3)),(14,(e 0))]) ds W) (wV (Dz prog 23 (e 0) (e 3)) fun ET=>wV (A_ prog 58 ET 2) fun GK=>wV (ld prog 40 GK W) fun EL=>wV (AY prog 40 EL W) fun H8=>wV (AQ prog .gtr 3 true H8 (.int .i64 70)) fun EK=>(PH ro K) .normal (Env.of e [(38,EK),(37,EK),(30,(.bool false)),(36,H8),(30,(.bool false)),(35,EL),(30,(.bool false)),(34,GK),(30,(.bool false)),(33,ET),(30,(.bool false)),(32,(e 3)),(30,(.bool false)),(31,(e 0)),(30,(.bool false)),(30,CQ),(29,CQ),(28,CQ),(21,(.bool false)),(27,D4),(21,(.bool false)),(26,Fz),(21,(.bool false)),(25,EB),(21,(.bool false)),(24,E0),(21,(.bool false)),(23,(e 3)),(21,(.bool false)),(22,(e 0)),(21,(.bool false)),(21,v20),(20,v20),(19,C5),(18,C3),(17,DI),(16,FL),(15,(e 3)),(14,(e 0))]) ds W))) K
def XY (ro:Option Nat) (K:AG):AG:=Aq (fun e ds W=>wI (e 11) ((PI ro K) .normal e ds W) ((PI ro K) (.exit 0) e ds W)) (PI ro K)
theorem wO (ro:Option Nat) (e:Env) (ds:List Deferred) (K:AG) (W:CW):AP prog AT ro 14 42 (Ag prog 14 0) e ds W K=(wV (AY prog 23 (e 0) W) fun v6=>wV (AQ prog .lss 3 false (e 3) v6) fun v7=>wI v7 (wV (AQ prog .lss 3 true (e 3) (.int .i64 22)) fun v10=>(XY ro K) .normal (Env.of e [(11,v10),(10,v10),(8,(.bool true)),(9,(e 3)),(8,(.bool true)),(8,v7),(7,v7),(6,v6),(5,(e 0)),(4,(e 3))]) ds W) ((XY ro K) .normal (Env.of e [(11,(.bool false)),(10,undef),(8,(.bool false)),(9,undef),(8,(.bool false)),(8,v7),(7,v7),(6,v6),(5,(e 0)),(4,(e 3))]) ds W)):=by kernel_rfl
theorem iN (Q:Ending→CW→Prop) (e:Env) (W:CW):AK prog Tryz.f14 Q .ret e [] W=Q (.returned (e 2)) W:=by kernel_rfl
theorem AA4 {Q:Ending→CW→Prop} {v0:Value} {W:CW} (h:AP prog AT none 14 42 (AS prog 14) (Env.args [v0]) [] W (AK prog Tryz.f14 Q)):AH prog AT 14 [v0] W Q:=Ab Tryz.func14 (by kernel_rfl) (by kernel_rfl) (by kernel_rfl) (by kernel_rfl) (by kernel_rfl) h
def PJ (ro:Option Nat) (K:AG):AG:=Aq (fun e ds W=>K .ret e ds W) K
def XZ (ro:Option Nat) (K:AG):AG:=Aq (fun e ds W=>wV (AY prog 24 (e 0) W) fun FC=>wV (AQ prog .leq 3 true FC (.int .i64 40)) fun GJ=>wI GJ ((PJ ro K) .normal (Env.of e [(2,(.bool true)),(56,(.bool true)),(55,undef),(47,(.bool true)),(54,undef),(53,undef),(52,undef),(51,undef),(47,(.bool true)),(50,undef),(47,(.bool true)),(49,undef),(47,(.bool true)),(48,undef),(47,(.bool true)),(47,GJ),(46,GJ),(45,FC),(44,(e 0))]) ds W) (wV (AY prog 24 (e 0) W) fun Fx=>wV (AQ prog .gtr 3 true Fx (.int .i64 1000)) fun GZ=>wI GZ (wV (AY prog 24 (e 0) W) fun FD=>wV (AQ prog .leq 3 true FD (.int .i64 1002)) fun GL=>(PJ ro K) .normal (Env.of e [(2,GL),(56,GL),(55,GL),(47,(.bool false)),(54,GL),(51,(.bool true)),(53,FD),(51,(.bool true)),(52,(e 0)),(51,(.bool true)),(51,GZ),(47,(.bool false)),(50,GZ),(47,(.bool false)),(49,Fx),(47,(.bool false)),(48,(e 0)),(47,(.bool false)),(47,GJ),(46,GJ),(45,FC),(44,(e 0))]) ds W) ((PJ ro K) .normal (Env.of e [(2,(.bool false)),(56,(.bool false)),(55,(.bool false)),(47,(.bool false)),(54,undef),(51,(.bool false)),(53,undef),(51,(.bool false)),(52,undef),(51,(.bool false)),(51,GZ),(47,(.bool false)),(50,GZ),(47,(.bool false)),(49,Fx),(47,(.bool false)),(48,(e 0)),(47,(.bool false)),(47,GJ),(46,GJ),(45,FC),(44,(e 0))]) ds W))) K
theorem AA5 (v0:Value) (K:AG) (W:CW):AP prog AT none 15 57 (AS prog 15) (Env.args [v0]) [] W K=(C1 prog AT none 15 57 (.loop (Ag prog 15 0)) (Env.of (Env.args [v0]) [(3,(.int .i64 0)),(2,(.bool false))]) [] W (BU 0 (XZ none K))):=by kernel_rfl
def Tz (ro:Option Nat) (K:AG):AG:=Aq (fun e ds W=>wV (AQ prog .add 3 true (e 3) (.int .i64 1)) fun v9=>K .normal (Env.of e [(3,v9),(9,v9),(8,(e 3))]) ds W) K
def PK (ro:Option Nat) (K:AG):AG:=Aq (fun e ds W=>wI (e 43) ((Tz ro K) .ret (Env.of e [(2,(.bool false))]) ds W) ((Tz ro K) .normal e ds W)) (BU 1 (Tz ro K))
theorem wP (ro:Option Nat) (e:Env) (ds:List Deferred) (K:AG) (W:CW):AP prog AT ro 15 57 (Ag prog 15 0) e ds W K=(wV (AY prog 24 (e 0) W) fun v6=>wV (AQ prog .lss 3 false (e 3) v6) fun v7=>wI v7 (wV (Dz prog 24 (e 0) (e 3)) fun Br=>wV (A_ prog 56 Br 0) fun Dn=>wV (ld prog 9 Dn W) fun B9=>wV (AY prog 9 B9 W) fun EC=>wV (AQ prog .gtr 3 true EC (.int .i64 70)) fun FL=>wI FL ((PK ro K) .normal (Env.of e [(43,(.bool true)),(42,undef),(35,(.bool true)),(41,undef),(35,(.bool true)),(40,undef),(35,(.bool true)),(39,undef),(35,(.bool true)),(38,undef),(35,(.bool true)),(37,undef),(35,(.bool true)),(36,undef),(35,(.bool true)),(35,(.bool true)),(34,(.bool true)),(33,undef),(17,(.bool true)),(32,undef),(31,undef),(30,undef),(29,undef),(28,undef),(27,undef),(26,undef),(25,undef),(17,(.bool true)),(24,undef),(17,(.bool true)),(23,undef),(17,(.bool true)),(22,undef),(17,(.bool true)),(21,undef),(17,(.bool true)),(20,undef),(17,(.bool true)),(19,undef),(17,(.bool true)),(18,undef),(17,(.bool true)),(17,FL),(16,FL),(15,EC),(14,B9),(13,Dn),(12,Br),(11,(e 3)),(10,(e 0)),(7,v7),(6,v6),(5,(e 0)),(4,(e 3))]) ds W) (wV (Dz prog 24 (e 0) (e 3)) fun v20=>wV (A_ prog 56 v20 1) fun DB=>wV (ld prog 40 DB W) fun Fy=>wV (AY prog 40 Fy W) fun EV=>wV (AQ prog .gtr 3 true EV (.int .i64 70)) fun E0=>wI E0 (wV (Dz prog 24 (e 0) (e 3)) fun CQ=>wV (A_ prog 56 CQ 1) fun DY=>wV (ld prog 40 DY W) fun v30=>wV (AY prog 40 v30 W) fun EM=>wV (AQ prog .leq 3 true EM (.int .i64 200)) fun E4=>wI E4 ((PK ro K) .normal (Env.of e [(43,(.bool true)),(42,undef),(35,(.bool true)),(41,undef),(35,(.bool true)),(40,undef),(35,(.bool true)),(39,undef),(35,(.bool true)),(38,undef),(35,(.bool true)),(37,undef),(35,(.bool true)),(36,undef),(35,(.bool true)),(35,E4),(34,E4),(33,E4),(17,(.bool false)),(32,E4),(25,(.bool true)),(31,EM),(25,(.bool true)),(30,v30),(25,(.bool true)),(29,DY),(25,(.bool true)),(28,CQ),(25,(.bool true)),(27,(e 3)),(25,(.bool true)),(26,(e 0)),(25,(.bool true)),(25,E0),(17,(.bool false)),(24,E0),(17,(.bool false)),(23,EV),(17,(.bool false)),(22,Fy),(17,(.bool false)),(21,DB),(17,(.bool false)),(20,v20),(17,(.bool false)),(19,(e 3)),(17,(.bool false)),(18,(e 0)),(17,(.bool false)),(17,FL),(16,FL),(15,EC),(14,B9),(13,Dn),(12,Br),(11,(e 3)),(10,(e 0)),(7,v7),(6,v6),(5,(e 0)),(4,(e 3))]) ds W) (wV (Dz prog 24 (e 0) (e 3)) fun IQ=>wV (A_ prog 56 IQ 1) fun G0=>wV (ld prog 40 G0 W) fun E3=>wV (AY prog 40 E3 W) fun EO=>wV (AQ prog .gtr 3 true EO (.int .i64 203)) fun G9=>(PK ro K) .normal (Env.of e [(43,G9),(42,G9),(35,(.bool false)),(41,EO),(35,(.bool false)),(40,E3),(35,(.bool false)),(39,G0),(35,(.bool false)),(38,IQ),(35,(.bool false)),(37,(e 3)),(35,(.bool false)),(36,(e 0)),(35,(.bool false)),(35,E4),(34,E4),(33,E4),(17,(.bool false)),(32,E4),(25,(.bool true)),(31,EM),(25,(.bool true)),(30,v30),(25,(.bool true)),(29,DY),(25,(.bool true)),(28,CQ),(25,(.bool true)),(27,(e 3)),(25,(.bool true)),(26,(e 0)),(25,(.bool true)),(25,E0),(17,(.bool false)),(24,E0),(17,(.bool false)),(23,EV),(17,(.bool false)),(22,Fy),(17,(.bool false)),(21,DB),(17,(.bool false)),(20,v20),(17,(.bool false)),(19,(e 3)),(17,(.bool false)),(18,(e 0)),(17,(.bool false)),(17,FL),(16,FL),(15,EC),(14,B9),(13,Dn),(12,Br),(11,(e 3)),(10,(e 0)),(7,v7),(6,v6),(5,(e 0)),(4,(e 3))]) ds W)) (wV (Dz prog 24 (e 0) (e 3)) fun IQ=>wV (A_ prog 56 IQ 1) fun G0=>wV (ld prog 40 G0 W) fun E3=>wV (AY prog 40 E3 W) fun EO=>wV (AQ prog .gtr 3 true EO (.int .i64 203)) fun G9=>(PK ro K) .normal (Env.of e [(43,G9),(42,G9),(35,(.bool false)),(41,EO),(35,(.bool false)),(40,E3),(35,(.bool false)),(39,G0),(35,(.bool false)),(38,IQ),(35,(.bool false)),(37,(e 3)),(35,(.bool false)),(36,(e 0)),(35,(.bool false)),(35,(.bool false)),(34,(.bool false)),(33,(.bool false)),(17,(.bool false)),(32,undef),(25,(.bool false)),(31,undef),(25,(.bool false)),(30,undef),(25,(.bool false)),(29,undef),(25,(.bool false)),(28,undef),(25,(.bool false)),(27,undef),(25,(.bool false)),(26,undef),(25,(.bool false)),(25,E0),(17,(.bool false)),(24,E0),(17,(.bool false)),(23,EV),(17,(.bool false)),(22,Fy),(17,(.bool false)),(21,DB),(17,(.bool false)),(20,v20),(17,(.bool false)),(19,(e 3)),(17,(.bool false)),(18,(e 0)),(17,(.bool false)),(17,FL),(16,FL),(15,EC),(14,B9),(13,Dn),(12,Br),(11,(e 3)),(10,(e 0)),(7,v7),(6,v6),(5,(e 0)),(4,(e 3))]) ds W))) (K (.exit 0) (Env.of e [(7,v7),(6,v6),(5,(e 0)),(4,(e 3))]) ds W)):=by kernel_rfl
theorem iO (Q:Ending→CW→Prop) (e:Env) (W:CW):AK prog Tryz.f15 Q .ret e [] W=Q (.returned (e 2)) W:=by kernel_rfl
theorem AA6 {Q:Ending→CW→Prop} {v0:Value} {W:CW} (h:AP prog AT none 15 57 (AS prog 15) (Env.args [v0]) [] W (AK prog Tryz.f15 Q)):AH prog AT 15 [v0] W Q:=Ab Tryz.func15 (by kernel_rfl) (by kernel_rfl) (by kernel_rfl) (by kernel_rfl) (by kernel_rfl) h
end Go.Ce
namespace Go.Ce
open Go Go.Proofs Go.Proofs.Tryz
def HZ (A:Prop) (W:CW):Ending→CW→Prop:=fun e W'=>W'=W∧∃ b,e=.returned (.bool b)∧(b=true→A)
theorem Uj {v0:Value} {l:List CE} {W:CW} (hl:Ay 3 (Ou W) v0 l) :
  AH prog AT 14 [v0] W (HZ (l.length≤22∧∀ s,s ∈ l→s.map.length≤70) W):=by
 refine AA4 ?_; rw [AA3]; obtain ⟨a,cap,rfl,hc⟩:=hl; generalize JO:AK prog Tryz.f14 (HZ (l.length≤22∧∀ s,s ∈ l→s.map.length≤70) W)=KK
 have H4:∀ (e:Env) (b:Bool),e 2=.bool b→(b=true→l.length≤22∧∀ s,s ∈ l→s.map.length≤70)→KK .ret e [] W:=by
  intro e b h2 hb; rw [←JO,iN]; exact ⟨rfl,b,by rw [h2],hb⟩
 refine Du (fun i e ds W'=>ds=[]∧W'=W∧e 0=.slice a l.length cap∧e 3=.int .i64 i∧∀ j x,j<i→l[j]?=some x→x.map.length≤70) (min l.length 22) ⟨rfl,rfl,rfl,rfl,by omega⟩ ?_; rintro i e ds W' hi ⟨rfl,rfl,h0,h3,CY⟩; rw [wO,h0,h3]; simp only [Ac jQ,AA,A6]
 have EA:∀ e1:Env,e1 0=.slice a l.length cap→(l.length≤22→i=l.length)→(XX none KK) .normal e1 [] W':=by
  intro e1 g0 K5; simp only [XX,Bs,g0,Ac jQ,AA,Hv]; refine H4 _ _ rfl fun hb=>?_; have hb:l.length≤22:=by have:=of_decide_eq_true hb; omega
  have hi2:=K5 hb; refine ⟨hb,fun s hs=>?_⟩; obtain ⟨j,hj,rfl⟩:=List.getElem_of_mem hs; exact CY j _ (by omega) (List.getElem?_eq_getElem hj)
 refine Gx (fun Ax=>?_) (fun NW=>?_)
 ·simp only [XY,Bs]; simp only [Aa,↓reduceIte]
  refine AL (fun iP=>?_) (fun iP=>?_)
  ·have iP:i<22:=by have:=of_decide_eq_true iP; omega
   have hx:=List.getElem?_eq_getElem Ax; obtain ⟨p,rfl,hp⟩:=hc i _ hx; obtain ⟨vm,aK,hm,_⟩:=hp.map; obtain ⟨am,cm,rfl,_⟩:=hm; simp only [PI,Bs]; simp only [Aa,Av,Nat.reduceEqDiff,↓reduceIte,h0,h3]; rw [BH jQ gR Ax]; simp only [AA,Ln,Lo,Nt]; rw [AD a9 (a:=⟨p.block,p.off+i*3,none⟩) hp.type,AD a9 (a:=⟨p.block,p.off+i*3+1,none⟩) hp.to,AD ND (a:=⟨p.block,p.off+i*3+2,none⟩) aK]; simp only [AA,LF u9,Ac Iw,Bg]
   have bad:∀ e1:Env,e1 38=.bool true→(PH none (J5 (fun i e ds ep=>ds=[]∧ep=W'∧e 0=.slice (some p) l.length cap∧e 3=.int .i64 i∧∀ j x,j<i→l[j]?=some x→x.map.length≤70) i (min l.length 22) (BU 0 (XX none KK)))) .normal e1 [] W':=by
    intro e1 h38; simp only [PH,Bs,KR,RR,HC,Ud,h38,Bm,PG]; exact H4 _ false rfl nofun
   refine AL (fun _=>bad _ rfl) (fun _=>?_); refine AL (fun _=>bad _ rfl) (fun _=>?_); simp only [PH,Bs]; simp only [Aa,↓reduceIte]
   refine AL (fun _=>?_) (fun ADM=>?_)
   ·simp only [PG,KR,RR,HC,Ud]; exact H4 _ false rfl nofun
   ·simp only [PG,Bs,HC]; simp only [Aa,Av,Nat.reduceEqDiff,↓reduceIte,h0,h3,Ap,AA]; refine ⟨by omega,trivial,trivial,trivial,by rw [Dv (by omega)],fun j x hj JI=>?_⟩
    rcases Nat.lt_succ_iff_lt_or_eq.1 hj with h2 | rfl
    ·exact CY j x h2 JI
    ·rw [hx] at JI; cases JI; have:=of_decide_eq_false ADM; omega
  ·have iP:¬i<22:=by have:=of_decide_eq_false iP; omega
   simp only [PI,VD,Md,ON,if_true]; exact EA _ h0 (by omega)
 ·simp only [XY,Bs]; simp only [Aa,↓reduceIte,Ao]; simp only [PI,VD,Md,ON,if_true]; exact EA _ h0 (by omega)
end Go.Ce
namespace Go.Ce
open Go Go.Proofs Go.Proofs.Tryz
theorem wQ {i:Nat} (h:i<9223372036854775807):IntKind.i64.wrap ((i:Int)+1)=((i+1:Nat):Int):=by rw [wrap64 (by omega) (by omega)]; rfl
theorem Zn {v0:Value} {l:List BR} {W:CW} (hl:Ay 2 (Fk W) v0 l) (hlm:l.length≤maxLen) :
  AH prog AT 15 [v0] W (HZ ((l.length≤40∨1000<l.length)∧l.length≤1002∧∀ x,x ∈ l→x.AJ.length≤203) W):=by
 refine AA6 ?_; rw [AA5]; have AEK:maxLen=9223372036854775807:=rfl; obtain ⟨a,cap,rfl,hc⟩:=hl; generalize JO:AK prog Tryz.f15 (HZ ((l.length≤40∨1000<l.length)∧l.length≤1002∧∀ x,x ∈ l→x.AJ.length≤203) W)=KK
 have H4:∀ (e:Env) (b:Bool),e 2=.bool b→(b=true→(l.length≤40∨1000<l.length)∧l.length≤1002∧∀ x,x ∈ l→x.AJ.length≤203)→KK .ret e [] W:=by
  intro e b h2 hb; rw [←JO,iO]; exact ⟨rfl,b,by rw [h2],hb⟩
 refine Du (fun i e ds W'=>ds=[]∧W'=W∧e 0=.slice a l.length cap∧e 3=.int .i64 i∧∀ j x,j<i→l[j]?=some x→x.AJ.length≤203) l.length ⟨rfl,rfl,rfl,rfl,by omega⟩ ?_; rintro i e ds W' hi ⟨rfl,rfl,h0,h3,CY⟩; rw [wP,h0,h3]; simp only [Ac L4,AA,A6]
 refine Gx (fun Ax=>?_) (fun NW=>?_)
 ·have hx:=List.getElem?_eq_getElem Ax; obtain ⟨p,rfl,hp⟩:=hc i _ hx; obtain ⟨vm,aK,hm⟩:=hp.AJ; obtain ⟨am,cm,rfl,_⟩:=hm; rw [BH L4 Io Ax]; simp only [AA,GF,Dg]; rw [AD a9 (a:=⟨p.block,p.off+i*2,none⟩) hp.type,AD ND (a:=⟨p.block,p.off+i*2+1,none⟩) aK]; simp only [AA,LF u9,Ac Iw,Bg,Hv]
  have fin:∀ (e1:Env) (b:Bool),e1 43=.bool b→e1 0=.slice (some p) l.length cap→e1 3=.int .i64 i→(b=false→l[i].AJ.length≤203)→(PK none (J5 (fun i e ds ep=>ds=[]∧ep=W'∧e 0=.slice (some p) l.length cap∧e 3=.int .i64 i∧∀ j x,j<i→l[j]?=some x→x.AJ.length≤203) i l.length (BU 0 (XZ none KK)))) .normal e1 [] W':=by
   intro e1 b h43 g0 g3 hb; simp only [PK,Bs,h43]
   refine AL (fun gk=>?_) (fun jL=>?_)
   ·simp only [Tz,KR,RR,HC,Ud,XZ]; exact H4 _ false rfl nofun
   ·simp only [Tz,Bs,HC]; simp only [Aa,Av,Nat.reduceEqDiff,↓reduceIte,g0,g3,Ap,AA]; refine ⟨Ax,trivial,trivial,trivial,by rw [wQ (by omega)],fun j x hj JI=>?_⟩
    rcases Nat.lt_succ_iff_lt_or_eq.1 hj with h2 | rfl
    ·exact CY j x h2 JI
    ·rw [hx] at JI; cases JI; exact hb jL
  refine AL (fun _=>fin _ true rfl (by exact h0) (by exact h3) nofun) (fun _=>?_)
  refine AL (fun h70=>?_) (fun h70=>?_)
  ·refine AL (fun ADN=>fin _ true rfl (by exact h0) (by exact h3) nofun) (fun ADN=>?_); refine fin _ _ rfl (by exact h0) (by exact h3) fun hb=>?_; have:=of_decide_eq_false hb; omega
  ·refine fin _ _ rfl (by exact h0) (by exact h3) fun hb=>?_; have:=of_decide_eq_false h70; omega
 ·have K5:i=l.length:=by omega
  simp only [Bs,VD,Md,ON,if_true,XZ]; simp only [Aa,Av,Nat.reduceEqDiff,↓reduceIte,h0,Ac L4,AA,Hv,Bg]
  have Bq:∀ x,x ∈ l→x.AJ.length≤203:=fun s hs=>by
   obtain ⟨j,hj,rfl⟩:=List.getElem_of_mem hs; exact CY j _ (by omega) (List.getElem?_eq_getElem hj)
  refine AL (fun h40=>?_) (fun h40=>?_)
  ·simp only [PJ,Bs]; have:=of_decide_eq_true h40; exact H4 _ true rfl fun _=>⟨.inl (by omega),by omega,Bq⟩
  ·refine AL (fun LS=>?_) (fun LS=>?_)
   ·simp only [PJ,Bs]; have LS:=of_decide_eq_true LS; refine H4 _ _ rfl fun hb=>?_; have:=of_decide_eq_true hb; exact ⟨.inr (by omega),by omega,Bq⟩
   ·simp only [PJ,Bs]; exact H4 _ false rfl nofun
end Go.Ce
namespace Go.Ce
open Go Go.Proofs Go.Proofs.Tryz
theorem a46:agg? prog 46=some false:=by kernel_rfl
theorem qM (a:Addr):A_ prog 48 (.pointer (some a)) 4=some (.pointer (some ⟨a.block,a.off+4,none⟩)):=by kernel_rfl
def dK (x:Af):Prop:=x.name.size≤70∧x.Bk.size≤70∧x.fields.length≤24∧∀ f,f ∈ x.fields→f.name.size≤70
theorem Zo {v0:Value} {l:List Af} {W:CW} (hl:Ay 5 (MF W) v0 l) :
  AH prog AT 13 [v0] W (HZ (l.length≤102∧∀ x,x ∈ l→dK x) W):=by
 refine AA2 ?_; rw [AA1]; obtain ⟨a,cap,rfl,hc⟩:=hl; generalize JO:AK prog Tryz.f13 (HZ (l.length≤102∧∀ x,x ∈ l→dK x) W)=KK
 have H4:∀ (e:Env) (b:Bool),e 2=.bool b→(b=true→l.length≤102∧∀ x,x ∈ l→dK x)→KK .ret e [] W:=by
  intro e b h2 hb; rw [←JO,iM]; exact ⟨rfl,b,by rw [h2],hb⟩
 refine Du (fun i e ds W'=>ds=[]∧W'=W∧e 0=.slice a l.length cap∧e 3=.int .i64 i∧∀ j x,j<i→l[j]?=some x→dK x) (min l.length 103) ⟨rfl,rfl,rfl,rfl,by omega⟩ ?_; rintro i e ds W' hi ⟨rfl,rfl,h0,h3,CY⟩; rw [wM,h0,h3]; simp only [Ac iv,AA,A6]
 have EA:∀ e1:Env,e1 0=.slice a l.length cap→(l.length≤102→i=l.length)→(PD none KK) .normal e1 [] W':=by
  intro e1 g0 K5
  have Bq:l.length≤102→∀ x,x ∈ l→dK x:=fun h s hs=>by
   have:=K5 h; obtain ⟨j,hj,rfl⟩:=List.getElem_of_mem hs; exact CY j _ (by omega) (List.getElem?_eq_getElem hj)
  simp only [PD,Bs,g0,Ac iv,AA,Hv,Bg]
  refine AL (fun fC=>?_) (fun fC=>?_)
  ·simp only [PC,Bs]; have:=of_decide_eq_true fC; exact H4 _ true rfl fun _=>⟨by omega,Bq (by omega)⟩
  ·refine AL (fun ADO=>?_) (fun ADO=>?_)
   ·simp only [PC,Bs]; refine H4 _ _ rfl fun hb=>?_; have:=of_decide_eq_true hb; exact ⟨by omega,Bq (by omega)⟩
   ·simp only [PC,Bs]; exact H4 _ false rfl nofun
 refine Gx (fun Ax=>?_) (fun NW=>?_)
 ·simp only [XV,Bs]; simp only [Aa,↓reduceIte]
  refine AL (fun iP=>?_) (fun iP=>?_)
  ·have iP:i<103:=by have:=of_decide_eq_true iP; omega
   have hx:=List.getElem?_eq_getElem Ax; obtain ⟨p,rfl,hp⟩:=hc i _ hx; obtain ⟨vf,hvf,hf⟩:=hp.fields; obtain ⟨af,cf,rfl,hfc⟩:=hf; obtain ⟨ab,lb,cb,TI⟩:=hp.binds; have q9:ld prog 9 (.pointer (some ⟨p.block,p.off+i*5,none⟩)) W'=some (.string l[i].name):=AD a9 (a:=⟨p.block,p.off+i*5,none⟩) hp.name; have q9':ld prog 9 (.pointer (some ⟨p.block,p.off+i*5+1,none⟩)) W'=some (.string l[i].Bk):=AD a9 (a:=⟨p.block,p.off+i*5+1,none⟩) hp.Bk; have q45:ld prog 45 (.pointer (some ⟨p.block,p.off+i*5+2,none⟩)) W'=some (.slice af l[i].fields.length cf):=AD a45 (a:=⟨p.block,p.off+i*5+2,none⟩) hvf; have q46:ld prog 46 (.pointer (some ⟨p.block,p.off+i*5+4,none⟩)) W'=some (.slice ab lb cb):=AD a46 (a:=⟨p.block,p.off+i*5+4,none⟩) TI; obtain ⟨eb,heb⟩:=u46; simp only [PF,Bs]; simp only [Aa,Av,Nat.reduceEqDiff,↓reduceIte,h0,h3]; rw [BH iv eS Ax]; simp only [AA,Nr,Wy,Ns,qM,q9,q9',q45,q46,LF u9,Ac qw,Ac heb,Bg]
   have fin:∀ (e1:Env) (b:Bool),e1 48=.bool b→e1 0=.slice (some p) l.length cap→e1 3=.int .i64 i→(b=false→l[i].name.size≤70∧l[i].Bk.size≤70∧l[i].fields.length≤24)→(PE none (J5 (fun i e ds ep=>ds=[]∧ep=W'∧e 0=.slice (some p) l.length cap∧e 3=.int .i64 i∧∀ j x,j<i→l[j]?=some x→dK x) i (min l.length 103) (BU 0 (PD none KK)))) .normal e1 [] W':=by
    intro e1 b h48 g0 g3 hb; simp only [PE,Bs,h48]
    refine AL (fun gk=>?_) (fun jL=>?_)
    ·simp only [Ty,Tx,KR,RR,HC,Ud,PD]; exact H4 _ false rfl nofun
    ·obtain ⟨hn,pU,RB⟩:=hb jL; simp only [Ty,Bs]; refine Du (fun m e ds ep=>ds=[]∧ep=W'∧e 0=.slice (some p) l.length cap∧e 3=.int .i64 i∧e 4=.int .i64 m∧∀ j x,j<m→l[i].fields[j]?=some x→x.name.size≤70) l[i].fields.length ⟨rfl,rfl,by exact g0,by exact g3,rfl,by omega⟩ ?_; rintro m e2 ds2 W2 hm ⟨rfl,rfl,r0,r3,r4,QK⟩; rw [wN,r0,r3,r4,BH iv eS Ax]; simp only [AA,Ns,q45,Ac qw,A6]
     refine Gx (fun wR=>?_) (fun AEL=>?_)
     ·have hxm:=List.getElem?_eq_getElem wR; obtain ⟨q,rfl,hq⟩:=hfc m _ hxm; rw [BH qw s72 wR]; simp only [AA,W_]; rw [AD a9 (a:=⟨q.block,q.off+m*2,none⟩) hq.name]; simp only [AA,LF u9,Bg]
      refine AL (fun h70=>?_) (fun h70=>?_)
      ·simp only [XW,Tx,KR,RR,HC,Ud,PD]; exact H4 _ false rfl nofun
      ·simp only [XW,Bs,HC]; simp only [Aa,Av,Nat.reduceEqDiff,↓reduceIte,r0,r3,r4,Ap,AA]; refine ⟨wR,trivial,trivial,trivial,trivial,by rw [Dv (by omega)],fun j x hj JI=>?_⟩
       rcases Nat.lt_succ_iff_lt_or_eq.1 hj with h2 | rfl
       ·exact QK j x h2 JI
       ·rw [hxm] at JI; cases JI; have:=of_decide_eq_false h70; omega
     ·simp only [Bs,VD,qu,Md,HC,ON,if_true,Tx]; simp only [Aa,Av,Nat.reduceEqDiff,↓reduceIte,r0,r3,Ap,AA]; refine ⟨by omega,trivial,trivial,trivial,by rw [Dv (by omega)],fun j x hj JI=>?_⟩
      rcases Nat.lt_succ_iff_lt_or_eq.1 hj with h2 | rfl
      ·exact CY j x h2 JI
      ·rw [hx] at JI; cases JI; refine ⟨hn,pU,RB,fun f hf=>?_⟩; obtain ⟨j2,oO,rfl⟩:=List.getElem_of_mem hf; exact QK j2 _ (by omega) (List.getElem?_eq_getElem oO)
   refine AL (fun _=>fin _ true rfl (by exact h0) (by exact h3) nofun) (fun h1=>?_); refine AL (fun _=>fin _ true rfl (by exact h0) (by exact h3) nofun) (fun h2=>?_); refine AL (fun _=>fin _ true rfl (by exact h0) (by exact h3) nofun) (fun h4=>?_); refine fin _ _ rfl (by exact h0) (by exact h3) fun _=>?_; have h1:=of_decide_eq_false h1; have h2:=of_decide_eq_false h2; have h4:=of_decide_eq_false h4; exact ⟨by omega,by omega,by omega⟩
  ·have iP:¬i<103:=by have:=of_decide_eq_false iP; omega
   simp only [PF,VD,Md,ON,if_true]; exact EA _ h0 (by omega)
 ·simp only [XV,Bs]; simp only [Aa,↓reduceIte,Ao]; simp only [PF,VD,Md,ON,if_true]; exact EA _ h0 (by omega)
end Go.Ce
namespace Go.Ce
open Go Go.Proofs Go.Proofs.Tryz
structure jU (W:CW) (v0 v1 v2:Value) (c:List Af) (l:List CE) (h:List BR):Prop where
 top:At W
 cat:Ay 5 (MF W) v0 c
 spc:Ay 3 (Ou W) v1 l
 hp:Ay 2 (Fk W) v2 h
 hlm:h.length≤maxLen
theorem wT {c:List Af} (h1:c.length≤102) (h2:∀ x,x ∈ c→dK x):Qz c :=
 ⟨by omega,fun x hx=>by have:=(h2 x hx).2.2.1; omega,fun x hx=>by have:=(h2 x hx).1; omega,fun x hx=>by have:=(h2 x hx).2.1; omega,fun x hx f hf=>by have:=(h2 x hx).2.2.2 f hf; omega⟩
theorem mz:Be AT 16=true:=by kernel_rfl
theorem dL:Be AT (16+2000000)=true:=by kernel_rfl
def m0:Ending→CW→Prop:=fun e _=>e=.returned (.bool true)
end Go.Ce
namespace Go.Ce
open Go Go.Proofs Go.Proofs.Tryz
theorem fU {W:CW} {v:Value} (h:Mj prog W 29 v):∃ b,dG W v b∧b.length≤maxLen:=by
 obtain ⟨b,h1,h2,h3⟩:=Lx (α:=UInt8) (R:=JE W) PR c5 h fun m cs k off hc hj=>by
  cases m with
  | zero=>exact hc.elim
  | succ m =>
   simp only [CT,ut5] at hc; obtain ⟨x,rfl,hw⟩:=hc; have hb:=wf_u8 hw; refine ⟨UInt8.ofNat x.toNat,?_⟩; have:=hj 0 (by omega); show W.cell k off=_; rw [Nat.add_zero] at this; rw [this]; show some (Value.int .u8 x)=some (Value.int .u8 _); congr 2; rw [UInt8.toNat_ofNat_of_lt' (by show x.toNat<256; omega)]; omega
 obtain ⟨a,cap,rfl,hc⟩:=id h1; exact ⟨b,⟨a,cap,rfl,(h2 _ _ _ rfl).2,hc⟩,h3⟩
theorem Zp (c:List Af) (l:List CE) (b:List UInt8):(∃ e:Int,e≠0∧C7 c l b=([],0,e))∨∃ ts xs,BN c=true∧BZ c l=true∧Canon c (JS c l) ts xs∧bI b=Tp c ts xs∧C7 c l b=(xs.map (BP c l),min (xs.length:Int) 1,0):=by
 unfold C7
 cases Ae:BN c with
 | false=>exact .inl ⟨210,by decide,by simp⟩
 | true =>
  cases hs:BZ c l with
  | false=>exact .inl ⟨212,by decide,by simp⟩
  | true =>
   by_cases hl:100000<b.length
   ·exact .inl ⟨2,by decide,by simp [hl]⟩
   ·cases hr:Bn b c (JS c l) 0 with
    | error e=>exact .inl ⟨e,QL Zd hr,by simp [hl]⟩
    | ok r =>
     obtain ⟨xs,DX⟩:=r; obtain ⟨ts,h1,h2⟩:=Uh hr; exact .inr ⟨ts,xs,rfl,rfl,h1,h2,by simp [hl]⟩
theorem dM (a b d:Value):ext (.tuple #[a,b,d]) 0=some a:=rfl
theorem dN (a b d:Value):ext (.tuple #[a,b,d]) 1=some b:=rfl
theorem dO (a b d:Value):ext (.tuple #[a,b,d]) 2=some d:=rfl
end Go.Ce
namespace Go.Ce
open Go Go.Proofs Go.Proofs.Tryz
end Go.Ce
namespace Go.Ce
open Go Go.Proofs Go.Proofs.Tryz
end Go.Ce
namespace Go.Ce
open Go Go.Proofs Go.Proofs.Tryz
def Xa (ro:Option Nat) (K:AG):AG:=Aq (fun e ds W=>wV (CP prog 4 (e 10) (.bool true) W) fun nb=>wV (CP prog 30 (e 11) (.int .i64 0) nb) fun jH=>K .ret e ds jH) K
theorem AA7 (v0 v1 v2 v3 v4:Value) (K:AG) (W:CW):AP prog AT none 20 147 (AS prog 20) (Env.args [v0,v1,v2,v3,v4]) [] W K=(CD (GX prog 4 W) fun v10 W0=>CD (GX prog 30 W0) fun v11 W1=>AH prog AT 49 [v0,v1,v2] W1 (AV (fun DY W2=>wV (ext DY 0) fun v30=>wV (ext DY 1) fun EM=>CD (GX prog 78 W2) fun Br W4=>wV (CP prog 78 Br v30 W4) fun W5=>wV (AQ prog .neq 30 true EM (.int .i64 0)) fun ET=>wI ET (wV (CP prog 4 v10 (.bool false) W5) fun W6=>wV (CP prog 30 v11 EM W6) fun W7=>K .ret (Env.of (Env.args [v0,v1,v2,v3,v4]) [(34,EM),(33,ET),(32,EM),(13,EM),(12,Br),(31,EM),(30,v30),(25,DY),(29,DY),(28,v2),(27,v1),(26,v0),(11,v11),(10,v10)]) [] W7) (AH prog AT 49 [v0,v3,v4] W5 (AV (fun G0 W8=>wV (ext G0 0) fun E3=>wV (ext G0 1) fun EO=>CD (GX prog 78 W8) fun B9 QF=>wV (CP prog 78 B9 E3 QF) fun C'=>wV (AQ prog .neq 30 true EO (.int .i64 0)) fun D9=>wI D9 (wV (CP prog 4 v10 (.bool false) C') fun NB=>wV (CP prog 30 v11 EO NB) fun bX=>K .ret (Env.of (Env.args [v0,v1,v2,v3,v4]) [(44,EO),(43,D9),(42,EO),(15,EO),(14,B9),(41,EO),(40,E3),(35,G0),(39,G0),(38,v4),(37,v3),(36,v0),(33,ET),(32,EM),(13,EM),(12,Br),(31,EM),(30,v30),(25,DY),(29,DY),(28,v2),(27,v1),(26,v0),(11,v11),(10,v10)]) [] bX) (wV (ld prog 78 Br ((C'.new (.cells .nil 1 #[.pointer none] 89)).new (.cells .nil 1 #[.pointer none] 89))) fun FC=>wV (RE prog 131 [(0,FC),(1,v1)]) fun Iv=>AH prog AT 78 [Iv,v2] ((C'.new (.cells .nil 1 #[.pointer none] 89)).new (.cells .nil 1 #[.pointer none] 89)) (AV (fun Fx Lf=>wV (ld prog 78 Br Lf) fun GZ=>wV (RE prog 131 [(0,GZ),(1,v3)]) fun NA=>AH prog AT 78 [NA,v4] Lf (AV (fun GL C0=>true=true∧true=true∧wV (CP prog 89 (.pointer (some ⟨C'.sz,0,none⟩)) Fx C0) fun KX=>wV (CP prog 89 (.pointer (some ⟨(C'.new (.cells .nil 1 #[.pointer none] 89)).sz,0,none⟩)) GL KX) fun Im=>(((True)∧((True)∧((True)∧((ld prog 78 Br Lf=some GZ)∧ld prog 78 Br ((C'.new (.cells .nil 1 #[.pointer none] 89)).new (.cells .nil 1 #[.pointer none] 89))=some GZ))))∧(((True)∧((True)∧((True)∧((True)∧ld prog 78 Br ((C'.new (.cells .nil 1 #[.pointer none] 89)).new (.cells .nil 1 #[.pointer none] 89))=some FC))))∧True))∧(((True)∧((True)∧((JA (.pointer (some ⟨C'.sz,0,none⟩)) ((C'.new (.cells .nil 1 #[.pointer none] 89)).obj C'.sz) C0=true)∧((JA (.pointer (some ⟨C'.sz,0,none⟩)) ((C'.new (.cells .nil 1 #[.pointer none] 89)).obj C'.sz) Lf=true)∧JA (.pointer (some ⟨C'.sz,0,none⟩)) ((C'.new (.cells .nil 1 #[.pointer none] 89)).obj C'.sz) ((C'.new (.cells .nil 1 #[.pointer none] 89)).new (.cells .nil 1 #[.pointer none] 89))=true))))∧(((True)∧((True)∧((JA (.pointer (some ⟨(C'.new (.cells .nil 1 #[.pointer none] 89)).sz,0,none⟩)) (((C'.new (.cells .nil 1 #[.pointer none] 89)).new (.cells .nil 1 #[.pointer none] 89)).obj (C'.new (.cells .nil 1 #[.pointer none] 89)).sz) C0=true)∧((JA (.pointer (some ⟨(C'.new (.cells .nil 1 #[.pointer none] 89)).sz,0,none⟩)) (((C'.new (.cells .nil 1 #[.pointer none] 89)).new (.cells .nil 1 #[.pointer none] 89)).obj (C'.new (.cells .nil 1 #[.pointer none] 89)).sz) Lf=true)∧JA (.pointer (some ⟨(C'.new (.cells .nil 1 #[.pointer none] 89)).sz,0,none⟩)) (((C'.new (.cells .nil 1 #[.pointer none] 89)).new (.cells .nil 1 #[.pointer none] 89)).obj (C'.new (.cells .nil 1 #[.pointer none] 89)).sz) ((C'.new (.cells .nil 1 #[.pointer none] 89)).new (.cells .nil 1 #[.pointer none] 89))=true))))∧True))∧wV (ld prog 89 (.pointer (some ⟨C'.sz,0,none⟩)) Im) fun MC=>wV (QV MC) fun EU=>wV (A_ prog 100 EU 0) fun Mb=>wV (ld prog 40 Mb Im) fun JZ=>wV (AY prog 40 JZ Im) fun Jp=>wV (ld prog 89 (.pointer (some ⟨(C'.new (.cells .nil 1 #[.pointer none] 89)).sz,0,none⟩)) Im) fun GO=>wV (QV GO) fun GR=>wV (A_ prog 100 GR 0) fun Wi=>wV (ld prog 40 Wi Im) fun Ld=>wV (AY prog 40 Ld Im) fun GY=>wV (AQ prog .neq 3 false Jp GY) fun KQ=>(AY prog 40 Ld Im=some GY∧(ld prog 40 Wi Im=some Ld∧(ld prog 89 (.pointer (some ⟨(C'.new (.cells .nil 1 #[.pointer none] 89)).sz,0,none⟩)) Im=some GO∧(AY prog 40 JZ Im=some Jp∧(ld prog 40 Mb Im=some JZ∧(ld prog 89 (.pointer (some ⟨C'.sz,0,none⟩)) Im=some MC∧True))))))∧True∧wI KQ (wV (CP prog 4 v10 (.bool false) Im) fun QW=>wV (CP prog 30 v11 (.int .i64 0) QW) fun gG=>K .ret (Env.of (Env.args [v0,v1,v2,v3,v4]) [(65,KQ),(64,GY),(63,Ld),(62,Wi),(61,GR),(60,GO),(59,Jp),(58,JZ),(57,Mb),(56,EU),(55,MC),(17,(.pointer (some ⟨(C'.new (.cells .nil 1 #[.pointer none] 89)).sz,0,none⟩))),(16,(.pointer (some ⟨C'.sz,0,none⟩))),(54,GL),(53,v4),(52,NA),(51,v3),(50,GZ),(49,Fx),(48,v2),(47,Iv),(46,v1),(45,FC),(43,D9),(42,EO),(15,EO),(14,B9),(41,EO),(40,E3),(35,G0),(39,G0),(38,v4),(37,v3),(36,v0),(33,ET),(32,EM),(13,EM),(12,Br),(31,EM),(30,v30),(25,DY),(29,DY),(28,v2),(27,v1),(26,v0),(11,v11),(10,v10)]) [] gG) (wV (ld prog 89 (.pointer (some ⟨C'.sz,0,none⟩)) Im) fun Fw=>wV (QV Fw) fun UZ=>wV (A_ prog 100 UZ 0) fun Jo=>wV (ld prog 40 Jo Im) fun Jq=>wV (AY prog 40 Jq Im) fun My=>C1 prog AT none 20 147 (.loop (Ag prog 20 0)) (Env.of (Env.args [v0,v1,v2,v3,v4]) [(71,(.int .i64 0)),(70,My),(69,Jq),(68,Jo),(67,UZ),(66,Fw),(65,KQ),(64,GY),(63,Ld),(62,Wi),(61,GR),(60,GO),(59,Jp),(58,JZ),(57,Mb),(56,EU),(55,MC),(17,(.pointer (some ⟨(C'.new (.cells .nil 1 #[.pointer none] 89)).sz,0,none⟩))),(16,(.pointer (some ⟨C'.sz,0,none⟩))),(54,GL),(53,v4),(52,NA),(51,v3),(50,GZ),(49,Fx),(48,v2),(47,Iv),(46,v1),(45,FC),(43,D9),(42,EO),(15,EO),(14,B9),(41,EO),(40,E3),(35,G0),(39,G0),(38,v4),(37,v3),(36,v0),(33,ET),(32,EM),(13,EM),(12,Br),(31,EM),(30,v30),(25,DY),(29,DY),(28,v2),(27,v1),(26,v0),(11,v11),(10,v10)]) [] Im (BU 0 (Xa none K)))) (fun yx VA=>False))) (fun AEM UY=>False)))) (fun ot W9=>K (.panic ot) (Env.of (Env.args [v0,v1,v2,v3,v4]) [(38,v4),(37,v3),(36,v0),(33,ET),(32,EM),(13,EM),(12,Br),(31,EM),(30,v30),(25,DY),(29,DY),(28,v2),(27,v1),(26,v0),(11,v11),(10,v10)]) [] W9)))) (fun Yg W3=>K (.panic Yg) (Env.of (Env.args [v0,v1,v2,v3,v4]) [(28,v2),(27,v1),(26,v0),(11,v11),(10,v10)]) [] W3))):=by kernel_rfl
def Ly (ro:Option Nat) (K:AG):AG:=Aq (fun e ds W=>wV (AQ prog .add 3 true (e 71) (.int .i64 1)) fun lV=>K .normal (Env.of e [(71,lV),(146,lV)]) ds W) K
def Lz (ro:Option Nat) (K:AG):AG:=Aq (fun e ds W=>wV (ld prog 78 (e 12) W) fun JC=>wV (ld prog 56 (e 20) W) fun gX=>AH prog AT 62 [JC,gX] W (AV (fun Wm yl=>C1 prog AT ro 20 147 (.rangeFunc (.tmp 108) #[109,110] (AO prog 20 0) (AN prog 20 0)) (Env.of e [(108,Wm),(107,gX),(106,JC)]) ds yl (BU 2 (BU 1 (Ly ro K)))) (fun ADP aE=>(Ly ro K) (.panic ADP) (Env.of e [(107,gX),(106,JC)]) ds aE))) (BU 1 (Ly ro K))
def Rt (ro:Option Nat) (K:AG):AG:=Aq (fun e ds W=>wI (e 105) (wV (CP prog 4 (e 10) (.bool false) W) fun Xl=>wV (CP prog 30 (e 11) (.int .i64 0) Xl) fun W32=>(Lz ro K) .ret e ds W32) ((Lz ro K) .normal e ds W)) (Lz ro K)
theorem wU (ro:Option Nat) (e:Env) (ds:List Deferred) (K:AG) (W:CW):AP prog AT ro 20 147 (Ag prog 20 0) e ds W K=(wV (AQ prog .lss 3 false (e 71) (e 70)) fun RI=>wI RI (wV (Dz prog 40 (e 69) (e 71)) fun gJ=>wV (ld prog 3 gJ W) fun LA=>wV (AQ prog .sub 3 true LA (.int .i64 1)) fun Yh=>wV (Dz prog 24 (e 1) Yh) fun QH=>wV (ld prog 56 QH ((W.new (.cells .nil 2 #[.string ⟨#[]⟩,.slice none 0 0] 56)).new (.cells .nil 2 #[.string ⟨#[]⟩,.slice none 0 0] 56))) fun Mc=>wV (ld prog 89 (e 17) ((W.new (.cells .nil 2 #[.string ⟨#[]⟩,.slice none 0 0] 56)).new (.cells .nil 2 #[.string ⟨#[]⟩,.slice none 0 0] 56))) fun Sq=>wV (QV Sq) fun UW=>wV (A_ prog 100 UW 0) fun NC=>wV (ld prog 40 NC ((W.new (.cells .nil 2 #[.string ⟨#[]⟩,.slice none 0 0] 56)).new (.cells .nil 2 #[.string ⟨#[]⟩,.slice none 0 0] 56))) fun M_=>wV (Dz prog 40 M_ (e 71)) fun Yn=>wV (ld prog 3 Yn ((W.new (.cells .nil 2 #[.string ⟨#[]⟩,.slice none 0 0] 56)).new (.cells .nil 2 #[.string ⟨#[]⟩,.slice none 0 0] 56))) fun RN=>wV (AQ prog .sub 3 true RN (.int .i64 1)) fun T_=>wV (Dz prog 24 (e 3) T_) fun RO=>wV (ld prog 56 RO ((W.new (.cells .nil 2 #[.string ⟨#[]⟩,.slice none 0 0] 56)).new (.cells .nil 2 #[.string ⟨#[]⟩,.slice none 0 0] 56))) fun No=>true=true∧true=true∧wV (CP prog 56 (.pointer (some ⟨W.sz,0,none⟩)) Mc ((W.new (.cells .nil 2 #[.string ⟨#[]⟩,.slice none 0 0] 56)).new (.cells .nil 2 #[.string ⟨#[]⟩,.slice none 0 0] 56))) fun gH=>wV (CP prog 56 (.pointer (some ⟨(W.new (.cells .nil 2 #[.string ⟨#[]⟩,.slice none 0 0] 56)).sz,0,none⟩)) No gH) fun QX=>(((True)∧((ld prog 56 RO gH=some No)∧ld prog 56 RO ((W.new (.cells .nil 2 #[.string ⟨#[]⟩,.slice none 0 0] 56)).new (.cells .nil 2 #[.string ⟨#[]⟩,.slice none 0 0] 56))=some No))∧(((True)∧((ld prog 3 Yn gH=some RN)∧ld prog 3 Yn ((W.new (.cells .nil 2 #[.string ⟨#[]⟩,.slice none 0 0] 56)).new (.cells .nil 2 #[.string ⟨#[]⟩,.slice none 0 0] 56))=some RN))∧(((True)∧((ld prog 40 NC gH=some M_)∧ld prog 40 NC ((W.new (.cells .nil 2 #[.string ⟨#[]⟩,.slice none 0 0] 56)).new (.cells .nil 2 #[.string ⟨#[]⟩,.slice none 0 0] 56))=some M_))∧(((True)∧((ld prog 89 (e 17) gH=some Sq)∧ld prog 89 (e 17) ((W.new (.cells .nil 2 #[.string ⟨#[]⟩,.slice none 0 0] 56)).new (.cells .nil 2 #[.string ⟨#[]⟩,.slice none 0 0] 56))=some Sq))∧(((True)∧((True)∧ld prog 56 QH ((W.new (.cells .nil 2 #[.string ⟨#[]⟩,.slice none 0 0] 56)).new (.cells .nil 2 #[.string ⟨#[]⟩,.slice none 0 0] 56))=some Mc))∧True)))))∧(((True)∧((True)∧JA (.pointer (some ⟨W.sz,0,none⟩)) ((W.new (.cells .nil 2 #[.string ⟨#[]⟩,.slice none 0 0] 56)).obj W.sz) ((W.new (.cells .nil 2 #[.string ⟨#[]⟩,.slice none 0 0] 56)).new (.cells .nil 2 #[.string ⟨#[]⟩,.slice none 0 0] 56))=true))∧(((True)∧((True)∧JA (.pointer (some ⟨(W.new (.cells .nil 2 #[.string ⟨#[]⟩,.slice none 0 0] 56)).sz,0,none⟩)) (((W.new (.cells .nil 2 #[.string ⟨#[]⟩,.slice none 0 0] 56)).new (.cells .nil 2 #[.string ⟨#[]⟩,.slice none 0 0] 56)).obj (W.new (.cells .nil 2 #[.string ⟨#[]⟩,.slice none 0 0] 56)).sz) ((W.new (.cells .nil 2 #[.string ⟨#[]⟩,.slice none 0 0] 56)).new (.cells .nil 2 #[.string ⟨#[]⟩,.slice none 0 0] 56))=true))∧True))∧wV (A_ prog 56 (.pointer (some ⟨W.sz,0,none⟩)) 0) fun RK=>wV (ld prog 9 RK QX) fun UA=>wV (A_ prog 56 (.pointer (some ⟨(W.new (.cells .nil 2 #[.string ⟨#[]⟩,.slice none 0 0] 56)).sz,0,none⟩)) 0) fun Lc=>wV (ld prog 9 Lc QX) fun L9=>wV (AQ prog .neq 9 false UA L9) fun Ma=>wI Ma ((Rt ro K) .normal (Env.of e [(105,(.bool true)),(104,undef),(97,(.bool true)),(103,undef),(97,(.bool true)),(102,undef),(97,(.bool true)),(101,undef),(97,(.bool true)),(100,undef),(97,(.bool true)),(99,undef),(97,(.bool true)),(98,undef),(97,(.bool true)),(97,Ma),(96,Ma),(95,L9),(94,Lc),(93,UA),(92,RK),(21,(.pointer (some ⟨(W.new (.cells .nil 2 #[.string ⟨#[]⟩,.slice none 0 0] 56)).sz,0,none⟩))),(20,(.pointer (some ⟨W.sz,0,none⟩))),(91,No),(90,RO),(89,T_),(88,RN),(87,Yn),(86,(e 71)),(85,M_),(84,NC),(83,UW),(82,Sq),(81,(e 3)),(80,Mc),(79,QH),(78,Yh),(77,LA),(76,(e 1)),(19,LA),(18,(e 71)),(75,LA),(74,gJ),(73,(e 71)),(72,RI)]) ds QX) (wV (A_ prog 56 (.pointer (some ⟨W.sz,0,none⟩)) 1) fun gK=>wV (ld prog 40 gK QX) fun Xk=>wV (AY prog 40 Xk QX) fun Gt=>wV (A_ prog 56 (.pointer (some ⟨(W.new (.cells .nil 2 #[.string ⟨#[]⟩,.slice none 0 0] 56)).sz,0,none⟩)) 1) fun HM=>wV (ld prog 40 HM QX) fun Fi=>wV (AY prog 40 Fi QX) fun FJ=>wV (AQ prog .neq 3 false Gt FJ) fun Wo=>(Rt ro K) .normal (Env.of e [(105,Wo),(104,Wo),(97,(.bool false)),(103,FJ),(97,(.bool false)),(102,Fi),(97,(.bool false)),(101,HM),(97,(.bool false)),(100,Gt),(97,(.bool false)),(99,Xk),(97,(.bool false)),(98,gK),(97,(.bool false)),(97,Ma),(96,Ma),(95,L9),(94,Lc),(93,UA),(92,RK),(21,(.pointer (some ⟨(W.new (.cells .nil 2 #[.string ⟨#[]⟩,.slice none 0 0] 56)).sz,0,none⟩))),(20,(.pointer (some ⟨W.sz,0,none⟩))),(91,No),(90,RO),(89,T_),(88,RN),(87,Yn),(86,(e 71)),(85,M_),(84,NC),(83,UW),(82,Sq),(81,(e 3)),(80,Mc),(79,QH),(78,Yh),(77,LA),(76,(e 1)),(19,LA),(18,(e 71)),(75,LA),(74,gJ),(73,(e 71)),(72,RI)]) ds QX)) (K (.exit 0) (Env.of e [(72,RI)]) ds W)):=by kernel_rfl
theorem wX (ro:Option Nat) (e:Env) (ds:List Deferred) (K:AG) (W:CW):AP prog AT ro 20 147 (AO prog 20 0) e ds W K=(K .normal (Env.of e [(23,(e 110)),(22,(e 109))]) ds W):=by kernel_rfl
def Ru (ro:Option Nat) (K:AG):AG:=Aq (fun e ds W=>wV (ld prog 134 (e 24) W) fun Y'=>wV (A_ prog 134 (e 24) 0) fun cH=>wV (ld prog 3 cH W) fun Y_=>wV (A_ prog 134 (e 24) 0) fun cI=>wV (ld prog 3 cI W) fun wY=>wV (RE prog 134 [(0,Y_),(1,wY)]) fun cJ=>wV (AQ prog .neq 134 false Y' cJ) fun cK=>wI cK (wV (CP prog 4 (e 10) (.bool false) W) fun W36=>wV (CP prog 30 (e 11) (.int .i64 0) W36) fun lD=>K .ret (Env.of e [(145,cK),(144,cJ),(143,wY),(142,cI),(141,Y_),(140,cH),(139,Y')]) ds lD) (K .normal (Env.of e [(145,cK),(144,cJ),(143,wY),(142,cI),(141,Y_),(140,cH),(139,Y')]) ds W)) (BU 3 K)
theorem wZ (ro:Option Nat) (e:Env) (ds:List Deferred) (K:AG) (W:CW):AP prog AT ro 20 147 (AN prog 20 0) e ds W K=(wV (A_ prog 56 (e 20) 1) fun Sr=>wV (ld prog 40 Sr W) fun Ue=>wV (Dz prog 40 Ue (e 22)) fun Oo=>wV (ld prog 3 Oo W) fun MA=>wV (A_ prog 56 (e 21) 1) fun MB=>wV (ld prog 40 MB W) fun HN=>wV (Dz prog 40 HN (e 22)) fun On=>wV (ld prog 3 On W) fun m5=>wV (RE prog 134 [(0,MA),(1,m5)]) fun TC=>CD (GX prog 134 W) fun E0 oq=>wV (CP prog 134 E0 TC oq) fun Qy=>(((True)∧((ld prog 3 On oq=some m5)∧ld prog 3 On W=some m5))∧(((True)∧((ld prog 40 MB oq=some HN)∧ld prog 40 MB W=some HN))∧(((True)∧((ld prog 3 Oo oq=some MA)∧ld prog 3 Oo W=some MA))∧(((True)∧((ld prog 40 Sr oq=some Ue)∧ld prog 40 Sr W=some Ue))∧True))))∧True∧wV (AQ prog .eql 5 true (e 23) (.int .u8 2)) fun MD=>wI MD (wV (ld prog 89 (e 16) Qy) fun Jr=>wV (QV Jr) fun AA8=>wV (A_ prog 100 AA8 1) fun XG=>wV (ld prog 98 XG Qy) fun LC=>wV (A_ prog 134 E0 0) fun gO=>wV (ld prog 3 gO Qy) fun Mz=>wV (HB prog 98 LC Mz false Qy) fun Yk=>wV (ld prog 89 (e 17) Qy) fun ME=>wV (QV ME) fun lC=>wV (A_ prog 100 lC 1) fun Yl=>wV (ld prog 98 Yl Qy) fun Ss=>wV (A_ prog 134 E0 1) fun Ym=>wV (ld prog 3 Ym Qy) fun QY=>wV (HB prog 98 Ss QY false Qy) fun cG=>wV (RE prog 134 [(0,Yk),(1,cG)]) fun QZ=>wV (CP prog 134 E0 QZ Qy) fun W39=>(((True)∧HB prog 98 Ss QY false Qy=some cG)∧(((True)∧ld prog 3 Ym Qy=some QY)∧(((True)∧ld prog 98 Yl Qy=some Ss)∧(((True)∧ld prog 89 (e 17) Qy=some ME)∧(((True)∧HB prog 98 LC Mz false Qy=some Yk)∧(((True)∧ld prog 3 gO Qy=some Mz)∧(((True)∧ld prog 98 XG Qy=some LC)∧(((True)∧ld prog 89 (e 16) Qy=some Jr)∧True))))))))∧True∧(Ru ro K) .normal (Env.of e [(138,QZ),(137,cG),(136,QY),(135,Ym),(134,Ss),(133,Yl),(132,lC),(131,ME),(130,Yk),(129,Mz),(128,gO),(127,LC),(126,XG),(125,AA8),(124,Jr),(123,MD),(122,(e 23)),(24,E0),(121,TC),(120,m5),(119,On),(118,(e 22)),(117,HN),(116,MB),(115,MA),(114,Oo),(113,(e 22)),(112,Ue),(111,Sr)]) ds W39) ((Ru ro K) .normal (Env.of e [(123,MD),(122,(e 23)),(24,E0),(121,TC),(120,m5),(119,On),(118,(e 22)),(117,HN),(116,MB),(115,MA),(114,Oo),(113,(e 22)),(112,Ue),(111,Sr)]) ds Qy)):=by kernel_rfl
theorem AA9 {Q:Ending→CW→Prop} {v0 v1 v2 v3 v4:Value} {W:CW} (h:AP prog AT none 20 147 (AS prog 20) (Env.args [v0,v1,v2,v3,v4]) [] W (AK prog Tryz.f20 Q)):AH prog AT 20 [v0,v1,v2,v3,v4] W Q:=Ab Tryz.func20 (by kernel_rfl) (by kernel_rfl) (by kernel_rfl) (by kernel_rfl) (by kernel_rfl) h
theorem AA' (v0 v1:Value) (K:AG) (W:CW):AP prog AT none 27 22 (AS prog 27) (Env.args [v0,v1]) [] W K=(AH prog AT 47 [v0] W (AV (fun v11 W0=>wV (ext v11 0) fun Br=>wV (ext v11 1) fun Dn=>CD (GX prog 78 W0) fun v6 W2=>wV (CP prog 78 v6 Br W2) fun W3=>wV (KO Dn) fun EC=>wI EC (K .ret (Env.of (Env.args [v0,v1]) [(5,(.int .i64 210)),(4,(.int .i64 0)),(15,EC),(14,Dn),(7,Dn),(6,v6),(13,Dn),(12,Br),(9,v11),(11,v11),(10,v0),(5,(.int .i64 0)),(4,(.int .i64 0))]) [] W3) (wV (ld prog 78 v6 W3) fun FL=>AH prog AT 84 [FL,v1] W3 (AV (fun C3 W4=>wV (AQ prog .geq 3 true C3 (.int .i64 0)) fun v20=>wI v20 (K .ret (Env.of (Env.args [v0,v1]) [(5,(.int .i64 211)),(4,C3),(21,C3),(20,v20),(19,C3),(8,C3),(18,C3),(17,v1),(16,FL),(15,EC),(14,Dn),(7,Dn),(6,v6),(13,Dn),(12,Br),(9,v11),(11,v11),(10,v0),(5,(.int .i64 0)),(4,(.int .i64 0))]) [] W4) (K .ret (Env.of (Env.args [v0,v1]) [(5,(.int .i64 0)),(4,(.int .i64 0)),(20,v20),(19,C3),(8,C3),(18,C3),(17,v1),(16,FL),(15,EC),(14,Dn),(7,Dn),(6,v6),(13,Dn),(12,Br),(9,v11),(11,v11),(10,v0),(5,(.int .i64 0)),(4,(.int .i64 0))]) [] W4)) (fun kZ W5=>K (.panic kZ) (Env.of (Env.args [v0,v1]) [(17,v1),(16,FL),(15,EC),(14,Dn),(7,Dn),(6,v6),(13,Dn),(12,Br),(9,v11),(11,v11),(10,v0),(5,(.int .i64 0)),(4,(.int .i64 0))]) [] W5)))) (fun SE W1=>K (.panic SE) (Env.of (Env.args [v0,v1]) [(10,v0),(5,(.int .i64 0)),(4,(.int .i64 0))]) [] W1))):=by kernel_rfl
theorem PL (Q:Ending→CW→Prop) (e:Env) (W:CW):AK prog Tryz.f27 Q .ret e [] W=Q (.returned (.tuple #[e 4,e 5])) W:=by kernel_rfl
theorem AA_ {Q:Ending→CW→Prop} {v0 v1:Value} {W:CW} (h:AP prog AT none 27 22 (AS prog 27) (Env.args [v0,v1]) [] W (AK prog Tryz.f27 Q)):AH prog AT 27 [v0,v1] W Q:=Ab Tryz.func27 (by kernel_rfl) (by kernel_rfl) (by kernel_rfl) (by kernel_rfl) (by kernel_rfl) h
theorem ABA (v0 v1:Value) (K:AG) (W:CW):AP prog AT none 78 8 (AS prog 78) (Env.args [v0,v1]) [] W K=(CD (QU prog 131 v0 W) fun v2 W0=>wV (some (.func (.func 111) #[] #[v2])) fun v6=>AH prog AT 50 [v1,v6] W0 (AV (fun v7 W1=>K .ret (Env.of (Env.args [v0,v1]) [(4,v7),(7,v7),(6,v6),(5,v1),(4,(.pointer none)),(2,v2)]) [] W1) (fun kf W2=>K (.panic kf) (Env.of (Env.args [v0,v1]) [(6,v6),(5,v1),(4,(.pointer none)),(2,v2)]) [] W2))):=by kernel_rfl
theorem iQ (Q:Ending→CW→Prop) (e:Env) (W:CW):AK prog Tryz.f78 Q .ret e [] W=Q (.returned (e 4)) W:=by kernel_rfl
theorem ABB {Q:Ending→CW→Prop} {v0 v1:Value} {W:CW} (h:AP prog AT none 78 8 (AS prog 78) (Env.args [v0,v1]) [] W (AK prog Tryz.f78 Q)):AH prog AT 78 [v0,v1] W Q:=Ab Tryz.func78 (by kernel_rfl) (by kernel_rfl) (by kernel_rfl) (by kernel_rfl) (by kernel_rfl) h
theorem wa (v0 v1:Value) (K:AG) (W:CW):AP prog AT none 111 13 (AS prog 111) (Env.args [v0,v1]) [] W K=(wV (A_ prog 131 v1 0) fun v4=>wV (ld prog 78 v4 W) fun v5=>wV (A_ prog 131 v1 1) fun v6=>wV (ld prog 24 v6 W) fun v7=>wV (AQ prog .sub 3 true v0 (.int .i64 1)) fun v9=>wV (Dz prog 24 v7 v9) fun v10=>wV (ld prog 56 v10 W) fun v11=>AH prog AT 52 [v5,v11] W (AV (fun Br W0=>(((True)∧ld prog 56 v10 W=some v11)∧(((True)∧ld prog 24 v6 W=some v7)∧(((True)∧ld prog 78 v4 W=some v5)∧True)))∧True∧K .ret (Env.of (Env.args [v0,v1]) [(3,Br),(12,Br),(11,v11),(10,v10),(9,v9),(8,v0),(7,v7),(6,v6),(5,v5),(4,v4),(3,(.slice none 0 0))]) [] W0) (fun SE W1=>False))):=by kernel_rfl
theorem dP (Q:Ending→CW→Prop) (e:Env) (W:CW):AK prog Tryz.f111 Q .ret e [] W=Q (.returned (e 3)) W:=by kernel_rfl
theorem wb {Q:Ending→CW→Prop} {v0 v1:Value} {W:CW} (h:AP prog AT none 111 13 (AS prog 111) (Env.args [v0,v1]) [] W (AK prog Tryz.f111 Q)):AH prog AT 111 [v0,v1] W Q:=Ab Tryz.func111 (by kernel_rfl) (by kernel_rfl) (by kernel_rfl) (by kernel_rfl) (by kernel_rfl) h
end Go.Ce
namespace Go.Ce
open Go Go.Proofs Go.Proofs.Tryz
theorem ADQ:DC prog 131=some 3:=by kernel_rfl
theorem m6 (a:Addr):A_ prog 131 (.pointer (some a)) 0=some (.pointer (some ⟨a.block,a.off,none⟩)):=by kernel_rfl
theorem m8 (a:Addr):A_ prog 131 (.pointer (some a)) 1=some (.pointer (some ⟨a.block,a.off+2,none⟩)):=by kernel_rfl
theorem Zq {P:Program} {fn:Func} {Q:Ending→CW→Prop} {e:Env} {W:CW} {s s':Tmp} {ty ty':TypeId} {p p':Addr} {v v':Value} (hr:fn.results.toList=[.cell s ty,.cell s' ty']) (he:e s=.pointer (some p)) (jC:e s'=.pointer (some p')) (hv:ld P ty (.pointer (some p)) W=some v) (F7:ld P ty' (.pointer (some p')) W=some v') (hq:Q (.returned (.tuple #[v,v'])) W):AK P fn Q .ret e [] W:=by
 have hv:IC P ty p W=some v:=hv; have F7:IC P ty' p' W=some v':=F7; simp only [AK,Bu,hr,Hp,gD,he,jC,hv,F7]; exact hq
theorem Xb {A:CW} (hA:At A) {v1:Value} {h:List BR} (hh:Ay 2 (Fk A) v1 h) {i:Nat} {x:BR} (hx:h[i]?=some x):∃ a vx,Dz prog 24 v1 (.int .i64 i)=some (.pointer (some a))∧(∀ W,Kp A W→ld prog 56 (.pointer (some a)) W=some (.agg #[.string x.type,vx]))∧Ay 1 (EW A) vx x.AJ:=by
 obtain ⟨ah,ch,rfl,hhc⟩:=id hh; obtain ⟨p,rfl,hp⟩:=hhc i _ hx; obtain ⟨v,h1,h2⟩:=hp.AJ; refine ⟨_,v,BH L4 Io (List.getElem?_eq_some_iff.1 hx).1,fun W k=>?_,h2⟩; refine Bd (vs:=[.string x.type,v]) (a:=⟨p.block,p.off+i*2,none⟩) Yr Io rfl (by omega) fun j w hj=>?_
 match j,hj with
 | 0,hj=>cases hj; exact k.cell hA hp.type
 | 1,hj=>cases hj; exact k.cell hA h1
theorem m9 {A:CW} (hA:At A) {vx:Value} {l:List Int} (hh:Ay 1 (EW A) vx l) {i:Nat} {x:Int} (hx:l[i]?=some x):∃ a,Dz prog 40 vx (.int .i64 i)=some (.pointer (some a))∧∀ W,Kp A W→ld prog 3 (.pointer (some a)) W=some (.int .i64 x):=by
 obtain ⟨ah,ch,rfl,hhc⟩:=id hh; obtain ⟨p,rfl,hp⟩:=hhc i _ hx; exact ⟨_,BH Iw s3 (List.getElem?_eq_some_iff.1 hx).1,fun W k=>AD a3 (a:=⟨p.block,p.off+i*1,none⟩) (k.cell hA hp.1)⟩
theorem m_ {A:CW} (hA:At A) {vx:Value} {l:List Int} (hh:DN A 3 1 vx (Bz l)) {i:Nat} {x:Int} (hx:l[i]?=some x):∃ a,Dz prog 40 vx (.int .i64 i)=some (.pointer (some a))∧∀ W,Kp A W→ld prog 3 (.pointer (some a)) W=some (.int .i64 x):=by
 obtain ⟨ah,ch,rfl,hhc⟩:=M3 (f:=fun k:Int=>Value.int .i64 k) hh; obtain ⟨p,rfl,hp⟩:=hhc i _ hx; exact ⟨_,BH Iw s3 (List.getElem?_eq_some_iff.1 hx).1,fun W k=>AD a3 (a:=⟨p.block,p.off+i*1,none⟩) (k.cell hA hp)⟩
theorem OG {c:List Af}:BZ c []=true:=rfl
theorem nB {c:List Af} {h:List BR} (Ae:BN c=true) (IB:∀ x,x ∈ h→Ar c x h.length=true) (n:Int):∀ r,r ∈ E7 c [] h n→0≤r∧r≤h.length:=XQ Ae OG IB
theorem Vi {c:List Af} {r1 r2:Nat} {h:List BR} {root:Int} {v1:Value} {W:CW} (ht:At W) (EY:DW W r1 r2 c) (Ae:BN c=true) (hC:Qz c) (hh:Ay 2 (Fk W) v1 h) (IB:∀ x,x ∈ h→Ar c x h.length=true) (zw:h.length<100000) (e_:0≤root) (H6:root≤h.length) :
  AH prog AT 78 [.agg #[.map (some r1),.map (some r2),v1],.int .i64 root] W (ZR (Da c [] h root) h.length W):=by
 refine ABB ?_; rw [ABA]; obtain ⟨a,cap,rfl,_⟩:=id hh; refine FM ADQ ht fun W0 k0 t0 z0 hB=>?_; have hB:Aw W0 W.sz 131 [.map (some r1),.map (some r2),.slice a h.length cap]:=hB; simp only [AA]
 refine (gx (refs:=E7 c [] h) (N:=h.length) t0 e_ H6 zw (fun n _ _=>nB Ae IB n) (fun n=>mO hC OG IB n) (fun n W' k' t' R7 R3 K KP hk=>?_)).mono fun en W1 ⟨k1,t1,bw,rp,vo,GI,hw,h1,h2,h3,hF⟩=>?_
 ·refine Ll Tryz.func111 (by kernel_rfl) ?_
  have key:AH prog AT 111 [.int .i64 n,.pointer (some ⟨W.sz,0,none⟩)] W' (fun en W2=>Kp W' W2∧At W2∧∃ vr,en=.returned vr∧DN W2 3 1 vr (Bz (E7 c [] h n))∧Bw W'.sz vr):=by
   refine wb ?_; rw [wa]; have np:=hB.ext t0 k'
   have l78:ld prog 78 (.pointer (some ⟨W.sz,0,none⟩)) W'=some (.agg [.map (some r1),.map (some r2)].toArray):=Bd (vs:=[.map (some r1),.map (some r2)]) (a:=⟨W.sz,0,none⟩) ni N7 rfl (by omega) fun j w hj=>by
    match j,hj with
    | 0,hj=>cases hj; exact np.cell rfl
    | 1,hj=>cases hj; exact np.cell rfl
   have l24:∀ W2,Kp W' W2→ld prog 24 (.pointer (some ⟨W.sz,0+2,none⟩)) W2=some (.slice a h.length cap):=fun W2 k2=>AD pk (a:=⟨W.sz,0+2,none⟩) (k2.cell t' (np.cell rfl))
   have ADR:∀ W2,Kp W' W2→ld prog 78 (.pointer (some ⟨W.sz,0,none⟩)) W2=some (.agg [.map (some r1),.map (some r2)].toArray):=fun W2 k2=>Bd (vs:=[.map (some r1),.map (some r2)]) (a:=⟨W.sz,0,none⟩) ni N7 rfl (by omega) fun j w hj=>by
    match j,hj with
    | 0,hj=>cases hj; exact k2.cell t' (np.cell rfl)
    | 1,hj=>cases hj; exact k2.cell t' (np.cell rfl)
   obtain ⟨i,hi⟩:∃ i:Nat,n=((i+1:Nat):Int):=⟨(n-1).toNat,by omega⟩
   subst hi; have K5:i<h.length:=by omega
   have hx:=List.getElem?_eq_getElem K5; have k0W:=k0.trans k'; obtain ⟨ad,vx,a1,a2,mP⟩:=Xb t' (hh.imp fun _ _ _ hr=>hr.kp ht k0W) hx; have Q0:=IB _ (List.getElem_mem K5); generalize h[i]=x at hx a2 mP Q0; simp only [m6,m8,AA,l78,l24 W' (.refl _),GD]; rw [show ((i+1:Nat):Int)-1=(i:Nat) by omega,wrap64 (by omega) (by omega),a1]; simp only [AA,a2 W' (.refl _)]; obtain ⟨iy,sy,Y⟩:=Dl Q0
   have u6:E7 c [] h ((i+1:Nat):Int)=refsOf c x:=by
    unfold E7; rw [show (((i+1:Nat):Int)-1).toNat=i by omega,hx]; rfl
   have AEN:=Ls hC Y.many; refine (pq t' (EY.kp ht k0W) Y.ti (fun he=>by rw [JL Y.si he Y.many]; exact Nat.le_refl _) mP (by omega)).mono fun en W2 ⟨k2,t2,vr,GI,kJ,hnr⟩=>?_; subst GI; refine Ad ?_; refine ⟨by simp only [a2 W2 k2,l24 W2 k2,ADR W2 k2,and_self],trivial,?_⟩; rw [dP]; exact ⟨k2,t2,vr,rfl,by rw [u6]; exact kJ,hnr⟩
  refine key.mono fun en W2 ⟨k2,t2,vr,GI,kJ,hnr⟩=>?_; subst GI; exact hk vr W2 k2 t2 kJ hnr
 ·subst GI; refine Ad ?_; rw [iQ]; have hz:=k0.sz; exact ⟨k0.trans k1,t1,bw,rp,vo,rfl,hw,by omega,by omega,fun b l c e=>by have:=h3 b l c e; omega,hF⟩
end Go.Ce
namespace Go.Ce
open Go Go.Proofs Go.Proofs.Tryz
theorem Mi {α:Type} {p q:α→Bool}:∀ {l:List α},(∀ x,x ∈ l→p x=q x)→l.findIdx? p=l.findIdx? q
 | [],_=>rfl
 | x::l,h=>by rw [List.findIdx?_cons,List.findIdx?_cons,h x (by simp),Mi fun y hy=>h y (by simp [hy])]
theorem LU {refs:Int→List Int} {N:Nat} (hr:∀ v w,w ∈ refs v→w≤N):∀ (m m' n:Nat) (o:List Int),Found o N→N≤n+m→N≤n+m'→BG refs m o n=BG refs m' o n
 | 0,m',n,o,hF,h1,h2=>by
  have:=hF.len
  cases m' with
  | zero=>rfl
  | succ m'=>rw [BG,BG,List.getElem?_eq_none (by omega)]
 | m+1,m',n,o,hF,h1,h2=>by
  have:=hF.len
  cases UD:o[n]? with
  | none =>
   rw [BG,UD]
   cases m' with
   | zero=>rfl
   | succ m'=>rw [BG,UD]
  | some v =>
   have h3:=(List.getElem?_eq_some_iff.1 UD).1; obtain ⟨m',rfl⟩:∃ k,m'=k+1:=⟨m'-1,by omega⟩
   rw [BG,BG,UD]; exact LU hr m m' (n+1) _ (Tv _ _ hF fun w hw=>hr _ w hw) (by omega) (by omega)
def dQ (c:List Af) (O M:List Int) (p q:BR):Prop:=p.type=q.type∧p.AJ.length=q.AJ.length∧∀ (k ix:Nat) x y,BC c p.type=some ix→p.AJ[k]?=some x→q.AJ[k]?=some y→if A9 c ix k=2 then placeOf O x=placeOf M y else x=y
def M7 (c:List Af) (h:List BR) (O:List Int) (k:List BR) (M:List Int):Prop:=O.length=M.length∧∀ (i:Nat) v w p q,O[i]?=some v→M[i]?=some w→h[(v-1).toNat]?=some p→k[(w-1).toNat]?=some q→dQ c O M p q
structure Zr (c:List Af) (A B:List BR) (f:Int→Int) (S:Int→Prop):Prop where
 z:f 0=0
 low:∀ v,S v→0<v
 pos:∀ v,S v→0<f v
 inj:∀ v w,S v→S w→f v=f w→v=w
 DX:∀ v,S v→∃ x y ix,A[(v-1).toNat]?=some x∧B[(f v-1).toNat]?=some y∧y.type=x.type∧BC c x.type=some ix∧y.AJ.length=x.AJ.length∧∀ (k:Nat) u w,x.AJ[k]?=some u→y.AJ[k]?=some w→if A9 c ix k=2 then w=f u∧(u=0∨S u) else w=u
section
variable {c:List Af} {A B:List BR} {f:Int→Int} {S:Int→Prop}
theorem Zs (I:Zr c A B f S) {ix:Nat}:∀ (us ws:List Int) (k:Nat),ws.length=us.length→(∀ (j:Nat) u w,us[j]?=some u→ws[j]?=some w→if A9 c ix (k+j)=2 then w=f u∧(u=0∨S u) else w=u)→E_ (Ui c ix) k ws=(E_ (Ui c ix) k us).map f∧∀ r,r ∈ E_ (Ui c ix) k us→r=0∨S r
 | [],[],k,_,_=>⟨rfl,fun r h=>by cases h⟩
 | u::us,w::ws,k,hl,h=>by
  obtain ⟨h1,h2⟩:=Zs I us ws (k+1) (by simpa using hl) fun j u w hu hw=>by
   have:=h (j+1) u w hu hw; rw [show k+(j+1)=k+1+j by omega] at this; exact this
  have h0:=h 0 u w rfl rfl; rw [Nat.add_zero] at h0; rw [E_,E_,List.map_append,h1]; unfold Ui
  by_cases hk:A9 c ix k=2
  ·rw [if_pos hk] at h0; rw [if_pos hk,if_pos hk,h0.1]; refine ⟨rfl,fun r hr=>?_⟩
   rcases List.mem_append.1 hr with hr | hr
   ·rw [List.mem_singleton.1 hr]; exact h0.2
   ·exact h2 r hr
  ·rw [if_neg hk,if_neg hk]; exact ⟨rfl,fun r hr=>h2 r (by rw [List.nil_append] at hr; exact hr)⟩
theorem nC (I:Zr c A B f S) {v:Int} (hv:S v):E7 c [] B (f v)=(E7 c [] A v).map f∧∀ r,r ∈ E7 c [] A v→r=0∨S r:=by
 obtain ⟨x,y,ix,hx,hy,ht,hi,hl,hk⟩:=I.DX v hv; unfold E7; rw [hx,hy]; show refsOf c y=(refsOf c x).map f∧∀ r,r ∈ refsOf c x→_; unfold refsOf; rw [ht,hi]; simp only; rw [PA,PA]
 exact Zs I _ _ 0 hl fun j u w hu hw=>by
  rw [Nat.zero_add]; exact hk j u w hu hw
theorem iR (I:Zr c A B f S) {o:List Int} (ho:∀ v,v ∈ o→S v) {r:Int} (hr:r=0∨S r):visit (o.map f) (f r)=(visit o r).map f∧∀ v,v ∈ visit o r→S v:=by
 unfold visit
 rcases hr with rfl | hr
 ·rw [I.z,if_neg (by omega),if_neg (by omega)]; exact ⟨rfl,ho⟩
 ·have h1:=I.low r hr; have h2:=I.pos r hr
  by_cases hm:r ∈ o
  ·rw [if_neg (fun h=>h.2 (List.mem_map_of_mem hm)),if_neg (fun h=>h.2 hm)]; exact ⟨rfl,ho⟩
  ·rw [if_pos ⟨h2,fun h=>by
    obtain ⟨s,hs,he⟩:=List.mem_map.1 h; rw [I.inj s r (ho s hs) hr he] at hs
    exact hm hs⟩,if_pos ⟨h1,hm⟩]
   refine ⟨by rw [List.map_append]; rfl,fun v hv=>?_⟩
   rcases List.mem_append.1 hv with hv | hv
   ·exact ho v hv
   ·rw [List.mem_singleton.1 hv]; exact hr
theorem fold_map (I:Zr c A B f S):∀ (rs o:List Int),(∀ v,v ∈ o→S v)→(∀ r,r ∈ rs→r=0∨S r)→(rs.map f).foldl visit (o.map f)=(rs.foldl visit o).map f∧∀ v,v ∈ rs.foldl visit o→S v
 | [],o,ho,_=>⟨rfl,ho⟩
 | r::rs,o,ho,hr=>by
  obtain ⟨h1,h2⟩:=iR I ho (hr r (by simp)); rw [List.map_cons,List.foldl_cons,List.foldl_cons,h1]; exact fold_map I rs _ h2 fun s hs=>hr s (by simp [hs])
theorem T0 (I:Zr c A B f S):∀ (m n:Nat) (o:List Int),(∀ v,v ∈ o→S v)→BG (E7 c [] B) m (o.map f) n=(BG (E7 c [] A) m o n).map f∧∀ v,v ∈ BG (E7 c [] A) m o n→S v
 | 0,n,o,ho=>⟨rfl,ho⟩
 | m+1,n,o,ho=>by
  cases UD:o[n]? with
  | none =>
   rw [BG,BG,UD,List.getElem?_map,UD]; exact ⟨rfl,ho⟩
  | some v =>
   obtain ⟨h1,h2⟩:=nC I (ho v (List.mem_of_getElem? UD)); obtain ⟨h3,h4⟩:=fold_map I _ o ho h2; rw [BG,BG,UD,List.getElem?_map,UD]; simp only [Option.map_some]; rw [h1,h3]; exact T0 I m (n+1) _ h4
theorem iS (I:Zr c A B f S) {O:List Int} (hO:∀ v,v ∈ O→S v) {u:Int} (hu:u=0∨S u):placeOf (O.map f) (f u)=placeOf O u:=by
 unfold placeOf; rw [List.findIdx?_map,Mi (q:=fun x=>decide (x=u)) fun x hx=>?_]; have h1:=I.low x (hO x hx); have h2:=I.pos x (hO x hx); show decide (f x=f u)=decide (x=u)
 rcases hu with rfl | hu
 ·rw [I.z,decide_eq_false (by omega),decide_eq_false (by omega)]
 ·by_cases e:x=u
  ·rw [e,decide_eq_true rfl,decide_eq_true rfl]
  ·rw [decide_eq_false e,decide_eq_false fun h=>e (I.inj x u (hO x hx) hu h)]
theorem iT (I:Zr c A B f S) {root:Int} (hr:root=0∨S root) (hA:∀ v w,w ∈ E7 c [] A v→w≤A.length) (hB:∀ v w,w ∈ E7 c [] B v→w≤B.length) (h1:root≤A.length) (h2:f root≤B.length):M7 c A (Da c [] A root) B (Da c [] B (f root)):=by
 have Es:start (f root)=(start root).map f∧∀ v,v ∈ start root→S v:=by
  unfold start
  rcases hr with rfl | hr
  ·rw [I.z]; exact ⟨rfl,fun v h=>by cases h⟩
  ·have h1:=I.low root hr; have h2:=I.pos root hr; rw [if_pos h1,if_pos h2]; exact ⟨rfl,fun v hv=>by rw [List.mem_singleton.1 hv]; exact hr⟩
 have eA:Da c [] A root=BG (E7 c [] A) (A.length+B.length) (start root) 0:=LU hA _ _ _ _ (Found.start h1) (by omega) (by omega); have eB:Da c [] B (f root)=BG (E7 c [] B) (A.length+B.length) (start (f root)) 0:=LU hB _ _ _ _ (Found.start h2) (by omega) (by omega); obtain ⟨h3,h4⟩:=T0 I (A.length+B.length) 0 (start root) Es.2; rw [Es.1,h3,←eA] at eB; rw [←eA] at h4; rw [eB]; refine ⟨by rw [List.length_map],fun i v w p q hv hw hp hq=>?_⟩; rw [List.getElem?_map,hv] at hw; have hw:f v=w:=Option.some.inj hw; subst hw; obtain ⟨x,y,ix,hx,hy,ht,hi,hl,hk⟩:=I.DX v (h4 v (List.mem_of_getElem? hv)); rw [hp] at hx; cases hx; rw [hq] at hy; cases hy; refine ⟨ht.symm,hl.symm,fun k ix' a b IH ha hb=>?_⟩; rw [hi] at IH; cases IH; have:=hk k a b ha hb
 split
 ·rename_i h; rw [if_pos h] at this; rw [this.1,iS I h4 this.2]
 ·rename_i h; rw [if_neg h] at this; exact this.symm
end
end Go.Ce
namespace Go.Ce
open Go Go.Proofs Go.Proofs.Tryz
theorem ADS:agg? prog 134=some true:=by kernel_rfl
theorem qN:DC prog 134=some 2:=by kernel_rfl
theorem ADT:GP prog 134=some (.agg #[.int .i64 0,.int .i64 0]):=by kernel_rfl
theorem dR (x y:Int):RE prog 134 [(0,.int .i64 x),(1,.int .i64 y)]=some (.agg [.int .i64 x,.int .i64 y].toArray):=by kernel_rfl
theorem Zt (a:Addr):A_ prog 134 (.pointer (some a)) 0=some (.pointer (some ⟨a.block,a.off,none⟩)):=by kernel_rfl
theorem nD (a:Addr):A_ prog 134 (.pointer (some a)) 1=some (.pointer (some ⟨a.block,a.off+1,none⟩)):=by kernel_rfl
theorem wc (x y:Int):AQ prog .neq 134 false (.agg [.int .i64 x,.int .i64 y].toArray) (.agg [.int .i64 x,.int .i64 x].toArray)=some (.bool (!(y == x))):=by
 have h:AQ prog .neq 134 false (.agg [.int .i64 x,.int .i64 y].toArray) (.agg [.int .i64 x,.int .i64 x].toArray)=((match (some (x == x):Option Bool) with | some true=>(match (some (y == x):Option Bool) with | some true=>some true | some false=>some false | none=>none) | some false=>some false | none=>none).map fun b=>Value.bool (!b)):=by kernel_rfl
 rw [h,beq_self_eq_true]
 cases y == x <;> rfl
structure ri (A:CW) (CF FQ Ix Vj UF bl rl bm rm r1 r2:Nat) (vl vm v1 v3:Value) (c:List Af) (h k:List BR) (O M:List Int):Prop where
 top:At A
 CF:Aw A CF 4 [.bool false]
 FQ:Aw A FQ 30 [.int .i64 0]
 bk:Aw A Ix 78 [.map (some r1),.map (some r2)]
 p16:Aw A Vj 89 [.pointer (some ⟨bl,0,none⟩)]
 p17:Aw A UF 89 [.pointer (some ⟨bm,0,none⟩)]
 wl:M4 A bl rl vl O
 wm:M4 A bm rm vm M
 cat:DW A r1 r2 c
 hh:Ay 2 (Fk A) v1 h
 kk:Ay 2 (Fk A) v3 k
 Ae:BN c=true
 hC:Qz c
 IB:∀ x,x ∈ h→Ar c x h.length=true
 kth:∀ x,x ∈ k→Ar c x k.length=true
 fO:Found O h.length
 fM:Found M k.length
 hl:h.length≤1000
 kl:k.length≤1000
 len:O.length=M.length
structure we (e:Env) (CF FQ Ix Vj UF:Nat) (vl v1 v3:Value) (n i:Nat):Prop where
 e1:e 1=v1
 e3:e 3=v3
 UC:e 10=.pointer (some ⟨CF,0,none⟩)
 OQ:e 11=.pointer (some ⟨FQ,0,none⟩)
 e12:e 12=.pointer (some ⟨Ix,0,none⟩)
 fL:e 16=.pointer (some ⟨Vj,0,none⟩)
 xe:e 17=.pointer (some ⟨UF,0,none⟩)
 e69:e 69=vl
 e70:e 70=.int .i64 n
 e71:e 71=.int .i64 i
def nE (CF FQ:Nat) (A W':CW):Prop:=Bl (fun j=>j=CF∨j=FQ) A W'∧At W'∧W'.cell CF 0=some (.bool false)∧W'.cell FQ 0=some (.int .i64 0)
section
variable {A:CW} {CF FQ Ix Vj UF bl rl bm rm r1 r2:Nat} {vl vm v1 v3:Value} {c:List Af} {h k:List BR} {O M:List Int}
theorem ri.ne (I:ri A CF FQ Ix Vj UF bl rl bm rm r1 r2 vl vm v1 v3 c h k O M):CF≠FQ:=by
 rintro rfl; have:=Bb I.CF I.FQ
 cases this
theorem nF (I:ri A CF FQ Ix Vj UF bl rl bm rm r1 r2 vl vm v1 v3 c h k O M) {W:CW} (kA:Kp A W) (ht:At W) {K:CW→Prop} (hk:∀ W2,nE CF FQ A W2→Bl (fun j=>j=CF∨j=FQ) W W2→K W2):wV (CP prog 4 (.pointer (some ⟨CF,0,none⟩)) (.bool false) W) fun W1=>wV (CP prog 30 (.pointer (some ⟨FQ,0,none⟩)) (.int .i64 0) W1) K:=by
 have Dp:=I.ne; have OE:=I.CF.ext I.top kA; have N':=I.FQ.ext I.top kA; refine Ak s4 (a:=⟨CF,0,none⟩) rfl OE (by simp) fun W1 Xh sY=>?_; have Xh:DM CF W W1:=Xh; have Vk:=N'.congr (Xh.obj _ (fun e=>Dp e.symm)); refine Ak rR (a:=⟨FQ,0,none⟩) rfl Vk (by simp) fun W2 Ni du=>?_; have Ni:DM FQ W1 W2:=Ni; have YT:=OE.lt ht; have L8:=Vk.lt (ht.A4 YT Xh); have hc:Bl (fun j=>j=CF∨j=FQ) W W2:=⟨by rw [Ni.sz,Xh.sz]; exact Nat.le_refl _,fun j _ hj=>by rw [Ni.obj j (fun e=>hj (.inr e)),Xh.obj j (fun e=>hj (.inl e))]⟩
 exact hk W2 ⟨(Bl.FN kA).then hc fun _ _ h=>h,(ht.A4 YT Xh).A4 L8 Ni,(sY.congr (Ni.obj _ Dp)).cell rfl,du.cell rfl⟩ hc
end
theorem Marks.more {B:Nat} {W W':CW} {ds:List Deferred} {r:Nat} (ht:At W) (h:Marks B W ds) (ho:∀ j,W.obj j=some .deferred→B≤j→W'.obj j=some .deferred) (hr:W'.obj r=some .deferred) (hB:B≤r) (hl:W.sz≤r):Marks B W' (mark r::ds):=by
 refine Marks.push (h.Dd ho) hr hB fun hm=>?_; obtain ⟨rs,T',_,H5⟩:=h; rw [T'] at hm; obtain ⟨r',H6,OP⟩:=List.mem_map.1 hm; have:=ZX OP; subst this; have:=ht _ _ (H5 _ H6).1; omega
def VEq (c:List Af) (O M:List Int) (ix:Nat) (xs ys:List Int) (m:Nat):Prop:=∀ x y,xs[m]?=some x→ys[m]?=some y→if A9 c ix m=2 then placeOf O x=placeOf M y else x=y
section
variable {A:CW} {CF FQ Ix Vj UF bl rl bm rm r1 r2:Nat} {vl vm v1 v3:Value} {c:List Af} {h k:List BR} {O M:List Int}
theorem dS (I:ri A CF FQ Ix Vj UF bl rl bm rm r1 r2 vl vm v1 v3 c h k O M) {K:AG} {e:Env} {ds:List Deferred} {W:CW} {n i b20 b21 ix:Nat} {p q:BR} {vp vq:Value} {s:Af} (kA:Kp A W) (ht:At W) (hm:Marks A.sz W ds) (E:we e CF FQ Ix Vj UF vl v1 v3 n i)
  (e20:e 20=.pointer (some ⟨b20,0,none⟩)) (e21:e 21=.pointer (some ⟨b21,0,none⟩)) (B20:Aw W b20 56 [.string p.type,vp]) (B21:Aw W b21 56 [.string q.type,vq]) (hp:Ay 1 (EW W) vp p.AJ) (hq:Ay 1 (EW W) vq q.AJ) (P:Y3 c p h.length ix s) (hlen:p.AJ.length=q.AJ.length) (hi:i<100000)
  (H4:∀ e' C_ W',nE CF FQ A W'→Marks A.sz W' C_→e' 10=.pointer (some ⟨CF,0,none⟩)→e' 11=.pointer (some ⟨FQ,0,none⟩)→(∃ m,m<p.AJ.length∧¬VEq c O M ix p.AJ q.AJ m)→K .ret e' C_ W')
  (Ae:∀ e' C_ W',Kp A W'→At W'→Marks A.sz W' C_→we e' CF FQ Ix Vj UF vl v1 v3 n (i+1)→(∀ m,m<p.AJ.length→VEq c O M ix p.AJ q.AJ m)→K .normal e' C_ W') :
  (Lz none K) .normal e ds W:=by
 simp only [Lz,Bs]; obtain ⟨ap,cp,rfl,_⟩:=id hp; rw [E.e12,e20,Bd (vs:=[.map (some r1),.map (some r2)]) (a:=⟨Ix,0,none⟩) ni N7 rfl (by omega) (I.bk.ext I.top kA).cells,Bd (vs:=[.string p.type,.slice ap p.AJ.length cp]) (a:=⟨b20,0,none⟩) Yr Io rfl (by omega) B20.cells]; simp only [AA]; refine (LO (r1:=r1) (r2:=r2) (ty:=p.type) (vx:=.slice ap p.AJ.length cp) ht).mono fun en W3 ⟨k3,t3,bk,bx,GI,dn,xV,cl,cn⟩=>?_; subst GI; refine Ad ?_; have UE:=kA.trans k3; have zA:=kA.sz; have z3:=k3.sz; have AEO:=I.CF.lt I.top; have AEP:=I.FQ.lt I.top; have Xm:=Ls I.hC P.many; have JP:elemAt c ix=0→p.AJ.length≤(Ai c ix).length:=fun he=>by rw [JL P.si he P.many]; exact Nat.le_refl _
 have Mh:=I.cat.kp I.top UE
 have nd:∀ j,W.obj j=some .deferred→¬(j=CF∨j=FQ):=by
  rintro j hj (rfl | rfl)
  ·obtain ⟨x,y,z,ho,_⟩:=I.CF.ext I.top kA; rw [ho] at hj; cases hj
  ·obtain ⟨x,y,z,ho,_⟩:=I.FQ.ext I.top kA; rw [ho] at hj; cases hj
 refine RZ (bk:=bk) (bx:=bx) (r1:=r1) (r2:=r2) (n:=p.AJ.length) (ix:=ix) (c:=c) (ty:=p.type) (a1:=22) (a2:=23) t3 rfl P.ti (by omega) JP (fun ro e0 ds K W=>by rw [wX]) (by decide)
  (fun j W'=>Kp W3 W'∧At W'∧W'.obj W3.sz=some .deferred∧W3.sz+1<W'.sz∧∀ m,m<j→VEq c O M ix p.AJ q.AJ m)
  (fun x W'=>x=.ret∧Bl (fun j=>j=CF∨j=FQ) W3 W'∧At W'∧W'.obj W3.sz=some .deferred∧W3.sz+1<W'.sz∧W'.cell CF 0=some (.bool false)∧W'.cell FQ 0=some (.int .i64 0)∧∃ m,m<p.AJ.length∧¬VEq c O M ix p.AJ q.AJ m)
  (fun j W' h=>⟨h.1.cell t3 (cl.cell rfl),h.1.cell t3 (cl.cell rfl),Mh.kp t3 h.1,h.1.cell t3 (cn.cell rfl),_,_,h.1.cell t3 (cn.cell rfl)⟩)
  (fun j W1 W2 ⟨h1,h2,h3,h4,h5⟩ hu _=>⟨h1.A4 (by omega) hu,h2.A4 h4 hu,by rw [hu.obj _ (by omega)]; exact h3,by rw [hu.sz]; exact h4,h5⟩)
  (fun x W1 W2 ⟨h0,h1,h2,h3,h4,h5,h6,h7⟩ hu _=>⟨h0,h1.then hu.Dd fun j hj he=>by omega,h2.A4 h4 hu,by rw [hu.obj _ (by omega)]; exact h3,by rw [hu.sz]; exact h4,by rw [hu.cell (by omega)]; exact h5,by rw [hu.cell (by omega)]; exact h6,h7⟩)
  (fun W2 k t z hd=>⟨k,t,hd,by omega,fun m hm=>by omega⟩)
  (fun j W1 Kb E' hE pj vO hj ⟨k1,t1,hd,hl,hv⟩ hlo hn hr _=>?_) (fun W' ⟨k',t',hd,hl,hv⟩=>?_) (fun x W' ⟨h0,h1,h2,h3,h4,h5,h6,h7⟩=>?_)
 ·have g:∀ t v,t≠109→t≠110→t≠22→t≠23→t≠106→t≠107→t≠108→e t=v→E' t=v:=fun t v n1 n2 n3 n4 n5 n6 n7 hv=>by
   rw [hE t n1 n2 n3 n4,←hv]; simp only [Aa,Av,if_neg n5,if_neg n6,if_neg n7]
  have pP:=g 10 _ (by decide) (by decide) (by decide) (by decide) (by decide) (by decide) (by decide) E.UC; have rV:=g 11 _ (by decide) (by decide) (by decide) (by decide) (by decide) (by decide) (by decide) E.OQ; have g16:=g 16 _ (by decide) (by decide) (by decide) (by decide) (by decide) (by decide) (by decide) E.fL; have g17:=g 17 _ (by decide) (by decide) (by decide) (by decide) (by decide) (by decide) (by decide) E.xe; have g20:=g 20 _ (by decide) (by decide) (by decide) (by decide) (by decide) (by decide) (by decide) e20; have g21:=g 21 _ (by decide) (by decide) (by decide) (by decide) (by decide) (by decide) (by decide) e21; have hx:=List.getElem?_eq_getElem hj; have hy:=List.getElem?_eq_getElem (show j<q.AJ.length by omega); generalize p.AJ[j]=x at hx; generalize q.AJ[j]'(by omega)=y at hy; obtain ⟨ax,a1,a2⟩:=m9 ht hp hx; obtain ⟨ay,c1,c2⟩:=m9 ht hq hy; have iU:=k3.trans k1; have kA1:=UE.trans k1; have l20:∀ W',Kp W W'→ld prog 40 (.pointer (some ⟨b20,0+1,none⟩)) W'=some (.slice ap p.AJ.length cp):=fun W' kk=>AD ND (a:=⟨b20,0+1,none⟩) (kk.cell ht (B20.cell rfl)); have l21:∀ W',Kp W W'→ld prog 40 (.pointer (some ⟨b21,0+1,none⟩)) W'=some vq:=fun W' kk=>AD ND (a:=⟨b21,0+1,none⟩) (kk.cell ht (B21.cell rfl))
  have vM:∀ (e2:Env) (W6:CW) (x' y':Int),Kp W1 W6→At W6→Aw W6 W1.sz 134 [.int .i64 x',.int .i64 y']→e2 24=.pointer (some ⟨W1.sz,0,none⟩)→e2 10=.pointer (some ⟨CF,0,none⟩)→e2 11=.pointer (some ⟨FQ,0,none⟩)→(x'=y'↔VEq c O M ix p.AJ q.AJ j)→(Ru (some (W3.sz+1)) Kb) .normal e2 [] W6:=by
   intro e2 W6 x' y' k6 t6 J' h24 lg rX hxy; simp only [Ru,Bs]; rw [h24,Bd (vs:=[.int .i64 x',.int .i64 y']) (a:=⟨W1.sz,0,none⟩) ADS qN rfl (by omega) J'.cells]; simp only [Zt,AA]; rw [AD a3 (a:=⟨W1.sz,0,none⟩) (J'.cell rfl)]; simp only [AA,dR,wc]; have z6:=k6.sz
   refine AL (fun hb=>?_) (fun hb=>?_)
   ·have hb:¬x'=y':=fun e=>by rw [e] at hb; simp at hb
    rw [lg,rX]; refine nF I (kA1.trans k6) t6 fun W7 hs hc=>?_; have p7:Bl (fun j=>j=CF∨j=FQ) W3 W7:=(Bl.FN (k1.trans k6)).then hc fun _ _ h=>h; have hz7:=hc.sz; refine hr _ _ W7 (by rw [hc.obj _ (by omega) (by omega),k6.obj _ (by omega)]) ⟨rfl,p7,hs.2.1,by rw [hc.obj _ (by omega) (by omega),k6.obj _ (by omega)]; exact hd,by omega,hs.2.2.1,hs.2.2.2,j,hj,fun hve=>hb (hxy.2 hve)⟩
   ·have hb:x'=y':=by
     simp only [Bool.not_eq_false',beq_iff_eq] at hb; exact hb.symm
    refine hn _ _ W6 (by rw [k6.obj _ (by omega)]) ⟨k1.trans k6,t6,by rw [k6.obj _ (by omega)]; exact hd,by omega,fun m hm=>?_⟩
    by_cases e:m=j
    ·subst e; exact hxy.1 hb
    ·exact hv m (by omega)
  rw [wZ,g20,g21,pj,vO]; simp only [Dg,AA,l20 W1 iU,l21 W1 iU,a1,a2 W1 iU,c1,c2 W1 iU,dR]; refine Hu ADT qN t1 fun W4 k4 t4 z4 wg=>?_; have wg:Aw W4 W1.sz 134 [.int .i64 0,.int .i64 0]:=wg; refine Dk qN (a:=⟨W1.sz,0,none⟩) (ws:=[.int .i64 x,.int .i64 y]) rfl rfl wg (by simp) fun W5 Q1 MI=>?_; have Q1:DM W1.sz W4 W5:=Q1; have MI:Aw W5 W1.sz 134 [.int .i64 x,.int .i64 y]:=MI; have rj:=iU.trans k4; refine ⟨by simp only [l20 W1 iU,l21 W1 iU,a2 W1 iU,c2 W1 iU,l20 W4 rj,l21 W4 rj,a2 W4 rj,c2 W4 rj,and_self],trivial,?_⟩; have mD:Kp W1 W5:=k4.A4 (Nat.le_refl _) Q1; have t5:=t4.A4 (by omega) Q1; have wh:=kA1.trans mD; simp only [Bf,AA]
  refine AL (fun hk=>?_) (fun hk=>?_)
  ·have hk:A9 c ix j=2:=by simpa using hk
   have wl5:=I.wl.kp I.top wh; have wm5:=I.wm.kp I.top wh; have l16:ld prog 89 (.pointer (some ⟨Vj,0,none⟩)) W5=some (.pointer (some ⟨bl,0,none⟩)):=AD a89 (a:=⟨Vj,0,none⟩) (wh.cell I.top (I.p16.cell rfl)); have wi:ld prog 89 (.pointer (some ⟨UF,0,none⟩)) W5=some (.pointer (some ⟨bm,0,none⟩)):=AD a89 (a:=⟨UF,0,none⟩) (wh.cell I.top (I.p17.cell rfl)); have lr:ld prog 98 (.pointer (some ⟨bl,0+1,none⟩)) W5=some (.map (some rl)):=AD a98 (a:=⟨bl,0+1,none⟩) (wl5.w.cell rfl); have lm:ld prog 98 (.pointer (some ⟨bm,0+1,none⟩)) W5=some (.map (some rm)):=AD a98 (a:=⟨bm,0+1,none⟩) (wm5.w.cell rfl); have lx:ld prog 3 (.pointer (some ⟨W1.sz,0,none⟩)) W5=some (.int .i64 x):=AD a3 (a:=⟨W1.sz,0,none⟩) (MI.cell rfl); have ly:ld prog 3 (.pointer (some ⟨W1.sz,0+1,none⟩)) W5=some (.int .i64 y):=AD a3 (a:=⟨W1.sz,0+1,none⟩) (MI.cell rfl); rw [g16,g17]; simp only [l16,wi,IX,TU,lr,lm,Zt,nD,lx,ly,wl5.p.look,wm5.p.look,AA,dR]; refine Dk qN (a:=⟨W1.sz,0,none⟩) (ws:=[.int .i64 (placeOf O x),.int .i64 (placeOf M y)]) rfl rfl MI (by simp) fun W6 Zu J'=>?_; have Zu:DM W1.sz W5 W6:=Zu; have J':Aw W6 W1.sz 134 [.int .i64 (placeOf O x),.int .i64 (placeOf M y)]:=J'; refine ⟨by simp only [and_self],trivial,?_⟩
   refine vM _ W6 _ _ (mD.A4 (Nat.le_refl _) Zu) (t5.A4 (MI.lt t5) Zu) J' (by simp only [Aa,Nat.reduceEqDiff,↓reduceIte]) (by simp only [Aa,Av,Nat.reduceEqDiff,↓reduceIte,pP]) (by simp only [Aa,Av,Nat.reduceEqDiff,↓reduceIte,rV]) ⟨fun e x2 y2 UN sM=>?_,fun hve=>?_⟩
   ·rw [hx] at UN; cases UN; rw [hy] at sM; cases sM; rw [if_pos hk]; exact e
   ·have:=hve x y hx hy; rw [if_pos hk] at this; exact this
  ·have hk:¬A9 c ix j=2:=by simpa using hk
   refine vM _ W5 x y mD t5 MI (by simp only [Aa,Nat.reduceEqDiff,↓reduceIte]) (by simp only [Aa,Av,Nat.reduceEqDiff,↓reduceIte,pP]) (by simp only [Aa,Av,Nat.reduceEqDiff,↓reduceIte,rV]) ⟨fun e x2 y2 UN sM=>?_,fun hve=>?_⟩
   ·rw [hx] at UN; cases UN; rw [hy] at sM; cases sM; rw [if_neg hk]; exact e
   ·have:=hve x y hx hy; rw [if_neg hk] at this; exact this
 ·simp only [Bs,qu,Ly]; simp only [Aa,Av,Nat.reduceEqDiff,↓reduceIte,E.e71,Ap,AA]; rw [Dv (by omega)]; refine Ae _ _ W' (UE.trans k') t' (hm.more ht (fun j hj _=>by rw [(k3.trans k').obj _ (ht _ _ hj)]; exact hj) hd (by omega) z3) ⟨by simp only [Aa,Av,Nat.reduceEqDiff,↓reduceIte,E.e1],by simp only [Aa,Av,Nat.reduceEqDiff,↓reduceIte,E.e3],by simp only [Aa,Av,Nat.reduceEqDiff,↓reduceIte,E.UC],by simp only [Aa,Av,Nat.reduceEqDiff,↓reduceIte,E.OQ],by simp only [Aa,Av,Nat.reduceEqDiff,↓reduceIte,E.e12],by simp only [Aa,Av,Nat.reduceEqDiff,↓reduceIte,E.fL],by simp only [Aa,Av,Nat.reduceEqDiff,↓reduceIte,E.xe],by simp only [Aa,Av,Nat.reduceEqDiff,↓reduceIte,E.e69],by simp only [Aa,Av,Nat.reduceEqDiff,↓reduceIte,E.e70],by simp only [Aa,↓reduceIte]⟩ hv
 ·subst h0; simp only [KR,RR,Ly]; refine H4 _ _ W' ⟨(Bl.FN UE).then h1 fun _ _ h=>h,h2,h5,h6⟩ (hm.more ht (fun j hj _=>?_) h3 (by omega) z3) (by simp only [Aa,Av,Nat.reduceEqDiff,↓reduceIte,E.UC]) (by simp only [Aa,Av,Nat.reduceEqDiff,↓reduceIte,E.OQ]) h7; have:=ht _ _ hj; rw [h1.obj _ (by omega) (nd j hj),k3.obj _ this]; exact hj
end
end Go.Ce
namespace Go.Ce
open Go Go.Proofs Go.Proofs.Tryz
section
variable {A:CW} {CF FQ Ix Vj UF bl rl bm rm r1 r2:Nat} {vl vm v1 v3:Value} {c:List Af} {h k:List BR} {O M:List Int}
def ATh (c:List Af) (h:List BR) (O:List Int) (k:List BR) (M:List Int) (i:Nat):Prop:=∀ v w p q,O[i]?=some v→M[i]?=some w→h[(v-1).toNat]?=some p→k[(w-1).toNat]?=some q→dQ c O M p q
theorem ri.nd (I:ri A CF FQ Ix Vj UF bl rl bm rm r1 r2 vl vm v1 v3 c h k O M) {W:CW} (kA:Kp A W):∀ j,W.obj j=some .deferred→¬(j=CF∨j=FQ):=by
 rintro j hj (rfl | rfl)
 ·obtain ⟨x,y,z,ho,_⟩:=I.CF.ext I.top kA; rw [ho] at hj; cases hj
 ·obtain ⟨x,y,z,ho,_⟩:=I.FQ.ext I.top kA; rw [ho] at hj; cases hj
theorem nG (I:ri A CF FQ Ix Vj UF bl rl bm rm r1 r2 vl vm v1 v3 c h k O M) {K:AG} {e:Env} (E:we e CF FQ Ix Vj UF vl v1 v3 O.length 0)
  (H4:∀ e' C_ W',nE CF FQ A W'→Marks A.sz W' C_→e' 10=.pointer (some ⟨CF,0,none⟩)→e' 11=.pointer (some ⟨FQ,0,none⟩)→¬M7 c h O k M→K .ret e' C_ W')
  (EA:∀ e' C_ W',Kp A W'→At W'→Marks A.sz W' C_→we e' CF FQ Ix Vj UF vl v1 v3 O.length O.length→M7 c h O k M→K (.exit 0) e' C_ W') :
  C1 prog AT none 20 147 (.loop (Ag prog 20 0)) e [] A K:=by
 have hOl:=I.fO.len; have zw:=I.hl; refine Du (fun i e' C_ W'=>Kp A W'∧At W'∧Marks A.sz W' C_∧we e' CF FQ Ix Vj UF vl v1 v3 O.length i∧∀ j,j<i→ATh c h O k M j) O.length ⟨.refl _,I.top,.nil _ _,E,fun j hj=>by omega⟩ ?_; rintro i e ds W hi ⟨kA,ht,hm,E,Xo⟩; rw [wU,E.e69,E.e70,E.e71,E.e1,E.e3,E.xe]; simp only [AA,A6]; refine Gx (fun Ax=>?_) (fun NW=>?_)
 rotate_left
 ·have:i=O.length:=by omega
  subst this; simp only [ON]; exact EA _ ds W kA ht hm ⟨by simp only [Aa,Av,Nat.reduceEqDiff,↓reduceIte,E.e1],by simp only [Aa,Av,Nat.reduceEqDiff,↓reduceIte,E.e3],by simp only [Aa,Av,Nat.reduceEqDiff,↓reduceIte,E.UC],by simp only [Aa,Av,Nat.reduceEqDiff,↓reduceIte,E.OQ],by simp only [Aa,Av,Nat.reduceEqDiff,↓reduceIte,E.e12],by simp only [Aa,Av,Nat.reduceEqDiff,↓reduceIte,E.fL],by simp only [Aa,Av,Nat.reduceEqDiff,↓reduceIte,E.xe],by simp only [Aa,Av,Nat.reduceEqDiff,↓reduceIte,E.e69],by simp only [Aa,Av,Nat.reduceEqDiff,↓reduceIte,E.e70],by simp only [Aa,Av,Nat.reduceEqDiff,↓reduceIte,E.e71]⟩ ⟨I.len,fun j v w p q hv hw hp hq=>Xo j (List.getElem?_eq_some_iff.1 hv).1 v w p q hv hw hp hq⟩
 have hO:=List.getElem?_eq_getElem Ax; have hM:=List.getElem?_eq_getElem (show i<M.length by rw [←I.len]; exact Ax); generalize O[i]=v at hO; generalize M[i]'(by rw [←I.len]; exact Ax)=w at hM; have oQ:=I.fO.low v (List.mem_of_getElem? hO); have U5:=I.fO.high v (List.mem_of_getElem? hO); have qX:=I.fM.low w (List.mem_of_getElem? hM); have Df:=I.fM.high w (List.mem_of_getElem? hM); obtain ⟨nv,jD⟩:∃ nv:Nat,v=((nv+1:Nat):Int):=⟨(v-1).toNat,by omega⟩
 obtain ⟨nw,U2⟩:∃ nw:Nat,w=((nw+1:Nat):Int):=⟨(w-1).toNat,by omega⟩
 subst jD; subst U2; have cS:=I.kl; have hp:=List.getElem?_eq_getElem (show nv<h.length by omega); have hq:=List.getElem?_eq_getElem (show nw<k.length by omega); generalize h[nv]'(by omega)=p at hp; generalize k[nw]'(by omega)=q at hq
 have wj:ATh c h O k M i↔dQ c O M p q:=by
  constructor
  ·intro ha; exact ha _ _ p q hO hM (by rw [show (((nv+1:Nat):Int)-1).toNat=nv by omega]; exact hp) (by rw [show (((nw+1:Nat):Int)-1).toNat=nw by omega]; exact hq)
  ·intro ha v' w' p' q' h1 h2 h3 h4; rw [hO] at h1; cases h1; rw [hM] at h2; cases h2; rw [show (((nv+1:Nat):Int)-1).toNat=nv by omega,hp] at h3; cases h3; rw [show (((nw+1:Nat):Int)-1).toNat=nw by omega,hq] at h4; cases h4; exact ha
 obtain ⟨ix,s,P⟩:=Dl (I.IB p (List.mem_of_getElem? hp)); obtain ⟨iy,s',Q⟩:=Dl (I.kth q (List.mem_of_getElem? hq)); obtain ⟨ao,o1,o2⟩:=m_ I.top I.wl.own hO; obtain ⟨am,m1,m2⟩:=m_ I.top I.wm.own hM; obtain ⟨ap,vp,p1,p2,p3⟩:=Xb I.top I.hh hp; obtain ⟨aq,vq,q1,q2,q3⟩:=Xb I.top I.kk hq; have wi:∀ W',Kp A W'→ld prog 89 (.pointer (some ⟨UF,0,none⟩)) W'=some (.pointer (some ⟨bm,0,none⟩)):=fun W' kk=>AD a89 (a:=⟨UF,0,none⟩) (kk.cell I.top (I.p17.cell rfl)); have lvm:∀ W',Kp A W'→ld prog 40 (.pointer (some ⟨bm,0,none⟩)) W'=some vm:=fun W' kk=>AD ND (a:=⟨bm,0,none⟩) (kk.cell I.top (I.wm.w.cell rfl)); have zA:=kA.sz; have k1:Kp W (W.new (.cells .nil 2 #[.string ⟨#[]⟩,.slice none 0 0] 56)):=.new _; have t1:=ht.new (.cells .nil 2 #[.string ⟨#[]⟩,.slice none 0 0] 56); have t_:(W.new (.cells .nil 2 #[.string ⟨#[]⟩,.slice none 0 0] 56)).obj W.sz=some (.cells .nil 2 #[.string ⟨#[]⟩,.slice none 0 0] 56):=by rw [BF,if_pos rfl]
 have WA:(W.new (.cells .nil 2 #[.string ⟨#[]⟩,.slice none 0 0] 56)).sz=W.sz+1:=rfl; have YB:∀ W0:CW,W0.obj W.sz=some (.cells .nil 2 #[.string ⟨#[]⟩,.slice none 0 0] 56)→JA (.pointer (some ⟨W.sz,0,none⟩)) ((W.new (.cells .nil 2 #[.string ⟨#[]⟩,.slice none 0 0] 56)).obj W.sz) W0=true:=fun W0 h0=>HY h0 rfl; generalize jF:W.new (.cells .nil 2 #[.string ⟨#[]⟩,.slice none 0 0] 56)=W1 at k1 t1 t_ WA YB ⊢; have k2:Kp W1 (W1.new (.cells .nil 2 #[.string ⟨#[]⟩,.slice none 0 0] 56)):=.new _; have t2:=t1.new (.cells .nil 2 #[.string ⟨#[]⟩,.slice none 0 0] 56); have Z9:(W1.new (.cells .nil 2 #[.string ⟨#[]⟩,.slice none 0 0] 56)).obj W1.sz=some (.cells .nil 2 #[.string ⟨#[]⟩,.slice none 0 0] 56):=by rw [BF,if_pos rfl]
 have Xf:(W1.new (.cells .nil 2 #[.string ⟨#[]⟩,.slice none 0 0] 56)).sz=W1.sz+1:=rfl; have V9:∀ W0:CW,W0.obj W1.sz=some (.cells .nil 2 #[.string ⟨#[]⟩,.slice none 0 0] 56)→JA (.pointer (some ⟨W1.sz,0,none⟩)) ((W1.new (.cells .nil 2 #[.string ⟨#[]⟩,.slice none 0 0] 56)).obj W1.sz) W0=true:=fun W0 h0=>HY h0 rfl; generalize hW2:W1.new (.cells .nil 2 #[.string ⟨#[]⟩,.slice none 0 0] 56)=W2 at k2 t2 Z9 Xf V9 ⊢; have dT:W2.obj W.sz=some (.cells .nil 2 #[.string ⟨#[]⟩,.slice none 0 0] 56):=by rw [k2.obj _ (by omega)]; exact t_
 have mkB:∀ b,W2.obj b=some (.cells .nil 2 #[.string ⟨#[]⟩,.slice none 0 0] 56)→Aw W2 b 56 [.string ⟨#[]⟩,.slice none 0 0]:=fun b hb=>⟨.nil,2,_,hb,rfl,fun k v hk=>by
  match k,hk with
  | 0,hk=>cases hk; rfl
  | 1,hk=>cases hk; rfl⟩
 have B1:=mkB _ dT; have B2:=mkB _ Z9; have NG:=(kA.trans k1).trans k2; rw [o1]; simp only [AA,o2 W kA,GD]; rw [show ((nv+1:Nat):Int)-1=(nv:Nat) by omega,wrap64 (by omega) (by omega),p1]; simp only [AA,p2 W2 NG,wi W2 NG,IX,OB,lvm W2 NG,m1,m2 W2 NG,GD]; rw [show ((nw+1:Nat):Int)-1=(nw:Nat) by omega,wrap64 (by omega) (by omega),q1]; simp only [AA,q2 W2 NG]; refine ⟨trivial,trivial,?_⟩; obtain ⟨au,cs,rfl,_⟩:=id p3; obtain ⟨au',T9,rfl,_⟩:=id q3; refine Dk Io (a:=⟨W.sz,0,none⟩) (ws:=[.string p.type,.slice au p.AJ.length cs]) rfl rfl B1 (by simp) fun W3 M5 Gk=>?_; have M5:DM W.sz W2 W3:=M5; have Gk:Aw W3 W.sz 56 [.string p.type,.slice au p.AJ.length cs]:=Gk; have t3:=t2.A4 (by omega) M5; have B23:=B2.congr (M5.obj _ (by omega)); refine Dk Io (a:=⟨W1.sz,0,none⟩) (ws:=[.string q.type,.slice au' q.AJ.length T9]) rfl rfl B23 (by simp) fun W4 iF KY=>?_; have iF:DM W1.sz W3 W4:=iF; have KY:Aw W4 W1.sz 56 [.string q.type,.slice au' q.AJ.length T9]:=KY; have t4:=t3.A4 (by rw [M5.sz]; omega) iF; have mK:=Gk.congr (iF.obj _ (by omega)); have UE:Kp A W3:=NG.A4 (by omega) M5; have nq:Kp A W4:=UE.A4 (by omega) iF; refine ⟨by simp only [p2 W2 NG,wi W2 NG,lvm W2 NG,m2 W2 NG,q2 W2 NG,wi W3 UE,lvm W3 UE,m2 W3 UE,q2 W3 UE,and_self],by simp only [YB W2 dT,V9 W2 Z9,and_self],?_⟩
 have dp:Marks A.sz W4 ds:=hm.Dd fun j hj _=>by
  have:=ht _ _ hj; rw [iF.obj _ (by omega),M5.obj _ (by omega),k2.obj _ (by omega),k1.obj _ this]; exact hj
 have k33:∀ (e2:Env) (bad:Bool),e2 105=.bool bad→we e2 CF FQ Ix Vj UF vl v1 v3 O.length i→e2 20=.pointer (some ⟨W.sz,0,none⟩)→e2 21=.pointer (some ⟨W1.sz,0,none⟩)→(bad=true↔¬(p.type=q.type∧p.AJ.length=q.AJ.length)) →
   (Rt none (J5 (fun i e' C_ W'=>Kp A W'∧At W'∧Marks A.sz W' C_∧we e' CF FQ Ix Vj UF vl v1 v3 O.length i∧∀ j,j<i→ATh c h O k M j) i O.length K)) .normal e2 ds W4:=by
  intro e2 bad ADU E2 h20 h21 Gc; simp only [Rt,Bs,ADU]
  refine AL (fun hb=>?_) (fun hb=>?_)
  ·rw [E2.UC,E2.OQ]; refine nF I nq t4 fun W5 hs hc=>?_; simp only [Lz,Ly,KR,VE,RR,HC,Ud,nh]; refine H4 _ ds W5 hs (dp.Dd fun j hj _=>by rw [hc.obj _ (t4 _ _ hj) (I.nd nq j hj)]; exact hj) E2.UC E2.OQ fun hA=>?_; have:=wj.1 fun v w p q=>hA.2 i v w p q; exact Gc.1 hb ⟨this.1,this.2.1⟩
  ·have hb:p.type=q.type∧p.AJ.length=q.AJ.length:=Classical.byContradiction fun hn=>by
    have:=Gc.2 hn; rw [hb] at this
    cases this
   refine dS I nq t4 dp E2 h20 h21 mK KY (p3.imp fun _ _ _ hr=>hr.kp I.top nq) (q3.imp fun _ _ _ hr=>hr.kp I.top nq) P hb.2 (by omega) (fun e' C_ W' hs nX pP rV hx=>?_) (fun e' C_ W' k' t' nX E' hv=>?_)
   ·simp only [Ud]; refine H4 e' C_ W' hs nX pP rV fun hA=>?_; obtain ⟨m,Xm,Dp⟩:=hx; have:=wj.1 fun v w p q=>hA.2 i v w p q; exact Dp fun x y hx hy=>this.2.2 m ix x y P.ti hx hy
   ·refine ⟨Ax,k',t',nX,E',fun j hj=>?_⟩
    by_cases e:j=i
    ·subst e; refine wj.2 ⟨hb.1,hb.2,fun m ix' x y IH hx hy=>?_⟩; rw [P.ti] at IH; cases IH; exact hv m (List.getElem?_eq_some_iff.1 hx).1 x y hx hy
    ·exact Xo j (by omega)
 have lt:ld prog 9 (.pointer (some ⟨W.sz,0,none⟩)) W4=some (.string p.type):=AD a9 (a:=⟨W.sz,0,none⟩) (mK.cell rfl); have lt':ld prog 9 (.pointer (some ⟨W1.sz,0,none⟩)) W4=some (.string q.type):=AD a9 (a:=⟨W1.sz,0,none⟩) (KY.cell rfl); have lv:ld prog 40 (.pointer (some ⟨W.sz,0+1,none⟩)) W4=some (.slice au p.AJ.length cs):=AD ND (a:=⟨W.sz,0+1,none⟩) (mK.cell rfl); have lv':ld prog 40 (.pointer (some ⟨W1.sz,0+1,none⟩)) W4=some (.slice au' q.AJ.length T9):=AD ND (a:=⟨W1.sz,0+1,none⟩) (KY.cell rfl); simp only [GF,Dg,lt,lt',AA,Oq,Lm,lv,lv',Ac Iw,B_]
 refine AL (fun hb=>?_) (fun hb=>?_)
 ·have hb:¬p.type=q.type:=by simpa using hb
  exact k33 _ true (by simp only [Aa,↓reduceIte]) ⟨by simp only [Aa,Av,Nat.reduceEqDiff,↓reduceIte,E.e1],by simp only [Aa,Av,Nat.reduceEqDiff,↓reduceIte,E.e3],by simp only [Aa,Av,Nat.reduceEqDiff,↓reduceIte,E.UC],by simp only [Aa,Av,Nat.reduceEqDiff,↓reduceIte,E.OQ],by simp only [Aa,Av,Nat.reduceEqDiff,↓reduceIte,E.e12],by simp only [Aa,Av,Nat.reduceEqDiff,↓reduceIte,E.fL],by simp only [Aa,Av,Nat.reduceEqDiff,↓reduceIte,E.xe],by simp only [Aa,Av,Nat.reduceEqDiff,↓reduceIte,E.e69],by simp only [Aa,Av,Nat.reduceEqDiff,↓reduceIte,E.e70],by simp only [Aa,Av,Nat.reduceEqDiff,↓reduceIte,E.e71]⟩ (by simp only [Aa,Nat.reduceEqDiff,↓reduceIte]) (by simp only [Aa,Nat.reduceEqDiff,↓reduceIte]) ⟨fun _ hh=>hb hh.1,fun _=>rfl⟩
 ·have hb:p.type=q.type:=by simpa using hb
  refine k33 _ ((p.AJ.length:Int) != (q.AJ.length:Int)) (by simp only [Aa,↓reduceIte]) ⟨by simp only [Aa,Av,Nat.reduceEqDiff,↓reduceIte,E.e1],by simp only [Aa,Av,Nat.reduceEqDiff,↓reduceIte,E.e3],by simp only [Aa,Av,Nat.reduceEqDiff,↓reduceIte,E.UC],by simp only [Aa,Av,Nat.reduceEqDiff,↓reduceIte,E.OQ],by simp only [Aa,Av,Nat.reduceEqDiff,↓reduceIte,E.e12],by simp only [Aa,Av,Nat.reduceEqDiff,↓reduceIte,E.fL],by simp only [Aa,Av,Nat.reduceEqDiff,↓reduceIte,E.xe],by simp only [Aa,Av,Nat.reduceEqDiff,↓reduceIte,E.e69],by simp only [Aa,Av,Nat.reduceEqDiff,↓reduceIte,E.e70],by simp only [Aa,Av,Nat.reduceEqDiff,↓reduceIte,E.e71]⟩ (by simp only [Aa,Nat.reduceEqDiff,↓reduceIte]) (by simp only [Aa,Nat.reduceEqDiff,↓reduceIte]) ⟨fun h1 hh=>?_,fun h1=>?_⟩
  ·rw [hh.2] at h1; simp at h1
  ·simp only [bne_iff_ne,ne_eq]; intro e; exact h1 ⟨hb,by omega⟩
end
end Go.Ce
namespace Go.Ce
open Go Go.Proofs Go.Proofs.Tryz
theorem s89:DC prog 89=some 1:=by kernel_rfl
theorem ADV:agg? prog 30=some false:=by kernel_rfl
theorem nH (r1 r2:Nat) (a:Option Addr) (n m:Nat):RE prog 131 [(0,.agg [.map (some r1),.map (some r2)].toArray),(1,.slice a n m)]=some (.agg #[.map (some r1),.map (some r2),.slice a n m]):=by kernel_rfl
theorem Zv:Tryz.f20.results.toList=[.cell 10 4,.cell 11 30]:=by kernel_rfl
theorem nI {W:CW} {b k:Nat} {v:Value} (h:W.cell b k=some v):∃ o,W.obj b=some o∧o≠.deferred:=by
 unfold CW.cell at h
 cases ho:W.obj b with
 | none=>rw [ho] at h; cases h
 | some o=>exact ⟨o,rfl,fun e=>by subst e; rw [ho] at h; cases h⟩
theorem Vl {c:List Af} {h:List BR} {root:Int} (hz:C9 c h root=0):BN c=true∧(¬CG c h≥0)∧0≤root∧root≤h.length:=by
 unfold C9 at hz
 split at hz
 ·rename_i h1
  split at hz
  ·cases hz
  ·rename_i h2
   split at hz
   ·cases hz
   ·rename_i h3; exact ⟨h1,h2,by omega,by omega⟩
 ·cases hz
def Gd (c:List Af) (h:List BR) (a:Int) (k:List BR) (b:Int):Int:=if C9 c h a≠0 then C9 c h a else C9 c k b
def Vm (c:List Af) (h:List BR) (a:Int) (k:List BR) (b:Int) (W:CW):Ending→CW→Prop:=fun en W'=>Kp W W'∧At W'∧∃ q,en=.returned (.tuple #[.bool q,.int .i64 (Gd c h a k b)])∧(Gd c h a k b≠0→q=false)∧(Gd c h a k b=0→(q=true↔M7 c h (Da c [] h a) k (Da c [] k b)))
theorem dU {v0 v1 v3:Value} {c:List Af} {h k:List BR} {a b:Int} {W:CW} (ht:At W) (hc:Ay 5 (MF W) v0 c) (hC:Qz c) (hh:Ay 2 (Fk W) v1 h) (hk:Ay 2 (Fk W) v3 k) (hv:∀ x,x ∈ h→x.AJ.length<100000) (kv:∀ x,x ∈ k→x.AJ.length<100000) (hs:h.length<1000000) (ks:k.length<1000000) :
  AH prog AT 20 [v0,v1,.int .i64 a,v3,.int .i64 b] W (Vm c h a k b W):=by
 refine AA9 ?_; rw [AA7]; generalize JO:AK prog Tryz.f20 (Vm c h a k b W)=KK; obtain ⟨ah,ch,rfl,_⟩:=id hh; obtain ⟨ak,ck,rfl,_⟩:=id hk; refine Hu z4 s4 ht fun W0 k0 t0 z0 OE=>?_; have OE:Aw W0 W.sz 4 [.bool false]:=OE; refine Hu z30 rR t0 fun W1 k1 t1 z1 N'=>?_; have N':Aw W1 W0.sz 30 [.int .i64 0]:=N'; have OE:=OE.ext t0 k1; have mM:=k0.trans k1
 have fin:∀ (e:Env) (ds:List Deferred) (W':CW) (q:Bool),Kp W W'→At W'→Marks W.sz W' ds→W'.cell W.sz 0=some (.bool q)→W'.cell W0.sz 0=some (.int .i64 (Gd c h a k b))→e 10=.pointer (some ⟨W.sz,0,none⟩)→e 11=.pointer (some ⟨W0.sz,0,none⟩)→(Gd c h a k b≠0→q=false)→(Gd c h a k b=0→(q=true↔M7 c h (Da c [] h a) k (Da c [] k b)))→KK .ret e ds W':=by
  intro e ds W' q k' t' hm c10 c11 lg rX sY du; rw [←JO]; refine Ib t' hm fun W2 g1 g2 g3 t2=>?_
  have cc:∀ {b v},W'.cell b 0=some v→W2.cell b 0=some v:=fun {b v} hb=>by
   obtain ⟨o,ho,Dp⟩:=nI hb; rw [Jw ((g1 b o ho Dp).trans ho.symm)]; exact hb
  refine Zq Zv lg rX (AD a4 (a:=⟨W.sz,0,none⟩) (cc c10)) (AD ADV (a:=⟨W0.sz,0,none⟩) (cc c11)) ?_; exact ⟨⟨by rw [g3]; exact k'.sz,fun j hj=>by rw [g2 j hj]; exact k'.obj j hj⟩,t2,q,rfl,sY,du⟩
 have stop:∀ (e:Env) (W':CW) (er:Int),Kp W1 W'→At W'→er=Gd c h a k b→e 10=.pointer (some ⟨W.sz,0,none⟩)→e 11=.pointer (some ⟨W0.sz,0,none⟩)→(er=0→¬M7 c h (Da c [] h a) k (Da c [] k b)) →
   wV (CP prog 4 (.pointer (some ⟨W.sz,0,none⟩)) (.bool false) W') fun W6=>wV (CP prog 30 (.pointer (some ⟨W0.sz,0,none⟩)) (.int .i64 er) W6) fun W7=>KK .ret e [] W7:=by
  intro e W' er k' t' her lg rX hn; have zW:=k'.sz; have Zw:=OE.ext t1 k'; have Vk:=N'.ext t1 k'; refine Ak s4 (a:=⟨W.sz,0,none⟩) rfl Zw (by simp) fun W6 Zu wk=>?_; have Zu:DM W.sz W' W6:=Zu; have wk:Aw W6 W.sz 4 [.bool false]:=wk; have Zx:=Vk.congr (Zu.obj _ (by omega)); refine Ak rR (a:=⟨W0.sz,0,none⟩) rfl Zx (by simp) fun W7 Xp wo=>?_; have Xp:DM W0.sz W6 W7:=Xp; have wo:Aw W7 W0.sz 30 [.int .i64 er]:=wo; have t6:=t'.A4 (Zw.lt t') Zu; refine fin e [] W7 false (((mM.trans k').A4 (Nat.le_refl _) Zu).A4 k0.sz Xp) (t6.A4 (Zx.lt t6) Xp) (.nil _ _) ((wk.congr (Xp.obj _ (by omega))).cell rfl) (by rw [←her]; exact wo.cell rfl) lg rX (fun _=>rfl) fun hz=>⟨fun hf=>(by cases hf),fun hA=>(hn (her.trans hz) hA).elim⟩
 refine (VX t1 (hc.imp fun _ _ _ hr=>hr.kp ht mM) hC (hh.imp fun _ _ _ hr=>hr.kp ht mM) hv hs).mono fun en W2 ⟨k2,t2,r1,r2,GI,EY⟩=>?_; subst GI; refine Ad ?_; refine A3 (CA _ _) ?_; refine A3 (CB _ _) ?_; unfold IA; refine DG (ws:=[.map (some r1),.map (some r2)]) pR N7 rfl rfl rfl t2 fun W5 k5 t5 z5 dE=>?_; have mD:=k2.trans k5; simp only [B_,AA]
 refine AL (fun he=>?_) (fun he=>?_)
 ·have he:C9 c h a≠0:=by simpa using he
  exact stop _ W5 _ mD t5 (by unfold Gd; rw [if_pos he]) rfl rfl fun hz=>(he hz).elim
 have he:C9 c h a=0:=by simpa using he
 have xg:=mM.trans mD; refine (VX t5 (hc.imp fun _ _ _ hr=>hr.kp ht xg) hC (hk.imp fun _ _ _ hr=>hr.kp ht xg) kv ks).mono fun en W8 ⟨k8,t8,r1',r2',GI,ADq⟩=>?_; subst GI; refine Ad ?_; refine A3 (CA _ _) ?_; refine A3 (CB _ _) ?_; unfold IA; refine DG (ws:=[.map (some r1'),.map (some r2')]) pR N7 rfl rfl rfl t8 fun C' rk t11 z11 _=>?_; have k1B:=(mD.trans k8).trans rk; simp only [B_,AA]
 refine AL (fun jC=>?_) (fun jC=>?_)
 ·have jC:C9 c k b≠0:=by simpa using jC
  exact stop _ C' _ k1B t11 (by unfold Gd; rw [if_neg (by simpa using he)]) rfl rfl fun hz=>(jC hz).elim
 have jC:C9 c k b=0:=by simpa using jC
 have haE:(0:Int)=Gd c h a k b:=by unfold Gd; rw [if_neg (by simpa using he),jC]
 obtain ⟨Ae,wq,ha0,CZ⟩:=Vl he; obtain ⟨_,ADW,jZ,nU⟩:=Vl jC; obtain ⟨LS,IB⟩:=Hz wq; obtain ⟨ABC,kth⟩:=Hz ADW; have rn:=EY Ae; have n1:Kp C' (C'.new (.cells .nil 1 #[.pointer none] 89)):=.new _; have tn1:=t11.new (.cells .nil 1 #[.pointer none] 89); have t_:(C'.new (.cells .nil 1 #[.pointer none] 89)).obj C'.sz=some (.cells .nil 1 #[.pointer none] 89):=by rw [BF,if_pos rfl]
 have WA:(C'.new (.cells .nil 1 #[.pointer none] 89)).sz=C'.sz+1:=rfl; have YB:∀ V:CW,V.obj C'.sz=some (.cells .nil 1 #[.pointer none] 89)→JA (.pointer (some ⟨C'.sz,0,none⟩)) ((C'.new (.cells .nil 1 #[.pointer none] 89)).obj C'.sz) V=true:=fun V h0=>HY h0 rfl; generalize hV1:C'.new (.cells .nil 1 #[.pointer none] 89)=V1 at n1 tn1 t_ WA YB ⊢; have n2:Kp V1 (V1.new (.cells .nil 1 #[.pointer none] 89)):=.new _; have tn2:=tn1.new (.cells .nil 1 #[.pointer none] 89); have Z9:(V1.new (.cells .nil 1 #[.pointer none] 89)).obj V1.sz=some (.cells .nil 1 #[.pointer none] 89):=by rw [BF,if_pos rfl]
 have Xf:(V1.new (.cells .nil 1 #[.pointer none] 89)).sz=V1.sz+1:=rfl; have V9:∀ V:CW,V.obj V1.sz=some (.cells .nil 1 #[.pointer none] 89)→JA (.pointer (some ⟨V1.sz,0,none⟩)) ((V1.new (.cells .nil 1 #[.pointer none] 89)).obj V1.sz) V=true:=fun V h0=>HY h0 rfl; generalize hV2:V1.new (.cells .nil 1 #[.pointer none] 89)=V2 at n2 tn2 Z9 Xf V9 ⊢; have dT:V2.obj C'.sz=some (.cells .nil 1 #[.pointer none] 89):=by rw [n2.obj _ (by omega)]; exact t_
 have mkB:∀ b,V2.obj b=some (.cells .nil 1 #[.pointer none] 89)→Aw V2 b 89 [.pointer none]:=fun b hb=>⟨.nil,1,_,hb,rfl,fun k v hk=>by
  match k,hk with
  | 0,hk=>cases hk; rfl⟩
 have n12:=n1.trans n2; have k5V:Kp W5 V2:=(k8.trans rk).trans n12; have l12:∀ V,Kp W5 V→ld prog 78 (.pointer (some ⟨W2.sz,0,none⟩)) V=some (.agg [.map (some r1),.map (some r2)].toArray):=fun V kk=>Bd (vs:=[.map (some r1),.map (some r2)]) (a:=⟨W2.sz,0,none⟩) ni N7 rfl (by omega) (dE.ext t5 kk).cells; have kWV:Kp W V2:=xg.trans k5V; have rq:DW V2 r1 r2 c:=rn.kp t2 (k5.trans k5V); rw [l12 V2 k5V]; simp only [AA,nH]; refine (Vi tn2 rq Ae hC (hh.imp fun _ _ _ hr=>hr.kp ht kWV) IB (by omega) ha0 CZ).mono fun en Lf ⟨Xn,t14,bl,rl,vl,GI,hwl,zbl,zrl,nvl,hFl⟩=>?_; subst GI; refine Ad ?_; have ABD:=k5V.trans Xn; rw [l12 Lf ABD]; simp only [AA,nH]; refine (Vi t14 (rq.kp tn2 Xn) Ae hC (hk.imp fun _ _ _ hr=>hr.kp ht (kWV.trans Xn)) kth (by omega) jZ nU).mono fun en C0 ⟨xU,t16,bm,rm,vm,GI,hwm,zbm,zrm,nvm,hFm⟩=>?_; subst GI; refine Ad ?_; have iV:=Xn.trans xU; have AEQ:=iV.sz; have AER:=Xn.sz; have AES:=k1B.sz; refine ⟨trivial,trivial,?_⟩; refine Ak s89 (a:=⟨C'.sz,0,none⟩) (v:=.pointer (some ⟨bl,0,none⟩)) rfl ((mkB _ dT).ext tn2 iV) (by simp) fun KX dV iW=>?_; have dV:DM C'.sz C0 KX:=dV; have iW:Aw KX C'.sz 89 [.pointer (some ⟨bl,0,none⟩)]:=iW; have t18:=t16.A4 (by omega) dV; have iX:=((mkB _ Z9).ext tn2 iV).congr (dV.obj _ (by omega)); refine Ak s89 (a:=⟨V1.sz,0,none⟩) (v:=.pointer (some ⟨bm,0,none⟩)) rfl iX (by simp) fun A iY iX=>?_; have iY:DM V1.sz KX A:=iY; have iX:Aw A V1.sz 89 [.pointer (some ⟨bm,0,none⟩)]:=iX; have tA:=t18.A4 (by rw [dV.sz]; omega) iY; have iW:=iW.congr (iY.obj _ (by omega)); have oA:∀ j,j≠C'.sz→j≠V1.sz→A.obj j=C0.obj j:=fun j h1 h2=>by rw [iY.obj j h2,dV.obj j h1]
 have kA:Kp C' A:=((n12.trans iV).A4 (Nat.le_refl _) dV).A4 (by omega) iY; refine ⟨by simp only [l12 Lf ABD,l12 V2 k5V,and_self],by simp only [YB V2 dT,V9 V2 Z9,YB Lf (by rw [Xn.obj _ (by omega)]; exact dT),V9 Lf (by rw [Xn.obj _ (by omega)]; exact Z9),YB C0 (by rw [iV.obj _ (by omega)]; exact dT),V9 C0 (by rw [iV.obj _ (by omega)]; exact Z9),and_self],?_⟩
 have wkA:∀ {V:CW} {bw rp:Nat} {vo:Value} {o:List Int},Kp V C0→At V→M4 V bw rp vo o→V2.sz≤bw→V2.sz≤rp→Bw V2.sz vo→M4 A bw rp vo o:=fun {V bw rp vo o} kk tt hw z1 z2 nv=>by
  have hw:=hw.kp tt kk; refine ⟨hw.w.congr (oA _ (by omega) (by omega)),VZ hw.own fun j hj=>?_,hw.p.congr (oA _ (by omega) (by omega))⟩; obtain ⟨b',l',c',e1,e2⟩:=hj; have:=nv b' l' c' e1; exact oA _ (by omega) (by omega)
 have wl:=wkA xU t14 hwl zbl zrl nvl; have wm:=wkA (.refl _) t16 hwm (by omega) (by omega) fun b' l' c' e1=>by have:=nvm b' l' c' e1; omega
 have k5A:Kp W5 A:=(k8.trans rk).trans kA; have wu:=k1B.trans kA; have l16:ld prog 89 (.pointer (some ⟨C'.sz,0,none⟩)) A=some (.pointer (some ⟨bl,0,none⟩)):=AD a89 (a:=⟨C'.sz,0,none⟩) (iW.cell rfl); have wi:ld prog 89 (.pointer (some ⟨V1.sz,0,none⟩)) A=some (.pointer (some ⟨bm,0,none⟩)):=AD a89 (a:=⟨V1.sz,0,none⟩) (iX.cell rfl); have lvl:ld prog 40 (.pointer (some ⟨bl,0,none⟩)) A=some vl:=AD ND (a:=⟨bl,0,none⟩) (wl.w.cell rfl); have lvm:ld prog 40 (.pointer (some ⟨bm,0,none⟩)) A=some vm:=AD ND (a:=⟨bm,0,none⟩) (wm.w.cell rfl); simp only [l16,wi,IX,OB,lvl,lvm,AA,Nu Iw wl.own,Nu Iw wm.own,D7,B_]; refine ⟨by simp only [and_self],trivial,?_⟩
 refine AL (fun hl=>?_) (fun hl=>?_)
 ·refine stop _ A 0 wu tA haE rfl rfl fun _ hA=>?_; have hA:=hA.1; rw [hA] at hl; simp at hl
 have hl:(Da c [] h a).length=(Da c [] k b).length:=by
  have:((Da c [] h a).length:Int)=((Da c [] k b).length:Int):=by simpa using hl
  omega
 have I:ri A W.sz W0.sz W2.sz C'.sz V1.sz bl rl bm rm r1 r2 vl vm (.slice ah h.length ch) (.slice ak k.length ck) c h k (Da c [] h a) (Da c [] k b) :=
  ⟨tA,OE.ext t1 wu,N'.ext t1 wu,dE.ext t5 k5A,iW,iX,wl,wm,rn.kp t2 (k5.trans k5A),hh.imp fun _ _ _ hr=>hr.kp ht (mM.trans wu),hk.imp fun _ _ _ hr=>hr.kp ht (mM.trans wu),Ae,hC,IB,kth,hFl,hFm,LS,ABC,hl⟩
 have qE:∀ W' ds,Marks A.sz W' ds→Marks W.sz W' ds:=fun W' ds ⟨rs,g1,g2,g3⟩=>⟨rs,g1,g2,fun r hr=>⟨(g3 r hr).1,by have:=(g3 r hr).2; have:=(mM.trans wu).sz; omega⟩⟩
 have kWA:=mM.trans wu; have zWA:=kWA.sz
 refine nG I ⟨rfl,rfl,rfl,rfl,rfl,rfl,rfl,rfl,rfl,rfl⟩ (fun e' C_ W' L5 nX pP rV hnA=>?_) (fun e' C_ W' k' t' nX E' hA=>?_)
 ·simp only [KR,RR,Xa]; refine fin e' C_ W' false (Bl.kp kWA L5.1 ?_) L5.2.1 (qE _ _ nX) L5.2.2.1 (by rw [←haE]; exact L5.2.2.2) pP rV (fun _=>rfl) fun _=>⟨fun hf=>(by cases hf),fun hA=>(hnA hA).elim⟩
  rintro j (rfl | rfl)
  ·exact Nat.le_refl _
  ·exact k0.sz
 ·simp only [Md,if_true,Xa,Bs]; rw [E'.UC,E'.OQ]; have Zw:=I.CF.ext tA k'; have Vk:=I.FQ.ext tA k'; refine Ak s4 (a:=⟨W.sz,0,none⟩) (v:=.bool true) rfl Zw (by simp) fun W6 Zu wk=>?_; have Zu:DM W.sz W' W6:=Zu; have wk:Aw W6 W.sz 4 [.bool true]:=wk; have Zx:=Vk.congr (Zu.obj _ (by omega)); refine Ak rR (a:=⟨W0.sz,0,none⟩) (v:=.int .i64 0) rfl Zx (by simp) fun W7 Xp wo=>?_; have Xp:DM W0.sz W6 W7:=Xp; have wo:Aw W7 W0.sz 30 [.int .i64 0]:=wo; have t6:=t'.A4 (Zw.lt t') Zu; refine fin e' C_ W7 true (((kWA.trans k').A4 (Nat.le_refl _) Zu).A4 k0.sz Xp) (t6.A4 (Zx.lt t6) Xp) ((qE _ _ nX).Dd fun j hj _=>?_) ((wk.congr (Xp.obj _ (by omega))).cell rfl) (by rw [←haE]; exact wo.cell rfl) E'.UC E'.OQ (fun Dp=>(Dp haE.symm).elim) fun _=>⟨fun _=>hA,fun _=>rfl⟩
  have:=I.nd k' j hj; rw [Xp.obj _ (by omega),Zu.obj _ (by omega)]; exact hj
theorem dW {v0 v1:Value} {c:List Af} {h:List BR} {W:CW} (ht:At W) (hc:Ay 5 (MF W) v0 c) (hC:Qz c) (hh:Ay 2 (Fk W) v1 h) (hv:∀ x,x ∈ h→x.AJ.length<100000) (hs:h.length<1000000) :
  AH prog AT 27 [v0,v1] W (qx (if BN c then (if CG c h≥0 then .tuple #[.int .i64 (CG c h),.int .i64 211] else .tuple #[.int .i64 0,.int .i64 0]) else .tuple #[.int .i64 0,.int .i64 210]) W):=by
 refine AA_ ?_; rw [AA']; refine (N9 ht hc hC).mono fun en W1 ⟨k1,t1,r1,r2,GI,H6,OP,EY⟩=>?_; subst GI; refine Ad ?_; refine A3 (CA _ _) ?_; refine A3 (CB _ _) ?_; unfold IA; refine DG (ws:=[.map (some r1),.map (some r2)]) pR N7 rfl rfl rfl t1 fun W3 k3 t3 z3 J'=>?_; have jO:=k1.trans k3; simp only [Al,AA]
 cases Ae:BN c with
 | false =>
  simp only [Bool.not_false,Bm]; rw [PL]; exact ⟨rfl,jO,t3⟩
 | true =>
  simp only [Bool.not_true,Ao]; have Mh:=(EY Ae).kp t1 k3; rw [Bd (vs:=[.map (some r1),.map (some r2)]) (a:=⟨W1.sz,0,none⟩) ni N7 rfl (by omega) J'.cells]; simp only [AA]; refine (TQ (r1:=r1) (r2:=r2) t3 Mh Ae hC (hh.imp fun _ _ _ hr=>hr.kp ht jO) hv hs).mono fun en W4 ⟨GI,k4,t4⟩=>?_; subst GI; refine Ad ?_; simp only [Gv,AA]
  refine AL (fun hi=>?_) (fun hi=>?_)
  ·have hi:CG c h≥0:=by simpa using hi
   rw [PL,if_pos hi]; exact ⟨rfl,jO.trans k4,t4⟩
  ·have hi:¬CG c h≥0:=by simpa using hi
   rw [PL,if_neg hi]; exact ⟨rfl,jO.trans k4,t4⟩
end Go.Ce
namespace Go.Ce
open Go Go.Proofs Go.Proofs.Tryz
end Go.Ce
namespace Go.Ce
open Go Go.Proofs Go.Proofs.Tryz
end Go.Ce
namespace Go.Ce
open Go Go.Proofs Go.Proofs.Tryz
theorem LV {P:Program} {α:Type} {R:Nat→Nat→α→Prop} {t el:TypeId} {n:Nat} {v:Value} {l:List α} (u:P.underlying t=some (.slice el)) (h:Ay n R v l) (W:CW):AY P t v W=some (.int .i64 l.length):=by
 obtain ⟨a,cap,rfl,_⟩:=h; exact Ac u _ _ _ _
theorem Zy {W:CW} {v:Value} {xs:List BR} (h:Ay 2 (Fk W) v xs) {i:Nat} {x:BR} (hx:xs[i]?=some x):∃ q p0 p1 vv,Dz prog 24 v (.int .i64 i)=some q∧A_ prog 56 q 0=some p0∧A_ prog 56 q 1=some p1∧ld prog 9 p0 W=some (.string x.type)∧ld prog 40 p1 W=some vv∧Ay 1 (EW W) vv x.AJ:=by
 obtain ⟨a,cap,rfl,hc⟩:=h; obtain ⟨p,rfl,hr⟩:=hc i x hx; obtain ⟨vv,h1,h2⟩:=hr.AJ; exact ⟨_,_,_,vv,BH L4 Io (List.getElem?_eq_some_iff.1 hx).1,GF _,Dg _,AD a9 (a:=⟨p.block,p.off+i*2,none⟩) hr.type,AD ND (a:=⟨p.block,p.off+i*2+1,none⟩) h1,h2⟩
theorem Zz {W:CW} {v:Value} {xs:List Int} (h:Ay 1 (EW W) v xs) {i:Nat} {x:Int} (hx:xs[i]?=some x):∃ q,Dz prog 40 v (.int .i64 i)=some q∧ld prog 3 q W=some (.int .i64 x):=by
 obtain ⟨a,cap,rfl,hc⟩:=h; obtain ⟨p,rfl,hr⟩:=hc i x hx; exact ⟨_,BH Iw s3 (List.getElem?_eq_some_iff.1 hx).1,AD a3 (a:=⟨p.block,p.off+i*1,none⟩) hr.1⟩
end Go.Ce
namespace Go.Ce
open Go Go.Proofs Go.Proofs.Tryz
end Go.Ce
namespace Go.Ce
open Go Go.Proofs Go.Proofs.Tryz
end Go.Ce
namespace Go.Ce
open Go Go.Proofs Go.Proofs.Tryz
end Go.Ce
namespace Go.Ce
open Go Go.Proofs Go.Proofs.Tryz
def HG (c:List Af) (n:Nat) (y:BR):BR:=match BC c y.type with
 | some ix=>⟨y.type,y.AJ.mapIdx fun k v=>if A9 c ix k=2∧0<v then v+(n:Int) else v⟩
 | none=>y
def ES (c:List Af) (h ys:List BR):List BR:=h++ys.map (HG c h.length)
def Gz (h:List BR) (r:Int):Int:=if 0<r then r+(h.length:Int) else r
theorem T3 (c:List Af) (h ys:List BR):(ES c h ys).length=h.length+ys.length:=by unfold ES; rw [List.length_append,List.length_map]
theorem dX {c:List Af} {x:BR} {n m:Nat} (h:Ar c x n=true) (hn:n≤m):Ar c x m=true:=by
 obtain ⟨i,s,X⟩:=Dl h; refine LK (i:=i) (s:=s) ⟨X.ti,X.si,X.many,fun k v hv=>?_⟩; have:=X.val k v hv; unfold Ev at this ⊢; simp only [Bool.not_eq_true',Bool.or_eq_false_iff,Bool.and_eq_false_iff,decide_eq_false_iff_not] at this ⊢; refine ⟨this.1,?_⟩
 rcases this.2 with q | q
 ·exact .inl q
 ·exact .inr ⟨q.1,by omega⟩
theorem dY {c:List Af} (Ae:BN c=true) {n:Nat} {y:BR} {m:Nat} (h:Ar c y m=true):Ar c (HG c n y) (n+m)=true:=by
 obtain ⟨i,s,Y⟩:=Dl h; unfold HG; rw [Y.ti]; refine LK (i:=i) (s:=s) ⟨Y.ti,Y.si,by rw [List.length_mapIdx]; exact Y.many,fun k w hw=>?_⟩; rw [List.getElem?_mapIdx,Option.map_eq_some_iff] at hw; obtain ⟨v,hv,rfl⟩:=hw; have hq:=LL Ae Y hv; unfold Ev
 rcases hq with ⟨hk,q1,q2⟩ | ⟨hk,q1,q2⟩
 ·rw [hk]
  by_cases h0:0<v
  ·rw [if_pos ⟨rfl,h0⟩]; simp; omega
  ·rw [if_neg (fun h=>h0 h.2)]; simp; omega
 ·rw [if_neg (by rw [hk]; simp),hk]; simp; omega
theorem fN {c:List Af} {h ys:List BR} (Ae:BN c=true) (IB:∀ x,x ∈ h→Ar c x h.length=true) (Q0:∀ x,x ∈ ys→Ar c x ys.length=true):∀ x,x ∈ ES c h ys→Ar c x (ES c h ys).length=true:=by
 intro x hx; rw [T3]; unfold ES at hx
 rcases List.mem_append.1 hx with hx | hx
 ·exact dX (IB x hx) (by omega)
 ·obtain ⟨y,hy,rfl⟩:=List.mem_map.1 hx; exact dY Ae (Q0 y hy)
theorem T4 {c:List Af} {h:List BR} (hl:h.length≤1000) (IB:∀ x,x ∈ h→Ar c x h.length=true):CG c h=-1:=by
 unfold CG; rw [if_neg (by omega)]
 have hf:h.findIdx? (fun x=>!Ar c x h.length)=none:=by
  rw [List.findIdx?_eq_none_iff]; intro y hy; rw [IB y hy]; rfl
 unfold Ip; rw [hf]
def fP (n:Nat) (v:Int):Int:=if (n:Int)<v then v-n else 0
theorem Hi {n:Nat} {v:Int} (h:(n:Int)<v):fP n v=v-n:=if_pos h
theorem PM {n:Nat} {v:Int} (h:¬(n:Int)<v):fP n v=0:=if_neg h
theorem dZ {c:List Af} {h ys:List BR} {r:Int} (Ae:BN c=true) (IB:∀ x,x ∈ h→Ar c x h.length=true) (Q0:∀ x,x ∈ ys→Ar c x ys.length=true) (h0:0≤r) (h1:r≤ys.length) :
  M7 c (ES c h ys) (Da c [] (ES c h ys) (Gz h r)) ys (Da c [] ys r):=by
 have hI:Zr c (ES c h ys) ys (fP h.length) (fun v=>(h.length:Int)<v∧v≤h.length+ys.length):=by
  refine ⟨PM (by omega),fun v hv=>by omega,fun v hv=>?_,fun v w hv hw e=>?_,fun v hv=>?_⟩
  ·rw [Hi hv.1]; omega
  ·rw [Hi hv.1,Hi hw.1] at e; omega
  ·have hx:=List.getElem?_eq_getElem (show (v-h.length-1).toNat<ys.length by omega); generalize ys[(v-h.length-1).toNat]'(by omega)=y at hx; obtain ⟨i,s,Y⟩:=Dl (Q0 y (List.mem_of_getElem? hx)); have ht:HG c h.length y=⟨y.type,y.AJ.mapIdx fun k v=>if A9 c i k=2∧0<v then v+(h.length:Int) else v⟩:=by unfold HG; rw [Y.ti]
   refine ⟨HG c h.length y,y,i,?_,?_,by rw [ht],by rw [ht]; exact Y.ti,by rw [ht]; simp,fun k u w hu hw=>?_⟩
   ·unfold ES; rw [List.getElem?_append_right (by omega),List.getElem?_map,show (v-1).toNat-h.length=(v-h.length-1).toNat by omega,hx]; rfl
   ·rw [Hi hv.1]; exact hx
   ·rw [ht] at hu; simp only at hu; rw [List.getElem?_mapIdx,hw] at hu; have hu:(if A9 c i k=2∧0<w then w+(h.length:Int) else w)=u:=Option.some.inj hu
    rcases LL Ae Y hw with ⟨hk,q1,q2⟩ | ⟨hk,q1,q2⟩
    ·rw [if_pos hk]
     by_cases qX:0<w
     ·rw [if_pos ⟨hk,qX⟩] at hu; subst hu; refine ⟨?_,.inr (by omega)⟩; rw [Hi (by omega)]; omega
     ·rw [if_neg (fun h=>qX h.2)] at hu; subst hu; refine ⟨?_,.inl (by omega)⟩; rw [PM (by omega)]; omega
    ·rw [if_neg (by rw [hk]; simp)] at hu ⊢; exact hu
 have hf:fP h.length (Gz h r)=r:=by
  unfold Gz
  split
  ·rw [Hi (by omega)]; omega
  ·rw [PM (by omega)]; omega
 have:=iT hI (root:=Gz h r) ?_ (fun v w hw=>(XQ Ae OG (fN Ae IB Q0) w hw).2) (fun v w hw=>(XQ Ae OG Q0 w hw).2) ?_ (by rw [hf]; exact h1)
 ·rw [hf] at this; exact this
 ·unfold Gz
  split
  ·exact .inr (by omega)
  ·exact .inl (by omega)
 ·rw [T3]; unfold Gz; split <;> omega
end Go.Ce
namespace Go.Ce
open Go Go.Proofs Go.Proofs.Tryz
theorem wv (n m:Nat):AQ prog .eql 40 true (.slice none n m) (.slice none 0 0)=some (.bool true):=by kernel_rfl
theorem wx (a:Addr) (n m:Nat):AQ prog .eql 40 true (.slice (some a) n m) (.slice none 0 0)=some (.bool false):=by kernel_rfl
theorem wy (W:CW):WX prog 40 0 [] W=some (.slice (some ⟨W.sz,0,none⟩) 0 0,W.new (.cells (Tr.nil.AZ 0 []) 0 #[] 3)):=by kernel_rfl
theorem qO:G' prog 40=true:=by kernel_rfl
theorem qP {W:CW} {a:Option Addr} {n cap:Nat} {l:List Int} (h:Ay 1 (EW W) (.slice a n cap) l):n=l.length∧(0<n→∃ p,a=some p∧Cells W p.block p.off (Bz l)):=by
 obtain ⟨a',cap',he,hx⟩:=h
 cases he
 refine ⟨rfl,fun hn=>?_⟩; obtain ⟨p,rfl,_⟩:=hx 0 l[0] (List.getElem?_eq_getElem hn); refine ⟨p,rfl,fun j v hj=>?_⟩; unfold Bz at hj; rw [List.getElem?_map,Option.map_eq_some_iff] at hj; obtain ⟨x,hj,rfl⟩:=hj; obtain ⟨p',e,h1⟩:=hx j x hj
 cases e
 have:W.cell p.block (p.off+j*1)=_:=h1.1; rw [Nat.mul_one] at this; exact this
theorem nJ (l:List Int):(Bz l).all BB=true:=by
 unfold Bz; rw [List.all_map,List.all_eq_true]; intro x _; rfl
theorem wz {W:CW} {el n:Nat} {v:Value} {cs:List Value} (h:DN W el n v cs):∃ a m k,v=.slice a m k:=by cases h <;> exact ⟨_,_,_,rfl⟩
theorem da {W:CW} {v0:Value} {l:List Int} (ht:At W) (h:Ay 1 (EW W) v0 l) (hl:l.length≤100000):AH prog AT 79 [v0] W (fun en W'=>Kp W W'∧At W'∧∃ a n m,en=.returned (.slice a n m)∧DN W' 3 1 (.slice a n m) (Bz l)∧Bw W.sz (.slice a n m)):=by
 refine yv ?_; rw [yu]; obtain ⟨a,cap,rfl,hx⟩:=id h
 cases a with
 | none =>
  refine A3 (wv _ _) ?_; simp only [Bm]; rw [VB]
  have:l=[]:=by
   cases l with
   | nil=>rfl
   | cons x l=>obtain ⟨p,e,_⟩:=hx 0 x rfl; cases e
  subst this; exact ⟨.refl _,ht,_,_,_,rfl,DN.nil,Bw.nil _ _ _⟩
 | some a =>
  refine A3 (wx _ _ _) ?_; simp only [Ao]; refine GC (wy W) ?_; have kn:Kp W (W.new (.cells (Tr.nil.AZ 0 []) 0 #[] 3)):=.new _; have tn:=ht.new (.cells (Tr.nil.AZ 0 []) 0 #[] 3); have vu:Aw (W.new (.cells (Tr.nil.AZ 0 []) 0 #[] 3)) W.sz 3 []:=⟨_,0,_,by rw [BF,if_pos rfl],rfl,fun k v hk=>by simp at hk⟩
  have UD:DN (W.new (.cells (Tr.nil.AZ 0 []) 0 #[] 3)) 3 1 (.slice (some ⟨W.sz,0,none⟩) 0 0) (Bz []):=DN.some vu rfl; have jJ:(W.new (.cells (Tr.nil.AZ 0 []) 0 #[] 3)).sz=W.sz+1:=rfl; generalize W.new (.cells (Tr.nil.AZ 0 []) 0 #[] 3)=Wn at kn tn UD jJ; obtain ⟨_,gT⟩:=qP (h.imp fun _ _ _ hr=>hr.kp ht kn); refine o5 (news:=Bz l) Iw qO s3 z3 rfl (by omega) zO (by omega) tn UD gT (nJ _) (by rw [D7]; omega) (by rw [D7]; simp only [List.length_nil]; omega) fun va W6 hp6 t6 o6 n6=>?_; have k6:Kp W W6:=hp6.kp kn (fun b l c e=>by cases e; exact Nat.le_refl _); rw [VB]; have o6:DN W6 3 1 va (Bz l):=o6; obtain ⟨a',n',m',rfl⟩:=wz o6; refine ⟨k6,t6,_,_,_,rfl,o6,fun b l c e=>?_⟩
  rcases n6 b.block ⟨b,l,c,e,rfl⟩ with ⟨b',l',c',e1,e2⟩ | h1
  ·cases e1
   have e2:W.sz=b.block:=e2; omega
  ·omega
theorem Z0 {W:CW} {va vb:Value} {xs:List BR} (ha:Ay 2 (Fk W) va xs) (hb:Ay 2 (Fk W) vb xs) (hl:xs.length≤100000) (hv:∀ x,x ∈ xs→x.AJ.length≤100000):AH prog AT 24 [va,vb] W (fun en W'=>en=.returned (.bool true)∧W'=W):=by
 refine yt ?_; rw [yr]; generalize JO:AK prog Tryz.f24 (fun en W'=>en=.returned (.bool true)∧W'=W)=KK; rw [LV L4 ha]; simp only [AA]; rw [LV L4 hb]; simp only [AA,B_,bne_self_eq_false,Ao]; refine Du (fun i e' C_ W'=>C_=[]∧W'=W∧e' 0=va∧e' 1=vb∧e' 5=.int .i64 i) xs.length ⟨rfl,rfl,rfl,rfl,rfl⟩ ?_; rintro i e ds W' hi ⟨rfl,rfl,h0,h1,h5⟩; rw [tH,h0,h1,h5,LV L4 ha]; simp only [AA,A6]; refine Gx (fun Ax=>?_) (fun NW=>?_)
 rotate_left
 ·have:i=xs.length:=by omega
  subst this; simp only [Md,ON,if_true,kh,Bs]; rw [←JO,gM]; exact ⟨by simp only [Aa,↓reduceIte],rfl⟩
 have hx:=List.getElem?_eq_getElem Ax; generalize xs[i]=x at hx; have zU:=hv x (List.mem_of_getElem? hx); obtain ⟨qa,p0,p1,vv,a1,a2,mP,a4',a5',a6'⟩:=Zy ha hx; obtain ⟨qb,q0,q1,vw,b1,b2,b3,b4,b5,b6⟩:=Zy hb hx; simp only [a1,a2,mP,a4',a5',b1,b2,b3,b4,b5,AA,Oq,Lm,decide_true,Bool.not_true,Ao]; rw [LV Iw a6']; simp only [AA]; rw [LV Iw b6]; simp only [AA,B_,bne_self_eq_false]; refine ⟨by simp only [and_self],?_⟩; simp only [bc,Bs]; simp only [Aa,↓reduceIte,Ao]; simp only [Wp,Bs]; refine ⟨trivial,?_⟩
 refine Du (fun k e' C_ W2=>C_=[]∧W2=W'∧e' 0=va∧e' 1=vb∧e' 5=.int .i64 i∧e' 6=.int .i64 k) x.AJ.length ?_ ?_
 ·exact ⟨rfl,rfl,by simp only [Aa,Av,Nat.reduceEqDiff,↓reduceIte,h0],by simp only [Aa,Av,Nat.reduceEqDiff,↓reduceIte,h1],by simp only [Aa,Av,Nat.reduceEqDiff,↓reduceIte,h5],(by simp only [Aa,↓reduceIte]; rfl)⟩
 rintro k e2 ds W2 hk ⟨rfl,rfl,g0,g1,g5,g6⟩; rw [tI,g0,g1,g5,g6]; simp only [a1,mP,a5',AA]; rw [LV Iw a6']; simp only [AA,A6]; refine Gx (fun Od=>?_) (fun vA=>?_)
 rotate_left
 ·have:k=x.AJ.length:=by omega
  subst this; simp only [Md,qu,ON,if_true,bb,Bs]; simp only [Aa,Av,Nat.reduceEqDiff,↓reduceIte,g5,Ap,AA]; rw [Dv (by omega)]; exact ⟨Ax,rfl,rfl,by simp only [Aa,Av,Nat.reduceEqDiff,↓reduceIte,g0],by simp only [Aa,Av,Nat.reduceEqDiff,↓reduceIte,g1],by simp only [Aa,↓reduceIte]⟩
 have hy:=List.getElem?_eq_getElem Od; obtain ⟨ra,c1,c2⟩:=Zz a6' hy; obtain ⟨rb,d1,d2⟩:=Zz b6 hy; simp only [b1,b3,b5,c1,c2,d1,d2,AA,B_,bne_self_eq_false,Ao]; refine ⟨by simp only [and_self],trivial,?_⟩; simp only [bg,Bs,HC]; simp only [Aa,Av,Nat.reduceEqDiff,↓reduceIte,g6,Ap,AA]; rw [Dv (by omega)]; exact ⟨Od,trivial,trivial,by simp only [g0],by simp only [g1],by simp only [g5],by simp only [Aa]⟩
def PN (c:List Af) (ix n k:Nat) (v:Int):Int:=if A9 c ix k=2∧0<v then v+(n:Int) else v
def OH (c:List Af) (ix n:Nat) (vs:List Int) (k:Nat):List Int:=vs.mapIdx fun j v=>if j<k then PN c ix n j v else v
theorem OI (c:List Af) (ix n:Nat) (vs:List Int) (k:Nat):(OH c ix n vs k).length=vs.length:=by unfold OH; rw [List.length_mapIdx]
theorem JV (c:List Af) (ix n:Nat) (vs:List Int) (k j:Nat):(OH c ix n vs k)[j]?=(vs[j]?).map fun v=>if j<k then PN c ix n j v else v:=by unfold OH; rw [List.getElem?_mapIdx]
theorem iZ (c:List Af) (ix n:Nat) (vs:List Int):OH c ix n vs 0=vs:=by
 apply List.ext_getElem?; intro j; rw [JV]
 cases vs[j]? <;> simp
theorem nK (c:List Af) (ix n:Nat) (vs:List Int):OH c ix n vs vs.length=vs.mapIdx fun k v=>if A9 c ix k=2∧0<v then v+(n:Int) else v:=by
 apply List.ext_getElem?; intro j; rw [JV,List.getElem?_mapIdx]
 cases hv:vs[j]? with
 | none=>rfl
 | some v =>
  have:=(List.getElem?_eq_some_iff.1 hv).1; simp only [Option.map_some,if_pos this,PN]
theorem Vn {c:List Af} {ix n:Nat} {vs:List Int} {k:Nat} {v:Int} (hv:vs[k]?=some v):OH c ix n vs (k+1)=(OH c ix n vs k).set k (PN c ix n k v):=by
 apply List.ext_getElem?; intro j; have hk:=(List.getElem?_eq_some_iff.1 hv).1; rw [List.getElem?_set,JV,JV,OI]
 by_cases e:k=j
 ·subst e; rw [if_pos rfl,if_pos hk,hv,Option.map_some,if_pos (by omega)]
 ·rw [if_neg e]
  cases vs[j]? with
  | none=>rfl
  | some w =>
   simp only [Option.map_some]; congr 1
   by_cases hj:j<k
   ·rw [if_pos hj,if_pos (by omega)]
   ·rw [if_neg hj,if_neg (by omega)]
theorem ia {c:List Af} {ix n:Nat} {vs:List Int} {k:Nat} {v:Int} (hv:vs[k]?=some v) (h:PN c ix n k v=v):OH c ix n vs (k+1)=OH c ix n vs k:=by
 rw [Vn hv,h]; apply List.ext_getElem?; intro j; have hk:=(List.getElem?_eq_some_iff.1 hv).1; rw [List.getElem?_set,OI]
 split
 ·rename_i e; subst e; rw [JV,hv]; simp [hk]
 ·rfl
end Go.Ce
namespace Go.Ce
open Go Go.Proofs Go.Proofs.Tryz
theorem w4 (s:ByteArray) (a:Option Addr) (n m:Nat):RE prog 56 [(0,.string s),(1,.slice a n m)]=some (.agg [.string s,.slice a n m].toArray):=by kernel_rfl
theorem nL (s:ByteArray) (a:Option Addr) (n m:Nat) (W:CW):WX prog 24 1 [(0,.agg [.string s,.slice a n m].toArray)] W=some (.slice (some ⟨W.sz,0,none⟩) 1 1,W.new (.cells (Tr.nil.AZ 0 [.string s,.slice a n m]) [Value.string s,.slice a n m].length #[] 56)):=by kernel_rfl
structure KI (B:Nat) (W:CW) (v:Value) (ps:List (BR × Value)):Prop where
 own:DN W 56 2 v (ps.flatMap DJ)
 new:Bw B v
 pv:∀ p,p ∈ ps→DN W 3 1 p.2 (Bz p.1.AJ)
theorem qQ {W:CW} {v:Value} {l:List Int} (h:DN W 3 1 v (Bz l)) (hb:∀ x,x ∈ l→-9223372036854775808≤x∧x≤9223372036854775807):Ay 1 (EW W) v l:=EW.of (M3 (f:=fun k:Int=>Value.int .i64 k) h) hb
theorem fQ {B:Nat} {W:CW} {v:Value} {ps:List (BR × Value)} (h:KI B W v ps) (hb:∀ p,p ∈ ps→iD p.1):Ay 2 (Fk W) v (ps.map (·.1)):=by
 have hl:=DH ps; have hpv:=h.pv; obtain ⟨hO,_,_⟩:=h; generalize fj:ps.flatMap DJ=cs at hO hl
 cases hO with
 | nil =>
  have:ps=[]:=List.length_eq_zero_iff.1 (by simp at hl; omega); subst this; exact ⟨none,0,rfl,fun i x hx=>by cases hx⟩
 | @some b0 len _ hB L8 =>
  have Z7:len=ps.length:=by omega
  refine ⟨some ⟨b0,0,none⟩,len,by rw [List.length_map,Z7],fun i x hx=>⟨_,rfl,?_⟩⟩; rw [List.getElem?_map,Option.map_eq_some_iff] at hx; obtain ⟨p,hp,rfl⟩:=hx; have rU:=List.mem_of_getElem? hp
  have hg:∀ j,j<2→cs[i*2+j]?=(DJ p)[j]?:=fun j hj=>by
   rw [←fj,H3,show (i*2+j) / 2=i by omega,show (i*2+j) % 2=j by omega,hp]; rfl
  refine ⟨?_,p.2,?_,qQ (hpv p rU) (hb p rU)⟩
  ·show W.cell b0 (0+i*2)=_; rw [Nat.zero_add]; exact hB.cell (hg 0 (by omega))
  ·show W.cell b0 (0+i*2+1)=_; rw [Nat.zero_add]; exact hB.cell (hg 1 (by omega))
theorem db {W:CW} {el o3 n n':Nat} {v v':Value} {cs T9:List Value} (h:DN W el n v cs) (h':DN W o3 n' v' T9) (he:el≠o3):∀ i,C2 v i→¬C2 v' i:=fun i h1 h2=>he (Bb (Dh h h1) (Dh h' h2))
structure IE (e:Env) (b6 FQ:Nat) (v:Value) (r:Int):Prop where
 e6:e 6=.pointer (some ⟨b6,0,none⟩)
 OQ:e 11=.pointer (some ⟨FQ,0,none⟩)
 w5:e 15=v
 fL:e 16=.int .i64 r
theorem ib {A:CW} {K:AG} {e:Env} {v2 v:Value} {h:List BR} {b6 FQ:Nat} {r:Int} (tA:At A) (hh:Ay 2 (Fk A) v2 h) (hl:h.length≤1000) (hv:∀ x,x ∈ h→x.AJ.length≤100000) (E:IE e b6 FQ v r) (h61:e 61=v2) (h62:e 62=.int .i64 h.length) (h63:e 63=.int .i64 0) (nM:e 18=.slice none 0 0)
  (EA:∀ e' W' vo ps,Kp A W'→At W'→IE e' b6 FQ v r→e' 18=vo→KI A.sz W' vo ps→(∀ p,p ∈ ps→Bw A.sz p.2)→ps.map (·.1)=h→K (.exit 0) e' [] W') :
  C1 prog AT none 30 120 (.loop (Ag prog 30 0)) e [] A K:=by
 refine Du (fun i e' C_ W'=>C_=[]∧Kp A W'∧At W'∧IE e' b6 FQ v r∧e' 61=v2∧e' 62=.int .i64 h.length∧e' 63=.int .i64 i∧∃ vo ps,e' 18=vo∧KI A.sz W' vo ps∧(∀ p,p ∈ ps→Bw A.sz p.2)∧ps.map (·.1)=h.take i) h.length ⟨rfl,.refl _,tA,E,h61,h62,h63,_,[],nM,⟨DN.nil,Bw.nil _ _ _,fun p hp=>(by cases hp)⟩,fun p hp=>(by cases hp),rfl⟩ ?_; rintro i e ds W hi ⟨rfl,kA,ht,E,h61,h62,h63,vo,ps,nM,hO,U2,O2⟩; rw [tD,h61,h62,h63,nM]; simp only [AA,A6]; refine Gx (fun Ax=>?_) (fun NW=>?_)
 rotate_left
 ·have:i=h.length:=by omega
  subst this; simp only [ON]; exact EA _ W vo ps kA ht ⟨by simp only [Aa,Av,Nat.reduceEqDiff,↓reduceIte,E.e6],by simp only [Aa,Av,Nat.reduceEqDiff,↓reduceIte,E.OQ],by simp only [Aa,Av,Nat.reduceEqDiff,↓reduceIte,E.w5],by simp only [Aa,Av,Nat.reduceEqDiff,↓reduceIte,E.fL]⟩ (by simp only [Aa,Av,Nat.reduceEqDiff,↓reduceIte,nM]) hO U2 (by rw [O2,List.take_length])
 have hx:=List.getElem?_eq_getElem Ax; generalize hxe:h[i]=x at hx; have zU:=hv x (List.mem_of_getElem? hx); obtain ⟨ad,vx,a1,a2,mP⟩:=Xb tA hh hx; obtain ⟨ax,cx,rfl,_⟩:=id mP; rw [a1]; simp only [AA,a2 W kA]; refine DG (ws:=[.string x.type,.slice ax x.AJ.length cx]) q7 Io rfl rfl rfl ht fun W2 k2 t2 z2 vH=>?_; have NG:=kA.trans k2; have l9:∀ W',Kp W2 W'→ld prog 9 (.pointer (some ⟨W.sz,0,none⟩)) W'=some (.string x.type):=fun W' kk=>AD a9 (a:=⟨W.sz,0,none⟩) (kk.cell t2 (vH.cell rfl)); have l40:ld prog 40 (.pointer (some ⟨W.sz,0+1,none⟩)) W2=some (.slice ax x.AJ.length cx):=AD ND (a:=⟨W.sz,0+1,none⟩) (vH.cell rfl); simp only [GF,Dg,AA,l9 W2 (.refl _),l40]; refine (da t2 (mP.imp fun _ _ _ hr=>hr.kp tA NG) zU).mono fun en W3 ⟨k3,t3,ac,nc,mc,GI,rM,qZ⟩=>?_; subst GI; refine Ad ?_; have UE:=NG.trans k3; have jO:=k2.trans k3; have Hm:=DH ps
 have Z7:ps.length=i:=by
  have:=congrArg List.length O2; rw [List.length_map,List.length_take] at this; omega
 simp only [w4,AA]; have hO3:=hO.own.kp ht jO; refine Nv L4 Io q7 rfl (by omega) vj (by omega) (nL _ _ _ _) rfl rfl t3 hO3 (by rw [Hm]; omega) fun u Wa v1 W4 ka ta KG t4 o4 n4=>?_; refine ⟨by simp only [l9 W2 (.refl _),l9 W3 k3,and_self],trivial,?_⟩; simp only [eM,Bs,HC]; simp only [Aa,Av,Nat.reduceEqDiff,↓reduceIte,h63,Ap,AA]; rw [Dv (by omega)]; have nq:Kp A W4:=KG.kp UE hO.new; have z3:=UE.sz; have zA2:=NG.sz
 refine ⟨Ax,trivial,nq,t4,⟨by simp only [Aa,Av,Nat.reduceEqDiff,↓reduceIte,E.e6],by simp only [Aa,Av,Nat.reduceEqDiff,↓reduceIte,E.OQ],by simp only [Aa,Av,Nat.reduceEqDiff,↓reduceIte,E.w5],by simp only [Aa,Av,Nat.reduceEqDiff,↓reduceIte,E.fL]⟩,by simp only [h61],by simp only [h62],by simp only [Aa],v1,ps++[(x,.slice ac nc mc)],by simp only [Aa],⟨?_,n4 _ z3,fun p hp=>?_⟩,fun p hp=>?_,?_⟩
 ·rw [List.flatMap_append]
  simpa [DJ] using o4
 ·rcases List.mem_append.1 hp with hp | hp
  ·exact KG.Dd.own t3 ((hO.pv p hp).kp ht jO) (db ((hO.pv p hp).kp ht jO) hO3 (by decide))
  ·cases List.mem_singleton.1 hp
   exact KG.Dd.own t3 rM (db rM hO3 (by decide))
 ·rcases List.mem_append.1 hp with hp | hp
  ·exact U2 p hp
  ·cases List.mem_singleton.1 hp
   exact fun b l c e=>by have:=qZ b l c e; omega
 ·rw [List.map_append,O2,List.take_add_one,hx]; rfl
end Go.Ce
namespace Go.Ce
open Go Go.Proofs Go.Proofs.Tryz
structure LIn (A L:CW) (B1 b6 FQ r1 r2 b0:Nat) (v v2:Value) (c:List Af) (h:List BR) (qs dz:List (BR × Value)):Prop where
 tA:At A
 kAL:Kp A L
 tL:At L
 b6:Aw A b6 24 [v2]
 FQ:Aw A FQ 78 [.map (some r1),.map (some r2)]
 cat:DW A r1 r2 c
 Ae:BN c=true
 hC:Qz c
 hv:∃ a cap,v2=.slice a h.length cap
 qok:∀ q,q ∈ qs→Ar c q.1 qs.length=true
 sl:∀ q,q ∈ qs→∃ bv,q.2=.slice (some ⟨bv,0,none⟩) q.1.AJ.length q.1.AJ.length∧A.sz≤bv∧bv<B1
 vb:∀ j,C2 v j→j<B1
 lB:B1≤L.sz
 AB:A.sz≤B1
 dj:∀ (i j:Nat) q q' b b' m m',qs[i]?=some q→qs[j]?=some q'→q.2=.slice (some ⟨b,0,none⟩) m m→q'.2=.slice (some ⟨b',0,none⟩) m' m'→i≠j→b≠b'
 len:h.length+qs.length≤1000
 p0:dz.length=h.length
 pn:∀ p,p ∈ dz→Bw B1 p.2
def dc (c:List Af) (n:Nat) (q:BR × Value):BR × Value:=(HG c n q.1,q.2)
structure SI (A W:CW) (B1:Nat) (v vo:Value) (c:List Af) (n:Nat) (qs dz:List (BR × Value)) (i:Nat):Prop where
 k:Kp A W
 t:At W
 z:B1≤W.sz
 own:DN W 56 2 v (qs.flatMap DJ)
 G1:∀ (j:Nat) q bv m,qs[j]?=some q→q.2=.slice (some ⟨bv,0,none⟩) m m→Aw W bv 3 (Bz (if j<i then (HG c n q.1).AJ else q.1.AJ))
 out:DN W 56 2 vo ((dz++(qs.take i).map (dc c n)).flatMap DJ)
 new:Bw B1 vo
 pv:∀ p,p ∈ dz→DN W 3 1 p.2 (Bz p.1.AJ)
section
variable {A L:CW} {B1 b6 FQ r1 r2 b0:Nat} {v v2:Value} {c:List Af} {h:List BR} {qs dz:List (BR × Value)}
theorem Z1 {bv n k:Nat} (hk:k<n):Dz prog 40 (.slice (some ⟨bv,0,none⟩) n n) (.int .i64 k)=some (.pointer (some ⟨bv,0+k*1,none⟩)):=BH Iw s3 hk
theorem nN {l:List Int} {k:Nat} {x:Int} (h:l[k]?=some x):(Bz l)[k]?=some (.int .i64 x):=by
 unfold Bz; rw [List.getElem?_map,h]; rfl
theorem ic (I:LIn A L B1 b6 FQ r1 r2 b0 v v2 c h qs dz) {K:AG} {EE:Value→Value→Value→Env} {KP:Value→Value→List PanicEntry→CW→Prop} {ds:List Deferred} {W:CW} {nr bv ix m:Nat} {q:BR} {s:Af} {r:Int} (kA:Kp A W) (ht:At W) (hEE:∀ x y z,IE (EE x y z) b6 FQ v r∧EE x y z 22=.pointer (some ⟨nr,0,none⟩)∧EE x y z 85=z)
  (B22:Aw W nr 56 [.string q.type,.slice (some ⟨bv,0,none⟩) q.AJ.length q.AJ.length]) (AET:A.sz≤nr) (hbv:A.sz≤bv) (Bv:Aw W bv 3 (Bz q.AJ)) (Q:Y3 c q m ix s) (hm:m≤1000)
  (Ae:∀ x y z W' rm,Bl (·=bv) W W'→At W'→W'.obj rm=some .deferred→W.sz≤rm→Aw W' bv 3 (Bz (HG c h.length q).AJ)→K .normal (EE x y z) (mark rm::ds) W') :
  wV (ld prog 78 (.pointer (some ⟨FQ,0,none⟩)) W) fun UW=>wV (ld prog 56 (.pointer (some ⟨nr,0,none⟩)) W) fun NC=>AH prog AT 62 [UW,NC] W (AV (fun M_ aE=>C1 prog AT none 30 120 (.rangeFunc (.tmp 85) #[86,87] (AO prog 30 0) (AN prog 30 0)) (EE UW NC M_) ds aE K) (KP UW NC)):=by
 rw [Bd (vs:=[.map (some r1),.map (some r2)]) (a:=⟨FQ,0,none⟩) ni N7 rfl (by omega) (I.FQ.ext I.tA kA).cells,Bd (vs:=[.string q.type,.slice (some ⟨bv,0,none⟩) q.AJ.length q.AJ.length]) (a:=⟨nr,0,none⟩) Yr Io rfl (by omega) B22.cells]; simp only [AA]; refine (LO (r1:=r1) (r2:=r2) (ty:=q.type) (vx:=.slice (some ⟨bv,0,none⟩) q.AJ.length q.AJ.length) ht).mono fun en W3 ⟨k3,t3,bk,bx,GI,dn,xV,cl,cn⟩=>?_; subst GI; refine Ad ?_; have UE:=kA.trans k3; have zA:=kA.sz; have z3:=k3.sz; have AEU:=Bv.lt ht; have AEV:=B22.lt ht; have Xm:=Ls I.hC Q.many; have JP:elemAt c ix=0→q.AJ.length≤(Ai c ix).length:=fun he=>by rw [JL Q.si he Q.many]; exact Nat.le_refl _
 have Mh:=I.cat.kp I.tA UE
 have Dp:nr≠bv:=by
  rintro rfl; have:=Bb B22 Bv
  cases this
 have Bv3:=Bv.ext ht k3; have ADX:=B22.ext ht k3
 have hint:(HG c h.length q).AJ=OH c ix h.length q.AJ q.AJ.length:=by
  rw [nK]; unfold HG; rw [Q.ti]
 obtain ⟨a2,ie,QS⟩:=I.hv; obtain ⟨E,e22,e85⟩:=hEE (.agg [.map (some r1),.map (some r2)].toArray) (.agg [.string q.type,.slice (some ⟨bv,0,none⟩) q.AJ.length q.AJ.length].toArray) (.func (.func 108) #[] #[.pointer (some ⟨bk,0,none⟩),.pointer (some ⟨bx,0,none⟩)])
 refine RZ (bk:=bk) (bx:=bx) (r1:=r1) (r2:=r2) (n:=q.AJ.length) (ix:=ix) (c:=c) (ty:=q.type) (a1:=23) (a2:=24) t3 e85 Q.ti (by omega) JP (fun ro e0 ds K W=>by rw [tF]) (by decide)
  (fun j W'=>Bl (·=bv) W3 W'∧At W'∧W'.obj W3.sz=some .deferred∧W3.sz+1<W'.sz∧Aw W' bv 3 (Bz (OH c ix h.length q.AJ j)))
  (fun _ _=>False)
  (fun j W' hh=>⟨hh.1.cell t3 (by omega) (cl.cell rfl),hh.1.cell t3 (by omega) (cl.cell rfl),I.cat.kp I.tA (Bl.kp UE hh.1 fun j hj=>by omega),hh.1.cell t3 (by omega) (cn.cell rfl),_,_,hh.1.cell t3 (by omega) (cn.cell rfl)⟩)
  (fun j W1 W2 ⟨h1,h2,h3,h4,h5⟩ hu _=>⟨h1.then hu.Dd fun i hi he=>by omega,h2.A4 h4 hu,by rw [hu.obj _ (by omega)]; exact h3,by rw [hu.sz]; exact h4,h5.congr (hu.obj _ (by omega))⟩)
  (fun _ _ _ hh _ _=>hh.elim)
  (fun W2 k t z hd=>⟨Bl.FN k,t,hd,by omega,by rw [iZ]; exact Bv3.ext t3 k⟩)
  (fun j W1 Kb E' hE pj vO hj ⟨Gp,t1,hd,hl,hB⟩ hlo hn _ _=>?_) (fun W' ⟨Gp,t',hd,hl,hB⟩=>?_) (fun _ _ hh=>hh.elim)
 ·have g:∀ t v,t≠86→t≠87→t≠23→t≠24→EE (.agg [.map (some r1),.map (some r2)].toArray) (.agg [.string q.type,.slice (some ⟨bv,0,none⟩) q.AJ.length q.AJ.length].toArray) (.func (.func 108) #[] #[.pointer (some ⟨bk,0,none⟩),.pointer (some ⟨bx,0,none⟩)]) t=v→E' t=v:=fun t v n1 n2 n3 n4 hv=>by
   rw [hE t n1 n2 n3 n4,←hv]
  have g6:=g 6 _ (by decide) (by decide) (by decide) (by decide) E.e6; have g22:=g 22 _ (by decide) (by decide) (by decide) (by decide) e22; have hx:=List.getElem?_eq_getElem hj; generalize q.AJ[j]=x at hx; have i_:(OH c ix h.length q.AJ j)[j]?=some x:=by rw [JV,hx]; simp
  have l22:ld prog 40 (.pointer (some ⟨nr,0+1,none⟩)) W1=some (.slice (some ⟨bv,0,none⟩) q.AJ.length q.AJ.length):=AD ND (a:=⟨nr,0+1,none⟩) (Gp.cell t3 Dp (ADX.cell rfl))
  have lx:ld prog 3 (.pointer (some ⟨bv,0+j*1,none⟩)) W1=some (.int .i64 x):=AD a3 (a:=⟨bv,0+j*1,none⟩) (by
   show W1.cell bv (0+j*1)=_; rw [show 0+j*1=j by omega]
   exact hB.cell (nN i_))
  have l6:ld prog 24 (.pointer (some ⟨b6,0,none⟩)) W1=some (.slice a2 h.length ie):=by
   rw [←QS]; exact AD pk (a:=⟨b6,0,none⟩) ((Bl.kp UE Gp fun j hj=>by omega).cell I.tA (I.b6.cell rfl))
  have k32:∀ (e2:Env) (b:Bool),e2 97=.bool b→e2 6=.pointer (some ⟨b6,0,none⟩)→e2 22=.pointer (some ⟨nr,0,none⟩)→e2 23=.int .i64 j→(b=true↔(A9 c ix j=2∧0<x))→(RJ (some (W3.sz+1)) Kb) .normal e2 [] W1:=by
   intro e2 b h97 h6 iP h23 hb; simp only [RJ,Bs,h97]
   refine AL (fun gk=>?_) (fun jL=>?_)
   ·obtain ⟨hk,hx0⟩:=hb.1 gk
    have hxm:x≤1000:=by
     rcases LL I.Ae Q hx with q | q
     ·omega
     ·rw [q.1] at hk; cases hk
    have hh1:=I.len; rw [h6,iP,h23]; simp only [Dg,l22,Z1 hj,lx,l6,Ac L4,Ap,AA]; rw [wrap64 (by omega) (by omega)]; refine Ak s3 (a:=⟨bv,0+j*1,none⟩) (v:=.int .i64 (x+(h.length:Int))) rfl hB (by rw [D7,OI]; show 0+j*1<_; omega) fun W2 hu HD=>?_; have hu:DM bv W1 W2:=hu; have HD:Aw W2 bv 3 (putAt (Bz (OH c ix h.length q.AJ j)) (0+j*1) [.int .i64 (x+(h.length:Int))]):=HD; rw [fH (by rw [OI]; exact hj)] at HD; have Xf:PN c ix h.length j x=x+(h.length:Int):=if_pos ⟨hk,hx0⟩; rw [←Xf,←Vn hx] at HD; refine ⟨by simp only [and_self],trivial,?_⟩; have uB:=hB.lt t1; exact hn _ _ W2 (hu.obj _ (by omega)) ⟨Gp.then hu.Dd fun _ _ h=>h,t1.A4 uB hu,by rw [hu.obj _ (by omega)]; exact hd,by rw [hu.sz]; exact hl,HD⟩
   ·have HJ:¬(A9 c ix j=2∧0<x):=fun hh=>by
     have:=hb.2 hh; rw [this] at jL
     cases jL
    refine hn _ _ W1 rfl ⟨Gp,t1,hd,hl,?_⟩; rw [ia hx (if_neg HJ)]; exact hB
  rw [tG,g22,pj,vO]; simp only [Bf,AA]
  refine AL (fun hk=>?_) (fun hk=>?_)
  ·have hk:A9 c ix j=2:=by simpa using hk
   simp only [Dg,l22,Z1 hj,lx,Bg,AA]; refine k32 _ (decide (x>0)) (by simp only [Aa,↓reduceIte]) (by simp only [Aa,Av,Nat.reduceEqDiff,↓reduceIte,g6]) (by simp only [Aa,Av,Nat.reduceEqDiff,↓reduceIte,g22]) (by simp only [Aa,Av,Nat.reduceEqDiff,↓reduceIte,pj]) ⟨fun hh=>⟨hk,of_decide_eq_true hh⟩,fun hh=>decide_eq_true hh.2⟩
  ·have hk:¬A9 c ix j=2:=by simpa using hk
   exact k32 _ false (by simp only [Aa,↓reduceIte]) (by simp only [Aa,Av,Nat.reduceEqDiff,↓reduceIte,g6]) (by simp only [Aa,Av,Nat.reduceEqDiff,↓reduceIte,g22]) (by simp only [Aa,Av,Nat.reduceEqDiff,↓reduceIte,pj]) ⟨fun hh=>(by cases hh),fun hh=>(hk hh.1).elim⟩
 ·exact Ae _ _ _ W' W3.sz ((Bl.FN k3).then Gp fun _ _ h=>h) t' hd z3 (by rw [hint]; exact hB)
theorem ig (I:LIn A L B1 b6 FQ r1 r2 b0 v v2 c h qs dz) {K:AG} {e:Env} {vo:Value} {r:Int} (S:SI A L B1 v vo c h.length qs dz 0) (E:IE e b6 FQ v r) (h77:e 77=v) (vS:e 78=.int .i64 qs.length) (h79:e 79=.int .i64 0) (nM:e 18=vo)
  (EA:∀ e' C_ W' cu,SI A W' B1 v cu c h.length qs dz qs.length→Marks A.sz W' C_→IE e' b6 FQ v r→e' 18=cu→K (.exit 2) e' C_ W') :
  C1 prog AT none 30 120 (.loop (Ag prog 30 1)) e [] L K:=by
 have hln:=I.len; refine Du (fun i e' C_ W'=>Marks A.sz W' C_∧IE e' b6 FQ v r∧e' 77=v∧e' 78=.int .i64 qs.length∧e' 79=.int .i64 i∧∃ vo,e' 18=vo∧SI A W' B1 v vo c h.length qs dz i) qs.length ⟨.nil _ _,E,h77,vS,h79,_,nM,S⟩ ?_; rintro i e ds W hi ⟨hm,E,h77,vS,h79,vo,nM,S⟩; rw [tE,h77,vS,h79,E.OQ]; simp only [AA,A6]; refine Gx (fun Ax=>?_) (fun NW=>?_)
 rotate_left
 ·have:i=qs.length:=by omega
  subst this; simp only [ON]; exact EA _ ds W vo S hm ⟨by simp only [Aa,Av,Nat.reduceEqDiff,↓reduceIte,E.e6],by simp only [Aa,Av,Nat.reduceEqDiff,↓reduceIte,E.OQ],by simp only [Aa,Av,Nat.reduceEqDiff,↓reduceIte,E.w5],by simp only [Aa,Av,Nat.reduceEqDiff,↓reduceIte,E.fL]⟩ (by simp only [Aa,Av,Nat.reduceEqDiff,↓reduceIte,nM])
 have hq:=List.getElem?_eq_getElem Ax; generalize hqe:qs[i]=q at hq; have nu:=List.mem_of_getElem? hq; obtain ⟨ix,s,Q⟩:=Dl (I.qok q nu); obtain ⟨bv,hv,hbA,hbB⟩:=I.sl q nu; have Hm:=DH qs
 obtain ⟨bs,xI⟩:∃ bs,v=.slice (some ⟨bs,0,none⟩) qs.length qs.length:=by
  have hO:=S.own; generalize qs.flatMap DJ=cs at hO Hm
  cases hO with
  | nil=>simp at Hm; omega
  | @some b0 len _ hB hl =>
   have:len=qs.length:=by omega
   subst this; exact ⟨b0,rfl⟩
 have hbs:=Dh S.own (⟨_,_,_,xI,rfl⟩:C2 v bs)
 have BA:Cells W bs (0+i*2) (DJ q):=fun j w hj=>by
  have oO:j<2:=by have:=(List.getElem?_eq_some_iff.1 hj).1; simpa [DJ] using this
  refine hbs.cell ?_; rw [H3,show (0+i*2+j) / 2=i by omega,show (0+i*2+j) % 2=j by omega,hq]; exact hj
 have hia:Dz prog 24 v (.int .i64 i)=some (.pointer (some ⟨bs,0+i*2,none⟩)):=by rw [xI]; exact BH L4 Io Ax
 rw [hia]; simp only [AA]; rw [Bd (vs:=DJ q) (a:=⟨bs,0+i*2,none⟩) Yr Io rfl (by omega) BA]; simp only [AA]; have Mo:(DJ q).all BB=true:=by unfold DJ; rw [hv]; rfl
 refine DG (ws:=DJ q) q7 Io rfl Mo rfl S.t fun W2 k2 t2 z2 mJ=>?_; have NG:=S.k.trans k2; have hqv:DJ q=[.string q.1.type,.slice (some ⟨bv,0,none⟩) q.1.AJ.length q.1.AJ.length]:=by unfold DJ; rw [hv]
 rw [hqv] at mJ; have Bv:=(S.G1 i q bv q.1.AJ.length hq hv).ext S.t k2; rw [if_neg (Nat.lt_irrefl i)] at Bv; have zA:=S.k.sz; have zq:=I.len; have uB:=Bv.lt t2; have AEW:=(S.G1 i q bv q.1.AJ.length hq hv).lt S.t; refine ic I (q:=q.1) (r:=r) (nr:=W.sz) (bv:=bv) NG t2 (fun x y z=>⟨⟨by simp only [Aa,Av,Nat.reduceEqDiff,↓reduceIte,E.e6],by simp only [Aa,Av,Nat.reduceEqDiff,↓reduceIte,E.OQ],by simp only [Aa,Av,Nat.reduceEqDiff,↓reduceIte,E.w5],by simp only [Aa,Av,Nat.reduceEqDiff,↓reduceIte,E.fL]⟩,by simp only [Aa,Nat.reduceEqDiff,↓reduceIte],by simp only [Aa,↓reduceIte]⟩) mJ zA hbA Bv Q (by omega) (fun x y z W5 rm Gp t5 hd hrm MI=>?_); simp only [Bs,qu,Wl]; have ABE:=Gp.G1 t2 (by omega) mJ; simp only [Aa,Av,Nat.reduceEqDiff,↓reduceIte,nM]; rw [Bd (vs:=[.string q.1.type,.slice (some ⟨bv,0,none⟩) q.1.AJ.length q.1.AJ.length]) (a:=⟨W.sz,0,none⟩) Yr Io rfl (by omega) ABE.cells]; simp only [AA]; have aH:Bl (·=bv) W W5:=(Bl.FN k2).then Gp fun _ _ h=>h
 have ABF:∀ j,C2 vo j→j≠bv:=by
  rintro j hj rfl; obtain ⟨b,l,c',e1,e2⟩:=hj; have:=S.new b l c' e1; omega
 have vY:=aH.own S.t S.out ABF; have ADY:=DH (dz++(qs.take i).map (dc c h.length))
 have L8:(dz++(qs.take i).map (dc c h.length)).length≤1000:=by
  rw [List.length_append,List.length_map,List.length_take,I.p0]; omega
 have ADZ:Kp A W5:=Bl.kp S.k aH fun j hj=>by omega
 refine Nv L4 Io q7 rfl (by omega) vj (by omega) (nL _ _ _ _) rfl rfl t5 vY (by rw [ADY]; omega) fun u Wa v1 W6 ka ta KG t6 o6 n6=>?_; simp only [Wk,Bs,HC]; simp only [Aa,Av,Nat.reduceEqDiff,↓reduceIte,h79,Ap,AA]; rw [Dv (by omega)]; have nA:Bw A.sz vo:=fun b l c' e1=>by have:=S.new b l c' e1; have:=I.AB; omega
 have zL:=Gp.sz
 have RC:∀ j o,W.obj j=some o→j≠bv→¬C2 vo j→W6.obj j=some o:=fun j o hj Dp HJ=>by
  rw [KG.Dd.obj j (by have:=S.t _ _ hj; omega) HJ,aH.obj j (S.t _ _ hj) Dp]; exact hj
 have ADa:B1≤W5.sz:=by
  have h1:=S.z; have h3:=k2.sz; omega
 have ADb:∀ j,C2 v j→j≠bv:=by
  rintro j hj rfl; have:=Bb (Dh S.own hj) (S.G1 i q j q.1.AJ.length hq hv)
  cases this
 refine ⟨Ax,?_,⟨by simp only [Aa,Av,Nat.reduceEqDiff,↓reduceIte,E.e6],by simp only [Aa,Av,Nat.reduceEqDiff,↓reduceIte,E.OQ],by simp only [Aa,Av,Nat.reduceEqDiff,↓reduceIte,E.w5],by simp only [Aa,Av,Nat.reduceEqDiff,↓reduceIte,E.fL]⟩,by simp only [h77],by simp only [vS],by simp only [Aa],v1,by simp only [Aa],⟨KG.kp ADZ nA,t6,by have:=KG.sz; omega,?_,fun j q' bq m' hj du=>?_,?_,n6 _ ADa,fun p hp=>?_⟩⟩
 ·refine (hm.more S.t (W':=W6) (r:=rm) (fun j hj hB=>RC j _ hj ?_ fun hi=>?_) ?_ (by omega) (by omega))
  ·rintro rfl; obtain ⟨x,y,z,ho,_⟩:=S.G1 i q j q.1.AJ.length hq hv; rw [ho] at hj; cases hj
  ·obtain ⟨x,y,z,ho,_⟩:=Dh S.out hi; rw [ho] at hj; cases hj
  ·rw [KG.Dd.obj rm (t5 _ _ hd) fun hi=>?_]
   ·exact hd
   ·obtain ⟨x,y,z,ho,_⟩:=Dh vY hi; rw [ho] at hd; cases hd
 ·have h5:=aH.own S.t S.own ADb
  exact KG.Dd.own t5 h5 fun j hj hi=>by
   obtain ⟨b,l,c',e1,e2⟩:=hi; have h1:=S.new b l c' e1; have h2:=I.vb j hj; omega
 ·by_cases e:j=i
  ·subst e; rw [hq] at hj
   cases hj
   rw [hv] at du
   cases du
   rw [if_pos (by omega)]; refine KG.Dd.G1 t5 (fun hi=>ABF _ hi rfl) MI
  ·have eo:=S.G1 j q' bq m' hj du; have ABG:bq≠bv:=I.dj j i q' q bq bv _ _ hj hq du hv e
   have:=KG.Dd.G1 t5 (fun hi=>by
    have h3:=Dh vY hi; have:=Bb (aH.G1 S.t ABG eo) h3
    cases this) (aH.G1 S.t ABG eo)
   by_cases yS:j<i
   ·rw [if_pos yS] at this; rw [if_pos (by omega)]; exact this
   ·rw [if_neg yS] at this; rw [if_neg (by omega)]; exact this
 ·rw [List.take_add_one,hq,Option.toList_some,List.map_append,←List.append_assoc,List.flatMap_append]; have Q0:(HG c h.length q.1).type=q.1.type:=by unfold HG; split <;> rfl
  have he:DJ (dc c h.length q)=[.string q.1.type,.slice (some ⟨bv,0,none⟩) q.1.AJ.length q.1.AJ.length]:=by unfold DJ dc; simp only [Q0,hv]
  simp only [List.map_cons,List.map_nil,List.flatMap_cons,List.flatMap_nil,List.append_nil,he]; exact o6
 ·have h5:=aH.own S.t (S.pv p hp) fun j hj e=>by
   obtain ⟨b,l,c',e1,e2⟩:=hj; have:=I.pn p hp b l c' e1; omega
  exact KG.Dd.own t5 h5 (db h5 vY (by decide))
end
end Go.Ce
namespace Go.Ce
open Go Go.Proofs Go.Proofs.Tryz
def KJ (c:List Af) (l:List CE) (h:List BR) (b:List UInt8):List BR × Int × Int :=
 if BN c=false then ([],0,210) else if BZ c l=false then ([],0,212) else if CG c h≥0 then ([],0,211) else if (C7 c l b).2.2≠0 then ([],0,(C7 c l b).2.2) else if 1000<h.length+(C7 c l b).1.length then ([],0,2) else (ES c h (C7 c l b).1,Gz h (C7 c l b).2.1,0)
def Z2 (r:List BR × Int × Int) (W:CW):Ending→CW→Prop:=fun en W'=>Kp W W'∧At W'∧∃ v ps,en=.returned (.tuple #[v,.int .i64 r.2.1,.int .i64 r.2.2])∧KI W.sz W' v ps∧ps.map (·.1)=r.1
theorem KI.of {B:Nat} {W W':CW} {v:Value} {ps:List (BR × Value)} (h:KI B W v ps) (ho:∀ j o,W.obj j=some o→o≠.deferred→W'.obj j=some o):KI B W' v ps:=by
 have RC:∀ {el n:Nat} {v:Value} {cs:List Value},DN W el n v cs→DN W' el n v cs:=fun {el n v cs} hO=>VZ hO fun j hj=>by
  obtain ⟨x,y,z,hq,_⟩:=Dh hO hj; rw [ho j _ hq (by simp),hq]
 exact ⟨RC h.own,h.new,fun p hp=>RC (h.pv p hp)⟩
theorem qR {W:CW} {b:Nat} {e e':TypeId} {vs ws:List Value} (h:Aw W b e vs) (h':Aw W b e' ws):vs.length=ws.length:=by
 obtain ⟨c,n,z,h1,h2,_⟩:=h; obtain ⟨c',n',z',oo,sV,_⟩:=h'; rw [h1] at oo
 cases oo
 omega
theorem T5 (c:List Af) (n:Nat) (y:BR):(HG c n y).AJ.length=y.AJ.length:=by
 unfold HG
 split
 ·simp
 ·rfl
theorem fR {c:List Af} {l:List CE} {b:List UInt8} (h:(C7 c l b).2.2=0):(∀ x,x ∈ (C7 c l b).1→Ar c x (C7 c l b).1.length=true)∧(C7 c l b).1.length≤1000∧0≤(C7 c l b).2.1∧(C7 c l b).2.1≤(C7 c l b).1.length:=by
 rcases Zp c l b with ⟨x,hx,hr⟩ | ⟨ts,xs,Ae,hs,hCa,hbe,hr⟩
 ·rw [hr] at h; exact (hx h).elim
 ·obtain ⟨p1,_⟩:=Zl Ae hs hCa; obtain ⟨_,_,wq,h0,h1⟩:=gW p1; obtain ⟨h2,h3⟩:=Hz wq; rw [hr]; exact ⟨h3,h2,h0,h1⟩
theorem ik {v0 v1 v2 vb:Value} {c:List Af} {l:List CE} {h:List BR} {b:List UInt8} {W:CW} (ht:At W) (hc:Ay 5 (MF W) v0 c) (hC:Qz c) (hl:Ay 3 (Ou W) v1 l) (fi:l.length<100000) (Xm:∀ s,s ∈ l→s.map.length<100000) (hh:Ay 2 (Fk W) v2 h) (hhv:∀ x,x ∈ h→x.AJ.length<100000) (zw:h.length<1000000) (hb:dG W vb b) :
  AH prog AT 30 [v0,v1,v2,vb] W (Z2 (KJ c l h b) W):=by
 refine yq ?_; rw [yn]; generalize JO:AK prog Tryz.f30 (Z2 (KJ c l h b) W)=KK; obtain ⟨a2,ie,rfl,_⟩:=id hh
 have F1:∀ (e':Env) ds W' v n m ps,Kp W W'→At W'→Marks W.sz W' ds→e' 8=v→e' 9=.int .i64 n→e' 10=.int .i64 m→KI W.sz W' v ps→KJ c l h b=(ps.map (·.1),n,m)→KK .ret e' ds W':=by
  intro e' ds W' v n m ps k t hm h8 h9 lg hO hn; rw [←JO]; refine Ib t hm fun W2 g1 g2 g3 t2=>?_; rw [gL,h8,h9,lg,hn]; exact ⟨⟨by rw [g3]; exact k.sz,fun j hj=>by rw [g2 j hj]; exact k.obj j hj⟩,t2,v,ps,rfl,hO.of g1,rfl⟩
 have Gq:∀ W',KI W.sz W' (.slice none 0 0) []:=fun W'=>⟨DN.nil,Bw.nil _ _ _,fun p hp=>(by cases hp)⟩
 refine FM s24 ht fun W0 k0 t0 z0 J'=>?_; have J':Aw W0 W.sz 24 [.slice a2 h.length ie]:=J'; refine (N9 t0 (hc.imp fun _ _ _ hr=>hr.kp ht k0) hC).mono fun en W1 ⟨k1,t1,r1,r2,GI,H6,OP,EY⟩=>?_; subst GI; refine Ad ?_; refine A3 (CA _ _) ?_; refine A3 (CB _ _) ?_; unfold IA; refine DG (ws:=[.map (some r1),.map (some r2)]) pR N7 rfl rfl rfl t1 fun W4 k4 t4 z4 N'=>?_; have Xn:=k1.trans k4; have gu:=k0.trans Xn; simp only [Al,AA]
 cases Ae:BN c with
 | false =>
  simp only [Bool.not_false,Bm]; exact F1 _ _ W4 _ 0 210 [] gu t4 (.nil _ _) rfl rfl rfl (Gq _) (by unfold KJ; rw [if_pos Ae]; rfl)
 | true =>
  simp only [Bool.not_true,Ao]; have TS:=(EY Ae).kp t1 k4; rw [MH N']; simp only [AA]; refine (ZI t4 TS hC (hl.imp fun _ _ _ hr=>hr.kp ht gu) fi Xm).mono fun en W5 ⟨k5,t5,w,r,GI,KM⟩=>?_; subst GI; refine Ad ?_; refine A3 (CA _ _) ?_; refine A3 (CB _ _) ?_; refine DG (ws:=[.map (some w),.map (some r)]) z83 vC rfl rfl rfl t5 fun W8 k8 t8 z8 ACR=>?_; have xh:=k5.trans k8; have xR:=gu.trans xh; simp only [Al,AA]
  cases hs:BZ c l with
  | false =>
   simp only [Bool.not_false,Bm]; exact F1 _ _ W8 _ 0 212 [] xR t8 (.nil _ _) rfl rfl rfl (Gq _) (by unfold KJ; rw [if_neg (by rw [Ae]; simp),if_pos hs]; rfl)
  | true =>
   simp only [Bool.not_true,Ao]; have l6:∀ W',Kp W0 W'→ld prog 24 (.pointer (some ⟨W.sz,0,none⟩)) W'=some (.slice a2 h.length ie):=fun W' kk=>AD pk (a:=⟨W.sz,0,none⟩) (kk.cell t0 (J'.cell rfl)); have qS:=Xn.trans xh; rw [MH (N'.ext t4 xh),l6 W8 qS]; simp only [AA]; refine (TQ (r1:=r1) (r2:=r2) t8 (TS.kp t4 xh) Ae hC (hh.imp fun _ _ _ hr=>hr.kp ht xR) hhv zw).mono fun en A ⟨GI,k9,tA⟩=>?_; subst GI; refine Ad ?_; have iG:=xR.trans k9; simp only [Gv,AA]
   refine AL (fun hi=>?_) (fun hi=>?_)
   ·have hi:CG c h≥0:=by simpa using hi
    exact F1 _ _ A _ 0 211 [] iG tA (.nil _ _) rfl rfl rfl (Gq _) (by unfold KJ; rw [if_neg (by rw [Ae]; simp),if_neg (by rw [hs]; simp),if_pos hi]; rfl)
   have hi:¬CG c h≥0:=by simpa using hi
   obtain ⟨LS,IB⟩:=Hz hi
   have hP:KJ c l h b=if (C7 c l b).2.2≠0 then ([],0,(C7 c l b).2.2) else if 1000<h.length+(C7 c l b).1.length then ([],0,2) else (ES c h (C7 c l b).1,Gz h (C7 c l b).2.1,0):=by
    unfold KJ; rw [if_neg (by rw [Ae]; simp),if_neg (by rw [hs]; simp),if_neg hi]
   refine (Vd tA (hc.imp fun _ _ _ hr=>hr.kp ht iG) hC (hl.imp fun _ _ _ hr=>hr.kp ht iG) fi Xm (hb.kp ht iG)).mono fun en C' ⟨rk,t11,v,qs,GI,hH,hq,Un⟩=>?_; subst GI; have j0:=fR (c:=c) (l:=l) (b:=b); generalize C7 c l b=R at hP hq j0 ⊢; obtain ⟨ys,rt,er⟩:=R; simp only at hP hq j0 ⊢; refine Ad ?_; refine A3 (dM _ _ _) ?_; refine A3 (dN _ _ _) ?_; refine A3 (dO _ _ _) ?_; simp only [B_,AA]; have fS:=iG.trans rk
   refine AL (fun he=>?_) (fun he=>?_)
   ·have he:er≠0:=by simpa using he
    exact F1 _ _ C' _ 0 er [] fS t11 (.nil _ _) rfl rfl rfl (Gq _) (by rw [hP,if_pos he]; rfl)
   have he:er=0:=by simpa using he
   subst he; obtain ⟨Z3,hyl,e_,AEX⟩:=j0 rfl; have rY:qs.length=ys.length:=by rw [←hq,List.length_map]
   have ABH:=(qS.trans k9).trans rk; have Hm:=DH qs; have lv:∀ W',AY prog 24 v W'=some (.int .i64 qs.length):=fun W'=>LI (m:=qs.length) L4 hH.own (by omega) Hm; rw [l6 C' ABH]; simp only [AA,Ac L4,lv,Ap,Bg]; rw [wrap64 (by omega) (by omega)]
   refine AL (fun hg=>?_) (fun hg=>?_)
   ·have hg:(h.length:Int)+(qs.length:Int)>1000:=by simpa using hg
    exact F1 _ _ C' _ 0 2 [] fS t11 (.nil _ _) rfl rfl rfl (Gq _) (by rw [hP,if_neg (by simp),if_pos (by omega)]; rfl)
   have hg:¬(h.length:Int)+(qs.length:Int)>1000:=by simpa using hg
   refine ib (b6:=W.sz) (FQ:=W1.sz) (v:=v) (r:=rt) t11 (hh.imp fun _ _ _ hr=>hr.kp ht fS) LS (fun x hx=>by have:=hhv x hx; omega) ⟨rfl,rfl,rfl,rfl⟩ rfl rfl rfl rfl fun e' L vo ps kL tL E nM hO U2 O2=>?_; simp only [Md,if_true,eL,Bs,E.w5,lv,AA]; have Z7:ps.length=h.length:=by rw [←O2,List.length_map]
   have kAL:=rk.trans kL; have zA:=rk.sz; have hHL:=hH.of (W':=L) fun j o _ hj _=>by rw [kL.obj j (t11 _ _ hj)]; exact hj
   have I:LIn A L C'.sz W.sz W1.sz r1 r2 0 v (.slice a2 h.length ie) c h qs ps:=by
    refine ⟨tA,kAL,tL,J'.ext t0 (qS.trans k9),N'.ext t4 (xh.trans k9),TS.kp t4 (xh.trans k9),Ae,hC,⟨_,_,rfl⟩,fun q nu=>?_,fun q nu=>?_,fun j hj=>VL t11 hH.own hj,kL.sz,zA,fun i j q q' b b' m m' hi hj hqi hqj Dp TI=>?_,by omega,Z7,U2⟩
    ·rw [rY]; exact Z3 _ (by rw [←hq]; exact List.mem_map_of_mem nu)
    ·obtain ⟨bv,g1,g2,g3⟩:=hH.pv q nu; exact ⟨bv,g1,g3,g2.lt t11⟩
    ·subst TI; obtain ⟨bv,g1,g2,_⟩:=hH.pv q (List.mem_of_getElem? hi); obtain ⟨bv',g1',g2',_⟩:=hH.pv q' (List.mem_of_getElem? hj); rw [hqi] at g1; rw [hqj] at g1'; have e1:b=bv:=by injection g1 with e1; injection e1 with e1; injection e1
     have e2:b=bv':=by injection g1' with e1; injection e1 with e1; injection e1
     have m1:m=q.1.AJ.length:=by injection g1
     have m2:m'=q'.1.AJ.length:=by injection g1'
     subst e1; subst e2; have hle:=qR g2 g2'; rw [D7,D7] at hle; have P6:q.2=q'.2:=by rw [hqi,hqj,m1,m2,hle]
     have QB:=hH.nd; unfold List.Nodup at QB; rw [List.pairwise_iff_getElem] at QB; obtain ⟨K5,hie⟩:=List.getElem?_eq_some_iff.1 hi; obtain ⟨TG,xc⟩:=List.getElem?_eq_some_iff.1 hj
     rcases Nat.lt_or_gt_of_ne Dp with Ax | Ax
     ·refine QB i j (by rw [List.length_map]; exact K5) (by rw [List.length_map]; exact TG) Ax ?_; rw [List.getElem_map,List.getElem_map,hie,xc]; exact P6
     ·refine QB j i (by rw [List.length_map]; exact TG) (by rw [List.length_map]; exact K5) Ax ?_; rw [List.getElem_map,List.getElem_map,hie,xc]; exact P6.symm
   have S:SI A L C'.sz v vo c h.length qs ps 0:=by
    refine ⟨kAL,tL,kL.sz,hHL.own,fun j q bv m hj hqv=>?_,by simpa using hO.own,hO.new,hO.pv⟩; rw [if_neg (Nat.not_lt_zero _)]; obtain ⟨bv',g1,g2,_⟩:=hHL.pv q (List.mem_of_getElem? hj); rw [hqv] at g1; have e1:bv=bv':=by injection g1 with e1; injection e1 with e1; injection e1
    rw [e1]; exact g2
   refine ig I (r:=rt) S ⟨by simp only [Aa,Av,Nat.reduceEqDiff,↓reduceIte,E.e6],by simp only [Aa,Av,Nat.reduceEqDiff,↓reduceIte,E.OQ],by simp only [Aa,Av,Nat.reduceEqDiff,↓reduceIte,E.w5],by simp only [Aa,Av,Nat.reduceEqDiff,↓reduceIte,E.fL]⟩ (by simp only [Aa,Nat.reduceEqDiff,↓reduceIte]) (by simp only [Aa,Nat.reduceEqDiff,↓reduceIte]) (by simp only [Aa,↓reduceIte]) (by simp only [Aa,Av,Nat.reduceEqDiff,↓reduceIte,nM]) fun e5 ds5 W5 vo5 S5 oV E5 g18=>?_; have xg:=iG.trans S5.k
   have qE:Marks W.sz W5 ds5:=by
    obtain ⟨rs,g1,g2,g3⟩:=oV; exact ⟨rs,g1,g2,fun r hr=>⟨(g3 r hr).1,by have:=(g3 r hr).2; have:=iG.sz; omega⟩⟩
   have hl6:ld prog 24 (.pointer (some ⟨W.sz,0,none⟩)) W5=some (.slice a2 h.length ie):=l6 W5 ((qS.trans k9).trans S5.k)
   have Fh:KI W.sz W5 vo5 (ps++(qs.take qs.length).map (dc c h.length)):=by
    have zz:=fS.sz; refine ⟨S5.out,fun b' l' c' e1=>by have:=S5.new b' l' c' e1; omega,fun p hp=>?_⟩
    rcases List.mem_append.1 hp with hp | hp
    ·exact S5.pv p hp
    ·obtain ⟨q,nu,rfl⟩:=List.mem_map.1 hp; rw [List.take_length] at nu; obtain ⟨j,hj⟩:=List.getElem?_of_mem nu; obtain ⟨bv,g1,_,_⟩:=I.sl q nu; have hB:=S5.G1 j q bv _ hj g1; rw [if_pos (List.getElem?_eq_some_iff.1 hj).1] at hB; show DN W5 3 1 q.2 _; rw [g1]; exact DN.some hB (by show (Bz (HG c h.length q.1).AJ).length=_; rw [D7,T5,Nat.mul_one])
   have gj:(ps++(qs.take qs.length).map (dc c h.length)).map (·.1)=ES c h ys:=by
    rw [List.take_length,List.map_append,O2,List.map_map]; unfold ES; rw [←hq,List.map_map]; rfl
   simp only [Md,if_true,eK,Bs,E5.fL,E5.e6,Bg,AA]; have hPf:KJ c l h b=(ES c h ys,Gz h rt,0):=by rw [hP,if_neg (by simp),if_neg (by omega)]
   refine AL (fun hp=>?_) (fun hp=>?_)
   ·have hp:rt>0:=by simpa using hp
    rw [hl6]; simp only [AA,Ac L4,Ap]; rw [wrap64 (by omega) (by omega)]; simp only [RH,Bs]; refine F1 _ ds5 W5 vo5 (rt+(h.length:Int)) 0 _ xg S5.t qE (by simp only [Aa,Av,Nat.reduceEqDiff,↓reduceIte,g18]) (by simp only [Aa,Av,Nat.reduceEqDiff,↓reduceIte]) (by simp only [Aa,Av,Nat.reduceEqDiff,↓reduceIte]) Fh ?_; rw [hPf,gj]; unfold Gz; rw [if_pos hp]
   ·have hp:¬rt>0:=by simpa using hp
    simp only [RH,Bs]; refine F1 _ ds5 W5 vo5 rt 0 _ xg S5.t qE (by simp only [Aa,Av,Nat.reduceEqDiff,↓reduceIte,g18]) (by simp only [Aa,Av,Nat.reduceEqDiff,↓reduceIte,E5.fL]) (by simp only [Aa,Av,Nat.reduceEqDiff,↓reduceIte]) Fh ?_; rw [hPf,gj]; unfold Gz; rw [if_neg hp]
end Go.Ce
namespace Go.Ce
open Go Go.Proofs Go.Proofs.Tryz
theorem dd (c:List Af) (l:List CE) (h:List BR) (b:List UInt8):(∃ e:Int,e≠0∧KJ c l h b=([],0,e))∨∃ ys r,BN c=true∧¬CG c h≥0∧C7 c l b=(ys,r,0)∧h.length+ys.length≤1000∧KJ c l h b=(ES c h ys,Gz h r,0):=by
 unfold KJ
 cases Ae:BN c with
 | false=>exact .inl ⟨210,by decide,by simp⟩
 | true =>
  cases hs:BZ c l with
  | false=>exact .inl ⟨212,by decide,by simp⟩
  | true =>
   rw [if_neg (by simp),if_neg (by simp)]
   by_cases hi:CG c h≥0
   ·exact .inl ⟨211,by decide,by rw [if_pos hi]⟩
   ·rw [if_neg hi]; rcases hr:C7 c l b with ⟨ys,r,e⟩
    by_cases he:e≠0
    ·exact .inl ⟨e,he,by rw [if_pos he]⟩
    ·rw [if_neg he]; have he:e=0:=by simpa using he
     subst he
     by_cases hl:1000<h.length+ys.length
     ·exact .inl ⟨2,by decide,by rw [if_pos hl]⟩
     ·exact .inr ⟨ys,r,rfl,hi,rfl,by omega,by rw [if_neg hl]⟩
theorem ABI {c:List Af} {x:BR} {n:Nat} (Ae:BN c=true) (h:Ar c x n=true) (hn:n≤1000000):iD x:=by
 intro v hv; obtain ⟨i,s,X⟩:=Dl h; obtain ⟨k,hk⟩:=List.getElem?_of_mem hv; rcases LL Ae X hk with q | q <;> omega
theorem nO {B:Nat} {W:CW} {v:Value} {ps:List (BR × Value)} (h:KI B W v ps) (hb:∀ p,p ∈ ps→iD p.1) {k:Nat} (hk:k≤ps.length):∃ v',eF prog 24 v none (some (.int .i64 k)) none W=some v'∧Ay 2 (Fk W) v' ((ps.map (·.1)).take k):=by
 obtain ⟨a,cap,hv,hx⟩:=fQ h hb; rw [List.length_map] at hv; have Hm:=DH ps; have hO:=h.own
 have key:∀ {v:Value} {cs:List Value},DN W 56 2 v cs→cs.length=ps.length*2→∀ a m cap,v=.slice a m cap→cap=ps.length∧Mk W a 56=true:=by
  intro v cs hO Hm a m cap hv
  cases hO with
  | nil =>
   cases hv
   exact ⟨by simp at Hm; omega,rfl⟩
  | some hB hl =>
   cases hv
   refine ⟨by omega,?_⟩; obtain ⟨cc,n,z,ho,_⟩:=hB; unfold Mk; simp only [ho]; rfl
 have UL:=key hO Hm _ _ _ hv; obtain ⟨rfl,Mp⟩:=UL
 refine ⟨.slice (cond (Nat.beq ps.length 0) a (a.map fun a=>⟨a.block,a.off+0*2,none⟩)) k ps.length,?_,?_⟩
 ·rw [hv]
  have Un:bound (some (.int .i64 (k:Int))) ps.length ps.length=some k:=by
   simp only [bound]; rw [show (decide ((0:Int)≤(k:Int)) && decide ((k:Int)≤(ps.length:Int)))=true by simp; omega]; simp
  have jZ:bound none 0 k=some 0:=rfl; have hbm:bound none ps.length ps.length=some ps.length:=rfl; unfold eF; rw [L4]; simp only [Ml,L4,CH,Io,Un,jZ,hbm,Mp]; rw [show Nat.ble k ps.length=true from Nat.ble_eq_true_of_le hk]; rfl
 ·have hl:((ps.map (·.1)).take k).length=k:=by rw [List.length_take,List.length_map]; omega
  refine ⟨_,ps.length,by rw [hl],fun i x hi=>?_⟩; rw [List.getElem?_take] at hi
  split at hi
  ·rename_i hik; obtain ⟨p,rfl,h1⟩:=hx i x hi
   have hz:Nat.beq ps.length 0=false:=by
    cases hq:Nat.beq ps.length 0 with
    | false=>rfl
    | true=>have:=Nat.eq_of_beq_eq_true hq; omega
   rw [hz]; refine ⟨_,rfl,?_⟩; show Fk W p.block (p.off+0*2+i*2) x; rw [show p.off+0*2=p.off by omega]; exact h1
  ·cases hi
theorem fV {W:CW} {v0 v1 v2 v3:Value} {c:List Af} {l:List CE} {h:List BR} {b:List UInt8} (A:jU W v0 v1 v2 c l h) (hb:dG W v3 b):AH prog AT 12 [v0,v1,v2,v3] W m0:=by
 refine ym ?_; rw [yk]; generalize JO:AK prog Tryz.f12 m0=KK
 have H4:∀ (e:Env) W',e 8=.bool true→KK .ret e [] W':=by
  intro e W' h8; rw [←JO,gI,h8]; rfl
 have skip:∀ (e:Env),e 36=.bool true→(Gi none KK) .normal e [] W:=by
  intro e h36; simp only [Gi,Bs,h36,Bm]; refine K9 mz dL ?_; refine Ad ?_; simp only [Lg,KR]; exact H4 _ W rfl
 refine (Zo A.cat).mono fun en W1 ⟨hW,b13,he,ADc⟩=>?_; subst hW; subst he; refine Ad ?_; simp only [Al,AA]
 cases b13 with
 | false=>exact skip _ rfl
 | true =>
  simp only [Bool.not_true,Ao]; refine (Uj A.spc).mono fun en W2 ⟨hW,Rr,he,ADd⟩=>?_; subst hW; subst he; refine Ad ?_; simp only [Al,AA]
  cases Rr with
  | false=>exact skip _ rfl
  | true =>
   simp only [Bool.not_true,Ao]; refine (Zn A.hp A.hlm).mono fun en W3 ⟨hW,b15,he,ADe⟩=>?_; subst hW; subst he; refine Ad ?_; simp only [Al,AA]
   cases b15 with
   | false=>exact skip _ rfl
   | true =>
    simp only [Bool.not_true,Ao]; obtain ⟨mP,AEY,hv3,_,_⟩:=id hb.sl; have hlen:∀ W',AY prog 29 v3 W'=some (.int .i64 b.length):=fun W'=>by rw [hv3]; exact Ac PR _ _ _ _
    rw [hlen]; simp only [AA,Bg]
    by_cases h3:(b.length:Int)>3000
    ·exact skip _ (by show Value.bool (decide _)=_; rw [decide_eq_true h3])
    obtain ⟨c1,c2⟩:=ADc rfl; obtain ⟨l1,l2⟩:=ADd rfl; obtain ⟨t1,t2,t3⟩:=ADe rfl; have hC:=wT c1 c2; have Xm:∀ s,s ∈ l→s.map.length<100000:=fun s hs=>by have:=l2 s hs; omega
    rw [decide_eq_false h3]; simp only [Gi,Bs]; simp only [Aa,↓reduceIte,Ao]; simp only [Lg,Bs]; simp only [Aa,Av,xM,Nat.reduceEqDiff,↓reduceIte,xN,zM,oy]; refine (ik A.top A.cat hC A.spc (by omega) Xm A.hp (fun x hx=>by have:=t3 x hx; omega) (by omega) hb).mono fun en W4 ⟨k4,t4,v,ps,he,hO,O2⟩=>?_; subst he; refine Ad ?_; refine A3 (dM _ _ _) ?_; refine A3 (dN _ _ _) ?_; refine A3 (dO _ _ _) ?_; have Hm:=DH ps; have lv:∀ W',AY prog 24 v W'=some (.int .i64 ps.length):=fun W'=>LI (m:=ps.length) L4 hO.own (by omega) Hm
    rcases dd c l h b with ⟨x,hx,hr⟩ | ⟨ys,r,Ae,hi,Iu,hl,hr⟩
    ·rw [hr] at O2 ⊢; have hp0:ps=[]:=List.map_eq_nil_iff.1 O2; subst hp0; simp only [B_,AA,show (x != 0)=true by simpa using hx,Bm]; refine K9 mz dL ?_; refine Ad ?_; simp only [Bm,lv,AA,Bf,List.length_nil,Int.ofNat_zero,beq_self_eq_true,Nn,Nm,Bs,KR]; exact H4 _ W4 rfl
    ·rw [hr] at O2 ⊢; have O2:ps.map (·.1)=ES c h ys:=O2; have hz0:((0:Int) != 0)=false:=rfl; obtain ⟨LS,IB⟩:=Hz hi; obtain ⟨Z3,hyl,e_,H6⟩:=fR (c:=c) (l:=l) (b:=b) (by rw [Iu]); rw [Iu] at Z3 hyl e_ H6; simp only at Z3 hyl e_ H6; have w6:=fN Ae IB Z3; have hXl:=T3 c h ys; have ABJ:∀ p,p ∈ ps→iD p.1:=fun p hp=>ABI Ae (w6 _ (by rw [←O2]; exact List.mem_map_of_mem hp)) (by omega); have hX:Ay 2 (Fk W4) v (ES c h ys):=by rw [←O2]; exact fQ hO ABJ
     have Z7:ps.length=h.length+ys.length:=by rw [←hXl,←O2,List.length_map]
     simp only [B_,AA,hz0,Ao]; simp only [Nm,Bs]; simp only [Aa,Av,xM,Nat.reduceEqDiff,↓reduceIte,xN,zM,oy]; refine (Vd t4 (A.cat.imp fun _ _ _ hr=>hr.kp A.top k4) hC (A.spc.imp fun _ _ _ hr=>hr.kp A.top k4) (by omega) Xm (hb.kp A.top k4)).mono fun en W5 ⟨k5,t5,w,qs,he,hH,hq,Un⟩=>?_; subst he; rw [Iu] at hq ⊢; have hq:qs.map (·.1)=ys:=hq; have hY:Ay 2 (Fk W5) w ys:=by rw [←hq]; exact mj hH Un
     have k45:=k4.trans k5; refine Ad ?_; refine A3 (dM _ _ _) ?_; refine A3 (dN _ _ _) ?_; refine A3 (dO _ _ _) ?_; obtain ⟨v',ADf,F7⟩:=nO (k:=h.length) (⟨hO.own.kp t4 k5,hO.new,fun p hp=>(hO.pv p hp).kp t4 k5⟩:KI _ W5 v ps) ABJ (by omega); rw [O2,show (ES c h ys).take h.length=h from by unfold ES; exact List.take_left' rfl] at F7; have hh5:Ay 2 (Fk W5) v2 h:=A.hp.imp fun _ _ _ hr=>hr.kp A.top k45; simp only [B_,AA,hz0,Ao,lv]; rw [LV L4 hh5]; simp only [AA]; rw [LV L4 hY]; simp only [AA,Ap]; rw [wrap64 (by omega) (by omega)]; simp only [B_,AA]; rw [show ((ps.length:Int) != (h.length:Int)+(ys.length:Int))=false by simp; omega]; simp only [Ao,ADf,AA]; refine (Z0 F7 hh5 (by omega) (fun x hx=>by have:=t3 x hx; omega)).mono fun en W6 ⟨he,hW⟩=>?_; subst he; subst hW; refine Ad ?_; simp only [Al,AA,Bool.not_true]; simp only [Nl,Bs]; simp only [Aa,↓reduceIte,Ao]; simp only [RG,Bs]; simp only [Aa,Av,xM,Nat.reduceEqDiff,↓reduceIte,xN,oy]; have hX5:Ay 2 (Fk W6) v (ES c h ys):=hX.imp fun _ _ _ hr=>hr.kp t4 k5
     have hXv:∀ x,x ∈ ES c h ys→x.AJ.length<100000:=fun x hx=>by
      obtain ⟨i,s,T⟩:=Dl (w6 x hx); have:=Ls hC T.many; omega
     have hYv:∀ x,x ∈ ys→x.AJ.length<100000:=fun x hx=>by
      obtain ⟨i,s,T⟩:=Dl (Z3 x hx); have:=Ls hC T.many; omega
     have hXn:=T4 (by omega) w6; have hYn:=T4 hyl Z3
     have hRr:0≤Gz h r∧Gz h r≤(ES c h ys).length:=by
      unfold Gz; split <;> omega
     have hE:Gd c (ES c h ys) (Gz h r) ys r=0:=by
      have r1:C9 c (ES c h ys) (Gz h r)=0:=by unfold C9; rw [if_pos Ae,if_neg (by omega),if_neg (by omega)]
      have r2:C9 c ys r=0:=by unfold C9; rw [if_pos Ae,if_neg (by omega),if_neg (by omega)]
      unfold Gd; rw [if_neg (by simpa using r1),r2]
     refine (dU t5 (A.cat.imp fun _ _ _ hr=>hr.kp A.top k45) hC hX5 hY hXv hYv (by omega) (by omega)).mono fun en W7 ⟨k7,t7,q,he,_,hq9⟩=>?_; rw [hE] at he hq9; subst he; have hq9:q=true:=(hq9 rfl).2 (dZ Ae IB Z3 e_ H6); subst hq9; refine Ad ?_; refine A3 (CA _ _) ?_; refine A3 (CB _ _) ?_; refine (dW t7 (A.cat.imp fun _ _ _ hr=>hr.kp A.top (k45.trans k7)) hC (hX5.imp fun _ _ _ hr=>hr.kp t5 k7) hXv (by omega)).mono fun en W8 ⟨he,k8,t8⟩=>?_; rw [if_pos Ae,if_neg (by omega)] at he; subst he; refine Ad ?_; refine A3 (CA _ _) ?_; refine A3 (CB _ _) ?_; refine K9 mz dL ?_; refine Ad ?_; simp only [Bm,Bf,AA,beq_self_eq_true,Ol,Bs]; exact H4 _ W8 rfl
end Go.Ce
