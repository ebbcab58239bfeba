/- A part of the proof: ShT, Tc, Ue, ShL5, Ff, ShR, Ra, Rb, Rc, Re, Rf, Rg, Rh, Ri, Rj, Rk, Rl, Rm, Rn, Ro, Rp, Sa, Sb, Sc, Sd, Sf, Sg, Si, ShL4, Ed, Qt, ShE, Qu, Qv, Qw, Qx, Se, Sj, Sk, Ta, Td, Te, Tf, Uf, ShU, ShT1, ShL6, Sl, Sm, Sn, So, Tg, Tb, Th, Ti, Ug. -/
import Derived.Test.YtmknebebbbjdlaaGreatW01
import Derived.Test.YtmknebebbbjdlaaGreatW02
import Derived.Test.YtmknebebbbjdlaaGreatW04
import Derived.Test.YtmknebebbbjdlaaGreatProg
set_option linter.unusedSectionVars false
set_option linter.unusedVariables false
set_option linter.unusedSimpArgs false
set_option maxRecDepth 200000
namespace Go.Ce
open Go Go.Proofs Go.Proofs.Tryz
def Yt (ro:Option Nat) (K:AB):AB:=Ag (fun e ds W=>wV (B5 prog 4 (e 10) (.bool true) W) fun W22=>wV (B5 prog 30 (e 11) (.int .i64 0) W22) fun qp=>K .ret e ds qp) K
theorem ACY (v0 v1 v2 v3 v4:Value) (K:AB) (W:CW):AJ prog AM none 20 147 (AK prog 20) (Env.args [v0,v1,v2,v3,v4]) [] W K=(CZ (H2 prog 4 W) fun v10 W0=>CZ (H2 prog 30 W0) fun v11 W1=>AD prog AM 49 [v0,v1,v2] W1 (AQ (fun C5 W2=>wV (ext C5 0) fun v30=>wV (ext C5 1) fun Dg=>CZ (H2 prog 78 W2) fun CV W4=>wV (B5 prog 78 CV v30 W4) fun W5=>wV (AH prog .neq 30 true Dg (.int .i64 0)) fun FJ=>wI FJ (wV (B5 prog 4 v10 (.bool false) W5) fun W6=>wV (B5 prog 30 v11 Dg W6) fun W7=>K .ret (Env.of (Env.args [v0,v1,v2,v3,v4]) [(34,Dg),(33,FJ),(32,Dg),(13,Dg),(12,CV),(31,Dg),(30,v30),(25,C5),(29,C5),(28,v2),(27,v1),(26,v0),(11,v11),(10,v10)]) [] W7) (AD prog AM 49 [v0,v3,v4] W5 (AQ (fun H7 W8=>wV (ext H7 0) fun EC=>wV (ext H7 1) fun Df=>CZ (H2 prog 78 W8) fun Bu Rq=>wV (B5 prog 78 Bu EC Rq) fun Du=>wV (AH prog .neq 30 true Df (.int .i64 0)) fun Fq=>wI Fq (wV (B5 prog 4 v10 (.bool false) Du) fun Il=>wV (B5 prog 30 v11 Df Il) fun H5=>K .ret (Env.of (Env.args [v0,v1,v2,v3,v4]) [(44,Df),(43,Fq),(42,Df),(15,Df),(14,Bu),(41,Df),(40,EC),(35,H7),(39,H7),(38,v4),(37,v3),(36,v0),(33,FJ),(32,Dg),(13,Dg),(12,CV),(31,Dg),(30,v30),(25,C5),(29,C5),(28,v2),(27,v1),(26,v0),(11,v11),(10,v10)]) [] H5) (wV (ld prog 78 CV ((Du.new (.cells .nil 1 #[.pointer none] 89)).new (.cells .nil 1 #[.pointer none] 89))) fun GD=>wV (Sh prog 131 [(0,GD),(1,v1)]) fun Fk=>AD prog AM 78 [Fk,v2] ((Du.new (.cells .nil 1 #[.pointer none] 89)).new (.cells .nil 1 #[.pointer none] 89)) (AQ (fun HL M4=>wV (ld prog 78 CV M4) fun F_=>wV (Sh prog 131 [(0,F_),(1,v3)]) fun Hn=>AD prog AM 78 [Hn,v4] M4 (AQ (fun E_ CQ=>true=true∧true=true∧wV (B5 prog 89 (.pointer (some ⟨Du.sz,0,none⟩)) HL CQ) fun LI=>wV (B5 prog 89 (.pointer (some ⟨(Du.new (.cells .nil 1 #[.pointer none] 89)).sz,0,none⟩)) E_ LI) fun Is=>(((True)∧((True)∧((True)∧((ld prog 78 CV M4=some F_)∧ld prog 78 CV ((Du.new (.cells .nil 1 #[.pointer none] 89)).new (.cells .nil 1 #[.pointer none] 89))=some F_))))∧(((True)∧((True)∧((True)∧((True)∧ld prog 78 CV ((Du.new (.cells .nil 1 #[.pointer none] 89)).new (.cells .nil 1 #[.pointer none] 89))=some GD))))∧True))∧(((True)∧((True)∧((H3 (.pointer (some ⟨Du.sz,0,none⟩)) ((Du.new (.cells .nil 1 #[.pointer none] 89)).obj Du.sz) CQ=true)∧((H3 (.pointer (some ⟨Du.sz,0,none⟩)) ((Du.new (.cells .nil 1 #[.pointer none] 89)).obj Du.sz) M4=true)∧H3 (.pointer (some ⟨Du.sz,0,none⟩)) ((Du.new (.cells .nil 1 #[.pointer none] 89)).obj Du.sz) ((Du.new (.cells .nil 1 #[.pointer none] 89)).new (.cells .nil 1 #[.pointer none] 89))=true))))∧(((True)∧((True)∧((H3 (.pointer (some ⟨(Du.new (.cells .nil 1 #[.pointer none] 89)).sz,0,none⟩)) (((Du.new (.cells .nil 1 #[.pointer none] 89)).new (.cells .nil 1 #[.pointer none] 89)).obj (Du.new (.cells .nil 1 #[.pointer none] 89)).sz) CQ=true)∧((H3 (.pointer (some ⟨(Du.new (.cells .nil 1 #[.pointer none] 89)).sz,0,none⟩)) (((Du.new (.cells .nil 1 #[.pointer none] 89)).new (.cells .nil 1 #[.pointer none] 89)).obj (Du.new (.cells .nil 1 #[.pointer none] 89)).sz) M4=true)∧H3 (.pointer (some ⟨(Du.new (.cells .nil 1 #[.pointer none] 89)).sz,0,none⟩)) (((Du.new (.cells .nil 1 #[.pointer none] 89)).new (.cells .nil 1 #[.pointer none] 89)).obj (Du.new (.cells .nil 1 #[.pointer none] 89)).sz) ((Du.new (.cells .nil 1 #[.pointer none] 89)).new (.cells .nil 1 #[.pointer none] 89))=true))))∧True))∧wV (ld prog 89 (.pointer (some ⟨Du.sz,0,none⟩)) Is) fun IH=>wV (HV IH) fun D0=>wV (BD prog 100 D0 0) fun IU=>wV (ld prog 40 IU Is) fun Ju=>wV (A8 prog 40 Ju Is) fun Ko=>wV (ld prog 89 (.pointer (some ⟨(Du.new (.cells .nil 1 #[.pointer none] 89)).sz,0,none⟩)) Is) fun GN=>wV (HV GN) fun Gj=>wV (BD prog 100 Gj 0) fun UH=>wV (ld prog 40 UH Is) fun MR=>wV (A8 prog 40 MR Is) fun Hx=>wV (AH prog .neq 3 false Ko Hx) fun JV=>(A8 prog 40 MR Is=some Hx∧(ld prog 40 UH Is=some MR∧(ld prog 89 (.pointer (some ⟨(Du.new (.cells .nil 1 #[.pointer none] 89)).sz,0,none⟩)) Is=some GN∧(A8 prog 40 Ju Is=some Ko∧(ld prog 40 IU Is=some Ju∧(ld prog 89 (.pointer (some ⟨Du.sz,0,none⟩)) Is=some IH∧True))))))∧True∧wI JV (wV (B5 prog 4 v10 (.bool false) Is) fun Nk=>wV (B5 prog 30 v11 (.int .i64 0) Nk) fun tJ=>K .ret (Env.of (Env.args [v0,v1,v2,v3,v4]) [(65,JV),(64,Hx),(63,MR),(62,UH),(61,Gj),(60,GN),(59,Ko),(58,Ju),(57,IU),(56,D0),(55,IH),(17,(.pointer (some ⟨(Du.new (.cells .nil 1 #[.pointer none] 89)).sz,0,none⟩))),(16,(.pointer (some ⟨Du.sz,0,none⟩))),(54,E_),(53,v4),(52,Hn),(51,v3),(50,F_),(49,HL),(48,v2),(47,Fk),(46,v1),(45,GD),(43,Fq),(42,Df),(15,Df),(14,Bu),(41,Df),(40,EC),(35,H7),(39,H7),(38,v4),(37,v3),(36,v0),(33,FJ),(32,Dg),(13,Dg),(12,CV),(31,Dg),(30,v30),(25,C5),(29,C5),(28,v2),(27,v1),(26,v0),(11,v11),(10,v10)]) [] tJ) (wV (ld prog 89 (.pointer (some ⟨Du.sz,0,none⟩)) Is) fun IV=>wV (HV IV) fun Nm=>wV (BD prog 100 Nm 0) fun Ji=>wV (ld prog 40 Ji Is) fun G8=>wV (A8 prog 40 G8 Is) fun Jj=>Bj prog AM none 20 147 (.loop (AY prog 20 0)) (Env.of (Env.args [v0,v1,v2,v3,v4]) [(71,(.int .i64 0)),(70,Jj),(69,G8),(68,Ji),(67,Nm),(66,IV),(65,JV),(64,Hx),(63,MR),(62,UH),(61,Gj),(60,GN),(59,Ko),(58,Ju),(57,IU),(56,D0),(55,IH),(17,(.pointer (some ⟨(Du.new (.cells .nil 1 #[.pointer none] 89)).sz,0,none⟩))),(16,(.pointer (some ⟨Du.sz,0,none⟩))),(54,E_),(53,v4),(52,Hn),(51,v3),(50,F_),(49,HL),(48,v2),(47,Fk),(46,v1),(45,GD),(43,Fq),(42,Df),(15,Df),(14,Bu),(41,Df),(40,EC),(35,H7),(39,H7),(38,v4),(37,v3),(36,v0),(33,FJ),(32,Dg),(13,Dg),(12,CV),(31,Dg),(30,v30),(25,C5),(29,C5),(28,v2),(27,v1),(26,v0),(11,v11),(10,v10)]) [] Is (Av 0 (Yt none K)))) (fun AA1 MQ=>False))) (fun AFz Nj=>False)))) (fun lN W9=>K (.panic lN) (Env.of (Env.args [v0,v1,v2,v3,v4]) [(38,v4),(37,v3),(36,v0),(33,FJ),(32,Dg),(13,Dg),(12,CV),(31,Dg),(30,v30),(25,C5),(29,C5),(28,v2),(27,v1),(26,v0),(11,v11),(10,v10)]) [] W9)))) (fun PS W3=>K (.panic PS) (Env.of (Env.args [v0,v1,v2,v3,v4]) [(28,v2),(27,v1),(26,v0),(11,v11),(10,v10)]) [] W3))):=by kernel_rfl
def Mm (ro:Option Nat) (K:AB):AB:=Ag (fun e ds W=>wV (AH prog .add 3 true (e 71) (.int .i64 1)) fun YK=>K .normal (Env.of e [(71,YK),(146,YK)]) ds W) K
def Mn (ro:Option Nat) (K:AB):AB:=Ag (fun e ds W=>wV (ld prog 78 (e 12) W) fun Ok=>wV (ld prog 56 (e 20) W) fun EY=>AD prog AM 62 [Ok,EY] W (AQ (fun Bc W28=>Bj prog AM ro 20 147 (.rangeFunc (.tmp 108) #[109,110] (AU prog 20 0) (AV prog 20 0)) (Env.of e [(108,Bc),(107,EY),(106,Ok)]) ds W28 (Av 2 (Av 1 (Mm ro K)))) (fun vH gd=>(Mm ro K) (.panic vH) (Env.of e [(107,EY),(106,Ok)]) ds gd))) (Av 1 (Mm ro K))
def TL (ro:Option Nat) (K:AB):AB:=Ag (fun e ds W=>wI (e 105) (wV (B5 prog 4 (e 10) (.bool false) W) fun SF=>wV (B5 prog 30 (e 11) (.int .i64 0) SF) fun vG=>(Mn ro K) .ret e ds vG) ((Mn ro K) .normal e ds W)) (Mn ro K)
theorem yk (ro:Option Nat) (e:Env) (ds:List Deferred) (K:AB) (W:CW):AJ prog AM ro 20 147 (AY prog 20 0) e ds W K=(wV (AH prog .lss 3 false (e 71) (e 70)) fun JU=>wI JU (wV (Bm prog 40 (e 69) (e 71)) fun MS=>wV (ld prog 3 MS W) fun Jk=>wV (AH prog .sub 3 true Jk (.int .i64 1)) fun KZ=>wV (Bm prog 24 (e 1) KZ) fun IG=>wV (ld prog 56 IG ((W.new (.cells .nil 2 #[.string ⟨#[]⟩,.slice none 0 0] 56)).new (.cells .nil 2 #[.string ⟨#[]⟩,.slice none 0 0] 56))) fun LB=>wV (ld prog 89 (e 17) ((W.new (.cells .nil 2 #[.string ⟨#[]⟩,.slice none 0 0] 56)).new (.cells .nil 2 #[.string ⟨#[]⟩,.slice none 0 0] 56))) fun ZE=>wV (HV ZE) fun cR=>wV (BD prog 100 cR 0) fun JT=>wV (ld prog 40 JT ((W.new (.cells .nil 2 #[.string ⟨#[]⟩,.slice none 0 0] 56)).new (.cells .nil 2 #[.string ⟨#[]⟩,.slice none 0 0] 56))) fun PT=>wV (Bm prog 40 PT (e 71)) fun VS=>wV (ld prog 3 VS ((W.new (.cells .nil 2 #[.string ⟨#[]⟩,.slice none 0 0] 56)).new (.cells .nil 2 #[.string ⟨#[]⟩,.slice none 0 0] 56))) fun Sz=>wV (AH prog .sub 3 true Sz (.int .i64 1)) fun PR=>wV (Bm prog 24 (e 3) PR) fun TB=>wV (ld prog 56 TB ((W.new (.cells .nil 2 #[.string ⟨#[]⟩,.slice none 0 0] 56)).new (.cells .nil 2 #[.string ⟨#[]⟩,.slice none 0 0] 56))) fun Og=>true=true∧true=true∧wV (B5 prog 56 (.pointer (some ⟨W.sz,0,none⟩)) LB ((W.new (.cells .nil 2 #[.string ⟨#[]⟩,.slice none 0 0] 56)).new (.cells .nil 2 #[.string ⟨#[]⟩,.slice none 0 0] 56))) fun cQ=>wV (B5 prog 56 (.pointer (some ⟨(W.new (.cells .nil 2 #[.string ⟨#[]⟩,.slice none 0 0] 56)).sz,0,none⟩)) Og cQ) fun ZD=>(((True)∧((ld prog 56 TB cQ=some Og)∧ld prog 56 TB ((W.new (.cells .nil 2 #[.string ⟨#[]⟩,.slice none 0 0] 56)).new (.cells .nil 2 #[.string ⟨#[]⟩,.slice none 0 0] 56))=some Og))∧(((True)∧((ld prog 3 VS cQ=some Sz)∧ld prog 3 VS ((W.new (.cells .nil 2 #[.string ⟨#[]⟩,.slice none 0 0] 56)).new (.cells .nil 2 #[.string ⟨#[]⟩,.slice none 0 0] 56))=some Sz))∧(((True)∧((ld prog 40 JT cQ=some PT)∧ld prog 40 JT ((W.new (.cells .nil 2 #[.string ⟨#[]⟩,.slice none 0 0] 56)).new (.cells .nil 2 #[.string ⟨#[]⟩,.slice none 0 0] 56))=some PT))∧(((True)∧((ld prog 89 (e 17) cQ=some ZE)∧ld prog 89 (e 17) ((W.new (.cells .nil 2 #[.string ⟨#[]⟩,.slice none 0 0] 56)).new (.cells .nil 2 #[.string ⟨#[]⟩,.slice none 0 0] 56))=some ZE))∧(((True)∧((True)∧ld prog 56 IG ((W.new (.cells .nil 2 #[.string ⟨#[]⟩,.slice none 0 0] 56)).new (.cells .nil 2 #[.string ⟨#[]⟩,.slice none 0 0] 56))=some LB))∧True)))))∧(((True)∧((True)∧H3 (.pointer (some ⟨W.sz,0,none⟩)) ((W.new (.cells .nil 2 #[.string ⟨#[]⟩,.slice none 0 0] 56)).obj W.sz) ((W.new (.cells .nil 2 #[.string ⟨#[]⟩,.slice none 0 0] 56)).new (.cells .nil 2 #[.string ⟨#[]⟩,.slice none 0 0] 56))=true))∧(((True)∧((True)∧H3 (.pointer (some ⟨(W.new (.cells .nil 2 #[.string ⟨#[]⟩,.slice none 0 0] 56)).sz,0,none⟩)) (((W.new (.cells .nil 2 #[.string ⟨#[]⟩,.slice none 0 0] 56)).new (.cells .nil 2 #[.string ⟨#[]⟩,.slice none 0 0] 56)).obj (W.new (.cells .nil 2 #[.string ⟨#[]⟩,.slice none 0 0] 56)).sz) ((W.new (.cells .nil 2 #[.string ⟨#[]⟩,.slice none 0 0] 56)).new (.cells .nil 2 #[.string ⟨#[]⟩,.slice none 0 0] 56))=true))∧True))∧wV (BD prog 56 (.pointer (some ⟨W.sz,0,none⟩)) 0) fun QI=>wV (ld prog 9 QI ZD) fun UJ=>wV (BD prog 56 (.pointer (some ⟨(W.new (.cells .nil 2 #[.string ⟨#[]⟩,.slice none 0 0] 56)).sz,0,none⟩)) 0) fun lQ=>wV (ld prog 9 lQ ZD) fun jZ=>wV (AH prog .neq 9 false UJ jZ) fun X_=>wI X_ ((TL ro K) .normal (Env.of e [(105,(.bool true)),(104,undef),(97,(.bool true)),(103,undef),(97,(.bool true)),(102,undef),(97,(.bool true)),(101,undef),(97,(.bool true)),(100,undef),(97,(.bool true)),(99,undef),(97,(.bool true)),(98,undef),(97,(.bool true)),(97,X_),(96,X_),(95,jZ),(94,lQ),(93,UJ),(92,QI),(21,(.pointer (some ⟨(W.new (.cells .nil 2 #[.string ⟨#[]⟩,.slice none 0 0] 56)).sz,0,none⟩))),(20,(.pointer (some ⟨W.sz,0,none⟩))),(91,Og),(90,TB),(89,PR),(88,Sz),(87,VS),(86,(e 71)),(85,PT),(84,JT),(83,cR),(82,ZE),(81,(e 3)),(80,LB),(79,IG),(78,KZ),(77,Jk),(76,(e 1)),(19,Jk),(18,(e 71)),(75,Jk),(74,MS),(73,(e 71)),(72,JU)]) ds ZD) (wV (BD prog 56 (.pointer (some ⟨W.sz,0,none⟩)) 1) fun Ss=>wV (ld prog 40 Ss ZD) fun UI=>wV (A8 prog 40 UI ZD) fun Dd=>wV (BD prog 56 (.pointer (some ⟨(W.new (.cells .nil 2 #[.string ⟨#[]⟩,.slice none 0 0] 56)).sz,0,none⟩)) 1) fun DC=>wV (ld prog 40 DC ZD) fun M0=>wV (A8 prog 40 M0 ZD) fun LJ=>wV (AH prog .neq 3 false Dd LJ) fun fU=>(TL ro K) .normal (Env.of e [(105,fU),(104,fU),(97,(.bool false)),(103,LJ),(97,(.bool false)),(102,M0),(97,(.bool false)),(101,DC),(97,(.bool false)),(100,Dd),(97,(.bool false)),(99,UI),(97,(.bool false)),(98,Ss),(97,(.bool false)),(97,X_),(96,X_),(95,jZ),(94,lQ),(93,UJ),(92,QI),(21,(.pointer (some ⟨(W.new (.cells .nil 2 #[.string ⟨#[]⟩,.slice none 0 0] 56)).sz,0,none⟩))),(20,(.pointer (some ⟨W.sz,0,none⟩))),(91,Og),(90,TB),(89,PR),(88,Sz),(87,VS),(86,(e 71)),(85,PT),(84,JT),(83,cR),(82,ZE),(81,(e 3)),(80,LB),(79,IG),(78,KZ),(77,Jk),(76,(e 1)),(19,Jk),(18,(e 71)),(75,Jk),(74,MS),(73,(e 71)),(72,JU)]) ds ZD)) (K (.exit 0) (Env.of e [(72,JU)]) ds W)):=by kernel_rfl
theorem yl (ro:Option Nat) (e:Env) (ds:List Deferred) (K:AB) (W:CW):AJ prog AM ro 20 147 (AU prog 20 0) e ds W K=(K .normal (Env.of e [(23,(e 110)),(22,(e 109))]) ds W):=by kernel_rfl
def TM (ro:Option Nat) (K:AB):AB:=Ag (fun e ds W=>wV (ld prog 134 (e 24) W) fun aw=>wV (BD prog 134 (e 24) 0) fun eu=>wV (ld prog 3 eu W) fun Fj=>wV (BD prog 134 (e 24) 0) fun UK=>wV (ld prog 3 UK W) fun ym=>wV (Sh prog 134 [(0,Fj),(1,ym)]) fun ew=>wV (AH prog .neq 134 false aw ew) fun Gh=>wI Gh (wV (B5 prog 4 (e 10) (.bool false) W) fun W36=>wV (B5 prog 30 (e 11) (.int .i64 0) W36) fun xC=>K .ret (Env.of e [(145,Gh),(144,ew),(143,ym),(142,UK),(141,Fj),(140,eu),(139,aw)]) ds xC) (K .normal (Env.of e [(145,Gh),(144,ew),(143,ym),(142,UK),(141,Fj),(140,eu),(139,aw)]) ds W)) (Av 3 K)
theorem yn (ro:Option Nat) (e:Env) (ds:List Deferred) (K:AB) (W:CW):AJ prog AM ro 20 147 (AV prog 20 0) e ds W K=(wV (BD prog 56 (e 20) 1) fun UL=>wV (ld prog 40 UL W) fun QU=>wV (Bm prog 40 QU (e 22)) fun M6=>wV (ld prog 3 M6 W) fun EO=>wV (BD prog 56 (e 21) 1) fun Dc=>wV (ld prog 40 Dc W) fun DO=>wV (Bm prog 40 DO (e 22)) fun Yl=>wV (ld prog 3 Yl W) fun bJ=>wV (Sh prog 134 [(0,EO),(1,bJ)]) fun Kn=>CZ (H2 prog 134 W) fun DI nU=>wV (B5 prog 134 DI Kn nU) fun SH=>(((True)∧((ld prog 3 Yl nU=some bJ)∧ld prog 3 Yl W=some bJ))∧(((True)∧((ld prog 40 Dc nU=some DO)∧ld prog 40 Dc W=some DO))∧(((True)∧((ld prog 3 M6 nU=some EO)∧ld prog 3 M6 W=some EO))∧(((True)∧((ld prog 40 UL nU=some QU)∧ld prog 40 UL W=some QU))∧True))))∧True∧wV (AH prog .eql 5 true (e 23) (.int .u8 2)) fun OY=>wI OY (wV (ld prog 89 (e 16) SH) fun Ek=>wV (HV Ek) fun ED=>wV (BD prog 100 ED 1) fun DV=>wV (ld prog 98 DV SH) fun No=>wV (BD prog 134 DI 0) fun jS=>wV (ld prog 3 jS SH) fun OZ=>wV (HW prog 98 No OZ false SH) fun yo=>wV (ld prog 89 (e 17) SH) fun E9=>wV (HV E9) fun Hm=>wV (BD prog 100 Hm 1) fun Gv=>wV (ld prog 98 Gv SH) fun HJ=>wV (BD prog 134 DI 1) fun yp=>wV (ld prog 3 yp SH) fun aj=>wV (HW prog 98 HJ aj false SH) fun GC=>wV (Sh prog 134 [(0,yo),(1,GC)]) fun ja=>wV (B5 prog 134 DI ja SH) fun W39=>(((True)∧HW prog 98 HJ aj false SH=some GC)∧(((True)∧ld prog 3 yp SH=some aj)∧(((True)∧ld prog 98 Gv SH=some HJ)∧(((True)∧ld prog 89 (e 17) SH=some E9)∧(((True)∧HW prog 98 No OZ false SH=some yo)∧(((True)∧ld prog 3 jS SH=some OZ)∧(((True)∧ld prog 98 DV SH=some No)∧(((True)∧ld prog 89 (e 16) SH=some Ek)∧True))))))))∧True∧(TM ro K) .normal (Env.of e [(138,ja),(137,GC),(136,aj),(135,yp),(134,HJ),(133,Gv),(132,Hm),(131,E9),(130,yo),(129,OZ),(128,jS),(127,No),(126,DV),(125,ED),(124,Ek),(123,OY),(122,(e 23)),(24,DI),(121,Kn),(120,bJ),(119,Yl),(118,(e 22)),(117,DO),(116,Dc),(115,EO),(114,M6),(113,(e 22)),(112,QU),(111,UL)]) ds W39) ((TM ro K) .normal (Env.of e [(123,OY),(122,(e 23)),(24,DI),(121,Kn),(120,bJ),(119,Yl),(118,(e 22)),(117,DO),(116,Dc),(115,EO),(114,M6),(113,(e 22)),(112,QU),(111,UL)]) ds SH)):=by kernel_rfl
theorem ACZ {Q:Ending→CW→Prop} {v0 v1 v2 v3 v4:Value} {W:CW} (h:AJ prog AM none 20 147 (AK prog 20) (Env.args [v0,v1,v2,v3,v4]) [] W (AI prog Tryz.f20 Q)):AD prog AM 20 [v0,v1,v2,v3,v4] W Q:=AX Tryz.func20 (by kernel_rfl) (by kernel_rfl) (by kernel_rfl) (by kernel_rfl) (by kernel_rfl) h
theorem ACa (v0 v1:Value) (K:AB) (W:CW):AJ prog AM none 78 8 (AK prog 78) (Env.args [v0,v1]) [] W K=(CZ (SZ prog 131 v0 W) fun v2 W0=>wV (some (.func (.func 111) #[] #[v2])) fun v6=>AD prog AM 50 [v1,v6] W0 (AQ (fun v7 W1=>K .ret (Env.of (Env.args [v0,v1]) [(4,v7),(7,v7),(6,v6),(5,v1),(4,(.pointer none)),(2,v2)]) [] W1) (fun dw W2=>K (.panic dw) (Env.of (Env.args [v0,v1]) [(6,v6),(5,v1),(4,(.pointer none)),(2,v2)]) [] W2))):=by kernel_rfl
theorem j_ (Q:Ending→CW→Prop) (e:Env) (W:CW):AI prog Tryz.f78 Q .ret e [] W=Q (.returned (e 4)) W:=by kernel_rfl
theorem ACb {Q:Ending→CW→Prop} {v0 v1:Value} {W:CW} (h:AJ prog AM none 78 8 (AK prog 78) (Env.args [v0,v1]) [] W (AI prog Tryz.f78 Q)):AD prog AM 78 [v0,v1] W Q:=AX Tryz.func78 (by kernel_rfl) (by kernel_rfl) (by kernel_rfl) (by kernel_rfl) (by kernel_rfl) h
theorem yq (v0 v1:Value) (K:AB) (W:CW):AJ prog AM none 111 13 (AK prog 111) (Env.args [v0,v1]) [] W K=(wV (BD prog 131 v1 0) fun v4=>wV (ld prog 78 v4 W) fun v5=>wV (BD prog 131 v1 1) fun v6=>wV (ld prog 24 v6 W) fun v7=>wV (AH prog .sub 3 true v0 (.int .i64 1)) fun v9=>wV (Bm prog 24 v7 v9) fun v10=>wV (ld prog 56 v10 W) fun v11=>AD prog AM 52 [v5,v11] W (AQ (fun CV W0=>(((True)∧ld prog 56 v10 W=some v11)∧(((True)∧ld prog 24 v6 W=some v7)∧(((True)∧ld prog 78 v4 W=some v5)∧True)))∧True∧K .ret (Env.of (Env.args [v0,v1]) [(3,CV),(12,CV),(11,v11),(10,v10),(9,v9),(8,v0),(7,v7),(6,v6),(5,v5),(4,v4),(3,(.slice none 0 0))]) [] W0) (fun Jh W1=>False))):=by kernel_rfl
theorem fe (Q:Ending→CW→Prop) (e:Env) (W:CW):AI prog Tryz.f111 Q .ret e [] W=Q (.returned (e 3)) W:=by kernel_rfl
theorem yr {Q:Ending→CW→Prop} {v0 v1:Value} {W:CW} (h:AJ prog AM none 111 13 (AK prog 111) (Env.args [v0,v1]) [] W (AI prog Tryz.f111 Q)):AD prog AM 111 [v0,v1] W Q:=AX Tryz.func111 (by kernel_rfl) (by kernel_rfl) (by kernel_rfl) (by kernel_rfl) (by kernel_rfl) h
end Go.Ce
namespace Go.Ce
open Go Go.Proofs Go.Proofs.Tryz
theorem AEl:Db prog 131=some 3:=by kernel_rfl
theorem og (a:Addr):BD prog 131 (.pointer (some a)) 0=some (.pointer (some ⟨a.block,a.off,none⟩)):=by kernel_rfl
theorem oh (a:Addr):BD prog 131 (.pointer (some a)) 1=some (.pointer (some ⟨a.block,a.off+2,none⟩)):=by kernel_rfl
theorem bV {P:Program} {fn:Func} {Q:Ending→CW→Prop} {e:Env} {W:CW} {s s':Tmp} {ty ty':TypeId} {p p':Addr} {v v':Value} (hr:fn.results.toList=[.cell s ty,.cell s' ty']) (he:e s=.pointer (some p)) (lI:e s'=.pointer (some p')) (hv:ld P ty (.pointer (some p)) W=some v) (G4:ld P ty' (.pointer (some p')) W=some v') (hq:Q (.returned (.tuple #[v,v'])) W):AI P fn Q .ret e [] W:=by
 have hv:Jm P ty p W=some v:=hv; have G4:Jm P ty' p' W=some v':=G4; simp only [AI,EW,hr,LA,m5,he,lI,hv,G4]; exact hq
theorem fg {A:CW} (hA:Aq A) {v1:Value} {h:List BN} (hh:A3 2 (Gx A) v1 h) {i:Nat} {x:BN} (hx:h[i]?=some x):∃ a vx,Bm prog 24 v1 (.int .i64 i)=some (.pointer (some a))∧(∀ W,Kp A W→ld prog 56 (.pointer (some a)) W=some (.agg #[.string x.type,vx]))∧A3 1 (DW A) vx x.AL:=by
 obtain ⟨ah,ch,rfl,oF⟩:=id hh; obtain ⟨p,rfl,hp⟩:=oF i _ hx; obtain ⟨v,h1,h2⟩:=hp.AL; refine ⟨_,v,BM WC Ma (List.getElem?_eq_some_iff.1 hx).1,fun W k=>?_,h2⟩; refine Ba (vs:=[.string x.type,v]) (a:=⟨p.block,p.off+i*2,none⟩) jU Ma rfl (by omega) fun j w hj=>?_
 match j,hj with
 | 0,hj=>cases hj; exact k.cell hA hp.type
 | 1,hj=>cases hj; exact k.cell hA h1
theorem om {A:CW} (hA:Aq A) {vx:Value} {l:List Int} (hh:A3 1 (DW A) vx l) {i:Nat} {x:Int} (hx:l[i]?=some x):∃ a,Bm prog 40 vx (.int .i64 i)=some (.pointer (some a))∧∀ W,Kp A W→ld prog 3 (.pointer (some a)) W=some (.int .i64 x):=by
 obtain ⟨ah,ch,rfl,oF⟩:=id hh; obtain ⟨p,rfl,hp⟩:=oF i _ hx; exact ⟨_,BM Hq s3 (List.getElem?_eq_some_iff.1 hx).1,fun W k=>AF a3 (a:=⟨p.block,p.off+i*1,none⟩) (k.cell hA hp.1)⟩
theorem fh {A:CW} (hA:Aq A) {vx:Value} {l:List Int} (hh:C8 A 3 1 vx (B8 l)) {i:Nat} {x:Int} (hx:l[i]?=some x):∃ a,Bm prog 40 vx (.int .i64 i)=some (.pointer (some a))∧∀ W,Kp A W→ld prog 3 (.pointer (some a)) W=some (.int .i64 x):=by
 obtain ⟨ah,ch,rfl,oF⟩:=Hs (f:=fun k:Int=>Value.int .i64 k) hh; obtain ⟨p,rfl,hp⟩:=oF i _ hx; exact ⟨_,BM Hq s3 (List.getElem?_eq_some_iff.1 hx).1,fun W k=>AF a3 (a:=⟨p.block,p.off+i*1,none⟩) (k.cell hA hp)⟩
theorem O_ {c:List Aj}:BI c []=true:=rfl
theorem oo {c:List Aj} {h:List BN} (Ai:BV c=true) (HQ:∀ x,x ∈ h→A4 c x h.length=true) (n:Int):∀ r,r ∈ CR c [] h n→0≤r∧r≤h.length:=Ml Ai O_ HQ
theorem Mo {c:List Aj} {r1 r2:Nat} {h:List BN} {root:Int} {v1:Value} {W:CW} (ht:Aq W) (GG:D_ W r1 r2 c) (Ai:BV c=true) (hC:SG c) (hh:A3 2 (Gx W) v1 h) (HQ:∀ x,x ∈ h→A4 c x h.length=true) (pe:h.length<100000) (sE:0≤root) (PO:root≤h.length) :
  AD prog AM 78 [.agg #[.map (some r1),.map (some r2),v1],.int .i64 root] W (bO (Ad c [] h root) h.length W):=by
 refine ACb ?_; rw [ACa]; obtain ⟨a,cap,rfl,_⟩:=id hh; refine GA AEl ht fun W0 k0 t0 z0 hB=>?_; have hB:BF W0 W.sz 131 [.map (some r1),.map (some r2),.slice a h.length cap]:=hB; simp only [AA]
 refine (XE (refs:=CR c [] h) (N:=h.length) t0 sE PO pe (fun n _ _=>oo Ai HQ n) (fun n=>bP hC O_ HQ n) (fun n W' k' t' RT Vb K KP hk=>?_)).mono fun en W1 ⟨k1,t1,bw,rp,vo,FG,hw,h1,h2,h3,hF⟩=>?_
 ·refine H8 Tryz.func111 (by kernel_rfl) ?_
  have key:AD prog AM 111 [.int .i64 n,.pointer (some ⟨W.sz,0,none⟩)] W' (fun en W2=>Kp W' W2∧Aq W2∧∃ vr,en=.returned vr∧C8 W2 3 1 vr (B8 (CR c [] h n))∧B9 W'.sz vr):=by
   refine yr ?_; rw [yq]; have oB:=hB.ext t0 k'
   have l78:ld prog 78 (.pointer (some ⟨W.sz,0,none⟩)) W'=some (.agg [.map (some r1),.map (some r2)].toArray):=Ba (vs:=[.map (some r1),.map (some r2)]) (a:=⟨W.sz,0,none⟩) iB NS rfl (by omega) fun j w hj=>by
    match j,hj with
    | 0,hj=>cases hj; exact oB.cell rfl
    | 1,hj=>cases hj; exact oB.cell rfl
   have ju:∀ W2,Kp W' W2→ld prog 24 (.pointer (some ⟨W.sz,0+2,none⟩)) W2=some (.slice a h.length cap):=fun W2 k2=>AF yA (a:=⟨W.sz,0+2,none⟩) (k2.cell t' (oB.cell rfl))
   have AEm:∀ W2,Kp W' W2→ld prog 78 (.pointer (some ⟨W.sz,0,none⟩)) W2=some (.agg [.map (some r1),.map (some r2)].toArray):=fun W2 k2=>Ba (vs:=[.map (some r1),.map (some r2)]) (a:=⟨W.sz,0,none⟩) iB NS rfl (by omega) fun j w hj=>by
    match j,hj with
    | 0,hj=>cases hj; exact k2.cell t' (oB.cell rfl)
    | 1,hj=>cases hj; exact k2.cell t' (oB.cell rfl)
   obtain ⟨i,hi⟩:∃ i:Nat,n=((i+1:Nat):Int):=⟨(n-1).toNat,by omega⟩
   subst hi; have Ge:i<h.length:=by omega
   have hx:=List.getElem?_eq_getElem Ge; have k0W:=k0.trans k'; obtain ⟨ad,vx,a1,a2,ye⟩:=fg t' (hh.imp fun _ _ _ hr=>hr.kp ht k0W) hx; have Rv:=HQ _ (List.getElem_mem Ge); generalize h[i]=x at hx a2 ye Rv; simp only [og,oh,AA,l78,ju W' (.refl _),Ak]; rw [show ((i+1:Nat):Int)-1=(i:Nat) by omega,wrap64 (by omega) (by omega),a1]; simp only [AA,a2 W' (.refl _)]; obtain ⟨iy,sy,Y⟩:=Bt Rv
   have lT:CR c [] h ((i+1:Nat):Int)=refsOf c x:=by
    unfold CR; rw [show (((i+1:Nat):Int)-1).toNat=i by omega,hx]; rfl
   have AEQ:=Mg hC Y.many; refine (iG t' (GG.kp ht k0W) Y.ti (fun he=>by rw [Fl Y.si he Y.many]; exact Nat.le_refl _) ye (by omega)).mono fun en W2 ⟨k2,t2,vr,FG,dd,sF⟩=>?_; subst FG; refine Ab ?_; refine ⟨by simp only [a2 W2 k2,ju W2 k2,AEm W2 k2,and_self],trivial,?_⟩; rw [fe]; exact ⟨k2,t2,vr,rfl,by rw [lT]; exact dd,sF⟩
  refine key.mono fun en W2 ⟨k2,t2,vr,FG,dd,sF⟩=>?_; subst FG; exact hk vr W2 k2 t2 dd sF
 ·subst FG; refine Ab ?_; rw [j_]; have hz:=k0.sz; exact ⟨k0.trans k1,t1,bw,rp,vo,rfl,hw,by omega,by omega,fun b l c e=>by have:=h3 b l c e; omega,hF⟩
end Go.Ce
namespace Go.Ce
open Go Go.Proofs Go.Proofs.Tryz
structure QE (e:Env) (b n:Nat) (a hi K5:Int) (wb wp:Bool):Prop where
 e0:e 0=.slice (some ⟨b,0,none⟩) n n
 e1:e 1=.int .i64 a
 e2:e 2=.int .i64 hi
 e3:e 3=.int .i64 K5
 e8:e 8=.bool wb
 e9:e 9=.bool wp
def QJ (W:CW) (b n m:Nat) (k:Nat) (e:Env) (ds:List Deferred) (W':CW):Prop:=ds=[]∧SD W W' b n∧∃ a hi K5 wb wp,QE e b n a hi K5 wb wp∧0≤a∧a≤hi∧hi≤n∧hi-a≤m∧(hi-a).toNat=k
theorem kB {b n:Nat} (hn:n<50):∀ (m:Nat) {W:CW} {a hi K5:Int},Aq W→DA W b n→0≤a→a≤hi→hi≤n→hi-a≤m→AD prog AM 128 [.slice (some ⟨b,0,none⟩) n n,.int .i64 a,.int .i64 hi,.int .i64 K5] W (lY b n W):=by
 intro m
 induction m using Nat.strongRecOn with
 | ind m ih =>
 intro W a0 T4 AEo ht hd dg AEp AEq gF; refine nC ?_; rw [nA]; generalize LM:AI prog Tryz.f128 (lY b n W)=KK
 have Gz:∀ (x:Exit) (hx:x=.normal∨x=.ret) (e:Env) W',SD W W' b n→KK x e [] W':=by
  intro x hx e W' S; rw [←LM]; exact EA (by kernel_rfl) _ _ hx _ _ ⟨rfl,S⟩
 refine Dh (QJ W b n m) (T4-a0).toNat ⟨rfl,.start ht hd,a0,T4,AEo,true,true,⟨rfl,rfl,rfl,rfl,rfl,rfl⟩,dg,AEp,AEq,gF,rfl⟩ ?_; rintro k e ds W1 ⟨rfl,S,a,hi,K5,wb,wp,E,ha,hah,PN,hm,hk⟩; rw [gg,E.e0,E.e1,E.e2,E.e3,E.e8]; simp only [Ak,AA]; rw [wrap64 (by omega) (by omega)]; simp only [Ds,AA]
 refine MB (fun oq=>?_) (fun oq=>?_)
 ·refine (SM S.top S.da (by omega) ha PN hah).mono fun en W2 ⟨he,S2⟩=>?_; subst he; refine Ab ?_; simp only [PV,zt]; exact Gz _ (.inr rfl) _ _ (S.trans S2)
 simp only [CD,AA]
 refine AN (fun _=>?_) (fun _=>?_)
 ·refine (fa S.top S.da (by omega) ha PN (by omega)).mono fun en W2 ⟨he,S2⟩=>?_; subst he; refine Ab ?_; simp only [PV,zt]; exact Gz _ (.inr rfl) _ _ (S.trans S2)
 have ZH:∀ (e2:Env) W2 K5 wb wp p,SD W W2 b n→QE e2 b n a hi K5 wb wp→e2 10=.int .i64 (hi-a)→e2 11=.int .i64 p→a≤p→p<hi→(IW none (FA (QJ W b n m) k (Av 0 KK))) .normal e2 [] W2:=by
  intro e2 W2 K5 wb wp p S2 E2 Nz V8 VW SK; simp only [IW,Bi,bKp,Wg,tKp,E2.e0,E2.e1,E2.e2,E2.e3,Nz,V8]; refine (SN S2.top S2.da (by omega) ha PN (by omega) VW SK).mono fun en W3 ⟨S3,ot,q,he,Va,B3⟩=>?_; subst he; refine Ab ?_; refine BG (Bd _ _) ?_; refine BG (Be _ _) ?_; simp only [Ak,AA]; rw [wrap64 (x:=ot-a) (by omega) (by omega),wrap64 (x:=hi-ot) (by omega) (by omega),oS (by omega) (by omega) (by omega)]; simp only [Ax,DL,AA]; have S23:=S2.trans S3
  refine AN (fun _=>?_) (fun _=>?_)
  ·refine (ih (ot-a).toNat (by omega) S3.top S3.da ha Va (by omega) (by omega)).mono fun en W4 ⟨he,S4⟩=>?_; subst he; refine Ab ?_; simp only [Ae,AA]; rw [wrap64 (by omega) (by omega)]; exact ⟨(hi-(ot+1)).toNat,by omega,rfl,S23.trans S4,ot+1,hi,K5,_,q,⟨by simp only [AW,Aa,Nat.reduceEqDiff,↓reduceIte,E2.e0],by simp only [AW,↓reduceIte],by simp only [AW,Aa,Nat.reduceEqDiff,↓reduceIte,E2.e2],by simp only [AW,Aa,Nat.reduceEqDiff,↓reduceIte,E2.e3],(by simp only [AW,Nat.reduceEqDiff,↓reduceIte]; rfl),by simp only [AW,Nat.reduceEqDiff,↓reduceIte]⟩,by omega,by omega,by omega,by omega,rfl⟩
  ·simp only [Ae,AA]; rw [wrap64 (by omega) (by omega)]; refine (ih (hi-(ot+1)).toNat (by omega) S3.top S3.da (by omega) (by omega) PN (by omega)).mono fun en W4 ⟨he,S4⟩=>?_; subst he; refine Ab ?_; exact ⟨(ot-a).toNat,by omega,rfl,S23.trans S4,a,ot,K5,_,q,⟨by simp only [AW,Aa,Nat.reduceEqDiff,↓reduceIte,E2.e0],by simp only [AW,Aa,Nat.reduceEqDiff,↓reduceIte,E2.e1],by simp only [AW,↓reduceIte],by simp only [AW,Aa,Nat.reduceEqDiff,↓reduceIte,E2.e3],(by simp only [AW,Nat.reduceEqDiff,↓reduceIte]; rfl),by simp only [AW,Nat.reduceEqDiff,↓reduceIte]⟩,by omega,by omega,by omega,by omega,rfl⟩
 have Yh:∀ (e2:Env) W2 K5 wb wp p q,SD W W2 b n→QE e2 b n a hi K5 wb wp→e2 10=.int .i64 (hi-a)→e2 11=.int .i64 p→e2 87=.bool q→a≤p→p<hi→(Oa none (FA (QJ W b n m) k (Av 0 KK))) .normal e2 [] W2:=by
  intro e2 W2 K5 wb wp p q S2 E2 Nz V8 h87 VW SK; simp only [Oa,Bi,h87]
  refine AN (fun _=>?_) (fun _=>?_)
  ·rw [E2.e0,E2.e1,E2.e2,V8]; refine (bS S2.top S2.da (by omega) ha PN (by omega) VW SK).mono fun en W3 ⟨S3,ot,he,Va,B3⟩=>?_; subst he; refine Ab ?_; simp only [IW,Rr,JB,if_true,Wg]; exact ⟨(hi-ot).toNat,by omega,rfl,S2.trans S3,ot,hi,K5,wb,wp,⟨by simp only [AW,Aa,Nat.reduceEqDiff,↓reduceIte,E2.e0],by simp only [AW,↓reduceIte],by simp only [AW,Aa,Nat.reduceEqDiff,↓reduceIte,E2.e2],by simp only [AW,Aa,Nat.reduceEqDiff,↓reduceIte,E2.e3],by simp only [AW,Aa,Nat.reduceEqDiff,↓reduceIte,E2.e8],by simp only [AW,Aa,Nat.reduceEqDiff,↓reduceIte,E2.e9]⟩,by omega,by omega,by omega,by omega,rfl⟩
  ·exact ZH e2 W2 K5 wb wp p S2 E2 Nz V8 VW SK
 have k18:∀ (e2:Env) W2 K5 wb wp p,SD W W2 b n→QE e2 b n a hi K5 wb wp→e2 10=.int .i64 (hi-a)→e2 11=.int .i64 p→a≤p→p<hi→(HK none (FA (QJ W b n m) k (Av 0 KK))) .normal e2 [] W2:=by
  intro e2 W2 K5 wb wp p S2 E2 Nz V8 VW SK; simp only [HK,Bi,E2.e0,E2.e1,V8,CO,AA]
  refine VA (fun hg=>?_) (fun hl=>?_)
  ·simp only [Ak,AA]; rw [wrap64 (by omega) (by omega)]; obtain ⟨x,hx⟩:=S2.da.ld (i:=a-1) (by omega) (by omega); obtain ⟨y,hy⟩:=S2.da.ld (i:=p) (by omega) (by omega); rw [Bq (by omega) (by omega),Bq (by omega) (by omega)]; simp only [hx,hy,AA]; refine BA (DH x y W2) ?_; simp only [Ar,AA]; refine ⟨by simp only [and_self],trivial,?_⟩; exact Yh _ W2 K5 wb wp p _ S2 ⟨by simp only [AW,Aa,Nat.reduceEqDiff,↓reduceIte,E2.e0],by simp only [AW,Aa,Nat.reduceEqDiff,↓reduceIte,E2.e1],by simp only [AW,Aa,Nat.reduceEqDiff,↓reduceIte,E2.e2],by simp only [AW,Aa,Nat.reduceEqDiff,↓reduceIte,E2.e3],by simp only [AW,Aa,Nat.reduceEqDiff,↓reduceIte,E2.e8],by simp only [AW,Aa,Nat.reduceEqDiff,↓reduceIte,E2.e9]⟩ (by simp only [AW,Aa,Nat.reduceEqDiff,↓reduceIte,Nz]) (by simp only [AW,Aa,Nat.reduceEqDiff,↓reduceIte,V8]) (by simp only [AW,↓reduceIte]; rfl) VW SK
  ·refine ⟨trivial,trivial,?_⟩; exact Yh _ W2 K5 wb wp p false S2 ⟨by simp only [AW,Aa,Nat.reduceEqDiff,↓reduceIte,E2.e0],by simp only [AW,Aa,Nat.reduceEqDiff,↓reduceIte,E2.e1],by simp only [AW,Aa,Nat.reduceEqDiff,↓reduceIte,E2.e2],by simp only [AW,Aa,Nat.reduceEqDiff,↓reduceIte,E2.e3],by simp only [AW,Aa,Nat.reduceEqDiff,↓reduceIte,E2.e8],by simp only [AW,Aa,Nat.reduceEqDiff,↓reduceIte,E2.e9]⟩ (by simp only [AW,Aa,Nat.reduceEqDiff,↓reduceIte,Nz]) (by simp only [AW,Aa,Nat.reduceEqDiff,↓reduceIte,V8]) (by simp only [AW,↓reduceIte]) VW SK
 have k21:∀ (e2:Env) W2 K5 wb wp p q,SD W W2 b n→QE e2 b n a hi K5 wb wp→e2 10=.int .i64 (hi-a)→e2 11=.int .i64 p→e2 68=.bool q→a≤p→p<hi→(Lq none (FA (QJ W b n m) k (Av 0 KK))) .normal e2 [] W2:=by
  intro e2 W2 K5 wb wp p q S2 E2 Nz V8 h68 VW SK; simp only [Lq,Bi,h68]
  refine AN (fun _=>?_) (fun _=>?_)
  ·rw [E2.e0,E2.e1,E2.e2]; refine (V7 S2.top S2.da (by omega) ha PN hah (by omega)).mono fun en W3 ⟨hW,q,he⟩=>?_; subst he; subst hW; refine Ab ?_
   refine AN (fun _=>?_) (fun _=>?_)
   ·simp only [HK,LC,PV,zt]; exact Gz _ (.inr rfl) _ _ S2
   ·exact k18 _ W3 K5 wb wp p S2 ⟨by simp only [AW,Aa,Nat.reduceEqDiff,↓reduceIte,E2.e0],by simp only [AW,Aa,Nat.reduceEqDiff,↓reduceIte,E2.e1],by simp only [AW,Aa,Nat.reduceEqDiff,↓reduceIte,E2.e2],by simp only [AW,Aa,Nat.reduceEqDiff,↓reduceIte,E2.e3],by simp only [AW,Aa,Nat.reduceEqDiff,↓reduceIte,E2.e8],by simp only [AW,Aa,Nat.reduceEqDiff,↓reduceIte,E2.e9]⟩ (by simp only [AW,Aa,Nat.reduceEqDiff,↓reduceIte,Nz]) (by simp only [AW,Aa,Nat.reduceEqDiff,↓reduceIte,V8]) VW SK
  ·exact k18 e2 W2 K5 wb wp p S2 E2 Nz V8 VW SK
 have k22:∀ (e2:Env) W2 K5 wb wp p h,SD W W2 b n→QE e2 b n a hi K5 wb wp→e2 10=.int .i64 (hi-a)→e2 11=.int .i64 p→e2 12=.int .i64 h→a≤p→p<hi→(Lr none (FA (QJ W b n m) k (Av 0 KK))) .normal e2 [] W2:=by
  intro e2 W2 K5 wb wp p h S2 E2 Nz V8 AEr VW SK; simp only [Lr,Bi,E2.e8,E2.e9,AEr,CD,AA]
  refine AN (fun _=>?_) (fun _=>?_)
  ·refine AN (fun _=>?_) (fun _=>?_)
   ·exact k21 _ W2 K5 wb wp p _ S2 ⟨by simp only [AW,Aa,Nat.reduceEqDiff,↓reduceIte,E2.e0],by simp only [AW,Aa,Nat.reduceEqDiff,↓reduceIte,E2.e1],by simp only [AW,Aa,Nat.reduceEqDiff,↓reduceIte,E2.e2],by simp only [AW,Aa,Nat.reduceEqDiff,↓reduceIte,E2.e3],by simp only [AW,Aa,Nat.reduceEqDiff,↓reduceIte,E2.e8],by simp only [AW,Aa,Nat.reduceEqDiff,↓reduceIte,E2.e9]⟩ (by simp only [AW,Aa,Nat.reduceEqDiff,↓reduceIte,Nz]) (by simp only [AW,Aa,Nat.reduceEqDiff,↓reduceIte,V8]) (by simp only [AW,↓reduceIte]; rfl) VW SK
   ·exact k21 _ W2 K5 wb wp p false S2 ⟨by simp only [AW,Aa,Nat.reduceEqDiff,↓reduceIte,E2.e0],by simp only [AW,Aa,Nat.reduceEqDiff,↓reduceIte,E2.e1],by simp only [AW,Aa,Nat.reduceEqDiff,↓reduceIte,E2.e2],by simp only [AW,Aa,Nat.reduceEqDiff,↓reduceIte,E2.e3],by simp only [AW,Aa,Nat.reduceEqDiff,↓reduceIte,E2.e8],by simp only [AW,Aa,Nat.reduceEqDiff,↓reduceIte,E2.e9]⟩ (by simp only [AW,Aa,Nat.reduceEqDiff,↓reduceIte,Nz]) (by simp only [AW,Aa,Nat.reduceEqDiff,↓reduceIte,V8]) (by simp only [AW,↓reduceIte]) VW SK
  ·exact k21 _ W2 K5 wb wp p false S2 ⟨by simp only [AW,Aa,Nat.reduceEqDiff,↓reduceIte,E2.e0],by simp only [AW,Aa,Nat.reduceEqDiff,↓reduceIte,E2.e1],by simp only [AW,Aa,Nat.reduceEqDiff,↓reduceIte,E2.e2],by simp only [AW,Aa,Nat.reduceEqDiff,↓reduceIte,E2.e3],by simp only [AW,Aa,Nat.reduceEqDiff,↓reduceIte,E2.e8],by simp only [AW,Aa,Nat.reduceEqDiff,↓reduceIte,E2.e9]⟩ (by simp only [AW,Aa,Nat.reduceEqDiff,↓reduceIte,Nz]) (by simp only [AW,Aa,Nat.reduceEqDiff,↓reduceIte,V8]) (by simp only [AW,↓reduceIte]) VW SK
 have k25:∀ (e2:Env) W2 K5 wb wp,SD W W2 b n→QE e2 b n a hi K5 wb wp→e2 10=.int .i64 (hi-a)→(Ls none (FA (QJ W b n m) k (Av 0 KK))) .normal e2 [] W2:=by
  intro e2 W2 K5 wb wp S2 E2 Nz; simp only [Ls,Bi,bKp,tKp,E2.e0,E2.e1,E2.e2]; refine (bR S2.top S2.da (by omega) ha PN (by omega) (by omega)).mono fun en W3 ⟨k3,t3,p,h,he,VW,SK⟩=>?_; subst he; have S3:=S2.kp k3 t3; refine Ab ?_; refine BG (Bd _ _) ?_; refine BG (Be _ _) ?_; simp only [CD,AA]
  refine AN (fun _=>?_) (fun _=>?_)
  ·refine (V6 S3.top S3.da (by omega) ha PN hah).mono fun en W4 ⟨he,S4⟩=>?_; subst he; refine Ab ?_; simp only [Ak,AA]; rw [wrap64 (x:=hi-1) (by omega) (by omega),wrap64 (x:=p-a) (by omega) (by omega),wrap64 (x:=hi-1-(p-a)) (by omega) (by omega)]; exact k22 _ W4 K5 wb wp (hi-1-(p-a)) 1 (S3.trans S4) ⟨by simp only [AW,Aa,Nat.reduceEqDiff,↓reduceIte,E2.e0],by simp only [AW,Aa,Nat.reduceEqDiff,↓reduceIte,E2.e1],by simp only [AW,Aa,Nat.reduceEqDiff,↓reduceIte,E2.e2],by simp only [AW,Aa,Nat.reduceEqDiff,↓reduceIte,E2.e3],by simp only [AW,Aa,Nat.reduceEqDiff,↓reduceIte,E2.e8],by simp only [AW,Aa,Nat.reduceEqDiff,↓reduceIte,E2.e9]⟩ (by simp only [AW,Aa,Nat.reduceEqDiff,↓reduceIte,Nz]) (by simp only [AW,Nat.reduceEqDiff,↓reduceIte]) (by simp only [AW,↓reduceIte]) (by omega) (by omega)
  ·exact k22 _ W3 K5 wb wp p h S3 ⟨by simp only [AW,Aa,Nat.reduceEqDiff,↓reduceIte,E2.e0],by simp only [AW,Aa,Nat.reduceEqDiff,↓reduceIte,E2.e1],by simp only [AW,Aa,Nat.reduceEqDiff,↓reduceIte,E2.e2],by simp only [AW,Aa,Nat.reduceEqDiff,↓reduceIte,E2.e3],by simp only [AW,Aa,Nat.reduceEqDiff,↓reduceIte,E2.e8],by simp only [AW,Aa,Nat.reduceEqDiff,↓reduceIte,E2.e9]⟩ (by simp only [AW,Aa,Nat.reduceEqDiff,↓reduceIte,Nz]) (by simp only [AW,Nat.reduceEqDiff,↓reduceIte]) (by simp only [AW,Nat.reduceEqDiff,↓reduceIte]) VW SK
 simp only [Ar,AA]
 refine AN (fun _=>?_) (fun _=>?_)
 ·refine (bU S.top S.da hn ha PN (by omega)).mono fun en W2 ⟨he,S2⟩=>?_; subst he; refine Ab ?_; exact k25 _ W2 _ wb wp (S.trans S2) ⟨by simp only [AW,Aa,Nat.reduceEqDiff,↓reduceIte,E.e0],by simp only [AW,Aa,Nat.reduceEqDiff,↓reduceIte,E.e1],by simp only [AW,Aa,Nat.reduceEqDiff,↓reduceIte,E.e2],by simp only [AW,↓reduceIte]; rfl,by simp only [AW,Aa,Nat.reduceEqDiff,↓reduceIte,E.e8],by simp only [AW,Aa,Nat.reduceEqDiff,↓reduceIte,E.e9]⟩ (by simp only [AW,Nat.reduceEqDiff,↓reduceIte])
 ·exact k25 _ W1 K5 wb wp S ⟨by simp only [AW,Aa,Nat.reduceEqDiff,↓reduceIte,E.e0],by simp only [AW,Aa,Nat.reduceEqDiff,↓reduceIte,E.e1],by simp only [AW,Aa,Nat.reduceEqDiff,↓reduceIte,E.e2],by simp only [AW,Aa,Nat.reduceEqDiff,↓reduceIte,E.e3],by simp only [AW,Aa,Nat.reduceEqDiff,↓reduceIte,E.e8],by simp only [AW,Aa,Nat.reduceEqDiff,↓reduceIte,E.e9]⟩ (by simp only [AW,Nat.reduceEqDiff,↓reduceIte])
end Go.Ce
namespace Go.Ce
open Go Go.Proofs Go.Proofs.Tryz
end Go.Ce
namespace Go.Ce
section
variable (P:Program) (L:List FuncId)
end
section
variable {P:Program} {L:List FuncId} {R:CL} {ops:Array Oper}
end
end Go.Ce
namespace Go.Ce
open Go Go.Proofs Go.Proofs.Tryz
end Go.Ce
namespace Go.Ce
open Go Go.Proofs Go.Proofs.Tryz
theorem ye:agg? prog 3=some false:=by kernel_rfl
structure AEs (A:CW) (vb:Value) (b:List UInt8):Prop where
 top:Aq A
 sl:∃ a cap,vb=.slice a b.length cap∧b.length≤cap∧∀ i x,b[i]?=some x→∃ p,a=some p∧aR A p.block (p.off+i*1) x
 K5:b.length≤100000
def tq (b:List UInt8) (at_ n:Nat):Except Int Nat:=if at_+n≤b.length then .ok (at_+n) else .error 4
def sO (b:List UInt8):Nat→Nat→Nat→Nat→Except Int (Nat × Nat)
 | 0,_,_,_=>.error 4
 | f+1,at_,n,sh=>match b[at_]? with
  | none=>.error 4
  | some x=>if x.toNat<128 then (if 0<x.toNat∨sh=0 then .ok (n+x.toNat*2 ^ sh,at_+1) else .error 4)
   else sO b f (at_+1) (n+(x.toNat % 128)*2 ^ sh) (sh+7)
def VC (b:List UInt8) (at_:Nat) (AEt:Int):Except Int (Nat × Nat):=match sO b 6 at_ 0 0 with
 | .error e=>.error e
 | .ok (n,at')=>if (n:Int)≤AEt then .ok (n,at') else .error 4
end Go.Ce
namespace Go.Ce
open Go Go.Proofs Go.Proofs.Tryz
end Go.Ce
namespace Go.Ce
open Go Go.Proofs Go.Proofs.Tryz
def strOf (l:List UInt8):ByteArray:=⟨l.toArray⟩
def iM (b:List UInt8) (ask:ByteArray→Option Int):Nat→Nat→List ByteArray→Except Int (List ByteArray × Nat)
 | 0,at_,out=>.ok (out,at_)
 | k+1,at_,out=>match VC b at_ 60 with
  | .error e=>.error e
  | .ok (n,a1)=>match tq b a1 n with
   | .error e=>.error e
   | .ok a2=>if GB (strOf ((b.drop a1).take n))=true∧(out.any fun x=>decide (x=strOf ((b.drop a1).take n)))=false then
     (match ask (strOf ((b.drop a1).take n)) with
     | some e=>.error e
     | none=>iM b ask k a2 (out++[strOf ((b.drop a1).take n)]))
    else .error 4
def ou (b:List UInt8) (ask:ByteArray→Option Int) (at_:Nat):Except Int (List ByteArray × Nat):=match VC b at_ 128 with
 | .error e=>.error e
 | .ok (n,a1)=>if n=1 then (match VC b a1 100 with
   | .error e=>.error e
   | .ok (k,a2)=>iM b ask k a2 [])
  else .error 4
end Go.Ce
namespace Go.Ce
open Go Go.Proofs Go.Proofs.Tryz
end Go.Ce
namespace Go.Ce
open Go Go.Proofs Go.Proofs.Tryz
def yt (n:Nat):Int:=if n % 2=1 then -((((n+1) / 2:Nat)):Int) else ((n / 2:Nat):Int)
def XG (b:List UInt8) (c:List Aj) (ix many:Nat):Nat→Nat→Nat→Nat→List Int→Except Int (List Int × Nat × Nat)
 | 0,_,at_,fd,vs=>.ok (vs,fd,at_)
 | m+1,k,at_,fd,vs=>if A5 c ix k=2 then
   (match VC b at_ ((min (fd+1) many:Nat):Int) with
   | .error e=>.error e
   | .ok (n,a)=>XG b c ix many m (k+1) a (max fd n) (vs++[(n:Int)]))
  else
   (match VC b at_ 2000000000 with
   | .error e=>.error e
   | .ok (n,a)=>XG b c ix many m (k+1) a fd (vs++[yt n]))
theorem ACc (a b:Int) (W:CW):blt prog .min [3,3] [.int .i64 a,.int .i64 b] W=some (.int .i64 (min a b),W):=by
 have h:blt prog .min [3,3] [.int .i64 a,.int .i64 b] W=some (.int .i64 (cond (decide (b<a)) b a),W):=rfl; rw [h]
 by_cases hq:b<a
 ·rw [decide_eq_true hq,Int.min_eq_right (by omega)]; rfl
 ·rw [decide_eq_false hq,Int.min_eq_left (by omega)]; rfl
end Go.Ce
namespace Go.Ce
open Go Go.Proofs Go.Proofs.Tryz
def Marks (B:Nat) (W:CW) (ds:List Deferred):Prop:=∃ rs:List Nat,ds=rs.map mark∧rs.Nodup∧∀ r,r ∈ rs→W.obj r=some .deferred∧B≤r
theorem Marks.nil (B:Nat) (W:CW):Marks B W []:=⟨[],rfl,List.nodup_nil,fun r h=>by cases h⟩
theorem R5 {P:Program} {fn:Func} {Q:Ending→CW→Prop} {x:Exit} {e:Env} {B:Nat} {W:CW} (ht:Aq W) {ds:List Deferred} (h:Marks B W ds) (hq:∀ W',(∀ j o,W.obj j=some o→o≠.deferred→W'.obj j=some o)→(∀ j,j<B→W'.obj j=W.obj j)→W'.sz=W.sz→Aq W'→AI P fn Q x e [] W'):AI P fn Q x e ds W:=by
 obtain ⟨rs,rfl,Vn,hr⟩:=h
 suffices key:∀ (rs:List Nat) (W0:CW),Aq W0→rs.Nodup→(∀ r,r ∈ rs→W0.obj r=some .deferred∧B≤r)→(∀ W',(∀ j o,W0.obj j=some o→o≠.deferred→W'.obj j=some o)→(∀ j,j<B→W'.obj j=W0.obj j)→W'.sz=W0.sz→Aq W'→AI P fn Q x e [] W')→AI P fn Q x e (rs.map mark) W0 from key rs W ht Vn hr hq
 intro rs
 induction rs with
 | nil=>intro W0 ht _ _ hq; exact hq W0 (fun j o h _=>h) (fun j _=>rfl) rfl ht
 | cons r rs ih =>
  intro W0 ht Vn hr hq; obtain ⟨PO,lS⟩:=hr r (by simp); obtain ⟨Vb,cy⟩:=List.nodup_cons.1 Vn
  refine G0 PO (ih (W0.Az r .dead) (ht.Az (ht _ _ PO) (Da.of _ _ _)) cy (fun r' h'=>?_) fun W' h1 h2 h3 h4=>hq W' (fun j o hj ho=>?_) (fun j hj=>?_) h3 h4)
  ·obtain ⟨a,b⟩:=hr r' (by simp [h']); exact ⟨by rw [Ft,if_neg (by rintro rfl; exact Vb h')]; exact a,b⟩
  ·refine h1 j o ?_ ho
   rw [Ft,if_neg]
   ·exact hj
   ·rintro rfl; rw [PO] at hj; cases hj; exact ho rfl
  ·rw [h2 j hj,Ft,if_neg (by omega)]
theorem Marks.Gy {B:Nat} {W W':CW} {ds:List Deferred} (h:Marks B W ds) (ho:∀ j,W.obj j=some .deferred→B≤j→W'.obj j=some .deferred):Marks B W' ds:=by
 obtain ⟨rs,h1,h2,h3⟩:=h; exact ⟨rs,h1,h2,fun r hr=>⟨ho r (h3 r hr).1 (h3 r hr).2,(h3 r hr).2⟩⟩
theorem Marks.push {B:Nat} {W:CW} {ds:List Deferred} {r:Nat} (h:Marks B W ds) (hr:W.obj r=some .deferred) (hB:B≤r) (hn:mark r ∉ ds):Marks B W (mark r::ds):=by
 obtain ⟨rs,rfl,h2,h3⟩:=h; refine ⟨r::rs,rfl,List.nodup_cons.2 ⟨fun hm=>hn (List.mem_map.2 ⟨r,hm,rfl⟩),h2⟩,fun r' Ij=>?_⟩
 rcases List.mem_cons.1 Ij with rfl | hm
 ·exact ⟨hr,hB⟩
 ·exact h3 r' hm
def Yu (b:List UInt8) (c:List Aj) (ts:List ByteArray) (many:Nat):Nat→Nat→Nat→Nat→Nat→List BN→Except Int (List BN × Nat × Nat × Nat)
 | 0,_,at_,used,fd,out=>.ok (out,used,fd,at_)
 | m+1,i,at_,used,fd,out=>if i<fd then
   (match VC b at_ (min (used:Int) ((ts.length:Int)-1)) with
   | .error e=>.error e
   | .ok (t,a1)=>match ts[t]? with
    | none=>.error 4
    | some ty=>match BL c ty with
     | none=>.error 4
     | some ix=>match (if elemAt c ix≠0 then VC b a1 200 else .ok ((BH c ix).length,a1)) with
      | .error e=>.error e
      | .ok (n,a2)=>match XG b c ix many n 0 a2 fd [] with
       | .error e=>.error e
       | .ok (vs,Q1,a3)=>Yu b c ts many m (i+1) a3 (if t=used then used+1 else used) Q1 (out++[⟨ty,vs⟩]))
  else .error 4
def Yv (b:List UInt8) (c:List Aj) (ask:ByteArray→Option Int) (at_:Nat):Except Int (List BN × Nat):=match ou b ask at_ with
 | .error e=>.error e
 | .ok (ts,a1)=>match VC b a1 1000 with
  | .error e=>.error e
  | .ok (many,a2)=>match Yu b c ts many many 0 a2 0 (min many 1) [] with
   | .error e=>.error e
   | .ok (out,used,fd,a3)=>if fd=many∧used=ts.length∧a3=b.length then .ok (out,a3) else .error 4
def V9 (p:BN × Value):List Value:=[.string p.1.type,p.2]
end Go.Ce
namespace Go.Ce
open Go Go.Proofs Go.Proofs.Tryz
structure TP where
 A:CW
 L:CW
 rb:Nat
 b3:Nat
 b4:Nat
 b8:Nat
 IC:Nat
 r1:Nat
 r2:Nat
 vb:Value
 vt:Value
 b:List UInt8
 c:List Aj
 ts:List ByteArray
 many:Nat
 G:Except Int (List BN × Nat × Nat × Nat)
structure TIn (p:TP):Prop where
 rd:AEs p.A p.vb p.b
 cat:D_ p.A p.r1 p.r2 p.c
 ok:BV p.c=true
 C:SG p.c
 top:Aq p.L
 kA:Kp p.A p.L
 c3:BF p.L p.b3 124 [.pointer (some ⟨p.rb,0,none⟩)]
 c4:BF p.L p.b4 78 [.map (some p.r1),.map (some p.r2)]
 c8:BF p.L p.b8 3 [.int .i64 p.many]
 vt:C8 p.L 9 1 p.vt (strs p.ts)
 tl:p.ts.length≤100
 known:∀ s,s ∈ p.ts→(BL p.c s).isSome=true
 xr:∃ v,BF p.L p.rb 170 v
 xf:∃ v,BF p.L p.IC 3 v
 hrb:p.A.sz≤p.rb∧p.A.sz≤p.IC
 ne:p.b8≠p.IC
 many:p.many≤1000
section
variable {p:TP} (I:TIn p)
include I
end
end Go.Ce
namespace Go.Ce
open Go Go.Proofs Go.Proofs.Tryz
theorem AEu:(prog.info? 56).map (·.bytes)=some 40:=by kernel_rfl
theorem PA:∀ ps:List (BN × Value),(ps.flatMap V9).length=ps.length*2
 | []=>rfl
 | q::ps=>by
  have ih:=PA ps; simp only [List.flatMap_cons,List.length_append,ih,List.length_cons,V9,List.length_nil]; omega
theorem ov {a b:Nat} (h:mark a=mark b):a=b:=by
 unfold mark at h
 injection h with h1 h2
 injection h1
end Go.Ce
namespace Go.Ce
open Go Go.Proofs Go.Proofs.Tryz
end Go.Ce
namespace Go.Ce
open Go Go.Proofs Go.Proofs.Tryz
end Go.Ce
namespace Go.Ce
open Go Go.Proofs Go.Proofs.Tryz
theorem s30:Db prog 30=some 1:=by kernel_rfl
theorem z30:Gp prog 30=some (.int .i64 0):=by kernel_rfl
end Go.Ce
namespace Go.Ce
open Go Go.Proofs Go.Proofs.Tryz
def PB (l:List Br) (s:ByteArray):Option Br:=l.find? fun x=>decide (x.to=s)
def J8 (mp vs z:List Int):Nat→List Int
 | 0=>z
 | n+1=>(J8 mp vs z n).set ((mp[n]?).getD 0).toNat ((vs[n]?).getD 0)
def CS (c:List Aj) (l:List Br) (x:BN):BN:=match PB l x.type with
 | none=>x
 | some s=>match BL c s.type with
  | none=>x
  | some t=>⟨s.type,J8 s.map x.AL (List.replicate (BH c t).length 0) s.map.length⟩
theorem Mp (mp vs z:List Int):∀ n,(J8 mp vs z n).length=z.length
 | 0=>rfl
 | n+1=>by rw [J8,List.length_set,Mp mp vs z n]
theorem sP {z:List Int} {k:Nat} (hk:k<z.length) (x:Int):putAt (B8 z) (0+k*1) [.int .i64 x]=B8 (z.set k x):=by
 apply List.ext_getElem?; intro j; have hl:(B8 z).length=z.length:=by simp [B8]
 rw [QK (by rw [hl]; simp; omega)]; unfold B8; simp only [List.length_singleton,List.getElem?_map,List.getElem?_set]
 by_cases e:k=j
 ·subst e; rw [if_pos ⟨by omega,by omega⟩,if_pos rfl,if_pos hk]; simp
 ·rw [if_neg (by omega),if_neg e]
end Go.Ce
namespace Go.Ce
open Go Go.Proofs Go.Proofs.Tryz
def Yw (c:List Aj) (l:List Br) (s:ByteArray):Option Int:=if (BL c s).isSome then (if (l.find? fun x=>decide (x.type=s)).isSome then some 214 else none) else some 213
theorem kC {c:List Aj} {l:List Br} {s:ByteArray} (h:Yw c l s=none):(BL c s).isSome=true∧(l.find? fun x=>decide (x.type=s))=none:=by
 unfold Yw at h
 split at h
 ·rename_i h1
  split at h
  ·cases h
  ·rename_i h2; exact ⟨h1,by simpa using h2⟩
 ·cases h
end Go.Ce
namespace Go.Ce
open Go Go.Proofs Go.Proofs.Tryz
def BdT (x:BN):Prop:=∀ v,v ∈ x.AL→-9223372036854775808≤v∧v≤9223372036854775807
theorem bW:∀ (l:List (BN × Value)) (k:Nat),(l.flatMap V9)[k]?=(l[k / 2]?).bind fun q=>(V9 q)[k % 2]?
 | [],k=>by simp
 | q::l,0=>rfl
 | q::l,1=>rfl
 | q::l,k+2=>by
  have h:((q::l).flatMap V9)[k+2]?=(l.flatMap V9)[k]?:=by
   simp only [List.flatMap_cons]; rfl
  rw [h,bW l k,show (k+2) / 2=k / 2+1 by omega,show (k+2) % 2=k % 2 by omega]; rfl
end Go.Ce
namespace Go.Ce
open Go Go.Proofs Go.Proofs.Tryz
def tr (c:List Aj) (l:List Br) (b:List UInt8):List BN × Int × Int :=
 if BV c=false then ([],0,210) else if BI c l=false then ([],0,212) else if 100000<b.length then ([],0,2) else match Yv b c (Yw c l) 0 with
 | .error e=>([],0,e)
 | .ok (xs,_)=>(xs.map (CS c l),min (xs.length:Int) 1,0)
end Go.Ce
namespace Go.Ce
open Go Go.Proofs Go.Proofs.Tryz
def bI (b:List UInt8):List Int:=b.map fun x=>((x.toNat:Nat):Int)
theorem K6 (b:List UInt8):(bI b).length=b.length:=List.length_map _
structure VX (b:List UInt8) (i j:Nat) (e:List Int):Prop where
 le:j≤b.length
 ij:j=i+e.length
 eq:(bI b).drop i=e++(bI b).drop j
theorem VX.split {b:List UInt8} {i k:Nat} {e f:List Int} (h:VX b i k (e++f)):∃ j,VX b i j e∧VX b j k f:=by
 have hl:=h.ij; have hle:=h.le; rw [List.length_append] at hl
 have hd:(bI b).drop (i+e.length)=f++(bI b).drop k:=by
  rw [←List.drop_drop,h.eq,List.append_assoc,List.drop_left]
 exact ⟨i+e.length,⟨by omega,rfl,by rw [h.eq,hd,List.append_assoc]⟩,⟨h.le,by omega,hd⟩⟩
theorem VX.head {b:List UInt8} {i k:Nat} {n:Int} {f:List Int} (h:VX b i k (n::f)):∃ x,b[i]?=some x∧n=((x.toNat:Nat):Int)∧VX b (i+1) k f:=by
 have hl:=h.ij; have hle:=h.le; rw [List.length_cons] at hl; have Ge:i<b.length:=by omega
 have he:=h.eq; unfold bI at he; rw [←List.map_drop,List.drop_eq_getElem_cons Ge,List.map_cons,List.cons_append] at he
 injection he with h1 h2
 refine ⟨b[i],List.getElem?_eq_getElem Ge,h1.symm,⟨hle,by omega,?_⟩⟩; unfold bI; rw [←List.map_drop]; exact h2
theorem TN {n:Nat} (h:n<128):B7 n=[(n:Int)]:=by unfold B7; rw [if_pos h]
theorem sQ {n:Nat} (h:128≤n):B7 n=((n % 128+128:Nat):Int)::B7 (n / 128):=by
 conv=>lhs; unfold B7
 rw [if_neg (by omega)]
theorem iN {b:List UInt8}:∀ {f at_ n sh v j:Nat},0<f→v<128 ^ f→(0<v∨sh=0)→VX b at_ j (B7 v)→sO b f at_ n sh=.ok (n+v*2 ^ sh,j)
 | f+1,at_,n,sh,v,j,_,h,h0,hs=>by
  unfold sO
  by_cases hv:v<128
  ·rw [TN hv] at hs; obtain ⟨x,hx,he,hq⟩:=hs.head; have:v=x.toNat:=by omega
   subst this; rw [hx]; simp only [if_pos hv]; rw [if_pos h0]; have:=hq.ij; rw [List.length_nil] at this; rw [this]
  ·rw [sQ (by omega)] at hs; obtain ⟨x,hx,he,hq⟩:=hs.head; have:v % 128+128=x.toNat:=by omega
   rw [hx]; simp only; rw [if_neg (by omega),iN (Nat.pos_of_ne_zero (by rintro rfl; omega)) (by rw [Nat.pow_succ] at h; omega) (.inl (by omega)) hq,show x.toNat % 128=v % 128 by omega]; congr 2; rw [Nat.pow_add,show (2:Nat) ^ 7=128 from rfl,Nat.mul_comm (2 ^ sh) 128,←Nat.mul_assoc,Nat.add_assoc,←Nat.add_mul]; congr 2; omega
theorem JH {b:List UInt8} {at_:Nat} {m:Int} {n j:Nat} (h:VX b at_ j (B7 n)) (hm:(n:Int)≤m) (hn:n<4398046511104):VC b at_ m=.ok (n,j):=by
 unfold VC; rw [iN (f:=6) (n:=0) (sh:=0) (by omega) (by omega) (.inr rfl) h]; simp only [Nat.zero_add,Nat.pow_zero,Nat.mul_one]; rw [if_pos hm]
inductive JI (c:List Aj) (ix many:Nat):Nat→Nat→List Int→Nat→Prop
 | nil (k fd:Nat):JI c ix many k fd [] fd
 | ref {k fd v:Nat} {vs:List Int} {Q1:Nat} (hk:A5 c ix k=2) (hv:v≤min (fd+1) many) (h:JI c ix many (k+1) (max fd v) vs Q1):JI c ix many k fd ((v:Int)::vs) Q1
 | word {k fd:Nat} {v:Int} {vs:List Int} {Q1:Nat} (hk:A5 c ix k≠2) (h1:-1000000000≤v) (h2:v≤1000000000) (h:JI c ix many (k+1) fd vs Q1):JI c ix many k fd (v::vs) Q1
def Q2 (c:List Aj) (ix:Nat):Nat→List Int→List Int
 | _,[]=>[]
 | k,v::vs=>(if A5 c ix k=2 then B7 v.toNat else B7 (J1 v).toNat)++Q2 c ix (k+1) vs
theorem ow (v:Int):yt (J1 v).toNat=v:=by
 unfold J1 yt; split <;> split <;> omega
theorem sR {v:Int} (h1:-1000000000≤v) (h2:v≤1000000000):(J1 v).toNat≤2000000000:=by
 unfold J1; split <;> omega
theorem ox {b:List UInt8} {c:List Aj} {ix many:Nat} (hm:many≤1000) {k fd Q1:Nat} {new:List Int} (h:JI c ix many k fd new Q1):∀ {at_ j:Nat} {vs:List Int},VX b at_ j (Q2 c ix k new)→XG b c ix many new.length k at_ fd vs=.ok (vs++new,Q1,j):=by
 induction h with
 | nil k fd =>
  intro at_ j vs hs; have:=hs.ij; rw [show Q2 c ix k []=[] from rfl] at this; rw [this,List.append_nil]; rfl
 | @ref k fd v vs' Q1 hk hv h ih =>
  intro at_ j vs hs; rw [Q2,if_pos hk,Int.toNat_natCast] at hs; obtain ⟨a,h1,h2⟩:=hs.split; rw [List.length_cons,XG,if_pos hk,JH h1 (by omega) (by omega)]; simp only; rw [ih h2]; simp
 | @word k fd v vs' Q1 hk Z3 ZA h ih =>
  intro at_ j vs hs; rw [Q2,if_neg hk] at hs; obtain ⟨a,h1,h2⟩:=hs.split; have:=sR Z3 ZA; rw [List.length_cons,XG,if_neg hk,JH h1 (by omega) (by omega)]; simp only; rw [ih h2,ow]; simp
end Go.Ce
namespace Go.Ce
open Go Go.Proofs Go.Proofs.Tryz
theorem kD {ts:List ByteArray} (hn:ts.Nodup) {t:Nat} {s:ByteArray} (h:ts[t]?=some s):IY ts (fun x=>decide (x=s))=t:=by
 obtain ⟨hl,he⟩:=List.getElem?_eq_some_iff.1 h; refine Jw hl (by rw [he]; simp) fun j x hj hx=>?_; obtain ⟨Vy,hje⟩:=List.getElem?_eq_some_iff.1 hx
 have:x≠s:=by
  rintro rfl; have:=(List.getElem_inj hn).1 (hje.trans he.symm); omega
 simpa using this
inductive Fv (c:List Aj) (ts:List ByteArray) (many:Nat):Nat→Nat→Nat→List BN→Nat→Nat→Prop
 | nil (i u f:Nat):Fv c ts many i u f [] u f
 | cons {i u f:Nat} {x:BN} {xs:List BN} {t ix f1 u' f':Nat} (hi:i<f) (ht:ts[t]?=some x.type) (cJ:t≤u) (hx:BL c x.type=some ix) (hn:if elemAt c ix≠0 then x.AL.length≤200 else x.AL.length=(BH c ix).length) (hv:JI c ix many 0 f x.AL f1) (h:Fv c ts many (i+1) (if t=u then u+1 else u) f1 xs u' f'):Fv c ts many i u f (x::xs) u' f'
def MC (c:List Aj) (ts:List ByteArray) (x:BN):List Int:=match BL c x.type with
 | some i=>B7 (IY ts fun y=>decide (y=x.type)).toNat++(if elemAt c i≠0 then B7 x.AL.length else [])++Q2 c i 0 x.AL
 | none=>[]
theorem kE {b:List UInt8} {c:List Aj} {ts:List ByteArray} {many:Nat} (hm:many≤1000) (Vn:ts.Nodup) (Uo:ts.length≤100) {i u f u' f':Nat} {new:List BN} (h:Fv c ts many i u f new u' f'):∀ {at_ j:Nat} {out:List BN},VX b at_ j (new.flatMap (MC c ts))→Yu b c ts many new.length i at_ u f out=.ok (out++new,u',f',j):=by
 induction h with
 | nil i u f =>
  intro at_ j out hs; have:=hs.ij; rw [show List.flatMap (MC c ts) []=[] from rfl] at this; rw [this,List.append_nil]; rfl
 | @cons i u f x xs t ix f1 u' f' hi ht cJ hx hn hv h ih =>
  intro at_ j out hs; rw [List.flatMap_cons] at hs; obtain ⟨a3,hs,KB⟩:=hs.split; unfold MC at hs; rw [hx] at hs; obtain ⟨a2,hs,hsv⟩:=hs.split; obtain ⟨a1,Ef,il⟩:=hs.split; have AF0:=(List.getElem?_eq_some_iff.1 ht).1; rw [kD Vn ht] at Ef; have Ef:VX b at_ a1 (B7 t):=Ef; rw [List.length_cons,Yu,if_pos hi,JH Ef (by omega) (by omega)]; simp only; rw [ht]; simp only; rw [hx]; simp only
  have cy:(if elemAt c ix≠0 then VC b a1 200 else .ok ((BH c ix).length,a1))=.ok (x.AL.length,a2):=by
   split
   ·rename_i he; rw [if_pos he] at hn il; exact JH il (by omega) (by omega)
   ·rename_i he; rw [if_neg he] at hn il; have:=il.ij; rw [hn,this]; rfl
  rw [cy]; simp only; rw [ox hm hv hsv]; simp only; rw [ih KB]; simp
theorem fi (l:List UInt8):(strOf l).size=l.length:=by
 unfold strOf; show l.toArray.size=_; simp
theorem bX (s:ByteArray):strOf (sb s)=s:=by
 unfold strOf sb; simp
theorem VX.bytes {b:List UInt8} {a j:Nat} {l:List UInt8} (h:VX b a j (bI l)):(b.drop a).take l.length=l∧a+l.length=j∧j≤b.length:=by
 have h1:=h.ij; rw [K6] at h1; refine ⟨?_,h1.symm,h.le⟩
 have he:((bI b).drop a).take l.length=bI l:=by
  rw [h.eq,List.take_append_of_le_length (by rw [K6]; omega),List.take_of_length_le (by rw [K6]; omega)]
 unfold bI at he; rw [←List.map_drop,←List.map_take] at he
 have AEv:∀ (x y:List UInt8),x.map (fun x=>((x.toNat:Nat):Int))=y.map (fun x=>((x.toNat:Nat):Int))→x=y:=by
  intro x y hxy; refine List.map_inj_right (f:=fun x:UInt8=>((x.toNat:Nat):Int)) (fun p q hpq=>?_) |>.1 hxy; exact UInt8.toNat_inj.1 (Int.ofNat.inj hpq)
 exact AEv _ _ he
theorem bY {b:List UInt8} {ask:ByteArray→Option Int}:∀ {new:List ByteArray} {at_ j:Nat} {out:List ByteArray},(∀ s,s ∈ new→GB s=true∧ask s=none)→(out++new).Nodup→VX b at_ j (new.flatMap GP)→iM b ask new.length at_ out=.ok (out++new,j)
 | [],at_,j,out,_,_,hs=>by
  have:=hs.ij; rw [show List.flatMap GP []=[] from rfl] at this; rw [this,List.append_nil]; rfl
 | s::new,at_,j,out,hn,Vn,hs=>by
  rw [List.flatMap_cons] at hs; obtain ⟨a2,hs,KB⟩:=hs.split; unfold GP at hs; obtain ⟨a1,h1,h2⟩:=hs.split; obtain ⟨hsy,yZ⟩:=hn s (by simp)
  have HD:s.size≤60:=by
   unfold GB at hsy; simp only [Bool.and_eq_true,decide_eq_true_eq] at hsy; omega
  have hb:Hr s=bI (sb s):=rfl; rw [hb] at h2; obtain ⟨q1,q2,q3⟩:=h2.bytes; have hl:(sb s).length=s.size:=by rw [←fi,bX]
  rw [hl] at q1 q2; have hS:strOf ((b.drop a1).take s.size)=s:=by rw [q1,bX]
  rw [List.length_cons,iM,JH h1 (by omega) (by omega)]; simp only; rw [tq,if_pos (by omega)]; simp only
  have AEw:(out.any fun x=>decide (x=s))=false:=by
   refine List.any_eq_false.2 fun x hx=>?_; have:=(List.nodup_append.1 Vn).2.2 x hx s (by simp)
   simpa using this
  rw [hS,if_pos ⟨hsy,AEw⟩,yZ]; rw [q2,bY (fun x hx=>hn x (by simp [hx])) (by simpa using Vn) KB]; simp
structure Canon (c:List Aj) (ask:ByteArray→Option Int) (ts:List ByteArray) (xs:List BN):Prop where
 tsl:ts.length≤100
 sym:∀ s,s ∈ ts→GB s=true∧ask s=none
 nodup:ts.Nodup
 len:xs.length≤1000
 scan:Fv c ts xs.length 0 0 (min xs.length 1) xs ts.length xs.length
def Jc (c:List Aj) (ts:List ByteArray) (xs:List BN):List Int:=[1]++B7 ts.length++ts.flatMap GP++B7 xs.length++xs.flatMap (MC c ts)
theorem VX.all {b:List UInt8} {e:List Int}:VX b 0 b.length e↔bI b=e:=by
 constructor
 ·intro h; have:=h.eq; rw [List.drop_zero,List.drop_of_length_le (by rw [K6]; omega),List.append_nil] at this; exact this
 ·rintro rfl; refine ⟨by omega,by rw [K6]; omega,?_⟩; rw [List.drop_zero,List.drop_of_length_le (by rw [K6]; omega),List.append_nil]
end Go.Ce
namespace Go.Ce
open Go Go.Proofs Go.Proofs.Tryz
theorem Q3 {c:List Aj} {l:List Br} (h:BI c l=true) {i:Nat} {s:Br} (hs:l[i]?=some s):G' l s i=false∧∀ k,k<l.length→JC l s i k=false:=by
 unfold BI at h; simp only [Bool.and_eq_true,Bool.not_eq_true'] at h; have hb:=Dk h.2 (List.getElem?_eq_some_iff.1 hs).1; unfold QQ at hb; rw [hs] at hb; simp only at hb
 split at hb
 ·simp only [Bool.or_eq_false_iff] at hb; exact ⟨hb.1.2,fun k hk=>Dk hb.2.1 hk⟩
 ·cases hb
theorem oy {c:List Aj} {l:List Br} (h:BI c l=true):∀ (k j:Nat) (x y:Br),j<k→l[j]?=some x→l[k]?=some y→SP (sb x.type) (sb y.type)=true:=by
 intro k
 induction k with
 | zero=>intro j x y hj; omega
 | succ k ih =>
  intro j x y hj hx hy; have hp:=(Q3 h hy).1; unfold G' at hp; have h_:k<l.length:=by have:=(List.getElem?_eq_some_iff.1 hy).1; omega
  have hz:=List.getElem?_eq_getElem h_; simp only [hz,Bool.not_eq_false'] at hp
  rcases Nat.lt_succ_iff_lt_or_eq.1 hj with h1 | rfl
  ·exact Mi _ _ _ (ih j x _ h1 hx hz) hp
  ·rw [hx] at hz; cases hz; exact hp
theorem kG {c:List Aj} {l:List Br} (h:BI c l=true) {s:Br} (hs:s ∈ l):Gm l s.type=some s:=by
 obtain ⟨i,hi,he⟩:=List.mem_iff_getElem.1 hs; have Hv:=List.getElem?_eq_getElem hi; rw [he] at Hv
 have:=nO (l:=l) (s:=s.type) hi (by rw [he]; simp) (fun j hj=>by
  have Vy:j<l.length:=by omega
  have hj':=List.getElem?_eq_getElem Vy; rw [hj']; have A0:=oy h i j _ _ hj hj' Hv; simp only [Option.map_some,Option.some.injEq,decide_eq_false_iff_not]; intro e
  rw [e,O3] at A0; cases A0)
 rw [this,he]
theorem tu {c:List Aj} {l:List Br} (h:BI c l=true) {s x:Br} (hs:s ∈ l) (hx:x ∈ l):x.type≠s.to:=by
 obtain ⟨i,hi,he⟩:=List.mem_iff_getElem.1 hs; obtain ⟨k,hk,hke⟩:=List.mem_iff_getElem.1 hx; have Hv:=List.getElem?_eq_getElem hi; rw [he] at Hv; have:=(Q3 h Hv).2 k hk; unfold JC at this; rw [List.getElem?_eq_getElem hk,hke] at this; simp only [Bool.or_eq_false_iff,decide_eq_false_iff_not] at this; exact this.1
theorem oz {c:List Aj} {l:List Br} (h:BI c l=true) {s:Br} (hs:s ∈ l):PB l s.to=some s:=by
 unfold PB; obtain ⟨i,hi,he⟩:=List.mem_iff_getElem.1 hs; have Hv:=List.getElem?_eq_getElem hi; rw [he] at Hv; rw [List.find?_eq_some_iff_getElem]; refine ⟨by simp,i,hi,he,fun j hj=>?_⟩; have Vy:j<l.length:=by omega
 have:=(Q3 h Hv).2 j Vy; unfold JC at this; rw [List.getElem?_eq_getElem Vy] at this; simp only [Bool.or_eq_false_iff,Bool.and_eq_false_iff,decide_eq_false_iff_not] at this
 rcases this.2 with h1 | h1
 ·exact (h1 hj).elim
 ·simpa using h1
theorem kH {l:List Br} {s:ByteArray} {x:Br} (h:PB l s=some x):x ∈ l∧x.to=s:=⟨List.mem_of_find?_eq_some h,by simpa using List.find?_some h⟩
theorem kJ {mp:List Int} {k:Nat} {n:Int} (h:QP mp k n=false) {j:Nat} (hj:j<k):mp[j]?≠some n:=by
 have:=Dk h hj
 simpa using this
theorem PC {mp vs z:List Int} (Jq:∀ (k:Nat) m,mp[k]?=some m→0≤m∧m.toNat<z.length) (hd:∀ (k j:Nat) m,j<k→mp[k]?=some m→mp[j]?≠some m):∀ n,n≤mp.length→∀ (j:Nat) m,j<n→mp[j]?=some m→(J8 mp vs z n)[m.toNat]?=some ((vs[j]?).getD 0)
 | 0,_,j,m,hj,_=>by omega
 | n+1,hn,j,m,hj,hm=>by
  have KO:n<mp.length:=by omega
  have hx:=List.getElem?_eq_getElem KO; have hb:=Jq n _ hx; have NB:=Jq j _ hm; rw [J8,hx,Option.getD_some,List.getElem?_set]
  by_cases e:n=j
  ·subst e; rw [hx] at hm
   cases hm
   rw [if_pos rfl,if_pos (by rw [Mp]; exact hb.2)]
  ·have pn:j<n:=by omega
   have EB:mp[n]≠m:=fun e'=>hd n j m pn (by rw [hx,e']) hm; rw [if_neg (by omega)]; exact PC Jq hd n (by omega) j m pn hm
theorem XH {mp vs z:List Int} (Jq:∀ (k:Nat) m,mp[k]?=some m→0≤m) {i:Nat} (hi:∀ m,m ∈ mp→m.toNat≠i):∀ n,n≤mp.length→(J8 mp vs z n)[i]?=z[i]?
 | 0,_=>rfl
 | n+1,hn=>by
  have KO:n<mp.length:=by omega
  have hx:=List.getElem?_eq_getElem KO; rw [J8,hx,Option.getD_some,List.getElem?_set,if_neg (hi _ (List.mem_of_getElem? hx))]; exact XH Jq hi n (by omega)
structure WIs (c:List Aj) (l:List Br) (x:BN) (many ix:Nat):Prop where
 ti:BL c x.type=some ix
 ask:Gm l x.type=none
 n:if elemAt c ix≠0 then x.AL.length≤200 else x.AL.length=(BH c ix).length
 val:∀ (k:Nat) v,x.AL[k]?=some v→GR (A5 c ix k) v many=true
theorem iO {c:List Aj} {s:Br} {t a:Nat} (S:tQ c s t a):(∀ (k:Nat) m,s.map[k]?=some m→0≤m∧m.toNat<(BH c t).length)∧∀ (k j:Nat) m,j<k→s.map[k]?=some m→s.map[j]?≠some m:=by
 constructor
 ·intro k m hk; obtain ⟨n,h1,h2,h3,_⟩:=S.map k (by rw [←S.len]; exact (List.getElem?_eq_some_iff.1 hk).1); rw [hk] at h1; cases h1; omega
 ·intro k j m hj hk; obtain ⟨n,h1,_,_,_,h5⟩:=S.map k (by rw [←S.len]; exact (List.getElem?_eq_some_iff.1 hk).1); rw [hk] at h1; cases h1; exact kJ h5 hj
theorem WIs.back {c:List Aj} {l:List Br} {x:BN} {many ix:Nat} (h:WIs c l x many ix) (hs:BI c l=true):AO l (CS c l x)=x∧A4 c (CS c l x) many=true∧PB l (CS c l x).type=none:=by
 have Ge:=FO h.ti
 cases oN:PB l x.type with
 | none =>
  have hb:CS c l x=x:=by unfold CS; rw [oN]
  rw [hb]; refine ⟨by unfold AO; rw [h.ask],?_,oN⟩; refine Un (i:=ix) (s:=c[ix]) ⟨h.ti,List.getElem?_eq_getElem Ge,?_,h.val⟩; have hn:=h.n; unfold elemAt at hn; rw [List.getElem?_eq_getElem Ge] at hn; unfold El; simp only at hn
  split
  ·rename_i he; rw [if_pos he] at hn; simpa using hn
  ·rename_i he; rw [if_neg he] at hn; simpa using hn
 | some s =>
  obtain ⟨VV,Ef⟩:=kH oN; obtain ⟨j,hj⟩:=List.getElem?_of_mem VV; obtain ⟨t,a,S⟩:=YY hs hj; have cS:a=ix:=by have h1:=S.ai; rw [Ef,h.ti] at h1; exact (Option.some.inj h1).symm
  subst cS; obtain ⟨Jq,hd⟩:=iO S; have hn:=h.n; rw [if_neg (by rw [S.ea]; simp)] at hn; have Uo:=FO S.ti
  have hb:CS c l x=⟨s.type,J8 s.map x.AL (List.replicate (BH c t).length 0) s.map.length⟩:=by
   unfold CS; rw [oN]; simp only; rw [S.ti]
  rw [hb]; have ACd:∀ (k:Nat) m,s.map[k]?=some m→0≤m∧m.toNat<(List.replicate (BH c t).length (0:Int)).length:=fun k m hk=>by rw [List.length_replicate]; exact Jq k m hk
  have hlen:s.map.length=x.AL.length:=by rw [S.len,hn]
  refine ⟨?_,?_,?_⟩
  ·unfold AO; show (match Gm l s.type with | some s=>_ | none=>_)=x; rw [kG hs VV]
   cases x with
   | mk ty vs =>
    simp only at Ef hlen ⊢; rw [Ef]; congr 1; apply List.ext_getElem?; intro k; rw [List.getElem?_map]
    cases hk:s.map[k]? with
    | none =>
     have:=List.getElem?_eq_none_iff.1 hk; rw [List.getElem?_eq_none (by omega)]; rfl
    | some m =>
     have h_:=(List.getElem?_eq_some_iff.1 hk).1; show some (GU _ m)=_; unfold GU; rw [PC ACd hd s.map.length (Nat.le_refl _) k m h_ hk,List.getElem?_eq_getElem (by omega)]; rfl
  ·refine Un (i:=t) (s:=c[t]) ⟨S.ti,List.getElem?_eq_getElem Uo,?_,fun k v hk=>?_⟩
   ·have het:=S.et; unfold elemAt at het; rw [List.getElem?_eq_getElem Uo] at het; unfold El; rw [if_neg (by simpa using het)]; refine decide_eq_true ?_; show (J8 _ _ _ _).length=_; rw [Mp,List.length_replicate]
   ·have hk:(J8 s.map x.AL (List.replicate (BH c t).length 0) s.map.length)[k]?=some v:=hk
    by_cases hq:∃ m,m ∈ s.map∧m.toNat=k
    ·obtain ⟨m,hm,hmk⟩:=hq; obtain ⟨j,R9⟩:=List.getElem?_of_mem hm; have Vy:=(List.getElem?_eq_some_iff.1 R9).1; have:=PC (vs:=x.AL) ACd hd s.map.length (Nat.le_refl _) j m Vy R9; rw [hmk,hk,List.getElem?_eq_getElem (by omega)] at this
     cases this
     have hv:=h.val j _ (List.getElem?_eq_getElem (by omega)); obtain ⟨n,h1,_,_,h4,_⟩:=S.map j (by rw [←S.len]; exact Vy); rw [R9] at h1; cases h1; rw [HO S.ea Ge] at hv; rw [HO S.et Uo,←hmk,h4]; exact hv
    ·rw [XH (fun k m hk=>(Jq k m hk).1) (fun m hm e=>hq ⟨m,hm,e⟩) _ (Nat.le_refl _)] at hk
     have:v=0:=by
      have:=List.mem_of_getElem? hk; exact List.eq_of_mem_replicate this
     subst this; unfold GR; simp
  ·show PB l s.type=none; unfold PB; rw [List.find?_eq_none]; intro y hy; have:=tu hs hy VV
   simpa using fun e=>this e.symm
end Go.Ce
namespace Go.Ce
open Go Go.Proofs Go.Proofs.Tryz
def iota (n:Nat):List Int:=(List.range n).map fun k=>((k:Nat):Int)+1
theorem VD (n:Nat):(iota n).length=n:=by simp [iota]
theorem XI (n:Nat):iota (n+1)=iota n++[((n:Nat):Int)+1]:=by simp [iota,List.range_succ]
theorem bZ {n k:Nat} (h:k<n):(iota n)[k]?=some (((k:Nat):Int)+1):=by simp [iota,h]
theorem VE {n:Nat} {v:Int}:v ∈ iota n↔1≤v∧v≤n:=by
 unfold iota; rw [List.mem_map]
 constructor
 ·rintro ⟨k,hk,rfl⟩; have:=List.mem_range.1 hk; omega
 ·rintro ⟨h1,h2⟩; exact ⟨(v-1).toNat,List.mem_range.2 (by omega),by omega⟩
theorem fj {n:Nat} {v:Nat} (h:v≤n):placeOf (iota n) v=v:=by
 rcases Nat.eq_zero_or_pos v with rfl | hp
 ·exact GV fun hm=>by have:=VE.1 hm; omega
 ·have hf:(iota n).findIdx? (fun x=>decide (x=(v:Int)))=some (v-1):=by
   rw [List.findIdx?_eq_some_iff_getElem]
   have hg:∀ k (hk:k<(iota n).length),(iota n)[k]=((k:Nat):Int)+1:=fun k hk=>by
    have:=bZ (n:=n) (k:=k) (by rw [←VD n]; exact hk); rw [List.getElem?_eq_getElem hk] at this; exact Option.some.inj this
   refine ⟨by rw [VD]; omega,by rw [hg]; simp; omega,fun j hj=>?_⟩; rw [hg]; simp; omega
  unfold placeOf; rw [hf]; simp only; omega
theorem fk {f v:Nat} (h:v≤f+1):visit (iota f) v=iota (max f v):=by
 unfold visit
 by_cases h0:v=0
 ·subst h0; rw [if_neg (by omega),Nat.max_eq_left (by omega)]
 ·by_cases hv:v=f+1
  ·subst hv; rw [if_pos ⟨by omega,fun hm=>by have:=VE.1 hm; omega⟩,Nat.max_eq_right (by omega),XI]; simp
  ·rw [if_neg (fun h=>h.2 (VE.2 (by omega))),Nat.max_eq_left (by omega)]
def C6 (g:Nat→Int→List Int):Nat→List Int→List Int
 | _,[]=>[]
 | k,v::vs=>g k v++C6 g (k+1) vs
theorem VF (g:Nat→Int→List Int) (v:Int):∀ (vs:List Int) (k:Nat),C6 g k (vs++[v])=C6 g k vs++g (k+vs.length) v
 | [],k=>by simp [C6]
 | u::vs,k=>by
  rw [List.cons_append,C6,VF g v vs (k+1),C6,List.append_assoc,List.length_cons]; congr 2; congr 1; omega
theorem Yx {g:Nat→Int→List Int} {vs:List Int} {T:Nat→List Int} (h0:T 0=[]) (h1:∀ n v,vs[n]?=some v→T (n+1)=T n++g n v):∀ n,n≤vs.length→T n=C6 g 0 (vs.take n)
 | 0,_=>by rw [h0,List.take_zero]; rfl
 | n+1,hn=>by
  have hx:=List.getElem?_eq_getElem (show n<vs.length by omega); rw [h1 n _ hx,Yx h0 h1 n (by omega),List.take_add_one,hx,Option.toList_some,VF,List.length_take,Nat.min_eq_left (by omega),Nat.zero_add]
def Jd (c:List Aj) (ix k:Nat) (v:Int):List Int:=if A5 c ix k=2 then [v] else []
theorem IK (c:List Aj) (i:Nat) (vs:List Int):FC c i vs vs.length=C6 (Jd c i) 0 vs:=by
 rw [Yx (T:=FC c i vs) (g:=Jd c i) rfl (fun n v hv=>by rw [FC,hv]; rfl) vs.length (Nat.le_refl _),List.take_length]
theorem XJ (c:List Aj) (o:List Int) (i:Nat) (vs:List Int):F3 c o i vs vs.length=C6 (fun k v=>QR o (A5 c i k) v) 0 vs:=by
 rw [Yx (T:=F3 c o i vs) (g:=fun k v=>QR o (A5 c i k) v) rfl (fun n v hv=>by rw [F3,hv]) vs.length (Nat.le_refl _),List.take_length]
theorem JI.fold {c:List Aj} {ix many k fd Q1:Nat} {vs:List Int} (h:JI c ix many k fd vs Q1):(C6 (Jd c ix) k vs).foldl visit (iota fd)=iota Q1∧fd≤Q1∧(fd≤many→Q1≤many):=by
 induction h with
 | nil=>exact ⟨rfl,Nat.le_refl _,id⟩
 | @ref k fd v vs Q1 hk hv h ih =>
  obtain ⟨h1,h2,h3⟩:=ih; refine ⟨?_,by omega,fun hf=>h3 (by omega)⟩; rw [C6,List.foldl_append,Jd,if_pos hk]; show (C6 _ _ _).foldl visit (visit (iota fd) (v:Int))=_; rw [fk (by omega)]; exact h1
 | @word k fd v vs Q1 hk Z3 ZA h ih =>
  obtain ⟨h1,h2,h3⟩:=ih; refine ⟨?_,h2,h3⟩; rw [C6,Jd,if_neg hk]; exact h1
theorem JI.val {c:List Aj} {ix many k fd Q1:Nat} {vs:List Int} (h:JI c ix many k fd vs Q1):∀ (j:Nat) v,vs[j]?=some v→GR (A5 c ix (k+j)) v many=true:=by
 induction h with
 | nil=>intro j v hv; simp at hv
 | @ref k fd v vs Q1 hk hv h ih =>
  intro j w hw
  cases j with
  | zero =>
   cases hw
   unfold GR; rw [Nat.add_zero,hk]; simp; omega
  | succ j =>
   have:=ih j w hw; rw [show k+(j+1)=k+1+j by omega]; exact this
 | @word k fd v vs Q1 hk Z3 ZA h ih =>
  intro j w hw
  cases j with
  | zero =>
   cases hw
   unfold GR; rw [Nat.add_zero]; simp [hk]; omega
  | succ j =>
   have:=ih j w hw; rw [show k+(j+1)=k+1+j by omega]; exact this
theorem JI.enc {c:List Aj} {ix many k fd Q1:Nat} {vs:List Int} (h:JI c ix many k fd vs Q1):C6 (fun k v=>QR (iota many) (A5 c ix k) v) k vs=Q2 c ix k vs:=by
 induction h with
 | nil=>rfl
 | @ref k fd v vs Q1 hk hv h ih =>
  rw [C6,Q2,ih,QR,if_pos hk,if_pos hk,fj (by omega),Int.toNat_natCast]
 | @word k fd v vs Q1 hk Z3 ZA h ih =>
  rw [C6,Q2,ih,QR,if_neg hk,if_neg hk]
theorem Fv.search {c:List Aj} {ts:List ByteArray} {many i u f u' f':Nat} {xs:List BN} {refs:Int→List Int} (h:Fv c ts many i u f xs u' f') (hr:∀ (j:Nat) x,xs[j]?=some x→refs (((i+j:Nat):Int)+1)=refsOf c x):Ao refs xs.length (iota f) i=iota f':=by
 induction h with
 | nil=>rfl
 | @cons i u f x xs t ix f1 u' f' hi ht cJ hx hn hv h ih =>
  rw [List.length_cons,Ao,bZ hi]; simp only; have h0:=hr 0 x rfl; rw [Nat.add_zero] at h0; rw [h0]
  have:refsOf c x=C6 (Jd c ix) 0 x.AL:=by
   unfold refsOf; rw [hx]; exact IK c ix x.AL
  rw [this,hv.fold.1]
  exact ih fun j y hy=>by
   have:=hr (j+1) y hy; rw [show i+1+j=i+(j+1) by omega]; exact this
theorem Fv.types {c:List Aj} {ts:List ByteArray} (Vn:ts.Nodup) {many i u f u' f':Nat} {xs:List BN} (h:Fv c ts many i u f xs u' f'):xs.foldl (fun t x=>BQ t x.type) (ts.take u)=ts.take u':=by
 induction h with
 | nil=>rfl
 | @cons i u f x xs t ix f1 u' f' hi ht cJ hx hn hv h ih =>
  rw [List.foldl_cons]; obtain ⟨Uo,hte⟩:=List.getElem?_eq_some_iff.1 ht
  have:BQ (ts.take u) x.type=ts.take (if t=u then u+1 else u):=by
   unfold BQ
   by_cases e:t=u
   ·subst e
    rw [if_pos rfl,if_neg,List.take_add_one,ht]
    ·rfl
    ·intro ha; obtain ⟨y,hy,yu⟩:=List.any_eq_true.1 ha; have yu:y=x.type:=of_decide_eq_true yu; subst yu; obtain ⟨j,hj⟩:=List.getElem?_of_mem hy; rw [List.getElem?_take] at hj
     split at hj
     ·rename_i hjt; obtain ⟨Vy,hje⟩:=List.getElem?_eq_some_iff.1 hj; have:=(List.getElem_inj Vn).1 (hje.trans hte.symm); omega
     ·cases hj
   ·rw [if_neg e,if_pos]; refine List.any_eq_true.2 ⟨x.type,List.mem_of_getElem? (i:=t) ?_,by simp⟩; rw [List.getElem?_take,if_pos (by omega),ht]
  rw [this]; exact ih
theorem Fv.wis {c:List Aj} {l:List Br} {ts:List ByteArray} (AEx:∀ s,s ∈ ts→Yw c l s=none) {many i u f u' f':Nat} {xs:List BN} (h:Fv c ts many i u f xs u' f'):∀ x,x ∈ xs→∃ ix,WIs c l x many ix∧FD c ts (iota many) x=MC c ts x:=by
 induction h with
 | nil=>intro x hx; cases hx
 | @cons i u f x xs t ix f1 u' f' hi ht cJ hx hn hv h ih =>
  intro y hy
  rcases List.mem_cons.1 hy with rfl | hy
  ·refine ⟨ix,⟨hx,(kC (AEx _ (List.mem_of_getElem? ht))).2,hn,fun k v hk=>?_⟩,?_⟩
   ·have:=hv.val k v hk; rw [Nat.zero_add] at this; exact this
   ·unfold FD MC; rw [hx]; simp only; rw [XJ,hv.enc]
  ·exact ih y hy
theorem bb (h:List BN):AS h (iota h.length)=h:=by
 have key:∀ n,n≤h.length→AS h (iota n)=h.take n:=by
  intro n
  induction n with
  | zero=>intro _; rfl
  | succ n ih =>
   intro hn
   have e:AS h (iota (n+1))=AS h (iota n)++AS h [((n:Nat):Int)+1]:=by
    unfold AS; rw [XI,List.flatMap_append]
   rw [e,ih (by omega),List.take_add_one]; congr 1; unfold AS; simp
 rw [key _ (Nat.le_refl _),List.take_length]
structure yv (c:List Aj) (l:List Br) (ts:List ByteArray) (xs:List BN):Prop where
 ask:Ib c l (xs.map (CS c l)) (min (xs.length:Int) 1)=0
 found:Ad c l (xs.map (CS c l)) (min (xs.length:Int) 1)=iota xs.length
 bad:L5 l (xs.map (CS c l)) (iota xs.length)=false
 types:DD l (AS (xs.map (CS c l)) (iota xs.length))=ts
 bytes:Em c l (xs.map (CS c l)) (iota xs.length)=Jc c ts xs
theorem MD {c:List Aj} {l:List Br} {ts:List ByteArray} {xs:List BN} (Ai:BV c=true) (hs:BI c l=true) (h:Canon c (Yw c l) ts xs):yv c l ts xs:=by
 have hw:=h.scan.wis (l:=l) fun s hs=>(h.sym s hs).2; have hlen:(xs.map (CS c l)).length=xs.length:=List.length_map _
 have HQ:AS (xs.map (CS c l)) (iota xs.length)=xs.map (CS c l):=by
  rw [←hlen]; exact bb _
 have PD:∀ x,x ∈ xs→AO l (CS c l x)=x:=fun x hx=>by
  obtain ⟨ix,hi,_⟩:=hw x hx; exact (hi.back hs).1
 have Rv:DD l (xs.map (CS c l))=ts:=by
  have h1:=h.scan.types h.nodup; rw [List.take_length,List.take_zero] at h1; unfold DD; rw [List.foldl_map]
  have key:∀ (ys:List BN) (t:List ByteArray),(∀ x,x ∈ ys→x ∈ xs)→ys.foldl (fun t x=>BQ t (AO l (CS c l x)).type) t=ys.foldl (fun t x=>BQ t x.type) t:=by
   intro ys
   induction ys with
   | nil=>intro t _; rfl
   | cons y ys ih =>
    intro t hy; rw [List.foldl_cons,List.foldl_cons,PD y (hy y (by simp)),ih _ fun x hx=>hy x (by simp [hx])]
  rw [key xs [] fun x hx=>hx]; exact h1
 have Jq:GS c (xs.map (CS c l))<0:=by
  unfold GS; have:=h.len; rw [if_neg (by rw [hlen]; omega)]
  have hf:(xs.map (CS c l)).findIdx? (fun x=>!A4 c x (xs.map (CS c l)).length)=none:=by
   rw [List.findIdx?_eq_none_iff]; intro y hy; obtain ⟨x,hx,rfl⟩:=List.mem_map.1 hy; obtain ⟨ix,hi,_⟩:=hw x hx; have h1:=(hi.back hs).2.1; rw [hlen,h1]; rfl
  unfold IY; rw [hf]; simp
 refine ⟨?_,?_,?_,?_,?_⟩
 ·unfold Ib Ou; rw [Ai,hs]; simp only [if_true]; rw [if_neg (by simp),if_neg (by omega),if_neg]; rw [hlen]; omega
 ·unfold Ad
  have Ef:start (min (xs.length:Int) 1)=iota (min xs.length 1):=by
   unfold start
   by_cases h0:xs.length=0
   ·rw [h0]; rfl
   ·rw [if_pos (by omega),show min (xs.length:Int) 1=1 by omega,show min xs.length 1=1 by omega]; rfl
  rw [Ef,hlen]; refine h.scan.search fun j x hx=>?_; unfold CR; rw [show (((0+j:Nat):Int)+1-1).toNat=j by omega,List.getElem?_map,hx]; simp only [Option.map_some]; rw [PD x (List.mem_of_getElem? hx)]
 ·unfold L5; rw [HQ]; refine List.any_eq_false.2 fun y hy=>?_; obtain ⟨x,hx,rfl⟩:=List.mem_map.1 hy; obtain ⟨ix,hi,_⟩:=hw x hx; have h1:=(hi.back hs).2.2; unfold PB at h1; rw [List.find?_eq_none] at h1; have:(l.any fun s=>decide (s.to=(CS c l x).type))=false:=List.any_eq_false.2 fun s KB=>h1 s KB; rw [this]; simp
 ·rw [HQ,Rv]
 ·unfold Em Jc; rw [HQ,Rv,VD]; congr 1; rw [List.flatMap_map]
  have key:∀ (ys:List BN),(∀ x,x ∈ ys→x ∈ xs)→ys.flatMap (fun x=>FD c ts (iota xs.length) (AO l (CS c l x)))=ys.flatMap (MC c ts):=by
   intro ys
   induction ys with
   | nil=>intro _; rfl
   | cons y ys ih =>
    intro hy; obtain ⟨ix,_,he⟩:=hw y (hy y (by simp)); rw [List.flatMap_cons,List.flatMap_cons,PD y (hy y (by simp)),he,ih fun x hx=>hy x (by simp [hx])]
  exact key xs fun x hx=>hx
end Go.Ce
namespace Go.Ce
open Go Go.Proofs Go.Proofs.Tryz
theorem XK (o:List Int) (v:Int):o <+: visit o v:=by
 unfold visit
 split
 ·exact List.prefix_append _ _
 ·exact List.prefix_refl _
theorem PF:∀ (vs o:List Int),o <+: vs.foldl visit o
 | [],o=>List.prefix_refl _
 | v::vs,o=>(XK o v).trans (PF vs _)
theorem G2 (refs:Int→List Int):∀ (m:Nat) (o:List Int) (n:Nat),o <+: Ao refs m o n
 | 0,o,_=>List.prefix_refl _
 | m+1,o,n=>by
  unfold Ao
  split
  ·exact List.prefix_refl _
  ·exact (PF _ _).trans (G2 refs m _ _)
theorem K7 {n:Nat}:∀ (vs o:List Int),Found o n→(∀ v,v ∈ vs→v≤n)→Found (vs.foldl visit o) n
 | [],o,h,_=>h
 | v::vs,o,h,hv=>K7 vs _ (h.visit (hv v (by simp))) fun w hw=>hv w (by simp [hw])
theorem PG {refs:Int→List Int} {n:Nat} (hr:∀ v w,w ∈ refs v→w≤n):∀ (m:Nat) (o:List Int) (k:Nat),Found o n→Found (Ao refs m o k) n
 | 0,o,_,h=>h
 | m+1,o,k,h=>by
  unfold Ao
  split
  ·exact h
  ·exact PG hr m _ _ (K7 _ _ h fun w hw=>hr _ w hw)
theorem Q4 {o O:List Int} (h:o <+: O) {v:Int} (hv:v ∈ o):placeOf O v=placeOf o v:=by
 obtain ⟨r,rfl⟩:=h; unfold placeOf; rw [List.findIdx?_append]
 cases hf:o.findIdx? (fun x=>decide (x=v)) with
 | some i=>rfl
 | none =>
  rw [List.findIdx?_eq_none_iff] at hf; have:=hf v hv; simp at this
theorem fm {o:List Int} {v:Int}:placeOf o v≤o.length:=(Nw o v).2
def ID (c:List Aj) (ix:Nat) (O:List Int):Nat→List Int→List Int
 | _,[]=>[]
 | k,v::vs=>(if A5 c ix k=2 then placeOf O v else v)::ID c ix O (k+1) vs
theorem J9 {c:List Aj} {ix:Nat} {O:List Int}:∀ (vs:List Int) (k:Nat),(ID c ix O k vs).length=vs.length
 | [],_=>rfl
 | v::vs,k=>by rw [ID,List.length_cons,List.length_cons,J9 vs]
theorem HT {c:List Aj} {ix:Nat} {O:List Int}:∀ (vs:List Int) (k j:Nat),(ID c ix O k vs)[j]?=(vs[j]?).map fun v=>if A5 c ix (k+j)=2 then placeOf O v else v
 | [],_,_=>rfl
 | v::vs,k,0=>by rw [ID]; rfl
 | v::vs,k,j+1=>by
  rw [ID,List.getElem?_cons_succ,List.getElem?_cons_succ,HT vs (k+1) j,show k+1+j=k+(j+1) by omega]
theorem bc {c:List Aj} {ix:Nat} {O:List Int}:∀ (vs:List Int) (k:Nat),C6 (fun k v=>QR O (A5 c ix k) v) k vs=Q2 c ix k (ID c ix O k vs)
 | [],_=>rfl
 | v::vs,k=>by
  rw [C6,ID,Q2,bc vs (k+1),QR]
  by_cases hk:A5 c ix k=2
  ·simp only [if_pos hk]
  ·simp only [if_neg hk]
theorem N3 {c:List Aj} {ix:Nat} {O:List Int} (h0:(0:Int) ∉ O):∀ (vs:List Int) (k:Nat) (o:List Int),(∀ (j:Nat) v,vs[j]?=some v→A5 c ix (k+j)=2→0≤v)→(∀ (j:Nat) v,vs[j]?=some v→A5 c ix (k+j)≠2→-1000000000≤v∧v≤1000000000)→(C6 (Jd c ix) k vs).foldl visit o <+: O→JI c ix O.length k o.length (ID c ix O k vs) ((C6 (Jd c ix) k vs).foldl visit o).length
 | [],k,o,_,_,_=>.nil _ _
 | v::vs,k,o,h1,h2,hp=>by
  have n1:∀ (j:Nat) w,vs[j]?=some w→A5 c ix (k+1+j)=2→0≤w:=fun j w hw hk=>h1 (j+1) w hw (by rw [show k+(j+1)=k+1+j by omega]; exact hk); have n2:∀ (j:Nat) w,vs[j]?=some w→A5 c ix (k+1+j)≠2→-1000000000≤w∧w≤1000000000:=fun j w hw hk=>h2 (j+1) w hw (by rw [show k+(j+1)=k+1+j by omega]; exact hk)
  by_cases hk:A5 c ix k=2
  ·have hs:(C6 (Jd c ix) k (v::vs)).foldl visit o=(C6 (Jd c ix) (k+1) vs).foldl visit (visit o v):=by
    rw [C6,Jd,if_pos hk,List.foldl_append]; rfl
   rw [hs] at hp ⊢; have ih:=N3 h0 vs (k+1) (visit o v) n1 n2 hp; have yw:visit o v <+: O:=(PF _ _).trans hp; have yx:=yw.length_le; have ui:=h1 0 v rfl hk; rw [ID,if_pos hk]; have hnn:=(Nw O v).1; have ACe:placeOf O v=((placeOf O v).toNat:Int):=by omega
   rw [ACe]
   by_cases hn:0<v∧v ∉ o
   ·have yy:visit o v=o++[v]:=by unfold visit; rw [if_pos hn]
    rw [yy] at yw ih yx ⊢
    have lD:placeOf O v=o.length+1:=by
     rw [Q4 yw (by simp),Rx hn.2,if_pos rfl]
    rw [List.length_append,List.length_singleton] at ih yx; refine .ref hk (by omega) ?_; rw [show max o.length (placeOf O v).toNat=o.length+1 by omega]; exact ih
   ·have yy:visit o v=o:=by unfold visit; rw [if_neg hn]
    rw [yy] at yw ih yx ⊢
    have lD:placeOf O v≤o.length:=by
     by_cases xm:v ∈ o
     ·rw [Q4 yw xm]; exact fm
     ·have:v=0:=by
       by_cases hz:0<v
       ·exact (hn ⟨hz,xm⟩).elim
       ·omega
      subst this; rw [GV h0]; omega
    refine .ref hk (by omega) ?_; rw [show max o.length (placeOf O v).toNat=o.length by omega]; exact ih
  ·have hs:(C6 (Jd c ix) k (v::vs)).foldl visit o=(C6 (Jd c ix) (k+1) vs).foldl visit o:=by
    rw [C6,Jd,if_neg hk]; rfl
   rw [hs] at hp ⊢; obtain ⟨b1,b2⟩:=h2 0 v rfl hk; rw [ID,if_neg hk]; exact .word hk b1 b2 (N3 h0 vs (k+1) o n1 n2 hp)
end Go.Ce
namespace Go.Ce
open Go Go.Proofs Go.Proofs.Tryz
theorem bg (t:List ByteArray) (s:ByteArray):t <+: BQ t s:=by
 unfold BQ
 split
 ·exact List.prefix_refl _
 ·exact List.prefix_append _ _
theorem PH {α:Type} (f:α→ByteArray):∀ (xs:List α) (t:List ByteArray),t <+: xs.foldl (fun t x=>BQ t (f x)) t
 | [],t=>List.prefix_refl _
 | x::xs,t=>(bg t (f x)).trans (PH f xs _)
theorem NU {t:List ByteArray} (h:t.Nodup) (s:ByteArray):(BQ t s).Nodup:=by
 unfold BQ
 split
 ·exact h
 ·rename_i hn; rw [List.nodup_append]; refine ⟨h,List.pairwise_singleton _ _,fun x hx y hy=>?_⟩; rw [List.mem_singleton.1 hy]; rintro rfl; exact hn (List.any_eq_true.2 ⟨x,hx,by simp⟩)
theorem ME {α:Type} (f:α→ByteArray):∀ (xs:List α) (t:List ByteArray),t.Nodup→(xs.foldl (fun t x=>BQ t (f x)) t).Nodup
 | [],t,h=>h
 | x::xs,t,h=>ME f xs _ (NU h _)
theorem TO {α:Type} {a b:List α} (h:a <+: b) {i:Nat} {x:α} (hx:a[i]?=some x):b[i]?=some x:=by
 obtain ⟨r,rfl⟩:=h; rw [List.getElem?_append_left (List.getElem?_eq_some_iff.1 hx).1]; exact hx
def Je (c:List Aj) (O:List Int) (y:BN):BN:=match BL c y.type with
 | some ix=>⟨y.type,ID c ix O 0 y.AL⟩
 | none=>y
def BR (c:List Aj) (l:List Br) (h:List BN) (O:List Int):List BN:=(AS h O).map fun x=>Je c O (AO l x)
theorem yz {c:List Aj} {y:BN} {n i:Nat} {s:Aj} (Y:Ru c y n i s):if elemAt c i≠0 then y.AL.length≤200 else y.AL.length=(BH c i).length:=by
 have hm:=Y.many; unfold El at hm; have he:elemAt c i=s.elem:=by unfold elemAt; rw [Y.si]
 rw [he]
 split
 ·rename_i h; rw [if_pos h] at hm; simpa using hm
 ·rename_i h; rw [if_neg h] at hm; simpa using hm
theorem MF {h:List BN} {v:Int} {x:BN} (hx:h[(v-1).toNat]?=some x) (r:List Int):AS h (v::r)=x::AS h r:=by
 unfold AS; rw [List.flatMap_cons,hx]; rfl
theorem PI {h:List BN} {O:List Int} (hO:Found O h.length) {v:Int} (hv:v ∈ O):∃ x,h[(v-1).toNat]?=some x:=by
 have h1:=hO.low v hv; have h2:=hO.high v hv; exact ⟨_,List.getElem?_eq_getElem (by omega)⟩
theorem EI {h:List BN} {N:Nat} (hN:N=h.length):∀ {O:List Int},(∀ v,v ∈ O→0<v∧v≤N)→(AS h O).length=O.length
 | [],_=>rfl
 | v::O,hO=>by
  have hv:=hO v (by simp); have hx:=List.getElem?_eq_getElem (show (v-1).toNat<h.length by omega); rw [MF hx,List.length_cons,List.length_cons,EI hN fun w hw=>hO w (by simp [hw])]
theorem NV {c:List Aj} {l:List Br} {h:List BN} {O:List Int} {ts:List ByteArray} (Ai:BV c=true) (hs:BI c l=true) (HQ:∀ x,x ∈ h→A4 c x h.length=true) (hO:Found O h.length):∀ (m n:Nat) (o:List Int) (T:List ByteArray),n+m=h.length→T.Nodup→Ao (CR c l h) m o n=O→(AS h (O.drop n)).foldl (fun t x=>BQ t (AO l x).type) T=ts→Fv c ts O.length n T.length o.length ((AS h (O.drop n)).map fun x=>Je c O (AO l x)) ts.length O.length
 | 0,n,o,T,hn,hT,kK,Io=>by
  have kK:o=O:=kK; subst kK; have:=hO.len; rw [List.drop_of_length_le (by omega)] at Io ⊢; have Io:T=ts:=Io; subst Io; exact .nil _ _ _
 | m+1,n,o,T,hn,hT,kK,Io=>by
  have Bg:=G2 (CR c l h) (m+1) o n; rw [kK] at Bg
  cases LU:o[n]? with
  | none =>
   rw [Ao,LU] at kK; have kK:o=O:=kK; subst kK; rw [List.drop_of_length_le (List.getElem?_eq_none_iff.1 LU)] at Io ⊢; have Io:T=ts:=Io; subst Io; exact .nil _ _ _
  | some v =>
   rw [Ao,LU] at kK; simp only at kK; have KO:=(List.getElem?_eq_some_iff.1 LU).1; have hOn:=TO Bg LU; obtain ⟨hOl,hOe⟩:=List.getElem?_eq_some_iff.1 hOn; have hvO:v ∈ O:=List.mem_of_getElem? hOn; obtain ⟨x,hx⟩:=PI hO hvO; have Tt:O.drop n=v::O.drop (n+1):=by rw [List.drop_eq_getElem_cons hOl,hOe]
   rw [Tt,MF hx] at Io ⊢; rw [List.foldl_cons] at Io; rw [List.map_cons]; obtain ⟨ix,s,Y⟩:=Bt (CJ hs (HQ x (List.mem_of_getElem? hx)))
   have hrefs:CR c l h v=C6 (Jd c ix) 0 (AO l x).AL:=by
    unfold CR; rw [hx]; simp only; unfold refsOf; rw [Y.ti]; exact IK c ix _
   have tv:=G2 (CR c l h) m ((CR c l h v).foldl visit o) (n+1); rw [kK] at tv
   have hV:=N3 (c:=c) (ix:=ix) (O:=O) (fun hz=>by have:=hO.low 0 hz; omega) (AO l x).AL 0 o
    (fun j w hw hk=>by
     rw [Nat.zero_add] at hk
     rcases HP Ai Y hw with h1 | h1
     ·exact h1.2.1
     ·rw [h1.1] at hk; cases hk)
    (fun j w hw hk=>by
     rw [Nat.zero_add] at hk
     rcases HP Ai Y hw with h1 | h1
     ·exact (hk h1.1).elim
     ·exact h1.2)
    (by rw [←hrefs]; exact tv)
   rw [←hrefs] at hV; have ih:=NV Ai hs HQ hO m (n+1) ((CR c l h v).foldl visit o) (BQ T (AO l x).type) (by omega) (NU hT _) kK Io; have sS:BQ T (AO l x).type <+: ts:=by rw [←Io]; exact PH _ _ _
   have B0:Je c O (AO l x)=⟨(AO l x).type,ID c ix O 0 (AO l x).AL⟩:=by unfold Je; rw [Y.ti]
   rw [B0]; have hmn:=yz Y; have Zm:if elemAt c ix≠0 then (ID c ix O 0 (AO l x).AL).length≤200 else (ID c ix O 0 (AO l x).AL).length=(BH c ix).length:=by rw [J9]; exact hmn
   by_cases ha:T.any (fun y=>decide (y=(AO l x).type))=true
   ·have y8:BQ T (AO l x).type=T:=by unfold BQ; rw [if_pos ha]
    rw [y8] at ih sS; obtain ⟨y,hy,yu⟩:=List.any_eq_true.1 ha; have yu:y=(AO l x).type:=of_decide_eq_true yu; obtain ⟨t,ht⟩:=List.getElem?_of_mem hy; have Uo:=(List.getElem?_eq_some_iff.1 ht).1; refine .cons (t:=t) (ix:=ix) KO (by show ts[t]?=some _; rw [TO sS ht,yu]) (by omega) Y.ti Zm hV ?_; rw [if_neg (by omega)]; exact ih
   ·have y8:BQ T (AO l x).type=T++[(AO l x).type]:=by unfold BQ; rw [if_neg ha]
    rw [y8] at ih sS; rw [List.length_append,List.length_singleton] at ih; refine .cons (t:=T.length) (ix:=ix) KO (by show ts[T.length]?=some _; exact TO sS (by simp)) (Nat.le_refl _) Y.ti Zm hV ?_; rw [if_pos rfl]; exact ih
theorem y9 {c:List Aj} (Ai:BV c=true) {s:ByteArray} {i:Nat} (h:BL c s=some i):GB s=true:=by
 have Ge:=FO h; obtain ⟨h1,h2,_⟩:=List.findIdx?_eq_some_iff_getElem.1 h; unfold BV at Ai; simp only [Bool.and_eq_true,Bool.not_eq_true'] at Ai; have hb:=Dk Ai.2.1 Ge; unfold BU at hb; rw [List.getElem?_eq_getElem Ge] at hb; simp only [Bool.or_eq_false_iff,Bool.not_eq_false'] at hb; rw [←of_decide_eq_true h2]; exact hb.1.1
theorem bj {c:List Aj} {l:List Br} (hs:BI c l=true) {x:BN}:Gm l (AO l x).type=none:=by
 unfold AO
 cases Jg:Gm l x.type with
 | none=>exact Jg
 | some s =>
  show Gm l s.to=none; unfold Gm; rw [List.find?_eq_none]; intro y hy
  have VV:s ∈ l:=by
   obtain ⟨i,hi,_⟩:=Ic Jg; exact List.mem_of_getElem? hi
  have:=tu hs VV hy
  simpa using this
theorem FE {c:List Aj} {l:List Br} {h:List BN} {root:Int} (hz:Ib c l h root=0) (NT:h.length≤40):Canon c (Yw c l) (DD l (AS h (Ad c l h root))) (BR c l h (Ad c l h root))∧Em c l h (Ad c l h root)=Jc c (DD l (AS h (Ad c l h root))) (BR c l h (Ad c l h root))∧Found (Ad c l h root) h.length∧start root <+: Ad c l h root:=by
 obtain ⟨Ai,hs,Qz,sE,PO⟩:=DG hz; obtain ⟨JG,HQ⟩:=CB Qz; have hF:Found (Ad c l h root) h.length:=PG (fun v w hw=>(Ml Ai hs HQ w hw).2) _ _ _ (Found.start PO); have Bg:start root <+: Ad c l h root:=G2 _ _ _ _; have ss:Ad c l h root=Ao (CR c l h) h.length (start root) 0:=rfl; generalize hO:Ad c l h root=O at hF Bg ss ⊢; have hlen:=EI rfl fun v hv=>⟨hF.low v hv,hF.high v hv⟩
 have im:=hF.len
 have ACf:∀ x,x ∈ AS h O→A4 c x h.length=true:=fun x hx=>by
  unfold AS at hx; obtain ⟨v,_,hv⟩:=List.mem_flatMap.1 hx
  cases hg:h[(v-1).toNat]? with
  | none=>rw [hg] at hv; cases hv
  | some y=>rw [hg] at hv; rw [List.mem_singleton.1 hv]; exact HQ _ (List.mem_of_getElem? hg)
 have Vn:(DD l (AS h O)).Nodup:=ME _ _ _ List.nodup_nil
 refine ⟨⟨?_,fun s KB=>?_,Vn,?_,?_⟩,?_,hF,Bg⟩
 ·have h1:=J2 l (AS h O) []; unfold DD; simp only [List.length_nil] at h1; omega
 ·rcases Nx l (AS h O) [] KB with h' | ⟨x,hx,rfl⟩
  ·cases h'
  ·obtain ⟨i,s,Y⟩:=Bt (CJ hs (ACf x hx)); refine ⟨y9 Ai Y.ti,?_⟩; have:=bj hs (x:=x); unfold Gm at this; unfold Yw; rw [Y.ti,this]; rfl
 ·unfold BR; rw [List.length_map]; omega
 ·have:=NV (ts:=DD l (AS h O)) Ai hs HQ hF h.length 0 (start root) [] (by omega) List.nodup_nil ss.symm (by rw [List.drop_zero]; rfl); rw [List.drop_zero] at this; have e1:(BR c l h O).length=O.length:=by unfold BR; rw [List.length_map,hlen]
  have e2:(start root).length=min O.length 1:=by
   have hle:=Bg.length_le
   by_cases h0:root>0
   ·have:(start root).length=1:=by unfold start; rw [if_pos h0]; rfl
    omega
   ·have Ef:start root=[]:=by unfold start; rw [if_neg h0]
    rw [Ef] at ss
    have:O=[]:=by
     rw [ss]
     cases h.length with
     | zero=>rfl
     | succ m=>rfl
    rw [Ef,this]; rfl
  rw [e1,←e2]; exact this
 ·unfold Em Jc; have e1:(BR c l h O).length=O.length:=by unfold BR; rw [List.length_map,hlen]
  rw [e1]; congr 1; unfold BR; rw [List.flatMap_map]
  have key:∀ (ys:List BN),(∀ x,x ∈ ys→x ∈ AS h O)→ys.flatMap (fun x=>FD c (DD l (AS h O)) O (AO l x))=ys.flatMap (fun x=>MC c (DD l (AS h O)) (Je c O (AO l x))):=by
   intro ys
   induction ys with
   | nil=>intro _; rfl
   | cons y ys ih =>
    intro hy; rw [List.flatMap_cons,List.flatMap_cons,ih fun x hx=>hy x (by simp [hx])]; congr 1; obtain ⟨i,s,Y⟩:=Bt (CJ hs (ACf y (hy y (by simp)))); unfold Je; rw [Y.ti]; unfold FD MC; simp only; rw [Y.ti]; simp only; rw [XJ,bc,J9]
  exact key _ fun x hx=>hx
end Go.Ce
namespace Go.Ce
open Go Go.Proofs Go.Proofs.Tryz
theorem VX.more {b m:List UInt8} {i j:Nat} {e:List Int} (h:VX b i j e):VX (b++m) i j e:=by
 have h1:=h.le; have h2:=h.ij; refine ⟨by rw [List.length_append]; omega,h.ij,?_⟩; have he:bI (b++m)=bI b++bI m:=by unfold bI; rw [List.map_append]
 rw [he,List.drop_append_of_le_length (by rw [K6]; omega),List.drop_append_of_le_length (by rw [K6]; omega),h.eq,List.append_assoc]
theorem bn {b:List UInt8} {c:List Aj} {ask:ByteArray→Option Int} {ts:List ByteArray} {xs:List BN} {j:Nat} (h:Canon c ask ts xs) (hb:VX b 0 j (Jc c ts xs)):Yv b c ask 0=if j=b.length then .ok (xs,j) else .error 4:=by
 unfold Jc at hb; obtain ⟨a4,hb,h5⟩:=hb.split; obtain ⟨a3,hb,h4⟩:=hb.split; obtain ⟨a2,hb,h3⟩:=hb.split; obtain ⟨a1,h1,h2⟩:=hb.split; rw [←oO] at h1; have hl:=h.tsl; have hx:=h.len
 have hh:ou b ask 0=.ok (ts,a3):=by
  unfold ou; rw [JH h1 (by omega) (by omega)]; simp only [if_pos]; rw [JH h2 (by omega) (by omega)]; simp only; rw [bY (out:=[]) h.sym (by simpa using h.nodup) h3]; simp
 unfold Yv; rw [hh]; simp only; rw [JH h4 (by omega) (by omega)]; simp only; rw [kE (out:=[]) h.len h.nodup h.tsl h.scan h5]; simp
theorem R6 {c:List Aj} {l:List Br} {ts:List ByteArray} {xs:List BN} {b m:List UInt8} (Ai:BV c=true) (hs:BI c l=true) (h:Canon c (Yw c l) ts xs) (hb:bI b=Jc c ts xs) (hl:(b++m).length≤100000):tr c l (b++m)=if m=[] then (xs.map (CS c l),min (xs.length:Int) 1,0) else ([],0,4):=by
 have AEy:=(VX.all.2 hb).more (m:=m); have ht:=bn h AEy; unfold tr; rw [if_neg (by rw [Ai]; simp),if_neg (by rw [hs]; simp),if_neg (by omega),ht]
 by_cases hm:m=[]
 ·subst hm; rw [if_pos rfl,if_pos (by simp)]
 ·have:0<m.length:=List.length_pos_iff.2 hm; rw [if_neg hm,if_neg (by rw [List.length_append]; omega)]
end Go.Ce
namespace Go.Ce
open Go Go.Proofs Go.Proofs.Tryz
end Go.Ce
namespace Go.Ce
section
variable {P:Program}
def PW (P:Program) (W:CW) (t:TypeId) (v:Value):Prop:=∃ m,CT P m t W [v]
theorem PW.int {W:CW} {t:TypeId} {k:IntKind} {v:Value} (ht:P.underlying t=some (.int k)) (h:PW P W t v):∃ x,v=.int k x∧(Lit.int k x).wf=true:=by
 obtain ⟨m,h⟩:=h
 cases m with
 | zero=>exact h.elim
 | succ m =>
  simp only [CT,ht] at h; obtain ⟨x,hx,hw⟩:=h
  cases hx
  exact ⟨x,rfl,hw⟩
theorem PW.string {W:CW} {t:TypeId} {v:Value} (ht:P.underlying t=some .string) (h:PW P W t v):∃ x:ByteArray,v=.string x∧x.size≤maxLen:=by
 obtain ⟨m,h⟩:=h
 cases m with
 | zero=>exact h.elim
 | succ m =>
  simp only [CT,ht] at h; obtain ⟨x,hx,hw⟩:=h
  cases hx
  exact ⟨x,rfl,hw⟩
theorem PW.slice {W:CW} {t e:TypeId} {v:Value} (ht:P.underlying t=some (.slice e)) (h:PW P W t v):v=.slice none 0 0∨v=.slice (some ⟨0,0,some 0⟩) 0 0∨∃ k len cap f m,v=.slice (some ⟨k,0,none⟩) len cap∧0<cap∧len≤cap∧cap≤maxLen ∧
  W.obj k=some (.fixed f (len*P.cellsOf e) e)∧∀ i,i<len→CT P m e W (EJ f (P.cellsOf e) (i*P.cellsOf e)):=by
 obtain ⟨m,h⟩:=h
 cases m with
 | zero=>exact h.elim
 | succ m =>
  simp only [CT,ht] at h
  rcases h with h | h | ⟨k,len,cap,f,h1,h2,h3,h4,h5,h6⟩
  ·cases h; exact .inl rfl
  ·cases h; exact .inr (.inl rfl)
  ·cases h1; exact .inr (.inr ⟨k,len,cap,f,m,rfl,h2,h3,h4,h5,h6⟩)
theorem p8.cons {W:CW} {t:TypeId} {ts:List TypeId} {vs:List Value} (h:p8 P (t::ts) W vs):∃ cs vs',vs=TU P t cs::vs'∧CT P 20 t W cs∧p8 P ts W vs':=by
 cases vs with
 | nil=>exact h.elim
 | cons v vs =>
  obtain ⟨⟨cs,rfl,hc⟩,h2⟩:=h; exact ⟨cs,vs,rfl,hc,h2⟩
theorem p8.nil {W:CW} {vs:List Value} (h:p8 P [] W vs):vs=[]:=by
 cases vs with
 | nil=>rfl
 | cons=>exact h.elim
end
end Go.Ce
namespace Go.Ce
open Go Go.Proofs Go.Proofs.Tryz
def TQ (P:Program) (t:TypeId):List (TypeId × Nat):=match P.underlying t with
 | some (.struct fs)=>fs.toList.map fun f=>(f.type,f.offset)
 | _=>[]
theorem MG {P:Program} {m:Nat} {t ty:TypeId} {off n:Nat} {W:CW} {cs:List Value} (hm:(TQ P t).any (fun x=>Nat.beq x.1 ty && Nat.beq x.2 off)=true) (hn:P.cellsOf t=n) (h1:P.cellsOf ty=1) (ho:off<n) (h:CT P m t W cs):∃ v,cs[off]?=some v∧PW P W ty v:=by
 cases m with
 | zero=>exact h.elim
 | succ m =>
  unfold TQ at hm; simp only [CT] at h
  split at hm
  ·rename_i fs hu; rw [hu] at h; obtain ⟨hl,hf⟩:=h; obtain ⟨x,hx,he⟩:=List.any_eq_true.1 hm; obtain ⟨f,hfm,rfl⟩:=List.mem_map.1 hx; simp only [Bool.and_eq_true] at he; have e1:f.type=ty:=Nat.eq_of_beq_eq_true he.1; have e2:f.offset=off:=Nat.eq_of_beq_eq_true he.2; have:=hf f hfm; rw [e1,e2,h1] at this; have A0:off<cs.length:=by omega
   refine ⟨cs[off],List.getElem?_eq_getElem A0,m,?_⟩; rw [List.drop_eq_getElem_cons A0,List.take_succ_cons,List.take_zero] at this; exact this
  ·cases hm
theorem VG (f:Nat→Value):∀ (m k j:Nat),j<m→(EJ f m k)[j]?=some (f (k+j))
 | 0,k,j,h=>by omega
 | m+1,k,0,h=>rfl
 | m+1,k,j+1,h=>by
  unfold EJ; rw [List.getElem?_cons_succ,VG f m (k+1) j (by omega)]; congr 2; omega
theorem iP {α:Type} {Q:Nat→α→Prop}:∀ n:Nat,(∀ i,i<n→∃ x,Q i x)→∃ l:List α,l.length=n∧∀ i x,l[i]?=some x→Q i x
 | 0,_=>⟨[],rfl,fun i x h=>by simp at h⟩
 | n+1,h=>by
  obtain ⟨l,hl,hq⟩:=iP n fun i hi=>h i (by omega); obtain ⟨x,hx⟩:=h n (by omega); refine ⟨l++[x],by simp [hl],fun i y hy=>?_⟩
  by_cases hi:i<l.length
  ·rw [List.getElem?_append_left hi] at hy; exact hq i y hy
  ·rw [List.getElem?_append_right (by omega)] at hy
   have h0:i-l.length=0:=by
    cases hd:i-l.length with
    | zero=>rfl
    | succ k=>rw [hd] at hy; simp at hy
   rw [h0] at hy
   cases hy
   have:i=n:=by omega
   subst this; exact hx
theorem TR {P:Program} {α:Type} {R:Nat→Nat→α→Prop} {t e:TypeId} {n:Nat} (ht:P.underlying t=some (.slice e)) (hn:P.cellsOf e=n) {W:CW} {v:Value} (h:PW P W t v)
  (P0:∀ m cs k off,CT P m e W cs→(∀ j,j<n→W.cell k (off+j)=cs[j]?)→∃ x,R k off x):∃ l,A3 n R v l∧Nq W e v∧l.length≤maxLen:=by
 rcases h.slice ht with rfl | rfl | ⟨k,len,cap,f,m,rfl,h1,h2,h3,h4,h5⟩
 ·exact ⟨[],⟨none,0,rfl,fun i x hx=>by simp at hx⟩,fun a l c hv=>by cases hv; exact ⟨rfl,Nat.le_refl _⟩,Nat.zero_le _⟩
 ·exact ⟨[],⟨_,0,rfl,fun i x hx=>by simp at hx⟩,fun a l c hv=>by cases hv; exact ⟨rfl,Nat.le_refl _⟩,Nat.zero_le _⟩
 ·rw [hn] at h4 h5
  obtain ⟨l,hl,hq⟩:=iP (Q:=fun i x=>R k (i*n) x) len fun i hi=>P0 m _ k (i*n) (h5 i hi) fun j hj=>by
   rw [VG f n (i*n) j hj]; unfold CW.cell; rw [h4]
   have:i*n+j<len*n:=by
    have:(i+1)*n≤len*n:=Nat.mul_le_mul_right _ hi; rw [Nat.succ_mul] at this; omega
   simp only [if_pos this]
  refine ⟨l,⟨_,cap,by rw [hl],fun i x hx=>⟨_,rfl,by simpa using hq i x hx⟩⟩,fun a l c hv=>?_,by omega⟩
  cases hv
  refine ⟨?_,h2⟩; simp [TV,h4]
theorem wf_i64 {x:Int} (h:(Lit.int .i64 x).wf=true):-9223372036854775808≤x∧x≤9223372036854775807:=by
 simp only [Lit.wf,Bool.and_eq_true,decide_eq_true_eq] at h; have h1:IntKind.i64.min=-9223372036854775808:=by rfl
 have h2:IntKind.i64.max=9223372036854775807:=by rfl
 omega
theorem wf_u8 {x:Int} (h:(Lit.int .u8 x).wf=true):0≤x∧x<256:=by
 simp only [Lit.wf,Bool.and_eq_true,decide_eq_true_eq] at h; have h1:IntKind.u8.min=0:=by rfl
 have h2:IntKind.u8.max=255:=by rfl
 omega
section
variable {W:CW} {m:Nat} {cs:List Value} {k off:Nat}
theorem u46:∃ e,prog.underlying 46=some (.slice e):=⟨match prog.underlying 46 with | some (.slice e)=>e | _=>0,by kernel_rfl⟩
theorem c3:prog.cellsOf 3=1:=by kernel_rfl
theorem c5:prog.cellsOf 5=1:=by kernel_rfl
theorem c9:prog.cellsOf 9=1:=by kernel_rfl
theorem c40:prog.cellsOf 40=1:=by kernel_rfl
theorem c45:prog.cellsOf 45=1:=by kernel_rfl
theorem c46:prog.cellsOf 46=1:=by kernel_rfl
theorem c48:prog.cellsOf 48=5:=by kernel_rfl
theorem c56:prog.cellsOf 56=2:=by kernel_rfl
theorem c72:prog.cellsOf 72=2:=by kernel_rfl
theorem ut3:prog.underlying 3=some (.int .i64):=by kernel_rfl
theorem ut5:prog.underlying 5=some (.int .u8):=by kernel_rfl
theorem o5 {v:Value} (h:PW prog W 40 v):∃ l,A3 1 (DW W) v l∧Nq W 3 v∧l.length≤maxLen :=
 TR Hq c3 h fun m cs k off hc hj=>by
  cases m with
  | zero=>exact hc.elim
  | succ m =>
   simp only [CT,ut3] at hc; obtain ⟨x,rfl,hw⟩:=hc; exact ⟨x,by have:=hj 0 (by omega); simpa using this,wf_i64 hw⟩
theorem Yy {n:Nat} {t:TypeId} {o:Nat} (hm:(TQ prog t).any (fun x=>Nat.beq x.1 9 && Nat.beq x.2 o)=true) (hn:prog.cellsOf t=n) (ho:o<n) (hc:CT prog m t W cs) (hj:∀ j,j<n→W.cell k (off+j)=cs[j]?):∃ s:ByteArray,W.cell k (off+o)=some (.string s):=by
 obtain ⟨v,hv,hl⟩:=MG hm hn c9 ho hc; obtain ⟨s,rfl,_⟩:=hl.string u9; exact ⟨s,(hj o ho).trans hv⟩
theorem tw {n:Nat} {t:TypeId} {o:Nat} (hm:(TQ prog t).any (fun x=>Nat.beq x.1 5 && Nat.beq x.2 o)=true) (hn:prog.cellsOf t=n) (ho:o<n) (hc:CT prog m t W cs) (hj:∀ j,j<n→W.cell k (off+j)=cs[j]?):∃ x:Int,W.cell k (off+o)=some (.int .u8 x)∧0≤x∧x<256:=by
 obtain ⟨v,hv,hl⟩:=MG hm hn c5 ho hc; obtain ⟨x,rfl,hw⟩:=hl.int ut5; exact ⟨x,(hj o ho).trans hv,wf_u8 hw⟩
theorem o8 {v:Value} (h:PW prog W 45 v):∃ l,A3 2 (QL W) v l∧Nq W 72 v∧l.length≤maxLen :=
 TR tL c72 h fun m cs k off hc hj=>by
  obtain ⟨s,h0⟩:=Yy (o:=0) (by kernel_rfl) c72 (by omega) hc hj; obtain ⟨x,h1,h2,h3⟩:=tw (o:=1) (by kernel_rfl) c72 (by omega) hc hj; exact ⟨⟨s,x⟩,h0,h1,h2,h3⟩
theorem lh {v:Value} (h:PW prog W 22 v):∃ l,A3 5 (M7 W) v l∧Nq W 48 v∧l.length≤maxLen :=
 TR ky c48 h fun m cs k off hc hj=>by
  obtain ⟨s,h0⟩:=Yy (o:=0) (by kernel_rfl) c48 (by omega) hc hj; obtain ⟨s2,h1⟩:=Yy (o:=1) (by kernel_rfl) c48 (by omega) hc hj; obtain ⟨v2,ZA,SE⟩:=MG (ty:=45) (off:=2) (by kernel_rfl) c48 c45 (by omega) hc; obtain ⟨fs,tV,_⟩:=o8 SE; obtain ⟨x,h3,h4,h5⟩:=tw (o:=3) (by kernel_rfl) c48 (by omega) hc hj; obtain ⟨v4,hv4,hl4⟩:=MG (ty:=46) (off:=4) (by kernel_rfl) c48 c46 (by omega) hc; obtain ⟨e,he⟩:=u46
  have hb:∃ a l k,v4=.slice a l k:=by
   rcases hl4.slice he with rfl | rfl | ⟨k,len,cap,f,m,rfl,_⟩ <;> exact ⟨_,_,_,rfl⟩
  obtain ⟨a,l,c,rfl⟩:=hb; exact ⟨⟨s,s2,fs,x⟩,h0,h1,⟨v2,(hj 2 (by omega)).trans ZA,tV⟩,h3,⟨a,l,c,(hj 4 (by omega)).trans hv4⟩,h4,h5⟩
theorem ZM {v:Value} (h:PW prog W 24 v):∃ l,A3 2 (Gx W) v l∧Nq W 56 v∧l.length≤maxLen :=
 TR WC c56 h fun m cs k off hc hj=>by
  obtain ⟨s,h0⟩:=Yy (o:=0) (by kernel_rfl) c56 (by omega) hc hj; obtain ⟨v2,ZA,SE⟩:=MG (ty:=40) (off:=1) (by kernel_rfl) c56 c40 (by omega) hc; obtain ⟨fs,tV,_⟩:=o5 SE; exact ⟨⟨s,fs⟩,h0,⟨v2,(hj 1 (by omega)).trans ZA,tV⟩⟩
end
end Go.Ce
namespace Go.Ce
open Go Go.Proofs Go.Proofs.Tryz
def Q5 (ro:Option Nat) (K:AB):AB:=Ag (fun e ds W=>K .ret e ds W) K
def Q6 (ro:Option Nat) (K:AB):AB:=Ag (fun e ds W=>wV (A8 prog 22 (e 0) W) fun M5=>wV (AH prog .leq 3 true M5 (.int .i64 12)) fun JU=>wI JU ((Q5 ro K) .normal (Env.of e [(2,(.bool true)),(82,(.bool true)),(81,undef),(73,(.bool true)),(80,undef),(79,undef),(78,undef),(77,undef),(73,(.bool true)),(76,undef),(73,(.bool true)),(75,undef),(73,(.bool true)),(74,undef),(73,(.bool true)),(73,JU),(72,JU),(71,M5),(70,(e 0))]) ds W) (wV (A8 prog 22 (e 0) W) fun Jk=>wV (AH prog .gtr 3 true Jk (.int .i64 100)) fun MT=>wI MT (wV (A8 prog 22 (e 0) W) fun IG=>wV (AH prog .leq 3 true IG (.int .i64 102)) fun LB=>(Q5 ro K) .normal (Env.of e [(2,LB),(82,LB),(81,LB),(73,(.bool false)),(80,LB),(77,(.bool true)),(79,IG),(77,(.bool true)),(78,(e 0)),(77,(.bool true)),(77,MT),(73,(.bool false)),(76,MT),(73,(.bool false)),(75,Jk),(73,(.bool false)),(74,(e 0)),(73,(.bool false)),(73,JU),(72,JU),(71,M5),(70,(e 0))]) ds W) ((Q5 ro K) .normal (Env.of e [(2,(.bool false)),(82,(.bool false)),(81,(.bool false)),(73,(.bool false)),(80,undef),(77,(.bool false)),(79,undef),(77,(.bool false)),(78,undef),(77,(.bool false)),(77,MT),(73,(.bool false)),(76,MT),(73,(.bool false)),(75,Jk),(73,(.bool false)),(74,(e 0)),(73,(.bool false)),(73,JU),(72,JU),(71,M5),(70,(e 0))]) ds W))) K
theorem ACg (v0:Value) (K:AB) (W:CW):AJ prog AM none 13 83 (AK prog 13) (Env.args [v0]) [] W K=(Bj prog AM none 13 83 (.loop (AY prog 13 0)) (Env.of (Env.args [v0]) [(3,(.int .i64 0)),(2,(.bool false))]) [] W (Av 0 (Q6 none K))):=by kernel_rfl
def VH (ro:Option Nat) (K:AB):AB:=Ag (fun e ds W=>wV (AH prog .add 3 true (e 3) (.int .i64 1)) fun Bu=>K .normal (Env.of e [(3,Bu),(14,Bu),(13,(e 3))]) ds W) K
def VI (ro:Option Nat) (K:AB):AB:=Ag (fun e ds W=>Bj prog AM ro 13 83 (.loop (AY prog 13 1)) (Env.of e [(4,(.int .i64 0))]) ds W (Av 2 (Av 1 (VH ro K)))) (Av 1 (VH ro K))
def Q7 (ro:Option Nat) (K:AB):AB:=Ag (fun e ds W=>wI (e 48) ((VI ro K) .ret (Env.of e [(2,(.bool false))]) ds W) ((VI ro K) .normal e ds W)) (VI ro K)
def Q8 (ro:Option Nat) (K:AB):AB:=Ag (fun e ds W=>wV (Bm prog 22 (e 0) (e 3)) fun CH=>wV (BD prog 48 CH 0) fun DE=>wV (ld prog 9 DE W) fun Di=>wV (A8 prog 9 Di W) fun v20=>wV (AH prog .gtr 3 true v20 (.int .i64 70)) fun DQ=>wI DQ ((Q7 ro K) .normal (Env.of e [(48,(.bool true)),(47,undef),(40,(.bool true)),(46,undef),(40,(.bool true)),(45,undef),(40,(.bool true)),(44,undef),(40,(.bool true)),(43,undef),(40,(.bool true)),(42,undef),(40,(.bool true)),(41,undef),(40,(.bool true)),(40,(.bool true)),(39,(.bool true)),(38,undef),(31,(.bool true)),(37,undef),(31,(.bool true)),(36,undef),(31,(.bool true)),(35,undef),(31,(.bool true)),(34,undef),(31,(.bool true)),(33,undef),(31,(.bool true)),(32,undef),(31,(.bool true)),(31,(.bool true)),(30,(.bool true)),(29,undef),(22,(.bool true)),(28,undef),(22,(.bool true)),(27,undef),(22,(.bool true)),(26,undef),(22,(.bool true)),(25,undef),(22,(.bool true)),(24,undef),(22,(.bool true)),(23,undef),(22,(.bool true)),(22,DQ),(21,DQ),(20,v20),(19,Di),(18,DE),(17,CH),(16,(e 3)),(15,(e 0))]) ds W) (wV (Bm prog 22 (e 0) (e 3)) fun DZ=>wV (BD prog 48 DZ 1) fun Et=>wV (ld prog 9 Et W) fun Dv=>wV (A8 prog 9 Dv W) fun Dx=>wV (AH prog .gtr 3 true Dx (.int .i64 70)) fun C5=>wI C5 ((Q7 ro K) .normal (Env.of e [(48,(.bool true)),(47,undef),(40,(.bool true)),(46,undef),(40,(.bool true)),(45,undef),(40,(.bool true)),(44,undef),(40,(.bool true)),(43,undef),(40,(.bool true)),(42,undef),(40,(.bool true)),(41,undef),(40,(.bool true)),(40,(.bool true)),(39,(.bool true)),(38,undef),(31,(.bool true)),(37,undef),(31,(.bool true)),(36,undef),(31,(.bool true)),(35,undef),(31,(.bool true)),(34,undef),(31,(.bool true)),(33,undef),(31,(.bool true)),(32,undef),(31,(.bool true)),(31,C5),(30,C5),(29,C5),(22,(.bool false)),(28,Dx),(22,(.bool false)),(27,Dv),(22,(.bool false)),(26,Et),(22,(.bool false)),(25,DZ),(22,(.bool false)),(24,(e 3)),(22,(.bool false)),(23,(e 0)),(22,(.bool false)),(22,DQ),(21,DQ),(20,v20),(19,Di),(18,DE),(17,CH),(16,(e 3)),(15,(e 0))]) ds W) (wV (Bm prog 22 (e 0) (e 3)) fun EH=>wV (BD prog 48 EH 2) fun FL=>wV (ld prog 45 FL W) fun G9=>wV (A8 prog 45 G9 W) fun F1=>wV (AH prog .gtr 3 true F1 (.int .i64 24)) fun H6=>wI H6 ((Q7 ro K) .normal (Env.of e [(48,(.bool true)),(47,undef),(40,(.bool true)),(46,undef),(40,(.bool true)),(45,undef),(40,(.bool true)),(44,undef),(40,(.bool true)),(43,undef),(40,(.bool true)),(42,undef),(40,(.bool true)),(41,undef),(40,(.bool true)),(40,H6),(39,H6),(38,H6),(31,(.bool false)),(37,F1),(31,(.bool false)),(36,G9),(31,(.bool false)),(35,FL),(31,(.bool false)),(34,EH),(31,(.bool false)),(33,(e 3)),(31,(.bool false)),(32,(e 0)),(31,(.bool false)),(31,C5),(30,C5),(29,C5),(22,(.bool false)),(28,Dx),(22,(.bool false)),(27,Dv),(22,(.bool false)),(26,Et),(22,(.bool false)),(25,DZ),(22,(.bool false)),(24,(e 3)),(22,(.bool false)),(23,(e 0)),(22,(.bool false)),(22,DQ),(21,DQ),(20,v20),(19,Di),(18,DE),(17,CH),(16,(e 3)),(15,(e 0))]) ds W) (wV (Bm prog 22 (e 0) (e 3)) fun Fq=>wV (BD prog 48 Fq 4) fun Nl=>wV (ld prog 46 Nl W) fun GD=>wV (A8 prog 46 GD W) fun EG=>wV (AH prog .gtr 3 true EG (.int .i64 20)) fun Fk=>(Q7 ro K) .normal (Env.of e [(48,Fk),(47,Fk),(40,(.bool false)),(46,EG),(40,(.bool false)),(45,GD),(40,(.bool false)),(44,Nl),(40,(.bool false)),(43,Fq),(40,(.bool false)),(42,(e 3)),(40,(.bool false)),(41,(e 0)),(40,(.bool false)),(40,H6),(39,H6),(38,H6),(31,(.bool false)),(37,F1),(31,(.bool false)),(36,G9),(31,(.bool false)),(35,FL),(31,(.bool false)),(34,EH),(31,(.bool false)),(33,(e 3)),(31,(.bool false)),(32,(e 0)),(31,(.bool false)),(31,C5),(30,C5),(29,C5),(22,(.bool false)),(28,Dx),(22,(.bool false)),(27,Dv),(22,(.bool false)),(26,Et),(22,(.bool false)),(25,DZ),(22,(.bool false)),(24,(e 3)),(22,(.bool false)),(23,(e 0)),(22,(.bool false)),(22,DQ),(21,DQ),(20,v20),(19,Di),(18,DE),(17,CH),(16,(e 3)),(15,(e 0))]) ds W)))) K
def Yz (ro:Option Nat) (K:AB):AB:=Ag (fun e ds W=>wI (e 12) ((Q8 ro K) .normal e ds W) ((Q8 ro K) (.exit 0) e ds W)) (Q8 ro K)
theorem y_ (ro:Option Nat) (e:Env) (ds:List Deferred) (K:AB) (W:CW):AJ prog AM ro 13 83 (AY prog 13 0) e ds W K=(wV (A8 prog 22 (e 0) W) fun v7=>wV (AH prog .lss 3 false (e 3) v7) fun v8=>wI v8 (wV (AH prog .lss 3 true (e 3) (.int .i64 103)) fun v11=>(Yz ro K) .normal (Env.of e [(12,v11),(11,v11),(9,(.bool true)),(10,(e 3)),(9,(.bool true)),(9,v8),(8,v8),(7,v7),(6,(e 0)),(5,(e 3))]) ds W) ((Yz ro K) .normal (Env.of e [(12,(.bool false)),(11,undef),(9,(.bool false)),(10,undef),(9,(.bool false)),(9,v8),(8,v8),(7,v7),(6,(e 0)),(5,(e 3))]) ds W)):=by kernel_rfl
def Y0 (ro:Option Nat) (K:AB):AB:=Ag (fun e ds W=>wV (AH prog .add 3 true (e 4) (.int .i64 1)) fun Ju=>K .normal (Env.of e [(4,Ju),(58,Ju),(57,(e 4))]) ds W) K
theorem zB (ro:Option Nat) (e:Env) (ds:List Deferred) (K:AB) (W:CW):AJ prog AM ro 13 83 (AY prog 13 1) e ds W K=(wV (Bm prog 22 (e 0) (e 3)) fun Hn=>wV (BD prog 48 Hn 2) fun FX=>wV (ld prog 45 FX W) fun E_=>wV (A8 prog 45 E_ W) fun IH=>wV (AH prog .lss 3 false (e 4) IH) fun D0=>wI D0 (wV (Bm prog 22 (e 0) (e 3)) fun Gj=>wV (BD prog 48 Gj 2) fun UH=>wV (ld prog 45 UH W) fun MR=>wV (Bm prog 45 MR (e 4)) fun JV=>wV (BD prog 72 JV 0) fun IV=>wV (ld prog 9 IV W) fun Nm=>wV (A8 prog 9 Nm W) fun Ji=>wV (AH prog .gtr 3 true Ji (.int .i64 70)) fun G8=>wI G8 ((Y0 ro K) .ret (Env.of e [(2,(.bool false)),(69,G8),(68,Ji),(67,Nm),(66,IV),(65,JV),(64,(e 4)),(63,MR),(62,UH),(61,Gj),(60,(e 3)),(59,(e 0)),(56,D0),(55,IH),(54,E_),(53,FX),(52,Hn),(51,(e 3)),(50,(e 0)),(49,(e 4))]) ds W) ((Y0 ro K) .normal (Env.of e [(69,G8),(68,Ji),(67,Nm),(66,IV),(65,JV),(64,(e 4)),(63,MR),(62,UH),(61,Gj),(60,(e 3)),(59,(e 0)),(56,D0),(55,IH),(54,E_),(53,FX),(52,Hn),(51,(e 3)),(50,(e 0)),(49,(e 4))]) ds W)) (K (.exit 2) (Env.of e [(56,D0),(55,IH),(54,E_),(53,FX),(52,Hn),(51,(e 3)),(50,(e 0)),(49,(e 4))]) ds W)):=by kernel_rfl
theorem kL (Q:Ending→CW→Prop) (e:Env) (W:CW):AI prog Tryz.f13 Q .ret e [] W=Q (.returned (e 2)) W:=by kernel_rfl
theorem ACh {Q:Ending→CW→Prop} {v0:Value} {W:CW} (h:AJ prog AM none 13 83 (AK prog 13) (Env.args [v0]) [] W (AI prog Tryz.f13 Q)):AD prog AM 13 [v0] W Q:=AX Tryz.func13 (by kernel_rfl) (by kernel_rfl) (by kernel_rfl) (by kernel_rfl) (by kernel_rfl) h
def Q9 (ro:Option Nat) (K:AB):AB:=Ag (fun e ds W=>K .ret e ds W) K
def Y1 (ro:Option Nat) (K:AB):AB:=Ag (fun e ds W=>wV (A8 prog 24 (e 0) W) fun GD=>wV (AH prog .leq 3 true GD (.int .i64 40)) fun EG=>wI EG ((Q9 ro K) .normal (Env.of e [(2,(.bool true)),(56,(.bool true)),(55,undef),(47,(.bool true)),(54,undef),(53,undef),(52,undef),(51,undef),(47,(.bool true)),(50,undef),(47,(.bool true)),(49,undef),(47,(.bool true)),(48,undef),(47,(.bool true)),(47,EG),(46,EG),(45,GD),(44,(e 0))]) ds W) (wV (A8 prog 24 (e 0) W) fun HL=>wV (AH prog .gtr 3 true HL (.int .i64 1000)) fun F_=>wI F_ (wV (A8 prog 24 (e 0) W) fun FX=>wV (AH prog .leq 3 true FX (.int .i64 1002)) fun E_=>(Q9 ro K) .normal (Env.of e [(2,E_),(56,E_),(55,E_),(47,(.bool false)),(54,E_),(51,(.bool true)),(53,FX),(51,(.bool true)),(52,(e 0)),(51,(.bool true)),(51,F_),(47,(.bool false)),(50,F_),(47,(.bool false)),(49,HL),(47,(.bool false)),(48,(e 0)),(47,(.bool false)),(47,EG),(46,EG),(45,GD),(44,(e 0))]) ds W) ((Q9 ro K) .normal (Env.of e [(2,(.bool false)),(56,(.bool false)),(55,(.bool false)),(47,(.bool false)),(54,undef),(51,(.bool false)),(53,undef),(51,(.bool false)),(52,undef),(51,(.bool false)),(51,F_),(47,(.bool false)),(50,F_),(47,(.bool false)),(49,HL),(47,(.bool false)),(48,(e 0)),(47,(.bool false)),(47,EG),(46,EG),(45,GD),(44,(e 0))]) ds W))) K
theorem ACi (v0:Value) (K:AB) (W:CW):AJ prog AM none 15 57 (AK prog 15) (Env.args [v0]) [] W K=(Bj prog AM none 15 57 (.loop (AY prog 15 0)) (Env.of (Env.args [v0]) [(3,(.int .i64 0)),(2,(.bool false))]) [] W (Av 0 (Y1 none K))):=by kernel_rfl
def VJ (ro:Option Nat) (K:AB):AB:=Ag (fun e ds W=>wV (AH prog .add 3 true (e 3) (.int .i64 1)) fun v9=>K .normal (Env.of e [(3,v9),(9,v9),(8,(e 3))]) ds W) K
def Q_ (ro:Option Nat) (K:AB):AB:=Ag (fun e ds W=>wI (e 43) ((VJ ro K) .ret (Env.of e [(2,(.bool false))]) ds W) ((VJ ro K) .normal e ds W)) (Av 1 (VJ ro K))
theorem zC (ro:Option Nat) (e:Env) (ds:List Deferred) (K:AB) (W:CW):AJ prog AM ro 15 57 (AY prog 15 0) e ds W K=(wV (A8 prog 24 (e 0) W) fun v6=>wV (AH prog .lss 3 false (e 3) v6) fun v7=>wI v7 (wV (Bm prog 24 (e 0) (e 3)) fun CV=>wV (BD prog 56 CV 0) fun C2=>wV (ld prog 9 C2 W) fun Bu=>wV (A8 prog 9 Bu W) fun Bh=>wV (AH prog .gtr 3 true Bh (.int .i64 70)) fun CI=>wI CI ((Q_ ro K) .normal (Env.of e [(43,(.bool true)),(42,undef),(35,(.bool true)),(41,undef),(35,(.bool true)),(40,undef),(35,(.bool true)),(39,undef),(35,(.bool true)),(38,undef),(35,(.bool true)),(37,undef),(35,(.bool true)),(36,undef),(35,(.bool true)),(35,(.bool true)),(34,(.bool true)),(33,undef),(17,(.bool true)),(32,undef),(31,undef),(30,undef),(29,undef),(28,undef),(27,undef),(26,undef),(25,undef),(17,(.bool true)),(24,undef),(17,(.bool true)),(23,undef),(17,(.bool true)),(22,undef),(17,(.bool true)),(21,undef),(17,(.bool true)),(20,undef),(17,(.bool true)),(19,undef),(17,(.bool true)),(18,undef),(17,(.bool true)),(17,CI),(16,CI),(15,Bh),(14,Bu),(13,C2),(12,CV),(11,(e 3)),(10,(e 0)),(7,v7),(6,v6),(5,(e 0)),(4,(e 3))]) ds W) (wV (Bm prog 24 (e 0) (e 3)) fun v20=>wV (BD prog 56 v20 1) fun DQ=>wV (ld prog 40 DQ W) fun D9=>wV (A8 prog 40 D9 W) fun DP=>wV (AH prog .gtr 3 true DP (.int .i64 70)) fun DI=>wI DI (wV (Bm prog 24 (e 0) (e 3)) fun Dx=>wV (BD prog 56 Dx 1) fun C5=>wV (ld prog 40 C5 W) fun v30=>wV (A8 prog 40 v30 W) fun Dg=>wV (AH prog .leq 3 true Dg (.int .i64 200)) fun DY=>wI DY ((Q_ ro K) .normal (Env.of e [(43,(.bool true)),(42,undef),(35,(.bool true)),(41,undef),(35,(.bool true)),(40,undef),(35,(.bool true)),(39,undef),(35,(.bool true)),(38,undef),(35,(.bool true)),(37,undef),(35,(.bool true)),(36,undef),(35,(.bool true)),(35,DY),(34,DY),(33,DY),(17,(.bool false)),(32,DY),(25,(.bool true)),(31,Dg),(25,(.bool true)),(30,v30),(25,(.bool true)),(29,C5),(25,(.bool true)),(28,Dx),(25,(.bool true)),(27,(e 3)),(25,(.bool true)),(26,(e 0)),(25,(.bool true)),(25,DI),(17,(.bool false)),(24,DI),(17,(.bool false)),(23,DP),(17,(.bool false)),(22,D9),(17,(.bool false)),(21,DQ),(17,(.bool false)),(20,v20),(17,(.bool false)),(19,(e 3)),(17,(.bool false)),(18,(e 0)),(17,(.bool false)),(17,CI),(16,CI),(15,Bh),(14,Bu),(13,C2),(12,CV),(11,(e 3)),(10,(e 0)),(7,v7),(6,v6),(5,(e 0)),(4,(e 3))]) ds W) (wV (Bm prog 24 (e 0) (e 3)) fun H6=>wV (BD prog 56 H6 1) fun H7=>wV (ld prog 40 H7 W) fun EC=>wV (A8 prog 40 EC W) fun Df=>wV (AH prog .gtr 3 true Df (.int .i64 203)) fun GH=>(Q_ ro K) .normal (Env.of e [(43,GH),(42,GH),(35,(.bool false)),(41,Df),(35,(.bool false)),(40,EC),(35,(.bool false)),(39,H7),(35,(.bool false)),(38,H6),(35,(.bool false)),(37,(e 3)),(35,(.bool false)),(36,(e 0)),(35,(.bool false)),(35,DY),(34,DY),(33,DY),(17,(.bool false)),(32,DY),(25,(.bool true)),(31,Dg),(25,(.bool true)),(30,v30),(25,(.bool true)),(29,C5),(25,(.bool true)),(28,Dx),(25,(.bool true)),(27,(e 3)),(25,(.bool true)),(26,(e 0)),(25,(.bool true)),(25,DI),(17,(.bool false)),(24,DI),(17,(.bool false)),(23,DP),(17,(.bool false)),(22,D9),(17,(.bool false)),(21,DQ),(17,(.bool false)),(20,v20),(17,(.bool false)),(19,(e 3)),(17,(.bool false)),(18,(e 0)),(17,(.bool false)),(17,CI),(16,CI),(15,Bh),(14,Bu),(13,C2),(12,CV),(11,(e 3)),(10,(e 0)),(7,v7),(6,v6),(5,(e 0)),(4,(e 3))]) ds W)) (wV (Bm prog 24 (e 0) (e 3)) fun H6=>wV (BD prog 56 H6 1) fun H7=>wV (ld prog 40 H7 W) fun EC=>wV (A8 prog 40 EC W) fun Df=>wV (AH prog .gtr 3 true Df (.int .i64 203)) fun GH=>(Q_ ro K) .normal (Env.of e [(43,GH),(42,GH),(35,(.bool false)),(41,Df),(35,(.bool false)),(40,EC),(35,(.bool false)),(39,H7),(35,(.bool false)),(38,H6),(35,(.bool false)),(37,(e 3)),(35,(.bool false)),(36,(e 0)),(35,(.bool false)),(35,(.bool false)),(34,(.bool false)),(33,(.bool false)),(17,(.bool false)),(32,undef),(25,(.bool false)),(31,undef),(25,(.bool false)),(30,undef),(25,(.bool false)),(29,undef),(25,(.bool false)),(28,undef),(25,(.bool false)),(27,undef),(25,(.bool false)),(26,undef),(25,(.bool false)),(25,DI),(17,(.bool false)),(24,DI),(17,(.bool false)),(23,DP),(17,(.bool false)),(22,D9),(17,(.bool false)),(21,DQ),(17,(.bool false)),(20,v20),(17,(.bool false)),(19,(e 3)),(17,(.bool false)),(18,(e 0)),(17,(.bool false)),(17,CI),(16,CI),(15,Bh),(14,Bu),(13,C2),(12,CV),(11,(e 3)),(10,(e 0)),(7,v7),(6,v6),(5,(e 0)),(4,(e 3))]) ds W))) (K (.exit 0) (Env.of e [(7,v7),(6,v6),(5,(e 0)),(4,(e 3))]) ds W)):=by kernel_rfl
theorem kM (Q:Ending→CW→Prop) (e:Env) (W:CW):AI prog Tryz.f15 Q .ret e [] W=Q (.returned (e 2)) W:=by kernel_rfl
theorem ACj {Q:Ending→CW→Prop} {v0:Value} {W:CW} (h:AJ prog AM none 15 57 (AK prog 15) (Env.args [v0]) [] W (AI prog Tryz.f15 Q)):AD prog AM 15 [v0] W Q:=AX Tryz.func15 (by kernel_rfl) (by kernel_rfl) (by kernel_rfl) (by kernel_rfl) (by kernel_rfl) h
end Go.Ce
namespace Go.Ce
open Go Go.Proofs Go.Proofs.Tryz
def Mq (A:Prop) (W:CW):Ending→CW→Prop:=fun e W'=>W'=W∧∃ b,e=.returned (.bool b)∧(b=true→A)
end Go.Ce
namespace Go.Ce
open Go Go.Proofs Go.Proofs.Tryz
theorem zD {i:Nat} (h:i<9223372036854775807):IntKind.i64.wrap ((i:Int)+1)=((i+1:Nat):Int):=by rw [wrap64 (by omega) (by omega)]; rfl
theorem R7 {v0:Value} {l:List BN} {W:CW} (hl:A3 2 (Gx W) v0 l) (hlm:l.length≤maxLen) :
  AD prog AM 15 [v0] W (Mq ((l.length≤40∨1000<l.length)∧l.length≤1002∧∀ x,x ∈ l→x.AL.length≤203) W):=by
 refine ACj ?_; rw [ACi]; have AF1:maxLen=9223372036854775807:=rfl; obtain ⟨a,cap,rfl,hc⟩:=hl; generalize LM:AI prog Tryz.f15 (Mq ((l.length≤40∨1000<l.length)∧l.length≤1002∧∀ x,x ∈ l→x.AL.length≤203) W)=KK
 have HS:∀ (e:Env) (b:Bool),e 2=.bool b→(b=true→(l.length≤40∨1000<l.length)∧l.length≤1002∧∀ x,x ∈ l→x.AL.length≤203)→KK .ret e [] W:=by
  intro e b h2 hb; rw [←LM,kM]; exact ⟨rfl,b,by rw [h2],hb⟩
 refine FT (fun i e ds W'=>ds=[]∧W'=W∧e 0=.slice a l.length cap∧e 3=.int .i64 i∧∀ j x,j<i→l[j]?=some x→x.AL.length≤203) l.length ⟨rfl,rfl,rfl,rfl,by omega⟩ ?_; rintro i e ds W' hi ⟨rfl,rfl,h0,h3,Bg⟩; rw [zC,h0,h3]; simp only [At WC,AA,Ax]
 refine It (fun A0=>?_) (fun Mx=>?_)
 ·have hx:=List.getElem?_eq_getElem A0; obtain ⟨p,rfl,hp⟩:=hc i _ hx; obtain ⟨vm,cj,hm⟩:=hp.AL; obtain ⟨am,cm,rfl,_⟩:=hm; rw [BM WC Ma A0]; simp only [AA,H9,FM]; rw [AF a9 (a:=⟨p.block,p.off+i*2,none⟩) hp.type,AF Nr (a:=⟨p.block,p.off+i*2+1,none⟩) cj]; simp only [AA,Lz u9,At Hq,CO,Ds]
  have fin:∀ (e1:Env) (b:Bool),e1 43=.bool b→e1 0=.slice (some p) l.length cap→e1 3=.int .i64 i→(b=false→l[i].AL.length≤203)→(Q_ none (Ot (fun i e ds lU=>ds=[]∧lU=W'∧e 0=.slice (some p) l.length cap∧e 3=.int .i64 i∧∀ j x,j<i→l[j]?=some x→x.AL.length≤203) i l.length (Av 0 (Y1 none KK)))) .normal e1 [] W':=by
   intro e1 b h43 g0 g3 hb; simp only [Q_,Bi,h43]
   refine AN (fun xv=>?_) (fun r6=>?_)
   ·simp only [VJ,LC,PV,Kv,Wm,Y1]; exact HS _ false rfl nofun
   ·simp only [VJ,Bi,Kv]; simp only [AW,Aa,Nat.reduceEqDiff,↓reduceIte,g0,g3,Ae,AA]; refine ⟨A0,trivial,trivial,trivial,by rw [zD (by omega)],fun j x hj QN=>?_⟩
    rcases Nat.lt_succ_iff_lt_or_eq.1 hj with h2 | rfl
    ·exact Bg j x h2 QN
    ·rw [hx] at QN; cases QN; exact hb r6
  refine AN (fun _=>fin _ true rfl (by exact h0) (by exact h3) nofun) (fun _=>?_)
  refine AN (fun h70=>?_) (fun h70=>?_)
  ·refine AN (fun AEz=>fin _ true rfl (by exact h0) (by exact h3) nofun) (fun AEz=>?_); refine fin _ _ rfl (by exact h0) (by exact h3) fun hb=>?_; have:=of_decide_eq_false hb; omega
  ·refine fin _ _ rfl (by exact h0) (by exact h3) fun hb=>?_; have:=of_decide_eq_false h70; omega
 ·have Ge:i=l.length:=by omega
  simp only [Bi,Rr,JB,Uj,if_true,Y1]; simp only [AW,Aa,Nat.reduceEqDiff,↓reduceIte,h0,At WC,AA,Ds,CO]
  have CA:∀ x,x ∈ l→x.AL.length≤203:=fun s hs=>by
   obtain ⟨j,hj,rfl⟩:=List.getElem_of_mem hs; exact Bg j _ (by omega) (List.getElem?_eq_getElem hj)
  refine AN (fun NT=>?_) (fun NT=>?_)
  ·simp only [Q9,Bi]; have:=of_decide_eq_true NT; exact HS _ true rfl fun _=>⟨.inl (by omega),by omega,CA⟩
  ·refine AN (fun JG=>?_) (fun JG=>?_)
   ·simp only [Q9,Bi]; have JG:=of_decide_eq_true JG; refine HS _ _ rfl fun hb=>?_; have:=of_decide_eq_true hb; exact ⟨.inr (by omega),by omega,CA⟩
   ·simp only [Q9,Bi]; exact HS _ false rfl nofun
end Go.Ce
namespace Go.Ce
open Go Go.Proofs Go.Proofs.Tryz
theorem a46:agg? prog 46=some false:=by kernel_rfl
theorem sT (a:Addr):BD prog 48 (.pointer (some a)) 4=some (.pointer (some ⟨a.block,a.off+4,none⟩)):=by kernel_rfl
def fo (x:Aj):Prop:=x.name.size≤70∧x.By.size≤70∧x.fields.length≤24∧∀ f,f ∈ x.fields→f.name.size≤70
theorem bo {v0:Value} {l:List Aj} {W:CW} (hl:A3 5 (M7 W) v0 l) :
  AD prog AM 13 [v0] W (Mq (l.length≤102∧∀ x,x ∈ l→fo x) W):=by
 refine ACh ?_; rw [ACg]; obtain ⟨a,cap,rfl,hc⟩:=hl; generalize LM:AI prog Tryz.f13 (Mq (l.length≤102∧∀ x,x ∈ l→fo x) W)=KK
 have HS:∀ (e:Env) (b:Bool),e 2=.bool b→(b=true→l.length≤102∧∀ x,x ∈ l→fo x)→KK .ret e [] W:=by
  intro e b h2 hb; rw [←LM,kL]; exact ⟨rfl,b,by rw [h2],hb⟩
 refine FT (fun i e ds W'=>ds=[]∧W'=W∧e 0=.slice a l.length cap∧e 3=.int .i64 i∧∀ j x,j<i→l[j]?=some x→fo x) (min l.length 103) ⟨rfl,rfl,rfl,rfl,by omega⟩ ?_; rintro i e ds W' hi ⟨rfl,rfl,h0,h3,Bg⟩; rw [y_,h0,h3]; simp only [At ky,AA,Ax]
 have EU:∀ e1:Env,e1 0=.slice a l.length cap→(l.length≤102→i=l.length)→(Q6 none KK) .normal e1 [] W':=by
  intro e1 g0 Ge
  have CA:l.length≤102→∀ x,x ∈ l→fo x:=fun h s hs=>by
   have:=Ge h; obtain ⟨j,hj,rfl⟩:=List.getElem_of_mem hs; exact Bg j _ (by omega) (List.getElem?_eq_getElem hj)
  simp only [Q6,Bi,g0,At ky,AA,Ds,CO]
  refine AN (fun oq=>?_) (fun oq=>?_)
  ·simp only [Q5,Bi]; have:=of_decide_eq_true oq; exact HS _ true rfl fun _=>⟨by omega,CA (by omega)⟩
  ·refine AN (fun AE0=>?_) (fun AE0=>?_)
   ·simp only [Q5,Bi]; refine HS _ _ rfl fun hb=>?_; have:=of_decide_eq_true hb; exact ⟨by omega,CA (by omega)⟩
   ·simp only [Q5,Bi]; exact HS _ false rfl nofun
 refine It (fun A0=>?_) (fun Mx=>?_)
 ·simp only [Yz,Bi]; simp only [AW,↓reduceIte]
  refine AN (fun h22=>?_) (fun h22=>?_)
  ·have h22:i<103:=by have:=of_decide_eq_true h22; omega
   have hx:=List.getElem?_eq_getElem A0; obtain ⟨p,rfl,hp⟩:=hc i _ hx; obtain ⟨vf,hvf,hf⟩:=hp.fields; obtain ⟨af,cf,rfl,hfc⟩:=hf; obtain ⟨ab,lb,cb,R0⟩:=hp.binds; have q9:ld prog 9 (.pointer (some ⟨p.block,p.off+i*5,none⟩)) W'=some (.string l[i].name):=AF a9 (a:=⟨p.block,p.off+i*5,none⟩) hp.name; have q9':ld prog 9 (.pointer (some ⟨p.block,p.off+i*5+1,none⟩)) W'=some (.string l[i].By):=AF a9 (a:=⟨p.block,p.off+i*5+1,none⟩) hp.By; have q45:ld prog 45 (.pointer (some ⟨p.block,p.off+i*5+2,none⟩)) W'=some (.slice af l[i].fields.length cf):=AF a45 (a:=⟨p.block,p.off+i*5+2,none⟩) hvf; have q46:ld prog 46 (.pointer (some ⟨p.block,p.off+i*5+4,none⟩)) W'=some (.slice ab lb cb):=AF a46 (a:=⟨p.block,p.off+i*5+4,none⟩) R0; obtain ⟨eb,heb⟩:=u46; simp only [Q8,Bi]; simp only [AW,Aa,Nat.reduceEqDiff,↓reduceIte,h0,h3]; rw [BM ky gu A0]; simp only [AA,Oo,YR,Oq,sT,q9,q9',q45,q46,Lz u9,At tL,At heb,CO]
   have fin:∀ (e1:Env) (b:Bool),e1 48=.bool b→e1 0=.slice (some p) l.length cap→e1 3=.int .i64 i→(b=false→l[i].name.size≤70∧l[i].By.size≤70∧l[i].fields.length≤24)→(Q7 none (Ot (fun i e ds lU=>ds=[]∧lU=W'∧e 0=.slice (some p) l.length cap∧e 3=.int .i64 i∧∀ j x,j<i→l[j]?=some x→fo x) i (min l.length 103) (Av 0 (Q6 none KK)))) .normal e1 [] W':=by
    intro e1 b h48 g0 g3 hb; simp only [Q7,Bi,h48]
    refine AN (fun xv=>?_) (fun r6=>?_)
    ·simp only [VI,VH,LC,PV,Kv,Wm,Q6]; exact HS _ false rfl nofun
    ·obtain ⟨hn,ri,P7⟩:=hb r6; simp only [VI,Bi]; refine FT (fun m e ds lU=>ds=[]∧lU=W'∧e 0=.slice (some p) l.length cap∧e 3=.int .i64 i∧e 4=.int .i64 m∧∀ j x,j<m→l[i].fields[j]?=some x→x.name.size≤70) l[i].fields.length ⟨rfl,rfl,by exact g0,by exact g3,rfl,by omega⟩ ?_; rintro m e2 ds2 W2 hm ⟨rfl,rfl,r0,r3,r4,R3⟩; rw [zB,r0,r3,r4,BM ky gu A0]; simp only [AA,Oq,q45,At tL,Ax]
     refine It (fun zE=>?_) (fun AF2=>?_)
     ·have hxm:=List.getElem?_eq_getElem zE; obtain ⟨q,rfl,hq⟩:=hfc m _ hxm; rw [BM tL s72 zE]; simp only [AA,YT]; rw [AF a9 (a:=⟨q.block,q.off+m*2,none⟩) hq.name]; simp only [AA,Lz u9,CO]
      refine AN (fun h70=>?_) (fun h70=>?_)
      ·simp only [Y0,VH,LC,PV,Kv,Wm,Q6]; exact HS _ false rfl nofun
      ·simp only [Y0,Bi,Kv]; simp only [AW,Aa,Nat.reduceEqDiff,↓reduceIte,r0,r3,r4,Ae,AA]; refine ⟨zE,trivial,trivial,trivial,trivial,by rw [FU (by omega)],fun j x hj QN=>?_⟩
       rcases Nat.lt_succ_iff_lt_or_eq.1 hj with h2 | rfl
       ·exact R3 j x h2 QN
       ·rw [hxm] at QN; cases QN; have:=of_decide_eq_false h70; omega
     ·simp only [Bi,Rr,rK,JB,Kv,Uj,if_true,VH]; simp only [AW,Aa,Nat.reduceEqDiff,↓reduceIte,r0,r3,Ae,AA]; refine ⟨by omega,trivial,trivial,trivial,by rw [FU (by omega)],fun j x hj QN=>?_⟩
      rcases Nat.lt_succ_iff_lt_or_eq.1 hj with h2 | rfl
      ·exact Bg j x h2 QN
      ·rw [hx] at QN; cases QN; refine ⟨hn,ri,P7,fun f hf=>?_⟩; obtain ⟨j2,qR,rfl⟩:=List.getElem_of_mem hf; exact R3 j2 _ (by omega) (List.getElem?_eq_getElem qR)
   refine AN (fun _=>fin _ true rfl (by exact h0) (by exact h3) nofun) (fun h1=>?_); refine AN (fun _=>fin _ true rfl (by exact h0) (by exact h3) nofun) (fun h2=>?_); refine AN (fun _=>fin _ true rfl (by exact h0) (by exact h3) nofun) (fun h4=>?_); refine fin _ _ rfl (by exact h0) (by exact h3) fun _=>?_; have h1:=of_decide_eq_false h1; have h2:=of_decide_eq_false h2; have h4:=of_decide_eq_false h4; exact ⟨by omega,by omega,by omega⟩
  ·have h22:¬i<103:=by have:=of_decide_eq_false h22; omega
   simp only [Q8,Rr,JB,Uj,if_true]; exact EU _ h0 (by omega)
 ·simp only [Yz,Bi]; simp only [AW,↓reduceIte,Ay]; simp only [Q8,Rr,JB,Uj,if_true]; exact EU _ h0 (by omega)
end Go.Ce
namespace Go.Ce
open Go Go.Proofs Go.Proofs.Tryz
def LF (l:List Int):List UInt8:=l.map fun k=>UInt8.ofNat k.toNat
theorem LG:∀ l:List Int,Gn (Bk l)=some (LF l)
 | []=>rfl
 | a::l=>by
  have:=LG l; unfold Bk LF at this ⊢; simp only [List.map_cons,Gn,this]
theorem TS {W:CW} {v:Value} {l:List Int} (h:C8 W 5 1 v (Bk l)):qZ prog 29 9 v W=some (.string ⟨(LF l).toArray⟩):=by
 have h5:prog.underlying 5=some (.int .u8):=by kernel_rfl
 unfold qZ; rw [eR,u9]; have pU:=Ie l; have zq:=LG l; generalize Bk l=cs at h pU zq
 cases h with
 | nil =>
  simp only [iU,h5,Eh,C7]; rw [show Gn []=some (LF l) from zq]
 | @some b len _ hB hl =>
  obtain ⟨c,n,z,ho,hn,hc⟩:=hB; have KO:len=cs.length:=by omega
  have hf:Eh (some ⟨b,0,none⟩) len W=some cs:=by
   simp only [Eh,ho]
   cases hz:Nat.beq len 0 with
   | true =>
    have:=Nat.eq_of_beq_eq_true hz; have:cs=[]:=List.length_eq_zero_iff.1 (by omega); subst this; rfl
   | false =>
    have eW:Nat.ble (0+len) n=true:=Nat.ble_eq_true_of_le (by omega); simp only [cond_false,eW,cond_true]; rw [KO,GO fun j v hj=>by rw [Nat.zero_add]; exact hc j v hj]
  simp only [iU,h5,hf,C7,zq]
theorem zF {c:List Aj} (h1:c.length≤102) (h2:∀ x,x ∈ c→fo x):SG c :=
 ⟨by omega,fun x hx=>by have:=(h2 x hx).2.2.1; omega,fun x hx=>by have:=(h2 x hx).1; omega,fun x hx=>by have:=(h2 x hx).2.1; omega,fun x hx f hf=>by have:=(h2 x hx).2.2.2 f hf; omega⟩
theorem o9:B6 AM 16=true:=by kernel_rfl
theorem fp:B6 AM (16+2000000)=true:=by kernel_rfl
def o_:Ending→CW→Prop:=fun e _=>e=.returned (.bool true)
end Go.Ce
namespace Go.Ce
open Go Go.Proofs Go.Proofs.Tryz
theorem PJ (b:List UInt8):LF (bI b)=b:=by
 unfold LF bI; rw [List.map_map]
 have:((fun k:Int=>UInt8.ofNat k.toNat) ∘ fun x:UInt8=>((x.toNat:Nat):Int))=id:=by
  funext x; simp
 rw [this,List.map_id]
theorem zG (a b d:Value):ext (.tuple #[a,b,d]) 0=some a:=rfl
theorem zH (a b d:Value):ext (.tuple #[a,b,d]) 1=some b:=rfl
theorem zI (a b d:Value):ext (.tuple #[a,b,d]) 2=some d:=rfl
end Go.Ce
namespace Go.Ce
open Go Go.Proofs Go.Proofs.Tryz
def bp (l:List Int):Prop:=∀ x,x ∈ l→0≤x∧x<256
theorem bp.app {a b:List Int} (h:bp a) (g:bp b):bp (a++b):=fun x hx=>(List.mem_append.1 hx).elim (h x) (g x)
theorem bp.flat {α:Type} {f:α→List Int} {l:List α} (h:∀ x,x ∈ l→bp (f x)):bp (l.flatMap f):=fun x hx=>by
 obtain ⟨y,hy,hx⟩:=List.mem_flatMap.1 hx; exact h y hy x hx
theorem Mr (n:Nat):bp (B7 n):=by
 induction n using Nat.strongRecOn with
 | ind n ih =>
  unfold B7
  split
  ·intro x hx; rw [List.mem_singleton.1 hx]; omega
  ·intro x hx
   rcases List.mem_cons.1 hx with rfl | hx
   ·omega
   ·exact ih (n / 128) (by omega) x hx
theorem zJ (b:List UInt8):bp (bI b):=fun x hx=>by
 obtain ⟨y,_,rfl⟩:=List.mem_map.1 hx; have:=y.toNat_lt; omega
theorem bq (c:List Aj) (ix:Nat):∀ (vs:List Int) (k:Nat),bp (Q2 c ix k vs)
 | [],_=>fun x hx=>by cases hx
 | v::vs,k=>by
  rw [Q2]; refine bp.app ?_ (bq c ix vs _); split <;> exact Mr _
theorem kN (c:List Aj) (ts:List ByteArray) (x:BN):bp (MC c ts x):=by
 unfold MC
 split
 ·refine ((Mr _).app ?_).app (bq _ _ _ _)
  split
  ·exact Mr _
  ·intro x hx; cases hx
 ·intro x hx; cases hx
theorem sU (c:List Aj) (ts:List ByteArray) (xs:List BN):bp (Jc c ts xs):=by
 unfold Jc
 refine ((((?_:bp [1]).app (Mr _)).app (bp.flat fun s _=>?_)).app (Mr _)).app (bp.flat fun x _=>kN _ _ _)
 ·intro x hx; rw [List.mem_singleton.1 hx]; omega
 ·exact (Mr _).app (zJ _)
theorem pA {l:List Int} (h:bp l):bI (LF l)=l:=by
 unfold bI LF; rw [List.map_map]
 have:l.map ((fun x:UInt8=>((x.toNat:Nat):Int)) ∘ fun k:Int=>UInt8.ofNat k.toNat)=l.map id:=by
  refine List.map_congr_left fun x hx=>?_; have hb:=h x hx; show ((UInt8.ofNat x.toNat).toNat:Int)=x; rw [UInt8.toNat_ofNat_of_lt' (by show x.toNat<256; omega)]; omega
 rw [this,List.map_id]
structure iQ (c:List Aj) (l:List Br) (h:List BN) (root:Int) (b:List UInt8) (ts:List ByteArray) (xs:List BN):Prop where
 wr:C3 c l h root=(bI b,0)
 ok:BV c=true
 sp:BI c l=true
 can:Canon c (Yw c l) ts xs
 enc:bI b=Jc c ts xs
theorem VK {c:List Aj} {l:List Br} {h:List BN} {root:Int} (hz:Ib c l h root=0) (NT:h.length≤40) (hw:C3 c l h root=(Em c l h (Ad c l h root),0)):∃ b,iQ c l h root b (DD l (AS h (Ad c l h root))) (BR c l h (Ad c l h root)):=by
 obtain ⟨Ai,hs,_⟩:=DG hz; obtain ⟨h1,h2,_⟩:=FE hz NT; have hb:bI (LF (Em c l h (Ad c l h root)))=Em c l h (Ad c l h root):=pA (by rw [h2]; exact sU _ _ _); exact ⟨LF (Em c l h (Ad c l h root)),by rw [hw,hb],Ai,hs,h1,by rw [hb,h2]⟩
end Go.Ce
namespace Go.Ce
open Go Go.Proofs Go.Proofs.Tryz
theorem bt {v:Int} (hv:0<v):∀ (vs o:List Int),v ∈ vs∨v ∈ o→v ∈ vs.foldl visit o
 | [],o,h=>h.elim (fun h=>by cases h) id
 | u::vs,o,h=>by
  refine bt hv vs _ ?_
  rcases h with h | h
  ·rcases List.mem_cons.1 h with rfl | h
   ·right; unfold visit
    by_cases hm:v ∈ o
    ·rw [if_neg (fun q=>q.2 hm)]; exact hm
    ·rw [if_pos ⟨hv,hm⟩]; simp
   ·exact .inl h
  ·exact .inr ((XK o u).subset h)
theorem VL {g:Nat→Int→List Int} {u:Int}:∀ (vs:List Int) (k j:Nat) (v:Int),vs[j]?=some v→u ∈ g (k+j) v→u ∈ C6 g k vs
 | [],k,j,v,h,_=>by simp at h
 | w::vs,k,0,v,h,hu=>by cases h; rw [C6]; exact List.mem_append_left _ hu
 | w::vs,k,j+1,v,h,hu=>by
  rw [C6]; exact List.mem_append_right _ (VL vs (k+1) j v h (by rw [show k+1+j=k+(j+1) by omega]; exact hu))
end Go.Ce
namespace Go.Ce
open Go Go.Proofs Go.Proofs.Tryz
theorem NW {α:Type} {p q:α→Bool}:∀ {l:List α},(∀ x,x ∈ l→p x=q x)→l.findIdx? p=l.findIdx? q
 | [],_=>rfl
 | x::l,h=>by rw [List.findIdx?_cons,List.findIdx?_cons,h x (by simp),NW fun y hy=>h y (by simp [hy])]
theorem NX {refs:Int→List Int} {N:Nat} (hr:∀ v w,w ∈ refs v→w≤N):∀ (m n:Nat) (o:List Int),Found o N→N≤n+m→∀ (j:Nat) v,n≤j→(Ao refs m o n)[j]?=some v→∀ r,r ∈ refs v→0<r→r ∈ Ao refs m o n
 | 0,n,o,hF,hN,j,v,hj,hv,r,_,_=>by
  have hv:o[j]?=some v:=hv; have h1:=hF.len; have h2:=(List.getElem?_eq_some_iff.1 hv).1; omega
 | m+1,n,o,hF,hN,j,v,hj,hv,r,pR,h0=>by
  cases LU:o[n]? with
  | none =>
   rw [Ao,LU] at hv; have h1:=List.getElem?_eq_none_iff.1 LU; have h2:=(List.getElem?_eq_some_iff.1 hv).1; have h2:j<o.length:=h2; omega
  | some w =>
   rw [Ao,LU] at hv ⊢; simp only at hv ⊢
   by_cases pn:j=n
   ·subst pn; have h1:=TO ((PF (refs w) o).trans (G2 refs m _ (j+1))) LU; rw [hv] at h1
    cases h1
    exact (G2 refs m _ _).subset (bt h0 _ _ (.inl pR))
   ·exact NX hr m (n+1) _ (K7 _ _ hF fun w hw=>hr _ w hw) (by omega) j v (by omega) hv r pR h0
theorem MH {refs:Int→List Int} {N:Nat} (hr:∀ v w,w ∈ refs v→w≤N):∀ (m m' n:Nat) (o:List Int),Found o N→N≤n+m→N≤n+m'→Ao refs m o n=Ao refs m' o n
 | 0,m',n,o,hF,h1,h2=>by
  have:=hF.len
  cases m' with
  | zero=>rfl
  | succ m'=>rw [Ao,Ao,List.getElem?_eq_none (by omega)]
 | m+1,m',n,o,hF,h1,h2=>by
  have:=hF.len
  cases LU:o[n]? with
  | none =>
   rw [Ao,LU]
   cases m' with
   | zero=>rfl
   | succ m'=>rw [Ao,LU]
  | some v =>
   have h3:=(List.getElem?_eq_some_iff.1 LU).1; obtain ⟨m',rfl⟩:∃ k,m'=k+1:=⟨m'-1,by omega⟩
   rw [Ao,Ao,LU]; exact MH hr m m' (n+1) _ (K7 _ _ hF fun w hw=>hr _ w hw) (by omega) (by omega)
def fq (c:List Aj) (O M:List Int) (p q:BN):Prop:=p.type=q.type∧p.AL.length=q.AL.length∧∀ (k ix:Nat) x y,BL c p.type=some ix→p.AL[k]?=some x→q.AL[k]?=some y→if A5 c ix k=2 then placeOf O x=placeOf M y else x=y
def MI (c:List Aj) (h:List BN) (O:List Int) (k:List BN) (M:List Int):Prop:=O.length=M.length∧∀ (i:Nat) v w p q,O[i]?=some v→M[i]?=some w→h[(v-1).toNat]?=some p→k[(w-1).toNat]?=some q→fq c O M p q
structure bu (c:List Aj) (A B:List BN) (f:Int→Int) (S:Int→Prop):Prop where
 z:f 0=0
 low:∀ v,S v→0<v
 pos:∀ v,S v→0<f v
 inj:∀ v w,S v→S w→f v=f w→v=w
 at':∀ v,S v→∃ x y ix,A[(v-1).toNat]?=some x∧B[(f v-1).toNat]?=some y∧y.type=x.type∧BL c x.type=some ix∧y.AL.length=x.AL.length∧∀ (k:Nat) u w,x.AL[k]?=some u→y.AL[k]?=some w→if A5 c ix k=2 then w=f u∧(u=0∨S u) else w=u
section
variable {c:List Aj} {A B:List BN} {f:Int→Int} {S:Int→Prop}
theorem bz (I:bu c A B f S) {ix:Nat}:∀ (us ws:List Int) (k:Nat),ws.length=us.length→(∀ (j:Nat) u w,us[j]?=some u→ws[j]?=some w→if A5 c ix (k+j)=2 then w=f u∧(u=0∨S u) else w=u)→C6 (Jd c ix) k ws=(C6 (Jd c ix) k us).map f∧∀ r,r ∈ C6 (Jd c ix) k us→r=0∨S r
 | [],[],k,_,_=>⟨rfl,fun r h=>by cases h⟩
 | u::us,w::ws,k,hl,h=>by
  obtain ⟨h1,h2⟩:=bz I us ws (k+1) (by simpa using hl) fun j u w hu hw=>by
   have:=h (j+1) u w hu hw; rw [show k+(j+1)=k+1+j by omega] at this; exact this
  have h0:=h 0 u w rfl rfl; rw [Nat.add_zero] at h0; rw [C6,C6,List.map_append,h1]; unfold Jd
  by_cases hk:A5 c ix k=2
  ·rw [if_pos hk] at h0; rw [if_pos hk,if_pos hk,h0.1]; refine ⟨rfl,fun r hr=>?_⟩
   rcases List.mem_append.1 hr with hr | hr
   ·rw [List.mem_singleton.1 hr]; exact h0.2
   ·exact h2 r hr
  ·rw [if_neg hk,if_neg hk]; exact ⟨rfl,fun r hr=>h2 r (by rw [List.nil_append] at hr; exact hr)⟩
theorem pB (I:bu c A B f S) {v:Int} (hv:S v):CR c [] B (f v)=(CR c [] A v).map f∧∀ r,r ∈ CR c [] A v→r=0∨S r:=by
 obtain ⟨x,y,ix,hx,hy,ht,hi,hl,hk⟩:=I.at' v hv; unfold CR; rw [hx,hy]; show refsOf c y=(refsOf c x).map f∧∀ r,r ∈ refsOf c x→_; unfold refsOf; rw [ht,hi]; simp only; rw [IK,IK]
 exact bz I _ _ 0 hl fun j u w hu hw=>by
  rw [Nat.zero_add]; exact hk j u w hu hw
theorem kO (I:bu c A B f S) {o:List Int} (ho:∀ v,v ∈ o→S v) {r:Int} (hr:r=0∨S r):visit (o.map f) (f r)=(visit o r).map f∧∀ v,v ∈ visit o r→S v:=by
 unfold visit
 rcases hr with rfl | hr
 ·rw [I.z,if_neg (by omega),if_neg (by omega)]; exact ⟨rfl,ho⟩
 ·have h1:=I.low r hr; have h2:=I.pos r hr
  by_cases hm:r ∈ o
  ·rw [if_neg (fun h=>h.2 (List.mem_map_of_mem hm)),if_neg (fun h=>h.2 hm)]; exact ⟨rfl,ho⟩
  ·rw [if_pos ⟨h2,fun h=>by
    obtain ⟨s,hs,he⟩:=List.mem_map.1 h; rw [I.inj s r (ho s hs) hr he] at hs
    exact hm hs⟩,if_pos ⟨h1,hm⟩]
   refine ⟨by rw [List.map_append]; rfl,fun v hv=>?_⟩
   rcases List.mem_append.1 hv with hv | hv
   ·exact ho v hv
   ·rw [List.mem_singleton.1 hv]; exact hr
theorem fold_map (I:bu c A B f S):∀ (rs o:List Int),(∀ v,v ∈ o→S v)→(∀ r,r ∈ rs→r=0∨S r)→(rs.map f).foldl visit (o.map f)=(rs.foldl visit o).map f∧∀ v,v ∈ rs.foldl visit o→S v
 | [],o,ho,_=>⟨rfl,ho⟩
 | r::rs,o,ho,hr=>by
  obtain ⟨h1,h2⟩:=kO I ho (hr r (by simp)); rw [List.map_cons,List.foldl_cons,List.foldl_cons,h1]; exact fold_map I rs _ h2 fun s hs=>hr s (by simp [hs])
theorem VM (I:bu c A B f S):∀ (m n:Nat) (o:List Int),(∀ v,v ∈ o→S v)→Ao (CR c [] B) m (o.map f) n=(Ao (CR c [] A) m o n).map f∧∀ v,v ∈ Ao (CR c [] A) m o n→S v
 | 0,n,o,ho=>⟨rfl,ho⟩
 | m+1,n,o,ho=>by
  cases LU:o[n]? with
  | none =>
   rw [Ao,Ao,LU,List.getElem?_map,LU]; exact ⟨rfl,ho⟩
  | some v =>
   obtain ⟨h1,h2⟩:=pB I (ho v (List.mem_of_getElem? LU)); obtain ⟨h3,h4⟩:=fold_map I _ o ho h2; rw [Ao,Ao,LU,List.getElem?_map,LU]; simp only [Option.map_some]; rw [h1,h3]; exact VM I m (n+1) _ h4
theorem kP (I:bu c A B f S) {O:List Int} (hO:∀ v,v ∈ O→S v) {u:Int} (hu:u=0∨S u):placeOf (O.map f) (f u)=placeOf O u:=by
 unfold placeOf; rw [List.findIdx?_map,NW (q:=fun x=>decide (x=u)) fun x hx=>?_]; have h1:=I.low x (hO x hx); have h2:=I.pos x (hO x hx); show decide (f x=f u)=decide (x=u)
 rcases hu with rfl | hu
 ·rw [I.z,decide_eq_false (by omega),decide_eq_false (by omega)]
 ·by_cases e:x=u
  ·rw [e,decide_eq_true rfl,decide_eq_true rfl]
  ·rw [decide_eq_false e,decide_eq_false fun h=>e (I.inj x u (hO x hx) hu h)]
theorem kQ (I:bu c A B f S) {root:Int} (hr:root=0∨S root) (hA:∀ v w,w ∈ CR c [] A v→w≤A.length) (hB:∀ v w,w ∈ CR c [] B v→w≤B.length) (h1:root≤A.length) (h2:f root≤B.length):MI c A (Ad c [] A root) B (Ad c [] B (f root)):=by
 have Ef:start (f root)=(start root).map f∧∀ v,v ∈ start root→S v:=by
  unfold start
  rcases hr with rfl | hr
  ·rw [I.z]; exact ⟨rfl,fun v h=>by cases h⟩
  ·have h1:=I.low root hr; have h2:=I.pos root hr; rw [if_pos h1,if_pos h2]; exact ⟨rfl,fun v hv=>by rw [List.mem_singleton.1 hv]; exact hr⟩
 have eA:Ad c [] A root=Ao (CR c [] A) (A.length+B.length) (start root) 0:=MH hA _ _ _ _ (Found.start h1) (by omega) (by omega); have eB:Ad c [] B (f root)=Ao (CR c [] B) (A.length+B.length) (start (f root)) 0:=MH hB _ _ _ _ (Found.start h2) (by omega) (by omega); obtain ⟨h3,h4⟩:=VM I (A.length+B.length) 0 (start root) Ef.2; rw [Ef.1,h3,←eA] at eB; rw [←eA] at h4; rw [eB]; refine ⟨by rw [List.length_map],fun i v w p q hv hw hp hq=>?_⟩; rw [List.getElem?_map,hv] at hw; have hw:f v=w:=Option.some.inj hw; subst hw; obtain ⟨x,y,ix,hx,hy,ht,hi,hl,hk⟩:=I.at' v (h4 v (List.mem_of_getElem? hv)); rw [hp] at hx; cases hx; rw [hq] at hy; cases hy; refine ⟨ht.symm,hl.symm,fun k ix' a b Hv ha hb=>?_⟩; rw [hi] at Hv; cases Hv; have:=hk k a b ha hb
 split
 ·rename_i h; rw [if_pos h] at this; rw [this.1,kP I h4 this.2]
 ·rename_i h; rw [if_neg h] at this; exact this.symm
end
theorem VN {O:List Int} {v:Int} (hv:v ∈ O):O[(placeOf O v-1).toNat]?=some v:=by
 unfold placeOf
 cases hf:O.findIdx? (fun x=>decide (x=v)) with
 | none =>
  rw [List.findIdx?_eq_none_iff] at hf; have:=hf v hv; simp at this
 | some i =>
  obtain ⟨h1,h2,_⟩:=List.findIdx?_eq_some_iff_getElem.1 hf; simp only; rw [show ((i:Int)+1-1).toNat=i by omega,List.getElem?_eq_getElem h1,of_decide_eq_true h2]
theorem N4 {h:List BN} {N:Nat} (hN:N=h.length):∀ {O:List Int},(∀ v,v ∈ O→0<v∧v≤N)→∀ (j:Nat) v,O[j]?=some v→(AS h O)[j]?=h[(v-1).toNat]?
 | [],_,j,v,hj=>by simp at hj
 | u::O,hO,j,v,hj=>by
  have hu:=hO u (by simp); have hx:=List.getElem?_eq_getElem (show (u-1).toNat<h.length by omega); rw [MF hx]
  cases j with
  | zero=>cases hj; exact hx.symm
  | succ j=>exact N4 hN (fun w hw=>hO w (by simp [hw])) j v hj
theorem sV {mp:List Int} {n:Nat} (hl:mp.length=n) (Jq:∀ (k:Nat) m,mp[k]?=some m→0≤m∧m.toNat<n) (hd:∀ (k j:Nat) m,j<k→mp[k]?=some m→mp[j]?≠some m) {k:Nat} (hk:k<n):(k:Int) ∈ mp:=by
 refine Classical.byContradiction fun hn=>?_; have Vn:mp.Nodup:=List.pairwise_iff_getElem.2 fun i j hi hj hij e=>hd j i mp[j] hij (List.getElem?_eq_getElem hj) (by rw [List.getElem?_eq_getElem hi,e])
 have:=Up n (((k:Int)::mp).map (·+1)) ?_ fun v hv=>?_
 ·rw [List.length_map,List.length_cons] at this; omega
 ·unfold List.Nodup; rw [List.pairwise_map]; refine (List.nodup_cons.2 ⟨hn,Vn⟩:((k:Int)::mp).Nodup).imp fun h e=>h (by omega)
 ·obtain ⟨m,hm,rfl⟩:=List.mem_map.1 hv
  rcases List.mem_cons.1 hm with rfl | hm
  ·omega
  ·obtain ⟨j,hj⟩:=List.getElem?_of_mem hm; have:=Jq j m hj; omega
theorem ft {c:List Aj} {l:List Br} {O:List Int} {x:BN} {N ix:Nat} {sx:Aj} (Ai:BV c=true) (hs:BI c l=true) (X:Ru c x N ix sx) (oN:PB l x.type=none) (hw:∀ s t,s ∈ l→BL c s.type=some t→(BH c t).length=s.map.length) :
  (CS c l (Je c O (AO l x))).type=x.type∧(CS c l (Je c O (AO l x))).AL=ID c ix O 0 x.AL∧∀ (k:Nat) u,x.AL[k]?=some u→A5 c ix k=2→u ∈ refsOf c (AO l x):=by
 cases Jg:Gm l x.type with
 | none =>
  have MN:AO l x=x:=by unfold AO; rw [Jg]
  have B0:Je c O x=⟨x.type,ID c ix O 0 x.AL⟩:=by unfold Je; rw [X.ti]
  have Y9:CS c l (Je c O (AO l x))=⟨x.type,ID c ix O 0 x.AL⟩:=by
   rw [MN,B0]; unfold CS; show (match PB l x.type with | none=>_ | some s=>_)=_; rw [oN]
  rw [Y9]; refine ⟨rfl,rfl,fun k u hu hk=>?_⟩; rw [MN]; unfold refsOf; rw [X.ti]; simp only; rw [IK]; refine VL _ 0 k u hu ?_; unfold Jd; rw [Nat.zero_add,if_pos hk]; simp
 | some s =>
  obtain ⟨i,hi,Rv⟩:=Ic Jg; have VV:=List.mem_of_getElem? hi; obtain ⟨t,a,Sp⟩:=YY hs hi; have hit:ix=t:=by have h1:=X.ti; rw [←Rv,Sp.ti] at h1; exact (Option.some.inj h1).symm
  subst hit; have hal:=FO Sp.ai; have Uo:=FO Sp.ti; have VU:=Fl X.si Sp.et X.many; have df:=hw s ix VV Sp.ti; obtain ⟨Jq,hd⟩:=iO Sp; have MN:AO l x=⟨s.to,s.map.map (GU x)⟩:=by unfold AO; rw [Jg]
  have B0:Je c O (AO l x)=⟨s.to,ID c a O 0 (s.map.map (GU x))⟩:=by
   rw [MN]; unfold Je; show (match BL c s.to with | some ix=>_ | none=>_)=_; rw [Sp.ai]
  have Y9:CS c l (Je c O (AO l x))=⟨s.type,J8 s.map (ID c a O 0 (s.map.map (GU x))) (List.replicate (BH c ix).length 0) s.map.length⟩:=by
   rw [B0]; unfold CS; show (match PB l s.to with | none=>_ | some s=>_)=_; rw [oz hs VV]; simp only; rw [Sp.ti]
  have key:∀ (k:Nat) u,x.AL[k]?=some u→∃ j,s.map[j]?=some (k:Int)∧(s.map.map (GU x))[j]?=some u∧A5 c a j=A5 c ix k:=by
   intro k u hu; have h_:=(List.getElem?_eq_some_iff.1 hu).1; obtain ⟨j,hj⟩:=List.getElem?_of_mem (sV df.symm Jq hd (k:=k) (by omega))
   refine ⟨j,hj,?_,?_⟩
   ·rw [List.getElem?_map,hj]; simp only [Option.map_some]; unfold GU; rw [Int.toNat_natCast,hu]; rfl
   ·obtain ⟨n,h1,_,_,h4,_⟩:=Sp.map j (by rw [←Sp.len]; exact (List.getElem?_eq_some_iff.1 hj).1); rw [hj] at h1; cases h1; rw [Int.toNat_natCast] at h4; rw [HO Sp.ea hal,HO Sp.et Uo,h4]
  rw [Y9]
  refine ⟨Rv,?_,fun k u hu hk=>?_⟩
  ·apply List.ext_getElem?; intro k; show (J8 _ _ _ _)[k]?=_; rw [HT,Nat.zero_add]
   cases hu:x.AL[k]? with
   | none =>
    have:=List.getElem?_eq_none_iff.1 hu; rw [List.getElem?_eq_none (by rw [Mp,List.length_replicate]; omega)]; rfl
   | some u =>
    obtain ⟨j,hj,hv,hkd⟩:=key k u hu; have hat:=PC (vs:=ID c a O 0 (s.map.map (GU x))) (z:=List.replicate (BH c ix).length (0:Int)) (fun k m hk=>by rw [List.length_replicate]; exact Jq k m hk) hd s.map.length (Nat.le_refl _) j (k:Int) (List.getElem?_eq_some_iff.1 hj).1 hj; rw [Int.toNat_natCast,HT,hv,Nat.zero_add,hkd] at hat; exact hat
  ·obtain ⟨j,hj,hv,hkd⟩:=key k u hu; rw [MN]; unfold refsOf; show u ∈ (match BL c s.to with | some i=>_ | none=>_); rw [Sp.ai]; simp only; rw [IK]; refine VL _ 0 j u hv ?_; unfold Jd; rw [Nat.zero_add,hkd,if_pos hk]; simp
theorem fu {c:List Aj} {l:List Br} {h:List BN} {root:Int} (hz:Ib c l h root=0) (NT:h.length≤40) (hb:L5 l h (Ad c l h root)=false) (hw:∀ s t,s ∈ l→BL c s.type=some t→(BH c t).length=s.map.length) (hys:Ib c l ((BR c l h (Ad c l h root)).map (CS c l)) (min ((BR c l h (Ad c l h root)).length:Int) 1)=0) :
  MI c h (Ad c [] h root) ((BR c l h (Ad c l h root)).map (CS c l)) (Ad c [] ((BR c l h (Ad c l h root)).map (CS c l)) (min ((BR c l h (Ad c l h root)).length:Int) 1)):=by
 obtain ⟨Ai,hs,Qz,sE,PO⟩:=DG hz; obtain ⟨JG,HQ⟩:=CB Qz; obtain ⟨_,_,tx,_,lS⟩:=DG hys; obtain ⟨_,ACk⟩:=CB tx; obtain ⟨_,_,hF,Bg⟩:=FE hz NT; have LR:=NX (refs:=CR c l h) (N:=h.length) (fun v w hw=>(Ml Ai hs HQ w hw).2) h.length 0 (start root) (Found.start PO) (by omega); have hOd:Ad c l h root=Ao (CR c l h) h.length (start root) 0:=rfl; rw [←hOd] at LR; generalize Ad c l h root=O at hb hF Bg LR hys tx ACk lS hOd ⊢; have hO:∀ v,v ∈ O→0<v∧v≤h.length:=fun v hv=>⟨hF.low v hv,hF.high v hv⟩
 have h0O:(0:Int) ∉ O:=fun hm=>by have:=hF.low 0 hm; omega
 have AE1:(BR c l h O).length=O.length:=by unfold BR; rw [List.length_map,EI rfl hO]
 have hI:bu c h ((BR c l h O).map (CS c l)) (placeOf O) (· ∈ O):=by
  refine ⟨GV h0O,fun v hv=>hF.low v hv,fun v hv=>Rw hv,fun v w hv hw e=>?_,fun v hv=>?_⟩
  ·have h1:=VN hv; have h2:=VN hw; rw [e,h2] at h1; exact (Option.some.inj h1).symm
  ·obtain ⟨x,hx⟩:=PI hF hv; have hxm:=List.mem_of_getElem? hx; obtain ⟨ix,sx,X⟩:=Bt (HQ x hxm); have hxt:(AS h O)[(placeOf O v-1).toNat]?=some x:=by rw [N4 rfl hO _ v (VN hv),hx]
   have oN:PB l x.type=none:=by
    unfold PB; rw [List.find?_eq_none]; intro s KB; have h1:=List.any_eq_false.1 hb x (List.mem_of_getElem? hxt); exact List.any_eq_false.1 (Bool.eq_false_iff.2 h1) s KB
   obtain ⟨p1,p2,p3⟩:=ft (O:=O) Ai hs X oN hw
   refine ⟨x,CS c l (Je c O (AO l x)),ix,hx,?_,p1,X.ti,by rw [p2,J9],fun k u w hu Fy=>?_⟩
   ·unfold BR; rw [List.getElem?_map,List.getElem?_map,hxt]; rfl
   ·rw [p2,HT,hu,Nat.zero_add] at Fy; have Fy:(if A5 c ix k=2 then placeOf O u else u)=w:=Option.some.inj Fy
    by_cases hk:A5 c ix k=2
    ·rw [if_pos hk] at Fy ⊢; refine ⟨Fy.symm,?_⟩
     have hu0:0≤u:=by
      rcases HP Ai X hu with q | q
      ·exact q.2.1
      ·rw [q.1] at hk; cases hk
     rcases Int.lt_or_eq_of_le hu0 with h | h
     ·obtain ⟨j,hj⟩:=List.getElem?_of_mem hv; refine .inr (LR j v (by omega) hj u ?_ h); unfold CR; rw [hx]; exact p3 k u hu hk
     ·exact .inl h.symm
    ·rw [if_neg hk] at Fy ⊢; exact Fy.symm
 have zk:(root=0∨root ∈ O)∧placeOf O root=min ((BR c l h O).length:Int) 1:=by
  rw [AE1]
  by_cases h0:root=0
  ·subst h0
   have:O=[]:=by
    rw [hOd]
    cases h.length with
    | zero=>rfl
    | succ m=>rfl
   subst this; exact ⟨.inl rfl,rfl⟩
  ·have Ef:start root=[root]:=by unfold start; rw [if_pos (by omega)]
   rw [Ef] at Bg; have hm:root ∈ O:=Bg.subset (by simp)
   have hp:placeOf O root=1:=by
    rw [Q4 Bg (by simp)]; unfold placeOf; simp
   have:=Bg.length_le; rw [List.length_singleton] at this; exact ⟨.inr hm,by rw [hp]; omega⟩
 rw [←zk.2] at lS ⊢; exact kQ hI zk.1 (fun v w hw=>(Ml Ai O_ HQ w hw).2) (fun v w hw=>(Ml Ai O_ ACk w hw).2) PO lS
end Go.Ce
namespace Go.Ce
open Go Go.Proofs Go.Proofs.Tryz
theorem AE2:agg? prog 134=some true:=by kernel_rfl
theorem sW:Db prog 134=some 2:=by kernel_rfl
theorem AE3:Gp prog 134=some (.agg #[.int .i64 0,.int .i64 0]):=by kernel_rfl
theorem fv (x y:Int):Sh prog 134 [(0,.int .i64 x),(1,.int .i64 y)]=some (.agg [.int .i64 x,.int .i64 y].toArray):=by kernel_rfl
theorem b_ (a:Addr):BD prog 134 (.pointer (some a)) 0=some (.pointer (some ⟨a.block,a.off,none⟩)):=by kernel_rfl
theorem pC (a:Addr):BD prog 134 (.pointer (some a)) 1=some (.pointer (some ⟨a.block,a.off+1,none⟩)):=by kernel_rfl
theorem zK (x y:Int):AH prog .neq 134 false (.agg [.int .i64 x,.int .i64 y].toArray) (.agg [.int .i64 x,.int .i64 x].toArray)=some (.bool (!(y == x))):=by
 have h:AH prog .neq 134 false (.agg [.int .i64 x,.int .i64 y].toArray) (.agg [.int .i64 x,.int .i64 x].toArray)=((match (some (x == x):Option Bool) with | some true=>(match (some (y == x):Option Bool) with | some true=>some true | some false=>some false | none=>none) | some false=>some false | none=>none).map fun b=>Value.bool (!b)):=by kernel_rfl
 rw [h,beq_self_eq_true]
 cases y == x <;> rfl
structure tz (A:CW) (IC GZ Y2 IB VY bl rl bm rm r1 r2:Nat) (vl vm v1 v3:Value) (c:List Aj) (h k:List BN) (O M:List Int):Prop where
 top:Aq A
 IC:BF A IC 4 [.bool false]
 GZ:BF A GZ 30 [.int .i64 0]
 bk:BF A Y2 78 [.map (some r1),.map (some r2)]
 p16:BF A IB 89 [.pointer (some ⟨bl,0,none⟩)]
 p17:BF A VY 89 [.pointer (some ⟨bm,0,none⟩)]
 wl:LN A bl rl vl O
 wm:LN A bm rm vm M
 cat:D_ A r1 r2 c
 hh:A3 2 (Gx A) v1 h
 kk:A3 2 (Gx A) v3 k
 Ai:BV c=true
 hC:SG c
 HQ:∀ x,x ∈ h→A4 c x h.length=true
 pq:∀ x,x ∈ k→A4 c x k.length=true
 fO:Found O h.length
 fM:Found M k.length
 hl:h.length≤1000
 kl:k.length≤1000
 len:O.length=M.length
structure zL (e:Env) (IC GZ Y2 IB VY:Nat) (vl v1 v3:Value) (n i:Nat):Prop where
 e1:e 1=v1
 e3:e 3=v3
 px:e 10=.pointer (some ⟨IC,0,none⟩)
 ZJ:e 11=.pointer (some ⟨GZ,0,none⟩)
 zM:e 12=.pointer (some ⟨Y2,0,none⟩)
 e16:e 16=.pointer (some ⟨IB,0,none⟩)
 e17:e 17=.pointer (some ⟨VY,0,none⟩)
 e69:e 69=vl
 e70:e 70=.int .i64 n
 e71:e 71=.int .i64 i
def pD (IC GZ:Nat) (A W':CW):Prop:=DF (fun j=>j=IC∨j=GZ) A W'∧Aq W'∧W'.cell IC 0=some (.bool false)∧W'.cell GZ 0=some (.int .i64 0)
section
variable {A:CW} {IC GZ Y2 IB VY bl rl bm rm r1 r2:Nat} {vl vm v1 v3:Value} {c:List Aj} {h k:List BN} {O M:List Int}
theorem tz.ne (I:tz A IC GZ Y2 IB VY bl rl bm rm r1 r2 vl vm v1 v3 c h k O M):IC≠GZ:=by
 rintro rfl; have:=GY I.IC I.GZ
 cases this
theorem pE (I:tz A IC GZ Y2 IB VY bl rl bm rm r1 r2 vl vm v1 v3 c h k O M) {W:CW} (kA:Kp A W) (ht:Aq W) {K:CW→Prop} (hk:∀ W2,pD IC GZ A W2→DF (fun j=>j=IC∨j=GZ) W W2→K W2):wV (B5 prog 4 (.pointer (some ⟨IC,0,none⟩)) (.bool false) W) fun W1=>wV (B5 prog 30 (.pointer (some ⟨GZ,0,none⟩)) (.int .i64 0) W1) K:=by
 have EB:=I.ne; have SL:=I.IC.ext I.top kA; have QZ:=I.GZ.ext I.top kA; refine Am s4 (a:=⟨IC,0,none⟩) rfl SL (by simp) fun W1 PQ ug=>?_; have PQ:Da IC W W1:=PQ; have XL:=QZ.congr (PQ.obj _ (fun e=>EB e.symm)); refine Am s30 (a:=⟨GZ,0,none⟩) rfl XL (by simp) fun W2 H4 qT=>?_; have H4:Da GZ W1 W2:=H4; have jD:=SL.lt ht; have SE:=XL.lt (ht.Az jD PQ); have hc:DF (fun j=>j=IC∨j=GZ) W W2:=⟨by rw [H4.sz,PQ.sz]; exact Nat.le_refl _,fun j _ hj=>by rw [H4.obj j (fun e=>hj (.inr e)),PQ.obj j (fun e=>hj (.inl e))]⟩
 exact hk W2 ⟨(DF.Gl kA).then hc fun _ _ h=>h,(ht.Az jD PQ).Az SE H4,(ug.congr (H4.obj _ EB)).cell rfl,qT.cell rfl⟩ hc
end
theorem Marks.more {B:Nat} {W W':CW} {ds:List Deferred} {r:Nat} (ht:Aq W) (h:Marks B W ds) (ho:∀ j,W.obj j=some .deferred→B≤j→W'.obj j=some .deferred) (hr:W'.obj r=some .deferred) (hB:B≤r) (hl:W.sz≤r):Marks B W' (mark r::ds):=by
 refine Marks.push (h.Gy ho) hr hB fun hm=>?_; obtain ⟨rs,WU,_,Ij⟩:=h; rw [WU] at hm; obtain ⟨r',PO,lS⟩:=List.mem_map.1 hm; have:=ov lS; subst this; have:=ht _ _ (Ij _ PO).1; omega
def VEq (c:List Aj) (O M:List Int) (ix:Nat) (xs ys:List Int) (m:Nat):Prop:=∀ x y,xs[m]?=some x→ys[m]?=some y→if A5 c ix m=2 then placeOf O x=placeOf M y else x=y
section
variable {A:CW} {IC GZ Y2 IB VY bl rl bm rm r1 r2:Nat} {vl vm v1 v3:Value} {c:List Aj} {h k:List BN} {O M:List Int}
theorem fw (I:tz A IC GZ Y2 IB VY bl rl bm rm r1 r2 vl vm v1 v3 c h k O M) {K:AB} {e:Env} {ds:List Deferred} {W:CW} {n i b20 b21 ix:Nat} {p q:BN} {vp vq:Value} {s:Aj} (kA:Kp A W) (ht:Aq W) (hm:Marks A.sz W ds) (E:zL e IC GZ Y2 IB VY vl v1 v3 n i)
  (e20:e 20=.pointer (some ⟨b20,0,none⟩)) (e21:e 21=.pointer (some ⟨b21,0,none⟩)) (B20:BF W b20 56 [.string p.type,vp]) (B21:BF W b21 56 [.string q.type,vq]) (hp:A3 1 (DW W) vp p.AL) (hq:A3 1 (DW W) vq q.AL) (P:Ru c p h.length ix s) (hlen:p.AL.length=q.AL.length) (hi:i<100000)
  (HS:∀ e' EV W',pD IC GZ A W'→Marks A.sz W' EV→e' 10=.pointer (some ⟨IC,0,none⟩)→e' 11=.pointer (some ⟨GZ,0,none⟩)→(∃ m,m<p.AL.length∧¬VEq c O M ix p.AL q.AL m)→K .ret e' EV W')
  (Ai:∀ e' EV W',Kp A W'→Aq W'→Marks A.sz W' EV→zL e' IC GZ Y2 IB VY vl v1 v3 n (i+1)→(∀ m,m<p.AL.length→VEq c O M ix p.AL q.AL m)→K .normal e' EV W') :
  (Mn none K) .normal e ds W:=by
 simp only [Mn,Bi]; obtain ⟨ap,cp,rfl,_⟩:=id hp; rw [E.zM,e20,Ba (vs:=[.map (some r1),.map (some r2)]) (a:=⟨Y2,0,none⟩) iB NS rfl (by omega) (I.bk.ext I.top kA).cells,Ba (vs:=[.string p.type,.slice ap p.AL.length cp]) (a:=⟨b20,0,none⟩) jU Ma rfl (by omega) B20.cells]; simp only [AA]; refine (L7 (r1:=r1) (r2:=r2) (ty:=p.type) (vx:=.slice ap p.AL.length cp) ht).mono fun en W3 ⟨k3,t3,bk,bx,FG,Y9,hbx,cV,cW⟩=>?_; subst FG; refine Ab ?_; have cY:=kA.trans k3; have zA:=kA.sz; have z3:=k3.sz; have AF3:=I.IC.lt I.top; have AF4:=I.GZ.lt I.top; have VU:=Mg I.hC P.many; have SI:elemAt c ix=0→p.AL.length≤(BH c ix).length:=fun he=>by rw [Fl P.si he P.many]; exact Nat.le_refl _
 have U5:=I.cat.kp I.top cY
 have nd:∀ j,W.obj j=some .deferred→¬(j=IC∨j=GZ):=by
  rintro j hj (rfl | rfl)
  ·obtain ⟨x,y,z,ho,_⟩:=I.IC.ext I.top kA; rw [ho] at hj; cases hj
  ·obtain ⟨x,y,z,ho,_⟩:=I.GZ.ext I.top kA; rw [ho] at hj; cases hj
 refine O8 (bk:=bk) (bx:=bx) (r1:=r1) (r2:=r2) (n:=p.AL.length) (ix:=ix) (c:=c) (ty:=p.type) (a1:=22) (a2:=23) t3 rfl P.ti (by omega) SI (fun ro e0 ds K W=>by rw [yl]) (by decide)
  (fun j W'=>Kp W3 W'∧Aq W'∧W'.obj W3.sz=some .deferred∧W3.sz+1<W'.sz∧∀ m,m<j→VEq c O M ix p.AL q.AL m)
  (fun x W'=>x=.ret∧DF (fun j=>j=IC∨j=GZ) W3 W'∧Aq W'∧W'.obj W3.sz=some .deferred∧W3.sz+1<W'.sz∧W'.cell IC 0=some (.bool false)∧W'.cell GZ 0=some (.int .i64 0)∧∃ m,m<p.AL.length∧¬VEq c O M ix p.AL q.AL m)
  (fun j W' h=>⟨h.1.cell t3 (cV.cell rfl),h.1.cell t3 (cV.cell rfl),U5.kp t3 h.1,h.1.cell t3 (cW.cell rfl),_,_,h.1.cell t3 (cW.cell rfl)⟩)
  (fun j W1 W2 ⟨h1,h2,h3,h4,h5⟩ hu _=>⟨h1.Az (by omega) hu,h2.Az h4 hu,by rw [hu.obj _ (by omega)]; exact h3,by rw [hu.sz]; exact h4,h5⟩)
  (fun x W1 W2 ⟨h0,h1,h2,h3,h4,h5,h6,h7⟩ hu _=>⟨h0,h1.then hu.Gy fun j hj he=>by omega,h2.Az h4 hu,by rw [hu.obj _ (by omega)]; exact h3,by rw [hu.sz]; exact h4,by rw [hu.cell (by omega)]; exact h5,by rw [hu.cell (by omega)]; exact h6,h7⟩)
  (fun W2 k t z hd=>⟨k,t,hd,by omega,fun m hm=>by omega⟩)
  (fun j W1 Kb E' hE sB sC hj ⟨k1,t1,hd,hl,hv⟩ XB hn hr _=>?_) (fun W' ⟨k',t',hd,hl,hv⟩=>?_) (fun x W' ⟨h0,h1,h2,h3,h4,h5,h6,h7⟩=>?_)
 ·have g:∀ t v,t≠109→t≠110→t≠22→t≠23→t≠106→t≠107→t≠108→e t=v→E' t=v:=fun t v n1 n2 n3 n4 n5 n6 n7 hv=>by
   rw [hE t n1 n2 n3 n4,←hv]; simp only [AW,Aa,if_neg n5,if_neg n6,if_neg n7]
  have jh:=g 10 _ (by decide) (by decide) (by decide) (by decide) (by decide) (by decide) (by decide) E.px; have t_:=g 11 _ (by decide) (by decide) (by decide) (by decide) (by decide) (by decide) (by decide) E.ZJ; have xy:=g 16 _ (by decide) (by decide) (by decide) (by decide) (by decide) (by decide) (by decide) E.e16; have g17:=g 17 _ (by decide) (by decide) (by decide) (by decide) (by decide) (by decide) (by decide) E.e17; have g20:=g 20 _ (by decide) (by decide) (by decide) (by decide) (by decide) (by decide) (by decide) e20; have g21:=g 21 _ (by decide) (by decide) (by decide) (by decide) (by decide) (by decide) (by decide) e21; have hx:=List.getElem?_eq_getElem hj; have hy:=List.getElem?_eq_getElem (show j<q.AL.length by omega); generalize p.AL[j]=x at hx; generalize q.AL[j]'(by omega)=y at hy; obtain ⟨ax,a1,a2⟩:=om ht hp hx; obtain ⟨ay,c1,c2⟩:=om ht hq hy; have kR:=k3.trans k1; have uA:=cY.trans k1; have l20:∀ W',Kp W W'→ld prog 40 (.pointer (some ⟨b20,0+1,none⟩)) W'=some (.slice ap p.AL.length cp):=fun W' kk=>AF Nr (a:=⟨b20,0+1,none⟩) (kk.cell ht (B20.cell rfl)); have l21:∀ W',Kp W W'→ld prog 40 (.pointer (some ⟨b21,0+1,none⟩)) W'=some vq:=fun W' kk=>AF Nr (a:=⟨b21,0+1,none⟩) (kk.cell ht (B21.cell rfl))
  have x8:∀ (e2:Env) (W6:CW) (x' y':Int),Kp W1 W6→Aq W6→BF W6 W1.sz 134 [.int .i64 x',.int .i64 y']→e2 24=.pointer (some ⟨W1.sz,0,none⟩)→e2 10=.pointer (some ⟨IC,0,none⟩)→e2 11=.pointer (some ⟨GZ,0,none⟩)→(x'=y'↔VEq c O M ix p.AL q.AL j)→(TM (some (W3.sz+1)) Kb) .normal e2 [] W6:=by
   intro e2 W6 x' y' k6 t6 Ja h24 Nz V8 hxy; simp only [TM,Bi]; rw [h24,Ba (vs:=[.int .i64 x',.int .i64 y']) (a:=⟨W1.sz,0,none⟩) AE2 sW rfl (by omega) Ja.cells]; simp only [b_,AA]; rw [AF a3 (a:=⟨W1.sz,0,none⟩) (Ja.cell rfl)]; simp only [AA,fv,zK]; have z6:=k6.sz
   refine AN (fun hb=>?_) (fun hb=>?_)
   ·have hb:¬x'=y':=fun e=>by rw [e] at hb; simp at hb
    rw [Nz,V8]; refine pE I (uA.trans k6) t6 fun W7 hs hc=>?_; have hc3:DF (fun j=>j=IC∨j=GZ) W3 W7:=(DF.Gl (k1.trans k6)).then hc fun _ _ h=>h; have hz7:=hc.sz; refine hr _ _ W7 (by rw [hc.obj _ (by omega) (by omega),k6.obj _ (by omega)]) ⟨rfl,hc3,hs.2.1,by rw [hc.obj _ (by omega) (by omega),k6.obj _ (by omega)]; exact hd,by omega,hs.2.2.1,hs.2.2.2,j,hj,fun hve=>hb (hxy.2 hve)⟩
   ·have hb:x'=y':=by
     simp only [Bool.not_eq_false',beq_iff_eq] at hb; exact hb.symm
    refine hn _ _ W6 (by rw [k6.obj _ (by omega)]) ⟨k1.trans k6,t6,by rw [k6.obj _ (by omega)]; exact hd,by omega,fun m hm=>?_⟩
    by_cases e:m=j
    ·subst e; exact hxy.1 hb
    ·exact hv m (by omega)
  rw [yn,g20,g21,sB,sC]; simp only [FM,AA,l20 W1 kR,l21 W1 kR,a1,a2 W1 kR,c1,c2 W1 kR,fv]; refine HM AE3 sW t1 fun W4 k4 t4 z4 zN=>?_; have zN:BF W4 W1.sz 134 [.int .i64 0,.int .i64 0]:=zN; refine Dj sW (a:=⟨W1.sz,0,none⟩) (ws:=[.int .i64 x,.int .i64 y]) rfl rfl zN (by simp) fun W5 Im LS=>?_; have Im:Da W1.sz W4 W5:=Im; have LS:BF W5 W1.sz 134 [.int .i64 x,.int .i64 y]:=LS; have py:=kR.trans k4; refine ⟨by simp only [l20 W1 kR,l21 W1 kR,a2 W1 kR,c2 W1 kR,l20 W4 py,l21 W4 py,a2 W4 py,c2 W4 py,and_self],trivial,?_⟩; have Yh:Kp W1 W5:=k4.Az (Nat.le_refl _) Im; have t5:=t4.Az (by omega) Im; have pz:=uA.trans Yh; simp only [CD,AA]
  refine AN (fun hk=>?_) (fun hk=>?_)
  ·have hk:A5 c ix j=2:=by simpa using hk
   have wl5:=I.wl.kp I.top pz; have wm5:=I.wm.kp I.top pz; have l16:ld prog 89 (.pointer (some ⟨IB,0,none⟩)) W5=some (.pointer (some ⟨bl,0,none⟩)):=AF pj (a:=⟨IB,0,none⟩) (pz.cell I.top (I.p16.cell rfl)); have zO:ld prog 89 (.pointer (some ⟨VY,0,none⟩)) W5=some (.pointer (some ⟨bm,0,none⟩)):=AF pj (a:=⟨VY,0,none⟩) (pz.cell I.top (I.p17.cell rfl)); have lr:ld prog 98 (.pointer (some ⟨bl,0+1,none⟩)) W5=some (.map (some rl)):=AF a98 (a:=⟨bl,0+1,none⟩) (wl5.w.cell rfl); have lm:ld prog 98 (.pointer (some ⟨bm,0+1,none⟩)) W5=some (.map (some rm)):=AF a98 (a:=⟨bm,0+1,none⟩) (wm5.w.cell rfl); have lx:ld prog 3 (.pointer (some ⟨W1.sz,0,none⟩)) W5=some (.int .i64 x):=AF a3 (a:=⟨W1.sz,0,none⟩) (LS.cell rfl); have ly:ld prog 3 (.pointer (some ⟨W1.sz,0+1,none⟩)) W5=some (.int .i64 y):=AF a3 (a:=⟨W1.sz,0+1,none⟩) (LS.cell rfl); rw [xy,g17]; simp only [l16,zO,Bz,L8,lr,lm,b_,pC,lx,ly,wl5.p.look,wm5.p.look,AA,fv]; refine Dj sW (a:=⟨W1.sz,0,none⟩) (ws:=[.int .i64 (placeOf O x),.int .i64 (placeOf M y)]) rfl rfl LS (by simp) fun W6 V' Ja=>?_; have V':Da W1.sz W5 W6:=V'; have Ja:BF W6 W1.sz 134 [.int .i64 (placeOf O x),.int .i64 (placeOf M y)]:=Ja; refine ⟨by simp only [and_self],trivial,?_⟩
   refine x8 _ W6 _ _ (Yh.Az (Nat.le_refl _) V') (t5.Az (LS.lt t5) V') Ja (by simp only [AW,Nat.reduceEqDiff,↓reduceIte]) (by simp only [AW,Aa,Nat.reduceEqDiff,↓reduceIte,jh]) (by simp only [AW,Aa,Nat.reduceEqDiff,↓reduceIte,t_]) ⟨fun e x2 y2 Vg uV=>?_,fun hve=>?_⟩
   ·rw [hx] at Vg; cases Vg; rw [hy] at uV; cases uV; rw [if_pos hk]; exact e
   ·have:=hve x y hx hy; rw [if_pos hk] at this; exact this
  ·have hk:¬A5 c ix j=2:=by simpa using hk
   refine x8 _ W5 x y Yh t5 LS (by simp only [AW,Nat.reduceEqDiff,↓reduceIte]) (by simp only [AW,Aa,Nat.reduceEqDiff,↓reduceIte,jh]) (by simp only [AW,Aa,Nat.reduceEqDiff,↓reduceIte,t_]) ⟨fun e x2 y2 Vg uV=>?_,fun hve=>?_⟩
   ·rw [hx] at Vg; cases Vg; rw [hy] at uV; cases uV; rw [if_neg hk]; exact e
   ·have:=hve x y hx hy; rw [if_neg hk] at this; exact this
 ·simp only [Bi,rK,Mm]; simp only [AW,Aa,Nat.reduceEqDiff,↓reduceIte,E.e71,Ae,AA]; rw [FU (by omega)]; refine Ai _ _ W' (cY.trans k') t' (hm.more ht (fun j hj _=>by rw [(k3.trans k').obj _ (ht _ _ hj)]; exact hj) hd (by omega) z3) ⟨by simp only [AW,Aa,Nat.reduceEqDiff,↓reduceIte,E.e1],by simp only [AW,Aa,Nat.reduceEqDiff,↓reduceIte,E.e3],by simp only [AW,Aa,Nat.reduceEqDiff,↓reduceIte,E.px],by simp only [AW,Aa,Nat.reduceEqDiff,↓reduceIte,E.ZJ],by simp only [AW,Aa,Nat.reduceEqDiff,↓reduceIte,E.zM],by simp only [AW,Aa,Nat.reduceEqDiff,↓reduceIte,E.e16],by simp only [AW,Aa,Nat.reduceEqDiff,↓reduceIte,E.e17],by simp only [AW,Aa,Nat.reduceEqDiff,↓reduceIte,E.e69],by simp only [AW,Aa,Nat.reduceEqDiff,↓reduceIte,E.e70],by simp only [AW,↓reduceIte]⟩ hv
 ·subst h0; simp only [LC,PV,Mm]; refine HS _ _ W' ⟨(DF.Gl cY).then h1 fun _ _ h=>h,h2,h5,h6⟩ (hm.more ht (fun j hj _=>?_) h3 (by omega) z3) (by simp only [AW,Aa,Nat.reduceEqDiff,↓reduceIte,E.px]) (by simp only [AW,Aa,Nat.reduceEqDiff,↓reduceIte,E.ZJ]) h7; have:=ht _ _ hj; rw [h1.obj _ (by omega) (nd j hj),k3.obj _ this]; exact hj
end
end Go.Ce
namespace Go.Ce
open Go Go.Proofs Go.Proofs.Tryz
section
variable {A:CW} {IC GZ Y2 IB VY bl rl bm rm r1 r2:Nat} {vl vm v1 v3:Value} {c:List Aj} {h k:List BN} {O M:List Int}
def ATh (c:List Aj) (h:List BN) (O:List Int) (k:List BN) (M:List Int) (i:Nat):Prop:=∀ v w p q,O[i]?=some v→M[i]?=some w→h[(v-1).toNat]?=some p→k[(w-1).toNat]?=some q→fq c O M p q
theorem tz.nd (I:tz A IC GZ Y2 IB VY bl rl bm rm r1 r2 vl vm v1 v3 c h k O M) {W:CW} (kA:Kp A W):∀ j,W.obj j=some .deferred→¬(j=IC∨j=GZ):=by
 rintro j hj (rfl | rfl)
 ·obtain ⟨x,y,z,ho,_⟩:=I.IC.ext I.top kA; rw [ho] at hj; cases hj
 ·obtain ⟨x,y,z,ho,_⟩:=I.GZ.ext I.top kA; rw [ho] at hj; cases hj
theorem pF (I:tz A IC GZ Y2 IB VY bl rl bm rm r1 r2 vl vm v1 v3 c h k O M) {K:AB} {e:Env} (E:zL e IC GZ Y2 IB VY vl v1 v3 O.length 0)
  (HS:∀ e' EV W',pD IC GZ A W'→Marks A.sz W' EV→e' 10=.pointer (some ⟨IC,0,none⟩)→e' 11=.pointer (some ⟨GZ,0,none⟩)→¬MI c h O k M→K .ret e' EV W')
  (EU:∀ e' EV W',Kp A W'→Aq W'→Marks A.sz W' EV→zL e' IC GZ Y2 IB VY vl v1 v3 O.length O.length→MI c h O k M→K (.exit 0) e' EV W') :
  Bj prog AM none 20 147 (.loop (AY prog 20 0)) e [] A K:=by
 have hOl:=I.fO.len; have pe:=I.hl; refine FT (fun i e' EV W'=>Kp A W'∧Aq W'∧Marks A.sz W' EV∧zL e' IC GZ Y2 IB VY vl v1 v3 O.length i∧∀ j,j<i→ATh c h O k M j) O.length ⟨.refl _,I.top,.nil _ _,E,fun j hj=>by omega⟩ ?_; rintro i e ds W hi ⟨kA,ht,hm,E,hat⟩; rw [yk,E.e69,E.e70,E.e71,E.e1,E.e3,E.e17]; simp only [AA,Ax]; refine It (fun A0=>?_) (fun Mx=>?_)
 rotate_left
 ·have:i=O.length:=by omega
  subst this; simp only [Uj]; exact EU _ ds W kA ht hm ⟨by simp only [AW,Aa,Nat.reduceEqDiff,↓reduceIte,E.e1],by simp only [AW,Aa,Nat.reduceEqDiff,↓reduceIte,E.e3],by simp only [AW,Aa,Nat.reduceEqDiff,↓reduceIte,E.px],by simp only [AW,Aa,Nat.reduceEqDiff,↓reduceIte,E.ZJ],by simp only [AW,Aa,Nat.reduceEqDiff,↓reduceIte,E.zM],by simp only [AW,Aa,Nat.reduceEqDiff,↓reduceIte,E.e16],by simp only [AW,Aa,Nat.reduceEqDiff,↓reduceIte,E.e17],by simp only [AW,Aa,Nat.reduceEqDiff,↓reduceIte,E.e69],by simp only [AW,Aa,Nat.reduceEqDiff,↓reduceIte,E.e70],by simp only [AW,Aa,Nat.reduceEqDiff,↓reduceIte,E.e71]⟩ ⟨I.len,fun j v w p q hv hw hp hq=>hat j (List.getElem?_eq_some_iff.1 hv).1 v w p q hv hw hp hq⟩
 have hO:=List.getElem?_eq_getElem A0; have hM:=List.getElem?_eq_getElem (show i<M.length by rw [←I.len]; exact A0); generalize O[i]=v at hO; generalize M[i]'(by rw [←I.len]; exact A0)=w at hM; have ui:=I.fO.low v (List.mem_of_getElem? hO); have Z3:=I.fO.high v (List.mem_of_getElem? hO); have hw0:=I.fM.low w (List.mem_of_getElem? hM); have D7:=I.fM.high w (List.mem_of_getElem? hM); obtain ⟨nv,Vm⟩:∃ nv:Nat,v=((nv+1:Nat):Int):=⟨(v-1).toNat,by omega⟩
 obtain ⟨nw,SB⟩:∃ nw:Nat,w=((nw+1:Nat):Int):=⟨(w-1).toNat,by omega⟩
 subst Vm; subst SB; have h_:=I.kl; have hp:=List.getElem?_eq_getElem (show nv<h.length by omega); have hq:=List.getElem?_eq_getElem (show nw<k.length by omega); generalize h[nv]'(by omega)=p at hp; generalize k[nw]'(by omega)=q at hq
 have zP:ATh c h O k M i↔fq c O M p q:=by
  constructor
  ·intro ha; exact ha _ _ p q hO hM (by rw [show (((nv+1:Nat):Int)-1).toNat=nv by omega]; exact hp) (by rw [show (((nw+1:Nat):Int)-1).toNat=nw by omega]; exact hq)
  ·intro ha v' w' p' q' h1 h2 h3 h4; rw [hO] at h1; cases h1; rw [hM] at h2; cases h2; rw [show (((nv+1:Nat):Int)-1).toNat=nv by omega,hp] at h3; cases h3; rw [show (((nw+1:Nat):Int)-1).toNat=nw by omega,hq] at h4; cases h4; exact ha
 obtain ⟨ix,s,P⟩:=Bt (I.HQ p (List.mem_of_getElem? hp)); obtain ⟨iy,s',Q⟩:=Bt (I.pq q (List.mem_of_getElem? hq)); obtain ⟨ao,o1,o2⟩:=fh I.top I.wl.own hO; obtain ⟨am,m1,m2⟩:=fh I.top I.wm.own hM; obtain ⟨ap,vp,p1,p2,p3⟩:=fg I.top I.hh hp; obtain ⟨aq,vq,q1,q2,q3⟩:=fg I.top I.kk hq; have zO:∀ W',Kp A W'→ld prog 89 (.pointer (some ⟨VY,0,none⟩)) W'=some (.pointer (some ⟨bm,0,none⟩)):=fun W' kk=>AF pj (a:=⟨VY,0,none⟩) (kk.cell I.top (I.p17.cell rfl)); have lvm:∀ W',Kp A W'→ld prog 40 (.pointer (some ⟨bm,0,none⟩)) W'=some vm:=fun W' kk=>AF Nr (a:=⟨bm,0,none⟩) (kk.cell I.top (I.wm.w.cell rfl)); have zA:=kA.sz; have k1:Kp W (W.new (.cells .nil 2 #[.string ⟨#[]⟩,.slice none 0 0] 56)):=.new _; have t1:=ht.new (.cells .nil 2 #[.string ⟨#[]⟩,.slice none 0 0] 56); have eS:(W.new (.cells .nil 2 #[.string ⟨#[]⟩,.slice none 0 0] 56)).obj W.sz=some (.cells .nil 2 #[.string ⟨#[]⟩,.slice none 0 0] 56):=by rw [BK,if_pos rfl]
 have SW:(W.new (.cells .nil 2 #[.string ⟨#[]⟩,.slice none 0 0] 56)).sz=W.sz+1:=rfl; have Zk:∀ W0:CW,W0.obj W.sz=some (.cells .nil 2 #[.string ⟨#[]⟩,.slice none 0 0] 56)→H3 (.pointer (some ⟨W.sz,0,none⟩)) ((W.new (.cells .nil 2 #[.string ⟨#[]⟩,.slice none 0 0] 56)).obj W.sz) W0=true:=fun W0 h0=>G1 h0 rfl; generalize i_:W.new (.cells .nil 2 #[.string ⟨#[]⟩,.slice none 0 0] 56)=W1 at k1 t1 eS SW Zk ⊢; have k2:Kp W1 (W1.new (.cells .nil 2 #[.string ⟨#[]⟩,.slice none 0 0] 56)):=.new _; have t2:=t1.new (.cells .nil 2 #[.string ⟨#[]⟩,.slice none 0 0] 56); have cK:(W1.new (.cells .nil 2 #[.string ⟨#[]⟩,.slice none 0 0] 56)).obj W1.sz=some (.cells .nil 2 #[.string ⟨#[]⟩,.slice none 0 0] 56):=by rw [BK,if_pos rfl]
 have Vh:(W1.new (.cells .nil 2 #[.string ⟨#[]⟩,.slice none 0 0] 56)).sz=W1.sz+1:=rfl; have lF:∀ W0:CW,W0.obj W1.sz=some (.cells .nil 2 #[.string ⟨#[]⟩,.slice none 0 0] 56)→H3 (.pointer (some ⟨W1.sz,0,none⟩)) ((W1.new (.cells .nil 2 #[.string ⟨#[]⟩,.slice none 0 0] 56)).obj W1.sz) W0=true:=fun W0 h0=>G1 h0 rfl; generalize hW2:W1.new (.cells .nil 2 #[.string ⟨#[]⟩,.slice none 0 0] 56)=W2 at k2 t2 cK Vh lF ⊢; have fx:W2.obj W.sz=some (.cells .nil 2 #[.string ⟨#[]⟩,.slice none 0 0] 56):=by rw [k2.obj _ (by omega)]; exact eS
 have mkB:∀ b,W2.obj b=some (.cells .nil 2 #[.string ⟨#[]⟩,.slice none 0 0] 56)→BF W2 b 56 [.string ⟨#[]⟩,.slice none 0 0]:=fun b hb=>⟨.nil,2,_,hb,rfl,fun k v hk=>by
  match k,hk with
  | 0,hk=>cases hk; rfl
  | 1,hk=>cases hk; rfl⟩
 have B1:=mkB _ fx; have B2:=mkB _ cK; have ZK:=(kA.trans k1).trans k2; rw [o1]; simp only [AA,o2 W kA,Ak]; rw [show ((nv+1:Nat):Int)-1=(nv:Nat) by omega,wrap64 (by omega) (by omega),p1]; simp only [AA,p2 W2 ZK,zO W2 ZK,Bz,HR,lvm W2 ZK,m1,m2 W2 ZK,Ak]; rw [show ((nw+1:Nat):Int)-1=(nw:Nat) by omega,wrap64 (by omega) (by omega),q1]; simp only [AA,q2 W2 ZK]; refine ⟨trivial,trivial,?_⟩; obtain ⟨au,cs,rfl,_⟩:=id p3; obtain ⟨au',VR,rfl,_⟩:=id q3; refine Dj Ma (a:=⟨W.sz,0,none⟩) (ws:=[.string p.type,.slice au p.AL.length cs]) rfl rfl B1 (by simp) fun W3 LO IJ=>?_; have LO:Da W.sz W2 W3:=LO; have IJ:BF W3 W.sz 56 [.string p.type,.slice au p.AL.length cs]:=IJ; have t3:=t2.Az (by omega) LO; have B23:=B2.congr (LO.obj _ (by omega)); refine Dj Ma (a:=⟨W1.sz,0,none⟩) (ws:=[.string q.type,.slice au' q.AL.length VR]) rfl rfl B23 (by simp) fun W4 j7 Mj=>?_; have j7:Da W1.sz W3 W4:=j7; have Mj:BF W4 W1.sz 56 [.string q.type,.slice au' q.AL.length VR]:=Mj; have t4:=t3.Az (by rw [LO.sz]; omega) j7; have n9:=IJ.congr (j7.obj _ (by omega)); have cY:Kp A W3:=ZK.Az (by omega) LO; have sX:Kp A W4:=cY.Az (by omega) j7; refine ⟨by simp only [p2 W2 ZK,zO W2 ZK,lvm W2 ZK,m2 W2 ZK,q2 W2 ZK,zO W3 cY,lvm W3 cY,m2 W3 cY,q2 W3 cY,and_self],by simp only [Zk W2 fx,lF W2 cK,and_self],?_⟩
 have gM:Marks A.sz W4 ds:=hm.Gy fun j hj _=>by
  have:=ht _ _ hj; rw [j7.obj _ (by omega),LO.obj _ (by omega),k2.obj _ (by omega),k1.obj _ this]; exact hj
 have k33:∀ (e2:Env) (bad:Bool),e2 105=.bool bad→zL e2 IC GZ Y2 IB VY vl v1 v3 O.length i→e2 20=.pointer (some ⟨W.sz,0,none⟩)→e2 21=.pointer (some ⟨W1.sz,0,none⟩)→(bad=true↔¬(p.type=q.type∧p.AL.length=q.AL.length)) →
   (TL none (Ot (fun i e' EV W'=>Kp A W'∧Aq W'∧Marks A.sz W' EV∧zL e' IC GZ Y2 IB VY vl v1 v3 O.length i∧∀ j,j<i→ATh c h O k M j) i O.length K)) .normal e2 ds W4:=by
  intro e2 bad AE4 E2 h20 h21 GX; simp only [TL,Bi,AE4]
  refine AN (fun hb=>?_) (fun hb=>?_)
  ·rw [E2.px,E2.ZJ]; refine pE I sX t4 fun W5 hs hc=>?_; simp only [Mn,Mm,LC,zs,PV,Kv,Wm,zKp]; refine HS _ ds W5 hs (gM.Gy fun j hj _=>by rw [hc.obj _ (t4 _ _ hj) (I.nd sX j hj)]; exact hj) E2.px E2.ZJ fun hA=>?_; have:=zP.1 fun v w p q=>hA.2 i v w p q; exact GX.1 hb ⟨this.1,this.2.1⟩
  ·have hb:p.type=q.type∧p.AL.length=q.AL.length:=Classical.byContradiction fun hn=>by
    have:=GX.2 hn; rw [hb] at this
    cases this
   refine fw I sX t4 gM E2 h20 h21 n9 Mj (p3.imp fun _ _ _ hr=>hr.kp I.top sX) (q3.imp fun _ _ _ hr=>hr.kp I.top sX) P hb.2 (by omega) (fun e' EV W' hs jB jh t_ hx=>?_) (fun e' EV W' k' t' jB E' hv=>?_)
   ·simp only [Wm]; refine HS e' EV W' hs jB jh t_ fun hA=>?_; obtain ⟨m,VU,EB⟩:=hx; have:=zP.1 fun v w p q=>hA.2 i v w p q; exact EB fun x y hx hy=>this.2.2 m ix x y P.ti hx hy
   ·refine ⟨A0,k',t',jB,E',fun j hj=>?_⟩
    by_cases e:j=i
    ·subst e; refine zP.2 ⟨hb.1,hb.2,fun m ix' x y Hv hx hy=>?_⟩; rw [P.ti] at Hv; cases Hv; exact hv m (List.getElem?_eq_some_iff.1 hx).1 x y hx hy
    ·exact hat j (by omega)
 have lt:ld prog 9 (.pointer (some ⟨W.sz,0,none⟩)) W4=some (.string p.type):=AF a9 (a:=⟨W.sz,0,none⟩) (n9.cell rfl); have lt':ld prog 9 (.pointer (some ⟨W1.sz,0,none⟩)) W4=some (.string q.type):=AF a9 (a:=⟨W1.sz,0,none⟩) (Mj.cell rfl); have lv:ld prog 40 (.pointer (some ⟨W.sz,0+1,none⟩)) W4=some (.slice au p.AL.length cs):=AF Nr (a:=⟨W.sz,0+1,none⟩) (n9.cell rfl); have lv':ld prog 40 (.pointer (some ⟨W1.sz,0+1,none⟩)) W4=some (.slice au' q.AL.length VR):=AF Nr (a:=⟨W1.sz,0+1,none⟩) (Mj.cell rfl); simp only [H9,FM,lt,lt',AA,Wi,MZ,lv,lv',At Hq,DK]
 refine AN (fun hb=>?_) (fun hb=>?_)
 ·have hb:¬p.type=q.type:=by simpa using hb
  exact k33 _ true (by simp only [AW,↓reduceIte]) ⟨by simp only [AW,Aa,Nat.reduceEqDiff,↓reduceIte,E.e1],by simp only [AW,Aa,Nat.reduceEqDiff,↓reduceIte,E.e3],by simp only [AW,Aa,Nat.reduceEqDiff,↓reduceIte,E.px],by simp only [AW,Aa,Nat.reduceEqDiff,↓reduceIte,E.ZJ],by simp only [AW,Aa,Nat.reduceEqDiff,↓reduceIte,E.zM],by simp only [AW,Aa,Nat.reduceEqDiff,↓reduceIte,E.e16],by simp only [AW,Aa,Nat.reduceEqDiff,↓reduceIte,E.e17],by simp only [AW,Aa,Nat.reduceEqDiff,↓reduceIte,E.e69],by simp only [AW,Aa,Nat.reduceEqDiff,↓reduceIte,E.e70],by simp only [AW,Aa,Nat.reduceEqDiff,↓reduceIte,E.e71]⟩ (by simp only [AW,Nat.reduceEqDiff,↓reduceIte]) (by simp only [AW,Nat.reduceEqDiff,↓reduceIte]) ⟨fun _ hh=>hb hh.1,fun _=>rfl⟩
 ·have hb:p.type=q.type:=by simpa using hb
  refine k33 _ ((p.AL.length:Int) != (q.AL.length:Int)) (by simp only [AW,↓reduceIte]) ⟨by simp only [AW,Aa,Nat.reduceEqDiff,↓reduceIte,E.e1],by simp only [AW,Aa,Nat.reduceEqDiff,↓reduceIte,E.e3],by simp only [AW,Aa,Nat.reduceEqDiff,↓reduceIte,E.px],by simp only [AW,Aa,Nat.reduceEqDiff,↓reduceIte,E.ZJ],by simp only [AW,Aa,Nat.reduceEqDiff,↓reduceIte,E.zM],by simp only [AW,Aa,Nat.reduceEqDiff,↓reduceIte,E.e16],by simp only [AW,Aa,Nat.reduceEqDiff,↓reduceIte,E.e17],by simp only [AW,Aa,Nat.reduceEqDiff,↓reduceIte,E.e69],by simp only [AW,Aa,Nat.reduceEqDiff,↓reduceIte,E.e70],by simp only [AW,Aa,Nat.reduceEqDiff,↓reduceIte,E.e71]⟩ (by simp only [AW,Nat.reduceEqDiff,↓reduceIte]) (by simp only [AW,Nat.reduceEqDiff,↓reduceIte]) ⟨fun h1 hh=>?_,fun h1=>?_⟩
  ·rw [hh.2] at h1; simp at h1
  ·simp only [bne_iff_ne,ne_eq]; intro e; exact h1 ⟨hb,by omega⟩
end
end Go.Ce
namespace Go.Ce
open Go Go.Proofs Go.Proofs.Tryz
theorem s89:Db prog 89=some 1:=by kernel_rfl
theorem AE5:agg? prog 30=some false:=by kernel_rfl
theorem Y3 (r1 r2:Nat) (a:Option Addr) (n m:Nat):Sh prog 131 [(0,.agg [.map (some r1),.map (some r2)].toArray),(1,.slice a n m)]=some (.agg #[.map (some r1),.map (some r2),.slice a n m]):=by kernel_rfl
theorem cA:Tryz.f20.results.toList=[.cell 10 4,.cell 11 30]:=by kernel_rfl
theorem pG {W:CW} {b k:Nat} {v:Value} (h:W.cell b k=some v):∃ o,W.obj b=some o∧o≠.deferred:=by
 unfold CW.cell at h
 cases ho:W.obj b with
 | none=>rw [ho] at h; cases h
 | some o=>exact ⟨o,rfl,fun e=>by subst e; rw [ho] at h; cases h⟩
theorem Ms {c:List Aj} {h:List BN} {root:Int} (hz:A7 c h root=0):BV c=true∧(¬GS c h≥0)∧0≤root∧root≤h.length:=by
 unfold A7 at hz
 split at hz
 ·rename_i h1
  split at hz
  ·cases hz
  ·rename_i h2
   split at hz
   ·cases hz
   ·rename_i h3; exact ⟨h1,h2,by omega,by omega⟩
 ·cases hz
def FF (c:List Aj) (h:List BN) (a:Int) (k:List BN) (b:Int):Int:=if A7 c h a≠0 then A7 c h a else A7 c k b
def XM (c:List Aj) (h:List BN) (a:Int) (k:List BN) (b:Int) (W:CW):Ending→CW→Prop:=fun en W'=>Kp W W'∧Aq W'∧∃ q,en=.returned (.tuple #[.bool q,.int .i64 (FF c h a k b)])∧(FF c h a k b≠0→q=false)∧(FF c h a k b=0→(q=true↔MI c h (Ad c [] h a) k (Ad c [] k b)))
theorem N5 {v0 v1 v3:Value} {c:List Aj} {h k:List BN} {a b:Int} {W:CW} (ht:Aq W) (hc:A3 5 (M7 W) v0 c) (hC:SG c) (hh:A3 2 (Gx W) v1 h) (hk:A3 2 (Gx W) v3 k) (hv:∀ x,x ∈ h→x.AL.length<100000) (kv:∀ x,x ∈ k→x.AL.length<100000) (hs:h.length<1000000) (ks:k.length<1000000) :
  AD prog AM 20 [v0,v1,.int .i64 a,v3,.int .i64 b] W (XM c h a k b W):=by
 refine ACZ ?_; rw [ACY]; generalize LM:AI prog Tryz.f20 (XM c h a k b W)=KK; obtain ⟨ah,ch,rfl,_⟩:=id hh; obtain ⟨ak,ck,rfl,_⟩:=id hk; refine HM z4 s4 ht fun W0 k0 t0 z0 SL=>?_; have SL:BF W0 W.sz 4 [.bool false]:=SL; refine HM z30 s30 t0 fun W1 k1 t1 z1 QZ=>?_; have QZ:BF W1 W0.sz 30 [.int .i64 0]:=QZ; have SL:=SL.ext t0 k1; have oD:=k0.trans k1
 have fin:∀ (e:Env) (ds:List Deferred) (W':CW) (q:Bool),Kp W W'→Aq W'→Marks W.sz W' ds→W'.cell W.sz 0=some (.bool q)→W'.cell W0.sz 0=some (.int .i64 (FF c h a k b))→e 10=.pointer (some ⟨W.sz,0,none⟩)→e 11=.pointer (some ⟨W0.sz,0,none⟩)→(FF c h a k b≠0→q=false)→(FF c h a k b=0→(q=true↔MI c h (Ad c [] h a) k (Ad c [] k b)))→KK .ret e ds W':=by
  intro e ds W' q k' t' hm c10 c11 Nz V8 ug qT; rw [←LM]; refine R5 t' hm fun W2 g1 g2 g3 t2=>?_
  have cc:∀ {b v},W'.cell b 0=some v→W2.cell b 0=some v:=fun {b v} hb=>by
   obtain ⟨o,ho,EB⟩:=pG hb; rw [Kq ((g1 b o ho EB).trans ho.symm)]; exact hb
  refine bV cA Nz V8 (AF a4 (a:=⟨W.sz,0,none⟩) (cc c10)) (AF AE5 (a:=⟨W0.sz,0,none⟩) (cc c11)) ?_; exact ⟨⟨by rw [g3]; exact k'.sz,fun j hj=>by rw [g2 j hj]; exact k'.obj j hj⟩,t2,q,rfl,ug,qT⟩
 have stop:∀ (e:Env) (W':CW) (er:Int),Kp W1 W'→Aq W'→er=FF c h a k b→e 10=.pointer (some ⟨W.sz,0,none⟩)→e 11=.pointer (some ⟨W0.sz,0,none⟩)→(er=0→¬MI c h (Ad c [] h a) k (Ad c [] k b)) →
   wV (B5 prog 4 (.pointer (some ⟨W.sz,0,none⟩)) (.bool false) W') fun W6=>wV (B5 prog 30 (.pointer (some ⟨W0.sz,0,none⟩)) (.int .i64 er) W6) fun W7=>KK .ret e [] W7:=by
  intro e W' er k' t' her Nz V8 hn; have zW:=k'.sz; have cB:=SL.ext t1 k'; have XL:=QZ.ext t1 k'; refine Am s4 (a:=⟨W.sz,0,none⟩) rfl cB (by simp) fun W6 V' zQ=>?_; have V':Da W.sz W' W6:=V'; have zQ:BF W6 W.sz 4 [.bool false]:=zQ; have cC:=XL.congr (V'.obj _ (by omega)); refine Am s30 (a:=⟨W0.sz,0,none⟩) rfl cC (by simp) fun W7 ZL zR=>?_; have ZL:Da W0.sz W6 W7:=ZL; have zR:BF W7 W0.sz 30 [.int .i64 er]:=zR; have t6:=t'.Az (cB.lt t') V'; refine fin e [] W7 false (((oD.trans k').Az (Nat.le_refl _) V').Az k0.sz ZL) (t6.Az (cC.lt t6) ZL) (.nil _ _) ((zQ.congr (ZL.obj _ (by omega))).cell rfl) (by rw [←her]; exact zR.cell rfl) Nz V8 (fun _=>rfl) fun hz=>⟨fun hf=>(by cases hf),fun hA=>(hn (her.trans hz) hA).elim⟩
 refine (J5 t1 (hc.imp fun _ _ _ hr=>hr.kp ht oD) hC (hh.imp fun _ _ _ hr=>hr.kp ht oD) hv hs).mono fun en W2 ⟨k2,t2,r1,r2,FG,GG⟩=>?_; subst FG; refine Ab ?_; refine BG (Bd _ _) ?_; refine BG (Be _ _) ?_; unfold K3; refine D' (ws:=[.map (some r1),.map (some r2)]) pf NS rfl rfl rfl t2 fun W5 k5 t5 z5 sM=>?_; have Yh:=k2.trans k5; simp only [DK,AA]
 refine AN (fun he=>?_) (fun he=>?_)
 ·have he:A7 c h a≠0:=by simpa using he
  exact stop _ W5 _ Yh t5 (by unfold FF; rw [if_pos he]) rfl rfl fun hz=>(he hz).elim
 have he:A7 c h a=0:=by simpa using he
 have k05:=oD.trans Yh; refine (J5 t5 (hc.imp fun _ _ _ hr=>hr.kp ht k05) hC (hk.imp fun _ _ _ hr=>hr.kp ht k05) kv ks).mono fun en W8 ⟨k8,t8,r1',r2',FG,AFP⟩=>?_; subst FG; refine Ab ?_; refine BG (Bd _ _) ?_; refine BG (Be _ _) ?_; unfold K3; refine D' (ws:=[.map (some r1'),.map (some r2')]) pf NS rfl rfl rfl t8 fun Du k11 t11 z11 _=>?_; have k1B:=(Yh.trans k8).trans k11; simp only [DK,AA]
 refine AN (fun lI=>?_) (fun lI=>?_)
 ·have lI:A7 c k b≠0:=by simpa using lI
  exact stop _ Du _ k1B t11 (by unfold FF; rw [if_neg (by simpa using he)]) rfl rfl fun hz=>(lI hz).elim
 have lI:A7 c k b=0:=by simpa using lI
 have haE:(0:Int)=FF c h a k b:=by unfold FF; rw [if_neg (by simpa using he),lI]
 obtain ⟨Ai,Qz,dg,De⟩:=Ms he; obtain ⟨_,AE6,qE,WK⟩:=Ms lI; obtain ⟨JG,HQ⟩:=CB Qz; obtain ⟨ACl,pq⟩:=CB AE6; have uB:=GG Ai; have n1:Kp Du (Du.new (.cells .nil 1 #[.pointer none] 89)):=.new _; have tn1:=t11.new (.cells .nil 1 #[.pointer none] 89); have eS:(Du.new (.cells .nil 1 #[.pointer none] 89)).obj Du.sz=some (.cells .nil 1 #[.pointer none] 89):=by rw [BK,if_pos rfl]
 have SW:(Du.new (.cells .nil 1 #[.pointer none] 89)).sz=Du.sz+1:=rfl; have Zk:∀ V:CW,V.obj Du.sz=some (.cells .nil 1 #[.pointer none] 89)→H3 (.pointer (some ⟨Du.sz,0,none⟩)) ((Du.new (.cells .nil 1 #[.pointer none] 89)).obj Du.sz) V=true:=fun V h0=>G1 h0 rfl; generalize hV1:Du.new (.cells .nil 1 #[.pointer none] 89)=V1 at n1 tn1 eS SW Zk ⊢; have n2:Kp V1 (V1.new (.cells .nil 1 #[.pointer none] 89)):=.new _; have tn2:=tn1.new (.cells .nil 1 #[.pointer none] 89); have cK:(V1.new (.cells .nil 1 #[.pointer none] 89)).obj V1.sz=some (.cells .nil 1 #[.pointer none] 89):=by rw [BK,if_pos rfl]
 have Vh:(V1.new (.cells .nil 1 #[.pointer none] 89)).sz=V1.sz+1:=rfl; have lF:∀ V:CW,V.obj V1.sz=some (.cells .nil 1 #[.pointer none] 89)→H3 (.pointer (some ⟨V1.sz,0,none⟩)) ((V1.new (.cells .nil 1 #[.pointer none] 89)).obj V1.sz) V=true:=fun V h0=>G1 h0 rfl; generalize hV2:V1.new (.cells .nil 1 #[.pointer none] 89)=V2 at n2 tn2 cK Vh lF ⊢; have fx:V2.obj Du.sz=some (.cells .nil 1 #[.pointer none] 89):=by rw [n2.obj _ (by omega)]; exact eS
 have mkB:∀ b,V2.obj b=some (.cells .nil 1 #[.pointer none] 89)→BF V2 b 89 [.pointer none]:=fun b hb=>⟨.nil,1,_,hb,rfl,fun k v hk=>by
  match k,hk with
  | 0,hk=>cases hk; rfl⟩
 have n12:=n1.trans n2; have k5V:Kp W5 V2:=(k8.trans k11).trans n12; have l12:∀ V,Kp W5 V→ld prog 78 (.pointer (some ⟨W2.sz,0,none⟩)) V=some (.agg [.map (some r1),.map (some r2)].toArray):=fun V kk=>Ba (vs:=[.map (some r1),.map (some r2)]) (a:=⟨W2.sz,0,none⟩) iB NS rfl (by omega) (sM.ext t5 kk).cells; have kWV:Kp W V2:=k05.trans k5V; have uC:D_ V2 r1 r2 c:=uB.kp t2 (k5.trans k5V); rw [l12 V2 k5V]; simp only [AA,Y3]; refine (Mo tn2 uC Ai hC (hh.imp fun _ _ _ hr=>hr.kp ht kWV) HQ (by omega) dg De).mono fun en M4 ⟨fP,t14,bl,rl,vl,FG,ZG,zbl,zrl,nvl,hFl⟩=>?_; subst FG; refine Ab ?_; have ACm:=k5V.trans fP; rw [l12 M4 ACm]; simp only [AA,Y3]; refine (Mo t14 (uC.kp tn2 fP) Ai hC (hk.imp fun _ _ _ hr=>hr.kp ht (kWV.trans fP)) pq (by omega) qE WK).mono fun en CQ ⟨z_,t16,bm,rm,vm,FG,hwm,zbm,zrm,nvm,hFm⟩=>?_; subst FG; refine Ab ?_; have kT:=fP.trans z_; have AF5:=kT.sz; have AF6:=fP.sz; have AF7:=k1B.sz; refine ⟨trivial,trivial,?_⟩; refine Am s89 (a:=⟨Du.sz,0,none⟩) (v:=.pointer (some ⟨bl,0,none⟩)) rfl ((mkB _ fx).ext tn2 kT) (by simp) fun LI fy V5=>?_; have fy:Da Du.sz CQ LI:=fy; have V5:BF LI Du.sz 89 [.pointer (some ⟨bl,0,none⟩)]:=V5; have t18:=t16.Az (by omega) fy; have kU:=((mkB _ cK).ext tn2 kT).congr (fy.obj _ (by omega)); refine Am s89 (a:=⟨V1.sz,0,none⟩) (v:=.pointer (some ⟨bm,0,none⟩)) rfl kU (by simp) fun A kV kU=>?_; have kV:Da V1.sz LI A:=kV; have kU:BF A V1.sz 89 [.pointer (some ⟨bm,0,none⟩)]:=kU; have tA:=t18.Az (by rw [fy.sz]; omega) kV; have V5:=V5.congr (kV.obj _ (by omega)); have oA:∀ j,j≠Du.sz→j≠V1.sz→A.obj j=CQ.obj j:=fun j h1 h2=>by rw [kV.obj j h2,fy.obj j h1]
 have kA:Kp Du A:=((n12.trans kT).Az (Nat.le_refl _) fy).Az (by omega) kV; refine ⟨by simp only [l12 M4 ACm,l12 V2 k5V,and_self],by simp only [Zk V2 fx,lF V2 cK,Zk M4 (by rw [fP.obj _ (by omega)]; exact fx),lF M4 (by rw [fP.obj _ (by omega)]; exact cK),Zk CQ (by rw [kT.obj _ (by omega)]; exact fx),lF CQ (by rw [kT.obj _ (by omega)]; exact cK),and_self],?_⟩
 have wkA:∀ {V:CW} {bw rp:Nat} {vo:Value} {o:List Int},Kp V CQ→Aq V→LN V bw rp vo o→V2.sz≤bw→V2.sz≤rp→B9 V2.sz vo→LN A bw rp vo o:=fun {V bw rp vo o} kk tt hw z1 z2 nv=>by
  have hw:=hw.kp tt kk; refine ⟨hw.w.congr (oA _ (by omega) (by omega)),O9 hw.own fun j hj=>?_,hw.p.congr (oA _ (by omega) (by omega))⟩; obtain ⟨b',l',c',e1,e2⟩:=hj; have:=nv b' l' c' e1; exact oA _ (by omega) (by omega)
 have wl:=wkA z_ t14 ZG zbl zrl nvl; have wm:=wkA (.refl _) t16 hwm (by omega) (by omega) fun b' l' c' e1=>by have:=nvm b' l' c' e1; omega
 have k5A:Kp W5 A:=(k8.trans k11).trans kA; have zS:=k1B.trans kA; have l16:ld prog 89 (.pointer (some ⟨Du.sz,0,none⟩)) A=some (.pointer (some ⟨bl,0,none⟩)):=AF pj (a:=⟨Du.sz,0,none⟩) (V5.cell rfl); have zO:ld prog 89 (.pointer (some ⟨V1.sz,0,none⟩)) A=some (.pointer (some ⟨bm,0,none⟩)):=AF pj (a:=⟨V1.sz,0,none⟩) (kU.cell rfl); have lvl:ld prog 40 (.pointer (some ⟨bl,0,none⟩)) A=some vl:=AF Nr (a:=⟨bl,0,none⟩) (wl.w.cell rfl); have lvm:ld prog 40 (.pointer (some ⟨bm,0,none⟩)) A=some vm:=AF Nr (a:=⟨bm,0,none⟩) (wm.w.cell rfl); simp only [l16,zO,Bz,HR,lvl,lvm,AA,Jy Hq wl.own,Jy Hq wm.own,CE,DK]; refine ⟨by simp only [and_self],trivial,?_⟩
 refine AN (fun hl=>?_) (fun hl=>?_)
 ·refine stop _ A 0 zS tA haE rfl rfl fun _ hA=>?_; have hA:=hA.1; rw [hA] at hl; simp at hl
 have hl:(Ad c [] h a).length=(Ad c [] k b).length:=by
  have:((Ad c [] h a).length:Int)=((Ad c [] k b).length:Int):=by simpa using hl
  omega
 have I:tz A W.sz W0.sz W2.sz Du.sz V1.sz bl rl bm rm r1 r2 vl vm (.slice ah h.length ch) (.slice ak k.length ck) c h k (Ad c [] h a) (Ad c [] k b) :=
  ⟨tA,SL.ext t1 zS,QZ.ext t1 zS,sM.ext t5 k5A,V5,kU,wl,wm,uB.kp t2 (k5.trans k5A),hh.imp fun _ _ _ hr=>hr.kp ht (oD.trans zS),hk.imp fun _ _ _ hr=>hr.kp ht (oD.trans zS),Ai,hC,HQ,pq,hFl,hFm,JG,ACl,hl⟩
 have hmW:∀ W' ds,Marks A.sz W' ds→Marks W.sz W' ds:=fun W' ds ⟨rs,g1,g2,g3⟩=>⟨rs,g1,g2,fun r hr=>⟨(g3 r hr).1,by have:=(g3 r hr).2; have:=(oD.trans zS).sz; omega⟩⟩
 have zT:=oD.trans zS; have zWA:=zT.sz
 refine pF I ⟨rfl,rfl,rfl,rfl,rfl,rfl,rfl,rfl,rfl,rfl⟩ (fun e' EV W' KB jB jh t_ hnA=>?_) (fun e' EV W' k' t' jB E' hA=>?_)
 ·simp only [LC,PV,Yt]; refine fin e' EV W' false (DF.kp zT KB.1 ?_) KB.2.1 (hmW _ _ jB) KB.2.2.1 (by rw [←haE]; exact KB.2.2.2) jh t_ (fun _=>rfl) fun _=>⟨fun hf=>(by cases hf),fun hA=>(hnA hA).elim⟩
  rintro j (rfl | rfl)
  ·exact Nat.le_refl _
  ·exact k0.sz
 ·simp only [JB,if_true,Yt,Bi]; rw [E'.px,E'.ZJ]; have cB:=I.IC.ext tA k'; have XL:=I.GZ.ext tA k'; refine Am s4 (a:=⟨W.sz,0,none⟩) (v:=.bool true) rfl cB (by simp) fun W6 V' zQ=>?_; have V':Da W.sz W' W6:=V'; have zQ:BF W6 W.sz 4 [.bool true]:=zQ; have cC:=XL.congr (V'.obj _ (by omega)); refine Am s30 (a:=⟨W0.sz,0,none⟩) (v:=.int .i64 0) rfl cC (by simp) fun W7 ZL zR=>?_; have ZL:Da W0.sz W6 W7:=ZL; have zR:BF W7 W0.sz 30 [.int .i64 0]:=zR; have t6:=t'.Az (cB.lt t') V'; refine fin e' EV W7 true (((zT.trans k').Az (Nat.le_refl _) V').Az k0.sz ZL) (t6.Az (cC.lt t6) ZL) ((hmW _ _ jB).Gy fun j hj _=>?_) ((zQ.congr (ZL.obj _ (by omega))).cell rfl) (by rw [←haE]; exact zR.cell rfl) E'.px E'.ZJ (fun EB=>(EB haE.symm).elim) fun _=>⟨fun _=>hA,fun _=>rfl⟩
  have:=I.nd k' j hj; rw [ZL.obj _ (by omega),V'.obj _ (by omega)]; exact hj
end Go.Ce
namespace Go.Ce
open Go Go.Proofs Go.Proofs.Tryz
theorem sY {W:CW} {el n:Nat} {v:Value} {cs:List Value} (h:C8 W el n v cs):∃ a m k,v=.slice a m k:=by cases h <;> exact ⟨_,_,_,rfl⟩
theorem fz {W:CW} {b n:Nat} (ht:Aq W) (hd:DA W b n) (hn:n<50):AD prog AM 113 [.slice (some ⟨b,0,none⟩) n n] W (lY b n W):=by
 refine m_ ?_; rw [m9,At Hq]; simp only [AA,oc]; rw [bT (by omega) (by omega)]; refine BA (Q0 hn W) ?_; refine (kB hn n ht hd (by omega) (by omega) (by omega) (by omega)).mono fun en W1 ⟨he,S⟩=>?_; subst he; refine Ab ?_; exact EA (by kernel_rfl) _ _ (.inl rfl) _ _ ⟨rfl,S⟩
theorem cD {W:CW}:AD prog AM 113 [.slice none 0 0] W (Gk (.tuple #[]) W):=by
 have AE7:AD prog AM 141 [.slice none 0 0,.int .i64 0,.int .i64 0] W (Gk (.tuple #[]) W):=by
  refine nE ?_; rw [nD]; simp only [Ae,AA]; rw [wrap64 (by omega) (by omega)]; refine Dh (fun k e ds W'=>ds=[]∧W'=W∧e 2=.int .i64 0∧e 6=.int .i64 (0+1)) 0 ⟨rfl,rfl,rfl,rfl⟩ ?_; rintro k e ds W' ⟨rfl,rfl,h2,h6⟩; rw [gh,h2,h6]; simp only [Ax,AA]; rw [decide_eq_false (by omega),Ay]; simp only [JB,Wh,if_true]; exact EA (by kernel_rfl) _ _ (.inl rfl) _ _ ⟨rfl,rfl⟩
 have AE8:AD prog AM 128 [.slice none 0 0,.int .i64 0,.int .i64 0,.int .i64 ((J7 0:Nat):Int)] W (Gk (.tuple #[]) W):=by
  refine nC ?_; rw [nA]; refine Dh (fun k e ds W'=>ds=[]∧W'=W∧e 0=.slice none 0 0∧e 1=.int .i64 0∧e 2=.int .i64 0) 0 ⟨rfl,rfl,rfl,rfl,rfl⟩ ?_; rintro k e ds W' ⟨rfl,rfl,h0,h1,h2⟩; rw [gg,h0,h1,h2]; simp only [Ak,AA]; rw [wrap64 (by omega) (by omega)]; simp only [Ds,AA]; rw [decide_eq_true (by omega),Bx]; refine BA AE7 ?_; simp only [PV,zt]; exact EA (by kernel_rfl) _ _ (.inr rfl) _ _ ⟨rfl,rfl⟩
 refine m_ ?_; rw [m9,At Hq]; simp only [AA,oc]; rw [bT (by omega) (by omega)]; refine BA (Q0 (n:=0) (by omega) W) ?_; refine BA AE8 ?_; exact EA (by kernel_rfl) _ _ (.inl rfl) _ _ ⟨rfl,rfl⟩
theorem f_ {l s:Nat} {vo:Value} {os:List Int} {W:CW} (hlen:os.length<100000) (J:Nat→CW→Prop) (hJ:∀ i W,J i W→W.cell s 0=some vo∧C8 W 3 1 vo (B8 os))
  (fR:∀ i x W,os[i]?=some x→J i W→KW prog AM l [.int .i64 x] W fun e W'=>e=.returned (.bool true)∧J (i+1) W') (h0:J 0 W) :
  AD prog AM 114 [.func (.yield l) #[] #[],.pointer (some ⟨s,0,none⟩)] W fun e W'=>e=.returned (.tuple #[])∧J os.length W':=by
 refine vP ?_; rw [vO]; obtain ⟨hc,ho⟩:=hJ 0 W h0; rw [AF Nr (a:=⟨s,0,none⟩) hc]; simp only [AA]; rw [Jy Hq ho,CE]; simp only [AA]; refine FT (fun i e ds W'=>ds=[]∧e 0=.func (.yield l) #[] #[]∧e 5=vo∧e 6=.int .i64 os.length∧e 7=.int .i64 i∧J i W') os.length ⟨rfl,rfl,rfl,rfl,rfl,h0⟩ ?_; rintro i e ds W' hi ⟨rfl,h0,h5,h6,h7,hj⟩; rw [qj,h0,h5,h6,h7]; simp only [Ax,AA]
 refine It (fun A0=>?_) (fun Mx=>?_)
 ·have hx:=List.getElem?_eq_getElem A0; obtain ⟨_,AE9⟩:=hJ i W' hj; obtain ⟨ax,a1,a2⟩:=Hs (f:=fun k:Int=>Value.int .i64 k) AE9; obtain ⟨hv,N8⟩:=a2; obtain ⟨p,rfl,hp⟩:=N8 i _ hx; rw [hv,BM Hq s3 A0]; simp only [AA]; rw [AF a3 (a:=⟨p.block,p.off+i*1,none⟩) hp]; simp only [AA]; refine O7 ((fR i _ W' hx hj).mono fun en W1 ⟨he,s7⟩=>?_); subst he; simp only [AQ,Ar,AA,Bool.not_true,Ay,St,Bi,LC,PV,Kv,Wm]; simp only [AW,Aa,Nat.reduceEqDiff,↓reduceIte,h7,Ae,AA]; exact ⟨A0,trivial,h0,by rw [h5,hv],h6,by rw [FU (by omega)],s7⟩
 ·simp only [JB,Uj,if_true]; have hi:i=os.length:=by omega
  exact EA (by kernel_rfl) _ _ (.inl rfl) _ _ ⟨rfl,hi ▸ hj⟩
theorem V_ {s:Nat} {vo:Value} {os:List Int} {W:CW} (ht:Aq W) (hs:BF W s 40 [vo]) (ho:C8 W 3 1 vo (B8 os)) (hlen:os.length<100000) :
  AD prog AM 112 [.func (.func 114) #[] #[.pointer (some ⟨s,0,none⟩)]] W (fun en W'=>Kp W W'∧Aq W'∧∃ vr,en=.returned vr∧C8 W' 3 1 vr (B8 os)∧B9 W.sz vr):=by
 have AE':AD prog AM 127 [.slice none 0 0,.func (.func 114) #[] #[.pointer (some ⟨s,0,none⟩)]] W (fun en W'=>Kp W W'∧Aq W'∧∃ vr,en=.returned vr∧C8 W' 3 1 vr (B8 os)∧B9 W.sz vr):=by
  refine vR ?_; rw [vQ]; refine GA wu ht fun W0 k0 t0 z0 HN=>?_; have HN:BF W0 W.sz 40 [.slice none 0 0]:=HN; refine hP (g:=114) (args:=[.func (.yield (W0.sz+1)) #[] #[],.pointer (some ⟨s,0,none⟩)]) t0 (by simp only [Env.ev,AW,↓reduceIte]; rfl) fun W2 k2 t2 z2 hd hl=>?_; generalize hE:Env.of (Env.args [Value.slice none 0 0,Value.func (.func 114) #[] #[.pointer (some ⟨s,0,none⟩)]]) _=E at hl ⊢; have e2:E 2=.pointer (some ⟨W.sz,0,none⟩):=by rw [←hE]; rfl
  refine (f_ hlen (J:=fun i W'=>Dy W' (W0.sz+1) .ready none 127 E 13 #[7] (AU prog 127 0) (AV prog 127 0) W0.sz∧Kp W W'∧Aq W'∧W'.obj W0.sz=some .deferred∧W0.sz+2≤W'.sz∧∃ v,BF W' W.sz 40 [v]∧C8 W' 3 1 v (B8 (os.take i))∧∀ m,BE v m→W0.sz+2≤m) (vo:=vo) (fun i W' h=>⟨(hs.ext ht h.2.1).cell rfl,ho.kp ht h.2.1⟩) (fun i x W' hx h=>?_) ⟨hl,k0.trans k2,t2,hd,by omega,_,HN.ext t0 k2,C8.nil,fun m hm=>by obtain ⟨b,l,c,e,_⟩:=hm; cases e⟩).mono fun en W' ⟨he,hr⟩=>?_
  ·obtain ⟨Xe,kW,t',qN,gK,v,lV,ph,Vm⟩:=h; refine gy Xe rfl ?_; rw [ql]; refine ⟨rfl,none,E,13,#[7],_,_,W0.sz,Xe,fun W3 hu pg=>?_⟩; have hW0:=k0.sz; have kW3:Kp W W3:=kW.Az (by omega) hu; have t3:=t'.Az (by omega) hu; have IJ:=lV.congr (hu.obj W.sz (by omega)); have zv:=GQ ph hu fun b l c e he=>by have:=Vm b.block ⟨b,l,c,e,rfl⟩; omega
   have hz3:=hu.sz; rw [qn]
   have g2:(Env.of (E.Gg ((#[7]:Array Tmp).toList.zip [Value.int .i64 x])) [(5,E.Gg ((#[7]:Array Tmp).toList.zip [Value.int .i64 x]) 7)]) 2=.pointer (some ⟨W.sz,0,none⟩):=by
    simp only [AW,Aa,List.zip_cons_cons,List.zip_nil_left,Env.Gg]; exact e2
   have g5:(Env.of (E.Gg ((#[7]:Array Tmp).toList.zip [Value.int .i64 x])) [(5,E.Gg ((#[7]:Array Tmp).toList.zip [Value.int .i64 x]) 7)]) 5=.int .i64 x:=by
    simp only [AW,Aa,List.zip_cons_cons,List.zip_nil_left,Env.Gg,if_true]
   rw [g2,g5,AF Nr (a:=⟨W.sz,0,none⟩) (IJ.cell rfl)]; simp only [AA]; have Uo:(os.take i).length≤os.length:=by rw [List.length_take]; omega
   refine Mf Hq s3 z3 rfl (by omega) by3 (by omega) (hZ _) rfl rfl t3 zv (by rw [CE]; omega) fun u Wa v1 W7 ka ta LL t7 o7 n7=>?_; have EB:=Uk zv IJ (by decide); have x7:=LL.YX t3 IJ EB; refine Am (vs:=[v]) wu (a:=⟨W.sz,0,none⟩) (Nt o7) x7 (by simp) fun W8 iL SJ=>?_; have iL:Da W.sz W7 W8:=iL; have SJ:BF W8 W.sz 40 [v1]:=SJ; have Ye:=LL.sz; have hn7:B9 W3.sz v1:=n7 _ (Nat.le_refl _); have Jq:∀ j,BE v j→W0.sz+2≤j:=Vm
   have ACn:∀ j,j≤W0.sz+1→j≠W.sz→W8.obj j=W3.obj j:=fun j hj EB=>by
    rw [iL.obj j EB,LL.obj j (by omega) fun b l c e hb=>by have:=Jq b.block ⟨b,l,c,e,rfl⟩; omega]
   refine ⟨.busy,none,127,E,13,#[7],_,_,W0.sz,pg.congr (ACn _ (by omega) (by omega)),fun W5 Im xz=>⟨rfl,xz,?_,?_,?_,?_,v1,?_,?_,fun m hm=>?_⟩⟩
   ·have hk7:Kp W W7:=LL.kp kW3 fun b l c e=>by have:=Jq b.block ⟨b,l,c,e,rfl⟩; omega
    exact (hk7.Az (Nat.le_refl _) iL).Az (by omega) Im
   ·exact (t7.Az (by omega) iL).Az (by rw [iL.sz]; omega) Im
   ·rw [Im.obj _ (by omega),ACn _ (by omega) (by omega),hu.obj _ (by omega)]; exact qN
   ·rw [Im.sz,iL.sz]; omega
   ·exact SJ.congr (Im.obj _ (by omega))
   ·have h8:=GQ o7 iL fun b l c e he=>by have:=hn7 b l c e; omega
    have h5:=GQ h8 Im fun b l c e he=>by have:=hn7 b l c e; omega
    rw [List.take_add_one,hx,Option.toList_some,Uq]; exact h5
   ·have:=hn7.in hm; omega
  ·obtain ⟨Xe,kW,t',qN,gK,v,lV,ph,Vm⟩:=hr; refine ⟨⟨_,he⟩,.ready,none,127,E,13,#[7],_,_,W0.sz,Xe,(by intro h; cases h),fun W5 Im=>?_⟩; have hW0:=k0.sz; simp only [Bi,rK,gf,e2]; rw [AF Nr (a:=⟨W.sz,0,none⟩) ((lV.congr (Im.obj _ (by omega))).cell rfl)]; simp only [AA]; refine G0 (by rw [Im.obj _ (by omega)]; exact qN) ?_; have V':Da W0.sz W5 (W5.Az W0.sz .dead):=Da.of _ _ _; rw [dz]; rw [List.take_length] at ph; refine ⟨(kW.Az (by omega) Im).Az (by omega) V',(t'.Az (by omega) Im).Az (by rw [Im.sz]; omega) V',v,?_,GQ (GQ ph Im fun b l c e he=>by have:=Vm b.block ⟨b,l,c,e,rfl⟩; omega) V' fun b l c e he=>by have:=Vm b.block ⟨b,l,c,e,rfl⟩; omega,fun b l c e=>by have:=Vm b.block ⟨b,l,c,e,rfl⟩; omega⟩; simp only [AW,if_true]
 refine vN ?_; rw [vM]; refine AE'.mono fun en W' ⟨k,t,vr,he,ho,hn⟩=>?_; subst he; refine Ab ?_; rw [du]; exact ⟨k,t,vr,rfl,ho,hn⟩
theorem cE {s:Nat} {vo:Value} {os:List Int} {W:CW} (ht:Aq W) (hs:BF W s 40 [vo]) (ho:C8 W 3 1 vo (B8 os)) (hlen:os.length<50) :
  AD prog AM 80 [.func (.func 114) #[] #[.pointer (some ⟨s,0,none⟩)]] W (fun en W'=>Kp W W'∧Aq W'∧∃ vr l,en=.returned vr∧C8 W' 3 1 vr (B8 l)∧l.length=os.length):=by
 refine AAy ?_; rw [AAx]; refine (V_ ht hs ho (by omega)).mono fun en W1 ⟨k1,t1,vr,he,eS,Vb⟩=>?_; subst he; refine Ab ?_; have Ge:=CE os; generalize gL:B8 os=cs at eS Ge
 cases eS with
 | nil =>
  refine BA cD ?_; rw [Wf]; exact ⟨k1,t1,_,[],rfl,C8.nil,by simpa using Ge⟩
 | @some b0 len _ hB hl =>
  have SE:len=os.length:=by omega
  subst SE; have hd:DA W1 b0 os.length:=⟨os,rfl,by rw [gL]; exact hB⟩
  refine (fz t1 hd hlen).mono fun en W2 ⟨he,S⟩=>?_; subst he; refine Ab ?_; rw [Wf]; obtain ⟨l,pU,HN⟩:=S.da; have hbn:=Vb _ _ _ rfl; exact ⟨DF.kp k1 S.Gy fun j hj=>by subst hj; exact hbn,S.top,_,l,rfl,C8.some HN (by rw [CE]; omega),pU⟩
theorem Y4 {v0 v1:Value} {c:List Aj} {h:List BN} {a:Int} {W:CW} (ht:Aq W) (hc:A3 5 (M7 W) v0 c) (hC:SG c) (hh:A3 2 (Gx W) v1 h) (hv:∀ x,x ∈ h→x.AL.length<100000) (hs:h.length<1000000) (NT:A7 c h a=0→h.length≤40) :
  AD prog AM 22 [v0,v1,.int .i64 a] W (fun en W'=>Kp W W'∧Aq W'∧∃ vr l,en=.returned (.tuple #[vr,.int .i64 (A7 c h a)])∧C8 W' 3 1 vr (B8 l)∧(A7 c h a=0→l.length=(Ad c [] h a).length)):=by
 refine AAw ?_; rw [AAv]; obtain ⟨ah,ch,rfl,_⟩:=id hh; refine (J5 ht hc hC hh hv hs).mono fun en W0 ⟨k0,t0,r1,r2,FG,GG⟩=>?_; subst FG; refine Ab ?_; refine BG (Bd _ _) ?_; refine BG (Be _ _) ?_; unfold K3; refine D' (ws:=[.map (some r1),.map (some r2)]) pf NS rfl rfl rfl t0 fun W3 k3 t3 z3 SJ=>?_; have p6:=k0.trans k3; simp only [DK,AA]
 refine AN (fun he=>?_) (fun he=>?_)
 ·have he:A7 c h a≠0:=by simpa using he
  rw [Wd]; exact ⟨p6,t3,_,[],rfl,C8.nil,fun hz=>(he hz).elim⟩
 have he:A7 c h a=0:=by simpa using he
 obtain ⟨Ai,Qz,dg,De⟩:=Ms he; obtain ⟨JG,HQ⟩:=CB Qz; have NT:=NT he; rw [Ba (vs:=[.map (some r1),.map (some r2)]) (a:=⟨W0.sz,0,none⟩) iB NS rfl (by omega) SJ.cells]; simp only [AA,Y3]; refine (Mo t3 ((GG Ai).kp t0 k3) Ai hC (hh.imp fun _ _ _ hr=>hr.kp ht p6) HQ (by omega) dg De).mono fun en W4 ⟨k4,t4,bw,rp,vo,FG,hw,_,_,_,hF⟩=>?_; subst FG; refine Ab ?_; simp only [Bz,HR,AA]; rw [AF Nr (a:=⟨bw,0,none⟩) (hw.w.cell rfl)]; simp only [AA]
 have h81:AD prog AM 81 [vo] W4 (fun en W'=>Kp W4 W'∧Aq W'∧en=.returned (.func (.func 114) #[] #[.pointer (some ⟨W4.sz,0,none⟩)])∧BF W' W4.sz 40 [vo]):=by
  refine AA0 ?_; rw [AAz]; obtain ⟨a',m',k',rfl⟩:=sY hw.own; refine GA wu t4 fun W5 k5 t5 z5 hB=>?_; have hB:BF W5 W4.sz 40 [.slice a' m' k']:=hB; simp only [AA]; rw [jO]; exact ⟨k5,t5,rfl,hB⟩
 refine h81.mono fun en W5 ⟨k5,t5,FG,hB⟩=>?_; subst FG; refine Ab ?_; have hFl:=hF.len; refine (cE t5 hB (hw.own.kp t4 k5) (by omega)).mono fun en W6 ⟨k6,t6,vr,l,FG,hO,hl⟩=>?_; subst FG; refine Ab ?_; rw [Wd]; refine ⟨((p6.trans k4).trans k5).trans k6,t6,vr,l,?_,hO,fun _=>hl⟩; rw [he]; rfl
end Go.Ce
namespace Go.Ce
open Go Go.Proofs Go.Proofs.Tryz
theorem ACo (v0:Value) (K:AB) (W:CW):AJ prog AM none 79 8 (AK prog 79) (Env.args [v0]) [] W K=(wV (AH prog .eql 40 true v0 (.slice none 0 0)) fun v4=>wI v4 (K .ret (Env.of (Env.args [v0]) [(2,(.slice none 0 0)),(4,v4),(3,v0),(2,(.slice none 0 0))]) [] W) (CZ (Vs prog 40 0 [] W) fun v5 W0=>CZ (app prog [40,40] v5 v0 W0) fun v7 W1=>K .ret (Env.of (Env.args [v0]) [(2,v7),(7,v7),(6,v0),(5,v5),(4,v4),(3,v0),(2,(.slice none 0 0))]) [] W1)):=by kernel_rfl
theorem XN (Q:Ending→CW→Prop) (e:Env) (W:CW):AI prog Tryz.f79 Q .ret e [] W=Q (.returned (e 2)) W:=by kernel_rfl
theorem ACp {Q:Ending→CW→Prop} {v0:Value} {W:CW} (h:AJ prog AM none 79 8 (AK prog 79) (Env.args [v0]) [] W (AI prog Tryz.f79 Q)):AD prog AM 79 [v0] W Q:=AX Tryz.func79 (by kernel_rfl) (by kernel_rfl) (by kernel_rfl) (by kernel_rfl) (by kernel_rfl) h
end Go.Ce
namespace Go.Ce
open Go Go.Proofs Go.Proofs.Tryz
end Go.Ce
namespace Go.Ce
open Go Go.Proofs Go.Proofs.Tryz
end Go.Ce
namespace Go.Ce
open Go Go.Proofs Go.Proofs.Tryz
end Go.Ce
namespace Go.Ce
open Go Go.Proofs Go.Proofs.Tryz
theorem pH {W:CW} {v:Value} {xs:List BN} (h:A3 2 (Gx W) v xs) {i:Nat} {x:BN} (hx:xs[i]?=some x):∃ q p0 p1 vv,Bm prog 24 v (.int .i64 i)=some q∧BD prog 56 q 0=some p0∧BD prog 56 q 1=some p1∧ld prog 9 p0 W=some (.string x.type)∧ld prog 40 p1 W=some vv∧A3 1 (DW W) vv x.AL:=by
 obtain ⟨a,cap,rfl,hc⟩:=h; obtain ⟨p,rfl,hr⟩:=hc i x hx; obtain ⟨vv,h1,h2⟩:=hr.AL; exact ⟨_,_,_,vv,BM WC Ma (List.getElem?_eq_some_iff.1 hx).1,H9 _,FM _,AF a9 (a:=⟨p.block,p.off+i*2,none⟩) hr.type,AF Nr (a:=⟨p.block,p.off+i*2+1,none⟩) h1,h2⟩
end Go.Ce
namespace Go.Ce
open Go Go.Proofs Go.Proofs.Tryz
theorem ACq (a b:Bool):AH prog .neq 4 false (.bool a) (.bool b)=some (.bool (a != b)):=by cases a <;> cases b <;> kernel_rfl
end Go.Ce
namespace Go.Ce
open Go Go.Proofs Go.Proofs.Tryz
theorem N6 {c:List Aj} {l:List Br} {h:List BN} {root:Int}:(∃ e:Int,e≠0∧C3 c l h root=([],e))∨(Ib c l h root=0∧L5 l h (Ad c l h root)=false∧C3 c l h root=(Em c l h (Ad c l h root),0)):=by
 unfold C3
 by_cases h1:Ib c l h root≠0
 ·exact .inl ⟨_,h1,by rw [if_pos h1]⟩
 ·rw [if_neg h1]
  by_cases h2:L5 l h (Ad c l h root)=true
  ·exact .inl ⟨214,by decide,by rw [if_pos h2]⟩
  ·exact .inr ⟨by simpa using h1,by simpa using h2,by rw [if_neg h2]⟩
theorem pI {s:ByteArray} (h:GB s=true):(GP s).length≤61:=by
 unfold GB at h; simp only [Bool.and_eq_true,decide_eq_true_eq] at h; unfold GP; rw [List.length_append,TN (by omega)]
 have:(Hr s).length=s.size:=by
  unfold Hr; rw [List.length_map,Md]
 rw [this]; simp only [List.length_singleton]; omega
theorem iR:∀ ts:List ByteArray,(∀ s,s ∈ ts→GB s=true)→(ts.flatMap GP).length≤ts.length*61
 | [],_=>Nat.le_refl _
 | s::ts,h=>by
  rw [List.flatMap_cons,List.length_append,List.length_cons]; have h1:=pI (h s (by simp)); have h2:=iR ts fun x hx=>h x (by simp [hx]); omega
theorem RA {c:List Aj} {l:List Br} {h:List BN} {root:Int} {b:List UInt8} (hz:Ib c l h root=0) (NT:h.length≤40) (hw:C3 c l h root=(Em c l h (Ad c l h root),0)) (B:iQ c l h root b (DD l (AS h (Ad c l h root))) (BR c l h (Ad c l h root))):b.length≤100000:=by
 obtain ⟨Ai,hs,Qz,sE,PO⟩:=DG hz; obtain ⟨_,HQ⟩:=CB Qz; obtain ⟨_,_,hF,_⟩:=FE hz NT
 have he:bI b=Em c l h (Ad c l h root):=by
  have:=B.wr; rw [hw] at this; exact (Prod.mk.inj this).1.symm
 have Io:=B.can.sym; have hl:=K6 b; rw [he] at hl; unfold Em at hl; have im:=hF.len; have h1:=J2 l (AS h (Ad c l h root)) []; have h2:=GW h (Ad c l h root)
 have Uo:(DD l (AS h (Ad c l h root))).length≤40:=by
  unfold DD; simp only [List.length_nil] at h1; omega
 generalize DD l (AS h (Ad c l h root))=ts at hl Io Uo
 have h3:=Ny (l:=l) (t:=ts) (o:=Ad c l h root) (n:=h.length) Ai (by omega) (by omega) (AS h (Ad c l h root)) fun x hx=>CJ hs (HQ x (by
  unfold AS at hx; obtain ⟨v,_,hv⟩:=List.mem_flatMap.1 hx
  cases hg:h[(v-1).toNat]? with
  | none=>rw [hg] at hv; cases hv
  | some y=>rw [hg] at hv; rw [List.mem_singleton.1 hv]; exact List.mem_of_getElem? hg))
 have h4:=iR ts fun s hs=>(Io s hs).1; rw [TN (show ts.length<128 by omega),TN (show (Ad c l h root).length<128 by omega)] at hl; simp only [List.length_append,List.length_singleton] at hl; have h5:(AS h (Ad c l h root)).length*1616≤40*1616:=Nat.mul_le_mul_right _ (by omega); omega
end Go.Ce
namespace Go.Ce
open Go Go.Proofs Go.Proofs.Tryz
end Go.Ce
namespace Go.Ce
open Go Go.Proofs Go.Proofs.Tryz
end Go.Ce
namespace Go.Ce
open Go Go.Proofs Go.Proofs.Tryz
theorem zU (n m:Nat):AH prog .eql 40 true (.slice none n m) (.slice none 0 0)=some (.bool true):=by kernel_rfl
theorem zV (a:Addr) (n m:Nat):AH prog .eql 40 true (.slice (some a) n m) (.slice none 0 0)=some (.bool false):=by kernel_rfl
theorem zX (W:CW):Vs prog 40 0 [] W=some (.slice (some ⟨W.sz,0,none⟩) 0 0,W.new (.cells (Tr.nil.Ah 0 []) 0 #[] 3)):=by kernel_rfl
theorem sZ:HA prog 40=true:=by kernel_rfl
theorem sa {W:CW} {a:Option Addr} {n cap:Nat} {l:List Int} (h:A3 1 (DW W) (.slice a n cap) l):n=l.length∧(0<n→∃ p,a=some p∧Cells W p.block p.off (B8 l)):=by
 obtain ⟨a',cap',he,hx⟩:=h
 cases he
 refine ⟨rfl,fun hn=>?_⟩; obtain ⟨p,rfl,_⟩:=hx 0 l[0] (List.getElem?_eq_getElem hn); refine ⟨p,rfl,fun j v hj=>?_⟩; unfold B8 at hj; rw [List.getElem?_map,Option.map_eq_some_iff] at hj; obtain ⟨x,hj,rfl⟩:=hj; obtain ⟨p',e,h1⟩:=hx j x hj
 cases e
 have:W.cell p.block (p.off+j*1)=_:=h1.1; rw [Nat.mul_one] at this; exact this
theorem pJ (l:List Int):(B8 l).all BO=true:=by
 unfold B8; rw [List.all_map,List.all_eq_true]; intro x _; rfl
theorem zY {W:CW} {el n:Nat} {v:Value} {cs:List Value} (h:C8 W el n v cs):∃ a m k,v=.slice a m k:=by cases h <;> exact ⟨_,_,_,rfl⟩
theorem gA {W:CW} {v0:Value} {l:List Int} (ht:Aq W) (h:A3 1 (DW W) v0 l) (hl:l.length≤100000):AD prog AM 79 [v0] W (fun en W'=>Kp W W'∧Aq W'∧∃ a n m,en=.returned (.slice a n m)∧C8 W' 3 1 (.slice a n m) (B8 l)∧B9 W.sz (.slice a n m)):=by
 refine ACp ?_; rw [ACo]; obtain ⟨a,cap,rfl,hx⟩:=id h
 cases a with
 | none =>
  refine BG (zU _ _) ?_; simp only [Bx]; rw [XN]
  have:l=[]:=by
   cases l with
   | nil=>rfl
   | cons x l=>obtain ⟨p,e,_⟩:=hx 0 x rfl; cases e
  subst this; exact ⟨.refl _,ht,_,_,_,rfl,C8.nil,B9.nil _ _ _⟩
 | some a =>
  refine BG (zV _ _ _) ?_; simp only [Ay]; refine JW (zX W) ?_; have kn:Kp W (W.new (.cells (Tr.nil.Ah 0 []) 0 #[] 3)):=.new _; have tn:=ht.new (.cells (Tr.nil.Ah 0 []) 0 #[] 3); have tf:BF (W.new (.cells (Tr.nil.Ah 0 []) 0 #[] 3)) W.sz 3 []:=⟨_,0,_,by rw [BK,if_pos rfl],rfl,fun k v hk=>by simp at hk⟩
  have LU:C8 (W.new (.cells (Tr.nil.Ah 0 []) 0 #[] 3)) 3 1 (.slice (some ⟨W.sz,0,none⟩) 0 0) (B8 []):=C8.some tf rfl; have lR:(W.new (.cells (Tr.nil.Ah 0 []) 0 #[] 3)).sz=W.sz+1:=rfl; generalize W.new (.cells (Tr.nil.Ah 0 []) 0 #[] 3)=Wn at kn tn LU lR; obtain ⟨_,jW⟩:=sa (h.imp fun _ _ _ hr=>hr.kp ht kn); refine rN (news:=B8 l) Hq sZ s3 z3 rfl (by omega) by3 (by omega) tn LU jW (pJ _) (by rw [CE]; omega) (by rw [CE]; simp only [List.length_nil]; omega) fun va W6 hp6 t6 o6 n6=>?_; have k6:Kp W W6:=hp6.kp kn (fun b l c e=>by cases e; exact Nat.le_refl _); rw [XN]; have o6:C8 W6 3 1 va (B8 l):=o6; obtain ⟨a',n',m',rfl⟩:=zY o6; refine ⟨k6,t6,_,_,_,rfl,o6,fun b l c e=>?_⟩
  rcases n6 b.block ⟨b,l,c,e,rfl⟩ with ⟨b',l',c',e1,e2⟩ | h1
  ·cases e1
   have e2:W.sz=b.block:=e2; omega
  ·omega
end Go.Ce
namespace Go.Ce
open Go Go.Proofs Go.Proofs.Tryz
theorem zZ (s:ByteArray) (a:Option Addr) (n m:Nat):Sh prog 56 [(0,.string s),(1,.slice a n m)]=some (.agg [.string s,.slice a n m].toArray):=by kernel_rfl
theorem za (s:ByteArray) (a:Option Addr) (n m:Nat) (W:CW):Vs prog 24 1 [(0,.agg [.string s,.slice a n m].toArray)] W=some (.slice (some ⟨W.sz,0,none⟩) 1 1,W.new (.cells (Tr.nil.Ah 0 [.string s,.slice a n m]) [Value.string s,.slice a n m].length #[] 56)):=by kernel_rfl
structure XO (B:Nat) (W:CW) (v:Value) (ps:List (BN × Value)):Prop where
 own:C8 W 56 2 v (ps.flatMap V9)
 new:B9 B v
 pv:∀ p,p ∈ ps→C8 W 3 1 p.2 (B8 p.1.AL)
theorem sc {W:CW} {v:Value} {l:List Int} (h:C8 W 3 1 v (B8 l)) (hb:∀ x,x ∈ l→-9223372036854775808≤x∧x≤9223372036854775807):A3 1 (DW W) v l:=DW.of (Hs (f:=fun k:Int=>Value.int .i64 k) h) hb
theorem sd {B:Nat} {W:CW} {v:Value} {ps:List (BN × Value)} (h:XO B W v ps) (hb:∀ p,p ∈ ps→BdT p.1):A3 2 (Gx W) v (ps.map (·.1)):=by
 have hl:=PA ps; have yw:=h.pv; obtain ⟨hO,_,_⟩:=h; generalize gL:ps.flatMap V9=cs at hO hl
 cases hO with
 | nil =>
  have:ps=[]:=List.length_eq_zero_iff.1 (by simp at hl; omega); subst this; exact ⟨none,0,rfl,fun i x hx=>by cases hx⟩
 | @some b0 len _ hB SE =>
  have lD:len=ps.length:=by omega
  refine ⟨some ⟨b0,0,none⟩,len,by rw [List.length_map,lD],fun i x hx=>⟨_,rfl,?_⟩⟩; rw [List.getElem?_map,Option.map_eq_some_iff] at hx; obtain ⟨p,hp,rfl⟩:=hx; have hpm:=List.mem_of_getElem? hp
  have hg:∀ j,j<2→cs[i*2+j]?=(V9 p)[j]?:=fun j hj=>by
   rw [←gL,bW,show (i*2+j) / 2=i by omega,show (i*2+j) % 2=j by omega,hp]; rfl
  refine ⟨?_,p.2,?_,sc (yw p hpm) (hb p hpm)⟩
  ·show W.cell b0 (0+i*2)=_; rw [Nat.zero_add]; exact hB.cell (hg 0 (by omega))
  ·show W.cell b0 (0+i*2+1)=_; rw [Nat.zero_add]; exact hB.cell (hg 1 (by omega))
theorem pK {W:CW} {el rM n n':Nat} {v v':Value} {cs VR:List Value} (h:C8 W el n v cs) (h':C8 W rM n' v' VR) (he:el≠rM):∀ i,BE v i→¬BE v' i:=fun i h1 h2=>he (GY (ER h h1) (ER h' h2))
end Go.Ce
namespace Go.Ce
open Go Go.Proofs Go.Proofs.Tryz
theorem z89:Gp prog 89=some (.pointer none):=by kernel_rfl
def M8 (g:Nat→Int→Int) (vs:List Int) (k:Nat):List Int:=vs.mapIdx fun j v=>if j<k then g j v else v
theorem PK (g:Nat→Int→Int) (vs:List Int) (k:Nat):(M8 g vs k).length=vs.length:=by unfold M8; rw [List.length_mapIdx]
theorem Ii (g:Nat→Int→Int) (vs:List Int) (k j:Nat):(M8 g vs k)[j]?=(vs[j]?).map fun v=>if j<k then g j v else v:=by unfold M8; rw [List.getElem?_mapIdx]
theorem kX (g:Nat→Int→Int) (vs:List Int):M8 g vs 0=vs:=by
 apply List.ext_getElem?; intro j; rw [Ii]
 cases vs[j]? <;> simp
theorem kY {g:Nat→Int→Int} {vs:List Int} {k:Nat} {v:Int} (hv:vs[k]?=some v):M8 g vs (k+1)=(M8 g vs k).set k (g k v):=by
 apply List.ext_getElem?; intro j; have hk:=(List.getElem?_eq_some_iff.1 hv).1; rw [List.getElem?_set,Ii,Ii,PK]
 by_cases e:k=j
 ·subst e; rw [if_pos rfl,if_pos hk,hv,Option.map_some,if_pos (by omega)]
 ·rw [if_neg e]
  cases vs[j]? with
  | none=>rfl
  | some w =>
   simp only [Option.map_some]; congr 1
   by_cases hj:j<k
   ·rw [if_pos hj,if_pos (by omega)]
   ·rw [if_neg hj,if_neg (by omega)]
theorem kZ {g:Nat→Int→Int} {vs:List Int} {k:Nat} {v:Int} (hv:vs[k]?=some v) (h:g k v=v):M8 g vs (k+1)=M8 g vs k:=by
 apply List.ext_getElem?; intro j; rw [Ii,Ii]
 cases hj:vs[j]? with
 | none=>rfl
 | some w =>
  simp only [Option.map_some]; congr 1
  by_cases e:j=k
  ·subst e; rw [hv] at hj; cases hj; rw [if_pos (by omega),if_neg (by omega),h]
  ·by_cases hl:j<k
   ·rw [if_pos hl,if_pos (by omega)]
   ·rw [if_neg hl,if_neg (by omega)]
def K8 (c:List Aj) (ix:Nat) (O:List Int) (k:Nat) (v:Int):Int:=if A5 c ix k=2 then placeOf O v else v
theorem se (c:List Aj) (ix:Nat) (O vs:List Int):M8 (K8 c ix O) vs vs.length=ID c ix O 0 vs:=by
 apply List.ext_getElem?; intro j; rw [Ii,HT,Nat.zero_add]
 cases hv:vs[j]? with
 | none=>rfl
 | some v =>
  have:=(List.getElem?_eq_some_iff.1 hv).1; simp only [Option.map_some,if_pos this,K8]
theorem J' {c:List Aj} {h:List BN} {O:List Int} (hF:Found O h.length) {i:Nat} {v:Int} {x:BN} (hO:O[i]?=some v) (hx:h[(v-1).toNat]?=some x):(BR c [] h O)[i]?=some (Je c O x):=by
 unfold BR; rw [List.getElem?_map,N4 rfl (fun v hv=>⟨hF.low v hv,hF.high v hv⟩) i v hO,hx]; rfl
structure TrE (e:Env) (b9 GZ:Nat) (v1:Value) (a:Int):Prop where
 e1:e 1=v1
 e2:e 2=.int .i64 a
 e9:e 9=.pointer (some ⟨b9,0,none⟩)
 ZJ:e 11=.pointer (some ⟨GZ,0,none⟩)
structure ACr (A:CW) (b9 GZ bw rp r1 r2:Nat) (vo v1:Value) (c:List Aj) (h:List BN) (O:List Int):Prop where
 tA:Aq A
 b9:BF A b9 78 [.map (some r1),.map (some r2)]
 GZ:BF A GZ 89 [.pointer (some ⟨bw,0,none⟩)]
 wk:LN A bw rp vo O
 cat:D_ A r1 r2 c
 Ai:BV c=true
 hC:SG c
 hh:A3 2 (Gx A) v1 h
 HQ:∀ x,x ∈ h→A4 c x h.length=true
 F:Found O h.length
 hl:h.length≤1000
theorem pL {A:CW} {K:AB} {e:Env} {b9 GZ bw rp r1 r2:Nat} {vo v1:Value} {c:List Aj} {h:List BN} {O:List Int} {a:Int} (I:ACr A b9 GZ bw rp r1 r2 vo v1 c h O) (E:TrE e b9 GZ v1 a) (h36:e 36=vo) (h37:e 37=.int .i64 O.length) (h38:e 38=.int .i64 0) (oq:e 12=.slice none 0 0)
  (EU:∀ e' EV W' vr ps,Kp A W'→Aq W'→Marks A.sz W' EV→TrE e' b9 GZ v1 a→e' 12=vr→XO A.sz W' vr ps→ps.map (·.1)=BR c [] h O→K (.exit 0) e' EV W') :
  Bj prog AM none 21 85 (.loop (AY prog 21 0)) e [] A K:=by
 have hOl:=I.F.len; have pe:=I.hl; have AE_:(BR c [] h O).length=O.length:=by unfold BR; rw [List.length_map,EI rfl fun v hv=>⟨I.F.low v hv,I.F.high v hv⟩]
 refine FT (fun i e' EV W'=>Kp A W'∧Aq W'∧Marks A.sz W' EV∧TrE e' b9 GZ v1 a∧e' 36=vo∧e' 37=.int .i64 O.length∧e' 38=.int .i64 i∧∃ vr ps,e' 12=vr∧XO A.sz W' vr ps∧ps.map (·.1)=(BR c [] h O).take i) O.length ⟨.refl _,I.tA,.nil _ _,E,h36,h37,h38,_,[],oq,⟨C8.nil,B9.nil _ _ _,fun p hp=>(by cases hp)⟩,rfl⟩ ?_; rintro i e ds W hi ⟨kA,ht,hm,E,h36,h37,h38,vr,ps,oq,hO,Ye⟩; rw [vI,h36,h37,h38,E.e1]; simp only [AA,Ax]; refine It (fun A0=>?_) (fun Mx=>?_)
 rotate_left
 ·have:i=O.length:=by omega
  subst this; simp only [Uj]; exact EU _ ds W vr ps kA ht hm ⟨by simp only [AW,Aa,Nat.reduceEqDiff,↓reduceIte,E.e1],by simp only [AW,Aa,Nat.reduceEqDiff,↓reduceIte,E.e2],by simp only [AW,Aa,Nat.reduceEqDiff,↓reduceIte,E.e9],by simp only [AW,Aa,Nat.reduceEqDiff,↓reduceIte,E.ZJ]⟩ (by simp only [AW,Aa,Nat.reduceEqDiff,↓reduceIte,oq]) hO (by rw [Ye,←AE_,List.take_length])
 have hOi:=List.getElem?_eq_getElem A0; generalize O[i]=v at hOi; have ui:=I.F.low v (List.mem_of_getElem? hOi); have Z3:=I.F.high v (List.mem_of_getElem? hOi); obtain ⟨nv,Vm⟩:∃ nv:Nat,v=((nv+1:Nat):Int):=⟨(v-1).toNat,by omega⟩
 subst Vm; have hx:=List.getElem?_eq_getElem (show nv<h.length by omega); generalize h[nv]'(by omega)=x at hx; have ic:=J' (c:=c) I.F hOi (by rw [show (((nv+1:Nat):Int)-1).toNat=nv by omega]; exact hx); have hxm:=List.mem_of_getElem? hx; obtain ⟨ix,s,X⟩:=Bt (I.HQ x hxm); have B0:Je c O x=⟨x.type,ID c ix O 0 x.AL⟩:=by unfold Je; rw [X.ti]
 have VU:=Mg I.hC X.many; obtain ⟨ao,o1,o2⟩:=fh I.tA I.wk.own hOi; have zA:=kA.sz; have k1:Kp W (W.new (.cells .nil 2 #[.string ⟨#[]⟩,.slice none 0 0] 56)):=.new _; have t1:=ht.new (.cells .nil 2 #[.string ⟨#[]⟩,.slice none 0 0] 56); have eS:(W.new (.cells .nil 2 #[.string ⟨#[]⟩,.slice none 0 0] 56)).obj W.sz=some (.cells .nil 2 #[.string ⟨#[]⟩,.slice none 0 0] 56):=by rw [BK,if_pos rfl]
 have SW:(W.new (.cells .nil 2 #[.string ⟨#[]⟩,.slice none 0 0] 56)).sz=W.sz+1:=rfl; have Zk:∀ W0:CW,W0.obj W.sz=some (.cells .nil 2 #[.string ⟨#[]⟩,.slice none 0 0] 56)→H3 (.pointer (some ⟨W.sz,0,none⟩)) ((W.new (.cells .nil 2 #[.string ⟨#[]⟩,.slice none 0 0] 56)).obj W.sz) W0=true:=fun W0 h0=>G1 h0 rfl; generalize i_:W.new (.cells .nil 2 #[.string ⟨#[]⟩,.slice none 0 0] 56)=W1 at k1 t1 eS SW Zk ⊢
 have B1:BF W1 W.sz 56 [.string ⟨#[]⟩,.slice none 0 0]:=⟨.nil,2,_,eS,rfl,fun k v hk=>by
  match k,hk with
  | 0,hk=>cases hk; rfl
  | 1,hk=>cases hk; rfl⟩
 have uA:=kA.trans k1; have hhx:∀ V,Kp A V→∃ q p0 p1 vv,Bm prog 24 v1 (.int .i64 nv)=some q∧BD prog 56 q 0=some p0∧BD prog 56 q 1=some p1∧ld prog 9 p0 V=some (.string x.type)∧ld prog 40 p1 V=some vv∧A3 1 (DW V) vv x.AL:=fun V kk=>pH (I.hh.imp fun _ _ _ hr=>hr.kp I.tA kk) hx; obtain ⟨q,p0,p1,vv,x1,x2,x3,x4,x5,x6⟩:=hhx W1 uA; rw [o1]; simp only [AA,o2 W kA,Ak]; rw [show ((nv+1:Nat):Int)-1=(nv:Nat) by omega,wrap64 (by omega) (by omega)]; simp only [x1,x2,x3,x4,x5,AA]; refine (gA t1 x6 (by omega)).mono fun en W2 ⟨k2,t2,ac,nc,mc,FG,hoc,su⟩=>?_; subst FG; refine Ab ?_; have ZK:=uA.trans k2
 have x4':ld prog 9 p0 W2=some (.string x.type):=by
  obtain ⟨q',p0',p1',vv',y1,y2,y3,y4,y5,y6⟩:=hhx W2 ZK; rw [x1] at y1; cases y1; rw [x2] at y2; cases y2; exact y4
 simp only [zZ,AA]; refine ⟨trivial,?_⟩; have B2:=B1.ext t1 k2; refine Dj Ma (a:=⟨W.sz,0,none⟩) (ws:=[.string x.type,.slice ac nc mc]) rfl rfl B2 (by simp) fun W3 LO IJ=>?_; have LO:Da W.sz W2 W3:=LO; have IJ:BF W3 W.sz 56 [.string x.type,.slice ac nc mc]:=IJ; have t3:=t2.Az (B2.lt t2) LO; have p6:Kp W W3:=(k1.trans k2).Az (Nat.le_refl _) LO; have z2:=k2.sz
 have hnb:∀ j,BE (.slice ac nc mc) j→W1.sz≤j:=by
  rintro j ⟨b,l,c',e1,rfl⟩; exact su b l c' e1
 have AFA:C8 W3 3 1 (.slice ac nc mc) (B8 x.AL):=O9 hoc fun j hj=>LO.obj j (by have:=hnb j hj; omega); refine ⟨by simp only [x4',and_self],by simp only [Zk W1 eS,Zk W2 (by rw [k2.obj _ (by omega)]; exact eS),and_self],?_⟩; have cY:=kA.trans p6; rw [E.e9,Ba (vs:=[.map (some r1),.map (some r2)]) (a:=⟨b9,0,none⟩) iB NS rfl (by omega) (I.b9.ext I.tA cY).cells,Ba (vs:=[.string x.type,.slice ac nc mc]) (a:=⟨W.sz,0,none⟩) jU Ma rfl (by omega) IJ.cells]; simp only [AA]
 have hcn:nc=x.AL.length:=by
  have hl:=Jy (W':=W3) Hq hoc; rw [At Hq,CE] at hl; have:(nc:Int)=(x.AL.length:Int):=by injection hl with hl; injection hl
  omega
 subst hcn; refine (L7 (r1:=r1) (r2:=r2) (ty:=x.type) (vx:=.slice ac x.AL.length mc) t3).mono fun en W4 ⟨k4,t4,bk,bx,FG,Y9,hbx,cV,cW⟩=>?_; subst FG; refine Ab ?_; have sX:=cY.trans k4; have z4:=k4.sz; have z3:=LO.sz; have SI:elemAt c ix=0→x.AL.length≤(BH c ix).length:=fun he=>by rw [Fl X.si he X.many]; exact Nat.le_refl _
 have sg:=AFA.kp t3 k4; have Mj:=IJ.ext t3 k4; have nBk:¬BE (.slice ac x.AL.length mc) bk:=fun hi=>by have:=GY (ER sg hi) cV; cases this
 have nBx:¬BE (.slice ac x.AL.length mc) bx:=fun hi=>by have:=GY (ER sg hi) cW; cases this
 have nB4:¬BE (.slice ac x.AL.length mc) W.sz:=fun hi=>by have:=hnb _ hi; omega
 have py:Kp W W4:=p6.trans k4; have kpJ:∀ W',DF (BE (.slice ac x.AL.length mc)) W4 W'→Kp W W':=fun W' hc=>DF.kp py hc fun j hj=>by have:=hnb j hj; omega
 have lts:∀ j,BE (.slice ac x.AL.length mc) j→j<W4.sz:=fun j hj=>Ul t4 sg hj
 refine O8 (bk:=bk) (bx:=bx) (r1:=r1) (r2:=r2) (n:=x.AL.length) (ix:=ix) (c:=c) (ty:=x.type) (a1:=16) (a2:=17) t4 rfl X.ti (by omega) SI (fun ro e0 ds K W=>by rw [vJ]) (by decide)
  (fun j W'=>DF (BE (.slice ac x.AL.length mc)) W4 W'∧Aq W'∧W'.obj W4.sz=some .deferred∧W4.sz+1<W'.sz∧C8 W' 3 1 (.slice ac x.AL.length mc) (B8 (M8 (K8 c ix O) x.AL j)))
  (fun _ _=>False)
  (fun j W' hh=>⟨hh.1.cell t4 nBk (cV.cell rfl),hh.1.cell t4 nBk (cV.cell rfl),I.cat.kp I.tA (kA.trans (kpJ W' hh.1)),hh.1.cell t4 nBx (cW.cell rfl),_,_,hh.1.cell t4 nBx (cW.cell rfl)⟩)
  (fun j W5 W6 ⟨g1,g2,g3,g4,g5⟩ hu _=>⟨g1.then hu.Gy fun i hi he=>by omega,g2.Az g4 hu,by rw [hu.obj _ (by omega)]; exact g3,by rw [hu.sz]; exact g4,O9 g5 fun i hi=>hu.obj i (by have:=lts i hi; omega)⟩)
  (fun _ _ _ hh _ _=>hh.elim)
  (fun W5 k t z hd=>⟨DF.Gl k,t,hd,by omega,by rw [kX]; exact sg.kp t4 k⟩)
  (fun j W5 Kb E' hE sB sC hj ⟨HU,t5,hd,hl,hB⟩ XB hn _ _=>?_) (fun W' ⟨HU,t',hd,hl,hB⟩=>?_) (fun _ _ hh=>hh.elim)
 ·have g15:E' 15=.pointer (some ⟨W.sz,0,none⟩):=by
   rw [hE 15 (by decide) (by decide) (by decide) (by decide)]; simp only [AW,Nat.reduceEqDiff,↓reduceIte]
  have t_:E' 11=.pointer (some ⟨GZ,0,none⟩):=by
   rw [hE 11 (by decide) (by decide) (by decide) (by decide)]; simp only [AW,Aa,Nat.reduceEqDiff,↓reduceIte,E.ZJ]
  have Ww:=List.getElem?_eq_getElem hj; generalize x.AL[j]=y at Ww; have pz:=kA.trans (kpJ W5 HU); rw [vK,g15,t_,sB,sC]; simp only [CD,AA]
  refine AN (fun hk=>?_) (fun hk=>?_)
  ·have hk:A5 c ix j=2:=by simpa using hk
   have lC:(M8 (K8 c ix O) x.AL j)[j]?=some y:=by rw [Ii,Ww]; simp
   have l15:ld prog 40 (.pointer (some ⟨W.sz,0+1,none⟩)) W5=some (.slice ac x.AL.length mc):=AF Nr (a:=⟨W.sz,0+1,none⟩) (HU.cell t4 nB4 (Mj.cell rfl)); have l11:ld prog 89 (.pointer (some ⟨GZ,0,none⟩)) W5=some (.pointer (some ⟨bw,0,none⟩)):=AF pj (a:=⟨GZ,0,none⟩) (pz.cell I.tA (I.GZ.cell rfl)); have wk5:=I.wk.kp I.tA pz; have lr:ld prog 98 (.pointer (some ⟨bw,0+1,none⟩)) W5=some (.map (some rp)):=AF a98 (a:=⟨bw,0+1,none⟩) (wk5.w.cell rfl); have Ge:=CE (M8 (K8 c ix O) x.AL j); rw [PK] at Ge
   obtain ⟨bv,hbv,lV⟩:∃ bv,Value.slice ac x.AL.length mc=.slice (some ⟨bv,0,none⟩) x.AL.length x.AL.length∧BF W5 bv 3 (B8 (M8 (K8 c ix O) x.AL j)):=by
    generalize gL:B8 (M8 (K8 c ix O) x.AL j)=cs at hB Ge; generalize Xg:Value.slice ac x.AL.length mc=vv at hB
    cases hB with
    | nil =>
     injection Xg with _ h2
     omega
    | @some b0 len _ hB SE =>
     have:len=x.AL.length:=by omega
     subst this; exact ⟨b0,rfl,hB⟩
   have ACs:BE (.slice ac x.AL.length mc) bv:=⟨_,_,_,hbv,rfl⟩
   have lx:ld prog 3 (.pointer (some ⟨bv,0+j*1,none⟩)) W5=some (.int .i64 y):=AF a3 (a:=⟨bv,0+j*1,none⟩) (by
    show W5.cell bv (0+j*1)=_; rw [show 0+j*1=j by omega]; refine lV.cell ?_; unfold B8; rw [List.getElem?_map,lC]
    rfl)
   have hia:Bm prog 40 (.slice ac x.AL.length mc) (.int .i64 j)=some (.pointer (some ⟨bv,0+j*1,none⟩)):=by rw [hbv]; exact BM Hq s3 hj
   simp only [FM,l15,l11,Bz,L8,lr,hia,lx,wk5.p.look,AA]; refine Am s3 (a:=⟨bv,0+j*1,none⟩) (v:=.int .i64 (placeOf O y)) rfl lV (by rw [Ge]; show 0+j*1<_; omega) fun W6 hu Ja=>?_; have hu:Da bv W5 W6:=hu; have Ja:BF W6 bv 3 (putAt (B8 (M8 (K8 c ix O) x.AL j)) (0+j*1) [.int .i64 (placeOf O y)]):=Ja; rw [sP (by rw [PK]; exact hj)] at Ja; have Vh:K8 c ix O j y=placeOf O y:=if_pos hk; rw [←Vh,←kY Ww] at Ja; refine ⟨by simp only [and_self],trivial,?_⟩; have eY:=lV.lt t5; have AF8:=lts bv ACs; refine hn _ _ W6 (hu.obj _ (by omega)) ⟨HU.then hu.Gy fun i hi he=>by subst he; exact ACs,t5.Az eY hu,by rw [hu.obj _ (by omega)]; exact hd,by rw [hu.sz]; exact hl,?_⟩; rw [hbv]; exact C8.some Ja (by rw [CE,PK]; omega)
  ·have hk:¬A5 c ix j=2:=by simpa using hk
   refine hn _ _ W5 rfl ⟨HU,t5,hd,hl,?_⟩; rw [kZ Ww (if_neg hk)]; exact hB
 ·rw [se] at hB; have uD:=kpJ W' HU; have kA':=kA.trans uD; have LS:=HU.YX t4 nB4 Mj; simp only [Bi,rK,YB]; simp only [AW,Aa,Nat.reduceEqDiff,↓reduceIte,oq]; rw [Ba (vs:=[.string x.type,.slice ac x.AL.length mc]) (a:=⟨W.sz,0,none⟩) jU Ma rfl (by omega) LS.cells]; simp only [AA]; have LR:=PA ps
  have lD:ps.length=i:=by
   have:=congrArg List.length Ye; rw [List.length_map,List.length_take] at this; omega
  have hO5:=hO.own.kp ht uD; refine Mf WC Ma z56 rfl (by omega) AEu (by omega) (za _ _ _ _) rfl rfl t' hO5 (by rw [LR]; omega) fun u Wa lE W6 ka ta LL t6 o6 n6=>?_; simp only [YA,Bi,Kv]; simp only [AW,Aa,Nat.reduceEqDiff,↓reduceIte,h38,Ae,AA]; rw [FU (by omega)]; have kA6:Kp A W6:=LL.kp kA' hO.new; have zW':=uD.sz
  refine ⟨A0,kA6,t6,?_,⟨by simp only [AW,Aa,Nat.reduceEqDiff,↓reduceIte,E.e1],by simp only [AW,Aa,Nat.reduceEqDiff,↓reduceIte,E.e2],by simp only [AW,Aa,Nat.reduceEqDiff,↓reduceIte,E.e9],by simp only [AW,Aa,Nat.reduceEqDiff,↓reduceIte,E.ZJ]⟩,by simp only [h36],by simp only [h37],by simp only [AW],lE,ps++[(Je c O x,.slice ac x.AL.length mc)],by simp only [AW],⟨?_,n6 _ (by omega),fun p hp=>?_⟩,?_⟩
  ·refine hm.more ht (r:=W4.sz) (fun j hj _=>?_) ?_ (by omega) (by omega)
   ·have:=ht _ _ hj
    rw [LL.Gy.obj j (by omega) fun hi=>?_,uD.obj j this]
    ·exact hj
    ·obtain ⟨x',y',z',ho,_⟩:=ER hO.own hi; rw [ho] at hj; cases hj
   ·rw [LL.Gy.obj W4.sz (by omega) fun hi=>?_]
    ·exact hd
    ·obtain ⟨x',y',z',ho,_⟩:=ER hO5 hi; rw [ho] at hd; cases hd
  ·rw [List.flatMap_append,B0]
   simpa [V9] using o6
  ·rcases List.mem_append.1 hp with hp | hp
   ·have h5:=(hO.pv p hp).kp ht uD; exact LL.Gy.own t' h5 (pK h5 hO5 (by decide))
   ·cases List.mem_singleton.1 hp
    rw [B0]; exact LL.Gy.own t' hB (pK hB hO5 (by decide))
  ·rw [List.map_append,Ye,List.take_add_one,ic]; rfl
theorem kb {v0 v1:Value} {c:List Aj} {h:List BN} {a:Int} {W:CW} (ht:Aq W) (hc:A3 5 (M7 W) v0 c) (hC:SG c) (hh:A3 2 (Gx W) v1 h) (hv:∀ x,x ∈ h→x.AL.length<100000) (hs:h.length<1000000) :
  AD prog AM 21 [v0,v1,.int .i64 a] W (fun en W'=>Kp W W'∧Aq W'∧∃ vr ps r,en=.returned (.tuple #[vr,.int .i64 r,.int .i64 (A7 c h a)])∧XO W.sz W' vr ps∧(A7 c h a=0→r=min a 1∧ps.map (·.1)=BR c [] h (Ad c [] h a))∧(A7 c h a≠0→r=0∧ps=[])):=by
 refine AAu ?_; rw [AAs]; generalize LM:AI prog Tryz.f21 (fun en W'=>Kp W W'∧Aq W'∧∃ vr ps r,en=.returned (.tuple #[vr,.int .i64 r,.int .i64 (A7 c h a)])∧XO W.sz W' vr ps∧(A7 c h a=0→r=min a 1∧ps.map (·.1)=BR c [] h (Ad c [] h a))∧(A7 c h a≠0→r=0∧ps=[]))=KK; obtain ⟨ah,ch,rfl,_⟩:=id hh; refine (J5 ht hc hC hh hv hs).mono fun en W0 ⟨k0,t0,r1,r2,FG,GG⟩=>?_; subst FG; refine Ab ?_; refine BG (Bd _ _) ?_; refine BG (Be _ _) ?_; unfold K3; refine D' (ws:=[.map (some r1),.map (some r2)]) pf NS rfl rfl rfl t0 fun W3 k3 t3 z3 hB9=>?_; have p6:=k0.trans k3; simp only [DK,AA]
 refine AN (fun he=>?_) (fun he=>?_)
 ·have he:A7 c h a≠0:=by simpa using he
  rw [←LM,Wc]; exact ⟨p6,t3,_,[],0,rfl,⟨C8.nil,B9.nil _ _ _,fun p hp=>(by cases hp)⟩,fun hz=>(he hz).elim,fun _=>⟨rfl,rfl⟩⟩
 have he:A7 c h a=0:=by simpa using he
 obtain ⟨Ai,Qz,dg,De⟩:=Ms he; obtain ⟨JG,HQ⟩:=CB Qz; have U5:=(GG Ai).kp t0 k3; rw [Ba (vs:=[.map (some r1),.map (some r2)]) (a:=⟨W0.sz,0,none⟩) iB NS rfl (by omega) hB9.cells]; simp only [AA,Y3]; refine (Mo t3 U5 Ai hC (hh.imp fun _ _ _ hr=>hr.kp ht p6) HQ (by omega) dg De).mono fun en W4 ⟨k4,t4,bw,rp,vo,FG,hw,_,_,_,hF⟩=>?_; subst FG; refine Ab ?_; refine HM z89 s89 t4 fun W6 k6 t6 z6 hB=>?_; have hB:BF W6 W4.sz 89 [.pointer none]:=hB; refine Am s89 (a:=⟨W4.sz,0,none⟩) (v:=.pointer (some ⟨bw,0,none⟩)) rfl hB (by simp) fun A hu QZ=>?_; have hu:Da W4.sz W6 A:=hu; have QZ:BF A W4.sz 89 [.pointer (some ⟨bw,0,none⟩)]:=QZ; have tA:=t6.Az (hB.lt t6) hu; have k4A:Kp W4 A:=k6.Az (Nat.le_refl _) hu; have k3A:=k4.trans k4A; have zT:=p6.trans k3A; have hwA:=hw.kp t4 k4A; rw [AF pj (a:=⟨W4.sz,0,none⟩) (QZ.cell rfl)]; simp only [Bz,HR,AA]; rw [AF Nr (a:=⟨bw,0,none⟩) (hwA.w.cell rfl)]; simp only [AA]; rw [Jy Hq hwA.own,CE]; simp only [AA]; have I:ACr A W0.sz W4.sz bw rp r1 r2 vo (.slice ah h.length ch) c h (Ad c [] h a):=⟨tA,hB9.ext t3 k3A,QZ,hwA,U5.kp t3 k3A,Ai,hC,hh.imp fun _ _ _ hr=>hr.kp ht zT,HQ,hF,JG⟩
 refine pL (a:=a) I ⟨rfl,rfl,rfl,rfl⟩ rfl rfl rfl rfl fun e' EV W' vr ps k' t' jB E' oq hO Ye=>?_; simp only [JB,if_true,m8,Bi,E'.e2]; refine JW (ACc _ _ W') ?_; rw [←LM]; have zWA:=zT.sz
 have hmW:Marks W.sz W' EV:=by
  obtain ⟨rs,g1,g2,g3⟩:=jB; exact ⟨rs,g1,g2,fun r hr=>⟨(g3 r hr).1,by have:=(g3 r hr).2; omega⟩⟩
 refine R5 t' hmW fun W2 g1 g2 g3 t2=>?_; rw [Wc]; have uD:=zT.trans k'
 have hO2:XO W.sz W2 vr ps:=by
  have s8:∀ {el n:Nat} {v:Value} {cs:List Value},C8 W' el n v cs→C8 W2 el n v cs:=fun {el n v cs} hO=>O9 hO fun j hj=>by
   obtain ⟨x,y,z,hq,_⟩:=ER hO hj; rw [g1 j _ hq (by simp),hq]
  exact ⟨s8 hO.own,fun b l c' e=>by have:=hO.new b l c' e; omega,fun p hp=>s8 (hO.pv p hp)⟩
 refine ⟨⟨by rw [g3]; exact uD.sz,fun j hj=>by rw [g2 j hj]; exact uD.obj j hj⟩,t2,vr,ps,min a 1,?_,hO2,fun _=>⟨rfl,Ye⟩,fun EB=>(EB he).elim⟩; rw [he]; simp only [AW,Nat.reduceEqDiff,↓reduceIte,oq]
end Go.Ce
