/- A part of the proof: ShD, Qj, Qk, Ql, Qm, Qn, Qo, Qp, Qq, Qr, Qs, Ra, Rb, Rc, Re, Rf, Rg, Rh, Ri, Rj, Rk. -/
import Derived.Test.YtmknebebbbjdlaaGreatW02
import Derived.Test.YtmknebebbbjdlaaGreatW03
import Derived.Test.YtmknebebbbjdlaaGreatProg
set_option linter.unusedSectionVars false
set_option linter.unusedVariables false
set_option linter.unusedSimpArgs false
set_option maxRecDepth 200000
namespace Go.Ce
open Go Go.Proofs Go.Proofs.Tryz
def f17_k28 (ro:Option Nat) (K:zAH):zAH:=zA6 (fun e ds W=>wV (ld prog 88 (e 15) W) fun v96=>wV (nck v96) fun v97=>wV (fad prog 97 v97 0) fun v98=>WCall prog pkL 55 [v98,(.int .i64 1)] W (zAK (fun v99 W18=>wV (ld prog 88 (e 15) W18) fun v100=>wV (nck v100) fun v101=>wV (fad prog 97 v101 0) fun v102=>wV (ld prog 51 (e 16) W18) fun v103=>wV (ld prog 88 (e 15) W18) fun v104=>wV (nck v104) fun v105=>wV (fad prog 97 v105 0) fun v106=>wV (some (.func (.func 57) #[v106] #[])) fun v107=>WCall prog pkL 56 [v102,v103,v107] W18 (zAK (fun v108 W20=>(((True)∧ld prog 88 (e 15) W18=some v104)∧(((True)∧ld prog 51 (e 16) W18=some v103)∧(((True)∧ld prog 88 (e 15) W18=some v100)∧True)))∧True∧WCall prog pkL 58 [] W20 (zAK (fun v109 W22=>wVW (alc prog 108 W22) fun v22 W24=>wV (sto prog 108 v22 v109 W24) fun W25=>wV (ld prog 88 (e 15) W25) fun v110=>wV (nck v110) fun v111=>wV (fad prog 97 v111 0) fun v112=>wV (ld prog 88 (e 15) W25) fun v113=>wV (nck v113) fun v114=>wV (fad prog 97 v114 1) fun v115=>wV (ld prog 89 v115 W25) fun v116=>wV (nck v116) fun v117=>wV (fad prog 100 v117 0) fun v118=>wV (ld prog 40 v118 W25) fun v119=>wV (some (.func (.func 60) #[] #[(e 12),(e 6),(e 15),(e 16),(e 10),v22])) fun v120=>WCall prog pkL 59 [v112,v119,v120] W25 (zAK (fun v121 W26=>(((True)∧ld prog 40 v118 W25=some v119)∧(((True)∧ld prog 89 v115 W25=some v116)∧(((True)∧ld prog 88 (e 15) W25=some v113)∧(((True)∧ld prog 88 (e 15) W25=some v110)∧True))))∧True∧wV (ld prog 88 (e 15) W26) fun v122=>wV (nck v122) fun v123=>wV (fad prog 97 v123 0) fun v124=>wV (fad prog 95 v124 0) fun v125=>wV (ld prog 29 v125 W26) fun v126=>K .ret (Env.of e [(9,(.int .i64 0)),(8,v126),(126,v126),(125,v125),(124,v124),(123,v123),(122,v122),(121,v121),(120,v120),(119,v119),(118,v118),(117,v117),(116,v116),(115,v115),(114,v114),(113,v113),(112,v112),(111,v111),(110,v110),(22,v22),(109,v109),(108,v108),(107,v107),(106,v106),(105,v105),(104,v104),(103,v103),(102,v102),(101,v101),(100,v100),(99,v99),(98,v98),(97,v97),(96,v96)]) ds W26) (fun ch27 W27=>False))) (fun ch23 W23=>K (.panic ch23) (Env.of e [(108,v108),(107,v107),(106,v106),(105,v105),(104,v104),(103,v103),(102,v102),(101,v101),(100,v100),(99,v99),(98,v98),(97,v97),(96,v96)]) ds W23))) (fun ch21 W21=>False))) (fun ch19 W19=>K (.panic ch19) (Env.of e [(98,v98),(97,v97),(96,v96)]) ds W19))) K
theorem f17_c (v0 v1 v2 v3:Value) (K:zAH) (W:CW):zAJ prog pkL none 17 127 (zAF prog 17) (Env.args [v0,v1,v2,v3]) [] W K=(wVW (bxw prog 24 v2 W) fun v6 W0=>WCall prog pkL 47 [v0] W0 (zAK (fun v25 W1=>wV (ext v25 0) fun v26=>wV (ext v25 1) fun v27=>wVW (alc prog 78 W1) fun v10 W3=>wV (sto prog 78 v10 v26 W3) fun W4=>wV (ngt v27) fun v29=>wI v29 (K .ret (Env.of (Env.args [v0,v1,v2,v3]) [(9,(.int .i64 210)),(8,(.slice none 0 0)),(29,v29),(28,v27),(11,v27),(10,v10),(27,v27),(26,v26),(23,v25),(25,v25),(24,v0),(9,(.int .i64 0)),(8,(.slice none 0 0)),(6,v6)]) [] W4) (wV (ld prog 78 v10 W4) fun v31=>WCall prog pkL 48 [v31,v1] W4 (zAK (fun v33 W5=>wV (ext v33 0) fun v34=>wV (ext v33 1) fun v35=>wVW (alc prog 83 W5) fun v12 W7=>wV (sto prog 83 v12 v34 W7) fun W8=>wV (ngt v35) fun v37=>wI v37 (K .ret (Env.of (Env.args [v0,v1,v2,v3]) [(9,(.int .i64 212)),(8,(.slice none 0 0)),(37,v37),(36,v35),(11,v35),(12,v12),(35,v35),(34,v34),(30,v33),(33,v33),(32,v1),(31,v31),(29,v29),(28,v27),(11,v27),(10,v10),(27,v27),(26,v26),(23,v25),(25,v25),(24,v0),(9,(.int .i64 0)),(8,(.slice none 0 0)),(6,v6)]) [] W8) (wV (ld prog 24 v6 W8) fun v40=>WCall prog pkL 49 [v0,v40,v3] W8 (zAK (fun v42 W9=>wV (ext v42 0) fun v43=>wV (ext v42 1) fun v44=>wVW (alc prog 78 W9) fun v13 W11=>wV (sto prog 78 v13 v43 W11) fun W12=>wV (zAO prog .neq 30 true v44 (.int .i64 0)) fun v46=>wI v46 (K .ret (Env.of (Env.args [v0,v1,v2,v3]) [(9,v44),(8,(.slice none 0 0)),(47,v44),(46,v46),(45,v44),(14,v44),(13,v13),(44,v44),(43,v43),(38,v42),(42,v42),(41,v3),(40,v40),(39,v0),(37,v37),(36,v35),(11,v35),(12,v12),(35,v35),(34,v34),(30,v33),(33,v33),(32,v1),(31,v31),(29,v29),(28,v27),(11,v27),(10,v10),(27,v27),(26,v26),(23,v25),(25,v25),(24,v0),(9,(.int .i64 0)),(8,(.slice none 0 0)),(6,v6)]) [] W12) (wV (some (.func (.func 51) #[] #[v10,v12,v6])) fun v49=>WCall prog pkL 50 [v3,v49] (W12.new (.cells .nil 1 #[.pointer none] 88)) (zAK (fun v50 W13=>wV (ld prog 78 v10 W13) fun v51=>wV (bld prog 97 [(1,v50),(2,v51)]) fun v52=>wVW (bxw prog 97 v52 W13) fun v53 W15=>true=true∧wV (sto prog 88 (.pointer (some ⟨W12.sz,0,none⟩)) v53 W15) fun W16=>(((True)∧((True)∧((ld prog 78 v10 W13=some v51)∧ld prog 78 v10 (W12.new (.cells .nil 1 #[.pointer none] 88))=some v51)))∧True)∧(((True)∧((flOk (.pointer (some ⟨W12.sz,0,none⟩)) ((W12.new (.cells .nil 1 #[.pointer none] 88)).obj W12.sz) W15=true)∧((flOk (.pointer (some ⟨W12.sz,0,none⟩)) ((W12.new (.cells .nil 1 #[.pointer none] 88)).obj W12.sz) W13=true)∧flOk (.pointer (some ⟨W12.sz,0,none⟩)) ((W12.new (.cells .nil 1 #[.pointer none] 88)).obj W12.sz) (W12.new (.cells .nil 1 #[.pointer none] 88))=true)))∧True)∧wVW (alc prog 51 W16) fun v16 W17=>wV (ld prog 88 (.pointer (some ⟨W12.sz,0,none⟩)) W17) fun v54=>wV (nck v54) fun v55=>wV (fad prog 97 v55 1) fun v56=>wV (ld prog 89 v56 W17) fun v57=>wV (nck v57) fun v58=>wV (fad prog 100 v58 0) fun v59=>wV (ld prog 40 v59 W17) fun v60=>wV (zAr prog 40 v60 W17) fun v61=>zC0 prog pkL none 17 127 (.loop (zAU prog 17 0)) (Env.of (Env.args [v0,v1,v2,v3]) [(62,(.int .i64 0)),(61,v61),(60,v60),(59,v59),(58,v58),(57,v57),(56,v56),(55,v55),(54,v54),(16,v16),(15,(.pointer (some ⟨W12.sz,0,none⟩))),(53,v53),(52,v52),(51,v51),(50,v50),(49,v49),(48,v3),(46,v46),(45,v44),(14,v44),(13,v13),(44,v44),(43,v43),(38,v42),(42,v42),(41,v3),(40,v40),(39,v0),(37,v37),(36,v35),(11,v35),(12,v12),(35,v35),(34,v34),(30,v33),(33,v33),(32,v1),(31,v31),(29,v29),(28,v27),(11,v27),(10,v10),(27,v27),(26,v26),(23,v25),(25,v25),(24,v0),(9,(.int .i64 0)),(8,(.slice none 0 0)),(6,v6)]) [] W17 (zBz 0 (f17_k28 none K))) (fun ch14 W14=>False)))) (fun ch10 W10=>K (.panic ch10) (Env.of (Env.args [v0,v1,v2,v3]) [(41,v3),(40,v40),(39,v0),(37,v37),(36,v35),(11,v35),(12,v12),(35,v35),(34,v34),(30,v33),(33,v33),(32,v1),(31,v31),(29,v29),(28,v27),(11,v27),(10,v10),(27,v27),(26,v26),(23,v25),(25,v25),(24,v0),(9,(.int .i64 0)),(8,(.slice none 0 0)),(6,v6)]) [] W10)))) (fun ch6 W6=>K (.panic ch6) (Env.of (Env.args [v0,v1,v2,v3]) [(32,v1),(31,v31),(29,v29),(28,v27),(11,v27),(10,v10),(27,v27),(26,v26),(23,v25),(25,v25),(24,v0),(9,(.int .i64 0)),(8,(.slice none 0 0)),(6,v6)]) [] W6)))) (fun ch2 W2=>K (.panic ch2) (Env.of (Env.args [v0,v1,v2,v3]) [(24,v0),(9,(.int .i64 0)),(8,(.slice none 0 0)),(6,v6)]) [] W2))):=by kernel_rfl
def zFX (ro:Option Nat) (K:zAH):zAH:=zA6 (fun e ds W=>wV (zAO prog .add 3 true (e 62) (.int .i64 1)) fun v95=>K .normal (Env.of e [(62,v95),(95,v95)]) ds W) K
theorem f17_l0 (ro:Option Nat) (e:Env) (ds:List Deferred) (K:zAH) (W:CW):zAJ prog pkL ro 17 127 (zAU prog 17 0) e ds W K=(wV (zAO prog .lss 3 false (e 62) (e 61)) fun v63=>wI v63 (wV (iad prog 40 (e 60) (e 62)) fun v64=>wV (ld prog 3 v64 W) fun v65=>wV (fad prog 83 (e 12) 1) fun v67=>wV (ld prog 81 v67 W) fun v68=>wV (ld prog 24 (e 6) W) fun v69=>wV (zAO prog .sub 3 true v65 (.int .i64 1)) fun v71=>wV (iad prog 24 v69 v71) fun v72=>wV (fad prog 56 v72 0) fun v73=>wV (ld prog 9 v73 W) fun v74=>wV (lkp prog 81 v68 v74 true W) fun v75=>wV (ext v75 0) fun v76=>wV (ext v75 1) fun v77=>wVW (alc prog 58 W) fun v19 W30=>wV (sto prog 58 v19 v76 W30) fun W31=>(((True)∧((lkp prog 81 v68 v74 true W30=some v75)∧lkp prog 81 v68 v74 true W=some v75))∧(((True)∧((ld prog 9 v73 W30=some v74)∧ld prog 9 v73 W=some v74))∧(((True)∧((ld prog 24 (e 6) W30=some v69)∧ld prog 24 (e 6) W=some v69))∧(((True)∧((ld prog 81 v67 W30=some v68)∧ld prog 81 v67 W=some v68))∧True))))∧True∧wI v77 ((zFX ro K) .ret (Env.of e [(9,(.int .i64 214)),(8,(.slice none 0 0)),(78,v77),(20,v77),(19,v19),(77,v77),(76,v76),(66,v75),(75,v75),(74,v74),(73,v73),(72,v72),(71,v71),(70,v65),(69,v69),(68,v68),(67,v67),(18,v65),(65,v65),(64,v64),(63,v63)]) ds W31) (wV (ld prog 83 (e 12) W31) fun v79=>wV (ld prog 24 (e 6) W31) fun v80=>wV (zAO prog .sub 3 true v65 (.int .i64 1)) fun v82=>wV (iad prog 24 v80 v82) fun v83=>wV (ld prog 56 v83 W31) fun v84=>WCall prog pkL 53 [v79,v84] W31 (zAK (fun v85 W32=>wV (fld prog 56 v85 0) fun v86=>(((True)∧ld prog 56 v83 W31=some v84)∧(((True)∧ld prog 24 (e 6) W31=some v80)∧(((True)∧ld prog 83 (e 12) W31=some v79)∧True)))∧True∧wV (ld prog 51 (e 16) W32) fun v87=>WCall prog pkL 54 [v87,v86] W32 (zAK (fun v89 W34=>wV (ngt v89) fun v90=>wI v90 (wV (ld prog 51 (e 16) W34) fun v91=>wVW (bsl prog 51 1 [(0,v86)] W34) fun v93 W36=>wVW (app prog [51,51] v91 v93 W36) fun v94 W37=>wV (sto prog 51 (e 16) v94 W37) fun W38=>(zFX ro K) .normal (Env.of e [(94,v94),(93,v93),(92,v86),(91,v91),(90,v90),(89,v89),(88,v86),(87,v87),(21,v86),(86,v86),(85,v85),(84,v84),(83,v83),(82,v82),(81,v65),(80,v80),(79,v79),(78,v77),(20,v77),(19,v19),(77,v77),(76,v76),(66,v75),(75,v75),(74,v74),(73,v73),(72,v72),(71,v71),(70,v65),(69,v69),(68,v68),(67,v67),(18,v65),(65,v65),(64,v64),(63,v63)]) ds W38) ((zFX ro K) .normal (Env.of e [(90,v90),(89,v89),(88,v86),(87,v87),(21,v86),(86,v86),(85,v85),(84,v84),(83,v83),(82,v82),(81,v65),(80,v80),(79,v79),(78,v77),(20,v77),(19,v19),(77,v77),(76,v76),(66,v75),(75,v75),(74,v74),(73,v73),(72,v72),(71,v71),(70,v65),(69,v69),(68,v68),(67,v67),(18,v65),(65,v65),(64,v64),(63,v63)]) ds W34)) (fun ch35 W35=>(zFX ro K) (.panic ch35) (Env.of e [(88,v86),(87,v87),(21,v86),(86,v86),(85,v85),(84,v84),(83,v83),(82,v82),(81,v65),(80,v80),(79,v79),(78,v77),(20,v77),(19,v19),(77,v77),(76,v76),(66,v75),(75,v75),(74,v74),(73,v73),(72,v72),(71,v71),(70,v65),(69,v69),(68,v68),(67,v67),(18,v65),(65,v65),(64,v64),(63,v63)]) ds W35))) (fun ch33 W33=>False)))) (K (.exit 0) (Env.of e [(63,v63)]) ds W)):=by kernel_rfl
theorem f17_leave (Q:Ending→CW→Prop) (e:Env) (W:CW):zAD prog Tryz.f17 Q .ret e [] W=Q (.returned (.tuple #[e 8,e 9])) W:=by kernel_rfl
theorem f17_w {Q:Ending→CW→Prop} {v0 v1 v2 v3:Value} {W:CW} (h:zAJ prog pkL none 17 127 (zAF prog 17) (Env.args [v0,v1,v2,v3]) [] W (zAD prog Tryz.f17 Q)):WCall prog pkL 17 [v0,v1,v2,v3] W Q:=zAM Tryz.func17 (by kernel_rfl) (by kernel_rfl) (by kernel_rfl) (by kernel_rfl) (by kernel_rfl) h
theorem f51_c (v0 v1 v2 v3:Value) (K:zAH) (W:CW):zAJ prog pkL none 51 15 (zAF prog 51) (Env.args [v0,v1,v2,v3]) [] W K=(wV (ld prog 78 v1 W) fun v6=>wV (ld prog 83 v2 W) fun v7=>wV (ld prog 24 v3 W) fun v8=>wV (zAO prog .sub 3 true v0 (.int .i64 1)) fun v10=>wV (iad prog 24 v8 v10) fun v11=>wV (ld prog 56 v11 W) fun v12=>WCall prog pkL 53 [v7,v12] W (zAK (fun v13 W0=>WCall prog pkL 52 [v6,v13] W0 (zAK (fun v14 W2=>(((True)∧((True)∧ld prog 56 v11 W=some v12))∧(((True)∧((True)∧ld prog 24 v3 W=some v8))∧(((True)∧((True)∧ld prog 83 v2 W=some v7))∧(((True)∧((ld prog 78 v1 W0=some v6)∧ld prog 78 v1 W=some v6))∧True))))∧True∧K .ret (Env.of (Env.args [v0,v1,v2,v3]) [(5,v14),(14,v14),(13,v13),(12,v12),(11,v11),(10,v10),(9,v0),(8,v8),(7,v7),(6,v6),(5,(.slice none 0 0))]) [] W2) (fun ch3 W3=>False))) (fun ch1 W1=>False))):=by kernel_rfl
theorem f51_leave (Q:Ending→CW→Prop) (e:Env) (W:CW):zAD prog Tryz.f51 Q .ret e [] W=Q (.returned (e 5)) W:=by kernel_rfl
theorem f51_w {Q:Ending→CW→Prop} {v0 v1 v2 v3:Value} {W:CW} (h:zAJ prog pkL none 51 15 (zAF prog 51) (Env.args [v0,v1,v2,v3]) [] W (zAD prog Tryz.f51 Q)):WCall prog pkL 51 [v0,v1,v2,v3] W Q:=zAM Tryz.func51 (by kernel_rfl) (by kernel_rfl) (by kernel_rfl) (by kernel_rfl) (by kernel_rfl) h
def f53_k9 (ro:Option Nat) (K:zAH):zAH:=zA6 (fun e ds W=>wV (ld prog 56 (e 7) W) fun v42=>wV (sto prog 56 (e 4) v42 W) fun W8=>K .ret (Env.of e [(42,v42)]) ds W8) K
theorem f53_c (v0 v1:Value) (K:zAH) (W:CW):zAJ prog pkL none 53 43 (zAF prog 53) (Env.args [v0,v1]) [] W K=(wVW (bxw prog 83 v0 W) fun v2 W0=>wVW (bxw prog 56 v1 W0) fun v3 W1=>wVW (alc prog 56 W1) fun v4 W2=>wV (fad prog 83 v2 0) fun v11=>wV (ld prog 81 v11 W2) fun v12=>wV (fad prog 56 v3 0) fun v13=>wV (ld prog 9 v13 W2) fun v14=>wV (lkp prog 81 v12 v14 true W2) fun v15=>wV (ext v15 0) fun v16=>wV (ext v15 1) fun v17=>wVW (alc prog 58 W2) fun v5 W3=>wV (sto prog 58 v5 v16 W3) fun W4=>wV (ngt v17) fun v19=>wI v19 (wV (ld prog 56 v3 W4) fun v20=>wV (sto prog 56 v4 v20 W4) fun W5=>K .ret (Env.of (Env.args [v0,v1]) [(20,v20),(19,v19),(18,v17),(6,v17),(5,v5),(17,v17),(16,v16),(10,v15),(15,v15),(14,v14),(13,v13),(12,v12),(11,v11),(4,v4),(3,v3),(2,v2)]) [] W5) (wV (fad prog 58 v5 1) fun v21=>wV (ld prog 9 v21 W4) fun v22=>wV (bld prog 56 [(0,v22)]) fun v23=>wVW (alc prog 56 W4) fun v7 W6=>wV (sto prog 56 v7 v23 W6) fun W7=>wV (fad prog 58 v5 2) fun v24=>wV (ld prog 40 v24 W7) fun v25=>wV (zAr prog 40 v25 W7) fun v26=>zC0 prog pkL none 53 43 (.loop (zAU prog 53 0)) (Env.of (Env.args [v0,v1]) [(27,(.int .i64 0)),(26,v26),(25,v25),(24,v24),(7,v7),(23,v23),(22,v22),(21,v21),(19,v19),(18,v17),(6,v17),(5,v5),(17,v17),(16,v16),(10,v15),(15,v15),(14,v14),(13,v13),(12,v12),(11,v11),(4,v4),(3,v3),(2,v2)]) [] W7 (zBz 0 (f53_k9 none K)))):=by kernel_rfl
def f53_k10 (ro:Option Nat) (K:zAH):zAH:=zA6 (fun e ds W=>wV (zAO prog .add 3 true (e 27) (.int .i64 1)) fun v41=>K .normal (Env.of e [(27,v41),(41,v41)]) ds W) K
theorem f53_l0 (ro:Option Nat) (e:Env) (ds:List Deferred) (K:zAH) (W:CW):zAJ prog pkL ro 53 43 (zAU prog 53 0) e ds W K=(wV (zAO prog .lss 3 false (e 27) (e 26)) fun v28=>wI v28 (wV (iad prog 40 (e 25) (e 27)) fun v29=>wV (ld prog 3 v29 W) fun v30=>wV (fad prog 56 (e 7) 1) fun v31=>wV (ld prog 40 v31 W) fun v32=>wV (fad prog 56 (e 3) 1) fun v33=>wV (ld prog 40 v33 W) fun v34=>wV (iad prog 40 v34 v30) fun v36=>wV (ld prog 3 v36 W) fun v37=>wVW (bsl prog 40 1 [(0,v37)] W) fun v38 W11=>wVW (app prog [40,40] v32 v38 W11) fun v39 W12=>wV (fad prog 56 (e 7) 1) fun v40=>wV (sto prog 40 v40 v39 W12) fun W13=>(((True)∧((True)∧((True)∧ld prog 3 v36 W=some v37)))∧(((True)∧((True)∧((True)∧ld prog 40 v33 W=some v34)))∧(((True)∧((True)∧((ld prog 40 v31 W11=some v32)∧ld prog 40 v31 W=some v32)))∧True)))∧True∧(f53_k10 ro K) .normal (Env.of e [(40,v40),(39,v39),(38,v38),(37,v37),(36,v36),(35,v30),(34,v34),(33,v33),(32,v32),(31,v31),(9,v30),(30,v30),(29,v29),(28,v28)]) ds W13) (K (.exit 0) (Env.of e [(28,v28)]) ds W)):=by kernel_rfl
theorem f53_w {Q:Ending→CW→Prop} {v0 v1:Value} {W:CW} (h:zAJ prog pkL none 53 43 (zAF prog 53) (Env.args [v0,v1]) [] W (zAD prog Tryz.f53 Q)):WCall prog pkL 53 [v0,v1] W Q:=zAM Tryz.func53 (by kernel_rfl) (by kernel_rfl) (by kernel_rfl) (by kernel_rfl) (by kernel_rfl) h
theorem f54_c (v0 v1:Value) (K:zAH) (W:CW):zAJ prog pkL none 54 9 (zAF prog 54) (Env.args [v0,v1]) [] W K=(WCall prog pkL 61 [v0,v1] W (zAK (fun v7 W0=>wV (zAO prog .geq 3 true v7 (.int .i64 0)) fun v8=>K .ret (Env.of (Env.args [v0,v1]) [(4,v8),(8,v8),(7,v7),(6,v1),(5,v0),(4,(.bool false))]) [] W0) (fun ch1 W1=>K (.panic ch1) (Env.of (Env.args [v0,v1]) [(6,v1),(5,v0),(4,(.bool false))]) [] W1))):=by kernel_rfl
theorem f54_leave (Q:Ending→CW→Prop) (e:Env) (W:CW):zAD prog Tryz.f54 Q .ret e [] W=Q (.returned (e 4)) W:=by kernel_rfl
theorem f54_w {Q:Ending→CW→Prop} {v0 v1:Value} {W:CW} (h:zAJ prog pkL none 54 9 (zAF prog 54) (Env.args [v0,v1]) [] W (zAD prog Tryz.f54 Q)):WCall prog pkL 54 [v0,v1] W Q:=zAM Tryz.func54 (by kernel_rfl) (by kernel_rfl) (by kernel_rfl) (by kernel_rfl) (by kernel_rfl) h
def f55_k3 (ro:Option Nat) (K:zAH):zAH:=zA6 (fun e ds W=>wV (nck (e 0)) fun v23=>wV (fad prog 95 v23 0) fun v24=>wV (ld prog 29 v24 W) fun v25=>wV (cvw prog 3 5 (e 1)) fun v27=>wVW (bsl prog 29 1 [(0,v27)] W) fun v28 W0=>wVW (app prog [29,29] v25 v28 W0) fun v29 W1=>wV (nck (e 0)) fun v30=>wV (fad prog 95 v30 0) fun v31=>wV (sto prog 29 v31 v29 W1) fun W2=>K .normal (Env.of e [(31,v31),(30,v30),(29,v29),(28,v28),(27,v27),(26,(e 1)),(25,v25),(24,v24),(23,v23),(22,(e 0)),(21,(e 0))]) ds W2) K
theorem f55_c (v0 v1:Value) (K:zAH) (W:CW):zAJ prog pkL none 55 32 (zAF prog 55) (Env.args [v0,v1]) [] W K=(zC0 prog pkL none 55 32 (.loop (zAU prog 55 0)) (Env.args [v0,v1]) [] W (zBz 0 (f55_k3 none K))):=by kernel_rfl
def f55_k4 (ro:Option Nat) (K:zAH):zAH:=zA6 (fun e ds W=>wV (zAO prog .shr 3 true (e 1) (.int .u64 7)) fun v7=>K .normal (Env.of e [(1,v7),(7,v7),(6,(e 1))]) ds W) K
theorem f55_l0 (ro:Option Nat) (e:Env) (ds:List Deferred) (K:zAH) (W:CW):zAJ prog pkL ro 55 32 (zAU prog 55 0) e ds W K=(wV (zAO prog .geq 3 true (e 1) (.int .i64 128)) fun v5=>wI v5 (wV (nck (e 0)) fun v10=>wV (fad prog 95 v10 0) fun v11=>wV (ld prog 29 v11 W) fun v12=>wV (zAO prog .rem 3 true (e 1) (.int .i64 128)) fun v14=>wV (zAO prog .add 3 true v14 (.int .i64 128)) fun v15=>wV (cvw prog 3 5 v15) fun v16=>wVW (bsl prog 29 1 [(0,v16)] W) fun v17 W5=>wVW (app prog [29,29] v12 v17 W5) fun v18 W6=>wV (nck (e 0)) fun v19=>wV (fad prog 95 v19 0) fun v20=>wV (sto prog 29 v20 v18 W6) fun W7=>(f55_k4 ro K) .normal (Env.of e [(20,v20),(19,v19),(18,v18),(17,v17),(16,v16),(15,v15),(14,v14),(13,(e 1)),(12,v12),(11,v11),(10,v10),(9,(e 0)),(8,(e 0)),(5,v5),(4,(e 1))]) ds W7) (K (.exit 0) (Env.of e [(5,v5),(4,(e 1))]) ds W)):=by kernel_rfl
theorem f55_w {Q:Ending→CW→Prop} {v0 v1:Value} {W:CW} (h:zAJ prog pkL none 55 32 (zAF prog 55) (Env.args [v0,v1]) [] W (zAD prog Tryz.f55 Q)):WCall prog pkL 55 [v0,v1] W Q:=zAM Tryz.func55 (by kernel_rfl) (by kernel_rfl) (by kernel_rfl) (by kernel_rfl) (by kernel_rfl) h
theorem f56_c (v0 v1 v2:Value) (K:zAH) (W:CW):zAJ prog pkL none 56 22 (zAF prog 56) (Env.args [v0,v1,v2]) [] W K=(wV (zAr prog 51 v1 W) fun v10=>WCall prog pkL 55 [v0,v10] W (zAK (fun v11 W0=>wV (zAr prog 51 v1 W0) fun v13=>zC0 prog pkL none 56 22 (.loop (zAU prog 56 0)) (Env.of (Env.args [v0,v1,v2]) [(14,(.int .i64 0)),(13,v13),(12,v1),(11,v11),(10,v10),(9,v1),(8,v0)]) [] W0 (zBz 0 K)) (fun ch1 W1=>K (.panic ch1) (Env.of (Env.args [v0,v1,v2]) [(10,v10),(9,v1),(8,v0)]) [] W1))):=by kernel_rfl
def f56_k2 (ro:Option Nat) (K:zAH):zAH:=zA6 (fun e ds W=>wV (zAO prog .add 3 true (e 14) (.int .i64 1)) fun v21=>K .normal (Env.of e [(14,v21),(21,v21)]) ds W) K
theorem f56_l0 (ro:Option Nat) (e:Env) (ds:List Deferred) (K:zAH) (W:CW):zAJ prog pkL ro 56 22 (zAU prog 56 0) e ds W K=(wV (zAO prog .lss 3 false (e 14) (e 13)) fun v15=>wI v15 (wV (iad prog 51 (e 12) (e 14)) fun v16=>wV (ld prog 9 v16 W) fun v17=>zBn prog pkL (e 2) [v17] W (fun v20 W3=>(f56_k2 ro K) .normal (Env.of e [(20,v20),(19,v17),(18,(e 2)),(7,v17),(17,v17),(16,v16),(15,v15)]) ds W3) (fun ch4 W4=>(f56_k2 ro K) (.panic ch4) (Env.of e [(19,v17),(18,(e 2)),(7,v17),(17,v17),(16,v16),(15,v15)]) ds W4)) (K (.exit 0) (Env.of e [(15,v15)]) ds W)):=by kernel_rfl
theorem f56_w {Q:Ending→CW→Prop} {v0 v1 v2:Value} {W:CW} (h:zAJ prog pkL none 56 22 (zAF prog 56) (Env.args [v0,v1,v2]) [] W (zAD prog Tryz.f56 Q)):WCall prog pkL 56 [v0,v1,v2] W Q:=zAM Tryz.func56 (by kernel_rfl) (by kernel_rfl) (by kernel_rfl) (by kernel_rfl) (by kernel_rfl) h
theorem f57_c (v0 v1:Value) (K:zAH) (W:CW):zAJ prog pkL none 57 17 (zAF prog 57) (Env.args [v0,v1]) [] W K=(wV (zAr prog 9 v1 W) fun v6=>WCall prog pkL 55 [v0,v6] W (zAK (fun v7 W0=>wV (nck v0) fun v10=>wV (fad prog 95 v10 0) fun v11=>wV (ld prog 29 v11 W0) fun v12=>wVW (app prog [29,9] v12 v1 W0) fun v14 W2=>wV (nck v0) fun v15=>wV (fad prog 95 v15 0) fun v16=>wV (sto prog 29 v16 v14 W2) fun W3=>K .normal (Env.of (Env.args [v0,v1]) [(16,v16),(15,v15),(14,v14),(13,v1),(12,v12),(11,v11),(10,v10),(9,v0),(8,v0),(7,v7),(6,v6),(5,v1),(4,v0)]) [] W3) (fun ch1 W1=>K (.panic ch1) (Env.of (Env.args [v0,v1]) [(6,v6),(5,v1),(4,v0)]) [] W1))):=by kernel_rfl
theorem f57_w {Q:Ending→CW→Prop} {v0 v1:Value} {W:CW} (h:zAJ prog pkL none 57 17 (zAF prog 57) (Env.args [v0,v1]) [] W (zAD prog Tryz.f57 Q)):WCall prog pkL 57 [v0,v1] W Q:=zAM Tryz.func57 (by kernel_rfl) (by kernel_rfl) (by kernel_rfl) (by kernel_rfl) (by kernel_rfl) h
theorem f58_c (K:zAH) (W:CW):zAJ prog pkL none 58 2 (zAF prog 58) (Env.args []) [] W K=(wVW (alc prog 108 W) fun v0 W0=>wV (bld prog 108 [(1,(.func (.func 106) #[] #[])),(2,(.func (.func 107) #[] #[]))]) fun v1=>wV (sto prog 108 v0 v1 W0) fun W1=>K .ret (Env.of (Env.args []) [(1,v1),(0,v0)]) [] W1):=by kernel_rfl
theorem f58_w {Q:Ending→CW→Prop} {W:CW} (h:zAJ prog pkL none 58 2 (zAF prog 58) (Env.args []) [] W (zAD prog Tryz.f58 Q)):WCall prog pkL 58 [] W Q:=zAM Tryz.func58 (by kernel_rfl) (by kernel_rfl) (by kernel_rfl) (by kernel_rfl) (by kernel_rfl) h
theorem f59_c (v0 v1 v2:Value) (K:zAH) (W:CW):zAJ prog pkL none 59 22 (zAF prog 59) (Env.args [v0,v1,v2]) [] W K=(wV (zAr prog 40 v1 W) fun v10=>WCall prog pkL 55 [v0,v10] W (zAK (fun v11 W0=>wV (zAr prog 40 v1 W0) fun v13=>zC0 prog pkL none 59 22 (.loop (zAU prog 59 0)) (Env.of (Env.args [v0,v1,v2]) [(14,(.int .i64 0)),(13,v13),(12,v1),(11,v11),(10,v10),(9,v1),(8,v0)]) [] W0 (zBz 0 K)) (fun ch1 W1=>K (.panic ch1) (Env.of (Env.args [v0,v1,v2]) [(10,v10),(9,v1),(8,v0)]) [] W1))):=by kernel_rfl
def f59_k2 (ro:Option Nat) (K:zAH):zAH:=zA6 (fun e ds W=>wV (zAO prog .add 3 true (e 14) (.int .i64 1)) fun v21=>K .normal (Env.of e [(14,v21),(21,v21)]) ds W) K
theorem f59_l0 (ro:Option Nat) (e:Env) (ds:List Deferred) (K:zAH) (W:CW):zAJ prog pkL ro 59 22 (zAU prog 59 0) e ds W K=(wV (zAO prog .lss 3 false (e 14) (e 13)) fun v15=>wI v15 (wV (iad prog 40 (e 12) (e 14)) fun v16=>wV (ld prog 3 v16 W) fun v17=>zBn prog pkL (e 2) [v17] W (fun v20 W3=>(f59_k2 ro K) .normal (Env.of e [(20,v20),(19,v17),(18,(e 2)),(7,v17),(17,v17),(16,v16),(15,v15)]) ds W3) (fun ch4 W4=>(f59_k2 ro K) (.panic ch4) (Env.of e [(19,v17),(18,(e 2)),(7,v17),(17,v17),(16,v16),(15,v15)]) ds W4)) (K (.exit 0) (Env.of e [(15,v15)]) ds W)):=by kernel_rfl
theorem f59_w {Q:Ending→CW→Prop} {v0 v1 v2:Value} {W:CW} (h:zAJ prog pkL none 59 22 (zAF prog 59) (Env.args [v0,v1,v2]) [] W (zAD prog Tryz.f59 Q)):WCall prog pkL 59 [v0,v1,v2] W Q:=zAM Tryz.func59 (by kernel_rfl) (by kernel_rfl) (by kernel_rfl) (by kernel_rfl) (by kernel_rfl) h
def f60_k9 (ro:Option Nat) (K:zAH):zAH:=zA6 (fun e ds W=>wV (ld prog 78 (e 5) W) fun v40=>wV (ld prog 56 (e 8) W) fun v41=>WCall prog pkL 62 [v40,v41] W (zAK (fun v42 W7=>zC0 prog pkL ro 60 55 (.rangeFunc (.tmp 42) #[43,44] (rfA prog 60 0) (rfB prog 60 0)) (Env.of e [(42,v42),(41,v41),(40,v40)]) ds W7 (zBz 0 K)) (fun ch8 W8=>K (.panic ch8) (Env.of e [(41,v41),(40,v40)]) ds W8))) K
theorem f60_c (v0 v1 v2 v3 v4 v5 v6:Value) (K:zAH) (W:CW):zAJ prog pkL none 60 55 (zAF prog 60) (Env.args [v0,v1,v2,v3,v4,v5,v6]) [] W K=(wV (ld prog 83 v1 (W.new (.cells .nil 2 #[.string ⟨#[]⟩,.slice none 0 0] 56))) fun v11=>wV (ld prog 24 v2 (W.new (.cells .nil 2 #[.string ⟨#[]⟩,.slice none 0 0] 56))) fun v12=>wV (zAO prog .sub 3 true v0 (.int .i64 1)) fun v14=>wV (iad prog 24 v12 v14) fun v15=>wV (ld prog 56 v15 (W.new (.cells .nil 2 #[.string ⟨#[]⟩,.slice none 0 0] 56))) fun v16=>WCall prog pkL 53 [v11,v16] (W.new (.cells .nil 2 #[.string ⟨#[]⟩,.slice none 0 0] 56)) (zAK (fun v17 W0=>true=true∧wV (sto prog 56 (.pointer (some ⟨W.sz,0,none⟩)) v17 W0) fun W2=>(((True)∧((True)∧ld prog 56 v15 (W.new (.cells .nil 2 #[.string ⟨#[]⟩,.slice none 0 0] 56))=some v16))∧(((True)∧((True)∧ld prog 24 v2 (W.new (.cells .nil 2 #[.string ⟨#[]⟩,.slice none 0 0] 56))=some v12))∧(((True)∧((True)∧ld prog 83 v1 (W.new (.cells .nil 2 #[.string ⟨#[]⟩,.slice none 0 0] 56))=some v11))∧True)))∧(((True)∧((flOk (.pointer (some ⟨W.sz,0,none⟩)) ((W.new (.cells .nil 2 #[.string ⟨#[]⟩,.slice none 0 0] 56)).obj W.sz) W0=true)∧flOk (.pointer (some ⟨W.sz,0,none⟩)) ((W.new (.cells .nil 2 #[.string ⟨#[]⟩,.slice none 0 0] 56)).obj W.sz) (W.new (.cells .nil 2 #[.string ⟨#[]⟩,.slice none 0 0] 56))=true))∧True)∧wV (ld prog 88 v3 W2) fun v18=>wV (nck v18) fun v19=>wV (fad prog 97 v19 0) fun v20=>wV (ld prog 51 v4 W2) fun v21=>wV (fad prog 56 (.pointer (some ⟨W.sz,0,none⟩)) 0) fun v22=>wV (ld prog 9 v22 W2) fun v23=>WCall prog pkL 61 [v21,v23] W2 (zAK (fun v24 W3=>WCall prog pkL 55 [v20,v24] W3 (zAK (fun v25 W5=>(((True)∧((True)∧ld prog 9 v22 W2=some v23))∧(((True)∧((True)∧ld prog 51 v4 W2=some v21))∧(((True)∧((ld prog 88 v3 W3=some v18)∧ld prog 88 v3 W2=some v18))∧True)))∧True∧wV (fad prog 78 v5 0) fun v26=>wV (ld prog 75 v26 W5) fun v27=>wV (fad prog 56 (.pointer (some ⟨W.sz,0,none⟩)) 0) fun v28=>wV (ld prog 9 v28 W5) fun v29=>wV (lkp prog 75 v27 v29 false W5) fun v30=>wV (fld prog 48 v30 3) fun v31=>wV (zAO prog .neq 5 true v31 (.int .u8 0)) fun v32=>wI v32 (wV (ld prog 88 v3 W5) fun v33=>wV (nck v33) fun v34=>wV (fad prog 97 v34 0) fun v35=>wV (fad prog 56 (.pointer (some ⟨W.sz,0,none⟩)) 1) fun v36=>wV (ld prog 40 v36 W5) fun v37=>wV (zAr prog 40 v37 W5) fun v38=>WCall prog pkL 55 [v35,v38] W5 (zAK (fun v39 W10=>(((True)∧zAr prog 40 v37 W5=some v38)∧(((True)∧ld prog 40 v36 W5=some v37)∧(((True)∧ld prog 88 v3 W5=some v33)∧True)))∧True∧(f60_k9 none K) .normal (Env.of (Env.args [v0,v1,v2,v3,v4,v5,v6]) [(39,v39),(38,v38),(37,v37),(36,v36),(35,v35),(34,v34),(33,v33),(32,v32),(31,v31),(30,v30),(29,v29),(28,v28),(27,v27),(26,v26),(25,v25),(24,v24),(23,v23),(22,v22),(21,v21),(20,v20),(19,v19),(18,v18),(8,(.pointer (some ⟨W.sz,0,none⟩))),(17,v17),(16,v16),(15,v15),(14,v14),(13,v0),(12,v12),(11,v11)]) [] W10) (fun ch11 W11=>False))) ((f60_k9 none K) .normal (Env.of (Env.args [v0,v1,v2,v3,v4,v5,v6]) [(32,v32),(31,v31),(30,v30),(29,v29),(28,v28),(27,v27),(26,v26),(25,v25),(24,v24),(23,v23),(22,v22),(21,v21),(20,v20),(19,v19),(18,v18),(8,(.pointer (some ⟨W.sz,0,none⟩))),(17,v17),(16,v16),(15,v15),(14,v14),(13,v0),(12,v12),(11,v11)]) [] W5)) (fun ch6 W6=>False))) (fun ch4 W4=>False))) (fun ch1 W1=>False))):=by kernel_rfl
theorem f60_a0 (ro:Option Nat) (e:Env) (ds:List Deferred) (K:zAH) (W:CW):zAJ prog pkL ro 60 55 (rfA prog 60 0) e ds W K=(K .normal (Env.of e [(10,(e 44)),(9,(e 43))]) ds W):=by kernel_rfl
theorem f60_b0 (ro:Option Nat) (e:Env) (ds:List Deferred) (K:zAH) (W:CW):zAJ prog pkL ro 60 55 (rfB prog 60 0) e ds W K=(wV (iad prog 108 (e 6) (e 10)) fun v46=>wV (ld prog 107 v46 W) fun v47=>wV (ld prog 88 (e 3) W) fun v48=>wV (fad prog 56 (e 8) 1) fun v49=>wV (ld prog 40 v49 W) fun v50=>wV (iad prog 40 v50 (e 9)) fun v52=>wV (ld prog 3 v52 W) fun v53=>zBn prog pkL v47 [v48,v53] W (fun v54 W12=>(((True)∧ld prog 3 v52 W=some v53)∧(((True)∧ld prog 40 v49 W=some v50)∧(((True)∧ld prog 88 (e 3) W=some v48)∧(((True)∧ld prog 107 v46 W=some v47)∧True))))∧True∧K .normal (Env.of e [(54,v54),(53,v53),(52,v52),(51,(e 9)),(50,v50),(49,v49),(48,v48),(47,v47),(46,v46),(45,(e 10))]) ds W12) (fun ch13 W13=>False)):=by kernel_rfl
theorem f60_w {Q:Ending→CW→Prop} {v0 v1 v2 v3 v4 v5 v6:Value} {W:CW} (h:zAJ prog pkL none 60 55 (zAF prog 60) (Env.args [v0,v1,v2,v3,v4,v5,v6]) [] W (zAD prog Tryz.f60 Q)):WCall prog pkL 60 [v0,v1,v2,v3,v4,v5,v6] W Q:=zAM Tryz.func60 (by kernel_rfl) (by kernel_rfl) (by kernel_rfl) (by kernel_rfl) (by kernel_rfl) h
def f61_k0 (ro:Option Nat) (K:zAH):zAH:=zA6 (fun e ds W=>K .ret (Env.of e [(4,(.int .i64 (-1)))]) ds W) K
theorem f61_c (v0 v1:Value) (K:zAH) (W:CW):zAJ prog pkL none 61 19 (zAF prog 61) (Env.args [v0,v1]) [] W K=(wV (zAr prog 51 v0 W) fun v7=>zC0 prog pkL none 61 19 (.loop (zAU prog 61 0)) (Env.of (Env.args [v0,v1]) [(8,(.int .i64 0)),(7,v7),(6,v0),(4,(.int .i64 0))]) [] W (zBz 0 (f61_k0 none K))):=by kernel_rfl
def f61_k1 (ro:Option Nat) (K:zAH):zAH:=zA6 (fun e ds W=>wV (zAO prog .add 3 true (e 8) (.int .i64 1)) fun v18=>K .normal (Env.of e [(8,v18),(18,v18)]) ds W) K
theorem f61_l0 (ro:Option Nat) (e:Env) (ds:List Deferred) (K:zAH) (W:CW):zAJ prog pkL ro 61 19 (zAU prog 61 0) e ds W K=(wV (zAO prog .lss 3 false (e 8) (e 7)) fun v9=>wI v9 (wV (iad prog 51 (e 0) (e 8)) fun v14=>wV (ld prog 9 v14 W) fun v15=>wV (zAO prog .eql 9 false (e 1) v15) fun v16=>wI v16 ((f61_k1 ro K) .ret (Env.of e [(4,(e 8)),(17,(e 8)),(16,v16),(15,v15),(14,v14),(13,(e 8)),(12,(e 0)),(11,(e 1)),(5,(e 8)),(10,(e 8)),(9,v9)]) ds W) ((f61_k1 ro K) .normal (Env.of e [(16,v16),(15,v15),(14,v14),(13,(e 8)),(12,(e 0)),(11,(e 1)),(5,(e 8)),(10,(e 8)),(9,v9)]) ds W)) (K (.exit 0) (Env.of e [(9,v9)]) ds W)):=by kernel_rfl
theorem f61_leave (Q:Ending→CW→Prop) (e:Env) (W:CW):zAD prog Tryz.f61 Q .ret e [] W=Q (.returned (e 4)) W:=by kernel_rfl
theorem f61_w {Q:Ending→CW→Prop} {v0 v1:Value} {W:CW} (h:zAJ prog pkL none 61 19 (zAF prog 61) (Env.args [v0,v1]) [] W (zAD prog Tryz.f61 Q)):WCall prog pkL 61 [v0,v1] W Q:=zAM Tryz.func61 (by kernel_rfl) (by kernel_rfl) (by kernel_rfl) (by kernel_rfl) (by kernel_rfl) h
theorem f106_c (v0 v1:Value) (K:zAH) (W:CW):zAJ prog pkL none 106 19 (zAF prog 106) (Env.args [v0,v1]) [] W K=(wV (zAO prog .lss 3 true v1 (.int .i64 0)) fun v5=>wI v5 (wV (nck v0) fun v7=>wV (fad prog 97 v7 0) fun v8=>wV (zAO prog .mul 3 true (.int .i64 (-2)) v1) fun v10=>wV (zAO prog .sub 3 true v10 (.int .i64 1)) fun v11=>WCall prog pkL 55 [v8,v11] W (zAK (fun v12 W0=>K .normal (Env.of (Env.args [v0,v1]) [(12,v12),(11,v11),(10,v10),(9,v1),(8,v8),(7,v7),(6,v0),(5,v5),(4,v1)]) [] W0) (fun ch1 W1=>K (.panic ch1) (Env.of (Env.args [v0,v1]) [(11,v11),(10,v10),(9,v1),(8,v8),(7,v7),(6,v0),(5,v5),(4,v1)]) [] W1))) (wV (nck v0) fun v14=>wV (fad prog 97 v14 0) fun v15=>wV (zAO prog .mul 3 true (.int .i64 2) v1) fun v17=>WCall prog pkL 55 [v15,v17] W (zAK (fun v18 W2=>K .normal (Env.of (Env.args [v0,v1]) [(18,v18),(17,v17),(16,v1),(15,v15),(14,v14),(13,v0),(5,v5),(4,v1)]) [] W2) (fun ch3 W3=>K (.panic ch3) (Env.of (Env.args [v0,v1]) [(17,v17),(16,v1),(15,v15),(14,v14),(13,v0),(5,v5),(4,v1)]) [] W3)))):=by kernel_rfl
theorem f106_w {Q:Ending→CW→Prop} {v0 v1:Value} {W:CW} (h:zAJ prog pkL none 106 19 (zAF prog 106) (Env.args [v0,v1]) [] W (zAD prog Tryz.f106 Q)):WCall prog pkL 106 [v0,v1] W Q:=zAM Tryz.func106 (by kernel_rfl) (by kernel_rfl) (by kernel_rfl) (by kernel_rfl) (by kernel_rfl) h
theorem f107_c (v0 v1:Value) (K:zAH) (W:CW):zAJ prog pkL none 107 17 (zAF prog 107) (Env.args [v0,v1]) [] W K=(wV (nck v0) fun v5=>wV (fad prog 97 v5 0) fun v6=>wV (nck v0) fun v8=>wV (fad prog 97 v8 1) fun v9=>wV (ld prog 89 v9 W) fun v10=>wV (nck v10) fun v11=>wV (fad prog 100 v11 1) fun v12=>wV (ld prog 98 v12 W) fun v13=>wV (lkp prog 98 v13 v1 false W) fun v15=>WCall prog pkL 55 [v6,v15] W (zAK (fun v16 W0=>(((True)∧lkp prog 98 v13 v1 false W=some v15)∧(((True)∧ld prog 98 v12 W=some v13)∧(((True)∧ld prog 89 v9 W=some v10)∧True)))∧True∧K .normal (Env.of (Env.args [v0,v1]) [(16,v16),(15,v15),(14,v1),(13,v13),(12,v12),(11,v11),(10,v10),(9,v9),(8,v8),(7,v0),(6,v6),(5,v5),(4,v0)]) [] W0) (fun ch1 W1=>False))):=by kernel_rfl
theorem f107_w {Q:Ending→CW→Prop} {v0 v1:Value} {W:CW} (h:zAJ prog pkL none 107 17 (zAF prog 107) (Env.args [v0,v1]) [] W (zAD prog Tryz.f107 Q)):WCall prog pkL 107 [v0,v1] W Q:=zAM Tryz.func107 (by kernel_rfl) (by kernel_rfl) (by kernel_rfl) (by kernel_rfl) (by kernel_rfl) h
end Go.Ce
namespace Go.Ce
open Go Go.Proofs Go.Proofs.Tryz
def encI (n:Int):Value:=.int .i64 n
theorem key_int (a b:Int):zIY (.int .i64) (encI a) (encI b)=some (decide (a=b)):=by
 show (if IntKind.i64=IntKind.i64 then some (a == b) else none)=_
 rw [if_pos rfl]
 rfl
theorem u98:prog.underlying 98=some (.map 3 3):=by kernel_rfl
theorem u3:prog.underlying 3=some (.int .i64):=by kernel_rfl
theorem a98:agg? prog 98=some false:=by kernel_rfl
theorem zHQ (a:Addr):fad prog 100 (.pointer (some a)) 0=some (.pointer (some ⟨a.block,a.off,none⟩)):=by kernel_rfl
theorem fad100_1 (a:Addr):fad prog 100 (.pointer (some a)) 1=some (.pointer (some ⟨a.block,a.off+1,none⟩)):=by kernel_rfl
theorem zBS (a:Addr):nck (.pointer (some a))=some (.pointer (some a)):=rfl
def PlM (W:CW) (r:Nat) (o:List Int):Prop:=∃ m:List (Int × Value),MapAt encI W r m∧∀ n,mget m n=if n ∈ o then some (.int .i64 (zAv o n)) else none
theorem PlM.lt {W:CW} (ht:Top W) {r:Nat} {o:List Int} (h:PlM W r o):r<W.sz:=by
 obtain ⟨m,h1,_⟩:=h
 exact h1.lt ht
theorem PlM.congr {W W':CW} {r:Nat} {o:List Int} (h:PlM W r o) (ho:W'.obj r=W.obj r):PlM W' r o:=by
 obtain ⟨m,h1,h2⟩:=h
 exact ⟨m,h1.congr ho,h2⟩
theorem PlM.look {W:CW} {r:Nat} {o:List Int} (h:PlM W r o) (n:Int):lkp prog 98 (.map (some r)) (.int .i64 n) false W=some (.int .i64 (zAv o n)):=by
 obtain ⟨m,h1,h2⟩:=h
 have:=zFr u98 u3 rfl z3 key_int h1 n false
 rw [h2] at this
 by_cases hm:n ∈ o
 ·rw [if_pos hm] at this; exact this
 ·rw [if_neg hm] at this
  rw [zEO hm]; exact this
theorem PlM.put {W:CW} {r:Nat} {o:List Int} {n:Int} (h:PlM W r o) (hn:n ∉ o) {K:CW→Prop} (hK:∀ W1,Upd r W W1→PlM W1 r (o++[n])→K W1):wV (mup prog 98 (.map (some r)) (.int .i64 n) (.int .i64 ((o.length+1:Nat):Int)) W) K:=by
 obtain ⟨m,h1,h2⟩:=h
 refine w_mup (enc:=encI) (s:=n) u98 u3 rfl key_int h1 fun W1 hu hm=>hK W1 hu ⟨_,hm,fun u=>?_⟩
 rw [zDf,h2,zHn hn]
 by_cases e:u=n
 ·rw [if_pos e,if_pos e,if_pos (by rw [e]; simp)]; rfl
 ·rw [if_neg e,if_neg e]
  by_cases hu:u ∈ o
  ·rw [if_pos hu,if_pos (List.mem_append_left _ hu)]
  ·rw [if_neg hu,if_neg (by simp [hu,e])]
theorem PlM.ne {W:CW} {r b:Nat} {el:TypeId} {vs:List Value} {o:List Int} (h:PlM W r o) (hB:Blk W b el vs):b≠r:=by
 rintro rfl
 obtain ⟨m,⟨es,clk,h1,_⟩,_⟩:=h
 obtain ⟨c,n,z,h2,_⟩:=hB
 rw [h1] at h2; cases h2
structure WkAt (W:CW) (bw rp:Nat) (vo:Value) (o:List Int):Prop where
 w:Blk W bw 100 [vo,.map (some rp)]
 own:Own W 3 1 vo (zCo o)
 p:PlM W rp o
def WkS (bw rp:Nat) (vo:Value) (j:Nat):Prop:=j=bw∨j=rp∨zA2 vo j
def FindPost (bw rp:Nat) (vo:Value) (o:List Int) (W:CW):Ending→CW→Prop:=fun e W'=>(∃ v,e=.returned v)∧Chg (WkS bw rp vo) W W'∧Top W'∧∃ vo',WkAt W' bw rp vo' o∧∀ j,zA2 vo' j→zA2 vo j∨W.sz≤j
theorem wfind_ok {bw rp:Nat} {vo:Value} {o:List Int} {n:Int} {W:CW} (ht:Top W) (hw:WkAt W bw rp vo o) (hn:0≤n) (hol:o.length<100000) :
  WCall prog pkL 105 [.pointer (some ⟨bw,0,none⟩),.int .i64 n] W (FindPost bw rp vo (visit o n) W):=by
 refine f105_w ?_
 rw [f105_c]
 have q0:ld prog 40 (.pointer (some ⟨bw,0,none⟩)) W=some vo:=zAC a40 (a:=⟨bw,0,none⟩) (hw.w.cell rfl)
 have q1:ld prog 98 (.pointer (some ⟨bw,0+1,none⟩)) W=some (.map (some rp)):=zAC a98 (a:=⟨bw,0+1,none⟩) (hw.w.cell rfl)
 have leaf:∀ (b:Bool) (e:Env),e 14=.bool b→e 0=.pointer (some ⟨bw,0,none⟩)→e 1=.int .i64 n→(b=true→visit o n=o)→(b=false→0<n∧n ∉ o)→(f105_k5 none (zAD prog Tryz.f105 (FindPost bw rp vo (visit o n) W))) .normal e [] W:=by
  intro b e h14 h0 h1 hbt hbf
  simp only [f105_k5,qKn,qKr,qKx,qKp,bKn,bKr,bKp,bKx,tKn,tKr,tKx,tKp,zKn,zKr,zKx,zKp,h14]
  refine zAE (fun hb=>?_) (fun hb=>?_)
  ·simp only [zIA,qKn,qKr,qKx,qKp,bKn,bKr,bKp,bKx,tKn,tKr,tKx,tKp,zKn,zKr,zKx,zKp]
   rw [hbt hb,f105_leave]
   exact ⟨⟨_,rfl⟩,.refl _ _,ht,vo,hw,fun j hj=>.inl hj⟩
  ·obtain ⟨hpos,hnew⟩:=hbf hb
   have hv:visit o n=o++[n]:=by unfold visit; rw [if_pos ⟨hpos,hnew⟩]
   rw [hv]
   simp only [zIA,qKn,qKr,qKx,qKp,bKn,bKr,bKp,bKx,tKn,tKr,tKx,tKp,zKn,zKr,zKx,zKp,h0,h1,zBS,zHQ,fad100_1,zAA,q0]
   refine w_push u40 s3 z3 rfl (by omega) by3 (by omega) (bsl40 _) rfl rfl ht hw.own (by rw [zE0]; omega) fun u v1 W1 hpu t1 o1 n1=>?_
   rw [←intv_app] at o1
   have hne:=ownNe hw.own hw.w (by decide)
   have hw1:=hpu.blk ht hw.w hne
   refine zAV (vs:=[vo,.map (some rp)]) s40 (a:=⟨bw,0,none⟩) (zHo o1) hw1 (by simp) fun W2 hu hw2=>?_
   have hu:Upd bw W1 W2:=hu
   have hw2:Blk W2 bw 100 [v1,.map (some rp)]:=hw2
   have hbwl:=hw1.lt t1
   have t2:Top W2:=t1.upd hbwl hu
   have hn1:Newer W.sz v1:=n1 _ (Nat.le_refl _)
   have hbw:=hw.w.lt ht
   have o2:Own W2 3 1 v1 (zCo (o++[n])):=zFm o1 hu fun b l c e=>by have:=hn1 b l c e; omega
   have hrp:=hw.p.lt ht
   have hrpn:rp≠bw:=fun e=>hw.p.ne hw.w e.symm
   have hrpv:∀ b l c,vo=.slice (some b) l c→rp≠b.block:=fun b l c e hb=>by
    have ho:=hw.own
    rw [e] at ho
    cases ho with
    | some hB hl=>exact hw.p.ne hB hb.symm
   have hp1:PlM W1 rp o:=hw.p.congr (hpu.obj rp hrp hrpv)
   have hp2:PlM W2 rp o:=hp1.congr (hu.obj rp hrpn)
   have hl2:(zCo (o++[n])).length=(o.length+1)*1:=by rw [zE0]; simp
   have c1:ld prog 98 (.pointer (some ⟨bw,0+1,none⟩)) W2=some (.map (some rp)):=zAC a98 (a:=⟨bw,0+1,none⟩) (hw2.cell rfl)
   have c2:ld prog 40 (.pointer (some ⟨bw,0,none⟩)) W2=some v1:=zAC a40 (a:=⟨bw,0,none⟩) (hw2.cell rfl)
   have c3:zAr prog 40 v1 W2=some (.int .i64 ((o.length+1:Nat):Int)):=zEQ u40 o2 (by omega) hl2
   simp only [c1,c2,c3,zAA]
   refine hp2.put hnew fun W3 hu3 hp3=>?_
   have hrp2:=hp2.lt t2
   have t3:=t2.upd hrp2 hu3
   refine ⟨by simp only [and_self],trivial,?_⟩
   have hlv:∀ (e:Env) (W:CW) (Q:Ending→CW→Prop),Q (.returned (.tuple #[])) W→zAD prog Tryz.f105 Q .normal e [] W:=fun e W Q h=>by
    have hr:Tryz.f105.results.toList=[]:=by kernel_rfl
    simp only [zAD,zBA,hr,zFf]
    exact h
   refine hlv _ _ _ ⟨⟨_,rfl⟩,?_,t3,v1,⟨hw2.congr (hu3.obj _ (hp2.ne hw2)),zFm o2 hu3 fun b l c e hb=>?_,hp3⟩,fun j hj=>.inr (hn1.in hj)⟩
   ·exact ⟨by rw [hu3.sz,hu.sz]; exact hpu.sz,fun j hj hS=>by
     rw [hu3.obj j fun e=>hS (.inr (.inl e)),hu.obj j fun e=>hS (.inl e)]
     exact hpu.chg.obj j hj fun h=>hS (.inr (.inr h))⟩
   ·have:=hn1 b l c e; omega
 simp only [zA0,zAA]
 refine zAE (fun h0=>?_) (fun h0=>?_)
 ·have h0:n=0:=by simpa using h0
  exact leaf true _ rfl rfl rfl (fun _=>by unfold visit; rw [if_neg (by omega)]) (fun h=>by cases h)
 ·have h0:n≠0:=by simpa using h0
  simp only [zBS,fad100_1,zAA,q1,hw.p.look,zA4]
  refine leaf _ _ rfl rfl rfl (fun h=>?_) (fun h=>?_)
  ·have h:=of_decide_eq_true h
   unfold visit
   rw [if_neg (fun hh=>by rw [zEO hh.2] at h; omega)]
  ·have h:=of_decide_eq_false h
   exact ⟨by omega,fun hm=>h (placeOf_pos hm)⟩
end Go.Ce
namespace Go.Ce
open Go Go.Proofs Go.Proofs.Tryz
theorem z40:zer prog 40=some (.slice none 0 0):=by kernel_rfl
def RefsPost (l:List Int) (W:CW):Ending→CW→Prop:=fun e W'=>Kp W W'∧Top W'∧∃ vr,e=.returned vr∧Own W' 3 1 vr (zCo l)∧Newer W.sz vr
theorem zGT (c:List Shp) (i:Nat) (vs:List Int):∀ k,(zCe c i vs k).length≤k
 | 0=>by simp [zCe]
 | k+1=>by
  have h:=zGT c i vs k
  have h2:(if zA5 c i k=2 then (vs[k]?).toList else []).length≤1:=by
   split
   ·cases vs[k]? <;> simp
   ·simp
  rw [zCe,List.length_append]
  omega
theorem refs_ok {c:List Shp} {r1 r2 i:Nat} {y:Thg} {vx:Value} {W:CW} (ht:Top W) (hcat:CatAt W r1 r2 c) (hi:zBQ c y.type=some i) (hrow:zAL c i=0→y.vals.length≤(zAw c i).length) (hvx:IsSl 1 (RInt W) vx y.vals) (hv:y.vals.length<100000) :
  WCall prog pkL 52 [zJT r1 r2,.agg #[.string y.type,vx]] W (RefsPost (zFC c y) W):=by
 refine f52_w ?_
 rw [f52_c]
 unfold zJT
 obtain ⟨ax,cx,rfl,_⟩:=id hvx
 refine zC2 s78 ht fun W0 k0 t0 z0 hB2=>?_
 have hB2:Blk W0 W.sz 78 [.map (some r1),.map (some r2)]:=hB2
 refine zC2 s56 t0 fun W1 k1 t1 z1 hB3=>?_
 have hB3:Blk W1 W0.sz 56 [.string y.type,.slice ax y.vals.length cx]:=hB3
 refine zFL z40 s40 t1 fun W2 k2 t2 z2 hB5=>?_
 have hB5:Blk W2 W1.sz 40 [.slice none 0 0]:=hB5
 have hB22:=hB2.ext t0 (k1.trans k2)
 have hB32:=hB3.ext t1 k2
 have k02:=(k0.trans k1).trans k2
 have hb5W:W.sz≤W1.sz:=(k0.trans k1).sz
 have hb35:W0.sz≠W1.sz:=by omega
 rw [zA3 (vs:=[.map (some r1),.map (some r2)]) a78 s78 rfl (by omega) hB22.cells,zA3 (vs:=[.string y.type,.slice ax y.vals.length cx]) a56 s56 rfl (by omega) hB32.cells]
 simp only [zAA]
 generalize hb3:W0.sz=b3 at hB32 hB3 hb35
 generalize hb5:W1.sz=b5 at hB5 hb5W hb35
 refine (zHO (r1:=r1) (r2:=r2) (ty:=y.type) t2).mono fun en W4 ⟨k4,t4,bk,bx,hen,hbk,hbx,hBk,hBx⟩=>?_
 subst hen
 simp only [zAK]
 have k04:=k02.trans k4
 have hcat4:=hcat.kp ht k04
 have hv4:IsSl 1 (RInt W4) (.slice ax y.vals.length cx) y.vals:=hvx.imp fun _ _ _ hr=>hr.kp ht k04
 have hB54:=hB5.ext t2 k4
 have hB34:=hB32.ext t2 k4
 have hb52:=hB5.lt t2
 have hb32:=hB32.lt t2
 have hsz4:=k4.sz
 have hKs:∀ W',Chg (·=b5) W4 W'→∀ b k v,b≠b5→W4.cell b k=some v→W'.cell b k=some v:=fun W' h b k v hb hc=>h.cell t4 hb hc
 have hKd:∀ W',Chg (·=b5) W4 W'→KdAt W' bk bx r1 r2 c y.type y.vals.length:=fun W' h=>by
  have h78:bk≠b5:=by omega
  have h56:bx≠b5:=by omega
  refine ⟨hKs W' h _ _ _ h78 (hBk.cell rfl),hKs W' h _ _ _ h78 (hBk.cell rfl),?_,hKs W' h _ _ _ h56 (hBx.cell rfl),_,_,hKs W' h _ _ _ h56 (hBx.cell rfl)⟩
  have hcW:=hcat
  exact hcat.kp ht (Chg.kp k04 h fun j hj=>by omega)
 have hres:∀ (W':CW) (vo:Value) (e:Env),Chg (·=b5) W4 W'→Top W'→W'.obj W4.sz=some .deferred→W4.sz<W'.sz→Blk W' b5 40 [vo]→Own W' 3 1 vo (zCo (zFC c y))→(∀ j,zA2 vo j→W4.sz+2≤j)→e 4=vo →
   zAD prog Tryz.f52 (RefsPost (zFC c y) W) .ret e [zEx W4.sz] W':=by
  intro W' vo e hch t' hd hl hB ho hn h4
  refine zDg hd ?_
  have hu:Upd W4.sz W' (W'.upd W4.sz .dead):=Upd.of _ _ _
  rw [f52_leave,h4]
  have hW4:=k04.sz
  exact ⟨(Chg.kp k04 hch fun j hj=>by omega).upd hW4 hu,t'.upd hl hu,vo,rfl,zFm ho hu fun b l c e he=>by have:=hn b.block ⟨b,l,c,e,rfl⟩; omega,fun b l c e=>by have:=hn b.block ⟨b,l,c,e,rfl⟩; omega⟩
 refine w_kinds (bk:=bk) (bx:=bx) (r1:=r1) (r2:=r2) (n:=y.vals.length) (ix:=i) (c:=c) (ty:=y.type) (a1:=6) (a2:=7) t4 rfl hi hv hrow (fun ro e0 ds K W=>by rw [f52_a0]) (by decide)
  (fun j W'=>Chg (·=b5) W4 W'∧Top W'∧W'.obj W4.sz=some .deferred∧W4.sz+1<W'.sz∧∃ vo,Blk W' b5 40 [vo]∧Own W' 3 1 vo (zCo (zCe c i y.vals j))∧∀ m,zA2 vo m→W4.sz+2≤m)
  (fun _ _=>False) (fun j W' h=>hKd W' h.1) (fun j W1 W2 ⟨h1,h2,h3,h4,vo,h5,h6,h7⟩ hu hc=>?_) (fun _ _ _ h _ _=>h.elim) (fun W3 k3 t3 z3 hd=>⟨Chg.of_kp k3,t3,hd,by omega,_,hB54.ext t4 k3,Own.nil,fun m hm=>by obtain ⟨b,l,c,e,_⟩:=hm; cases e⟩)
  (fun j W1 Kb E hE hE1 hE2 hj ⟨hch,t1',hd,hl,vo,hBv,hov,hnv⟩ hlo hn _ _=>?_) (fun W' ⟨h1,h2,h3,h4,vo,h5,h6,h7⟩=>?_) (fun _ _ h=>h.elim)
 ·exact ⟨h1.then hu.chg fun i hi he=>by omega,h2.upd h4 hu,by rw [hu.obj _ (by omega)]; exact h3,by rw [hu.sz]; exact h4,vo,h5.congr (hu.obj _ (by omega)),zFm h6 hu fun b l c e he=>by have:=h7 b.block ⟨b,l,c,e,rfl⟩; omega,h7⟩
 ·have hxj:=List.getElem?_eq_getElem hj
  have g3:E 3=.pointer (some ⟨b3,0,none⟩):=(hE 3 (by decide) (by decide) (by decide) (by decide)).trans rfl
  have g5:E 5=.pointer (some ⟨b5,0,none⟩):=(hE 5 (by decide) (by decide) (by decide) (by decide)).trans rfl
  have hrs:zCe c i y.vals (j+1)=zCe c i y.vals j++(if zA5 c i j=2 then [y.vals[j]] else []):=refsTo_succ hxj
  rw [f52_b0,g3,g5,hE1,hE2]
  simp only [zA0,zAA]
  refine zAE (fun hk=>?_) (fun hk=>?_)
  ·have hk:zA5 c i j=2:=by simpa using hk
   have hv1:IsSl 1 (RInt W1) (.slice ax y.vals.length cx) y.vals:=by
    have:=hvx.imp (S:=fun b o x=>RInt W1 b o x) fun _ _ _ hr=>hr.kp ht (Chg.kp k04 hch fun j hj=>by omega)
    exact this
   obtain ⟨_,_,e3,hvc⟩:=hv1
   cases e3
   obtain ⟨q,rfl,hq⟩:=hvc j _ hxj
   have l5:∀ W7,Kp W1 W7→ld prog 40 (.pointer (some ⟨b5,0,none⟩)) W7=some vo:=fun W7 k7=>zAC a40 (a:=⟨b5,0,none⟩) (k7.cell t1' (hBv.cell rfl))
   have l3:ld prog 40 (.pointer (some ⟨b3,0+1,none⟩)) W1=some (.slice (some q) y.vals.length cx):=zAC a40 (a:=⟨b3,0+1,none⟩) (hKs W1 hch _ _ _ hb35 (hB34.cell rfl))
   simp only [l5 W1 (.refl _),zCM,zAA,l3]
   rw [zAi u40 s3 hj]
   simp only [zAA]
   rw [zAC a3 (a:=⟨q.block,q.off+j*1,none⟩) hq.1]
   simp only [zAA]
   have hrl:=zGT c i y.vals j
   refine zGH u40 s3 z3 rfl (by omega) by3 (by omega) (bsl40 _) rfl rfl t1' hov (by rw [zE0]; omega) fun u Wa v1 W7 ka ta hpu t7 o7 n7=>?_
   rw [←intv_app] at o7
   have hne:=ownNe hov hBv (by decide)
   have hB7:=hpu.blk t1' hBv hne
   refine zAV (vs:=[vo]) s40 (a:=⟨b5,0,none⟩) (zHo o7) hB7 (by simp) fun W8 hu hB8=>?_
   have hu:Upd b5 W7 W8:=hu
   have hps:=hpu.sz
   have hn7:Newer W1.sz v1:=n7 _ (Nat.le_refl _)
   refine ⟨by simp only [l5 Wa ka,and_self],trivial,?_⟩
   refine hn _ _ W8 ?_ ⟨(hch.then hpu.chg fun m hm hi=>by have:=hnv m hi; omega).then hu.chg fun m hm hi=>hi,t7.upd (by omega) hu,?_,by rw [hu.sz]; omega,v1,hB8,?_,fun m hm=>by have:=hn7.in hm; omega⟩
   ·rw [hu.obj _ (by omega)]
    exact hpu.obj _ (by omega) fun b l c e hb=>by have:=hnv b.block ⟨b,l,c,e,rfl⟩; omega
   ·rw [hu.obj _ (by omega)]
    rw [hpu.obj _ (by omega) fun b l c e hb=>by have:=hnv b.block ⟨b,l,c,e,rfl⟩; omega]
    exact hd
   ·rw [hrs,if_pos hk]
    exact zFm o7 hu fun b l c e=>by have:=hn7 b l c e; omega
  ·have hk:¬zA5 c i j=2:=by simpa using hk
   refine hn _ _ W1 rfl ⟨hch,t1',hd,hl,vo,hBv,?_,hnv⟩
   rw [hrs,if_neg hk,List.append_nil]
   exact hov
 ·simp only [qKn,qKr,qKx,qKp,bKn,bKr,bKp,bKx,tKn,tKr,tKx,tKp,zKn,zKr,zKx,zKp,f52_k3]
  simp only [eKc,eKn,eKa,Nat.reduceEqDiff,↓reduceIte,gKz,gKs,dKs,and_self]
  rw [zAC a40 (a:=⟨b5,0,none⟩) (h5.cell rfl)]
  simp only [zAA]
  have hro:zFC c y=zCe c i y.vals y.vals.length:=by unfold zFC; rw [hi]
  exact hres W' vo _ h1 h2 h3 (by omega) h5 (by rw [hro]; exact h6) h7 rfl
theorem f53_results:Tryz.f53.results.toList=[.cell 4 56]:=by kernel_rfl
theorem f53_vals {e e1:Env} {A W:CW} {K:zAH} {vm vx:Value} {b3 b7:Nat} {s:Spc} {x:Thg} (hA:Top A) (ht:Top W) (hk:Kp A W) (hvm:IsSl 1 (RInt A) vm s.map) (he:Agree [3,4,7,25,26] e e1) (h27:e1 27=.int .i64 0) (h25:e 25=vm) (h26:e 26=.int .i64 s.map.length) (h3:e 3=.pointer (some ⟨b3,0,none⟩)) (h7:e 7=.pointer (some ⟨b7,0,none⟩)) (hb3:A.cell b3 1=some vx) (hvx:IsSl 1 (RInt A) vx x.vals) (hb7:A.sz≤b7) (hB:Blk W b7 56 [.string s.to,.slice none 0 0])
  (hm:∀ m,m ∈ s.map→0≤m∧m.toNat<x.vals.length) (hlen:s.map.length<100000)
  (hex:∀ e' W' vo,Kp A W'→Top W'→Newer A.sz vo→Blk W' b7 56 [.string s.to,vo]→Own W' 3 1 vo (zCo (s.map.map (zHd x)))→Agree [3,4,7] e e'→K (.exit 0) e' [] W') :
  zC0 prog pkL none 53 43 (.loop (zAU prog 53 0)) e1 [] W K:=by
 refine zCk (fun m e' ds' W'=>ds'=[]∧Kp A W'∧Top W'∧Agree [3,4,7,25,26] e e'∧e' 27=.int .i64 m∧∃ vo,Blk W' b7 56 [.string s.to,vo]∧Own W' 3 1 vo (zCo ((s.map.take m).map (zHd x)))∧Newer A.sz vo) s.map.length ⟨rfl,hk,ht,he,h27,_,hB,Own.nil,Newer.nil _ _ _⟩ ?_
 rintro m e' ds' W' hm' ⟨rfl,k',t',hAg,g27,vo,hB',ho,hnw⟩
 have hvm':IsSl 1 (RInt W') vm s.map:=hvm.imp fun _ _ _ hr=>hr.kp hA k'
 have hvx':IsSl 1 (RInt W') vx x.vals:=hvx.imp fun _ _ _ hr=>hr.kp hA k'
 obtain ⟨am,capm,rfl,hmc⟩:=hvm'
 obtain ⟨ax,capx,rfl,hxc⟩:=hvx'
 have g3:=(hAg 3 (by decide)).trans h3
 have g7:=(hAg 7 (by decide)).trans h7
 rw [f53_l0,g27,g3,g7,(hAg 25 (by decide)).trans h25,(hAg 26 (by decide)).trans h26]
 simp only [zAa,zAA]
 refine zHF (fun hlt=>?_) (fun hge=>?_)
 ·have hx:=List.getElem?_eq_getElem hlt
  obtain ⟨q,rfl,hq⟩:=hmc m _ hx
  obtain ⟨hm0,hm1⟩:=hm _ (List.getElem_mem hlt)
  have hxx:=List.getElem?_eq_getElem hm1
  obtain ⟨qx,rfl,hqx⟩:=hxc _ _ hxx
  have q6:∀ W7,Kp W' W7→ld prog 40 (.pointer (some ⟨b7,0+1,none⟩)) W7=some vo:=fun W7 k7=>zAC a40 (a:=⟨b7,0+1,none⟩) (k7.cell t' (hB'.cell rfl))
  have q3:ld prog 40 (.pointer (some ⟨b3,0+1,none⟩)) W'=some (.slice (some qx) x.vals.length capx):=zAC a40 (a:=⟨b3,0+1,none⟩) (k'.cell hA hb3)
  have ex:iad prog 40 (.slice (some qx) x.vals.length capx) (.int .i64 s.map[m])=some (.pointer (some ⟨qx.block,qx.off+s.map[m].toNat*1,none⟩)):=by
   have e1:(Value.int IntKind.i64 s.map[m])=.int .i64 ((s.map[m].toNat:Nat):Int):=by rw [Int.toNat_of_nonneg hm0]
   rw [e1]; exact zAi u40 s3 hm1
  have q1:ld prog 3 (.pointer (some ⟨q.block,q.off+m*1,none⟩)) W'=some (.int .i64 s.map[m]):=zAC a3 (a:=⟨q.block,q.off+m*1,none⟩) hq.1
  have q2:ld prog 3 (.pointer (some ⟨qx.block,qx.off+s.map[m].toNat*1,none⟩)) W'=some (.int .i64 x.vals[s.map[m].toNat]):=zAC a3 (a:=⟨qx.block,qx.off+s.map[m].toNat*1,none⟩) hqx.1
  rw [zAi u40 s3 hlt]
  simp only [zCM,zAA,q6 W' (.refl _),q3,q1,ex,q2]
  have hln:(zCo ((s.map.take m).map (zHd x))).length<900000:=by rw [zE0,List.length_map,List.length_take]; omega
  refine zGH u40 s3 z3 rfl (by omega) by3 (by omega) (bsl40 _) rfl rfl t' ho hln fun u Wa v1 W1 ka ta hpu t1 o1 n1=>?_
  have hne:=ownNe ho hB' (by decide)
  have hB1:=hpu.blk t' hB' hne
  have hn1:Newer W'.sz v1:=n1 _ (Nat.le_refl _)
  refine zAV (vs:=[.string s.to,vo]) s40 (a:=⟨b7,0+1,none⟩) (zHo o1) hB1 (by simp) fun W2 hu hB2=>?_
  have hb7l:b7<W'.sz:=hB'.lt t'
  have hu:Upd b7 W1 W2:=hu
  have k1:Kp A W1:=hpu.kp k' hnw
  have k2:Kp A W2:=k1.upd hb7 hu
  have t2:Top W2:=t1.upd (by have:=hpu.sz; omega) hu
  refine ⟨by simp only [q6 Wa ka,and_self],trivial,?_⟩
  simp only [f53_k10,qKn,qKr,qKx,qKp,bKn,bKr,bKp,bKx,tKn,tKr,tKx,tKp,zKn,zKr,zKx,zKp]
  simp only [eKc,eKn,eKa,Nat.reduceEqDiff,↓reduceIte,gKz,gKs,dKs,and_self,g27,zAX,zAA,qKn,qKr,qKx,qKp,bKn,bKr,bKp,bKx,tKn,tKr,tKx,tKp,zKn,zKr,zKx,zKp]
  refine ⟨hlt,trivial,k2,t2,(hAg.trans (.put rfl)).trans (.put rfl),by rw [zCi (by omega)],v1,hB2,?_,fun b l c e=>?_⟩
  ·have:zCo ((s.map.take (m+1)).map (zHd x))=zCo ((s.map.take m).map (zHd x))++[.int .i64 x.vals[s.map[m].toNat]]:=by
    rw [List.take_add_one,hx]
    simp only [Option.toList_some,List.map_append,List.map_cons,List.map_nil,zCo,zHd,hxx,Option.getD_some]
   rw [this]
   exact zFm o1 hu fun b l c e=>by have:=hn1 b l c e; omega
  ·have:=hn1 b l c e; have:=k'.sz; omega
 ·simp only [qKn,qKr,qKx,qKp,bKn,bKr,bKp,bKx,tKn,tKr,tKx,tKp,zKn,zKr,zKx,zKp]
  have:s.map.take m=s.map:=List.take_of_length_le (by omega)
  rw [this] at ho
  exact hex _ W' vo k' t' hnw hB' ho (fun t ht=>(Agree.put rfl t (by exact ht)).trans (hAg t (by revert t; decide)))
theorem as_ok {w r:Nat} {vx:Value} {l:List Spc} {x:Thg} {W:CW} (ht:Top W) (hw:SpM Spc.type W w l) (hvx:IsSl 1 (RInt W) vx x.vals) (hm:∀ s,zHG l x.type=some s→∀ m,m ∈ s.map→0≤m∧m.toNat<x.vals.length) (hml:∀ s,s ∈ l→s.map.length<100000) :
  WCall prog pkL 53 [.agg #[.map (some w),.map (some r)],.agg #[.string x.type,vx]] W (WrPost vx (zAG l x) W):=by
 refine f53_w ?_
 rw [f53_c]
 obtain ⟨ax,cx,rfl,_⟩:=id hvx
 refine zC2 s83 ht fun W0 k0 t0 z0 hB2=>?_
 have hB2:Blk W0 W.sz 83 [.map (some w),.map (some r)]:=hB2
 refine zC2 s56 t0 fun W1 k1 t1 z1 hB3=>?_
 have hB3:Blk W1 W0.sz 56 [.string x.type,.slice ax x.vals.length cx]:=hB3
 refine zFL z56 s56 t1 fun A kA tA zA hB4=>?_
 have hB4:Blk A W1.sz 56 [.string ⟨#[]⟩,.slice none 0 0]:=hB4
 have k:=(k0.trans k1).trans kA
 have hB3:=hB3.ext t1 kA
 have hb4W:W.sz≤W1.sz:=(k0.trans k1).sz
 have hwA:=hw.kp ht k
 have hvA:IsSl 1 (RInt A) (.slice ax x.vals.length cx) x.vals:=hvx.imp fun _ _ _ hr=>hr.kp ht k
 have q3:∀ W7,Kp A W7→ld prog 9 (.pointer (some ⟨W0.sz,0,none⟩)) W7=some (.string x.type):=fun W7 k7=>zAC a9 (a:=⟨W0.sz,0,none⟩) (k7.cell tA (hB3.cell rfl))
 simp only [fad83_0,zCX,zAA]
 rw [zAC a81 (a:=⟨W.sz,0,none⟩) ((hB2.ext t0 (k1.trans kA)).cell rfl)]
 simp only [zAA,q3 A (.refl _)]
 generalize hKK:zAD prog Tryz.f53 (WrPost (.slice ax x.vals.length cx) (zAG l x) W)=K
 have hfin:∀ W1' vv,Kp A W1'→Top W1'→zAe vv=true→(vv=.slice ax x.vals.length cx∨Newer W.sz vv)→(∀ W2,Upd W1.sz W1' W2→IsSl 1 (RInt W2) vv (zAG l x).vals)→∀ {K':CW→Prop},(∀ W2,(∀ e',e' 4=.pointer (some ⟨W1.sz,0,none⟩)→K .ret e' [] W2)→K' W2) →
   wV (sto prog 56 (.pointer (some ⟨W1.sz,0,none⟩)) (.agg [.string (zAG l x).type,vv].toArray) W1') K':=by
  intro W1' vv k1' t1' hone hor hvv K' hK'
  have hB:=hB4.ext tA k1'
  refine zB2 s56 (a:=⟨W1.sz,0,none⟩) (by simp only [List.all_cons,List.all_nil,hone,Bool.and_true]; rfl) rfl hB (by simp) fun W2 hu hB2=>hK' W2 fun e' h4'=>?_
  have hu:Upd W1.sz W1' W2:=hu
  rw [←hKK]
  have hB2:Blk W2 W1.sz 56 [.string (zAG l x).type,vv]:=hB2
  refine zEz f53_results (p:=⟨W1.sz,0,none⟩) h4' (zA3 (vs:=[.string (zAG l x).type,vv]) a56 s56 rfl (by omega) hB2.cells) ?_
  have hbl:=hB.lt t1'
  exact ⟨(k.trans k1').upd hb4W hu,t1'.upd hbl hu,vv,rfl,hvv W2 hu,hor⟩
 cases hsp:zHG l x.type with
 | none =>
  have hwr:zAG l x=x:=by unfold zAG; rw [hsp]
  rw [hwA.none hsp]
  simp only [zAA,zBN,zBM]
  unfold z58v
  refine zB1 (ws:=[.string ⟨#[]⟩,.string ⟨#[]⟩,.slice none 0 0]) z58 s58 rfl rfl rfl tA fun W4 k4 t4 z4 hB5=>?_
  simp only [zAT,zAA,Bool.not_false,zAy]
  rw [zA3 (vs:=[.string x.type,.slice ax x.vals.length cx]) a56 s56 rfl (by omega) (hB3.ext tA k4).cells]
  simp only [zAA]
  have hty:x.type=(zAG l x).type:=by rw [hwr]
  rw [hty]
  refine hfin W4 _ k4 t4 rfl (.inl rfl) (fun W3 hu=>?_) fun W3 hr=>hr _ rfl
  rw [hwr]
  exact hvx.imp fun _ _ _ hr=>hr.kp ht ((k.trans k4).upd hb4W hu)
 | some s =>
  have hwr:zAG l x=⟨s.to,s.map.map (zHd x)⟩:=by unfold zAG; rw [hsp]
  obtain ⟨i,hi,hty0⟩:=zEs hsp
  obtain ⟨u,hu,L⟩:=hwA.some hsp
  obtain ⟨am,cm,rfl,hum⟩:=hu
  rw [L]
  simp only [zAA,zBN,zBM]
  refine zB1 (ws:=[.string s.type,.string s.to,.slice am s.map.length cm]) z58 s58 rfl rfl rfl tA fun W4 k4 t4 z4 hB5=>?_
  simp only [zAT,zAA,Bool.not_true,zAW,zEc,zGd]
  rw [zAC a9 (a:=⟨A.sz,0+1,none⟩) (hB5.cell rfl)]
  simp only [zAA]
  rw [bld56]
  simp only [zAA]
  refine zB1 z56 s56 rfl rfl rfl t4 fun W7 k7 t7 z7 hB7=>?_
  rw [zAC a40 (a:=⟨A.sz,0+2,none⟩) ((hB5.ext t4 k7).cell rfl)]
  simp only [zAA,zAQ u40]
  refine f53_vals (e:=Env.of (Env.args []) [(3,.pointer (some ⟨W0.sz,0,none⟩)),(4,.pointer (some ⟨W1.sz,0,none⟩)),(7,.pointer (some ⟨W4.sz,0,none⟩)),(25,.slice am s.map.length cm),(26,.int .i64 s.map.length)]) tA t7 (k4.trans k7) hum (fun t ht=>by
   simp only [List.mem_cons,List.not_mem_nil,or_false] at ht
   rcases ht with rfl | rfl | rfl | rfl | rfl <;> rfl) rfl rfl rfl rfl rfl (hB3.cell rfl) hvA (k4.sz) hB7 (hm s hsp) (hml s (List.mem_of_getElem? hi)) fun e' W2 vo k2 t2 hnw hBo ho hAg=>?_
  have g4:e' 4=.pointer (some ⟨W1.sz,0,none⟩):=(hAg 4 (by decide)).trans rfl
  have g7:e' 7=.pointer (some ⟨W4.sz,0,none⟩):=(hAg 7 (by decide)).trans rfl
  simp only [qKn,qKr,qKx,qKp,bKn,bKr,bKp,bKx,tKn,tKr,tKx,tKp,zKn,zKr,zKx,zKp,if_true,f53_k9,g4,g7]
  rw [zA3 (vs:=[.string s.to,vo]) a56 s56 rfl (by omega) hBo.cells]
  simp only [zAA]
  have hty:s.to=(zAG l x).type:=by rw [hwr]
  rw [hty]
  have hbd:∀ y,y ∈ (zAG l x).vals→-9223372036854775808≤y∧y≤9223372036854775807:=by
   rw [hwr]
   intro y hy
   obtain ⟨m,hm1,rfl⟩:=List.mem_map.1 hy
   have hlt2:=(hm _ hsp m hm1).2
   obtain ⟨ax',cx',_,hxc⟩:=hvx
   obtain ⟨_,_,hxr⟩:=hxc _ _ (List.getElem?_eq_getElem hlt2)
   unfold zHd
   rw [List.getElem?_eq_getElem hlt2]
   exact hxr.2
  refine hfin W2 vo k2 t2 (zHo ho) (.inr fun b l' c e=>Nat.le_trans k.sz (hnw b l' c e)) (fun W3 hu=>RInt.of ?_ hbd) fun W3 hr=>?_
  ·have hwv:(zAG l x).vals=s.map.map (zHd x):=by rw [hwr]
   rw [hwv]
   have hb4:=hB4.ext tA k2
   exact zEP (zFm ho hu (ownNe ho hb4 (by decide)))
  ·exact hr _ g4
end Go.Ce
namespace Go.Ce
open Go Go.Proofs Go.Proofs.Tryz
theorem bld100 (r:Nat):bld prog 100 [(1,.map (some r))]=some (.agg #[.slice none 0 0,.map (some r)]):=by kernel_rfl
theorem s100:siz prog 100=some 2:=by kernel_rfl
theorem start_visit (root:Int):visit [] root=start root:=by
 unfold visit start
 by_cases h:root>0
 ·rw [if_pos h,if_pos ⟨h,by simp⟩]; rfl
 ·rw [if_neg h,if_neg (fun hh=>h hh.1)]
theorem WkAt.lt {W:CW} {bw rp:Nat} {vo:Value} {o:List Int} (h:WkAt W bw rp vo o) (ht:Top W):bw<W.sz∧rp<W.sz∧∀ j,zA2 vo j→j<W.sz:=⟨h.w.lt ht,h.p.lt ht,fun j hj=>zIX ht h.own hj⟩
theorem WkAt.kp {W W':CW} {bw rp:Nat} {vo:Value} {o:List Int} (h:WkAt W bw rp vo o) (ht:Top W) (k:Kp W W'):WkAt W' bw rp vo o:=⟨h.w.ext ht k,h.own.kp ht k,h.p.congr (k.obj _ (h.p.lt ht))⟩
def WalkPost (o:List Int) (N:Nat) (W:CW):Ending→CW→Prop:=fun e W'=>Kp W W'∧Top W'∧∃ bw rp vo,e=.returned (.pointer (some ⟨bw,0,none⟩))∧WkAt W' bw rp vo o∧W.sz≤bw∧W.sz≤rp∧Newer W.sz vo∧Found o N
theorem walked_ok {v1:Value} {root:Int} {N:Nat} {refs:Int→List Int} {W:CW} (ht:Top W) (hr0:0≤root) (hr1:root≤N) (hN:N<100000) (hin:∀ n:Int,0<n→n≤N→∀ r,r ∈ refs n→0≤r∧r≤N) (hrl:∀ n:Int,(refs n).length<100000)
  (hrefs:∀ (n:Int) (W':CW),Kp W W'→Top W'→0<n→n≤N→∀ (K:Value→CW→Prop) KP,(∀ vr W'',Kp W' W''→Top W''→Own W'' 3 1 vr (zCo (refs n))→Newer W'.sz vr→K vr W'')→zBn prog pkL v1 [.int .i64 n] W' K KP) :
  WCall prog pkL 50 [.int .i64 root,v1] W (WalkPost (zBJ refs N (start root) 0) N W):=by
 refine f50_w ?_
 rw [f50_c]
 refine w_mkm (enc:=encI) ht fun W0 k0 t0 z0 hm=>?_
 rw [bld100]
 simp only [zAA]
 refine zC2 s100 t0 fun W1 k1 t1 z1 hB=>?_
 have hB:Blk W1 W0.sz 100 [.slice none 0 0,.map (some W.sz)]:=hB
 have hw0:WkAt W1 W0.sz W.sz (.slice none 0 0) []:=⟨hB,Own.nil,⟨[],hm.kp t0 k1,fun n=>by simp [mget]⟩⟩
 have k01:=k0.trans k1
 have hbwW:W.sz≤W0.sz:=k0.sz
 have hbwr:W0.sz≠W.sz:=by omega
 generalize hbw:W0.sz=bw at hw0 hbwW hbwr
 refine (wfind_ok t1 hw0 hr0 (by simp)).mono fun en W2 ⟨⟨v,he⟩,c2,t2,vo,hw2,hv2⟩=>?_
 subst he
 simp only [zAK]
 rw [start_visit] at hw2
 have hnil:∀ j,¬zA2 (.slice none 0 0) j:=fun j ⟨b,l,c,e,_⟩=>by cases e
 have kS:∀ {A:CW} {vo:Value},(∀ j,zA2 vo j→W.sz≤j)→∀ j,WkS bw W.sz vo j→W.sz≤j:=fun hv j hj=>by
  rcases hj with rfl | rfl | hj
  ·exact hbwW
  ·exact Nat.le_refl _
  ·exact hv j hj
 have k2:Kp W W2:=Chg.kp k01 c2 fun j hj=>by
  rcases hj with rfl | rfl | hj
  ·exact hbwW
  ·exact Nat.le_refl _
  ·exact (hnil j hj).elim
 have hn2:Newer W.sz vo:=fun b l c e=>by
  rcases hv2 _ ⟨b,l,c,e,rfl⟩ with h | h
  ·exact (hnil _ h).elim
  ·have:=k01.sz; omega
 refine zCk (fun i e ds W'=>ds=[]∧∃ o vo,Kp W W'∧Top W'∧e 1=v1∧e 5=.pointer (some ⟨bw,0,none⟩)∧e 6=.int .i64 i∧WkAt W' bw W.sz vo o∧Newer W.sz vo∧Found o N∧zBJ refs (N-i) o i=zBJ refs N (start root) 0) N
  ⟨rfl,_,vo,k2,t2,rfl,rfl,rfl,hw2,hn2,.start hr1,rfl⟩ ?_
 rintro i e ds W' hi ⟨rfl,o,vo,k',t',h1,h5,h6,hw,hnv,hF,hR⟩
 have hol:=hF.len
 obtain ⟨hbwl,hrpl,hvol⟩:=hw.lt t'
 have q0:ld prog 40 (.pointer (some ⟨bw,0,none⟩)) W'=some vo:=zAC a40 (a:=⟨bw,0,none⟩) (hw.w.cell rfl)
 have hol1:(zCo o).length=o.length*1:=by rw [zE0]; omega
 rw [f50_l0,h1,h5,h6]
 simp only [zBS,zHQ,zAA,q0,zEQ u40 hw.own (by omega) hol1,zAa]
 refine zHF (fun hlt=>?_) (fun hge=>?_)
 ·have hx:=List.getElem?_eq_getElem hlt
  obtain ⟨ao,co,rfl,hoc⟩:=zEP (f:=fun k=>Value.int .i64 k) hw.own
  obtain ⟨po,rfl,hpo⟩:=hoc i _ hx
  have hlow:=hF.low _ (List.getElem_mem hlt)
  have hhigh:=hF.high _ (List.getElem_mem hlt)
  rw [zAi u40 s3 hlt]
  simp only [zAA]
  rw [zAC a3 (a:=⟨po.block,po.off+i*1,none⟩) hpo]
  simp only [zAA]
  refine hrefs o[i] W' k' t' hlow hhigh _ _ fun vr W6 k6 t6 hvr hnr=>?_
  have hrs:=hin o[i] hlow hhigh
  have hrl:=hrl o[i]
  have hstep:zBJ refs (N-(i+1)) ((refs o[i]).foldl visit o) (i+1)=zBJ refs N (start root) 0:=by
   rw [←hR,show N-i=(N-(i+1))+1 by omega,search_step hx]
  generalize refs o[i]=rs at hvr hrs hrl hstep
  have hrs1:(zCo rs).length=rs.length*1:=by rw [zE0]; omega
  rw [zEQ u40 hvr (by omega) hrs1]
  simp only [zAA]
  have hw6:=hw.kp t' k6
  have hsz6:=k6.sz
  have hvrS:∀ j,zA2 vr j→¬WkS bw W.sz (.slice (some po) o.length co) j:=fun j hj hS=>by
   have:=hnr.in hj
   rcases hS with rfl | rfl | hS
   ·omega
   ·omega
   ·have:=hvol j hS; omega
  refine zCk (fun k e' ds' W7=>ds'=[]∧∃ o' vo',Chg (WkS bw W.sz (.slice (some po) o.length co)) W6 W7∧Top W7∧e' 1=v1∧e' 5=.pointer (some ⟨bw,0,none⟩)∧e' 6=.int .i64 i∧e' 32=vr∧e' 33=.int .i64 rs.length∧e' 34=.int .i64 k∧WkAt W7 bw W.sz vo' o'∧(∀ j,zA2 vo' j→zA2 (.slice (some po) o.length co) j∨W6.sz≤j)∧Found o' N∧o'=(rs.take k).foldl visit o) rs.length
   ⟨rfl,o,_,.refl _ _,t6,h1,h5,h6,rfl,rfl,rfl,hw6,fun j hj=>.inl hj,hF,rfl⟩ ?_
  rintro k e' ds' W7 hk ⟨rfl,o',vo',c7,t7,g1,g5,g6,g32,g33,g34,hw7,hv7,hF7,ho7⟩
  rw [f50_l1,g5,g32,g33,g34]
  simp only [zAa,zAA]
  refine zHF (fun hlt2=>?_) (fun hge2=>?_)
  ·have hxr:=List.getElem?_eq_getElem hlt2
   have hvr7:=c7.own t6 hvr hvrS
   obtain ⟨ar,cr,rfl,hrc⟩:=zEP (f:=fun k=>Value.int .i64 k) hvr7
   obtain ⟨pr,rfl,hpr⟩:=hrc k _ hxr
   rw [zAi u40 s3 hlt2]
   simp only [zAA]
   rw [zAC a3 (a:=⟨pr.block,pr.off+k*1,none⟩) hpr]
   simp only [zAA]
   obtain ⟨hb0,hb1⟩:=hrs _ (List.getElem_mem hlt2)
   have:=hF7.len
   refine (wfind_ok t7 hw7 hb0 (by omega)).mono fun en W9 ⟨⟨v,he⟩,c9,t9,vo9,hw9,hv9⟩=>?_
   subst he
   simp only [zAK,f50_k8,qKn,qKr,qKx,qKp,bKn,bKr,bKp,bKx,tKn,tKr,tKx,tKp,zKn,zKr,zKx,zKp]
   simp only [eKc,eKn,eKa,Nat.reduceEqDiff,↓reduceIte,gKz,gKs,dKs,and_self,g34,zAX,zAA,qKn,qKr,qKx,qKp,bKn,bKr,bKp,bKx,tKn,tKr,tKx,tKp,zKn,zKr,zKx,zKp]
   have hsz7:=c7.sz
   refine ⟨hlt2,trivial,_,vo9,c7.then c9 fun j hj hS=>?_,t9,g1,g5,g6,g32,g33,by rw [zCi (by omega)],hw9,fun j hj=>?_,hF7.visit hb1,?_⟩
   ·rcases hS with h | h | h
    ·exact .inl h
    ·exact .inr (.inl h)
    ·rcases hv7 j h with h | h
     ·exact .inr (.inr h)
     ·omega
   ·rcases hv9 j hj with h | h
    ·exact hv7 j h
    ·exact .inr (by omega)
   ·rw [List.take_add_one,hxr,List.foldl_append,←ho7]; rfl
  ·have hkr:rs.take k=rs:=List.take_of_length_le (by omega)
   rw [hkr] at ho7
   simp only [qKn,qKr,qKx,qKp,bKn,bKr,bKp,bKx,tKn,tKr,tKx,tKp,zKn,zKr,zKx,zKp,if_true,f50_k5]
   simp only [eKc,eKn,eKa,Nat.reduceEqDiff,↓reduceIte,gKz,gKs,dKs,and_self,g6,zAX,zAA,qKn,qKr,qKx,qKp,bKn,bKr,bKp,bKx,tKn,tKr,tKx,tKp,zKn,zKr,zKx,zKp]
   refine ⟨by omega,trivial,o',vo',Chg.kp (k'.trans k6) c7 fun j hj=>?_,t7,g1,g5,by rw [zCi (by omega)],hw7,fun b l c e=>?_,hF7,by rw [ho7]; exact hstep⟩
   ·rcases hj with rfl | rfl | hj
    ·exact hbwW
    ·exact Nat.le_refl _
    ·exact hnv.in hj
   ·rcases hv7 _ ⟨b,l,c,e,rfl⟩ with h | h
    ·exact hnv.in h
    ·have:=(k'.trans k6).sz; omega
 ·have hfo:o=zBJ refs N (start root) 0:=by rw [←hR,search_end hge]
  simp only [qKn,qKr,qKx,qKp,bKn,bKr,bKp,bKx,tKn,tKr,tKx,tKp,zKn,zKr,zKx,zKp,if_true,f50_k4,f50_leave]
  refine ⟨k',t',bw,W.sz,vo,?_,hfo ▸ hw,hbwW,Nat.le_refl _,hnv,hfo ▸ hF⟩
  simp only [eKc,eKn,eKa,Nat.reduceEqDiff,↓reduceIte,gKz,gKs,dKs,and_self,h5]
theorem refs_in {c:List Shp} {l:List Spc} {h:List Thg} (hok:zA8 c=true) (hs:zAu c l=true) (hth:∀ x,x ∈ h→zAn c x h.length=true) {n:Int}:∀ r,r ∈ zEB c l h n→0≤r∧r≤h.length:=by
 intro r hr
 unfold zEB at hr
 cases hx:h[(n-1).toNat]? with
 | none=>rw [hx] at hr; cases hr
 | some x =>
  rw [hx] at hr
  simp only at hr
  obtain ⟨i,s,Y⟩:=zCH (zA9 hs (hth x (List.mem_of_getElem? hx)))
  generalize zAG l x=y at hr Y
  unfold zFC at hr
  rw [Y.ti] at hr
  simp only at hr
  have:∀ k,r ∈ zCe c i y.vals k→0≤r∧r≤h.length:=by
   intro k
   induction k with
   | zero=>intro h; cases h
   | succ k ih =>
    intro h
    rw [zCe] at h
    rcases List.mem_append.1 h with h | h
    ·exact ih h
    ·split at h
     ·rename_i hk
      cases hv:y.vals[k]? with
      | none=>rw [hv] at h; cases h
      | some v =>
       rw [hv] at h
       have hrv:=List.mem_singleton.1 h
       subst hrv
       rcases zEr hok Y hv with h | h
       ·exact ⟨h.2.1,h.2.2⟩
       ·omega
     ·cases h
  exact this _ hr
theorem refs_len {c:List Shp} {l:List Spc} {h:List Thg} (hC:Cat c) (hs:zAu c l=true) (hth:∀ x,x ∈ h→zAn c x h.length=true) (n:Int):(zEB c l h n).length<100000:=by
 unfold zEB
 cases hx:h[(n-1).toNat]? with
 | none=>simp
 | some x =>
  simp only
  obtain ⟨i,s,Y⟩:=zCH (zA9 hs (hth x (List.mem_of_getElem? hx)))
  have:=zGT c i (zAG l x).vals (zAG l x).vals.length
  have:=many_le hC Y.many
  unfold zFC
  rw [Y.ti]
  simp only
  omega
structure Wr1At (W:CW) (bk br bh r1 r2 w r:Nat) (c:List Shp) (l:List Spc) (h:List Thg):Prop where
 k:Cells W bk 0 [.map (some r1),.map (some r2)]
 rl:Cells W br 0 [.map (some w),.map (some r)]
 cat:CatAt W r1 r2 c
 sp:SpM Spc.type W w l
 hs:∃ vh,W.cell bh 0=some vh∧IsSl 2 (RThg W) vh h
theorem Wr1At.kp {W W':CW} {bk br bh r1 r2 w r:Nat} {c:List Shp} {l:List Spc} {h:List Thg} (A:Wr1At W bk br bh r1 r2 w r c l h) (ht:Top W) (k:Kp W W'):Wr1At W' bk br bh r1 r2 w r c l h:=by
 obtain ⟨vh,h1,h2⟩:=A.hs
 exact ⟨A.k.ext ht k,A.rl.ext ht k,A.cat.kp ht k,A.sp.kp ht k,vh,k.cell ht h1,h2.imp fun _ _ _ hr=>hr.kp ht k⟩
theorem write1_ok {bk br bh r1 r2 w r:Nat} {c:List Shp} {l:List Spc} {h:List Thg} {n:Int} {W:CW} (ht:Top W) (A:Wr1At W bk br bh r1 r2 w r c l h) (hC:Cat c) (hs:zAu c l=true) (hth:∀ x,x ∈ h→zAn c x h.length=true) (hml:∀ s,s ∈ l→s.map.length<100000) (hn0:0<n) (hn1:n≤h.length) (hhl:h.length<100000) :
  WCall prog pkL 51 [.int .i64 n,.pointer (some ⟨bk,0,none⟩),.pointer (some ⟨br,0,none⟩),.pointer (some ⟨bh,0,none⟩)] W (RefsPost (zEB c l h n) W):=by
 refine f51_w ?_
 rw [f51_c]
 obtain ⟨vh,hbh,hh⟩:=A.hs
 obtain ⟨i,hi⟩:∃ i:Nat,n=((i+1:Nat):Int):=⟨(n-1).toNat,by omega⟩
 subst hi
 have hil:i<h.length:=by omega
 have hx:=List.getElem?_eq_getElem hil
 obtain ⟨ah,ch,rfl,hhc⟩:=id hh
 obtain ⟨p,rfl,hp⟩:=hhc i _ hx
 have l78:∀ W1,Kp W W1→ld prog 78 (.pointer (some ⟨bk,0,none⟩)) W1=some (.agg [.map (some r1),.map (some r2)].toArray):=fun W1 k1=>zA3 (vs:=[.map (some r1),.map (some r2)]) (a:=⟨bk,0,none⟩) a78 s78 rfl (by omega) (A.k.ext ht k1)
 have l83:ld prog 83 (.pointer (some ⟨br,0,none⟩)) W=some (.agg [.map (some w),.map (some r)].toArray):=zA3 (vs:=[.map (some w),.map (some r)]) (a:=⟨br,0,none⟩) a83 s83 rfl (by omega) A.rl
 have l24:ld prog 24 (.pointer (some ⟨bh,0,none⟩)) W=some (.slice (some p) h.length ch):=zAC a24 (a:=⟨bh,0,none⟩) hbh
 obtain ⟨vx,hu,hvx,hvxl⟩:=thg_ld ht (.refl _) hp
 rw [l78 W (.refl _),l83,l24]
 simp only [zAA,zCa]
 rw [show ((i+1:Nat):Int)-1=(i:Nat) by omega,zBV (by omega) (by omega),zAi u24 s56 hil]
 simp only [zAA,hu]
 have hty:=hth _ (List.getElem_mem hil)
 refine (as_ok (r:=r) ht A.sp hvx (zFJ hs hty) hml).mono fun en W0 ⟨k0,t0,vv,hen,hvv,hor⟩=>?_
 subst hen
 simp only [zAK]
 have hyt:=zA9 hs hty
 obtain ⟨iy,sy,Y⟩:=zCH hyt
 have hrp:zEB c l h ((i+1:Nat):Int)=zFC c (zAG l h[i]):=by
  unfold zEB
  rw [show (((i+1:Nat):Int)-1).toNat=i by omega,hx]
 have hml2:=many_le hC Y.many
 refine (refs_ok t0 (A.cat.kp ht k0) Y.ti (fun he=>by rw [zEy Y.si he Y.many]; exact Nat.le_refl _) hvv (by omega)).mono fun en W2 ⟨k2,t2,vr,hen,hvr,hnr⟩=>?_
 subst hen
 simp only [zAK]
 refine ⟨by simp only [l78 W0 k0,and_self],trivial,?_⟩
 rw [f51_leave]
 refine ⟨k0.trans k2,t2,vr,rfl,by rw [hrp]; exact hvr,fun b l c e=>Nat.le_trans k0.sz (hnr b l c e)⟩
end Go.Ce
namespace Go.Ce
open Go Go.Proofs Go.Proofs.Tryz
theorem fad95_0 (a:Addr):fad prog 95 (.pointer (some a)) 0=some (.pointer (some ⟨a.block,a.off,none⟩)):=by kernel_rfl
theorem zDs (a:Addr):fad prog 97 (.pointer (some a)) 0=some (.pointer (some ⟨a.block,a.off,none⟩)):=by kernel_rfl
theorem fad97_1 (a:Addr):fad prog 97 (.pointer (some a)) 1=some (.pointer (some ⟨a.block,a.off+1,none⟩)):=by kernel_rfl
theorem cbin_shr7 (n:Nat) (h:n<1000000000000000000):zAO prog .shr 3 true (.int .i64 n) (.int .u64 7)=some (.int .i64 ((n / 128:Nat):Int)):=by
 have h1:zAO prog .shr 3 true (.int .i64 n) (.int .u64 7)=some (.int .i64 ((n:Int).fdiv (2 ^ (min (7:Int).toNat 64)))):=by kernel_rfl
 rw [h1]
 congr 2
 have:((2:Int) ^ (min (7:Int).toNat 64))=((128:Nat):Int):=by decide
 rw [this,Int.fdiv_eq_ediv_of_nonneg _ (by omega)]
 omega
structure BufAt (W:CW) (wb:Nat) (rest:List Value) (vb:Value) (bs:List Int):Prop where
 b:Blk W wb 97 (vb::rest)
 own:Own W 5 1 vb (zAc bs)
def WrS (wb:Nat) (vb:Value) (j:Nat):Prop:=j=wb∨zA2 vb j
def zGG (wb:Nat) (rest:List Value) (vb:Value) (bs:List Int) (W:CW):Ending→CW→Prop:=fun e W'=>(∃ v,e=.returned v)∧Chg (WrS wb vb) W W'∧Top W'∧∃ vb',BufAt W' wb rest vb' bs∧∀ j,zA2 vb' j→zA2 vb j∨W.sz≤j
theorem BufAt.ld {W:CW} {wb:Nat} {rest:List Value} {vb:Value} {bs:List Int} (h:BufAt W wb rest vb bs):Go.Ce.ld prog 29 (.pointer (some ⟨wb,0,none⟩)) W=some vb:=zAC a29 (a:=⟨wb,0,none⟩) (h.b.cell rfl)
theorem zGk {wb:Nat} {rest:List Value} {vb vb1 vb2:Value} {bs:List Int} {W W1 W2:CW} (c1:Chg (WrS wb vb) W W1) (n1:∀ j,zA2 vb1 j→zA2 vb j∨W.sz≤j) (c2:Chg (WrS wb vb1) W1 W2) (n2:∀ j,zA2 vb2 j→zA2 vb1 j∨W1.sz≤j):Chg (WrS wb vb) W W2∧∀ j,zA2 vb2 j→zA2 vb j∨W.sz≤j:=by
 have h1:=c1.sz
 refine ⟨c1.then c2 fun j hj hS=>?_,fun j hj=>?_⟩
 ·rcases hS with h | h
  ·exact .inl h
  ·rcases n1 j h with h | h
   ·exact .inr h
   ·omega
 ·rcases n2 j hj with h | h
  ·exact n1 j h
  ·exact .inr (by omega)
theorem w_emit1 {W:CW} (ht:Top W) {wb:Nat} {rest:List Value} {vb:Value} {bs:List Int} (hb:BufAt W wb rest vb bs) {n:Int} (hl:bs.length<900000) {K:Value→CW→Value→CW→CW→Prop}
  (hk:∀ u Wa v1 W1 W2,Chg (WrS wb vb) W W2→Top W2→BufAt W2 wb rest v1 (bs++[n])→(∀ j,zA2 v1 j→zA2 vb j∨W.sz≤j)→K u Wa v1 W1 W2) :
  wVW (bsl prog 29 1 [(0,.int .u8 n)] W) fun u Wa=>wVW (app prog [29,29] vb u Wa) fun v1 W1=>wV (sto prog 29 (.pointer (some ⟨wb,0,none⟩)) v1 W1) fun W2=>K u Wa v1 W1 W2:=by
 refine zGH u29 s5 z5 rfl (by omega) by5 (by omega) (bsl29 _) rfl rfl ht hb.own (by rw [zBg]; omega) fun u Wa v1 W1 ka ta hpu t1 o1 n1=>?_
 have hne:=ownNe hb.own hb.b (by decide)
 have hb1:=hpu.blk ht hb.b hne
 refine zAV (vs:=vb::rest) s29 (a:=⟨wb,0,none⟩) (zHo o1) hb1 (by simp) fun W2 hu hb2=>?_
 have hu:Upd wb W1 W2:=hu
 have hb2:Blk W2 wb 97 (v1::rest):=by simpa [zEN] using hb2
 have hn1:Newer W.sz v1:=n1 _ (Nat.le_refl _)
 have hwl:=hb.b.lt ht
 have hps:=hpu.sz
 refine hk _ _ _ _ W2 ⟨by rw [hu.sz]; omega,fun j hj hS=>?_⟩ (t1.upd (by omega) hu) ⟨hb2,?_⟩ fun j hj=>.inr (hn1.in hj)
 ·rw [hu.obj j fun e=>hS (.inl e)]
  exact hpu.chg.obj j hj fun h=>hS (.inr h)
 ·rw [zI2]
  exact zFm o1 hu fun b l c e=>by have:=hn1 b l c e; omega
theorem zEW {fn:Func} (hr:fn.results.toList=[]) (Q:Ending→CW→Prop) (x:Exit) (hx:x=.normal∨x=.ret) (e:Env) (W:CW) (h:Q (.returned (.tuple #[])) W):zAD prog fn Q x e [] W:=by
 rcases hx with rfl | rfl <;> simp only [zAD,zBA,hr,zFf] <;> exact h
theorem zJl {wb:Nat} {rest:List Value} {vb:Value} {bs:List Int} {n:Nat} {W:CW} (ht:Top W) (hb:BufAt W wb rest vb bs) (hn:n<100000000000000) (hl:bs.length<800000) :
  WCall prog pkL 55 [.pointer (some ⟨wb,0,none⟩),.int .i64 n] W (zGG wb rest vb (bs++zBk n) W):=by
 refine f55_w ?_
 rw [f55_c]
 refine w_loop (fun k e ds W'=>ds=[]∧∃ (m:Nat) (pre:List Int) (vb':Value),k=m∧m≤n∧e 0=.pointer (some ⟨wb,0,none⟩)∧e 1=.int .i64 m∧Chg (WrS wb vb) W W'∧Top W'∧BufAt W' wb rest vb' (bs++pre)∧(∀ j,zA2 vb' j→zA2 vb j∨W.sz≤j)∧pre++zBk m=zBk n) n
  ⟨rfl,n,[],vb,rfl,Nat.le_refl _,rfl,rfl,.refl _ _,ht,by simpa using hb,fun j hj=>.inl hj,rfl⟩ ?_
 rintro k e ds W' ⟨rfl,m,pre,vb',rfl,hmn,h0,h1,hch,t',hb',hn',hpre⟩
 have hpl:(pre++zBk k).length≤8:=by rw [hpre]; exact zBc hn
 rw [List.length_append] at hpl
 rw [f55_l0,h0,h1]
 simp only [zDQ,zAA]
 refine zAE (fun hg=>?_) (fun hg=>?_)
 ·have hg:¬k<128:=by have:=of_decide_eq_true hg; omega
  have hnk:zBk k=((k % 128+128:Nat):Int)::zBk (k / 128):=by rw [zBk,if_neg hg]
  rw [cbin_rem _ _ _ (by omega)]
  have e1:(k:Int).tmod 128=((k % 128:Nat):Int):=by rw [Int.tmod_eq_emod_of_nonneg (by omega)]; omega
  rw [e1]
  simp only [zBS,fad95_0,zAA,hb'.ld,zAX]
  rw [zBV (by omega) (by omega),cvw35,wrap8 (by omega) (by omega)]
  simp only [zAA]
  refine w_emit1 t' hb' (by rw [List.length_append]; omega) fun u Wa v1 W1 W2 c2 t2 hb2 n2=>?_
  simp only [f55_k4,qKn,qKr,qKx,qKp,bKn,bKr,bKp,bKx,tKn,tKr,tKx,tKp,zKn,zKr,zKx,zKp]
  simp only [eKc,eKn,eKa,Nat.reduceEqDiff,↓reduceIte,gKz,gKs,dKs,and_self,h1]
  rw [cbin_shr7 k (by omega)]
  simp only [zAA]
  obtain ⟨c3,n3⟩:=zGk (rest:=rest) (bs:=bs) hch hn' c2 n2
  refine ⟨k / 128,by omega,trivial,k / 128,pre++[((k % 128+128:Nat):Int)],v1,rfl,by omega,?_,?_,c3,t2,?_,n3,?_⟩
  ·simp only [eKc,eKn,eKa,Nat.reduceEqDiff,↓reduceIte,gKz,gKs,dKs,and_self,h0]
  ·rfl
  ·rw [←List.append_assoc]; simpa using hb2
  ·rw [List.append_assoc,List.singleton_append,←hnk,hpre]
 ·have hg:k<128:=by have:=of_decide_eq_false hg; omega
  have hnk:zBk k=[(k:Int)]:=by rw [zBk,if_pos hg]
  simp only [qKn,qKr,qKx,qKp,bKn,bKr,bKp,bKx,tKn,tKr,tKx,tKp,zKn,zKr,zKx,zKp,if_true,f55_k3]
  simp only [eKc,eKn,eKa,Nat.reduceEqDiff,↓reduceIte,gKz,gKs,dKs,and_self,h0,h1]
  simp only [zBS,fad95_0,zAA,hb'.ld]
  rw [cvw35,wrap8 (by omega) (by omega)]
  simp only [zAA]
  refine w_emit1 t' hb' (by rw [List.length_append]; omega) fun u Wa v1 W1 W2 c2 t2 hb2 n2=>?_
  obtain ⟨c3,n3⟩:=zGk (rest:=rest) (bs:=bs) hch hn' c2 n2
  refine zEW (by kernel_rfl) _ _ (.inl rfl) _ _ ⟨⟨_,rfl⟩,c3,t2,v1,?_,n3⟩
  rw [←hpre,hnk,←List.append_assoc]
  exact hb2
theorem noInt9:zER prog 9=true:=by kernel_rfl
theorem byteCells_eq (s:ByteArray):zBH ((sb s).take s.size)=zAc (zD7 s):=by
 rw [List.take_of_length_le (by rw [zHj]; exact Nat.le_refl _)]
 unfold zBH zAc zD7
 rw [List.map_map]
 rfl
theorem pname_ok {wb:Nat} {rest:List Value} {vb:Value} {bs:List Int} {s:ByteArray} {W:CW} (ht:Top W) (hb:BufAt W wb rest vb bs) (hs0:0<s.size) (hs:s.size<1000) (hl:bs.length<700000) :
  WCall prog pkL 57 [.pointer (some ⟨wb,0,none⟩),.string s] W (zGG wb rest vb (bs++zD8 s) W):=by
 refine f57_w ?_
 rw [f57_c,zE3 u9]
 simp only [zAA]
 refine (zJl (n:=s.size) ht hb (by omega) (by omega)).mono fun en W1 ⟨⟨v,he⟩,c1,t1,vb1,hb1,n1⟩=>?_
 subst he
 simp only [zAK,zBS,fad95_0,zAA,hb1.ld]
 have h8:=zBc (n:=s.size) (by omega)
 have hbl:(zD7 s).length=s.size:=by unfold zD7; rw [List.length_map,zHj]
 refine w_app (x:=.string s) (m:=s.size) (news:=zAc (zD7 s)) u29 noInt9 s5 z5 rfl (by omega) by5 (by omega) t1 hb1.own rfl hs0 ?_ (zGZ _) (by rw [zBg,hbl]; omega) (by rw [zBg,List.length_append]; omega) fun W2 len hg hlen hB=>?_
 ·show cond (Nat.beq 1 1) (some (zBH ((sb s).take s.size))) none=_
  rw [byteCells_eq]; rfl
 ·have hne:=ownNe hb1.own hb1.b (by decide)
  have hbw1:=hb1.b.lt t1
  have hb2:Blk W2 wb 97 (vb1::rest):=hb1.b.congr (hg.obj wb hbw1 fun b l c e=>(hne b l c e).symm)
  refine zAV (vs:=vb1::rest) s29 (a:=⟨wb,0,none⟩) rfl hb2 (by simp) fun W3 hu hb3=>?_
  have hu:Upd wb W2 W3:=hu
  have hb3:Blk W3 wb 97 (.slice (some ⟨W1.sz,0,none⟩) len len::rest):=by simpa [zEN] using hb3
  have hsz:=hg.sz
  have hbwl:=hb1.b.lt t1
  have o3:Own W3 5 1 (.slice (some ⟨W1.sz,0,none⟩) len len) (zAc (bs++zD8 s)):=by
   have:zAc (bs++zD8 s)=zAc (bs++zBk s.size)++zAc (zD7 s):=by
    unfold zD8
    rw [←List.append_assoc,zI2]
   rw [this]
   exact Own.some (hB.congr (hu.obj _ (by omega))) hlen
  have c2:Chg (WrS wb vb1) W1 W3:=⟨by rw [hu.sz]; omega,fun j hj hS=>by
   rw [hu.obj j fun e=>hS (.inl e)]
   exact hg.obj j hj fun b l c e hbj=>hS (.inr ⟨b,l,c,e,hbj.symm⟩)⟩
  obtain ⟨c3,n3⟩:=zGk (vb2:=.slice (some ⟨W1.sz,0,none⟩) len len) (rest:=rest) (bs:=bs) c1 n1 c2 (fun j hj=>.inr (by obtain ⟨b,l,c,e,rfl⟩:=hj; cases e; exact Nat.le_refl _))
  refine zEW (by kernel_rfl) _ _ (.inl rfl) _ _ ⟨⟨_,rfl⟩,c3,?_,_,⟨hb3,o3⟩,n3⟩
  exact (hg.top t1).upd (by omega) hu
theorem pword_ok {wb:Nat} {rest:List Value} {vb:Value} {bs:List Int} {n:Int} {W:CW} (ht:Top W) (hb:BufAt W wb rest vb bs) (h1:-4000000000000≤n) (h2:n≤4000000000000) (hl:bs.length<700000) :
  WCall prog pkL 106 [.pointer (some ⟨wb,0,none⟩),.int .i64 n] W (zGG wb rest vb (bs++zBk (zFK n).toNat) W):=by
 refine f106_w ?_
 rw [f106_c]
 simp only [zAa,zAA]
 have fin:∀ (z:Nat),zFK n=(z:Int)→WCall prog pkL 55 [.pointer (some ⟨wb,0,none⟩),.int .i64 z] W (zGG wb rest vb (bs++zBk (zFK n).toNat) W):=fun z hz=>by
  rw [hz,Int.toNat_natCast]
  refine zJl ht hb ?_ (by omega)
  unfold zFK at hz
  split at hz <;> omega
 refine zAE (fun h=>?_) (fun h=>?_)
 ·have h:n<0:=of_decide_eq_true h
  simp only [zBS,zDs,zAA,cbin_mul,zCa]
  rw [zBV (x:=-2*n) (by omega) (by omega),zBV (x:=-2*n-1) (by omega) (by omega)]
  obtain ⟨z,hz⟩:∃ z:Nat,-2*n-1=(z:Int):=⟨(-2*n-1).toNat,by omega⟩
  rw [hz]
  refine (fin z (by unfold zFK; rw [if_pos h,hz])).mono fun en W1 hp=>?_
  obtain ⟨v,rfl⟩:=hp.1
  simp only [zAK]
  exact zEW (by kernel_rfl) _ _ (.inl rfl) _ _ ⟨⟨_,rfl⟩,hp.2⟩
 ·have h:¬n<0:=of_decide_eq_false h
  simp only [zBS,zDs,zAA,cbin_mul]
  rw [zBV (x:=2*n) (by omega) (by omega)]
  obtain ⟨z,hz⟩:∃ z:Nat,2*n=(z:Int):=⟨(2*n).toNat,by omega⟩
  rw [hz]
  refine (fin z (by unfold zFK; rw [if_neg h,hz])).mono fun en W1 hp=>?_
  obtain ⟨v,rfl⟩:=hp.1
  simp only [zAK]
  exact zEW (by kernel_rfl) _ _ (.inl rfl) _ _ ⟨⟨_,rfl⟩,hp.2⟩
theorem a89:agg? prog 89=some false:=by kernel_rfl
theorem pref_ok {wb bw rp:Nat} {rest:List Value} {vb vo:Value} {bs o:List Int} {n:Int} {W:CW} (ht:Top W) (hb:BufAt W wb (.pointer (some ⟨bw,0,none⟩)::rest) vb bs) (hw:WkAt W bw rp vo o) (hol:o.length<100000) (hl:bs.length<700000) :
  WCall prog pkL 107 [.pointer (some ⟨wb,0,none⟩),.int .i64 n] W (zGG wb (.pointer (some ⟨bw,0,none⟩)::rest) vb (bs++zBk (zAv o n).toNat) W):=by
 refine f107_w ?_
 rw [f107_c]
 have q1:ld prog 89 (.pointer (some ⟨wb,0+1,none⟩)) W=some (.pointer (some ⟨bw,0,none⟩)):=zAC a89 (a:=⟨wb,0+1,none⟩) (hb.b.cell rfl)
 have q2:ld prog 98 (.pointer (some ⟨bw,0+1,none⟩)) W=some (.map (some rp)):=zAC a98 (a:=⟨bw,0+1,none⟩) (hw.w.cell rfl)
 have hp:=zGV o n
 obtain ⟨z,hz⟩:∃ z:Nat,zAv o n=(z:Int):=⟨(zAv o n).toNat,by omega⟩
 simp only [zBS,zDs,fad97_1,zAA,q1,fad100_1,q2,hw.p.look]
 rw [hz,Int.toNat_natCast]
 refine (zJl (n:=z) ht hb (by omega) (by omega)).mono fun en W1 hpp=>?_
 obtain ⟨v,rfl⟩:=hpp.1
 simp only [zAK]
 refine ⟨by simp only [and_self],trivial,?_⟩
 exact zEW (by kernel_rfl) _ _ (.inl rfl) _ _ ⟨⟨_,rfl⟩,hpp.2⟩
end Go.Ce
namespace Go.Ce
open Go Go.Proofs Go.Proofs.Tryz
theorem zI3 {v:Value} {l:List ByteArray} {s:ByteArray} {W:CW} (hc:IsSl 1 (RStr W) v l) (hlen:l.length<1000000):WCall prog pkL 61 [v,.string s] W (zIg (.int .i64 (zHu l fun x=>decide (x=s))) W):=by
 refine f61_w ?_
 rw [f61_c]
 obtain ⟨a,cap,rfl,hcell⟩:=hc
 simp only [zAQ u51,zAA]
 refine zCk (fun i e ds W'=>W'=W∧ds=[]∧e 0=.slice a l.length cap∧e 1=.string s∧e 7=.int .i64 l.length∧e 8=.int .i64 i∧∀ j x,j<i→l[j]?=some x→decide (x=s)=false) l.length ⟨rfl,rfl,rfl,rfl,rfl,rfl,by omega⟩ ?_
 rintro i e ds W' hi ⟨rfl,rfl,h0,h1,h7,h8,hpre⟩
 rw [f61_l0,h0,h1,h7,h8]
 simp only [zAa,zAA]
 refine zHF (fun hlt=>?_) (fun hge=>?_)
 ·have hx:=List.getElem?_eq_getElem hlt
  obtain ⟨p,rfl,hp⟩:=hcell i _ hx
  rw [zAi u51 s9 hlt]
  simp only [zAA]
  rw [zAC a9 (a:=⟨p.block,p.off+i*1,none⟩) hp]
  simp only [zAA,cbin_seql,bEq_dec]
  refine zAE (fun hq=>?_) (fun hq=>?_)
  ·have hq:s=l[i]:=by simpa using hq
   simp only [f61_k1,qKn,qKr,qKx,qKp,bKn,bKr,bKp,bKx,tKn,tKr,tKx,tKp,zKn,zKr,zKx,zKp,f61_k0,f61_leave]
   refine ⟨?_,rfl⟩
   simp only [eKc,eKn,eKa,Nat.reduceEqDiff,↓reduceIte,gKz,gKs,dKs,and_self,h8]
   rw [zEX hlt (by simp [hq]) hpre]
  ·have hq:¬s=l[i]:=by simpa using hq
   simp only [f61_k1,qKn,qKr,qKx,qKp,bKn,bKr,bKp,bKx,tKn,tKr,tKx,tKp,zKn,zKr,zKx,zKp]
   simp only [eKc,eKn,eKa,Nat.reduceEqDiff,↓reduceIte,gKz,gKs,dKs,and_self,h0,h1,h7,h8,zAX,zAA,qKn,qKr,qKx,qKp,bKn,bKr,bKp,bKx,tKn,tKr,tKx,tKp,zKn,zKr,zKx,zKp]
   refine ⟨hlt,trivial,trivial,trivial,trivial,trivial,by rw [zCi (by omega)],fun j x hj hx'=>?_⟩
   rcases Nat.lt_succ_iff_lt_or_eq.1 hj with h2 | rfl
   ·exact hpre j x h2 hx'
   ·rw [hx] at hx'; cases hx'; exact decide_eq_false fun e=>hq e.symm
 ·simp only [qKn,qKr,qKx,qKp,bKn,bKr,bKp,bKx,tKn,tKr,tKx,tKp,zKn,zKr,zKx,zKp,if_true,f61_k0,f61_leave]
  refine ⟨?_,rfl⟩
  simp only [eKc,eKn,eKa,Nat.reduceEqDiff,↓reduceIte,gKz,gKs,dKs,and_self]
  rw [zEY fun j x hj hx=>hpre j x (by omega) hx]
theorem zF8 {v:Value} {l:List ByteArray} {s:ByteArray} {W:CW} (hc:IsSl 1 (RStr W) v l) (hlen:l.length<1000000):WCall prog pkL 54 [v,.string s] W (zIg (.bool (l.any fun x=>decide (x=s))) W):=by
 refine f54_w ?_
 rw [f54_c]
 refine zBw (zI3 hc hlen) ?_
 simp only [zDQ,zAA,f54_leave]
 refine ⟨?_,rfl⟩
 simp only [eKc,eKn,eKa,Nat.reduceEqDiff,↓reduceIte,gKz,gKs,dKs,and_self]
 congr 2
 cases h:l.any fun x=>decide (x=s) with
 | false=>exact decide_eq_false (by have:=idxI_neg.2 h; omega)
 | true =>
  refine decide_eq_true ?_
  have:¬zHu l (fun x=>decide (x=s))<0:=fun hn=>by rw [idxI_neg.1 hn] at h; cases h
  omega
structure WrP where
 A:CW
 (bk br bh bwv b16 bd wb bw rp r1 r2 w r:Nat)
 (vt vo:Value)
 bdt:TypeId
 dvs:List Value
 c:List Shp
 l:List Spc
 h:List Thg
 o:List Int
 ts:List ByteArray
def WrP.rest (p:WrP):List Value:=[.pointer (some ⟨p.bw,0,none⟩),.map (some p.r1),.map (some p.r2)]
structure WrEnv (p:WrP) (W:CW) (vb:Value) (bs:List Int):Prop where
 kp:Kp p.A W
 top:Top W
 tA:Top p.A
 d:Wr1At p.A p.bk p.br p.bh p.r1 p.r2 p.w p.r p.c p.l p.h
 wk:WkAt W p.bw p.rp p.vo p.o
 wv:Blk W p.bwv 88 [.pointer (some ⟨p.wb,0,none⟩)]
 ty:Blk W p.b16 51 [p.vt]
 tys:Own W 9 1 p.vt (strs p.ts)
 dv:Blk W p.bd p.bdt p.dvs
 dvn:p.bdt≠97∧p.bdt≠5
 buf:BufAt W p.wb p.rest vb bs
 ge:p.A.sz≤p.wb∧∀ j,zA2 vb j→p.A.sz≤j
def WrP.Has (p:WrP) (vb:Value) (i:Nat):Prop:=i=p.bw∨i=p.rp∨zA2 p.vo i∨i=p.bwv∨i=p.b16∨zA2 p.vt i∨i=p.bd∨i=p.wb∨zA2 vb i
theorem zJn {W W':CW} {el n:Nat} {v:Value} {cs:List Value} (h:Own W el n v cs) (ho:∀ i,zA2 v i→W'.obj i=W.obj i):Own W' el n v cs:=by
 cases h with
 | nil=>exact Own.nil
 | some hB hl=>exact Own.some (hB.congr (ho _ ⟨_,_,_,rfl,rfl⟩)) hl
theorem WrEnv.of {p:WrP} {W W':CW} {vb:Value} {bs:List Int} (h:WrEnv p W vb bs) (hk:Kp p.A W') (ht:Top W') (ho:∀ i,p.Has vb i→W'.obj i=W.obj i):WrEnv p W' vb bs :=
 ⟨hk,ht,h.tA,h.d,⟨h.wk.w.congr (ho _ (.inl rfl)),zJn h.wk.own fun i hi=>ho i (.inr (.inr (.inl hi))),h.wk.p.congr (ho _ (.inr (.inl rfl)))⟩,h.wv.congr (ho _ (.inr (.inr (.inr (.inl rfl))))),h.ty.congr (ho _ (.inr (.inr (.inr (.inr (.inl rfl)))))),zJn h.tys fun i hi=>ho i (.inr (.inr (.inr (.inr (.inr (.inl hi)))))),h.dv.congr (ho _ (.inr (.inr (.inr (.inr (.inr (.inr (.inl rfl)))))))),h.dvn,⟨h.buf.b.congr (ho _ (.inr (.inr (.inr (.inr (.inr (.inr (.inr (.inl rfl))))))))),zJn h.buf.own fun i hi=>ho i (.inr (.inr (.inr (.inr (.inr (.inr (.inr (.inr hi)))))))) ⟩,h.ge⟩
theorem WrEnv.lt {p:WrP} {W:CW} {vb:Value} {bs:List Int} (h:WrEnv p W vb bs):∀ i,p.Has vb i→i<W.sz:=by
 intro i hi
 rcases hi with rfl | rfl | hi | rfl | rfl | hi | rfl | rfl | hi
 ·exact h.wk.w.lt h.top
 ·exact h.wk.p.lt h.top
 ·exact zIX h.top h.wk.own hi
 ·exact h.wv.lt h.top
 ·exact h.ty.lt h.top
 ·exact zIX h.top h.tys hi
 ·exact h.dv.lt h.top
 ·exact h.buf.b.lt h.top
 ·exact zIX h.top h.buf.own hi
theorem WrEnv.kp' {p:WrP} {W W':CW} {vb:Value} {bs:List Int} (h:WrEnv p W vb bs) (k:Kp W W') (ht:Top W'):WrEnv p W' vb bs:=h.of (h.kp.trans k) ht fun i hi=>k.obj i (h.lt i hi)
theorem zAs {W:CW} {b:Nat} {e1 e2:TypeId} {v1 v2:List Value} (h1:Blk W b e1 v1) (h2:Blk W b e2 v2):e1=e2:=by
 obtain ⟨c,n,z,h,_⟩:=h1
 obtain ⟨c',n',z',h',_⟩:=h2
 rw [h] at h'; cases h'; rfl
theorem zBx {W:CW} {el n:Nat} {v:Value} {cs:List Value} (h:Own W el n v cs) {j:Nat} (hj:zA2 v j):Blk W j el cs:=by
 obtain ⟨b,l,c,e,rfl⟩:=hj
 cases h with
 | nil=>cases e
 | some hB hl=>cases e; exact hB
theorem zHp {p:WrP} {W:CW} {vb:Value} {bs:List Int} (h:WrEnv p W vb bs) {i:Nat} {el:TypeId} {vs:List Value} (hB:Blk W i el vs) (h1:el≠97) (h2:el≠5):¬WrS p.wb vb i:=by
 rintro (rfl | hi)
 ·exact h1 (zAs hB h.buf.b)
 ·exact h2 (zAs hB (zBx h.buf.own hi))
theorem WrEnv.emit {p:WrP} {W W':CW} {vb vb':Value} {bs bs':List Int} (h:WrEnv p W vb bs) (hc:Chg (WrS p.wb vb) W W') (ht:Top W') (hb:BufAt W' p.wb p.rest vb' bs') (hn:∀ j,zA2 vb' j→zA2 vb j∨W.sz≤j):WrEnv p W' vb' bs':=by
 have hrp:¬WrS p.wb vb p.rp:=by
  rintro (e | hi)
  ·exact (h.wk.p.ne h.buf.b) e.symm
  ·exact (h.wk.p.ne (zBx h.buf.own hi)) rfl
 have hsz:=h.kp.sz
 refine ⟨Chg.kp h.kp hc fun j hj=>?_,ht,h.tA,h.d,⟨hc.blk h.top (zHp h h.wk.w (by decide) (by decide)) h.wk.w,hc.own h.top h.wk.own fun j hj=>zHp h (zBx h.wk.own hj) (by decide) (by decide),h.wk.p.congr (hc.obj _ (h.wk.p.lt h.top) hrp)⟩,hc.blk h.top (zHp h h.wv (by decide) (by decide)) h.wv,hc.blk h.top (zHp h h.ty (by decide) (by decide)) h.ty,hc.own h.top h.tys fun j hj=>zHp h (zBx h.tys hj) (by decide) (by decide),hc.blk h.top (zHp h h.dv h.dvn.1 h.dvn.2) h.dv,h.dvn,hb,h.ge.1,fun j hj=>?_⟩
 ·rcases hj with rfl | hj
  ·exact h.ge.1
  ·exact h.ge.2 j hj
 ·rcases hn j hj with h1 | h1
  ·exact h.ge.2 j h1
  ·omega
theorem emit_int {p:WrP} {W W':CW} {vb:Value} {bs:List Int} (h:WrEnv p W vb bs) (hc:Chg (WrS p.wb vb) W W') {b k:Nat} {n:Int} (hcell:W.cell b k=some (.int .i64 n)):W'.cell b k=some (.int .i64 n):=by
 refine hc.cell h.top ?_ hcell
 rintro (rfl | hi)
 ·have:=h.buf.b.cell_inv hcell
  unfold WrP.rest at this
  match k,this with
  | 0,this =>
   have hv:=Option.some.inj this
   have ho:=h.buf.own
   rw [hv] at ho
   cases ho
  | 1,this=>cases this
  | 2,this=>cases this
  | 3,this=>cases this
 ·have:=(zBx h.buf.own hi).cell_inv hcell
  unfold zAc at this
  rw [List.getElem?_map] at this
  cases hx:bs[k]? with
  | none=>rw [hx] at this; cases this
  | some x=>rw [hx] at this; cases this
def zHT (p:WrP) (bs:List Int):Ending→CW→Prop:=fun e W'=>(∃ v,e=.returned v)∧∃ vb',WrEnv p W' vb' bs
theorem WrEnv.num {p:WrP} {W:CW} {vb:Value} {bs:List Int} (h:WrEnv p W vb bs) {n:Nat} (hn:n<100000000000000) (hl:bs.length<700000):WCall prog pkL 55 [.pointer (some ⟨p.wb,0,none⟩),.int .i64 n] W fun e W'=>(∃ v,e=.returned v)∧Chg (WrS p.wb vb) W W'∧∃ vb',WrEnv p W' vb' (bs++zBk n)∧∀ j,zA2 vb' j→zA2 vb j∨W.sz≤j :=
 (zJl h.top h.buf hn (by omega)).mono fun en W1 ⟨hv,c,t,vb',hb,hn⟩=>⟨hv,c,vb',h.emit c t hb hn,hn⟩
theorem listS_ok {p:WrP} {W:CW} {vb:Value} {bs:List Int} (h:WrEnv p W vb bs) (hsz:∀ s,s ∈ p.ts→0<s.size∧s.size<1000) (htl:p.ts.length≤100) (hbl:bs.length≤100) :
  WCall prog pkL 56 [.pointer (some ⟨p.wb,0,none⟩),p.vt,.func (.func 57) #[.pointer (some ⟨p.wb,0,none⟩)] #[]] W (zHT p (bs++zBk p.ts.length++p.ts.flatMap zD8)):=by
 refine f56_w ?_
 rw [f56_c]
 have hstl:(strs p.ts).length=p.ts.length*1:=by rw [zFh]; omega
 rw [zEQ u51 h.tys (by omega) hstl]
 simp only [zAA]
 refine (h.num (n:=p.ts.length) (by omega) (by omega)).mono fun en W1 ⟨⟨v,he⟩,_,vb1,h1,_⟩=>?_
 subst he
 simp only [zAK]
 rw [zEQ u51 h1.tys (by omega) hstl]
 simp only [zAA]
 have h8:=zBc (n:=p.ts.length) (by omega)
 refine zCk (fun i e ds W'=>ds=[]∧∃ vb',WrEnv p W' vb' (bs++zBk p.ts.length++(p.ts.take i).flatMap zD8)∧e 2=.func (.func 57) #[.pointer (some ⟨p.wb,0,none⟩)] #[]∧e 12=p.vt∧e 13=.int .i64 p.ts.length∧e 14=.int .i64 i) p.ts.length ⟨rfl,vb1,by simpa using h1,rfl,rfl,rfl,rfl⟩ ?_
 rintro i e ds W' hi ⟨rfl,vb',h',g2,g12,g13,g14⟩
 rw [f56_l0,g2,g12,g13,g14]
 simp only [zAa,zAA]
 refine zHF (fun hlt=>?_) (fun hge=>?_)
 ·have hx:=List.getElem?_eq_getElem hlt
  obtain ⟨a,cap,hvt,hc⟩:=zEP (f:=fun s=>Value.string s) h'.tys
  obtain ⟨q,rfl,hq⟩:=hc i _ hx
  rw [hvt,zAi u51 s9 hlt]
  simp only [zAA]
  rw [zAC a9 (a:=⟨q.block,q.off+i*1,none⟩) hq]
  simp only [zAA]
  obtain ⟨hs0,hs1⟩:=hsz _ (List.getElem_mem hlt)
  have hl1:=zHh (p.ts.take i) fun s hs=>(hsz s (List.mem_of_mem_take hs)).2
  have hl3:(p.ts.take i).length*1008≤100*1008:=Nat.mul_le_mul_right _ (by rw [List.length_take]; omega)
  refine zDS Tryz.func57 (by kernel_rfl) ((pname_ok h'.top h'.buf hs0 hs1 (by rw [List.length_append,List.length_append]; omega)).mono fun en W2 ⟨⟨v,he⟩,c2,t2,vb2,hb2,hn2⟩=>?_)
  subst he
  simp only [zAK,f56_k2,qKn,qKr,qKx,qKp,bKn,bKr,bKp,bKx,tKn,tKr,tKx,tKp,zKn,zKr,zKx,zKp]
  simp only [eKc,eKn,eKa,Nat.reduceEqDiff,↓reduceIte,gKz,gKs,dKs,and_self,g14,zAX,zAA,qKn,qKr,qKx,qKp,bKn,bKr,bKp,bKx,tKn,tKr,tKx,tKp,zKn,zKr,zKx,zKp]
  refine ⟨hlt,trivial,vb2,?_,g2,g12.trans (by rw [hvt]) ,g13,by rw [zCi (by omega)]⟩
  have:=h'.emit c2 t2 hb2 hn2
  rw [List.take_add_one,hx,List.flatMap_append,←List.append_assoc]
  simpa using this
 ·have htk:p.ts.take i=p.ts:=List.take_of_length_le (by omega)
  rw [htk] at h'
  simp only [qKn,qKr,qKx,qKp,bKn,bKr,bKp,bKx,tKn,tKr,tKx,tKp,zKn,zKr,zKx,zKp,if_true]
  exact zEW (by kernel_rfl) _ _ (.inl rfl) _ _ ⟨⟨_,rfl⟩,vb',h'⟩
theorem f58_results:Tryz.f58.results.toList=[.cell 0 108]:=by kernel_rfl
theorem s108:siz prog 108=some 3:=by kernel_rfl
theorem a108:agg? prog 108=some true:=by kernel_rfl
theorem z108:zer prog 108=some (.agg #[.nilFunc,.nilFunc,.nilFunc]):=by kernel_rfl
theorem bld108:bld prog 108 [(1,(.func (.func 106) #[] #[])),(2,(.func (.func 107) #[] #[]))]=some (.agg [.nilFunc,.func (.func 106) #[] #[],.func (.func 107) #[] #[]].toArray):=by kernel_rfl
theorem values_ok {W:CW} (ht:Top W):WCall prog pkL 58 [] W (Ret (.agg [.nilFunc,.func (.func 106) #[] #[],.func (.func 107) #[] #[]].toArray) W):=by
 refine f58_w ?_
 rw [f58_c,bld108]
 simp only [zAA]
 refine zB1 z108 s108 rfl rfl rfl ht fun W1 k1 t1 z1 hB=>?_
 refine zEz f58_results rfl (zA3 (vs:=[.nilFunc,.func (.func 106) #[] #[],.func (.func 107) #[] #[]]) (a:=⟨W.sz,0,none⟩) a108 s108 rfl (by omega) hB.cells) ?_
 exact ⟨rfl,k1,t1⟩
end Go.Ce
namespace Go.Ce
open Go Go.Proofs Go.Proofs.Tryz
theorem iad108_1 (b:Nat):iad prog 108 (.pointer (some ⟨b,0,none⟩)) (.int .u8 1)=some (.pointer (some ⟨b,1,none⟩)):=by kernel_rfl
theorem iad108_2 (b:Nat):iad prog 108 (.pointer (some ⟨b,0,none⟩)) (.int .u8 2)=some (.pointer (some ⟨b,2,none⟩)):=by kernel_rfl
theorem a107:agg? prog 107=some false:=by kernel_rfl
theorem a88:agg? prog 88=some false:=by kernel_rfl
theorem a51:agg? prog 51=some false:=by kernel_rfl
theorem zFx {W W0:CW} {n:Nat} {z:Array Value} {e:TypeId} (h:W0.obj W.sz=some (.cells .nil n z e)) (hz:zBE (some (.cells .nil n z e)) (some (.cells .nil n z e))=true):flOk (.pointer (some ⟨W.sz,0,none⟩)) ((W.new (.cells .nil n z e)).obj W.sz) W0=true:=by
 show zBE (W0.obj W.sz) ((W.new (.cells .nil n z e)).obj W.sz)=true
 rw [h,zAk,if_pos rfl]
 exact hz
theorem write2_ok {p:WrP} {W:CW} {vb:Value} {bs:List Int} {n:Int} (h:WrEnv p W vb bs) (hC:Cat p.c) (hok:zA8 p.c=true) (hs:zAu p.c p.l=true) (hth:∀ x,x ∈ p.h→zAn p.c x p.h.length=true) (hml:∀ s,s ∈ p.l→s.map.length<100000) (hhl:p.h.length<100000) (hol:p.o.length<100000) (htl:p.ts.length<100000) {i:Nat} (hn:n=((i+1:Nat):Int)) (hil:i<p.h.length)
  (hty:p.ts.any (fun u=>decide (u=(zAG p.l p.h[i]).type))=true) (hbl:bs.length≤500000) (hdv:p.dvs=[.nilFunc,.func (.func 106) #[] #[],.func (.func 107) #[] #[]]) :
  WCall prog pkL 60 [.int .i64 n,.pointer (some ⟨p.br,0,none⟩),.pointer (some ⟨p.bh,0,none⟩),.pointer (some ⟨p.bwv,0,none⟩),.pointer (some ⟨p.b16,0,none⟩),.pointer (some ⟨p.bk,0,none⟩),.pointer (some ⟨p.bd,0,none⟩)] W (zHT p (bs++zDJ p.c p.ts p.o (zAG p.l p.h[i]))):=by
 subst hn
 refine f60_w ?_
 rw [f60_c]
 have kn:Kp W (W.new (.cells .nil 2 #[.string ⟨#[]⟩,.slice none 0 0] 56)):=.new _
 have tn:=h.top.new (.cells .nil 2 #[.string ⟨#[]⟩,.slice none 0 0] 56)
 have hon:(W.new (.cells .nil 2 #[.string ⟨#[]⟩,.slice none 0 0] 56)).obj W.sz=some (.cells .nil 2 #[.string ⟨#[]⟩,.slice none 0 0] 56):=by rw [zAk,if_pos rfl]
 have hBn:Blk (W.new (.cells .nil 2 #[.string ⟨#[]⟩,.slice none 0 0] 56)) W.sz 56 [.string ⟨#[]⟩,.slice none 0 0]:=⟨.nil,2,_,hon,rfl,fun k v hk=>by
  match k,hk with
  | 0,hk=>cases hk; rfl
  | 1,hk=>cases hk; rfl⟩
 have hszn:(W.new (.cells .nil 2 #[.string ⟨#[]⟩,.slice none 0 0] 56)).sz=W.sz+1:=rfl
 have hfl:∀ W0:CW,W0.obj W.sz=some (.cells .nil 2 #[.string ⟨#[]⟩,.slice none 0 0] 56)→flOk (.pointer (some ⟨W.sz,0,none⟩)) ((W.new (.cells .nil 2 #[.string ⟨#[]⟩,.slice none 0 0] 56)).obj W.sz) W0=true:=fun W0 h0=>zFx h0 rfl
 have hn':=h.kp' kn tn
 generalize hWn:W.new (.cells .nil 2 #[.string ⟨#[]⟩,.slice none 0 0] 56)=Wn at kn tn hon hBn hszn hfl hn' ⊢
 have D:=hn'.d.kp h.tA hn'.kp
 obtain ⟨vh,hbh,hh⟩:=D.hs
 have hx:=List.getElem?_eq_getElem hil
 obtain ⟨ah,ch,rfl,hhc⟩:=id hh
 obtain ⟨q,rfl,hq⟩:=hhc i _ hx
 have l83:ld prog 83 (.pointer (some ⟨p.br,0,none⟩)) Wn=some (.agg [.map (some p.w),.map (some p.r)].toArray):=zA3 (vs:=[.map (some p.w),.map (some p.r)]) (a:=⟨p.br,0,none⟩) a83 s83 rfl (by omega) D.rl
 have l24:ld prog 24 (.pointer (some ⟨p.bh,0,none⟩)) Wn=some (.slice (some q) p.h.length ch):=zAC a24 (a:=⟨p.bh,0,none⟩) hbh
 obtain ⟨vx,hu,hvx,hvxl⟩:=thg_ld tn (.refl _) hq
 rw [l83,l24]
 simp only [zAA,zCa]
 rw [show ((i+1:Nat):Int)-1=(i:Nat) by omega,zBV (by omega) (by omega),zAi u24 s56 hil]
 simp only [zAA,hu]
 have htyi:=hth _ (List.getElem_mem hil)
 refine (as_ok (r:=p.r) tn D.sp hvx (zFJ hs htyi) hml).mono fun en W0 ⟨k0,t0,vv,hen,hvv,hor⟩=>?_
 subst hen
 simp only [zAK]
 have hyt:=zA9 hs htyi
 obtain ⟨iy,sy,Y⟩:=zCH hyt
 generalize hy:zAG p.l p.h[i]=y at hvv hyt Y hty ⊢
 obtain ⟨av,cv,rfl,_⟩:=id hvv
 have hWnl:W.sz<Wn.sz:=by omega
 have hB0:=hBn.ext tn k0
 refine ⟨trivial,?_⟩
 refine zB2 s56 (a:=⟨W.sz,0,none⟩) (ws:=[.string y.type,.slice av y.vals.length cv]) rfl rfl hB0 (by simp) fun W2 hu2 hB2=>?_
 have hu2:Upd W.sz W0 W2:=hu2
 have hB2:Blk W2 W.sz 56 [.string y.type,.slice av y.vals.length cv]:=hB2
 refine ⟨by simp only [and_self],⟨⟨trivial,hfl W0 (by rw [k0.obj _ hWnl]; exact hon),hfl Wn hon⟩,trivial⟩,?_⟩
 have hpA:=h.kp.sz
 have hlt:=h.lt
 have hB0l:=hB0.lt t0
 have E2:WrEnv p W2 vb bs:=(hn'.kp' k0 t0).of ((hn'.kp.trans k0).upd hpA hu2) (t0.upd hB0l hu2) fun i hi=>hu2.obj i (by have:=hlt i hi; omega)
 have hv2:IsSl 1 (RInt W2) (.slice av y.vals.length cv) y.vals:=hvv.imp fun b o x hr=>⟨by
  by_cases hb:b=W.sz
  ·subst hb
   have:=hB0.cell_inv hr.1
   match o,this with
   | 0,this=>cases this
   | 1,this=>cases this
  ·rw [hu2.cell hb]; exact hr.1,hr.2⟩
 have hkW:∀ i,p.Has vb i→i<W.sz:=hlt
 clear hvv hB0 hfl hor hBn hon
 have q88:∀ W' vb' bs',WrEnv p W' vb' bs'→ld prog 88 (.pointer (some ⟨p.bwv,0,none⟩)) W'=some (.pointer (some ⟨p.wb,0,none⟩)):=fun W' vb' bs' E=>zAC a88 (a:=⟨p.bwv,0,none⟩) (E.wv.cell rfl)
 have q51:∀ W' vb' bs',WrEnv p W' vb' bs'→ld prog 51 (.pointer (some ⟨p.b16,0,none⟩)) W'=some p.vt:=fun W' vb' bs' E=>zAC a51 (a:=⟨p.b16,0,none⟩) (E.ty.cell rfl)
 have q9:∀ W',Blk W' W.sz 56 [.string y.type,.slice av y.vals.length cv]→ld prog 9 (.pointer (some ⟨W.sz,0,none⟩)) W'=some (.string y.type):=fun W' hB=>zAC a9 (a:=⟨W.sz,0,none⟩) (hB.cell rfl)
 have q40:∀ W',Blk W' W.sz 56 [.string y.type,.slice av y.vals.length cv]→ld prog 40 (.pointer (some ⟨W.sz,0+1,none⟩)) W'=some (.slice av y.vals.length cv):=fun W' hB=>zAC a40 (a:=⟨W.sz,0+1,none⟩) (hB.cell rfl)
 simp only [q88 W2 _ _ E2,q51 W2 _ _ E2,zBS,zDs,zCX,zAA,q9 W2 hB2]
 refine zBw (zI3 (zEP (f:=fun s=>Value.string s) E2.tys) (by omega)) ?_
 obtain ⟨z,hz,hzl⟩:∃ z:Nat,zHu p.ts (fun x=>decide (x=y.type))=(z:Int)∧z<100000:=by
  unfold zHu
  cases hf:p.ts.findIdx? (fun x=>decide (x=y.type)) with
  | none =>
   rw [List.findIdx?_eq_none_iff] at hf
   obtain ⟨u,hu,hu'⟩:=List.any_eq_true.1 hty
   rw [hf u hu] at hu'; cases hu'
  | some i =>
   have:=(List.findIdx?_eq_some_iff_getElem.1 hf).1
   exact ⟨i,rfl,by omega⟩
 rw [hz]
 refine (E2.num (n:=z) (by omega) (by omega)).mono fun en W5 ⟨⟨ve,hen⟩,c5,vb5,E5,n5⟩=>?_
 subst hen
 simp only [zAK]
 have hB5:=c5.blk E2.top (zHp E2 hB2 (by decide) (by decide)) hB2
 have hv5:IsSl 1 (RInt W5) (.slice av y.vals.length cv) y.vals:=hv2.imp fun b o x hr=>⟨emit_int E2 c5 hr.1,hr.2⟩
 have D5:=E5.d.kp E5.tA E5.kp
 refine ⟨by simp only [true_and,and_true]; exact q88 W2 _ _ E2,?_⟩
 have hm2:=many_200 hok Y.si Y.many
 have hzl8:=zBc (n:=z) (by omega)
 have hml8:=zBc (n:=y.vals.length) (by omega)
 obtain ⟨ea,eb,ef,eg,hel⟩:=D5.cat.sh.elem Y.ti
 have hth:zDJ p.c p.ts p.o y=zBk z++(if zAL p.c iy≠0 then zBk y.vals.length else [])++zC4 p.c p.o iy y.vals y.vals.length:=by
  unfold zDJ
  rw [Y.ti]
  simp only [hz,Int.toNat_natCast]
 rw [hth]
 generalize hKK:zAD prog Tryz.f60 (zHT p (bs++(zBk z++(if zAL p.c iy≠0 then zBk y.vals.length else [])++zC4 p.c p.o iy y.vals y.vals.length)))=KK
 have k9:∀ (W6:CW) (vb6:Value) (e:Env),WrEnv p W6 vb6 (bs++zBk z++(if zAL p.c iy≠0 then zBk y.vals.length else []))→Blk W6 W.sz 56 [.string y.type,.slice av y.vals.length cv]→IsSl 1 (RInt W6) (.slice av y.vals.length cv) y.vals→e 3=.pointer (some ⟨p.bwv,0,none⟩)→e 5=.pointer (some ⟨p.bk,0,none⟩)→e 6=.pointer (some ⟨p.bd,0,none⟩)→e 8=.pointer (some ⟨W.sz,0,none⟩)→(f60_k9 none KK) .normal e [] W6:=by
  intro W6 vb6 e E6 hB6 hv6 g3 g5 g6 g8
  have D6:=E6.d.kp E6.tA E6.kp
  simp only [f60_k9,qKn,qKr,qKx,qKp,bKn,bKr,bKp,bKx,tKn,tKr,tKx,tKp,zKn,zKr,zKx,zKp,g5,g8]
  rw [zA3 (vs:=[.map (some p.r1),.map (some p.r2)]) (a:=⟨p.bk,0,none⟩) a78 s78 rfl (by omega) D6.k,zA3 (vs:=[.string y.type,.slice av y.vals.length cv]) (a:=⟨W.sz,0,none⟩) a56 s56 rfl (by omega) hB6.cells]
  simp only [zAA]
  refine (zHO (r1:=p.r1) (r2:=p.r2) (ty:=y.type) E6.top).mono fun en W8 ⟨k8,t8,bk',bx,hen,hbk,hbx,hBk,hBx⟩=>?_
  subst hen
  simp only [zAK]
  have hbkl:=hBk.lt t8
  have hbxl:=hBx.lt t8
  have h68:=k8.sz
  have hB6l:=hB6.lt E6.top
  have hlt6:=E6.lt
  refine w_kinds (bk:=bk') (bx:=bx) (r1:=p.r1) (r2:=p.r2) (n:=y.vals.length) (ix:=iy) (c:=p.c) (ty:=y.type) (a1:=9) (a2:=10) t8 rfl Y.ti (by omega) (fun he=>by
     have:=zEy Y.si he Y.many; omega) (fun ro e0 ds K W=>by rw [f60_a0]) (by decide)
    (fun j W'=>∃ vb',WrEnv p W' vb' (bs++zBk z++(if zAL p.c iy≠0 then zBk y.vals.length else [])++zC4 p.c p.o iy y.vals j)∧Blk W' W.sz 56 [.string y.type,.slice av y.vals.length cv]∧Blk W' bk' 78 [.map (some p.r1),.map (some p.r2)]∧Blk W' bx 56 [.string y.type,.slice av y.vals.length cv]∧IsSl 1 (RInt W') (.slice av y.vals.length cv) y.vals∧W'.obj W8.sz=some .deferred∧W8.sz+1<W'.sz∧∀ i,p.Has vb' i→i≠W8.sz∧i≠W8.sz+1)
    (fun _ _=>False)
    (fun j W' ⟨vb',E,b1,b2,b3,v,d,z,n⟩=>⟨b2.cell rfl,b2.cell rfl,(E.d.kp E.tA E.kp).cat,b3.cell rfl,_,_,b3.cell rfl⟩) (fun j W1 W2 ⟨vb',E,b1,b2,b3,v,d,z,n⟩ hu hc=>?_) (fun _ _ _ hf=>hf.elim) (fun W2 k2 t2 z2 hd=>?_) (fun j W1 Kb E hE hE1 hE2 hj ⟨vb',E',b1,b2,b3,v,d,zl,n⟩ hlo hn hr hx=>?_) (fun W' ⟨vb',E,b1,b2,b3,v,d,zl,n⟩=>?_) (fun _ _ hf=>hf.elim)
  ·have h1:=E.kp.sz
   have hpw:p.A.sz≤W8.sz+1:=by have:=E6.kp.sz; omega
   exact ⟨vb',E.of (E.kp.upd hpw hu) (E.top.upd z hu) (fun i hi=>hu.obj i (n i hi).2),b1.congr (hu.obj _ (by omega)),b2.congr (hu.obj _ (by omega)),b3.congr (hu.obj _ (by omega)),v.imp fun b o x hr=>⟨hc _ _ _ hr.1,hr.2⟩,by rw [hu.obj _ (by omega)]; exact d,by rw [hu.sz]; exact z,n⟩
  ·have k62:=k8.trans k2
   refine ⟨vb6,?_,hB6.ext E6.top k62,hBk.ext t8 k2,hBx.ext t8 k2,hv6.imp fun b o x hr=>hr.kp E6.top k62,hd,by omega,fun i hi=>?_⟩
   ·have:=E6.kp' k62 t2
    simpa [zC4] using this
   ·have:=hlt6 i hi; omega
  ·have hxj:=List.getElem?_eq_getElem hj
   obtain ⟨_,_,e3,hvc⟩:=id v
   cases e3
   obtain ⟨q,rfl,hq⟩:=hvc j _ hxj
   have gg3:=(hE 3 (by decide) (by decide) (by decide) (by decide)).trans g3
   have gg6:=(hE 6 (by decide) (by decide) (by decide) (by decide)).trans g6
   have gg8:=(hE 8 (by decide) (by decide) (by decide) (by decide)).trans g8
   have l3:ld prog 3 (.pointer (some ⟨q.block,q.off+j*1,none⟩)) W1=some (.int .i64 y.vals[j]):=zAC a3 (a:=⟨q.block,q.off+j*1,none⟩) hq.1
   have hvl:=zGL (c:=p.c) (o:=p.o) (i:=iy) (vs:=y.vals) hol (fun k n hx hk=>by
    rcases zEr hok Y hx with h | h
    ·exact (hk h.1).elim
    ·exact h.2) j
   have hmm:(if zAL p.c iy≠0 then zBk y.vals.length else []).length≤8:=by split <;> simp [hml8]
   have hbig:(bs++zBk z++(if zAL p.c iy≠0 then zBk y.vals.length else [])++zC4 p.c p.o iy y.vals j).length<700000:=by
    rw [List.length_append,List.length_append,List.length_append]; omega
   have hdone:∀ (e':Env) (ds':List Deferred) (W3:CW) (vb3:Value),Chg (WrS p.wb vb') W1 W3→Top W3→BufAt W3 p.wb p.rest vb3 (bs++zBk z++(if zAL p.c iy≠0 then zBk y.vals.length else [])++zC4 p.c p.o iy y.vals j++valP p.o (zA5 p.c iy j) y.vals[j])→(∀ i,zA2 vb3 i→zA2 vb' i∨W1.sz≤i)→Kb .normal e' ds' W3:=by
    intro e' ds' W3 vb3 c3 t3 hb3 hn3
    have hno:∀ i,WrS p.wb vb' i→i≠W8.sz∧i≠W8.sz+1:=by
     rintro i (rfl | hi)
     ·exact n _ (.inr (.inr (.inr (.inr (.inr (.inr (.inr (.inl rfl))))))))
     ·exact n _ (.inr (.inr (.inr (.inr (.inr (.inr (.inr (.inr hi))))))))
    refine hn e' ds' W3 (c3.obj _ (by omega) fun hs=>(hno _ hs).2 rfl) ⟨vb3,?_,c3.blk E'.top (zHp E' b1 (by decide) (by decide)) b1,c3.blk E'.top (zHp E' b2 (by decide) (by decide)) b2,c3.blk E'.top (zHp E' b3 (by decide) (by decide)) b3,v.imp fun b o x hr=>⟨emit_int E' c3 hr.1,hr.2⟩,by rw [c3.obj _ (by omega) fun hs=>(hno _ hs).1 rfl]; exact d,by have:=c3.sz; omega,fun i hi=>?_⟩
    ·have:=E'.emit c3 t3 hb3 hn3
     unfold zC4
     rw [hxj]
     simpa using this
    ·rcases hi with hi | hi | hi | hi | hi | hi | hi | hi | hi
     ·exact n _ (.inl hi)
     ·exact n _ (.inr (.inl hi))
     ·exact n _ (.inr (.inr (.inl hi)))
     ·exact n _ (.inr (.inr (.inr (.inl hi))))
     ·exact n _ (.inr (.inr (.inr (.inr (.inl hi)))))
     ·exact n _ (.inr (.inr (.inr (.inr (.inr (.inl hi))))))
     ·exact n _ (.inr (.inr (.inr (.inr (.inr (.inr (.inl hi)))))))
     ·exact n _ (.inr (.inr (.inr (.inr (.inr (.inr (.inr (.inl hi))))))))
     ·rcases hn3 i hi with hi | hi
      ·exact n _ (.inr (.inr (.inr (.inr (.inr (.inr (.inr (.inr hi))))))))
      ·omega
   rw [f60_b0,gg3,gg6,gg8,hE1,hE2]
   rcases zEr hok Y hxj with hk | hk
   ·have l107:ld prog 107 (.pointer (some ⟨p.bd,2,none⟩)) W1=some (.func (.func 107) #[] #[]):=zAC a107 (a:=⟨p.bd,2,none⟩) (E'.dv.cell (by rw [hdv]; rfl))
    rw [hk.1] at hdone ⊢
    simp only [iad108_2,l107,q88 W1 _ _ E',zCM,zAA,q40 W1 b1,zAi u40 s3 hj,l3]
    refine zDS Tryz.func107 (by kernel_rfl) ((pref_ok E'.top E'.buf E'.wk hol hbig).mono fun en W3 ⟨⟨v3,he3⟩,c3,t3,vb3,hb3,hn3⟩=>?_)
    subst he3
    refine ⟨by simp only [and_self],?_⟩
    try refine ⟨trivial,?_⟩
    exact hdone _ _ W3 vb3 c3 t3 (by simpa [valP,WrP.rest] using hb3) hn3
   ·have l107:ld prog 107 (.pointer (some ⟨p.bd,1,none⟩)) W1=some (.func (.func 106) #[] #[]):=zAC a107 (a:=⟨p.bd,1,none⟩) (E'.dv.cell (by rw [hdv]; rfl))
    rw [hk.1] at hdone ⊢
    simp only [iad108_1,l107,q88 W1 _ _ E',zCM,zAA,q40 W1 b1,zAi u40 s3 hj,l3]
    refine zDS Tryz.func106 (by kernel_rfl) ((pword_ok E'.top E'.buf (by omega) (by omega) hbig).mono fun en W3 ⟨⟨v3,he3⟩,c3,t3,vb3,hb3,hn3⟩=>?_)
    subst he3
    refine ⟨by simp only [and_self],?_⟩
    try refine ⟨trivial,?_⟩
    exact hdone _ _ W3 vb3 c3 t3 (by simpa [valP,WrP.rest] using hb3) hn3
  ·simp only [qKn,qKr,qKx,qKp,bKn,bKr,bKp,bKx,tKn,tKr,tKx,tKp,zKn,zKr,zKx,zKp]
   rw [←hKK]
   refine zDg d ?_
   have hu2:Upd W8.sz W' (W'.upd W8.sz .dead):=Upd.of _ _ _
   have hpw:p.A.sz≤W8.sz:=by have:=E6.kp.sz; omega
   refine zEW (by kernel_rfl) _ _ (.inl rfl) _ _ ⟨⟨_,rfl⟩,vb',?_⟩
   have:=E.of (E.kp.upd hpw hu2) (E.top.upd (by omega) hu2) (fun i hi=>hu2.obj i (n i hi).1)
   simpa using this
 have l75:ld prog 75 (.pointer (some ⟨p.bk,0,none⟩)) W5=some (.map (some p.r1)):=zAC a75 (a:=⟨p.bk,0,none⟩) (D5.k 0 _ rfl)
 simp only [zDY,zCX,zAA,l75,q9 W5 hB5,hel,zGc,zB6]
 refine ⟨trivial,?_⟩
 refine zAE (fun he=>?_) (fun he=>?_)
 ·have he:zAL p.c iy≠0:=by simpa using he
  simp only [q88 W5 _ _ E5,zBS,zDs,zCM,zAA,q40 W5 hB5,zAQ u40]
  refine (E5.num (n:=y.vals.length) (by omega) (by rw [List.length_append]; omega)).mono fun en W6 ⟨⟨ve,hen⟩,c6,vb6,E6,n6⟩=>?_
  subst hen
  simp only [zAK]
  refine ⟨by simp only [and_self],?_⟩
  try refine ⟨trivial,?_⟩
  refine k9 W6 vb6 _ (by rw [if_pos he]; exact E6) (c6.blk E5.top (zHp E5 hB5 (by decide) (by decide)) hB5) (hv5.imp fun b o x hr=>⟨emit_int E5 c6 hr.1,hr.2⟩) rfl rfl rfl rfl
 ·have he:¬zAL p.c iy≠0:=by simpa using he
  refine k9 W5 vb5 _ (by rw [if_neg he,List.append_nil]; exact E5) hB5 hv5 rfl rfl rfl rfl
end Go.Ce
namespace Go.Ce
open Go Go.Proofs Go.Proofs.Tryz
theorem listI_ok {p:WrP} {W:CW} {vb:Value} {bs:List Int} (h:WrEnv p W vb bs) (hC:Cat p.c) (hok:zA8 p.c=true) (hs:zAu p.c p.l=true) (H:Hp p.c p.h p.o) (hml:∀ s,s ∈ p.l→s.map.length<100000) (hsm:p.h.length≤1000) (hsum:((zAI p.h p.o).flatMap fun x=>zDJ p.c p.ts p.o (zAG p.l x)).length≤161600) (htl:p.ts.length<100000)
  (hty:∀ x,x ∈ zAI p.h p.o→p.ts.any (fun u=>decide (u=(zAG p.l x).type))=true) (hbl:bs.length≤200000) (hdv:p.dvs=[.nilFunc,.func (.func 106) #[] #[],.func (.func 107) #[] #[]]) :
  WCall prog pkL 59 [.pointer (some ⟨p.wb,0,none⟩),p.vo,.func (.func 60) #[] #[.pointer (some ⟨p.br,0,none⟩),.pointer (some ⟨p.bh,0,none⟩),.pointer (some ⟨p.bwv,0,none⟩),.pointer (some ⟨p.b16,0,none⟩),.pointer (some ⟨p.bk,0,none⟩),.pointer (some ⟨p.bd,0,none⟩)]] W
   (zHT p (bs++zBk p.o.length++(zAI p.h p.o).flatMap fun x=>zDJ p.c p.ts p.o (zAG p.l x))):=by
 refine f59_w ?_
 rw [f59_c]
 have hol:=H.found.len
 have hil:(zCo p.o).length=p.o.length*1:=by unfold zCo; rw [List.length_map]; omega
 rw [zEQ u40 h.wk.own (by omega) hil]
 simp only [zAA]
 refine (h.num (n:=p.o.length) (by omega) (by omega)).mono fun en W1 ⟨⟨v,he⟩,_,vb1,h1,_⟩=>?_
 subst he
 simp only [zAK]
 rw [zEQ u40 h1.wk.own (by omega) hil]
 simp only [zAA]
 have h8:=zBc (n:=p.o.length) (by omega)
 refine zCk (fun i e ds W'=>ds=[]∧∃ vb',WrEnv p W' vb' (bs++zBk p.o.length++(zAI p.h (p.o.take i)).flatMap fun x=>zDJ p.c p.ts p.o (zAG p.l x))∧e 2=.func (.func 60) #[] #[.pointer (some ⟨p.br,0,none⟩),.pointer (some ⟨p.bh,0,none⟩),.pointer (some ⟨p.bwv,0,none⟩),.pointer (some ⟨p.b16,0,none⟩),.pointer (some ⟨p.bk,0,none⟩),.pointer (some ⟨p.bd,0,none⟩)]∧e 12=p.vo∧e 13=.int .i64 p.o.length∧e 14=.int .i64 i) p.o.length ⟨rfl,vb1,by simpa [zAI] using h1,rfl,rfl,rfl,rfl⟩ ?_
 rintro i e ds W' hi ⟨rfl,vb',h',g2,g12,g13,g14⟩
 rw [f59_l0,g2,g12,g13,g14]
 simp only [zAa,zAA]
 refine zHF (fun hlt=>?_) (fun hge=>?_)
 ·have hx:=List.getElem?_eq_getElem hlt
  obtain ⟨w,hw,hwl,_⟩:=H.at hlt
  have htk:=zDl H hlt hw hwl
  obtain ⟨a,cap,hvt,hc⟩:=zEP (f:=fun n=>Value.int .i64 n) h'.wk.own
  obtain ⟨q,rfl,hq⟩:=hc i _ hx
  rw [hvt,zAi u40 s3 hlt]
  simp only [zAA]
  rw [zAC a3 (a:=⟨q.block,q.off+i*1,none⟩) hq]
  simp only [zAA]
  have hin:p.h[w] ∈ zAI p.h p.o:=by
   have:p.h[w] ∈ zAI p.h (p.o.take (i+1)):=by rw [htk]; simp
   unfold zAI at this ⊢
   obtain ⟨v,hv,hx⟩:=List.mem_flatMap.1 this
   exact List.mem_flatMap.2 ⟨v,List.mem_of_mem_take hv,hx⟩
  have hbl1:((zAI p.h (p.o.take i)).flatMap fun x=>zDJ p.c p.ts p.o (zAG p.l x)).length≤161600:=by
   have e:zAI p.h p.o=zAI p.h (p.o.take i)++zAI p.h (p.o.drop i):=by
    unfold zAI
    rw [←List.flatMap_append,List.take_append_drop]
   rw [e,List.flatMap_append,List.length_append] at hsum
   omega
  refine zDS Tryz.func60 (by kernel_rfl) ((write2_ok h' hC hok hs H.ok hml (by omega) (by omega) htl hw hwl (hty _ hin) (by rw [List.length_append,List.length_append]; omega) hdv).mono fun en W2 ⟨⟨v,he⟩,vb2,h2⟩=>?_)
  subst he
  simp only [zAK,f59_k2,qKn,qKr,qKx,qKp,bKn,bKr,bKp,bKx,tKn,tKr,tKx,tKp,zKn,zKr,zKx,zKp]
  simp only [eKc,eKn,eKa,Nat.reduceEqDiff,↓reduceIte,gKz,gKs,dKs,and_self,g14,zAX,zAA,qKn,qKr,qKx,qKp,bKn,bKr,bKp,bKx,tKn,tKr,tKx,tKp,zKn,zKr,zKx,zKp]
  refine ⟨hlt,trivial,vb2,?_,g2,g12.trans (by rw [hvt]) ,g13,by rw [zCi (by omega)]⟩
  rw [htk,List.flatMap_append,←List.append_assoc]
  simpa using h2
 ·have htk:p.o.take i=p.o:=List.take_of_length_le (by omega)
  rw [htk] at h'
  simp only [qKn,qKr,qKx,qKp,bKn,bKr,bKp,bKx,tKn,tKr,tKx,tKp,zKn,zKr,zKx,zKp,if_true]
  exact zEW (by kernel_rfl) _ _ (.inl rfl) _ _ ⟨⟨_,rfl⟩,vb',h'⟩
end Go.Ce
namespace Go.Ce
open Go Go.Proofs Go.Proofs.Tryz
theorem lkp_congr {t:TypeId} {r:Nat} {k:Value} {ok:Bool} {W W':CW} (h:W'.obj r=W.obj r):lkp prog t (.map (some r)) k ok W'=lkp prog t (.map (some r)) k ok W:=by
 unfold lkp
 cases prog.underlying t with
 | none=>rfl
 | some d=>cases d <;> simp only [h]
theorem find_any {l:List Spc} {s:ByteArray}:(l.find? fun x=>decide (Spc.to x=s)).isSome=l.any fun x=>decide (x.to=s):=by
 rw [Bool.eq_iff_iff,List.find?_isSome,List.any_eq_true]
structure TyAt (A:CW) (bk br bh r1 r2 w r:Nat) (c:List Shp) (l:List Spc) (h:List Thg) (o:List Int):Prop where
 top:Top A
 d:Wr1At A bk br bh r1 r2 w r c l h
 to:SpM Spc.to A r l
 sok:zAu c l=true
 sm:∀ s,s ∈ l→s.map.length<100000
 H:Hp c h o
theorem f17_types {A W0:CW} {K:zAH} {e:Env} {bk br bh r1 r2 w r b16:Nat} {vo:Value} {c:List Shp} {l:List Spc} {h:List Thg} {o:List Int} (I:TyAt A bk br bh r1 r2 w r c l h o) (kA:Kp A W0) (t0:Top W0) (hB0:Blk W0 b16 51 [.slice none 0 0]) (h16:A.sz≤b16) (hvo:Own W0 3 1 vo (zCo o))
  (g6:e 6=.pointer (some ⟨bh,0,none⟩)) (g12:e 12=.pointer (some ⟨br,0,none⟩)) (g16:e 16=.pointer (some ⟨b16,0,none⟩)) (g60:e 60=vo) (g61:e 61=.int .i64 o.length) (g62:e 62=.int .i64 0)
  (hyes:asBad l h o=true→∀ e' W',Kp A W'→Top W'→e' 8=.slice none 0 0→e' 9=.int .i64 214→K .ret e' [] W')
  (hno:asBad l h o=false→∀ e' W' vt,Chg (·=b16) W0 W'→Top W'→Agree [6,10,12,15,16] e e'→Blk W' b16 51 [vt]→Own W' 9 1 vt (strs (zCG l (zAI h o)))→Newer W0.sz vt→K (.exit 0) e' [] W') :
  zC0 prog pkL none 17 127 (.loop (zAU prog 17 0)) e [] W0 K:=by
 have hol:=I.H.found.len
 have hhs:=I.H.small
 have hsA:=kA.sz
 have hb16:=hB0.lt t0
 refine zCk (fun i e' ds' W'=>ds'=[]∧∃ vt,Chg (·=b16) W0 W'∧Top W'∧Agree [6,10,12,15,16,60,61] e e'∧e' 62=.int .i64 i∧Blk W' b16 51 [vt]∧Own W' 9 1 vt (strs (zEE l h o i))∧Newer W0.sz vt∧((zAI h (o.take i)).any fun x=>l.any fun s=>decide (s.to=x.type))=false) o.length
  ⟨rfl,_,.refl _ _,t0,.refl _ _,g62,hB0,Own.nil,Newer.nil _ _ _,rfl⟩ ?_
 rintro i e' ds' W' hi ⟨rfl,vt,hch,t',hAg,q62,hB,htv,hnw,hpre⟩
 have q6:=(hAg 6 (by decide)).trans g6
 have q12:=(hAg 12 (by decide)).trans g12
 have q16:=(hAg 16 (by decide)).trans g16
 have q60:=(hAg 60 (by decide)).trans g60
 have q61:=(hAg 61 (by decide)).trans g61
 have k':Kp A W':=Chg.kp kA hch fun j hj=>by omega
 have D:=I.d.kp I.top k'
 have hvo':=hch.own t0 hvo fun j hj he=>by subst he; have:=zAs hB0 (zBx hvo hj); cases this
 obtain ⟨ao,co,rfl,hoc⟩:=zEP (f:=fun n=>Value.int .i64 n) hvo'
 have hb':=hB.lt t'
 rw [f17_l0,q6,q12,q16,q60,q61,q62]
 simp only [zAa,zAA]
 refine zHF (fun hlt=>?_) (fun hge=>?_)
 ·have hx:=List.getElem?_eq_getElem hlt
  obtain ⟨w',hw,hwl,_⟩:=I.H.at hlt
  have htk:=zDl I.H hlt hw hwl
  obtain ⟨q,rfl,hq⟩:=hoc i _ hx
  obtain ⟨vh,hbh,hh⟩:=D.hs
  have hxh:=List.getElem?_eq_getElem hwl
  obtain ⟨ah,ch,rfl,hhc⟩:=id hh
  obtain ⟨p,rfl,hp⟩:=hhc w' _ hxh
  have l3:∀ W1,Kp W' W1→ld prog 3 (.pointer (some ⟨q.block,q.off+i*1,none⟩)) W1=some (.int .i64 ((w'+1:Nat):Int)):=fun W1 k1=>zAC a3 (a:=⟨q.block,q.off+i*1,none⟩) (k1.cell t' (by rw [←hw]; exact hq))
  have l81:∀ W1,Kp W' W1→ld prog 81 (.pointer (some ⟨br,0+1,none⟩)) W1=some (.map (some r)):=fun W1 k1=>zAC a81 (a:=⟨br,0+1,none⟩) (k1.cell t' (D.rl 1 _ rfl))
  have l24:∀ W1,Kp W' W1→ld prog 24 (.pointer (some ⟨bh,0,none⟩)) W1=some (.slice (some p) h.length ch):=fun W1 k1=>zAC a24 (a:=⟨bh,0,none⟩) (k1.cell t' hbh)
  have l9:∀ W1,Kp W' W1→ld prog 9 (.pointer (some ⟨p.block,p.off+w'*2,none⟩)) W1=some (.string h[w'].type):=fun W1 k1=>zAC a9 (a:=⟨p.block,p.off+w'*2,none⟩) (k1.cell t' hp.type)
  have sub1:zAO prog .sub 3 true (.int .i64 ((w'+1:Nat):Int)) (.int .i64 1)=some (.int .i64 (w':Nat)):=by
   rw [zCa,show ((w'+1:Nat):Int)-1=(w':Nat) by omega,zBV (by omega) (by omega)]
  have hto:SpM Spc.to W' r l:=I.to.kp I.top k'
  obtain ⟨ws,L,hws,hone⟩:=spLook hto h[w'].type
  obtain ⟨mto,hmto,_⟩:=id hto
  have hrl:=hmto.lt t'
  rw [zAi u40 s3 hlt]
  simp only [zAA]
  rw [l3 W' (.refl _)]
  simp only [fad83_1,zAA]
  rw [l81 W' (.refl _),l24 W' (.refl _)]
  simp only [zAA]
  rw [sub1]
  simp only [zAA]
  rw [zAi u24 s56 hwl]
  simp only [zCX,zAA]
  rw [l9 W' (.refl _)]
  simp only [zAA]
  refine zAl L ?_
  refine zAl (zBN _ _) ?_
  refine zAl (zBM _ _) ?_
  refine zFL z58 s58 t' fun W1 k1 t1 z1 hB1=>?_
  refine zB2 s58 (a:=⟨W'.sz,0,none⟩) hone hws hB1 (Nat.le_refl 3) fun W2 hu hB2=>?_
  have hu:Upd W'.sz W1 W2:=hu
  have k2:Kp W' W2:=k1.upd (Nat.le_refl _) hu
  have t2:Top W2:=t1.upd (by rw [z1]; exact Nat.lt_succ_self _) hu
  have hL1:lkp prog 81 (.map (some r)) (.string h[w'].type) true W1=some (.tuple #[.agg ws.toArray,.bool (l.find? fun x=>decide (Spc.to x=h[w'].type)).isSome]):=by rw [←L]; exact lkp_congr (k1.obj _ hrl)
  refine ⟨by simp only [hL1,L,l9 W1 k1,l9 W' (.refl _),l24 W1 k1,l24 W' (.refl _),l81 W1 k1,l81 W' (.refl _),and_self],trivial,?_⟩
  have kA2:=k'.trans k2
  have hin:h[w'] ∈ zAI h o:=by
   have:h[w'] ∈ zAI h (o.take (i+1)):=by rw [htk]; simp
   unfold zAI at this ⊢
   obtain ⟨v,hv,hx⟩:=List.mem_flatMap.1 this
   exact List.mem_flatMap.2 ⟨v,List.mem_of_mem_take hv,hx⟩
  rw [find_any]
  refine zAE (fun hbad=>?_) (fun hbad=>?_)
  ·simp only [zFX,qKn,qKr,qKx,qKp,bKn,bKr,bKp,bKx,tKn,tKr,tKx,tKp,zKn,zKr,zKx,zKp]
   refine hyes ?_ _ W2 kA2 t2 rfl rfl
   unfold asBad
   rw [List.any_eq_true]
   exact ⟨_,hin,hbad⟩
  ·have l83:ld prog 83 (.pointer (some ⟨br,0,none⟩)) W2=some (.agg [.map (some w),.map (some r)].toArray):=zA3 (vs:=[.map (some w),.map (some r)]) (a:=⟨br,0,none⟩) a83 s83 rfl (by omega) (D.rl.ext t' k2)
   obtain ⟨vx,hux,hvx,hvxl⟩:=thg_ld t' k2 hp
   simp only [l83,l24 W2 k2,sub1,zAi u24 s56 hwl,hux,zAA]
   have hmem:=List.getElem_mem hwl
   have hty:=I.H.ok _ hmem
   refine (as_ok (r:=r) t2 (D.sp.kp t' k2) hvx (zFJ I.sok hty) I.sm).mono fun en W3 ⟨k3,t3,vv,hen,hvv,hor⟩=>?_
   subst hen
   simp only [zAK,fld56_0,zAA]
   refine ⟨by simp only [and_self],trivial,?_⟩
   have k23:=k2.trans k3
   have hB3:=hB.ext t' k23
   have htv3:=htv.kp t' k23
   have hto':=typesTo_len l h o i
   have l51:∀ W1,Kp W3 W1→ld prog 51 (.pointer (some ⟨b16,0,none⟩)) W1=some vt:=fun W1 k1=>zAC a51 (a:=⟨b16,0,none⟩) (k1.cell t3 (hB3.cell rfl))
   simp only [l51 W3 (.refl _),zAA]
   refine zBw (zF8 (zEP (f:=fun s=>Value.string s) htv3) (by omega)) ?_
   have hsucc:=types_succ (l:=l) I.H hlt hw hwl
   have hpre':((zAI h (o.take (i+1))).any fun x=>l.any fun s=>decide (s.to=x.type))=false:=by
    rw [htk,List.any_append,hpre]
    simp only [List.any_cons,hbad,List.any_nil,Bool.or_self]
   have hch3:Chg (·=b16) W0 W3:=hch.then (Chg.of_kp k23 (S:=(·=b16))) fun _ _ h=>h
   simp only [zAT,zAA]
   cases hc:(zEE l h o i).any (fun x=>decide (x=(zAG l h[w']).type)) with
   | false =>
    simp only [Bool.not_false,zAy,l51 W3 (.refl _),zAA]
    refine zGH u51 s9 z9 rfl (by omega) by9 (by omega) (bsl51 _) rfl rfl t3 htv3 (by rw [zFh]; omega) fun u Wa v1' W4 ka ta hpu t4 o4 n4=>?_
    have hne:¬zA2 vt b16:=fun hj=>by have:=zAs hB3 (zBx htv3 hj); cases this
    have hB4:=hpu.chg.blk t3 hne hB3
    refine zAV s51 (a:=⟨b16,0,none⟩) (v:=v1') (zHo o4) hB4 (by simp) fun W5 hu5 hB5=>?_
    have hu5:Upd b16 W4 W5:=hu5
    have hB5:Blk W5 b16 51 [v1']:=hB5
    have hb4:=hB4.lt t4
    have hn4:=n4 W0.sz hch3.sz
    simp only [zFX,qKn,qKr,qKx,qKp,bKn,bKr,bKp,bKx,tKn,tKr,tKx,tKp,zKn,zKr,zKx,zKp]
    simp only [eKc,eKn,eKa,Nat.reduceEqDiff,↓reduceIte,gKz,gKs,dKs,and_self,q62,zAX,zAA,qKn,qKr,qKx,qKp,bKn,bKr,bKp,bKx,tKn,tKr,tKx,tKp,zKn,zKr,zKx,zKp]
    refine ⟨hlt,trivial,v1',(hch3.then hpu.chg fun j hj hi=>?_).then hu5.chg fun _ _ h=>h,t4.upd hb4 hu5,(hAg.trans (.put rfl)).trans (.put rfl),by rw [zCi (by omega)],hB5,?_,hn4,hpre'⟩
    ·obtain ⟨b,l',c',e1,e2⟩:=hi
     have:=hnw b l' c' e1
     omega
    ·have hne5:∀ j,zA2 v1' j→¬j=b16:=fun j hj he=>by subst he; have:=zAs hB4 (zBx o4 hj); cases this
     have:=hu5.chg.own t4 o4 hne5
     rw [hsucc]
     unfold zAz
     rw [if_neg (by rw [hc]; simp),strs_app]
     exact this
   | true =>
    simp only [Bool.not_true,zAW,zFX,qKn,qKr,qKx,qKp,bKn,bKr,bKp,bKx,tKn,tKr,tKx,tKp,zKn,zKr,zKx,zKp]
    simp only [eKc,eKn,eKa,Nat.reduceEqDiff,↓reduceIte,gKz,gKs,dKs,and_self,q62,zAX,zAA,qKn,qKr,qKx,qKp,bKn,bKr,bKp,bKx,tKn,tKr,tKx,tKp,zKn,zKr,zKx,zKp]
    refine ⟨hlt,trivial,vt,hch3,t3,(hAg.trans (.put rfl)).trans (.put rfl),by rw [zCi (by omega)],hB3,?_,hnw,hpre'⟩
    rw [hsucc]
    unfold zAz
    rw [if_pos hc]
    exact htv3
 ·simp only [qKn,qKr,qKx,qKp,bKn,bKr,bKp,bKx,tKn,tKr,tKx,tKp,zKn,zKr,zKx,zKp]
  have htk:o.take i=o:=List.take_of_length_le (by omega)
  rw [htk] at hpre
  unfold zEE at htv
  rw [htk] at htv
  have hAg':=hAg.trans (.put rfl:Agree [6,10,12,15,16,60,61] e' (Env.of e' [(63,.bool (decide ((i:Int)<o.length)))]))
  refine hno hpre _ W' vt hch t' (fun t ht=>hAg' t ?_) hB htv hnw
  simp only [List.mem_cons,List.not_mem_nil,or_false] at ht ⊢
  rcases ht with rfl | rfl | rfl | rfl | rfl <;> simp
end Go.Ce
namespace Go.Ce
open Go Go.Proofs Go.Proofs.Tryz
theorem shp_pos {c:List Shp} (hok:zA8 c=true) {s:ByteArray} {i:Nat} (h:zBQ c s=some i):0<s.size:=by
 have hil:=zC6 h
 obtain ⟨h1,h2,_⟩:=List.findIdx?_eq_some_iff_getElem.1 h
 unfold zA8 at hok
 simp only [Bool.and_eq_true,Bool.not_eq_true'] at hok
 have hb:=zBs hok.2.1 hil
 unfold zAh at hb
 rw [List.getElem?_eq_getElem hil] at hb
 simp only [Bool.or_eq_false_iff,Bool.not_eq_false'] at hb
 have:=hb.1.1
 unfold zDp at this
 simp only [Bool.and_eq_true,decide_eq_true_eq] at this
 rw [←of_decide_eq_true h2]
 omega
theorem numP_1:zBk 1=[1]:=by unfold zBk; rfl
def SmallW (c:List Shp) (l:List Spc) (h:List Thg) (o:List Int):Prop:=h.length≤40∨((zCG l (zAI h o)).length≤100∧(zDi c l h o).length≤3000)
theorem f17_k28_ok {p:WrP} {W:CW} {vb:Value} {K:zAH} {e:Env} (h:WrEnv p W vb []) (hts:p.ts=zCG p.l (zAI p.h p.o)) (hC:Cat p.c) (hok:zA8 p.c=true) (hs:zAu p.c p.l=true) (H:Hp p.c p.h p.o) (hml:∀ s,s ∈ p.l→s.map.length<100000) (h1000:p.h.length≤1000) (hsm:SmallW p.c p.l p.h p.o)
  (g6:e 6=.pointer (some ⟨p.bh,0,none⟩)) (g10:e 10=.pointer (some ⟨p.bk,0,none⟩)) (g12:e 12=.pointer (some ⟨p.br,0,none⟩)) (g15:e 15=.pointer (some ⟨p.bwv,0,none⟩)) (g16:e 16=.pointer (some ⟨p.b16,0,none⟩))
  (hK:∀ e' W' v,Kp p.A W'→Top W'→e' 8=v→e' 9=.int .i64 0→Own W' 5 1 v (zAc (zDi p.c p.l p.h p.o))→K .ret e' [] W'):(f17_k28 none K) .normal e [] W:=by
 have hol:=H.found.len
 have hsz:∀ s,s ∈ p.ts→0<s.size∧s.size<1000:=fun s hs'=>by
  rw [hts] at hs'
  rcases zGM p.l (zAI p.h p.o) [] hs' with h | ⟨x,hx,rfl⟩
  ·cases h
  ·obtain ⟨i,s,Y⟩:=zCH (zA9 hs (H.ok _ (mem_thingsAt hx)))
   exact ⟨shp_pos hok Y.ti,shp_name hC Y.ti⟩
 have htl:p.ts.length≤100:=by
  rcases hsm with hsm | hsm
  ·have h1:=zFg p.l (zAI p.h p.o) []
   have h2:=zDI p.h p.o
   rw [hts]
   unfold zCG
   simp only [List.length_nil] at h1
   omega
  ·rw [hts]; exact hsm.1
 have htx2:(p.ts.flatMap zD8).length≤100*1008:=by
  have htx:=zHh p.ts fun s hs=>(hsz s hs).2
  have:p.ts.length*1008≤100*1008:=Nat.mul_le_mul_right _ htl
  omega
 have hsum:((zAI p.h p.o).flatMap fun x=>zDJ p.c p.ts p.o (zAG p.l x)).length≤161600:=by
  rcases hsm with hsm | hsm
  ·have h1:=zIj (l:=p.l) (t:=p.ts) (o:=p.o) (n:=p.h.length) hok (by omega) (by omega) (zAI p.h p.o) fun x hx=>zA9 hs (H.ok x (by
    unfold zAI at hx
    obtain ⟨v,_,hv⟩:=List.mem_flatMap.1 hx
    cases hg:p.h[(v-1).toNat]? with
    | none=>rw [hg] at hv; cases hv
    | some y=>rw [hg] at hv; rw [List.mem_singleton.1 hv]; exact List.mem_of_getElem? hg))
   have h2:=zDI p.h p.o
   have h3:(zAI p.h p.o).length*1616≤100*1616:=Nat.mul_le_mul_right _ (by omega)
   omega
  ·have:=hsm.2
   unfold zDi at this
   rw [hts]
   simp only [List.length_append] at this
   omega
 have q88:∀ (p':WrP) W' vb' bs',WrEnv p' W' vb' bs'→ld prog 88 (.pointer (some ⟨p'.bwv,0,none⟩)) W'=some (.pointer (some ⟨p'.wb,0,none⟩)):=fun p' W' vb' bs' E=>zAC a88 (a:=⟨p'.bwv,0,none⟩) (E.wv.cell rfl)
 have q51:∀ W' vb' bs',WrEnv p W' vb' bs'→ld prog 51 (.pointer (some ⟨p.b16,0,none⟩)) W'=some p.vt:=fun W' vb' bs' E=>zAC a51 (a:=⟨p.b16,0,none⟩) (E.ty.cell rfl)
 simp only [f17_k28,qKn,qKr,qKx,qKp,bKn,bKr,bKp,bKx,tKn,tKr,tKx,tKp,zKn,zKr,zKx,zKp,g6,g10,g12,g15,g16]
 rw [q88 p W _ _ h]
 simp only [zBS,zDs,zAA]
 refine (h.num (n:=1) (by omega) (by simp)).mono fun en W1 ⟨⟨v,he⟩,_,vb1,h1,_⟩=>?_
 subst he
 simp only [zAK]
 rw [q88 p W1 _ _ h1,q51 W1 _ _ h1]
 simp only [zBS,zDs,zAA]
 rw [numP_1] at h1
 refine (listS_ok h1 hsz (by omega) (by simp)).mono fun en W2 ⟨⟨v,he⟩,vb2,h2⟩=>?_
 subst he
 simp only [zAK]
 refine ⟨by simp only [and_self],trivial,?_⟩
 refine w_ret (values_ok h2.top) fun W3 k3 t3=>?_
 refine zB1 (ws:=[.nilFunc,.func (.func 106) #[] #[],.func (.func 107) #[] #[]]) z108 s108 rfl rfl rfl t3 fun W4 k4 t4 z4 hB4=>?_
 have h4:=h2.kp' (k3.trans k4) t4
 have E4:WrEnv { p with bd:=W3.sz,bdt:=108,dvs:=[.nilFunc,.func (.func 106) #[] #[],.func (.func 107) #[] #[]] } W4 vb2 ([]++[1]++zBk p.ts.length++p.ts.flatMap zD8):=⟨h4.kp,h4.top,h4.tA,h4.d,h4.wk,h4.wv,h4.ty,h4.tys,hB4,⟨(by decide:(108:Nat)≠97),(by decide:(108:Nat)≠5)⟩,h4.buf,h4.ge⟩
 have l89:ld prog 89 (.pointer (some ⟨p.wb,0+1,none⟩)) W4=some (.pointer (some ⟨p.bw,0,none⟩)):=zAC a89 (a:=⟨p.wb,0+1,none⟩) (h4.buf.b.cell rfl)
 have l40:ld prog 40 (.pointer (some ⟨p.bw,0,none⟩)) W4=some p.vo:=zAC a40 (a:=⟨p.bw,0,none⟩) (h4.wk.w.cell rfl)
 rw [q88 p W4 _ _ h4]
 simp only [zBS,zDs,fad97_1,zAA]
 rw [l89]
 simp only [zBS,zHQ,zAA]
 rw [l40]
 simp only [zAA]
 have hn8:=zBc (n:=p.ts.length) (by omega)
 refine (listI_ok E4 hC hok hs H hml h1000 hsum (by show p.ts.length<100000; omega) (fun x hx=>by
  show p.ts.any _=true
  rw [hts]; exact types_has p.l _ [] x hx) (by simp only [List.length_append,List.length_cons,List.length_nil]; omega) rfl).mono fun en W5 ⟨⟨v,he⟩,vb5,h5⟩=>?_
 subst he
 simp only [zAK]
 refine ⟨by simp only [and_self],trivial,?_⟩
 rw [q88 _ W5 _ _ h5]
 simp only [zBS,zDs,fad95_0,zAA]
 have l29:ld prog 29 (.pointer (some ⟨p.wb,0,none⟩)) W5=some vb5:=h5.buf.ld
 rw [l29]
 simp only [zAA]
 refine hK _ W5 vb5 h5.kp h5.top rfl rfl ?_
 have:=h5.buf.own
 unfold zDi
 rw [←hts]
 simpa using this
end Go.Ce
namespace Go.Ce
open Go Go.Proofs Go.Proofs.Tryz
theorem s97:siz prog 97=some 4:=by kernel_rfl
theorem s88:siz prog 88=some 1:=by kernel_rfl
theorem z51:zer prog 51=some (.slice none 0 0):=by kernel_rfl
theorem bld97 (a:Addr) (r1 r2:Nat):bld prog 97 [(1,.pointer (some a)),(2,.agg [.map (some r1),.map (some r2)].toArray)]=some (.agg [.slice none 0 0,.pointer (some a),.map (some r1),.map (some r2)].toArray):=by kernel_rfl
theorem zAZ {K:Value→CW→Prop} {KP:List PanicEntry→CW→Prop} {v:Value} {W:CW} (h:K v W):zAK K KP (.returned v) W:=h
theorem askP_root {c:List Shp} {l:List Spc} {h:List Thg} {root:Int} (hc:zA8 c=true) (hs:zAu c l=true):askP c l h root=zEJ c h root:=by
 unfold askP zEJ spErr
 rw [hc,hs]
 rfl
theorem write17_ok {v0 v1 v2:Value} {c:List Shp} {l:List Spc} {h:List Thg} {root:Int} {W:CW} (ht:Top W) (hc:IsSl 5 (RShp W) v0 c) (hC:Cat c) (hl:IsSl 3 (RSpc W) v1 l) (hll:l.length<100000) (hml:∀ s,s ∈ l→s.map.length<100000) (hh:IsSl 2 (RThg W) v2 h) (hhl:h.length<100000) (hh40:h.length≤40∨1000<h.length∨(askP c l h root=0→asBad l h (zBd c l h root)=false→SmallW c l h (zBd c l h root))) (hv:∀ x,x ∈ h→x.vals.length<100000) :
  WCall prog pkL 17 [v0,v1,v2,.int .i64 root] W (WritePost (zCE c l h root) W):=by
 refine f17_w ?_
 rw [f17_c]
 obtain ⟨ah,ch,rfl,_⟩:=id hh
 refine zC2 s24 ht fun W0 k0 t0 z0 hB6=>?_
 have hB6:Blk W0 W.sz 24 [.slice ah h.length ch]:=hB6
 refine (known_ok t0 (hc.imp fun _ _ _ hr=>hr.kp ht k0) hC).mono fun en W1 ⟨k1,t1,r1,r2,hen,hr1,hr2,hcat⟩=>?_
 subst hen
 refine zAZ ?_
 refine zAl (zBN _ _) ?_
 refine zAl (zBM _ _) ?_
 unfold zJT
 refine zB1 (ws:=[.map (some r1),.map (some r2)]) z78 s78 rfl rfl rfl t1 fun W4 k4 t4 z4 hB10=>?_
 have k04:=(k0.trans k1).trans k4
 generalize hKK:zAD prog Tryz.f17 (WritePost (zCE c l h root) W)=KK
 have hfin:∀ (e':Env) W' v n,Kp W W'→Top W'→e' 8=v→e' 9=.int .i64 n→Own W' 5 1 v (zAc (zCE c l h root).1)→(zCE c l h root).2=n→KK .ret e' [] W':=by
  intro e' W' v n k t h8 h9 ho hn
  rw [←hKK,f17_leave,h8,h9]
  exact ⟨k,t,v,by rw [hn],ho⟩
 simp only [zAT,zAA]
 cases hok:zA8 c with
 | false =>
  simp only [Bool.not_false,zAy]
  have hw:zCE c l h root=([],210):=by
   unfold zCE askP spErr
   rw [hok]; rfl
  exact hfin _ W4 _ 210 k04 t4 rfl rfl (by rw [hw]; exact Own.nil) (by rw [hw])
 | true =>
  simp only [Bool.not_true,zAW]
  have hcat4:=(hcat hok).kp t1 k4
  rw [ld78 hB10]
  simp only [zAA]
  refine (rules_ok t4 hcat4 hC (hl.imp fun _ _ _ hr=>hr.kp ht k04) hll hml).mono fun en W5 ⟨k5,t5,w,r,hen,hsp⟩=>?_
  subst hen
  refine zAZ ?_
  refine zAl (zBN _ _) ?_
  refine zAl (zBM _ _) ?_
  refine zB1 (ws:=[.map (some w),.map (some r)]) z83 s83 rfl rfl rfl t5 fun W8 k8 t8 z8 hB12=>?_
  have k48:=k5.trans k8
  have k08:=k04.trans k48
  simp only [zAT,zAA]
  cases hs:zAu c l with
  | false =>
   simp only [Bool.not_false,zAy]
   have hw:zCE c l h root=([],212):=by
    unfold zCE askP spErr
    rw [hok,hs]; rfl
   exact hfin _ W8 _ 212 k08 t8 rfl rfl (by rw [hw]; exact Own.nil) (by rw [hw])
  | true =>
   simp only [Bool.not_true,zAW]
   have l24:ld prog 24 (.pointer (some ⟨W.sz,0,none⟩)) W8=some (.slice ah h.length ch):=zAC a24 (a:=⟨W.sz,0,none⟩) (((k1.trans k4).trans k48).cell t0 (hB6.cell rfl))
   rw [l24]
   simp only [zAA]
   refine (rooted_ok t8 (hc.imp fun _ _ _ hr=>hr.kp ht k08) hC (hh.imp fun _ _ _ hr=>hr.kp ht k08) hv (by omega)).mono fun en W9 ⟨k9,t9,r1',r2',hen,hcat9⟩=>?_
   subst hen
   refine zAZ ?_
   refine zAl (zBN _ _) ?_
   refine zAl (zBM _ _) ?_
   unfold zJT
   refine zB1 (ws:=[.map (some r1'),.map (some r2')]) z78 s78 rfl rfl rfl t9 fun A k12 tA z12 hB13=>?_
   have k8A:=k9.trans k12
   have k0A:=k08.trans k8A
   have hask:=askP_root (h:=h) (root:=root) hok hs
   rw [←hask]
   simp only [zB6,zAA]
   by_cases hz:askP c l h root=0
   ·obtain ⟨_,_,hthi,hr0,hr1⟩:=zGD hz
    obtain ⟨h1000,hthok⟩:=zGO hthi
    simp only [hz,bne_self_eq_false,zAW,zAA]
    obtain ⟨hsw,hsr⟩:=hsp hs
    have D:Wr1At A W1.sz W5.sz W.sz r1 r2 w r c l h:=⟨(hB10.ext t4 (k48.trans k8A)).cells,(hB12.ext t8 k8A).cells,hcat4.kp t4 (k48.trans k8A),hsw.kp t5 (k8.trans k8A),_,(((k1.trans k4).trans k48).trans k8A).cell t0 (hB6.cell rfl),hh.imp fun _ _ _ hr=>hr.kp ht k0A⟩
    have hrA:SpM Spc.to A r l:=hsr.kp t5 (k8.trans k8A)
    have kn:Kp A (A.new (.cells .nil 1 #[.pointer none] 88)):=.new _
    have tn:=tA.new (.cells .nil 1 #[.pointer none] 88)
    have hon:(A.new (.cells .nil 1 #[.pointer none] 88)).obj A.sz=some (.cells .nil 1 #[.pointer none] 88):=by rw [zAk,if_pos rfl]
    have hBn:Blk (A.new (.cells .nil 1 #[.pointer none] 88)) A.sz 88 [.pointer none]:=⟨.nil,1,_,hon,rfl,fun k v hk=>by
     match k,hk with
     | 0,hk=>cases hk; rfl⟩
    have hszn:(A.new (.cells .nil 1 #[.pointer none] 88)).sz=A.sz+1:=rfl
    have hfl:∀ W0:CW,W0.obj A.sz=some (.cells .nil 1 #[.pointer none] 88)→flOk (.pointer (some ⟨A.sz,0,none⟩)) ((A.new (.cells .nil 1 #[.pointer none] 88)).obj A.sz) W0=true:=fun W0 h0=>zFx h0 rfl
    generalize hAn:A.new (.cells .nil 1 #[.pointer none] 88)=An at kn tn hon hBn hszn hfl ⊢
    refine (walked_ok (refs:=zEB c l h) (N:=h.length) tn hr0 hr1 hhl (fun n _ _=>refs_in hok hs hthok) (fun n=>refs_len hC hs hthok n) (fun n W' k' t' hn0 hn1 K KP hk=>?_)).mono fun en W13 ⟨k13,t13,bw,rp,vo,hen,hwk,hbw,hrp,hnvo,hF⟩=>?_
    ·refine zDS Tryz.func51 (by kernel_rfl) ((write1_ok t' (D.kp tA (kn.trans k')) hC hs hthok hml hn0 hn1 hhl).mono fun en W2 ⟨k2,t2,vr,hen,hvr,hnr⟩=>?_)
     subst hen
     exact hk vr W2 k2 t2 hvr hnr
    subst hen
    have hfo:zBJ (zEB c l h) h.length (start root) 0=zBd c l h root:=rfl
    rw [hfo] at hwk hF
    generalize ho:zBd c l h root=o at hwk hF
    refine zAZ ?_
    have kA13:=kn.trans k13
    have lA:∀ W',Kp A W'→ld prog 78 (.pointer (some ⟨W1.sz,0,none⟩)) W'=some (.agg [.map (some r1),.map (some r2)].toArray):=fun W' k=>zA3 (vs:=[.map (some r1),.map (some r2)]) (a:=⟨W1.sz,0,none⟩) a78 s78 rfl (by omega) (D.kp tA k).k
    rw [lA W13 kA13]
    simp only [zAA]
    refine zAl (bld97 _ _ _) ?_
    refine zC2 s97 t13 fun W15 k15 t15 z15 hBb=>?_
    have hBb:Blk W15 W13.sz 97 [.slice none 0 0,.pointer (some ⟨bw,0,none⟩),.map (some r1),.map (some r2)]:=hBb
    have hBn15:=hBn.ext tn (k13.trans k15)
    refine ⟨trivial,?_⟩
    refine zAV s88 (a:=⟨A.sz,0,none⟩) (v:=.pointer (some ⟨W13.sz,0,none⟩)) rfl hBn15 (by simp) fun W16 hu hB88=>?_
    have hu:Upd A.sz W15 W16:=hu
    have hB88:Blk W16 A.sz 88 [.pointer (some ⟨W13.sz,0,none⟩)]:=hB88
    have hAl:=hBn15.lt t15
    have h13l:A.sz<W13.sz:=by have:=k13.sz; omega
    refine ⟨by simp only [lA W13 kA13,lA An kn,and_self],?_⟩
    refine ⟨⟨⟨trivial,hfl W15 (by rw [(k13.trans k15).obj _ (by omega)]; exact hon),hfl W13 (by rw [k13.obj _ (by omega)]; exact hon),hfl An hon⟩,trivial⟩,?_⟩
    have t16:=t15.upd hAl hu
    refine zFL z51 s51 t16 fun W17 k17 t17 z17 hB16=>?_
    have hB16:Blk W17 W16.sz 51 [.slice none 0 0]:=hB16
    have z16:W16.sz=W13.sz+1:=by rw [hu.sz,z15]
    have kA17:Kp A W17:=((kA13.trans k15).upd (Nat.le_refl _) hu).trans k17
    have hobj:∀ j,j<W15.sz→j≠A.sz→W17.obj j=W15.obj j:=fun j hj hne=>by rw [k17.obj j (by rw [hu.sz]; exact hj),hu.obj j hne]
    have hobj13:∀ j,j<W13.sz→j≠A.sz→W17.obj j=W13.obj j:=fun j hj hne=>by rw [hobj j (by omega) hne,k15.obj j hj]
    have hvo17:Own W17 3 1 vo (zCo o):=zJn hwk.own fun j hj=>hobj13 j (zIX t13 hwk.own hj) (by obtain ⟨b,l',c',e1,e2⟩:=hj; have:=hnvo b l' c' e1; omega)
    have hw17:Blk W17 bw 100 [vo,.map (some rp)]:=hwk.w.congr (hobj13 _ (hwk.w.lt t13) (by omega))
    have hb17:Blk W17 W13.sz 97 [.slice none 0 0,.pointer (some ⟨bw,0,none⟩),.map (some r1),.map (some r2)]:=hBb.congr (hobj _ (by omega) (by omega))
    have hp17:PlM W17 rp o:=hwk.p.congr (hobj13 _ (hwk.p.lt t13) (by omega))
    have hv17:Blk W17 A.sz 88 [.pointer (some ⟨W13.sz,0,none⟩)]:=hB88.ext t16 k17
    have l88:ld prog 88 (.pointer (some ⟨A.sz,0,none⟩)) W17=some (.pointer (some ⟨W13.sz,0,none⟩)):=zAC a88 (a:=⟨A.sz,0,none⟩) (hv17.cell rfl)
    have l89:ld prog 89 (.pointer (some ⟨W13.sz,0+1,none⟩)) W17=some (.pointer (some ⟨bw,0,none⟩)):=zAC a89 (a:=⟨W13.sz,0+1,none⟩) (hb17.cell rfl)
    have l40:ld prog 40 (.pointer (some ⟨bw,0,none⟩)) W17=some vo:=zAC a40 (a:=⟨bw,0,none⟩) (hw17.cell rfl)
    have hol:=hF.len
    have hil:(zCo o).length=o.length*1:=by unfold zCo; rw [List.length_map]; omega
    rw [l88]
    simp only [zBS,fad97_1,zAA]
    rw [l89]
    simp only [zBS,zHQ,zAA]
    rw [l40]
    simp only [zAA]
    rw [zEQ u40 hvo17 (by omega) hil]
    simp only [zAA]
    have hH:Hp c h o:=⟨hF,hhl,hthok⟩
    have I:TyAt A W1.sz W5.sz W.sz r1 r2 w r c l h o:=⟨tA,D,hrA,hs,hml,hH⟩
    have b16lt:W13.sz≤W16.sz:=by omega
    refine f17_types I kA17 t17 hB16 (by omega) hvo17 rfl rfl rfl rfl rfl rfl (fun hb e' W' k' t' q8 q9=>?_) (fun hb e' W' vt hch t' hAg hBt htv hnw=>?_)
    ·simp only [qKn,qKr,qKx,qKp,bKn,bKr,bKp,bKx,tKn,tKr,tKx,tKp,zKn,zKr,zKx,zKp]
     have hw:zCE c l h root=([],214):=by
      unfold zCE
      rw [if_neg (by simp [hz]),ho,if_pos hb]
     exact hfin _ W' _ 214 (k0A.trans k') t' q8 q9 (by rw [hw]; exact Own.nil) (by rw [hw])
    ·simp only [qKn,qKr,qKx,qKp,bKn,bKr,bKp,bKx,tKn,tKr,tKx,tKp,zKn,zKr,zKx,zKp,if_true]
     have hb':¬asBad l h o=true:=by rw [hb]; simp
     have hw:zCE c l h root=(zDi c l h o,0):=by
      unfold zCE
      rw [if_neg (by simp [hz]),ho,if_neg hb']
     have hoj:∀ j,j<W16.sz→W'.obj j=W17.obj j:=fun j hj=>hch.obj j (by omega) (by omega)
     have E:WrEnv { A:=A,bk:=W1.sz,br:=W5.sz,bh:=W.sz,bwv:=A.sz,b16:=W16.sz,bd:=A.sz,wb:=W13.sz,bw:=bw,rp:=rp,r1:=r1,r2:=r2,w:=w,r:=r,vt:=vt,vo:=vo,bdt:=88,dvs:=[.pointer (some ⟨W13.sz,0,none⟩)],c:=c,l:=l,h:=h,o:=o,ts:=zCG l (zAI h o) } W' (.slice none 0 0) [] :=
      ⟨Chg.kp kA17 hch fun j hj=>by have hj:j=W16.sz:=hj; show A.sz≤j; omega,t',tA,D,⟨hw17.congr (hoj _ (by have:=hwk.w.lt t13; omega)),zJn hvo17 fun j hj=>hoj j (by have:=zIX t13 hwk.own hj; omega),hp17.congr (hoj _ (by have:=hwk.p.lt t13; omega))⟩,hv17.congr (hoj _ (by omega)),hBt,htv,hv17.congr (hoj _ (by omega)),⟨(by decide:(88:Nat)≠97),(by decide:(88:Nat)≠5)⟩,⟨hb17.congr (hoj _ (by omega)),Own.nil⟩,by show A.sz≤W13.sz; omega,fun j hj=>by obtain ⟨_,_,_,e1,_⟩:=hj; cases e1⟩
     refine f17_k28_ok E rfl hC hok hs hH hml h1000 (by
      rcases hh40 with h40 | h40 | h40
      ·exact .inl h40
      ·omega
      ·rw [←ho]; exact h40 hz (by rw [ho]; exact hb)) ((hAg 6 (by decide)).trans rfl) ((hAg 10 (by decide)).trans rfl) ((hAg 12 (by decide)).trans rfl) ((hAg 15 (by decide)).trans rfl) ((hAg 16 (by decide)).trans rfl) fun e2 W2 v k2 t2 h8 h9 hov=>?_
     exact hfin _ W2 v 0 (k0A.trans k2) t2 h8 h9 (by rw [hw]; exact hov) (by rw [hw])
   ·simp only [show (askP c l h root != 0)=true from by simpa using hz,zAy]
    have hw:zCE c l h root=([],askP c l h root):=by
     unfold zCE
     rw [if_pos hz]
    exact hfin _ A _ (askP c l h root) k0A tA rfl rfl (by rw [hw]; exact Own.nil) (by rw [hw])
end Go.Ce
namespace Go.Ce
open Go Go.Proofs Go.Proofs.Tryz
def zB0 (e:Int):List PanicEntry:=[{ v:=.iface 167 (.agg #[.int .i64 e]),recovered:=false }]
theorem bld167 (e:Int):bld prog 167 [(0,.int .i64 e)]=some (.agg #[.int .i64 e]):=by kernel_rfl
theorem mki167 (v:Value):mki prog 167 v=some (.iface 167 v):=by kernel_rfl
theorem s170:siz prog 170=some 2:=by kernel_rfl
theorem fad170_0 (a:Addr):fad prog 170 (.pointer (some a)) 0=some (.pointer (some ⟨a.block,a.off,none⟩)):=by kernel_rfl
theorem fad170_1 (a:Addr):fad prog 170 (.pointer (some a)) 1=some (.pointer (some ⟨a.block,a.off+1,none⟩)):=by kernel_rfl
theorem a3':agg? prog 3=some false:=by kernel_rfl
theorem zBp {K:Value→CW→Prop} {KP:List PanicEntry→CW→Prop} {ch:List PanicEntry} {W:CW} (h:KP ch W):zAK K KP (.panicked ch) W:=h
theorem cvw53' (n:Int):cvw prog 5 3 (.int .u8 n)=some (.int .i64 (IntKind.i64.wrap n)):=by kernel_rfl
theorem cvw53 (x:UInt8):cvw prog 5 3 (.int .u8 x.toNat)=some (.int .i64 ((x.toNat:Nat):Int)):=by
 have:=x.toNat_lt
 rw [cvw53',zBV (by omega) (by omega)]
theorem zDG {b:Bool} {e:Int} {W:CW} {K:Value→CW→Prop} {KP:List PanicEntry→CW→Prop} (hk:b=true→K (.tuple #[]) W) (hp:b=false→KP (zB0 e) W):WCall prog pkL 76 [.bool b,.int .i64 e] W (zAK K KP):=by
 refine f76_w ?_
 rw [f76_c]
 simp only [zAT,zAA]
 cases b with
 | true =>
  simp only [Bool.not_true,zAW]
  exact zEW (by kernel_rfl) _ _ (.inl rfl) _ _ (hk rfl)
 | false =>
  simp only [Bool.not_false,zAy]
  refine zAl (bld167 _) ?_
  refine zAl (mki167 _) ?_
  exact hp rfl
structure RdIn (A:CW) (vb:Value) (b:List UInt8):Prop where
 top:Top A
 sl:∃ a cap,vb=.slice a b.length cap∧b.length≤cap∧∀ i x,b[i]?=some x→∃ p,a=some p∧RByte A p.block (p.off+i*1) x
 lim:b.length≤100000
structure Rd (A W:CW) (rb:Nat) (vb:Value) (at_:Nat):Prop where
 kp:Kp A W
 top:Top W
 hb:A.sz≤rb
 blk:Blk W rb 170 [vb,.int .i64 at_]
def RdS (rb j:Nat):Prop:=j=rb
theorem Rd.ld0 {A W:CW} {rb at_:Nat} {vb:Value} (h:Rd A W rb vb at_):ld prog 29 (.pointer (some ⟨rb,0,none⟩)) W=some vb:=zAC a29 (a:=⟨rb,0,none⟩) (h.blk.cell rfl)
theorem Rd.ld1 {A W:CW} {rb at_:Nat} {vb:Value} (h:Rd A W rb vb at_):ld prog 3 (.pointer (some ⟨rb,0+1,none⟩)) W=some (.int .i64 at_):=zAC a3' (a:=⟨rb,0+1,none⟩) (h.blk.cell rfl)
theorem Rd.kp' {A W W':CW} {rb at_:Nat} {vb:Value} (h:Rd A W rb vb at_) (k:Kp W W') (t:Top W'):Rd A W' rb vb at_:=⟨h.kp.trans k,t,h.hb,h.blk.ext h.top k⟩
def zD9 (b:List UInt8) (at_ n:Nat):Except Int Nat:=if at_+n≤b.length then .ok (at_+n) else .error 4
def zHE {α:Type} (A:CW) (rb:Nat) (vb:Value) (R:Value→α→CW→Prop) (r:Except Int (α × Nat)) (W:CW):Ending→CW→Prop:=fun en W'=>Chg (RdS rb) W W'∧Top W'∧match r with
 | .ok (x,at')=>∃ v,en=.returned v∧R v x W'∧Rd A W' rb vb at'
 | .error e=>en=.panicked (zB0 e)
theorem slc29 {a:Option Addr} {len cap lo hi:Nat} (h1:lo≤hi) (h2:hi≤cap) (W:CW):∃ a',slc prog 29 (.slice a len cap) (some (.int .i64 lo)) (some (.int .i64 hi)) (some (.int .i64 hi)) W=some (.slice a' (hi-lo) (hi-lo))∧(lo<hi→∀ p,a=some p→∃ p',a'=some p'∧p'.block=p.block∧p'.off=p.off+lo):=by
 refine ⟨cond (Nat.beq hi lo) a (a.map fun a=>⟨a.block,a.off+lo*1,none⟩),?_,fun hlt p hp=>?_⟩
 ·have hbd:∀ n y d:Nat,n≤y→zDa (some (.int .i64 (n:Int))) d y=some n:=by
   intro n y d h
   simp only [zDa]
   rw [show (decide ((0:Int)≤(n:Int)) && decide ((n:Int)≤(y:Int)))=true by simp; omega]
   simp
  unfold slc
  rw [u29]
  simp only [zIF,u29,zCQ,s5,hbd hi cap cap h2,hbd hi hi len (Nat.le_refl _),hbd lo hi 0 h1]
  rw [show Nat.ble hi hi=true from Nat.ble_eq_true_of_le (by omega)]
  rfl
 ·have hb:Nat.beq hi lo=false:=by
   cases hq:Nat.beq hi lo with
   | false=>rfl
   | true=>have:=Nat.eq_of_beq_eq_true hq; omega
  subst hp
  rw [hb]
  exact ⟨_,rfl,rfl,by show p.off+lo*1=_; rw [Nat.mul_one]⟩
theorem take_ok {A W:CW} {rb at_ n:Nat} {vb:Value} {b:List UInt8} (I:RdIn A vb b) (h:Rd A W rb vb at_) (ha:at_≤b.length) (hn:n≤100000) :
  WCall prog pkL 121 [.pointer (some ⟨rb,0,none⟩),.int .i64 n] W (zHE A rb vb (fun v x _=>IsSl 1 (RByte A) v x) (match zD9 b at_ n with | .ok at'=>.ok ((b.drop at_).take n,at') | .error e=>.error e) W):=by
 have hlim:=I.lim
 obtain ⟨a,cap,hvb,hcap,hbt⟩:=I.sl
 refine f121_w ?_
 rw [f121_c]
 simp only [zBS,fad170_0,fad170_1,zAA,h.ld0,h.ld1]
 subst hvb
 rw [zAQ u29]
 simp only [zAA,zCa,zDQ]
 rw [zBV (by omega) (by omega)]
 have hd:decide ((b.length:Int)-(at_:Int)≥(n:Int))=decide (at_+n≤b.length):=by
  by_cases hq:at_+n≤b.length
  ·rw [decide_eq_true hq,decide_eq_true (by omega)]
  ·rw [decide_eq_false hq,decide_eq_false (by omega)]
 rw [hd]
 refine zDG (fun hb=>?_) (fun hb=>?_)
 ·have hle:=of_decide_eq_true hb
  have htk:zD9 b at_ n=.ok (at_+n):=by unfold zD9; rw [if_pos hle]
  refine ⟨by simp,trivial,?_⟩
  simp only [h.ld1,zAX,zAA]
  rw [zBV (by omega) (by omega)]
  refine zAV s3 (a:=⟨rb,0+1,none⟩) (v:=.int .i64 ((at_:Int)+(n:Int))) rfl h.blk (by simp) fun W2 hu hB=>?_
  have hu:Upd rb W W2:=hu
  have hB:Blk W2 rb 170 [.slice a b.length cap,.int .i64 ((at_+n:Nat):Int)]:=by
   have:((at_+n:Nat):Int)=(at_:Int)+(n:Int):=by omega
   rw [this]
   simpa [zEN] using hB
  have hW2:Rd A W2 rb (.slice a b.length cap) (at_+n):=⟨h.kp.upd h.hb hu,h.top.upd (h.blk.lt h.top) hu,h.hb,hB⟩
  simp only [hW2.ld0,hW2.ld1,zAA,zCa]
  rw [show (((at_+n:Nat):Int)-(n:Int))=((at_:Nat):Int) by omega,zBV (by omega) (by omega)]
  obtain ⟨a',hs,hp⟩:=slc29 (a:=a) (len:=b.length) (show at_≤at_+n by omega) (show at_+n≤cap by omega) W2
  rw [hs]
  simp only [zAA]
  refine ⟨by simp,trivial,?_⟩
  rw [f121_leave,htk]
  refine ⟨hu.chg,hW2.top,_,rfl,?_,hW2⟩
  have hlen:((b.drop at_).take n).length=n:=by rw [List.length_take,List.length_drop]; omega
  refine ⟨a',n,by rw [hlen,show at_+n-at_=n by omega]; rfl,fun i x hx=>?_⟩
  have hi:i<n:=by have:=(List.getElem?_eq_some_iff.1 hx).1; omega
  rw [List.getElem?_take,if_pos hi,List.getElem?_drop] at hx
  obtain ⟨p,hpa,hr⟩:=hbt _ x hx
  obtain ⟨p',hp1,hp2,hp3⟩:=hp (by omega) p hpa
  refine ⟨p',hp1,?_⟩
  rw [hp2,hp3]
  rwa [show p.off+at_+i*1=p.off+(at_+i)*1 by omega]
 ·have hle:=of_decide_eq_false hb
  have htk:zD9 b at_ n=.error 4:=by unfold zD9; rw [if_neg hle]
  refine ⟨by simp,?_⟩
  rw [htk]
  exact ⟨.refl _ _,h.top,rfl⟩
def zIS (b:List UInt8):Nat→Nat→Nat→Nat→Except Int (Nat × Nat)
 | 0,_,_,_=>.error 4
 | f+1,at_,n,sh=>match b[at_]? with
  | none=>.error 4
  | some x=>if x.toNat<128 then (if 0<x.toNat∨sh=0 then .ok (n+x.toNat*2 ^ sh,at_+1) else .error 4)
   else zIS b f (at_+1) (n+(x.toNat % 128)*2 ^ sh) (sh+7)
def zDT (b:List UInt8) (at_:Nat) (most:Int):Except Int (Nat × Nat):=match zIS b 6 at_ 0 0 with
 | .error e=>.error e
 | .ok (n,at')=>if (n:Int)≤most then .ok (n,at') else .error 4
theorem cbin_shl (y sh:Nat) (hy:y<128) (hs:sh≤35):zAO prog .shl 3 false (.int .i64 y) (.int .i64 sh)=some (.int .i64 ((y*2 ^ sh:Nat):Int)):=by
 have h1:zAO prog .shl 3 false (.int .i64 y) (.int .i64 sh)=cond (decide ((sh:Int)<0)) none (some (.int .i64 (IntKind.i64.wrap ((y:Int)*2 ^ (min (sh:Int).toNat 64))))):=rfl
 rw [h1,show decide ((sh:Int)<0)=false by simp]
 have h2:min (sh:Int).toNat 64=sh:=by rw [Int.toNat_natCast]; omega
 rw [h2]
 have h3:2 ^ sh≤2 ^ 35:=Nat.pow_le_pow_right (by omega) hs
 have h4:y*2 ^ sh≤127*2 ^ 35:=Nat.mul_le_mul (by omega) h3
 have h5:(y:Int)*2 ^ sh=((y*2 ^ sh:Nat):Int):=by simp
 rw [h5]
 simp only [cond_false]
 rw [zBV (by omega) (by omega)]
theorem cbin_or (n y sh:Nat) (hn:n<2 ^ sh) (hy:y<128) (hs:sh≤35):zAO prog .or 3 false (.int .i64 n) (.int .i64 ((y*2 ^ sh:Nat):Int))=some (.int .i64 ((n+y*2 ^ sh:Nat):Int)):=by
 have h3:2 ^ sh≤2 ^ 35:=Nat.pow_le_pow_right (by omega) hs
 have h4:y*2 ^ sh≤127*2 ^ 35:=Nat.mul_le_mul (by omega) h3
 have h1:zAO prog .or 3 false (.int .i64 n) (.int .i64 ((y*2 ^ sh:Nat):Int))=some (.int .i64 (IntKind.i64.wrap ((BitVec.ofInt 64 (n:Int) ||| BitVec.ofInt 64 ((y*2 ^ sh:Nat):Int)).toNat))):=rfl
 rw [h1]
 have h5:(BitVec.ofInt 64 (n:Int) ||| BitVec.ofInt 64 ((y*2 ^ sh:Nat):Int)).toNat=n+y*2 ^ sh:=by
  rw [BitVec.toNat_or,BitVec.ofInt_natCast,BitVec.ofInt_natCast,BitVec.toNat_ofNat,BitVec.toNat_ofNat,Nat.mod_eq_of_lt (by omega),Nat.mod_eq_of_lt (by omega)]
  have:=Nat.shiftLeft_add_eq_or_of_lt hn y
  rw [Nat.shiftLeft_eq] at this
  rw [Nat.or_comm,←this,Nat.add_comm]
 rw [h5,zBV (by omega) (by omega)]
end Go.Ce
namespace Go.Ce
open Go Go.Proofs Go.Proofs.Tryz
theorem take_one {b:List UInt8} {at_:Nat} {x:UInt8} (hx:b[at_]?=some x):(b.drop at_).take 1=[x]:=by
 have hlt:=(List.getElem?_eq_some_iff.1 hx).1
 apply List.ext_getElem?
 intro i
 cases i with
 | zero=>rw [List.getElem?_take,if_pos (by omega),List.getElem?_drop]; exact hx
 | succ i=>rw [List.getElem?_take,if_neg (by omega)]; rfl
theorem zEK {A W:CW} {rb at_:Nat} {most:Int} {vb:Value} {b:List UInt8} (I:RdIn A vb b) (h:Rd A W rb vb at_) (ha:at_≤b.length) :
  WCall prog pkL 110 [.pointer (some ⟨rb,0,none⟩),.int .i64 most] W (zHE A rb vb (fun v n _=>v=.int .i64 ((n:Nat):Int)) (zDT b at_ most) W):=by
 refine f110_w ?_
 rw [f110_c]
 generalize hKK:zAD prog Tryz.f110 (zHE A rb vb (fun v n _=>v=.int .i64 ((n:Nat):Int)) (zDT b at_ most) W)=KK
 have hpan:∀ (e:Env) W',Chg (RdS rb) W W'→Top W'→zDT b at_ most=.error 4→KK (.panic (zB0 4)) e [] W':=by
  intro e W' hc ht hn
  rw [←hKK]
  show zHE A rb vb (fun v n _=>v=.int .i64 ((n:Nat):Int)) (zDT b at_ most) W (.panicked (zB0 4)) W'
  rw [hn]
  exact ⟨hc,ht,rfl⟩
 have hgo:∀ (e:Env) W' n at',Chg (RdS rb) W W'→Rd A W' rb vb at'→e 1=.int .i64 most→e 5=.int .i64 (n:Nat)→zIS b 6 at_ 0 0=.ok (n,at')→(zFZ none KK) .normal e [] W':=by
  intro e W' n at' hc hr h1 h5 hn
  simp only [zFZ,qKn,qKr,qKx,qKp,bKn,bKr,bKp,bKx,tKn,tKr,tKx,tKp,zKn,zKr,zKx,zKp,h1,h5,zD4,zAA]
  refine zDG (fun hb=>?_) (fun hb=>?_)
  ·have hle:=of_decide_eq_true hb
   rw [←hKK,f110_leave]
   refine ⟨hc,hr.top,?_⟩
   have:zDT b at_ most=.ok (n,at'):=by unfold zDT; rw [hn]; simp only; rw [if_pos (by omega)]
   rw [this]
   refine ⟨_,rfl,?_,hr⟩
   simp only [eKc,eKn,eKa,Nat.reduceEqDiff,↓reduceIte,gKz,gKs,dKs,and_self,h5]
  ·have hle:=of_decide_eq_false hb
   refine hpan _ W' hc hr.top ?_
   unfold zDT; rw [hn]; simp only; rw [if_neg (by omega)]
 refine w_loop (fun k e ds W'=>Chg (RdS rb) W W'∧ds=[]∧1≤k∧k≤6∧∃ at' n sh:Nat,Rd A W' rb vb at'∧at'≤b.length∧e 0=.pointer (some ⟨rb,0,none⟩)∧e 1=.int .i64 most∧e 5=.int .i64 n∧e 6=.int .i64 sh∧sh=7*(6-k)∧n<2 ^ sh∧zIS b 6 at_ 0 0=zIS b k at' n sh) 6 ⟨.refl _ _,rfl,by omega,by omega,at_,0,0,h,ha,rfl,rfl,rfl,rfl,rfl,by omega,rfl⟩ ?_
 rintro k e ds W' ⟨hc,rfl,hk1,hk6,at',n,sh,hr,hat,h0,h1,h5,h6,hsh,hn,hG⟩
 obtain ⟨f,rfl⟩:∃ f,k=f+1:=⟨k-1,by omega⟩
 rw [f110_l0,h0]
 refine (take_ok (n:=1) I hr hat (by omega)).mono fun en W1 ⟨hc1,t1,hp⟩=>?_
 have hc':Chg (RdS rb) W W1:=hc.then hc1 fun _ _ h=>h
 cases hx:b[at']? with
 | none =>
  have hge:b.length≤at':=by
   by_cases hq:b.length≤at'
   ·exact hq
   ·rw [List.getElem?_eq_getElem (by omega)] at hx; cases hx
  have htk:zD9 b at' 1=.error 4:=by unfold zD9; rw [if_neg (by omega)]
  rw [htk] at hp
  have hp:en=.panicked (zB0 4):=hp
  subst hp
  refine zBp ?_
  simp only [tKp,bKp,zFZ,qKp]
  refine hpan _ W1 hc' t1 ?_
  unfold zDT
  rw [hG,zIS,hx]
 | some x =>
  have hlt:=(List.getElem?_eq_some_iff.1 hx).1
  have htk:zD9 b at' 1=.ok (at'+1):=by unfold zD9; rw [if_pos (by omega)]
  rw [htk] at hp
  obtain ⟨v,rfl,hv,hr1⟩:=hp
  rw [take_one hx] at hv
  obtain ⟨a,cap,rfl,hv⟩:=hv
  obtain ⟨p,rfl,hbx⟩:=hv 0 x rfl
  refine zAZ ?_
  have hiad:iad prog 29 (.slice (some p) [x].length cap) (.int .i64 0)=some (.pointer (some ⟨p.block,p.off+0*1,none⟩)):=zAi (i:=0) u29 s5 (by simp)
  refine zAl hiad ?_
  have hbx1:W1.cell p.block (p.off+0*1)=some (.int .u8 x.toNat):=hr1.kp.cell I.top hbx
  refine zAl (zAC a5 (a:=⟨p.block,p.off+0*1,none⟩) hbx1) ?_
  have hx256:x.toNat<256:=x.toNat_lt
  refine zAl (v:=.int .i64 ((x.toNat:Nat):Int)) (cvw53 x) ?_
  refine zAl (cbin_rem _ _ _ (by decide)) ?_
  rw [show ((x.toNat:Int).tmod 128)=((x.toNat % 128:Nat):Int) by rw [Int.tmod_eq_emod_of_nonneg (by omega)]; rfl]
  have hy:x.toNat % 128<128:=Nat.mod_lt _ (by omega)
  have hs35:sh≤35:=by omega
  rw [h6,h5]
  refine zAl (cbin_shl _ _ hy hs35) ?_
  refine zAl (cbin_or _ _ _ hn hy hs35) ?_
  refine zAl (zAX _ _ _) ?_
  rw [zBV (by omega) (by omega)]
  refine zAl (zAa _ _ _) ?_
  have hn':n+x.toNat % 128*2 ^ sh<2 ^ (sh+7):=by
   have h1:x.toNat % 128*2 ^ sh≤127*2 ^ sh:=Nat.mul_le_mul_right _ (by omega)
   have h2:2 ^ (sh+7)=128*2 ^ sh:=by rw [Nat.pow_add,Nat.mul_comm]
   omega
  have hGs:zIS b (f+1) at' n sh=if x.toNat<128 then (if 0<x.toNat∨sh=0 then .ok (n+x.toNat*2 ^ sh,at'+1) else .error 4) else zIS b f (at'+1) (n+(x.toNat % 128)*2 ^ sh) (sh+7):=by
   rw [zIS,hx]
  refine zAE (fun hb=>?_) (fun hb=>?_)
  ·have hb:x.toNat<128:=by have:=of_decide_eq_true hb; omega
   have hm:x.toNat % 128=x.toNat:=Nat.mod_eq_of_lt hb
   rw [if_pos hb] at hGs
   have done:∀ e1:Env,e1 1=.int .i64 most→e1 5=.int .i64 ((n+x.toNat % 128*2 ^ sh:Nat):Int)→(0<x.toNat∨sh=0)→(zFY none (stepK (fun k e ds W'=>Chg (RdS rb) W W'∧ds=[]∧1≤k∧k≤6∧∃ at' n sh:Nat,Rd A W' rb vb at'∧at'≤b.length∧e 0=.pointer (some ⟨rb,0,none⟩)∧e 1=.int .i64 most∧e 5=.int .i64 n∧e 6=.int .i64 sh∧sh=7*(6-k)∧n<2 ^ sh∧zIS b 6 at_ 0 0=zIS b k at' n sh) (f+1) (zBz 0 (zFZ none KK)))) .normal e1 [] W1:=by
    intro e1 g1 g5 hor
    simp only [zFY,qKn,qKr,qKx,qKp,bKn,bKr,bKp,bKx,tKn,tKr,tKx,tKp,zKn,zKr,zKx,zKp]
    simp only [bKx,if_true]
    refine hgo e1 W1 _ (at'+1) hc' hr1 g1 g5 ?_
    rw [hG,hGs,if_pos hor,hm]
   refine zAl (zA4 _ _ _) ?_
   refine zAE (fun hq=>?_) (fun hq=>?_)
   ·have hq:0<x.toNat:=by have:=of_decide_eq_true hq; omega
    refine zDG (fun _=>?_) (fun hf=>by cases hf)
    exact done _ (by simp only [eKc,eKn,eKa,Nat.reduceEqDiff,↓reduceIte,gKz,gKs,dKs,and_self,h1]) (by simp only [eKc,eKn,eKa,Nat.reduceEqDiff,↓reduceIte,gKz,gKs,dKs,and_self]) (.inl hq)
   ·have hq:¬0<x.toNat:=by have:=of_decide_eq_false hq; omega
    refine zAl (zA0 _ _ _) ?_
    refine zDG (fun hz=>?_) (fun hz=>?_)
    ·have hz:sh=0:=by have:=eq_of_beq hz; omega
     exact done _ (by simp only [eKc,eKn,eKa,Nat.reduceEqDiff,↓reduceIte,gKz,gKs,dKs,and_self,h1]) (by simp only [eKc,eKn,eKa,Nat.reduceEqDiff,↓reduceIte,gKz,gKs,dKs,and_self]) (.inr hz)
    ·have hz:¬sh=0:=by
      intro e
      subst e
      simp at hz
     simp only [zFY,qKp,bKp,tKp,zFZ]
     refine hpan _ W1 hc' t1 ?_
     unfold zDT
     rw [hG,hGs,if_neg (by omega)]
  ·have hb:¬x.toNat<128:=by have:=of_decide_eq_false hb; omega
   rw [if_neg hb] at hGs
   refine zAl (zA4 _ _ _) ?_
   refine zAE (fun hq=>?_) (fun hq=>?_)
   ·have hq:=of_decide_eq_true hq
    have hf:f=0:=by omega
    refine zDG (fun hf=>by cases hf) (fun _=>?_)
    simp only [tKp,bKp,zFZ,qKp]
    refine hpan _ W1 hc' t1 ?_
    unfold zDT
    rw [hG,hGs,hf]
    rfl
   ·have hq:=of_decide_eq_false hq
    simp only [tKn]
    exact ⟨f,by omega,hc',trivial,by omega,by omega,at'+1,_,sh+7,hr1,by omega,by simp only [eKc,eKn,eKa,Nat.reduceEqDiff,↓reduceIte,gKz,gKs,dKs,and_self,h0],by simp only [eKc,eKn,eKa,Nat.reduceEqDiff,↓reduceIte,gKz,gKs,dKs,and_self,h1],by simp only [eKc,eKn,eKa,Nat.reduceEqDiff,↓reduceIte,gKz,gKs,dKs,and_self],by simp only [eKc,eKn,eKa,Nat.reduceEqDiff,↓reduceIte,gKz,gKs,dKs,and_self]; rfl,by omega,hn',by rw [hG,hGs]⟩
end Go.Ce
namespace Go.Ce
open Go Go.Proofs Go.Proofs.Tryz
def zEA (l:List UInt8):ByteArray:=⟨l.toArray⟩
theorem zG5:∀ l:List UInt8,zDh (l.map fun x=>Value.int .u8 (x.toNat:Int))=some l
 | []=>rfl
 | x::l=>by
  simp only [List.map_cons,zDh,zG5 l]
  congr 2
  simp
theorem cvb_bytes {W:CW} {v:Value} {l:List UInt8} (h:IsSl 1 (RByte W) v l):cvb prog 29 9 v W=some (.string (zEA l)):=by
 obtain ⟨a,cap,rfl,hc⟩:=h
 have h5:prog.underlying 5=some (.int .u8):=by kernel_rfl
 unfold cvb
 rw [u29,u9]
 have hf:zCs a l.length W=some (l.map fun x=>Value.int .u8 (x.toNat:Int)):=by
  cases l with
  | nil=>cases a <;> rfl
  | cons x l =>
   obtain ⟨p,rfl,_⟩:=hc 0 x rfl
   have:=zFy (W:=W) (a:=p) (cs:=(x::l).map fun x=>Value.int .u8 (x.toNat:Int)) fun j v hj=>by
    rw [List.getElem?_map,Option.map_eq_some_iff] at hj
    obtain ⟨y,hy,rfl⟩:=hj
    obtain ⟨p',hp',hr⟩:=hc j y hy
    cases hp'
    rwa [show p.off+j=p.off+j*1 by omega]
   rwa [List.length_map] at this
 simp only [cbts,h5,hf,zCQ,zG5]
 rfl
def AskOk (A:CW) (vf:Value) (ask:ByteArray→Option Int):Prop:=∀ s W K KP,Kp A W→Top W→(ask s=none→∀ v W',Kp W W'→Top W'→K v W')→(∀ e,ask s=some e→∀ W',Kp W W'→Top W'→KP (zB0 e) W')→zBn prog pkL vf [.string s] W K KP
def zDq (b:List UInt8) (ask:ByteArray→Option Int):Nat→Nat→List ByteArray→Except Int (List ByteArray × Nat)
 | 0,at_,out=>.ok (out,at_)
 | k+1,at_,out=>match zDT b at_ 60 with
  | .error e=>.error e
  | .ok (n,a1)=>match zD9 b a1 n with
   | .error e=>.error e
   | .ok a2=>if zDp (zEA ((b.drop a1).take n))=true∧(out.any fun x=>decide (x=zEA ((b.drop a1).take n)))=false then
     (match ask (zEA ((b.drop a1).take n)) with
     | some e=>.error e
     | none=>zDq b ask k a2 (out++[zEA ((b.drop a1).take n)]))
    else .error 4
def zEC (b:List UInt8) (ask:ByteArray→Option Int) (at_:Nat):Except Int (List ByteArray × Nat):=match zDT b at_ 128 with
 | .error e=>.error e
 | .ok (n,a1)=>if n=1 then (match zDT b a1 100 with
   | .error e=>.error e
   | .ok (k,a2)=>zDq b ask k a2 [])
  else .error 4
theorem zHK {b:List UInt8} {at_ n a:Nat} (h:zD9 b at_ n=.ok a):a=at_+n∧a≤b.length:=by
 unfold zD9 at h
 split at h
 ·cases h; exact ⟨rfl,by assumption⟩
 ·cases h
theorem takeP_err {b:List UInt8} {at_ n:Nat} {e:Int} (h:zD9 b at_ n=.error e):e=4:=by
 unfold zD9 at h
 split at h
 ·cases h
 ·cases h; rfl
theorem numG_ok {b:List UInt8}:∀ {f at_ n sh m a:Nat},zIS b f at_ n sh=.ok (m,a)→at_<a∧a≤b.length
 | 0,_,_,_,_,_,h=>by cases h
 | f+1,at_,n,sh,m,a,h=>by
  unfold zIS at h
  split at h
  ·cases h
  ·rename_i x hx
   have hlt:=(List.getElem?_eq_some_iff.1 hx).1
   split at h
   ·split at h
    ·cases h; omega
    ·cases h
   ·have:=numG_ok h; omega
theorem zCU {b:List UInt8} {at_ n a:Nat} {most:Int} (h:zDT b at_ most=.ok (n,a)):(n:Int)≤most∧at_<a∧a≤b.length:=by
 unfold zDT at h
 split at h
 ·cases h
 ·rename_i n' a' hg
  split at h
  ·cases h; exact ⟨by assumption,numG_ok hg⟩
  ·cases h
theorem Chg.rd {rb:Nat} {A B C:CW} (h:Chg (RdS rb) A B) (k:Chg (RdS rb) B C):Chg (RdS rb) A C:=h.then k fun _ _ h=>h
theorem Kp.rd {rb:Nat} {A B:CW} (h:Kp A B):Chg (RdS rb) A B:=Chg.of_kp h
theorem RByte.kp {A W:CW} {v:Value} {x:List UInt8} (I:Top A) (k:Kp A W) (h:IsSl 1 (RByte A) v x):IsSl 1 (RByte W) v x:=h.imp fun _ _ _ hr=>k.cell I hr
theorem head_ok {A W:CW} {rb at_:Nat} {vb vf:Value} {b:List UInt8} {ask:ByteArray→Option Int} (I:RdIn A vb b) (h:Rd A W rb vb at_) (ha:at_≤b.length) (hask:AskOk A vf ask) :
  WCall prog pkL 92 [.pointer (some ⟨rb,0,none⟩),vf] W (zHE A rb vb (fun v l W'=>Own W' 9 1 v (strs l)∧Newer W.sz v) (zEC b ask at_) W):=by
 refine f92_w ?_
 rw [f92_c]
 generalize hPost:zHE A rb vb (fun v l W'=>Own W' 9 1 v (strs l)∧Newer W.sz v) (zEC b ask at_) W=Post
 generalize hKK:zAD prog Tryz.f92 Post=KK
 have hpan:∀ (e:Env) W' c,Chg (RdS rb) W W'→Top W'→zEC b ask at_=.error c→KK (.panic (zB0 c)) e [] W':=by
  intro e W' c hc ht hn
  rw [←hKK]
  show Post (.panicked (zB0 c)) W'
  rw [←hPost]
  refine ⟨hc,ht,?_⟩
  rw [hn]
 refine (zEK (most:=128) I h ha).mono fun en W1 ⟨hc1,t1,hp⟩=>?_
 cases hn1:zDT b at_ 128 with
 | error c =>
  rw [hn1] at hp
  have hp:en=.panicked (zB0 c):=hp
  subst hp
  exact zBp (hpan _ W1 c hc1 t1 (by unfold zEC; rw [hn1]))
 | ok r =>
  obtain ⟨n,a1⟩:=r
  rw [hn1] at hp
  obtain ⟨v,rfl,rfl,hr1⟩:=hp
  refine zAZ ?_
  refine zAl (zA0 _ _ _) ?_
  refine zDG (fun hb=>?_) (fun hb=>?_)
  rotate_left
  ·have hb:¬n=1:=by intro e; subst e; simp at hb
   exact hpan _ W1 4 hc1 t1 (by unfold zEC; rw [hn1]; simp only; rw [if_neg hb])
  have hb:n=1:=by have:=eq_of_beq hb; omega
  obtain ⟨_,_,ha1⟩:=zCU hn1
  refine (zEK (most:=100) I hr1 ha1).mono fun en W2 ⟨hc2,t2,hp⟩=>?_
  have hc2:=hc1.rd hc2
  cases hn2:zDT b a1 100 with
  | error c =>
   rw [hn2] at hp
   have hp:en=.panicked (zB0 c):=hp
   subst hp
   refine zBp ?_
   simp only [zF1,qKp]
   exact hpan _ W2 c hc2 t2 (by unfold zEC; rw [hn1]; simp only; rw [if_pos hb,hn2])
  | ok r =>
   obtain ⟨m,a2⟩:=r
   rw [hn2] at hp
   obtain ⟨v,rfl,rfl,hr2⟩:=hp
   obtain ⟨hm100,_,ha2⟩:=zCU hn2
   refine zAZ ?_
   have hH:zEC b ask at_=zDq b ask m a2 []:=by unfold zEC; rw [hn1]; simp only; rw [if_pos hb,hn2]
   refine zCk (fun i e ds W'=>ds=[]∧∃ at' out vo,Chg (RdS rb) W W'∧Rd A W' rb vb at'∧at'≤b.length∧out.length=i∧e 0=.pointer (some ⟨rb,0,none⟩)∧e 1=vf∧e 5=vo∧e 12=.int .i64 m∧e 13=.int .i64 i∧Own W' 9 1 vo (strs out)∧Newer W.sz vo∧zDq b ask m a2 []=zDq b ask (m-i) at' out) m
    ⟨rfl,a2,[],.slice none 0 0,hc2,hr2,ha2,rfl,rfl,rfl,rfl,rfl,rfl,Own.nil,Newer.nil _ _ _,rfl⟩ ?_
   rintro i e ds W' hi ⟨rfl,at',out,vo,hc,hr,hat,hol,h0,h1,h5,h12,h13,hO,hN,hG⟩
   rw [f92_l0,h0,h5,h12,h13]
   simp only [zAa,zAA]
   refine zHF (fun hlt=>?_) (fun hge=>?_)
   rotate_left
   ·have:i=m:=by omega
    subst this
    simp only [qKn,qKr,qKx,qKp,bKn,bKr,bKp,bKx,tKn,tKr,tKx,tKp,zKn,zKr,zKx,zKp,bKx,if_true,zF1]
    rw [←hKK,f92_leave,←hPost]
    refine ⟨hc,hr.top,?_⟩
    rw [hH,hG,Nat.sub_self]
    exact ⟨_,rfl,⟨by simp only [eKc,eKn,eKa,Nat.reduceEqDiff,↓reduceIte,gKz,gKs,dKs,and_self,h5]; exact hO,by simp only [eKc,eKn,eKa,Nat.reduceEqDiff,↓reduceIte,gKz,gKs,dKs,and_self,h5]; exact hN⟩,hr⟩
   ·obtain ⟨f,hf⟩:∃ f,m-i=f+1:=⟨m-i-1,by omega⟩
    rw [hf] at hG
    have hstep:zDq b ask (f+1) at' out=match zDT b at' 60 with
      | .error e=>.error e
      | .ok (n,a1)=>match zD9 b a1 n with
       | .error e=>.error e
       | .ok a2=>if zDp (zEA ((b.drop a1).take n))=true∧(out.any fun x=>decide (x=zEA ((b.drop a1).take n)))=false then
         (match ask (zEA ((b.drop a1).take n)) with
         | some e=>.error e
         | none=>zDq b ask f a2 (out++[zEA ((b.drop a1).take n)]))
        else .error 4:=rfl
    rw [hstep] at hG
    have bad:∀ (e:Env) W1 c,Chg (RdS rb) W' W1→Top W1→zDq b ask m a2 []=.error c→KK (.panic (zB0 c)) e [] W1:=fun e W1 c c1 t1 hh=>hpan e W1 c (hc.rd c1) t1 (by rw [hH,hh])
    refine (zEK (most:=60) I hr hat).mono fun en W3 ⟨hc3,t3,hp⟩=>?_
    cases hn3:zDT b at' 60 with
    | error c =>
     rw [hn3] at hp hG
     have hp:en=.panicked (zB0 c):=hp
     subst hp
     refine zBp ?_
     simp only [zEd,qKn,qKr,qKx,qKp,bKn,bKr,bKp,bKx,tKn,tKr,tKx,tKp,zKn,zKr,zKx,zKp,zF1]
     exact bad _ W3 c hc3 t3 hG
    | ok r =>
     obtain ⟨k,a3⟩:=r
     rw [hn3] at hp hG
     obtain ⟨v,rfl,rfl,hr3⟩:=hp
     obtain ⟨hk60,_,ha3⟩:=zCU hn3
     refine zAZ ?_
     simp only at hG
     refine (take_ok I hr3 ha3 (by omega)).mono fun en W4 ⟨hc4,t4,hp⟩=>?_
     have hc4:=hc3.rd hc4
     cases hn4:zD9 b a3 k with
     | error c =>
      rw [hn4] at hp hG
      have hp:en=.panicked (zB0 c):=hp
      subst hp
      refine zBp ?_
      simp only [zEd,qKn,qKr,qKx,qKp,bKn,bKr,bKp,bKx,tKn,tKr,tKx,tKp,zKn,zKr,zKx,zKp,zF1]
      exact bad _ W4 c hc4 t4 hG
     | ok a4 =>
      rw [hn4] at hp hG
      obtain ⟨v,rfl,hv,hr4⟩:=hp
      obtain ⟨ha4,ha4b⟩:=zHK hn4
      simp only at hG
      generalize hs:zEA ((b.drop a3).take k)=s at hG
      refine zAZ ?_
      refine zAl (v:=.string s) (by rw [←hs]; exact cvb_bytes (RByte.kp I.top hr4.kp hv)) ?_
      have hssz:s.size<1000000:=by
       rw [←hs]
       show ((b.drop a3).take k).toArray.size<1000000
       rw [List.size_toArray,List.length_take]
       omega
      refine (zFS t4 hssz).mono fun en W5 ⟨he,k5,t5⟩=>?_
      subst he
      refine zAZ ?_
      have hc5:=hc4.rd (k5.rd (rb:=rb))
      have hO5:Own W5 9 1 vo (strs out):=(hc5).own hr.top hO fun j hj e=>by
       have e:j=rb:=e
       subst e
       have:=zAs hr.blk (zBx hO hj); cases this
      have hr5:=hr4.kp' k5 t5
      refine zAE (fun hsy=>?_) (fun hsy=>?_)
      rotate_left
      ·refine zDG (fun hf=>by cases hf) (fun _=>?_)
       simp only [zDt,zEd,qKn,qKr,qKx,qKp,bKn,bKr,bKp,bKx,tKn,tKr,tKx,tKp,zKn,zKr,zKx,zKp,zF1]
       refine bad _ W5 4 hc5 t5 ?_
       rw [hG,if_neg (by rw [hsy]; simp)]
      obtain ⟨ao,co,hvo,hoc⟩:=zEP (f:=fun (s:ByteArray)=>Value.string s) hO5
      have hctn:=zF8 (s:=s) (W:=W5) (v:=vo) (l:=out) ⟨ao,co,hvo,hoc⟩ (by omega)
      refine zBw hctn ?_
      refine zAl (zAT _) ?_
      refine zDG (fun hct=>?_) (fun hct=>?_)
      rotate_left
      ·simp only [zDt,zEd,qKn,qKr,qKx,qKp,bKn,bKr,bKp,bKx,tKn,tKr,tKx,tKp,zKn,zKr,zKx,zKp,zF1]
       refine bad _ W5 4 hc5 t5 ?_
       rw [hG,if_neg (by rintro ⟨_,h2⟩; rw [h2] at hct; cases hct)]
      have hct:(out.any fun x=>decide (x=s))=false:=by
       cases hq:out.any fun x=>decide (x=s) with
       | false=>rfl
       | true=>rw [hq] at hct; cases hct
      rw [if_pos ⟨hsy,hct⟩] at hG
      simp only [zDt,qKn,qKr,qKx,qKp,bKn,bKr,bKp,bKx,tKn,tKr,tKx,tKp,zKn,zKr,zKx,zKp]
      simp only [eKc,eKn,eKa,Nat.reduceEqDiff,↓reduceIte,gKz,gKs,dKs,and_self,h1,h5,h13]
      refine hask s W5 _ _ hr5.kp t5 (fun hno v W6 k6 t6=>?_) (fun c hyes W6 k6 t6=>?_)
      rotate_left
      ·rw [hyes] at hG
       simp only [zEd,qKn,qKr,qKx,qKp,bKn,bKr,bKp,bKx,tKn,tKr,tKx,tKp,zKn,zKr,zKx,zKp,zF1]
       exact bad _ W6 c (hc5.rd k6.rd) t6 hG
      ·rw [hno] at hG
       have hO6:Own W6 9 1 vo (strs out):=(Chg.of_kp (S:=fun _=>False) k6).own t5 hO5 fun j hj h=>h
       refine zGH u51 s9 z9 rfl (by omega) by9 (by omega) (bsl51 _) rfl rfl t6 hO6 (by rw [zFh]; omega) fun u Wa v1' W7 ka ta hpu t7 o7 n7=>?_
       have hc6:Chg (RdS rb) W' W6:=hc5.rd k6.rd
       have hr6:=hr5.kp' k6 t6
       have hne:¬zA2 vo rb:=fun hj=>by have:=zAs hr6.blk (zBx hO6 hj); cases this
       have hszW:W.sz≤W6.sz:=Nat.le_trans hc.sz hc6.sz
       have hkp7:Kp A W7:=hpu.kp hr6.kp fun b' l' c' e=>by
        have:=hN b' l' c' e
        have:=h.kp.sz
        omega
       have hc7:Chg (RdS rb) W W7:=(hc.rd hc6).then (hpu.chg) fun j hj hi=>by
        obtain ⟨b',l',c',e1,e2⟩:=hi
        have:=hN b' l' c' e1
        omega
       simp only [zEd,qKn,qKr,qKx,qKp,bKn,bKr,bKp,bKx,tKn,tKr,tKx,tKp,zKn,zKr,zKx,zKp]
       simp only [eKc,eKn,eKa,Nat.reduceEqDiff,↓reduceIte,gKz,gKs,dKs,and_self,h13,zAX,zAA,qKn,qKr,qKx,qKp,bKn,bKr,bKp,bKx,tKn,tKr,tKx,tKp,zKn,zKr,zKx,zKp]
       refine ⟨hlt,trivial,a4,out++[s],v1',hc7,⟨hkp7,t7,hr.hb,hpu.blk t6 hr6.blk fun b' l' c' e hb=>hne ⟨b',l',c',e,hb⟩⟩,ha4b,by simp [hol],?_,?_,?_,?_,?_,by rw [strs_app]; exact o7,n7 _ hszW,?_⟩
       ·simp only [eKc,eKn,eKa,Nat.reduceEqDiff,↓reduceIte,gKz,gKs,dKs,and_self,h0]
       ·simp only [eKc,eKn,eKa,Nat.reduceEqDiff,↓reduceIte,gKz,gKs,dKs,and_self,h1]
       ·first | rfl | (simp only [eKc,eKn,eKa,Nat.reduceEqDiff,↓reduceIte,gKz,gKs,dKs,and_self])
       ·simp only [eKc,eKn,eKa,Nat.reduceEqDiff,↓reduceIte,gKz,gKs,dKs,and_self,h12]
       ·rw [zCi (by omega)]
       ·rw [hG,show m-(i+1)=f by omega]
end Go.Ce
namespace Go.Ce
open Go Go.Proofs Go.Proofs.Tryz
theorem kinds1P_ok {l bk bx r1 r2 n ix:Nat} {c:List Shp} {ty:ByteArray} (hix:zBQ c ty=some ix) (hnl:n<100000) (hn:zAL c ix=0→n≤(zAw c ix).length) (J:Nat→CW→Prop) (Bad:List PanicEntry→CW→Prop) (hJ:∀ i W,J i W→KdAt W bk bx r1 r2 c ty n)
  (hround:∀ i W,i<n→J i W→WRound prog pkL l [.int .i64 i,.int .u8 (zA5 c ix i)] W fun e W'=>(e=.returned (.bool true)∧J (i+1) W')∨∃ ch,e=.panicked ch∧Bad ch W') {W:CW} (h0:J 0 W) :
  WCall prog pkL 108 [.func (.yield l) #[] #[],.pointer (some ⟨bk,0,none⟩),.pointer (some ⟨bx,0,none⟩)] W fun e W'=>(e=.returned (.tuple #[])∧J n W')∨∃ ch,e=.panicked ch∧Bad ch W':=by
 refine f108_w ?_
 rw [f108_c]
 have K0:=hJ 0 W h0
 obtain ⟨a0,cap0,hx1⟩:=K0.x1
 obtain ⟨ea,eb,ef,eg,hel⟩:=K0.cat.sh.elem hix
 simp only [zDY,zCX,zCM,zAA]
 rw [zAC a75 (a:=⟨bk,0,none⟩) K0.k0,zAC a9 (a:=⟨bx,0,none⟩) K0.x0,zAC a40 (a:=⟨bx,0+1,none⟩) hx1]
 simp only [zAA,hel,zGc,zAQ u40]
 refine zCk (fun i e ds W'=>ds=[]∧e 0=.func (.yield l) #[] #[]∧e 1=.pointer (some ⟨bk,0,none⟩)∧e 2=.pointer (some ⟨bx,0,none⟩)∧e 4=.int .u8 (zAL c ix)∧e 15=.int .i64 n∧e 16=.int .i64 i∧J i W') n ⟨rfl,rfl,rfl,rfl,rfl,rfl,rfl,h0⟩ ?_
 rintro i e ds W' hi ⟨rfl,h0,h1,h2,h4,h15,h16,hj⟩
 rw [f108_l0,h1,h2,h4,h15,h16]
 simp only [zAa,zAA]
 refine zHF (fun hlt=>?_) (fun hge=>?_)
 ·have hcall:∀ (e1:Env),Agree [0,1,2,4,15,16] e e1→e1 5=.int .i64 i→e1 6=.int .u8 (zA5 c ix i) →
    (zGg none (forK (fun i e ds W'=>ds=[]∧e 0=.func (.yield l) #[] #[]∧e 1=.pointer (some ⟨bk,0,none⟩)∧e 2=.pointer (some ⟨bx,0,none⟩)∧e 4=.int .u8 (zAL c ix)∧e 15=.int .i64 n∧e 16=.int .i64 i∧J i W') i n (zBz 0 (zAD prog Tryz.f108 fun e W'=>(e=.returned (.tuple #[])∧J n W')∨∃ ch,e=.panicked ch∧Bad ch W')))) .normal e1 [] W':=by
   intro e1 hA h5 h6
   have g0:=(hA 0 (by decide)).trans h0
   have g16:=(hA 16 (by decide)).trans h16
   simp only [zGg,qKn,qKr,qKx,qKp,bKn,bKr,bKp,bKx,tKn,tKr,tKx,tKp,zKn,zKr,zKx,zKp,g0,h5,h6]
   refine zGs ((hround i W' hlt hj).mono fun en W1 hp=>?_)
   rcases hp with ⟨rfl,hj1⟩ | ⟨ch,rfl,hst⟩
   ·simp only [zAK,zAT,zAA,Bool.not_true,zAW,zEh,qKn,qKr,qKx,qKp,bKn,bKr,bKp,bKx,tKn,tKr,tKx,tKp,zKn,zKr,zKx,zKp]
    simp only [eKc,eKn,eKa,Nat.reduceEqDiff,↓reduceIte,gKz,gKs,dKs,and_self,g16,zAX,zAA,qKn,qKr,qKx,qKp,bKn,bKr,bKp,bKx,tKn,tKr,tKx,tKp,zKn,zKr,zKx,zKp]
    exact ⟨hlt,trivial,g0,(hA 1 (by decide)).trans h1,(hA 2 (by decide)).trans h2,(hA 4 (by decide)).trans h4,(hA 15 (by decide)).trans h15,by rw [zCi (by omega)],hj1⟩
   ·simp only [zAK,zEh,qKn,qKr,qKx,qKp,bKn,bKr,bKp,bKx,tKn,tKr,tKx,tKp,zKn,zKr,zKx,zKp]
    exact .inr ⟨ch,rfl,hst⟩
  simp only [zA0,zAA]
  refine zAE (fun he=>?_) (fun he=>?_)
  ·have he:zAL c ix=0:=by simpa using he
   have Ki:=hJ i W' hj
   have hil:=zC6 hix
   have hrl:i<(zAw c ix).length:=by have:=hn he; omega
   obtain ⟨ar,cr,lr,hrr⟩:=Ki.cat.rw.some hix
   obtain ⟨_,_,e3,hrc⟩:=hrr
   cases e3
   obtain ⟨pr,rfl,hpr⟩:=hrc i _ (List.getElem?_eq_getElem hrl)
   simp only [zEb,zCX,zAA]
   rw [zAC a76 (a:=⟨bk,0+1,none⟩) Ki.k1,zAC a9 (a:=⟨bx,0,none⟩) Ki.x0]
   simp only [zAA,lr]
   rw [zAi u29 s5 hrl]
   simp only [zAA]
   rw [zAC a5 (a:=⟨pr.block,pr.off+i*1,none⟩) hpr]
   simp only [zAA]
   refine hcall _ (.put rfl) rfl ?_
   show Value.int .u8 (zAw c ix)[i]=_
   rw [zFu he hil,List.getElem?_eq_getElem hrl]; rfl
  ·have he:zAL c ix≠0:=by simpa using he
   refine hcall _ (.put rfl) rfl ?_
   show Value.int .u8 (zAL c ix)=_
   have hil:=zC6 hix
   unfold zA5
   unfold zAL at he ⊢
   rw [List.getElem?_eq_getElem hil] at he ⊢
   simp only at he ⊢
   rw [if_pos he]
 ·simp only [qKn,qKr,qKx,qKp,bKn,bKr,bKp,bKx,tKn,tKr,tKx,tKp,zKn,zKr,zKx,zKp,if_true]
  have hi:i=n:=by omega
  exact zFa _ _ (.inl rfl) _ _ (.inl ⟨rfl,hi ▸ hj⟩)
theorem w_kindsP {fn:FuncId} {nt:Nat} {f:Operand} {p1 p2 a1 a2:Tmp} {A B:Code} {e:Env} {ds:List Deferred} {W:CW} {K:zAH} {bk bx r1 r2 n ix:Nat} {c:List Shp} {ty:ByteArray} (ht:Top W)
  (hf:e.ev f=.func (.func 108) #[] #[.pointer (some ⟨bk,0,none⟩),.pointer (some ⟨bx,0,none⟩)]) (hix:zBQ c ty=some ix) (hnl:n<100000) (hn:zAL c ix=0→n≤(zAw c ix).length)
  (hA:∀ ro e0 ds K W,zAJ prog pkL ro fn nt A e0 ds W K=K .normal (Env.of e0 [(a2,e0 p2),(a1,e0 p1)]) ds W) (hdist:p1≠p2∧a1≠a2)
  (J:Nat→CW→Prop) (Bad:List PanicEntry→CW→Prop) (hJ:∀ i W,J i W→KdAt W bk bx r1 r2 c ty n)
  (hJl:∀ i W1 W2,J i W1→Upd (W.sz+1) W1 W2→(∀ b k v,W1.cell b k=some v→W2.cell b k=some v)→J i W2)
  (h0:∀ W2,Kp W W2→Top W2→W2.sz=W.sz+2→W2.obj W.sz=some .deferred→J 0 W2)
  (hbody:∀ (i:Nat) W1 (Kb:zAH) (E:Env),(∀ t,t≠p1→t≠p2→t≠a1→t≠a2→E t=e t)→E a1=.int .i64 i→E a2=.int .u8 (zA5 c ix i)→i<n→J i W1→(∃ o,W1.obj (W.sz+1)=some o∧∀ a b c d,o≠.cells a b c d) →
   (∀ e' ds' W3,W3.obj (W.sz+1)=W1.obj (W.sz+1)→J (i+1) W3→Kb .normal e' ds' W3)→(∀ ch e' W3,W3.obj (W.sz+1)=W1.obj (W.sz+1)→Bad ch W3→Kb (.panic ch) e' [] W3) →
   zAJ prog pkL (some (W.sz+1)) fn nt B E [] W1 Kb)
  (hend:∀ W',J n W'→K .normal e (zEx W.sz::ds) W') (hpan:∀ ch W',Bad ch W'→K (.panic ch) e (zEx W.sz::ds) W') :
  zC0 prog pkL none fn nt (.rangeFunc f #[p1,p2] A B) e ds W K:=by
 have hcell:∀ {W1 W2:CW} {st pend fn' e' nt' ps' A' B' d'},LoopAt W1 (W.sz+1) st pend fn' e' nt' ps' A' B' d'→Upd (W.sz+1) W1 W2→∀ b k v,W1.cell b k=some v→W2.cell b k=some v:=by
  intro W1 W2 st pend fn' e' nt' ps' A' B' d' hl hu b k v hc
  obtain ⟨T,ho,_⟩:=hl
  rw [hu.cell]
  ·exact hc
  ·rintro rfl
   unfold CW.cell at hc
   rw [ho] at hc; cases hc
 refine w_rangeP (g:=108) (args:=[.func (.yield (W.sz+1)) #[] #[],.pointer (some ⟨bk,0,none⟩),.pointer (some ⟨bx,0,none⟩)]) ht ?_ fun W2 k2 t2 z2 hd hl=>?_
 ·rw [hf]; rfl
 ·refine (kinds1P_ok (J:=fun i W'=>J i W'∧LoopAt W' (W.sz+1) .ready none fn e nt #[p1,p2] A B W.sz) (Bad:=Bad) hix hnl hn (fun i W' h=>hJ i W' h.1) (fun i W' hi h=>?_) ⟨h0 W2 k2 t2 z2 hd,hl⟩).mono fun en W' hr=>?_
  ·obtain ⟨hj,hl'⟩:=h
   refine w_round hl' rfl ?_
   rw [hA]
   refine ⟨rfl,none,e,nt,#[p1,p2],A,B,W.sz,hl',fun W3 hu hl3=>?_⟩
   have hj3:=hJl i W' W3 hj hu (hcell hl' hu)
   obtain ⟨hd1,hd2⟩:=hdist
   refine hbody i W3 _ _ (fun t h1 h2 h3 h4=>by simp only [eKc,eKn,List.zip_cons_cons,List.zip_nil_left,Env.sets,if_neg h1,if_neg h2,if_neg h3,if_neg h4]) (by simp only [eKc,eKn,List.zip_cons_cons,List.zip_nil_left,Env.sets,if_neg hd1,if_neg hd2,if_true]) (by simp only [eKc,eKn,List.zip_cons_cons,List.zip_nil_left,Env.sets,if_true,if_neg (Ne.symm hd1)]) hi hj3 (by obtain ⟨T,ho,_⟩:=hl3; exact ⟨_,ho,fun _ _ _ _ h=>by cases h⟩) (fun e' ds' W4 ho hj4=>?_) (fun ch e' W4 ho hb4=>?_)
   ·refine ⟨.busy,none,fn,e,nt,#[p1,p2],A,B,W.sz,hl3.congr ho,fun W5 hu5 hl5=>.inl ⟨rfl,?_,hl5⟩⟩
    exact hJl _ W4 W5 hj4 hu5 (hcell (hl3.congr ho) hu5)
   ·exact ⟨.busy,none,fn,e,nt,#[p1,p2],A,B,W.sz,hl3.congr ho,rfl,.inr ⟨ch,rfl,hb4⟩⟩
  ·rcases hr with ⟨rfl,hj,hl'⟩ | ⟨ch,rfl,hb⟩
   ·refine ⟨⟨_,rfl⟩,.ready,none,fn,e,nt,#[p1,p2],A,B,W.sz,hl',(by intro h; cases h),fun W5 hu5=>hend W5 ?_⟩
    exact hJl _ W' W5 hj hu5 (hcell hl' hu5)
   ·exact hpan ch W' hb
end Go.Ce
namespace Go.Ce
open Go Go.Proofs Go.Proofs.Tryz
def unwP (n:Nat):Int:=if n % 2=1 then -((((n+1) / 2:Nat)):Int) else ((n / 2:Nat):Int)
def zCO (b:List UInt8) (c:List Shp) (ix many:Nat):Nat→Nat→Nat→Nat→List Int→Except Int (List Int × Nat × Nat)
 | 0,_,at_,fd,vs=>.ok (vs,fd,at_)
 | m+1,k,at_,fd,vs=>if zA5 c ix k=2 then
   (match zDT b at_ ((min (fd+1) many:Nat):Int) with
   | .error e=>.error e
   | .ok (n,a)=>zCO b c ix many m (k+1) a (max fd n) (vs++[(n:Int)]))
  else
   (match zDT b at_ 2000000000 with
   | .error e=>.error e
   | .ok (n,a)=>zCO b c ix many m (k+1) a fd (vs++[unwP n]))
theorem w_min (a b:Int) (W:CW):blt prog .min [3,3] [.int .i64 a,.int .i64 b] W=some (.int .i64 (min a b),W):=by
 have h:blt prog .min [3,3] [.int .i64 a,.int .i64 b] W=some (.int .i64 (cond (decide (b<a)) b a),W):=rfl
 rw [h]
 by_cases hq:b<a
 ·rw [decide_eq_true hq,Int.min_eq_right (by omega)]; rfl
 ·rw [decide_eq_false hq,Int.min_eq_left (by omega)]; rfl
theorem w_max (a b:Int) (W:CW):blt prog .max [3,3] [.int .i64 a,.int .i64 b] W=some (.int .i64 (max a b),W):=by
 have h:blt prog .max [3,3] [.int .i64 a,.int .i64 b] W=some (.int .i64 (cond (decide (a<b)) b a),W):=rfl
 rw [h]
 by_cases hq:a<b
 ·rw [decide_eq_true hq,Int.max_eq_right (by omega)]; rfl
 ·rw [decide_eq_false hq,Int.max_eq_left (by omega)]; rfl
theorem a124:agg? prog 124=some false:=by kernel_rfl
def zIW (n:Nat) (vs:List Int):List Value:=zCo (vs++List.replicate (n-vs.length) 0)
theorem zFl {n:Nat} {vs:List Int} (h:vs.length≤n):(zIW n vs).length=n:=by
 unfold zIW zCo
 rw [List.length_map,List.length_append,List.length_replicate]; omega
theorem padV_put {n:Nat} {vs:List Int} (h:vs.length<n) (x:Int):zEN (zIW n vs) (0+vs.length*1) [.int .i64 x]=zIW n (vs++[x]):=by
 have h1:0+vs.length*1=vs.length:=by omega
 have hl:=zFl (Nat.le_of_lt h)
 have hl2:=zFl (n:=n) (vs:=vs++[x]) (by simp; omega)
 rw [h1]
 apply List.ext_getElem?
 intro j
 rw [zEM (by rw [hl]; simp; omega)]
 unfold zIW zCo
 simp only [List.length_singleton,List.getElem?_map]
 by_cases e:vs.length≤j∧j<vs.length+1
 ·have:j=vs.length:=by omega
  subst this
  rw [if_pos e,Nat.sub_self]
  rw [List.getElem?_append_left (by simp),List.getElem?_append_right (by omega),Nat.sub_self]
  rfl
 ·rw [if_neg e]
  by_cases hj:j<vs.length
  ·rw [List.getElem?_append_left hj,List.getElem?_append_left (by simp; omega),List.getElem?_append_left hj]
  ·rw [List.getElem?_append_right (by omega),List.getElem?_append_right (by simp; omega)]
   simp only [List.length_append,List.length_singleton,List.getElem?_replicate]
   by_cases h2:j-vs.length<n-vs.length
   ·rw [if_pos h2,if_pos (by omega)]
   ·rw [if_neg h2,if_neg (by omega)]
theorem padV_over {n:Nat} {vs:List Int} (h:vs.length<n) (x y:Int):zEN (zIW n (vs++[x])) (0+vs.length*1) [.int .i64 y]=zIW n (vs++[y]):=by
 have h1:0+vs.length*1=vs.length:=by omega
 have hl:=zFl (n:=n) (vs:=vs++[x]) (by simp; omega)
 rw [h1]
 apply List.ext_getElem?
 intro j
 rw [zEM (by rw [hl]; simp; omega)]
 unfold zIW zCo
 simp only [List.length_singleton,List.getElem?_map]
 by_cases e:vs.length≤j∧j<vs.length+1
 ·have:j=vs.length:=by omega
  subst this
  rw [if_pos e,Nat.sub_self]
  rw [List.getElem?_append_left (by simp),List.getElem?_append_right (by omega),Nat.sub_self]
  rfl
 ·rw [if_neg e]
  by_cases hj:j<vs.length
  ·rw [List.getElem?_append_left (by simp; omega),List.getElem?_append_left hj,List.getElem?_append_left (by simp; omega),List.getElem?_append_left hj]
  ·rw [List.getElem?_append_right (by simp; omega),List.getElem?_append_right (by simp; omega)]
   simp only [List.length_append,List.length_singleton]
def S3 (rb b10 bv j:Nat):Prop:=j=rb∨j=b10∨j=bv
structure VIn (A WI:CW) (rb b3 b8 b10 b14 bv n many:Nat) (ty:ByteArray):Prop where
 top:Top WI
 c3:Blk WI b3 124 [.pointer (some ⟨rb,0,none⟩)]
 c8:Blk WI b8 3 [.int .i64 many]
 x:Blk WI b14 56 [.string ty,.slice (some ⟨bv,0,none⟩) n n]
 hrb:A.sz≤rb∧A.sz≤b10∧A.sz≤bv
 ne:b8≠b10∧b8≠bv∧b10≠bv
 many:many≤1000
structure VJ (A WI:CW) (rb b10 bv n:Nat) (vb:Value) (W:CW) (at_ fd:Nat) (vs:List Int):Prop where
 chg:Chg (S3 rb b10 bv) WI W
 rd:Rd A W rb vb at_
 f:Blk W b10 3 [.int .i64 fd]
 v:Blk W bv 3 (zIW n vs)
theorem S3_not {rb b10 bv:Nat} {WI:CW} {b:Nat} {el:TypeId} {vs x y z:List Value} (h:Blk WI b el vs) (hr:Blk WI rb 170 x) (hf:Blk WI b10 3 y) (hv:Blk WI bv 3 z) (h1:el≠170) (h2:el≠3):¬S3 rb b10 bv b:=by
 rintro (rfl | rfl | rfl)
 ·exact h1 (zAs h hr)
 ·exact h2 (zAs h hf)
 ·exact h2 (zAs h hv)
theorem f74_vals {A WI W:CW} {K:zAH} {E:Env} {rb b3 b8 b10 b14 bv n many ix at_ fd i:Nat} {vb:Value} {b:List UInt8} {c:List Shp} {ty:ByteArray} {vs:List Int} {ro:Option Nat}
  (I:RdIn A vb b) (V:VIn A WI rb b3 b8 b10 b14 bv n many ty) {xr yf zv:List Value} (hr0:Blk WI rb 170 xr) (hf0:Blk WI b10 3 yf) (hv0:Blk WI bv 3 zv) (J:VJ A WI rb b10 bv n vb W at_ fd vs) (hat:at_≤b.length) (hvl:vs.length=i) (hi:i<n) (hfd:fd≤1000)
  (q3:E 3=.pointer (some ⟨b3,0,none⟩)) (q8:E 8=.pointer (some ⟨b8,0,none⟩)) (q10:E 10=.pointer (some ⟨b10,0,none⟩)) (q14:E 14=.pointer (some ⟨b14,0,none⟩)) (q16:E 16=.int .i64 i) (q17:E 17=.int .u8 (zA5 c ix i)) {G:Except Int (List Int × Nat × Nat)} {m:Nat}
  (hG:G=zCO b c ix many (m+1) i at_ fd vs)
  (hok:∀ e' W' at' fd' vs',Chg (S3 rb b10 bv) W W'→VJ A WI rb b10 bv n vb W' at' fd' vs'→at'≤b.length→fd'≤1000→vs'.length=i+1→G=zCO b c ix many m (i+1) at' fd' vs'→K .normal e' [] W')
  (hbad:∀ e' W' x,Chg (S3 rb b10 bv) W W'→Chg (S3 rb b10 bv) WI W'→Top W'→G=.error x→K (.panic (zB0 x)) e' [] W') :
  zAJ prog pkL ro 74 140 (rfB prog 74 0) E [] W K:=by
 obtain ⟨hn1,hn2,hn3⟩:=V.ne
 have nb3:=S3_not V.c3 hr0 hf0 hv0 (by decide) (by decide)
 have nbx:=S3_not V.x hr0 hf0 hv0 (by decide) (by decide)
 have nb8:¬S3 rb b10 bv b8:=by
  rintro (e | e | e)
  ·have h8:=V.c8
   rw [e] at h8
   have:=zAs h8 hr0; cases this
  ·exact hn1 e
  ·exact hn2 e
 have hbvrb:bv≠rb:=by
  rintro rfl
  have:=zAs hv0 hr0; cases this
 have hb10rb:b10≠rb:=by
  rintro rfl
  have:=zAs hf0 hr0; cases this
 have atW:∀ W',Chg (S3 rb b10 bv) WI W'→ld prog 124 (.pointer (some ⟨b3,0,none⟩)) W'=some (.pointer (some ⟨rb,0,none⟩))∧ld prog 3 (.pointer (some ⟨b8,0,none⟩)) W'=some (.int .i64 many)∧ld prog 40 (.pointer (some ⟨b14,0+1,none⟩)) W'=some (.slice (some ⟨bv,0,none⟩) n n):=fun W' h =>
  ⟨zAC a124 (a:=⟨b3,0,none⟩) ((h.blk V.top nb3 V.c3).cell rfl),zAC a3 (a:=⟨b8,0,none⟩) ((h.blk V.top nb8 V.c8).cell rfl),zAC a40 (a:=⟨b14,0+1,none⟩) ((h.blk V.top nbx V.x).cell rfl)⟩
 have hpl:(zIW n vs).length=n:=zFl (by omega)
 have hmany:=V.many
 obtain ⟨l3,l8,lx⟩:=atW W J.chg
 have l10:ld prog 3 (.pointer (some ⟨b10,0,none⟩)) W=some (.int .i64 fd):=zAC a3 (a:=⟨b10,0,none⟩) (J.f.cell rfl)
 rw [zCO] at hG
 have put:∀ (W1:CW) (x:Int),Chg (S3 rb b10 bv) WI W1→Top W1→Blk W1 bv 3 (zIW n vs)→∀ {Kx:CW→Prop},(∀ W2,Upd bv W1 W2→Chg (S3 rb b10 bv) WI W2→Top W2→Blk W2 bv 3 (zIW n (vs++[x]))→Kx W2)→wV (sto prog 3 (.pointer (some ⟨bv,0+i*1,none⟩)) (.int .i64 x) W1) Kx:=by
  intro W1 x hc ht hB Kx hk
  refine zAV s3 (a:=⟨bv,0+i*1,none⟩) (v:=.int .i64 x) rfl hB (by rw [hpl]; simp; omega) fun W2 hu hB2=>?_
  have hu:Upd bv W1 W2:=hu
  refine hk W2 hu (hc.then hu.chg fun j _ h=>.inr (.inr h)) (ht.upd (hB.lt ht) hu) ?_
  have:=padV_put (n:=n) (vs:=vs) (by omega) x
  rw [hvl] at this
  rw [←this]; exact hB2
 have hiad:iad prog 40 (.slice (some ⟨bv,0,none⟩) n n) (.int .i64 i)=some (.pointer (some ⟨bv,0+i*1,none⟩)):=zAi (i:=i) u40 s3 hi
 rw [f74_b0,q17]
 simp only [zA0,zAA]
 refine zAE (fun hk=>?_) (fun hk=>?_)
 ·have hk:zA5 c ix i=2:=by simpa using hk
  rw [if_pos hk] at hG
  rw [q14,q3,q10,q8,q16]
  simp only [zCM,zAA]
  rw [lx,l3,l10,l8]
  simp only [zAX,zAA]
  rw [show ((fd:Int)+1)=((fd+1:Nat):Int) by omega,zBV (by omega) (by omega)]
  refine zDH (w_min _ _ W) ?_
  rw [show min ((fd+1:Nat):Int) (many:Int)=((min (fd+1) many:Nat):Int) by omega]
  refine (zEK I J.rd hat).mono fun en W1 ⟨hc1,t1,hp⟩=>?_
  have hC1:Chg (S3 rb b10 bv) WI W1:=J.chg.then hc1 fun j _ h=>.inl h
  obtain ⟨l3',l8',lx'⟩:=atW W1 hC1
  cases hn:zDT b at_ ((min (fd+1) many:Nat):Int) with
  | error x =>
   rw [hn] at hp hG
   have hp:en=.panicked (zB0 x):=hp
   subst hp
   refine zBp ?_
   exact ⟨by simp only [l3,l8,lx,l10,and_self],hbad _ W1 x (Chg.refl (S3 rb b10 bv) W |>.then hc1 fun j _ h=>.inl h) hC1 t1 hG⟩
  | ok r =>
   obtain ⟨x,a1⟩:=r
   rw [hn] at hp hG
   obtain ⟨v,rfl,rfl,hr1⟩:=hp
   obtain ⟨hx1,_,ha1⟩:=zCU hn
   refine zAZ ?_
   rw [hiad]
   simp only [zAA]
   have hv1:=hc1.blk J.rd.top hbvrb J.v
   have hf1:=hc1.blk J.rd.top hb10rb J.f
   refine put W1 x hC1 t1 hv1 fun W2 hu hC2 t2 hB2=>?_
   obtain ⟨l3'',l8'',lx''⟩:=atW W2 hC2
   refine ⟨by simp only [l3,l3',l8,lx,lx',l10,and_self],trivial,?_⟩
   have hf2:Blk W2 b10 3 [.int .i64 fd]:=hf1.congr (hu.obj _ hn3)
   have l10':ld prog 3 (.pointer (some ⟨b10,0,none⟩)) W2=some (.int .i64 fd):=zAC a3 (a:=⟨b10,0,none⟩) (hf2.cell rfl)
   have lv:ld prog 3 (.pointer (some ⟨bv,0+i*1,none⟩)) W2=some (.int .i64 x):=by
    refine zAC a3 (a:=⟨bv,0+i*1,none⟩) (hB2.cell ?_)
    show (zIW n (vs++[(x:Int)]))[0+i*1]?=_
    unfold zIW zCo
    rw [List.getElem?_map,List.getElem?_append_left (by simp; omega),List.getElem?_append_right (by omega),show 0+i*1-vs.length=0 by omega]
    rfl
   rw [l10',lx'']
   simp only [zAA]
   rw [hiad]
   simp only [zAA]
   rw [lv]
   simp only [zAA]
   refine zDH (w_max _ _ W2) ?_
   rw [show max (fd:Int) (x:Int)=((max fd x:Nat):Int) by omega]
   refine zAV s3 (a:=⟨b10,0,none⟩) (v:=.int .i64 ((max fd x:Nat):Int)) rfl hf2 (by simp) fun W3 hu3 hB3=>?_
   have hu3:Upd b10 W2 W3:=hu3
   have hB3:Blk W3 b10 3 [.int .i64 ((max fd x:Nat):Int)]:=hB3
   have hC3:Chg (S3 rb b10 bv) WI W3:=hC2.then hu3.chg fun j _ h=>.inr (.inl h)
   have t3:=t2.upd (hf2.lt t2) hu3
   refine ⟨by simp only [lv,lx'',l10',and_self],trivial,?_⟩
   refine hok _ W3 a1 (max fd x) (vs++[(x:Int)]) (((Chg.refl (S3 rb b10 bv) W |>.then hc1 fun j _ h=>.inl h).then hu.chg fun j _ h=>.inr (.inr h)).then hu3.chg fun j _ h=>.inr (.inl h)) ⟨hC3,⟨(hr1.kp.upd V.hrb.2.2 hu).upd V.hrb.2.1 hu3,t3,hr1.hb,(hr1.blk.congr (hu.obj _ (Ne.symm hbvrb))).congr (hu3.obj _ (Ne.symm hb10rb))⟩,hB3,hB2.congr (hu3.obj _ (Ne.symm hn3))⟩ ha1 (by omega) (by simp [hvl]) hG
 ·have hk:zA5 c ix i≠2:=by simpa using hk
  rw [if_neg hk] at hG
  rw [q14,q3,q16,l3]
  simp only [zAA]
  refine (zEK (most:=2000000000) I J.rd hat).mono fun en W1 ⟨hc1,t1,hp⟩=>?_
  have hC1:Chg (S3 rb b10 bv) WI W1:=J.chg.then hc1 fun j _ h=>.inl h
  obtain ⟨l3',l8',lx'⟩:=atW W1 hC1
  cases hn:zDT b at_ 2000000000 with
  | error x =>
   rw [hn] at hp hG
   have hp:en=.panicked (zB0 x):=hp
   subst hp
   refine zBp ?_
   exact hbad _ W1 x (Chg.refl (S3 rb b10 bv) W |>.then hc1 fun j _ h=>.inl h) hC1 t1 hG
  | ok r =>
   obtain ⟨x,a1⟩:=r
   rw [hn] at hp hG
   obtain ⟨v,rfl,rfl,hr1⟩:=hp
   obtain ⟨hx1,_,ha1⟩:=zCU hn
   refine zAZ ?_
   simp only [zCM,zAA]
   rw [lx']
   simp only [zAA]
   refine zAl (cbin_quo _ _ _ (by decide)) ?_
   rw [show ((x:Int).tdiv 2)=((x / 2:Nat):Int) by rw [Int.tdiv_eq_ediv_of_nonneg (by omega)]; omega,zBV (by omega) (by omega)]
   rw [hiad]
   simp only [zAA]
   have hv1:=hc1.blk J.rd.top hbvrb J.v
   have hf1:=hc1.blk J.rd.top hb10rb J.f
   refine put W1 _ hC1 t1 hv1 fun W2 hu hC2 t2 hB2=>?_
   obtain ⟨l3'',l8'',lx''⟩:=atW W2 hC2
   have hf2:Blk W2 b10 3 [.int .i64 fd]:=hf1.congr (hu.obj _ hn3)
   have hr2:Rd A W2 rb vb a1:=⟨hr1.kp.upd V.hrb.2.2 hu,t2,hr1.hb,hr1.blk.congr (hu.obj _ (Ne.symm hbvrb))⟩
   refine zAl (cbin_rem _ _ _ (by decide)) ?_
   rw [show ((x:Int).tmod 2)=((x % 2:Nat):Int) by rw [Int.tmod_eq_emod_of_nonneg (by omega)]; rfl]
   refine zAl (zA0 _ _ _) ?_
   refine zAE (fun ho=>?_) (fun ho=>?_)
   ·have ho:x % 2=1:=by have:=eq_of_beq ho; omega
    rw [lx'']
    simp only [zAX,zAA]
    rw [show ((x:Int)+1)=((x+1:Nat):Int) by omega,zBV (by omega) (by omega)]
    refine zAl (v:=.int .i64 (-((x+1:Nat):Int))) (by
     show some (Value.int .i64 (IntKind.i64.wrap (0-((x+1:Nat):Int))))=_
     rw [zBV (by omega) (by omega),Int.zero_sub]) ?_
    refine zAl (cbin_quo _ _ _ (by decide)) ?_
    rw [show ((-((x+1:Nat):Int)).tdiv 2)=-(((x+1) / 2:Nat):Int) by rw [Int.neg_tdiv,Int.tdiv_eq_ediv_of_nonneg (by omega)]; omega,zBV (by omega) (by omega)]
    rw [hiad]
    simp only [zAA]
    have hl2:=zFl (n:=n) (vs:=vs++[((x / 2:Nat):Int)]) (by simp; omega)
    refine zAV s3 (a:=⟨bv,0+i*1,none⟩) (v:=.int .i64 (-(((x+1) / 2:Nat):Int))) rfl hB2 (by rw [hl2]; simp; omega) fun W3 hu3 hB3=>?_
    have hu3:Upd bv W2 W3:=hu3
    have hov:=padV_over (n:=n) (vs:=vs) (by omega) ((x / 2:Nat):Int) (-(((x+1) / 2:Nat):Int))
    rw [hvl] at hov
    have hB3:Blk W3 bv 3 (zIW n (vs++[-(((x+1) / 2:Nat):Int)])):=by rw [←hov]; exact hB3
    have t3:=t2.upd (hB2.lt t2) hu3
    have hu':unwP x=-(((x+1) / 2:Nat):Int):=by unfold unwP; rw [if_pos ho]
    refine hok _ W3 a1 fd (vs++[-(((x+1) / 2:Nat):Int)]) (((Chg.refl (S3 rb b10 bv) W |>.then hc1 fun j _ h=>.inl h).then hu.chg fun j _ h=>.inr (.inr h)).then hu3.chg fun j _ h=>.inr (.inr h)) ⟨hC2.then hu3.chg fun j _ h=>.inr (.inr h),⟨hr2.kp.upd V.hrb.2.2 hu3,t3,hr1.hb,hr2.blk.congr (hu3.obj _ (Ne.symm hbvrb))⟩,hf2.congr (hu3.obj _ hn3),hB3⟩ ha1 hfd (by simp [hvl]) (by rw [hG]; show zCO b c ix many m (i+1) a1 fd (vs++[unwP x])=_; rw [hu'])
   ·have ho:¬x % 2=1:=by
     intro e
     rw [e] at ho
     simp at ho
    have hu':unwP x=((x / 2:Nat):Int):=by unfold unwP; rw [if_neg ho]
    exact hok _ W2 a1 fd (vs++[((x / 2:Nat):Int)]) ((Chg.refl (S3 rb b10 bv) W |>.then hc1 fun j _ h=>.inl h).then hu.chg fun j _ h=>.inr (.inr h)) ⟨hC2,hr2,hf2,hB2⟩ ha1 hfd (by simp [hvl]) (by rw [hG]; show zCO b c ix many m (i+1) a1 fd (vs++[unwP x])=_; rw [hu'])
end Go.Ce
namespace Go.Ce
open Go Go.Proofs Go.Proofs.Tryz
def Marks (B:Nat) (W:CW) (ds:List Deferred):Prop:=∃ rs:List Nat,ds=rs.map zEx∧rs.Nodup∧∀ r,r ∈ rs→W.obj r=some .deferred∧B≤r
theorem Marks.nil (B:Nat) (W:CW):Marks B W []:=⟨[],rfl,List.nodup_nil,fun r h=>by cases h⟩
theorem zHt {P:Program} {fn:Func} {Q:Ending→CW→Prop} {x:Exit} {e:Env} {B:Nat} {W:CW} (ht:Top W) {ds:List Deferred} (h:Marks B W ds) (hq:∀ W',(∀ j o,W.obj j=some o→o≠.deferred→W'.obj j=some o)→(∀ j,j<B→W'.obj j=W.obj j)→W'.sz=W.sz→Top W'→zAD P fn Q x e [] W'):zAD P fn Q x e ds W:=by
 obtain ⟨rs,rfl,hnd,hr⟩:=h
 suffices key:∀ (rs:List Nat) (W0:CW),Top W0→rs.Nodup→(∀ r,r ∈ rs→W0.obj r=some .deferred∧B≤r)→(∀ W',(∀ j o,W0.obj j=some o→o≠.deferred→W'.obj j=some o)→(∀ j,j<B→W'.obj j=W0.obj j)→W'.sz=W0.sz→Top W'→zAD P fn Q x e [] W')→zAD P fn Q x e (rs.map zEx) W0 from key rs W ht hnd hr hq
 intro rs
 induction rs with
 | nil=>intro W0 ht _ _ hq; exact hq W0 (fun j o h _=>h) (fun j _=>rfl) rfl ht
 | cons r rs ih =>
  intro W0 ht hnd hr hq
  obtain ⟨hr1,hr2⟩:=hr r (by simp)
  obtain ⟨hn1,hn2⟩:=List.nodup_cons.1 hnd
  refine zDg hr1 (ih (W0.upd r .dead) (ht.upd (ht _ _ hr1) (Upd.of _ _ _)) hn2 (fun r' h'=>?_) fun W' h1 h2 h3 h4=>hq W' (fun j o hj ho=>?_) (fun j hj=>?_) h3 h4)
  ·obtain ⟨a,b⟩:=hr r' (by simp [h'])
   exact ⟨by rw [zCl,if_neg (by rintro rfl; exact hn1 h')]; exact a,b⟩
  ·refine h1 j o ?_ ho
   rw [zCl,if_neg]
   ·exact hj
   ·rintro rfl
    rw [hr1] at hj; cases hj; exact ho rfl
  ·rw [h2 j hj,zCl,if_neg (by omega)]
theorem Marks.chg {B:Nat} {W W':CW} {ds:List Deferred} (h:Marks B W ds) (ho:∀ j,W.obj j=some .deferred→B≤j→W'.obj j=some .deferred):Marks B W' ds:=by
 obtain ⟨rs,h1,h2,h3⟩:=h
 exact ⟨rs,h1,h2,fun r hr=>⟨ho r (h3 r hr).1 (h3 r hr).2,(h3 r hr).2⟩⟩
theorem Marks.push {B:Nat} {W:CW} {ds:List Deferred} {r:Nat} (h:Marks B W ds) (hr:W.obj r=some .deferred) (hB:B≤r) (hn:zEx r ∉ ds):Marks B W (zEx r::ds):=by
 obtain ⟨rs,rfl,h2,h3⟩:=h
 refine ⟨r::rs,rfl,List.nodup_cons.2 ⟨fun hm=>hn (List.mem_map.2 ⟨r,hm,rfl⟩),h2⟩,fun r' hr'=>?_⟩
 rcases List.mem_cons.1 hr' with rfl | hm
 ·exact ⟨hr,hB⟩
 ·exact h3 r' hm
def zBi (b:List UInt8) (c:List Shp) (ts:List ByteArray) (many:Nat):Nat→Nat→Nat→Nat→Nat→List Thg→Except Int (List Thg × Nat × Nat × Nat)
 | 0,_,at_,used,fd,out=>.ok (out,used,fd,at_)
 | m+1,i,at_,used,fd,out=>if i<fd then
   (match zDT b at_ (min (used:Int) ((ts.length:Int)-1)) with
   | .error e=>.error e
   | .ok (t,a1)=>match ts[t]? with
    | none=>.error 4
    | some ty=>match zBQ c ty with
     | none=>.error 4
     | some ix=>match (if zAL c ix≠0 then zDT b a1 200 else .ok ((zAw c ix).length,a1)) with
      | .error e=>.error e
      | .ok (n,a2)=>match zCO b c ix many n 0 a2 fd [] with
       | .error e=>.error e
       | .ok (vs,fd',a3)=>zBi b c ts many m (i+1) a3 (if t=used then used+1 else used) fd' (out++[⟨ty,vs⟩]))
  else .error 4
def zAp (b:List UInt8) (c:List Shp) (ask:ByteArray→Option Int) (at_:Nat):Except Int (List Thg × Nat):=match zEC b ask at_ with
 | .error e=>.error e
 | .ok (ts,a1)=>match zDT b a1 1000 with
  | .error e=>.error e
  | .ok (many,a2)=>match zBi b c ts many many 0 a2 0 (min many 1) [] with
   | .error e=>.error e
   | .ok (out,used,fd,a3)=>if fd=many∧used=ts.length∧a3=b.length then .ok (out,a3) else .error 4
def zGj (p:Thg × Value):List Value:=[.string p.1.type,p.2]
def PvOk (B:Nat) (W:CW) (ps:List (Thg × Value)):Prop:=∀ p,p ∈ ps→∃ bv,p.2=.slice (some ⟨bv,0,none⟩) p.1.vals.length p.1.vals.length∧Blk W bv 3 (zCo p.1.vals)∧B≤bv
structure HeapAt (B:Nat) (W:CW) (v:Value) (ps:List (Thg × Value)):Prop where
 own:Own W 56 2 v (ps.flatMap zGj)
 new:Newer B v
 pv:PvOk B W ps
theorem HeapAt.of {B:Nat} {W W':CW} {v:Value} {ps:List (Thg × Value)} (h:HeapAt B W v ps) (ho:∀ j o,B≤j→W.obj j=some o→o≠.deferred→W'.obj j=some o):HeapAt B W' v ps:=by
 refine ⟨zJn h.own fun j hj=>?_,h.new,fun p hp=>?_⟩
 ·obtain ⟨c,n,z,hob,_⟩:=zBx h.own hj
  rw [hob]
  exact ho j _ (h.new.in hj) hob (by simp)
 ·obtain ⟨bv,h1,hB,h3⟩:=h.pv p hp
  refine ⟨bv,h1,?_,h3⟩
  obtain ⟨c,n,z,hob,hx⟩:=hB
  exact ⟨c,n,z,ho bv _ h3 hob (by simp),hx⟩
end Go.Ce
namespace Go.Ce
open Go Go.Proofs Go.Proofs.Tryz
structure TP where
 A:CW
 L:CW
 rb:Nat
 b3:Nat
 b4:Nat
 b8:Nat
 b10:Nat
 r1:Nat
 r2:Nat
 vb:Value
 vt:Value
 b:List UInt8
 c:List Shp
 ts:List ByteArray
 many:Nat
 G:Except Int (List Thg × Nat × Nat × Nat)
structure TIn (p:TP):Prop where
 rd:RdIn p.A p.vb p.b
 cat:CatAt p.A p.r1 p.r2 p.c
 ok:zA8 p.c=true
 C:Cat p.c
 top:Top p.L
 kA:Kp p.A p.L
 c3:Blk p.L p.b3 124 [.pointer (some ⟨p.rb,0,none⟩)]
 c4:Blk p.L p.b4 78 [.map (some p.r1),.map (some p.r2)]
 c8:Blk p.L p.b8 3 [.int .i64 p.many]
 vt:Own p.L 9 1 p.vt (strs p.ts)
 tl:p.ts.length≤100
 known:∀ s,s ∈ p.ts→(zBQ p.c s).isSome=true
 xr:∃ v,Blk p.L p.rb 170 v
 xf:∃ v,Blk p.L p.b10 3 v
 hrb:p.A.sz≤p.rb∧p.A.sz≤p.b10
 ne:p.b8≠p.b10
 many:p.many≤1000
def S2 (rb b10 j:Nat):Prop:=j=rb∨j=b10
structure TJ (p:TP) (W:CW) (at_ fd:Nat) (vo:Value) (ps:List (Thg × Value)) (ds:List Deferred):Prop where
 chg:Chg (S2 p.rb p.b10) p.L W
 rd:Rd p.A W p.rb p.vb at_
 f:Blk W p.b10 3 [.int .i64 fd]
 heap:HeapAt p.L.sz W vo ps
 marks:Marks p.L.sz W ds
structure TE (p:TP) (e:Env) (i used:Nat) (vo:Value):Prop where
 e3:e 3=.pointer (some ⟨p.b3,0,none⟩)
 e4:e 4=.pointer (some ⟨p.b4,0,none⟩)
 e7:e 7=p.vt
 e8:e 8=.pointer (some ⟨p.b8,0,none⟩)
 e9:e 9=.int .i64 used
 e10:e 10=.pointer (some ⟨p.b10,0,none⟩)
 e11:e 11=vo
 e26:e 26=.int .i64 p.many
 e27:e 27=.int .i64 i
def TP.J (p:TP) (i:Nat) (e:Env) (ds:List Deferred) (W:CW):Prop:=∃ at_ fd used vo ps,TJ p W at_ fd vo ps ds∧TE p e i used vo∧at_≤p.b.length∧fd≤1000∧used≤p.ts.length∧ps.length=i∧p.G=zBi p.b p.c p.ts p.many (p.many-i) i at_ used fd (ps.map (·.1))
section
variable {p:TP} (I:TIn p)
include I
theorem TIn.lts:p.rb<p.L.sz∧p.b10<p.L.sz:=by
 obtain ⟨_,h1⟩:=I.xr
 obtain ⟨_,h2⟩:=I.xf
 exact ⟨h1.lt I.top,h2.lt I.top⟩
theorem TIn.rne:p.rb≠p.b10:=by
 obtain ⟨_,h1⟩:=I.xr
 obtain ⟨_,h2⟩:=I.xf
 intro e
 rw [e] at h1
 have:=zAs h1 h2; cases this
theorem TIn.not2 {b:Nat} {el:TypeId} {vs:List Value} (h:Blk p.L b el vs) (h1:el≠170) (h2:el≠3):¬S2 p.rb p.b10 b:=by
 obtain ⟨_,k1⟩:=I.xr
 obtain ⟨_,k2⟩:=I.xf
 rintro (rfl | rfl)
 ·exact h1 (zAs h k1)
 ·exact h2 (zAs h k2)
theorem TIn.at {W:CW} (h:Chg (S2 p.rb p.b10) p.L W):ld prog 124 (.pointer (some ⟨p.b3,0,none⟩)) W=some (.pointer (some ⟨p.rb,0,none⟩))∧Blk W p.b4 78 [.map (some p.r1),.map (some p.r2)]∧Blk W p.b3 124 [.pointer (some ⟨p.rb,0,none⟩)]∧Blk W p.b8 3 [.int .i64 p.many]∧Own W 9 1 p.vt (strs p.ts):=by
 have h3:=h.blk I.top (I.not2 I.c3 (by decide) (by decide)) I.c3
 refine ⟨zAC a124 (a:=⟨p.b3,0,none⟩) (h3.cell rfl),h.blk I.top (I.not2 I.c4 (by decide) (by decide)) I.c4,h3,h.blk I.top ?_ I.c8,h.own I.top I.vt fun j hj=>I.not2 (zBx I.vt hj) (by decide) (by decide)⟩
 rintro (e | e)
 ·obtain ⟨_,k1⟩:=I.xr
  have h8:=I.c8
  rw [e] at h8
  have:=zAs h8 k1; cases this
 ·exact I.ne e
theorem TJ.step {W W':CW} {at_ fd at':Nat} {vo:Value} {ps:List (Thg × Value)} {ds:List Deferred} (J:TJ p W at_ fd vo ps ds) (hc:Chg (RdS p.rb) W W') (hr:Rd p.A W' p.rb p.vb at'):TJ p W' at' fd vo ps ds:=by
 have hl:=I.lts
 have hs:=J.chg.sz
 have hob:∀ j o,W.obj j=some o→j≠p.rb→W'.obj j=some o:=fun j o hj hne=>by rw [hc.obj j (J.rd.top _ _ hj) hne]; exact hj
 exact ⟨J.chg.then hc fun j _ h=>.inl h,hr,J.f.congr (hc.obj _ (by omega) (Ne.symm I.rne)),J.heap.of fun j o hB hj _=>hob j o hj (by omega),J.marks.chg fun j hj hB=>hob j _ hj (by omega)⟩
end
end Go.Ce
namespace Go.Ce
open Go Go.Proofs Go.Proofs.Tryz
theorem by56:(prog.info? 56).map (·.bytes)=some 40:=by kernel_rfl
theorem bsl24 (s:ByteArray) (a:Addr) (n m:Nat) (W:CW):bsl prog 24 1 [(0,.agg [.string s,.slice (some a) n m].toArray)] W=some (.slice (some ⟨W.sz,0,none⟩) 1 1,W.new (.cells (Tr.nil.putFrom 0 [.string s,.slice (some a) n m]) [Value.string s,.slice (some a) n m].length #[] 56)):=by kernel_rfl
theorem s40':siz prog 40=some 1:=by kernel_rfl
theorem padV_nil (n:Nat):zIW n []=List.replicate n (.int .i64 0):=by
 unfold zIW zCo
 simp
theorem padV_all {n:Nat} {vs:List Int} (h:vs.length=n):zIW n vs=zCo vs:=by
 unfold zIW
 rw [h,Nat.sub_self]; simp
theorem zDx:∀ ps:List (Thg × Value),(ps.flatMap zGj).length=ps.length*2
 | []=>rfl
 | q::ps=>by
  have ih:=zDx ps
  simp only [List.flatMap_cons,List.length_append,ih,List.length_cons,zGj,List.length_nil]; omega
theorem mark_inj {a b:Nat} (h:zEx a=zEx b):a=b:=by
 unfold zEx at h
 injection h with h1 h2
 injection h1
theorem f74_k33_ok {p:TP} (I:TIn p) {K:zAH} {W:CW} {e:Env} {ds:List Deferred} {i n ix b14 at_ fd used m:Nat} {vo:Value} {ps:List (Thg × Value)} {ty:ByteArray} (J:TJ p W at_ fd vo ps ds) (E:TE p e i used vo)
  (h14:e 14=.pointer (some ⟨b14,0,none⟩)) (h15:e 15=.int .i64 n) (hx:Blk W b14 56 [.string ty,.slice none 0 0]) (hB14:p.L.sz≤b14) (hne:∀ j,zA2 vo j→j≠b14) (hix:zBQ p.c ty=some ix) (hrow:zAL p.c ix=0→n≤(zAw p.c ix).length) (hn:n≤20100) (hat:at_≤p.b.length) (hfd:fd≤1000) (hi:i<1000)
  (hlen:ps.length=i)
  (hG:p.G=match zCO p.b p.c ix p.many n 0 at_ fd [] with | .error e=>.error e | .ok (vs,fd',a3)=>zBi p.b p.c p.ts p.many m (i+1) a3 used fd' (ps.map (·.1)++[⟨ty,vs⟩]))
  (hpan:∀ e' ds' W' x,Marks p.L.sz W' ds'→Chg (S2 p.rb p.b10) p.L W'→Top W'→p.G=.error x→K (.panic (zB0 x)) e' ds' W')
  (hok:∀ e' ds' W' at' fd' vo' q,TJ p W' at' fd' vo' (ps++[q]) ds'→TE p e' (i+1) used vo'→at'≤p.b.length→fd'≤1000→p.G=zBi p.b p.c p.ts p.many m (i+1) at' used fd' ((ps++[q]).map (·.1))→K .normal e' ds' W') :
  (zFV none K) .normal e ds W:=by
 obtain ⟨hl1,hl2⟩:=I.lts
 have hs:=J.chg.sz
 simp only [zFV,qKn,qKr,qKx,qKp,bKn,bKr,bKp,bKx,tKn,tKr,tKx,tKp,zKn,zKr,zKx,zKp]
 rw [h15,h14]
 refine w_mks u40 s3 z3 rfl by3 (by omega) (n:=n) (by omega) J.rd.top fun W1 k1 t1 z1 hBv=>?_
 simp only [zCM,zAA]
 have hx1:=hx.ext J.rd.top k1
 refine zAV s40' (a:=⟨b14,0+1,none⟩) (v:=.slice (some ⟨W.sz,0,none⟩) n n) rfl hx1 (by simp) fun W2 hu hB2=>?_
 have hu:Upd b14 W1 W2:=hu
 have hB2:Blk W2 b14 56 [.string ty,.slice (some ⟨W.sz,0,none⟩) n n]:=by simpa [zEN] using hB2
 have h14l:=hx.lt J.rd.top
 have t2:=t1.upd (hx1.lt t1) hu
 have hu2:∀ j,j<W.sz→j≠b14→W2.obj j=W.obj j:=fun j hj hne=>by rw [hu.obj j hne,k1.obj j hj]
 have hC2:Chg (S2 p.rb p.b10) p.L W2:=⟨by rw [hu.sz]; have:=k1.sz; omega,fun j hj hS=>by rw [hu2 j (by omega) (by omega)]; exact J.chg.obj j hj hS⟩
 have hr2:Rd p.A W2 p.rb p.vb at_:=⟨(J.rd.kp.trans k1).upd (by have:=I.kA.sz; omega) hu,t2,J.rd.hb,J.rd.blk.congr (hu2 _ (by omega) (by omega))⟩
 have hbv2:Blk W2 W.sz 3 (zIW n []):=by
  rw [padV_nil]
  exact hBv.congr (hu.obj _ (by omega))
 have J2:TJ p W2 at_ fd vo ps ds:=by
  refine ⟨hC2,hr2,J.f.congr (hu2 _ (by omega) (by omega)),⟨zJn J.heap.own fun j hj=>hu2 j (zIX J.rd.top J.heap.own hj) (hne j hj),J.heap.new,fun q hq=>?_⟩,J.marks.chg fun j hj hB=>?_⟩
  ·obtain ⟨bv,h1,h2,h3⟩:=J.heap.pv q hq
   exact ⟨bv,h1,h2.congr (hu2 _ (h2.lt J.rd.top) (by rintro rfl; have:=zAs h2 hx; cases this)),h3⟩
  ·rw [hu2 j (J.rd.top _ _ hj) (by
    rintro rfl
    obtain ⟨c,nn,z,ho,_⟩:=hx
    rw [ho] at hj; cases hj)]
   exact hj
 obtain ⟨l3,B4,B3,B8,BT⟩:=I.at hC2
 rw [E.e4,ld78 B4,zA3 (vs:=[.string ty,.slice (some ⟨W.sz,0,none⟩) n n]) (a:=⟨b14,0,none⟩) a56 s56 rfl (by omega) hB2.cells]
 simp only [zAA]
 refine (zHO (r1:=p.r1) (r2:=p.r2) (ty:=ty) (vx:=.slice (some ⟨W.sz,0,none⟩) n n) t2).mono fun en W3 ⟨k3,t3,bk,bx,hen,hbk,hbx,hBk,hBx⟩=>?_
 subst hen
 refine zAZ ?_
 have z2:W.sz<W2.sz:=by rw [hu.sz,z1]; omega
 have hs3:=k3.sz
 have J3:TJ p W3 at_ fd vo ps ds:=J2.step I k3.rd (hr2.kp' k3 t3)
 have hC3:=J3.chg
 obtain ⟨l3',B4',B3',B8',BT'⟩:=I.at hC3
 have hBx3:Blk W3 b14 56 [.string ty,.slice (some ⟨W.sz,0,none⟩) n n]:=hB2.ext t2 k3
 have hbv3:Blk W3 W.sz 3 (zIW n []):=hbv2.ext t2 k3
 have V:VIn p.A W3 p.rb p.b3 p.b8 p.b10 b14 W.sz n p.many ty:=⟨t3,B3',B8',hBx3,⟨I.hrb.1,I.hrb.2,by have:=I.kA.sz; omega⟩,⟨I.ne,by have:=I.c8.lt I.top; omega,by omega⟩,I.many⟩
 have nS:∀ j,W3.sz≤j→¬S3 p.rb p.b10 W.sz j:=by
  rintro j hj (rfl | rfl | rfl) <;> omega
 have mk:∀ W',Chg (S3 p.rb p.b10 W.sz) W3 W'→W'.obj W3.sz=some .deferred→(∀ j o,W.obj j=some o→p.L.sz≤j→j≠b14→W'.obj j=some o)∧Marks p.L.sz W' (zEx W3.sz::ds)∧Chg (S2 p.rb p.b10) p.L W':=by
  intro W' hc hd
  have hob:∀ j o,W.obj j=some o→p.L.sz≤j→j≠b14→W'.obj j=some o:=by
   intro j o hj hB hn14
   have hjl:=J.rd.top _ _ hj
   rw [hc.obj j (by omega) (by rintro (rfl | rfl | rfl) <;> omega),k3.obj j (by omega),hu2 j hjl hn14]
   exact hj
  refine ⟨hob,Marks.push (J.marks.chg fun j hj hB=>?_) hd (by omega) fun hm=>?_,⟨by have:=hc.sz; omega,fun j hj hS=>by rw [hc.obj j (by omega) (by rintro (e | e | e); exact hS (.inl e); exact hS (.inr e); omega)]; exact hC3.obj j hj hS⟩⟩
  ·exact hob j _ hj hB (by
    rintro rfl
    obtain ⟨c,nn,z,ho,_⟩:=hx
    rw [ho] at hj; cases hj)
  ·obtain ⟨rs,hrs,_,hr⟩:=J.marks
   rw [hrs] at hm
   obtain ⟨r,hr1,hr2⟩:=List.mem_map.1 hm
   have:=mark_inj hr2
   subst this
   have:=J.rd.top _ _ (hr _ hr1).1
   omega
 have fin:∀ (W':CW) at' fd' vs,VJ p.A W3 p.rb p.b10 W.sz n p.vb W' at' fd' vs→W'.obj W3.sz=some .deferred→vs.length=n→TJ p W' at' fd' vo ps (zEx W3.sz::ds)∧Blk W' W.sz 3 (zCo vs)∧Blk W' b14 56 [.string ty,.slice (some ⟨W.sz,0,none⟩) n n]:=by
  intro W' at' fd' vs hv hd hvl
  obtain ⟨hob,hmk,hcL⟩:=mk W' hv.chg hd
  refine ⟨⟨hcL,hv.rd,hv.f,⟨zJn J.heap.own fun j hj=>?_,J.heap.new,fun q hq=>?_⟩,hmk⟩,?_,?_⟩
  ·obtain ⟨c,nn,z,ho,_⟩:=zBx J.heap.own hj
   rw [ho]
   exact hob j _ ho (J.heap.new.in hj) (hne j hj)
  ·obtain ⟨bv,h1,h2,h3⟩:=J.heap.pv q hq
   refine ⟨bv,h1,?_,h3⟩
   obtain ⟨c,nn,z,ho,hx'⟩:=h2
   exact ⟨c,nn,z,hob bv _ ho h3 (by
    rintro rfl
    have:=zAs (⟨c,nn,z,ho,hx'⟩:Blk W bv 3 _) hx; cases this),hx'⟩
  ·rw [←padV_all hvl]; exact hv.v
  ·refine hBx3.congr (hv.chg.obj _ (by omega) ?_)
   rintro (e | e | e) <;> omega
 have xr3:=J3.rd.blk
 have xf3:=J3.f
 refine w_kindsP (bk:=bk) (bx:=bx) (r1:=p.r1) (r2:=p.r2) (n:=n) (ix:=ix) (c:=p.c) (ty:=ty) t3 rfl hix (by omega) hrow (fun ro e0 ds K W=>f74_a0 ro e0 ds K W) ⟨by decide,by decide⟩
  (fun j W'=>W'.obj W3.sz=some .deferred∧W3.sz+2≤W'.sz∧∃ at' fd' vs,VJ p.A W3 p.rb p.b10 W.sz n p.vb W' at' fd' vs∧at'≤p.b.length∧fd'≤1000∧vs.length=j∧zCO p.b p.c ix p.many n 0 at_ fd []=zCO p.b p.c ix p.many (n-j) j at' fd' vs)
  (fun ch W'=>W'.obj W3.sz=some .deferred∧∃ x,ch=zB0 x∧Chg (S3 p.rb p.b10 W.sz) W3 W'∧Top W'∧zCO p.b p.c ix p.many n 0 at_ fd []=.error x)
  ?_ ?_ ?_ ?_ ?_ ?_
 ·rintro j W' ⟨_,_,at',fd',vs,hv,_⟩
  have hk:=hv.chg.blk t3 (S3_not hBk xr3 xf3 hbv3 (by decide) (by decide)) hBk
  have hxx:=hv.chg.blk t3 (S3_not hBx xr3 xf3 hbv3 (by decide) (by decide)) hBx
  exact ⟨hk.cell rfl,hk.cell rfl,I.cat.kp I.rd.top hv.rd.kp,hxx.cell rfl,_,_,hxx.cell rfl⟩
 ·rintro j W1' W2' ⟨hd,hsz,at',fd',vs,hv,h1,h2,h3,h4⟩ hul _
  refine ⟨by rw [hul.obj _ (by omega)]; exact hd,by rw [hul.sz]; exact hsz,at',fd',vs,⟨⟨by rw [hul.sz]; exact hv.chg.sz,fun j hj hS=>by rw [hul.obj j (by omega)]; exact hv.chg.obj j hj hS⟩,⟨hv.rd.kp.upd (by have:=I.kA.sz; omega) hul,hv.rd.top.upd (by omega) hul,hv.rd.hb,hv.rd.blk.congr (hul.obj _ (by omega))⟩,hv.f.congr (hul.obj _ (by omega)),hv.v.congr (hul.obj _ (by omega))⟩,h1,h2,h3,h4⟩
 ·rintro W4 k4 t4 z4 hd4
  exact ⟨hd4,by omega,at_,fd,[],⟨Chg.of_kp k4,J3.rd.kp' k4 t4,xf3.ext t3 k4,hbv3.ext t3 k4⟩,hat,hfd,rfl,rfl⟩
 ·rintro j W1 Kb E' hE ha1 ha2 hj ⟨hd,hsz,at',fd',vs,hv,hat',hfd',hvl,hv2⟩ hlo hnorm hpanb
  refine f74_vals (m:=n-j-1) (G:=zCO p.b p.c ix p.many n 0 at_ fd []) I.rd V xr3 xf3 hbv3 hv hat' hvl hj hfd' ((hE 3 (by decide) (by decide) (by decide) (by decide)).trans (by simp only [eKc,eKn,eKa,Nat.reduceEqDiff,↓reduceIte,gKz,gKs,dKs,and_self,E.e3])) ((hE 8 (by decide) (by decide) (by decide) (by decide)).trans (by simp only [eKc,eKn,eKa,Nat.reduceEqDiff,↓reduceIte,gKz,gKs,dKs,and_self,E.e8])) ((hE 10 (by decide) (by decide) (by decide) (by decide)).trans (by simp only [eKc,eKn,eKa,Nat.reduceEqDiff,↓reduceIte,gKz,gKs,dKs,and_self,E.e10])) ((hE 14 (by decide) (by decide) (by decide) (by decide)).trans (by simp only [eKc,eKn,eKa,Nat.reduceEqDiff,↓reduceIte,gKz,gKs,dKs,and_self,h14])) ha1 ha2 (by rw [hv2,Nat.sub_add_cancel (show 1≤n-j by omega)]) (fun e' W' at'' fd'' vs'' hcw hv' ha'' hf'' hl'' hG''=>?_) (fun e' W' x hcw hc' ht' hx'=>?_)
  ·have:=hcw.sz
   exact hnorm e' [] W' (hcw.obj _ (by omega) (nS _ (by omega))) ⟨by rw [hcw.obj _ (by omega) (nS _ (by omega))]; exact hd,by omega,at'',fd'',vs'',hv',ha'',hf'',hl'',by rw [hG'',show n-j-1=n-(j+1) by omega]⟩
  ·exact hpanb _ e' W' (hcw.obj _ (by omega) (nS _ (by omega))) ⟨by rw [hcw.obj _ (by omega) (nS _ (by omega))]; exact hd,x,rfl,hc',ht',hx'⟩
 ·rintro W' ⟨hd,hsz,at',fd',vs,hv,hat',hfd',hvl,hv2⟩
  rw [Nat.sub_self] at hv2
  obtain ⟨JF,hBv',hBx'⟩:=fin W' at' fd' vs hv hd hvl
  have hv2:zCO p.b p.c ix p.many n 0 at_ fd []=.ok (vs,fd',at'):=hv2
  rw [hv2] at hG
  simp only [f74_k30,qKn,qKr,qKx,qKp,bKn,bKr,bKp,bKx,tKn,tKr,tKx,tKp,zKn,zKr,zKx,zKp]
  simp only [eKc,eKn,eKa,Nat.reduceEqDiff,↓reduceIte,gKz,gKs,dKs,and_self,h14,E.e11]
  rw [zA3 (vs:=[.string ty,.slice (some ⟨W.sz,0,none⟩) n n]) (a:=⟨b14,0,none⟩) a56 s56 rfl (by omega) hBx'.cells]
  simp only [zAA]
  have hcl:=zDx ps
  refine zGH u24 s56 z56 rfl (by omega) by56 (by omega) (bsl24 _ _ _ _) rfl rfl hv.rd.top JF.heap.own (by rw [hcl]; omega) fun u Wa v1' W10 ka ta hpu t10 o10 n10=>?_
  have hz10:=hpu.sz
  have hzv:=hv.chg.sz
  have hpo:∀ j o,W'.obj j=some o→¬zA2 vo j→W10.obj j=some o:=fun j o hj hS=>by rw [hpu.chg.obj j (hv.rd.top _ _ hj) hS]; exact hj
  have hnS:∀ j,j<p.L.sz→¬zA2 vo j:=fun j hj hi=>by have:=J.heap.new.in hi; omega
  have hnB:∀ {j:Nat} {el:TypeId} {ws:List Value},Blk W' j el ws→el≠56→¬zA2 vo j:=fun hB he hi=>he (zAs hB (zBx JF.heap.own hi))
  have keepB:∀ {j:Nat} {ws:List Value},Blk W' j 3 ws→Blk W10 j 3 ws:=fun {j ws} hB=>by
   obtain ⟨c,nn,z,ho,hx'⟩:=hB
   exact ⟨c,nn,z,hpo j _ ho (hnB (⟨c,nn,z,ho,hx'⟩:Blk W' j 3 ws) (by decide)),hx'⟩
  simp only [zDB,qKn,qKr,qKx,qKp,bKn,bKr,bKp,bKx,tKn,tKr,tKx,tKp,zKn,zKr,zKx,zKp]
  simp only [eKc,eKn,eKa,Nat.reduceEqDiff,↓reduceIte,gKz,gKs,dKs,and_self,E.e27,zAX,zAA]
  refine hok _ _ W10 at' fd' v1' (⟨ty,vs⟩,.slice (some ⟨W.sz,0,none⟩) n n) ⟨?_,⟨?_,t10,hv.rd.hb,?_⟩,keepB hv.f,⟨?_,n10 _ (by omega),fun q hq=>?_⟩,JF.marks.chg fun j hj hB=>?_⟩ ⟨?_,?_,?_,?_,?_,?_,?_,?_,?_⟩ hat' hfd' ?_
  ·exact JF.chg.then hpu.chg fun j hj hi=>(hnS j hj hi).elim
  ·exact hpu.kp hv.rd.kp fun b' l' c' e'=>by have:=J.heap.new b' l' c' e'; have:=I.kA.sz; omega
  ·exact hv.rd.blk.congr (hpu.chg.obj _ (by omega) (hnS _ hl1))
  ·rw [List.flatMap_append]
   simpa [zGj] using o10
  ·rcases List.mem_append.1 hq with hq | hq
   ·obtain ⟨bv,h1,h2,h3⟩:=JF.heap.pv q hq
    exact ⟨bv,h1,keepB h2,h3⟩
   ·cases List.mem_singleton.1 hq
    exact ⟨W.sz,by rw [←hvl],keepB hBv',by omega⟩
  ·refine hpo j _ hj fun hi=>?_
   obtain ⟨c,nn,z,ho,_⟩:=zBx JF.heap.own hi
   rw [ho] at hj; cases hj
  ·simp only [eKc,eKn,eKa,Nat.reduceEqDiff,↓reduceIte,gKz,gKs,dKs,and_self,E.e3]
  ·simp only [eKc,eKn,eKa,Nat.reduceEqDiff,↓reduceIte,gKz,gKs,dKs,and_self,E.e4]
  ·simp only [eKc,eKn,eKa,Nat.reduceEqDiff,↓reduceIte,gKz,gKs,dKs,and_self,E.e7]
  ·simp only [eKc,eKn,eKa,Nat.reduceEqDiff,↓reduceIte,gKz,gKs,dKs,and_self,E.e8]
  ·simp only [eKc,eKn,eKa,Nat.reduceEqDiff,↓reduceIte,gKz,gKs,dKs,and_self,E.e9]
  ·simp only [eKc,eKn,eKa,Nat.reduceEqDiff,↓reduceIte,gKz,gKs,dKs,and_self,E.e10]
  ·first | rfl | (simp only [eKc,eKn,eKa,Nat.reduceEqDiff,↓reduceIte,gKz,gKs,dKs,and_self])
  ·simp only [eKc,eKn,eKa,Nat.reduceEqDiff,↓reduceIte,gKz,gKs,dKs,and_self,E.e26]
  ·rw [zCi (by omega)]; rfl
  ·rw [hG,List.map_append]
   rfl
 ·rintro ch W' ⟨hd,x,rfl,hc,ht',hx'⟩
  obtain ⟨_,hmk,hcL⟩:=mk W' hc hd
  simp only [f74_k30,zDB,qKn,qKr,qKx,qKp,bKn,bKr,bKp,bKx,tKn,tKr,tKx,tKp,zKn,zKr,zKx,zKp]
  exact hpan _ _ W' x hmk hcL ht' (by rw [hG,hx'])
end Go.Ce
namespace Go.Ce
open Go Go.Proofs Go.Proofs.Tryz
theorem bld56s (s:ByteArray):bld prog 56 [(0,.string s)]=some (.agg [.string s,.slice none 0 0].toArray):=by kernel_rfl
theorem s124:siz prog 124=some 1:=by kernel_rfl
theorem rowP_le {c:List Shp} (C:Cat c) (i:Nat):(zAw c i).length≤20100:=by
 unfold zAw
 rw [List.length_map]
 exact zFT C.len C.fields i
theorem headL_ask {b:List UInt8} {ask:ByteArray→Option Int}:∀ {k at_:Nat} {out ts:List ByteArray} {a:Nat},zDq b ask k at_ out=.ok (ts,a)→at_≤b.length→(∀ s,s ∈ ts→s ∈ out∨ask s=none)∧ts.length=k+out.length∧a≤b.length
 | 0,at_,out,ts,a,h,ha=>by cases h; exact ⟨fun s hs=>.inl hs,by omega,ha⟩
 | k+1,at_,out,ts,a,h,ha=>by
  unfold zDq at h
  split at h
  ·cases h
  ·rename_i n a1 hn
   split at h
   ·cases h
   ·rename_i a2 ht
    split at h
    ·split at h
     ·cases h
     ·rename_i hask
      obtain ⟨h1,h2,h3⟩:=headL_ask h (zHK ht).2
      refine ⟨fun s hs=>?_,by rw [h2]; simp; omega,h3⟩
      rcases h1 s hs with h | h
      ·rcases List.mem_append.1 h with h | h
       ·exact .inl h
       ·rw [List.mem_singleton.1 h]; exact .inr hask
      ·exact .inr h
    ·cases h
theorem headR_ask {b:List UInt8} {ask:ByteArray→Option Int} {at_:Nat} {ts:List ByteArray} {a:Nat} (h:zEC b ask at_=.ok (ts,a)):(∀ s,s ∈ ts→ask s=none)∧ts.length≤100∧a≤b.length:=by
 unfold zEC at h
 split at h
 ·cases h
 ·split at h
  ·split at h
   ·cases h
   ·rename_i k a2 hn
    obtain ⟨h1,h2,h3⟩:=zCU hn
    obtain ⟨h4,h5,h6⟩:=headL_ask h h3
    refine ⟨fun s hs=>?_,by simp at h5; omega,h6⟩
    rcases h4 s hs with h | h
    ·cases h
    ·exact h
  ·cases h
theorem f74_loop {p:TP} (I:TIn p) {K:zAH} {e:Env} {W:CW} (h0:p.J 0 e [] W)
  (hpan:∀ e' ds' W' x,Marks p.L.sz W' ds'→Chg (S2 p.rb p.b10) p.L W'→Top W'→p.G=.error x→K (.panic (zB0 x)) e' ds' W')
  (hend:∀ e' ds' W',p.J p.many e' ds' W'→K (.exit 0) e' ds' W'):zC0 prog pkL none 74 140 (.loop (zAU prog 74 0)) e [] W K:=by
 obtain ⟨hl1,hl2⟩:=I.lts
 have hmany:=I.many
 refine zCk p.J p.many h0 ?_
 rintro i e ds W hi ⟨at_,fd,used,vo,ps,J,E,hat,hfd,hus,hlen,hG⟩
 rw [f74_l0,E.e27,E.e26]
 simp only [zAa,zAA]
 refine zHF (fun hlt=>?_) (fun hge=>?_)
 rotate_left
 ·have:i=p.many:=by omega
  subst this
  simp only [qKn,qKr,qKx,qKp,bKn,bKr,bKp,bKx,tKn,tKr,tKx,tKp,zKn,zKr,zKx,zKp]
  exact hend _ ds W ⟨at_,fd,used,vo,ps,J,⟨by simp only [eKc,eKn,eKa,Nat.reduceEqDiff,↓reduceIte,gKz,gKs,dKs,and_self,E.e3],by simp only [eKc,eKn,eKa,Nat.reduceEqDiff,↓reduceIte,gKz,gKs,dKs,and_self,E.e4],by simp only [eKc,eKn,eKa,Nat.reduceEqDiff,↓reduceIte,gKz,gKs,dKs,and_self,E.e7],by simp only [eKc,eKn,eKa,Nat.reduceEqDiff,↓reduceIte,gKz,gKs,dKs,and_self,E.e8],by simp only [eKc,eKn,eKa,Nat.reduceEqDiff,↓reduceIte,gKz,gKs,dKs,and_self,E.e9],by simp only [eKc,eKn,eKa,Nat.reduceEqDiff,↓reduceIte,gKz,gKs,dKs,and_self,E.e10],by simp only [eKc,eKn,eKa,Nat.reduceEqDiff,↓reduceIte,gKz,gKs,dKs,and_self,E.e11],by simp only [eKc,eKn,eKa,Nat.reduceEqDiff,↓reduceIte,gKz,gKs,dKs,and_self,E.e26],by simp only [eKc,eKn,eKa,Nat.reduceEqDiff,↓reduceIte,gKz,gKs,dKs,and_self,E.e27]⟩,hat,hfd,hus,hlen,hG⟩
 ·obtain ⟨m,hm⟩:∃ m,p.many-i=m+1:=⟨p.many-i-1,by omega⟩
  rw [hm,zBi] at hG
  have pan:∀ e' W' x,Marks p.L.sz W' ds→Chg (S2 p.rb p.b10) p.L W'→Top W'→p.G=.error x→(forK p.J i p.many K) (.panic (zB0 x)) e' ds W':=fun e' W' x h1 h2 h3 h4=>hpan e' ds W' x h1 h2 h3 h4
  obtain ⟨l3,B4,B3,B8,BT⟩:=I.at J.chg
  have l10:ld prog 3 (.pointer (some ⟨p.b10,0,none⟩)) W=some (.int .i64 fd):=zAC a3 (a:=⟨p.b10,0,none⟩) (J.f.cell rfl)
  rw [E.e10,l10]
  simp only [zAa,zAA]
  refine zDG (fun hb=>?_) (fun hb=>?_)
  rotate_left
  ·have hb:¬i<fd:=by have:=of_decide_eq_false hb; omega
   rw [if_neg hb] at hG
   simp only [zDB,qKn,qKr,qKx,qKp,bKn,bKr,bKp,bKx,tKn,tKr,tKx,tKp,zKn,zKr,zKx,zKp]
   exact hpan _ ds W 4 J.marks J.chg J.rd.top hG
  have hb:i<fd:=by have:=of_decide_eq_true hb; omega
  rw [if_pos hb] at hG
  rw [E.e3,l3,E.e7,own_clen u51 BT,zFh]
  simp only [zCa,zAA]
  have htl:=I.tl
  rw [zBV (by omega) (by omega),E.e9]
  refine zDH (w_min _ _ W) ?_
  refine (zEK I.rd J.rd hat).mono fun en W1 ⟨hc1,t1,hp⟩=>?_
  cases hn:zDT p.b at_ (min (used:Int) ((p.ts.length:Int)-1)) with
  | error x =>
   rw [hn] at hp hG
   have hp:en=.panicked (zB0 x):=hp
   subst hp
   refine zBp ?_
   simp only [zDB,qKn,qKr,qKx,qKp,bKn,bKr,bKp,bKx,tKn,tKr,tKx,tKp,zKn,zKr,zKx,zKp]
   refine hpan _ ds W1 x (J.marks.chg fun j hj hB=>?_) (J.chg.then hc1 fun j _ h=>.inl h) t1 hG
   rw [hc1.obj j (J.rd.top _ _ hj) (fun h=>by have h:j=p.rb:=h; omega)]
   exact hj
  | ok r =>
   obtain ⟨t,a1⟩:=r
   rw [hn] at hp hG
   obtain ⟨v,rfl,rfl,hr1⟩:=hp
   obtain ⟨htm,_,ha1⟩:=zCU hn
   have htl':t<p.ts.length:=by omega
   have htu:t≤used:=by omega
   refine zAZ ?_
   have J1:TJ p W1 a1 fd vo ps ds:=J.step I hc1 hr1
   obtain ⟨l3',B4',B3',B8',BT'⟩:=I.at J1.chg
   simp only at hG
   have hty:=List.getElem?_eq_getElem htl'
   rw [hty] at hG
   simp only at hG
   obtain ⟨ix,hix⟩:=Option.isSome_iff_exists.1 (I.known _ (List.getElem_mem htl'))
   rw [hix] at hG
   simp only at hG
   generalize hgt:p.ts[t]=ty at hG hix
   have k36:∀ (e1:Env) (used':Nat),TE p e1 i used' vo→e1 13=.int .i64 t→used'=(if t=used then used+1 else used)→(f74_k36 none (forK p.J i p.many K)) .normal e1 ds W1:=by
    intro e1 used' E1 h13 hu'
    rw [←hu'] at hG
    have hus':used'≤p.ts.length:=by rw [hu']; split <;> omega
    simp only [f74_k36,qKn,qKr,qKx,qKp,bKn,bKr,bKp,bKx,tKn,tKr,tKx,tKp,zKn,zKr,zKx,zKp]
    obtain ⟨ao,co,hvt,hoc⟩:=zEP (f:=fun (s:ByteArray)=>Value.string s) BT'
    obtain ⟨q,rfl,hq⟩:=hoc t _ hty
    rw [hgt] at hq
    rw [E1.e7,h13,hvt,zAi u51 s9 htl']
    simp only [zAA]
    rw [zAC a9 (a:=⟨q.block,q.off+t*1,none⟩) hq]
    simp only [zAA]
    refine zAl (bld56s _) ?_
    refine zB1 (ws:=[.string ty,.slice none 0 0]) z56 s56 rfl rfl rfl t1 fun W2 k2 t2 z2 hB14=>?_
    have hr2:=hr1.kp' k2 t2
    have J2:TJ p W2 a1 fd vo ps ds:=J1.step I k2.rd hr2
    obtain ⟨l3'',B4'',B3'',B8'',BT''⟩:=I.at J2.chg
    have cat2:=I.cat.kp I.rd.top hr2.kp
    obtain ⟨ea,eb,ef,eg,hel⟩:=cat2.sh.elem hix
    obtain ⟨ar,cr,lr,hrr⟩:=cat2.rw.some hix
    have l9:ld prog 9 (.pointer (some ⟨W1.sz,0,none⟩)) W2=some (.string ty):=zAC a9 (a:=⟨W1.sz,0,none⟩) (hB14.cell rfl)
    have l76:ld prog 76 (.pointer (some ⟨p.b4,0+1,none⟩)) W2=some (.map (some p.r2)):=zAC a76 (a:=⟨p.b4,0+1,none⟩) (B4''.cell rfl)
    have l75:ld prog 75 (.pointer (some ⟨p.b4,0,none⟩)) W2=some (.map (some p.r1)):=zAC a75 (a:=⟨p.b4,0,none⟩) (B4''.cell rfl)
    rw [E1.e4]
    simp only [zEb,zDY,zCX,zAA,l76,l75,l9,lr,hel,zAQ u29,zGc,zB6]
    have hne14:∀ j,zA2 vo j→j≠W1.sz:=fun j hj e=>by have:=zIX t1 J1.heap.own hj; omega
    have hl14:p.L.sz≤W1.sz:=J1.chg.sz
    have go:∀ (e2:Env) (W3:CW) (a2 n:Nat),TJ p W3 a2 fd vo ps ds→TE p e2 i used' vo→e2 14=.pointer (some ⟨W1.sz,0,none⟩)→e2 15=.int .i64 n→Blk W3 W1.sz 56 [.string ty,.slice none 0 0]→a2≤p.b.length→(zAL p.c ix=0→n≤(zAw p.c ix).length)→n≤20100 →
      (if zAL p.c ix≠0 then zDT p.b a1 200 else .ok ((zAw p.c ix).length,a1))=.ok (n,a2)→(zFV none (forK p.J i p.many K)) .normal e2 ds W3:=by
     intro e2 W3 a2 n J3 E2 h14 h15 hB3 ha2 hrow hn20 hsel
     rw [hsel] at hG
     refine f74_k33_ok I (m:=m) J3 E2 h14 h15 hB3 hl14 hne14 hix hrow hn20 ha2 hfd (by omega) hlen hG (fun e' ds' W' x h1 h2 h3 h4=>hpan e' ds' W' x h1 h2 h3 h4) (fun e' ds' W' at' fd' vo' q hJ' hE' ha' hf' hG'=>?_)
     refine ⟨hlt,at',fd',used',vo',ps++[q],hJ',hE',ha',hf',hus',by simp [hlen],?_⟩
     rw [hG',show p.many-(i+1)=m by omega]
    refine zAE (fun hel0=>?_) (fun hel0=>?_)
    ·have hel0:zAL p.c ix≠0:=by simpa using hel0
     rw [E1.e3,l3'']
     simp only [zAA]
     refine (zEK (most:=200) I.rd hr2 ha1).mono fun en W3 ⟨hc3,t3,hp⟩=>?_
     cases hn2:zDT p.b a1 200 with
     | error x =>
      rw [hn2] at hp
      have hp:en=.panicked (zB0 x):=hp
      subst hp
      rw [if_pos hel0,hn2] at hG
      refine zBp ?_
      simp only [zFV,zDB,qKn,qKr,qKx,qKp,bKn,bKr,bKp,bKx,tKn,tKr,tKx,tKp,zKn,zKr,zKx,zKp]
      refine hpan _ ds W3 x (J2.marks.chg fun j hj hB=>?_) (J2.chg.then hc3 fun j _ h=>.inl h) t3 hG
      rw [hc3.obj j (t2 _ _ hj) (fun h=>by have h:j=p.rb:=h; omega)]
      exact hj
     | ok r =>
      obtain ⟨n,a2⟩:=r
      rw [hn2] at hp
      obtain ⟨v,rfl,rfl,hr3⟩:=hp
      obtain ⟨hn200,_,ha2⟩:=zCU hn2
      refine zAZ ?_
      refine go _ W3 a2 n (J2.step I hc3 hr3) ⟨by simp only [eKc,eKn,eKa,Nat.reduceEqDiff,↓reduceIte,gKz,gKs,dKs,and_self,E1.e3],by simp only [eKc,eKn,eKa,Nat.reduceEqDiff,↓reduceIte,gKz,gKs,dKs,and_self,E1.e4],by simp only [eKc,eKn,eKa,Nat.reduceEqDiff,↓reduceIte,gKz,gKs,dKs,and_self,E1.e7],by simp only [eKc,eKn,eKa,Nat.reduceEqDiff,↓reduceIte,gKz,gKs,dKs,and_self,E1.e8],by simp only [eKc,eKn,eKa,Nat.reduceEqDiff,↓reduceIte,gKz,gKs,dKs,and_self,E1.e9],by simp only [eKc,eKn,eKa,Nat.reduceEqDiff,↓reduceIte,gKz,gKs,dKs,and_self,E1.e10],by simp only [eKc,eKn,eKa,Nat.reduceEqDiff,↓reduceIte,gKz,gKs,dKs,and_self,E1.e11],by simp only [eKc,eKn,eKa,Nat.reduceEqDiff,↓reduceIte,gKz,gKs,dKs,and_self,E1.e26],by simp only [eKc,eKn,eKa,Nat.reduceEqDiff,↓reduceIte,gKz,gKs,dKs,and_self,E1.e27]⟩ (by simp only [eKc,eKn,eKa,Nat.reduceEqDiff,↓reduceIte,gKz,gKs,dKs,and_self]) (by simp only [eKc,eKn,eKa,Nat.reduceEqDiff,↓reduceIte,gKz,gKs,dKs,and_self]) (hB14.congr (hc3.obj _ (by omega) (fun h=>by have h:W1.sz=p.rb:=h; omega))) ha2 (fun h=>(hel0 h).elim) (by omega) (by rw [if_pos hel0,hn2])
    ·have hel0:zAL p.c ix=0:=by simpa using hel0
     refine go _ W2 a1 _ J2 ⟨by simp only [eKc,eKn,eKa,Nat.reduceEqDiff,↓reduceIte,gKz,gKs,dKs,and_self,E1.e3],by simp only [eKc,eKn,eKa,Nat.reduceEqDiff,↓reduceIte,gKz,gKs,dKs,and_self,E1.e4],by simp only [eKc,eKn,eKa,Nat.reduceEqDiff,↓reduceIte,gKz,gKs,dKs,and_self,E1.e7],by simp only [eKc,eKn,eKa,Nat.reduceEqDiff,↓reduceIte,gKz,gKs,dKs,and_self,E1.e8],by simp only [eKc,eKn,eKa,Nat.reduceEqDiff,↓reduceIte,gKz,gKs,dKs,and_self,E1.e9],by simp only [eKc,eKn,eKa,Nat.reduceEqDiff,↓reduceIte,gKz,gKs,dKs,and_self,E1.e10],by simp only [eKc,eKn,eKa,Nat.reduceEqDiff,↓reduceIte,gKz,gKs,dKs,and_self,E1.e11],by simp only [eKc,eKn,eKa,Nat.reduceEqDiff,↓reduceIte,gKz,gKs,dKs,and_self,E1.e26],by simp only [eKc,eKn,eKa,Nat.reduceEqDiff,↓reduceIte,gKz,gKs,dKs,and_self,E1.e27]⟩ (by simp only [eKc,eKn,eKa,Nat.reduceEqDiff,↓reduceIte,gKz,gKs,dKs,and_self]) (by simp only [eKc,eKn,eKa,Nat.reduceEqDiff,↓reduceIte,gKz,gKs,dKs,and_self]) hB14 ha1 (fun _=>Nat.le_refl _) (rowP_le I.C ix) (by rw [if_neg (by simp [hel0])])
   refine zAl (zA0 _ _ _) ?_
   refine zAE (fun hq=>?_) (fun hq=>?_)
   ·have hq:t=used:=by have:=eq_of_beq hq; omega
    simp only [zAX,zAA]
    refine k36 _ (used+1) ⟨by simp only [eKc,eKn,eKa,Nat.reduceEqDiff,↓reduceIte,gKz,gKs,dKs,and_self,E.e3],by simp only [eKc,eKn,eKa,Nat.reduceEqDiff,↓reduceIte,gKz,gKs,dKs,and_self,E.e4],by simp only [eKc,eKn,eKa,Nat.reduceEqDiff,↓reduceIte,gKz,gKs,dKs,and_self,E.e7],by simp only [eKc,eKn,eKa,Nat.reduceEqDiff,↓reduceIte,gKz,gKs,dKs,and_self,E.e8],?_,by simp only [eKc,eKn,eKa,Nat.reduceEqDiff,↓reduceIte,gKz,gKs,dKs,and_self,E.e10],by simp only [eKc,eKn,eKa,Nat.reduceEqDiff,↓reduceIte,gKz,gKs,dKs,and_self,E.e11],by simp only [eKc,eKn,eKa,Nat.reduceEqDiff,↓reduceIte,gKz,gKs,dKs,and_self,E.e26],by simp only [eKc,eKn,eKa,Nat.reduceEqDiff,↓reduceIte,gKz,gKs,dKs,and_self,E.e27]⟩ (by simp only [eKc,eKn,eKa,Nat.reduceEqDiff,↓reduceIte,gKz,gKs,dKs,and_self]) (by rw [if_pos hq])
    rw [zCi (by omega)]; rfl
   ·have hq:¬t=used:=by rintro rfl; simp at hq
    exact k36 _ used ⟨by simp only [eKc,eKn,eKa,Nat.reduceEqDiff,↓reduceIte,gKz,gKs,dKs,and_self,E.e3],by simp only [eKc,eKn,eKa,Nat.reduceEqDiff,↓reduceIte,gKz,gKs,dKs,and_self,E.e4],by simp only [eKc,eKn,eKa,Nat.reduceEqDiff,↓reduceIte,gKz,gKs,dKs,and_self,E.e7],by simp only [eKc,eKn,eKa,Nat.reduceEqDiff,↓reduceIte,gKz,gKs,dKs,and_self,E.e8],by simp only [eKc,eKn,eKa,Nat.reduceEqDiff,↓reduceIte,gKz,gKs,dKs,and_self,E.e9],by simp only [eKc,eKn,eKa,Nat.reduceEqDiff,↓reduceIte,gKz,gKs,dKs,and_self,E.e10],by simp only [eKc,eKn,eKa,Nat.reduceEqDiff,↓reduceIte,gKz,gKs,dKs,and_self,E.e11],by simp only [eKc,eKn,eKa,Nat.reduceEqDiff,↓reduceIte,gKz,gKs,dKs,and_self,E.e26],by simp only [eKc,eKn,eKa,Nat.reduceEqDiff,↓reduceIte,gKz,gKs,dKs,and_self,E.e27]⟩ (by simp only [eKc,eKn,eKa,Nat.reduceEqDiff,↓reduceIte,gKz,gKs,dKs,and_self]) (by rw [if_neg hq])
end Go.Ce
namespace Go.Ce
open Go Go.Proofs Go.Proofs.Tryz
theorem own_clen' {W W':CW} {v:Value} {ts:List ByteArray} (h:Own W 9 1 v (strs ts)):zAr prog 51 v W'=some (.int .i64 ts.length):=by
 rw [own_clen u51 h,zFh]
theorem things74_ok {A W:CW} {rb at_ r1 r2:Nat} {vb vf:Value} {b:List UInt8} {c:List Shp} {ask:ByteArray→Option Int} (I:RdIn A vb b) (h:Rd A W rb vb at_) (ha:at_≤b.length) (hask:AskOk A vf ask) (hak:∀ s,ask s=none→(zBQ c s).isSome=true) (hcat:CatAt A r1 r2 c) (hok:zA8 c=true) (hC:Cat c) :
  WCall prog pkL 74 [.pointer (some ⟨rb,0,none⟩),zJT r1 r2,vf] W (zHE A rb vb (fun v xs W'=>∃ ps,ps.map (·.1)=xs∧HeapAt W.sz W' v ps) (zAp b c ask at_) W):=by
 refine f74_w ?_
 rw [f74_c]
 generalize hPost:zHE A rb vb (fun v xs W'=>∃ ps,ps.map (·.1)=xs∧HeapAt W.sz W' v ps) (zAp b c ask at_) W=Post
 generalize hKK:zAD prog Tryz.f74 Post=KK
 have hrbl:=h.blk.lt h.top
 have hpan:∀ (e:Env) (ds:List Deferred) W' x,Marks W.sz W' ds→Chg (RdS rb) W W'→Top W'→zAp b c ask at_=.error x→KK (.panic (zB0 x)) e ds W':=by
  intro e ds W' x hm hc ht hn
  rw [←hKK]
  refine zHt ht hm fun W2 h1 h2 h3 t2=>?_
  show Post (.panicked (zB0 x)) W2
  rw [←hPost]
  refine ⟨⟨by rw [h3]; exact hc.sz,fun j hj hS=>by rw [h2 j hj]; exact hc.obj j hj hS⟩,t2,?_⟩
  rw [hn]
 unfold zJT
 refine zC2 s124 h.top fun W0 k0 t0 z0 hB3=>?_
 have hB3:Blk W0 W.sz 124 [.pointer (some ⟨rb,0,none⟩)]:=hB3
 refine zC2 s78 t0 fun W1 k1 t1 z1 hB4=>?_
 have hB4:Blk W1 W0.sz 78 [.map (some r1),.map (some r2)]:=hB4
 have hr1:=(h.kp' k0 t0).kp' k1 t1
 have hB3:=hB3.ext t0 k1
 have l3:∀ W',W'.obj W.sz=W1.obj W.sz→ld prog 124 (.pointer (some ⟨W.sz,0,none⟩)) W'=some (.pointer (some ⟨rb,0,none⟩)):=fun W' ho=>zAC a124 (a:=⟨W.sz,0,none⟩) ((hB3.congr ho).cell rfl)
 rw [l3 W1 rfl]
 simp only [zAA]
 have hc1:Chg (RdS rb) W W1:=(k0.trans k1).rd
 refine (head_ok I hr1 ha hask).mono fun en W2 ⟨hc2,t2,hp⟩=>?_
 have hC2:=hc1.rd hc2
 cases hh:zEC b ask at_ with
 | error x =>
  rw [hh] at hp
  have hp:en=.panicked (zB0 x):=hp
  subst hp
  refine zBp ?_
  exact hpan _ [] W2 x (.nil _ _) hC2 t2 (by unfold zAp; rw [hh])
 | ok r =>
  obtain ⟨ts,a1⟩:=r
  rw [hh] at hp
  obtain ⟨vt,rfl,⟨hvt,hnt⟩,hr2⟩:=hp
  obtain ⟨hts,htl,ha1⟩:=headR_ask hh
  refine zAZ ?_
  have h12:∀ j,j<W1.sz→j≠rb→W2.obj j=W1.obj j:=fun j hj hne=>hc2.obj j hj hne
  rw [l3 W2 (h12 _ (by omega) (by omega))]
  simp only [zAA]
  refine (zEK (most:=1000) I hr2 ha1).mono fun en W4 ⟨hc4,t4,hp⟩=>?_
  have hC4:=hC2.rd hc4
  cases hn:zDT b a1 1000 with
  | error x =>
   rw [hn] at hp
   have hp:en=.panicked (zB0 x):=hp
   subst hp
   refine zBp ?_
   exact hpan _ [] W4 x (.nil _ _) hC4 t4 (by unfold zAp; rw [hh]; simp only; rw [hn])
  | ok r =>
   obtain ⟨many,a2⟩:=r
   rw [hn] at hp
   obtain ⟨v,rfl,rfl,hr4⟩:=hp
   obtain ⟨hmany,_,ha2⟩:=zCU hn
   have hs1:W.sz<W1.sz:=by omega
   have hs2:=hc2.sz
   have hs4:=hc4.sz
   refine zAZ ?_
   refine zFL z3 s3 t4 fun W6 k6 t6 z6 hB8=>?_
   have hB8:Blk W6 W4.sz 3 [.int .i64 0]:=hB8
   refine zAV s3 (a:=⟨W4.sz,0,none⟩) (v:=.int .i64 many) rfl hB8 (by simp) fun W7 hu7 hB8=>?_
   have hu7:Upd W4.sz W6 W7:=hu7
   have hB8:Blk W7 W4.sz 3 [.int .i64 many]:=hB8
   have t7:=t6.upd (by omega) hu7
   have z7:W7.sz=W4.sz+1:=by rw [hu7.sz,z6]
   have kn:Kp W7 (W7.new (.cells .nil 1 #[.int .i64 0] 3)):=.new _
   have tn:=t7.new (.cells .nil 1 #[.int .i64 0] 3)
   have hon:(W7.new (.cells .nil 1 #[.int .i64 0] 3)).obj W7.sz=some (.cells .nil 1 #[.int .i64 0] 3):=by rw [zAk,if_pos rfl]
   have hBn:Blk (W7.new (.cells .nil 1 #[.int .i64 0] 3)) W7.sz 3 [.int .i64 0]:=⟨.nil,1,_,hon,rfl,fun k v hk=>by
    match k,hk with
    | 0,hk=>cases hk; rfl⟩
   have hszn:(W7.new (.cells .nil 1 #[.int .i64 0] 3)).sz=W7.sz+1:=rfl
   have hfl:flOk (.pointer (some ⟨W7.sz,0,none⟩)) ((W7.new (.cells .nil 1 #[.int .i64 0] 3)).obj W7.sz) (W7.new (.cells .nil 1 #[.int .i64 0] 3))=true:=zFx hon rfl
   generalize hAn:W7.new (.cells .nil 1 #[.int .i64 0] 3)=An at kn tn hon hBn hszn hfl ⊢
   have l8:∀ W',W'.obj W4.sz=W7.obj W4.sz→ld prog 3 (.pointer (some ⟨W4.sz,0,none⟩)) W'=some (.int .i64 many):=fun W' ho=>zAC a3 (a:=⟨W4.sz,0,none⟩) ((hB8.congr ho).cell rfl)
   have ho8:=kn.obj W4.sz (by omega)
   rw [l8 An ho8]
   simp only [zAA]
   refine zDH (w_min _ _ An) ?_
   rw [show min (many:Int) 1=((min many 1:Nat):Int) by omega]
   refine ⟨trivial,?_⟩
   refine zAV s3 (a:=⟨W7.sz,0,none⟩) (v:=.int .i64 ((min many 1:Nat):Int)) rfl hBn (by simp) fun L hu9 hB10=>?_
   have hu9:Upd W7.sz An L:=hu9
   have hB10:Blk L W7.sz 3 [.int .i64 ((min many 1:Nat):Int)]:=hB10
   refine ⟨by simp only [l8 An ho8,and_self],by simp only [hfl,and_self],?_⟩
   have hoL:∀ j,j<W7.sz→L.obj j=W7.obj j:=fun j hj=>by rw [hu9.obj j (by omega),kn.obj j hj]
   rw [l8 L (hoL _ (by omega))]
   simp only [zAA]
   have tL:=tn.upd (by omega) hu9
   have zL:L.sz=W7.sz+1:=by rw [hu9.sz,hszn]
   have ho4:∀ j,j<W4.sz→L.obj j=W4.obj j:=fun j hj=>by rw [hoL j (by omega),hu7.obj j (by omega),k6.obj j hj]
   have k4L:Kp W4 L:=⟨by omega,ho4⟩
   have hCL:Chg (RdS rb) W L:=hC4.rd k4L.rd
   have hrL:=hr4.kp' k4L tL
   have h14:∀ j,j<W1.sz→j≠rb→L.obj j=W1.obj j:=fun j hj hne=>by rw [ho4 j (by omega),hc4.obj j (by omega) hne,h12 j hj hne]
   have hvt4:Own L 9 1 vt (strs ts):=zJn hvt fun j hj=>by
    have:=zIX t2 hvt hj
    have hne:j≠rb:=by rintro rfl; have:=zAs hr2.blk (zBx hvt hj); cases this
    rw [ho4 j (by omega),hc4.obj j this hne]
   let p:TP:={ A:=A,L:=L,rb:=rb,b3:=W.sz,b4:=W0.sz,b8:=W4.sz,b10:=W7.sz,r1:=r1,r2:=r2,vb:=vb,vt:=vt,b:=b,c:=c,ts:=ts,many:=many,G:=zBi b c ts many many 0 a2 0 (min many 1) [] }
   have hAW:=h.kp.sz
   have IN:TIn p:=⟨I,hcat,hok,hC,tL,hrL.kp,hB3.congr (h14 _ (by omega) (by omega)),hB4.congr (h14 _ (by omega) (by omega)),hB8.congr (hoL _ (by omega)),hvt4,htl,fun s hs=>hak s (hts s hs),⟨_,hrL.blk⟩,⟨_,hB10⟩,⟨h.hb,by show A.sz≤W7.sz; omega⟩,by show W4.sz≠W7.sz; omega,by show many≤1000; omega⟩
   have J0:TJ p L a2 (min many 1) (.slice none 0 0) [] []:=⟨.refl _ _,hrL,hB10,⟨Own.nil,Newer.nil _ _ _,fun q hq=>by cases hq⟩,.nil _ _⟩
   have hcW:∀ W',Chg (S2 p.rb p.b10) p.L W'→Chg (RdS rb) W W':=fun W' hc=>⟨by have:=hc.sz; have:L.sz≤W'.sz:=this; omega,fun j hj hS=>by
    rw [hc.obj j (show j<L.sz by omega) (by
     rintro (e | e)
     ·exact hS e
     ·have e:j=W7.sz:=e
      omega),]
    exact hCL.obj j hj hS⟩
   have hmW:∀ W' ds,Marks p.L.sz W' ds→Marks W.sz W' ds:=fun W' ds ⟨rs,h1,h2,h3⟩=>⟨rs,h1,h2,fun r hr=>⟨(h3 r hr).1,by have:L.sz≤r:=(h3 r hr).2; omega⟩⟩
   have hR:zAp b c ask at_=match p.G with | .error e=>.error e | .ok (out,used,fd,a3)=>if fd=many∧used=ts.length∧a3=b.length then .ok (out,a3) else .error 4:=by
    unfold zAp
    rw [hh]
    simp only
    rw [hn] <;> rfl
   refine f74_loop IN ⟨a2,min many 1,0,.slice none 0 0,[],J0,⟨rfl,rfl,rfl,rfl,rfl,rfl,rfl,rfl,rfl⟩,ha2,by omega,Nat.zero_le _,rfl,rfl⟩ (fun e' ds' W' x h1 h2 h3 h4=>?_) (fun e' ds' W' hj=>?_)
   ·simp only [bKp,f74_k17,qKp]
    exact hpan e' ds' W' x (hmW _ _ h1) (hcW _ h2) h3 (by rw [hR,h4])
   ·obtain ⟨at',fd',used',vo,ps,J,E,hat',hfd',hus',hpl,hG⟩:=hj
    have hG:p.G=zBi b c ts many (many-many) many at' used' fd' (ps.map (·.1)):=hG
    rw [Nat.sub_self] at hG
    have hG:p.G=.ok (ps.map (·.1),used',fd',at'):=hG
    rw [hG] at hR
    have hR:zAp b c ask at_=if fd'=many∧used'=ts.length∧at'=b.length then .ok (ps.map (·.1),at') else .error 4:=hR
    obtain ⟨q3,Q4,Q3,Q8,QT⟩:=IN.at J.chg
    have q10:ld prog 3 (.pointer (some ⟨W7.sz,0,none⟩)) W'=some (.int .i64 fd'):=zAC a3 (a:=⟨W7.sz,0,none⟩) (J.f.cell rfl)
    have q8:ld prog 3 (.pointer (some ⟨W4.sz,0,none⟩)) W'=some (.int .i64 many):=zAC a3 (a:=⟨W4.sz,0,none⟩) (Q8.cell rfl)
    have q3:ld prog 124 (.pointer (some ⟨W.sz,0,none⟩)) W'=some (.pointer (some ⟨rb,0,none⟩)):=q3
    have e3:e' 3=.pointer (some ⟨W.sz,0,none⟩):=E.e3
    have e7:e' 7=vt:=E.e7
    have e8:e' 8=.pointer (some ⟨W4.sz,0,none⟩):=E.e8
    have e10:e' 10=.pointer (some ⟨W7.sz,0,none⟩):=E.e10
    have qT:zAr prog 51 vt W'=some (.int .i64 ts.length):=own_clen' QT
    simp only [bKx,if_true,f74_k17,qKn,e3,e7,e8,e10,E.e9,q10,q8,zA0,zAA]
    have bad:∀ e2,¬(fd'=many∧used'=ts.length∧at'=b.length)→(zDu none KK) (.panic (zB0 4)) e2 ds' W':=by
     intro e2 hno
     simp only [zDu,qKp]
     exact hpan _ ds' W' 4 (hmW _ _ J.marks) (hcW _ J.chg) J.rd.top (by rw [hR,if_neg hno])
    refine zAE (fun h1=>?_) (fun h1=>?_)
    ·have h1:fd'=many:=by have:=eq_of_beq h1; omega
     simp only [qT,zAA,zA0]
     refine zAE (fun h2=>?_) (fun h2=>?_)
     ·have h2:used'=ts.length:=by have:=eq_of_beq h2; omega
      obtain ⟨av,cv,hvb,_,_⟩:=I.sl
      have lb:zAr prog 29 vb W'=some (.int .i64 b.length):=by rw [hvb]; exact zAQ u29 _ _ _ _
      have ld0':ld prog 29 (.pointer (some ⟨rb,0,none⟩)) W'=some vb:=J.rd.ld0
      have ld1':ld prog 3 (.pointer (some ⟨rb,0+1,none⟩)) W'=some (.int .i64 at'):=J.rd.ld1
      simp only [q3,zBS,fad170_0,fad170_1,zAA,ld0',ld1',lb,zA0]
      refine zDG (fun h3=>?_) (fun h3=>?_)
      ·have h3:at'=b.length:=by have:=eq_of_beq h3; omega
       refine ⟨by simp only [and_self],trivial,?_⟩
       simp only [zDu,qKn]
       rw [←hKK]
       refine zHt J.rd.top (hmW _ _ J.marks) fun W2 g1 g2 g3 t2'=>?_
       rw [f74_leave,←hPost]
       have hcWW:=hcW _ J.chg
       refine ⟨⟨by rw [g3]; exact hcWW.sz,fun j hj hS=>by rw [g2 j hj]; exact hcWW.obj j hj hS⟩,t2',?_⟩
       rw [hR,if_pos ⟨h1,h2,h3⟩]
       have hz:p.L.sz=L.sz:=rfl
       refine ⟨_,rfl,⟨ps,rfl,?_⟩,⟨⟨by rw [g3]; exact J.rd.kp.sz,fun j hj=>by rw [g2 j (by omega)]; exact J.rd.kp.obj j hj⟩,t2',h.hb,?_⟩⟩
       ·have hH:=J.heap.of fun j o hB hj ho=>g1 j o hj ho
        simp only [eKc,eKn,eKa,Nat.reduceEqDiff,↓reduceIte,gKz,gKs,dKs,and_self,E.e11]
        refine ⟨hH.own,fun b' l' c' e=>?_,fun q hq=>?_⟩
        ·have:=hH.new b' l' c' e
         omega
        ·obtain ⟨bv,k1,k2,k3⟩:=hH.pv q hq
         exact ⟨bv,k1,k2,by omega⟩
       ·obtain ⟨cc,nn,zz,ho,hx⟩:=J.rd.blk
        exact ⟨cc,nn,zz,g1 _ _ ho (by simp),hx⟩
      ·have h3:¬at'=b.length:=by rintro rfl; simp at h3
       exact ⟨by simp only [and_self],bad _ fun hh=>h3 hh.2.2⟩
     ·have h2:¬used'=ts.length:=by rintro rfl; simp at h2
      refine zDG (fun hf=>by cases hf) (fun _=>?_)
      exact ⟨by simp only [and_self],bad _ fun hh=>h2 hh.2.1⟩
    ·have h1:¬fd'=many:=by rintro rfl; simp at h1
     refine zDG (fun hf=>by cases hf) (fun _=>?_)
     exact ⟨by simp only [and_self],bad _ fun hh=>h1 hh.1⟩
end Go.Ce
