/- A part of the proof: Kb. -/
import Derived.Test.YtmknebebbbjdlaaGreatW07
import Derived.Test.YtmknebebbbjdlaaGreatW08
set_option linter.unusedSectionVars false
set_option linter.unusedVariables false
set_option linter.unusedSimpArgs false
set_option linter.defProp false
set_option maxRecDepth 200000
namespace Go.Ce
open Go Go.Proofs Go.Proofs.Tryz
noncomputable def kW0:CW:=W0 0
noncomputable def tf:AI:=AFg [] 220
noncomputable def kW1:CW:=kW0.Fi [
(265,.cells (.of [(0,.int .u8 1),(1,.int .u8 2),(2,.int .u8 4),(3,.int .u8 110),(4,.int .u8 111),(5,.int .u8 100),(6,.int .u8 101),(7,.int .u8 4),(8,.int .u8 112),(9,.int .u8 97),(10,.int .u8 105),(11,.int .u8 114),(12,.int .u8 2),(13,.int .u8 0),(14,.int .u8 14),(15,.int .u8 2),(16,.int .u8 1),(17,.int .u8 1),(18,.int .u8 1),(19,.int .u8 10)]) 20 #[] 5)] 266
noncomputable def kA1:AI:=tf.Fi [(0,.bool false),(1,.slice (some ⟨265,0,none⟩) 20 20),(2,.int .i64 0),(26,.tuple #[.slice (some ⟨265,0,none⟩) 20 20,.int .i64 0]),(27,.slice (some ⟨2,0,none⟩) 3 3),(28,.slice (some ⟨7,0,none⟩) 4 4),(29,.tuple #[.slice (some ⟨265,0,none⟩) 20 20,.int .i64 0]),(30,.slice (some ⟨265,0,none⟩) 20 20),(31,.int .i64 0)]
noncomputable def kW2:CW:=kW1.Fi [
(449,.cells (.of [(0,.int .u8 1),(1,.int .u8 0),(2,.int .u8 0)]) 3 #[] 5)] 450
noncomputable def X_:AI:=kA1.Fi [(3,.slice (some ⟨449,0,none⟩) 3 3),(4,.int .i64 0),(32,.tuple #[.slice (some ⟨449,0,none⟩) 3 3,.int .i64 0]),(33,.slice (some ⟨268,0,none⟩) 3 3),(34,.slice (some ⟨273,0,none⟩) 4 4),(35,.tuple #[.slice (some ⟨449,0,none⟩) 3 3,.int .i64 0]),(36,.slice (some ⟨449,0,none⟩) 3 3),(37,.int .i64 0)]
noncomputable def kW3:CW:=kW2.Fi [
] 728
noncomputable def kA3:AI:=X_.Fi [(5,.bool false),(6,.int .i64 0),(38,.tuple #[.bool false,.int .i64 0]),(39,.slice (some ⟨452,0,none⟩) 3 3),(40,.slice (some ⟨457,0,none⟩) 4 4),(41,.slice (some ⟨462,0,none⟩) 4 4),(42,.tuple #[.bool false,.int .i64 0]),(43,.bool false),(44,.int .i64 0)]
noncomputable def kW4:CW:=kW3.Fi [
(1041,.cells (.of [(0,.int .u8 1),(1,.int .u8 3),(2,.int .u8 3),(3,.int .u8 97),(4,.int .u8 114),(5,.int .u8 114),(6,.int .u8 4),(7,.int .u8 110),(8,.int .u8 111),(9,.int .u8 100),(10,.int .u8 101),(11,.int .u8 4),(12,.int .u8 112),(13,.int .u8 97),(14,.int .u8 105),(15,.int .u8 114),(16,.int .u8 3),(17,.int .u8 0),(18,.int .u8 3),(19,.int .u8 2),(20,.int .u8 3),(21,.int .u8 2),(22,.int .u8 1),(23,.int .u8 14),(24,.int .u8 3),(25,.int .u8 2),(26,.int .u8 1),(27,.int .u8 2),(28,.int .u8 10)]) 29 #[] 5)] 1042
noncomputable def kA4:AI:=kA3.Fi [(7,.slice (some ⟨1041,0,none⟩) 29 29),(8,.int .i64 0),(45,.tuple #[.slice (some ⟨1041,0,none⟩) 29 29,.int .i64 0]),(46,.slice (some ⟨730,0,none⟩) 3 3),(47,.slice (some ⟨735,0,none⟩) 4 4),(48,.tuple #[.slice (some ⟨1041,0,none⟩) 29 29,.int .i64 0]),(49,.slice (some ⟨1041,0,none⟩) 29 29),(50,.int .i64 0)]
noncomputable def kW5:CW:=kW4.Fi [
(1130,.cells (.of [(0,.int .i64 2),(1,.int .i64 3),(2,.int .i64 2)]) 3 #[.int .i64 0] 3),
(1138,.cells (.of [(0,.int .i64 7),(1,.int .i64 3)]) 2 #[.int .i64 0] 3),
(1146,.cells (.of [(0,.int .i64 (-1)),(1,.int .i64 2),(2,.int .i64 5)]) 3 #[.int .i64 0] 3),
(1152,.cells (.of [(0,.string ⟨#[97,114,114]⟩),(1,.slice (some ⟨1130,0,none⟩) 3 3),(2,.string ⟨#[110,111,100,101]⟩),(3,.slice (some ⟨1138,0,none⟩) 2 2),(4,.string ⟨#[112,97,105,114]⟩),(5,.slice (some ⟨1146,0,none⟩) 3 3)]) 6 #[] 56)] 1171
noncomputable def kA5:AI:=kA4.Fi [(9,.slice (some ⟨1152,0,none⟩) 3 3),(10,.int .i64 1),(11,.int .i64 0),(51,.tuple #[.slice (some ⟨1152,0,none⟩) 3 3,.int .i64 1,.int .i64 0]),(52,.slice (some ⟨1044,0,none⟩) 3 3),(53,.slice (some ⟨1041,0,none⟩) 29 29),(54,.tuple #[.slice (some ⟨1152,0,none⟩) 3 3,.int .i64 1,.int .i64 0]),(55,.slice (some ⟨1152,0,none⟩) 3 3),(56,.int .i64 1),(57,.int .i64 0)]
noncomputable def kW6:CW:=kW5.Fi [
(1324,.cells (.of [(0,.int .i64 1),(1,.int .i64 2),(2,.int .i64 4)]) 3 #[] 3)] 1325
noncomputable def yj:AI:=kA5.Fi [(12,.slice (some ⟨1324,0,none⟩) 3 3),(13,.int .i64 0),(58,.tuple #[.slice (some ⟨1324,0,none⟩) 3 3,.int .i64 0]),(59,.slice (some ⟨1173,0,none⟩) 3 3),(60,.slice (some ⟨1178,0,none⟩) 4 4),(61,.tuple #[.slice (some ⟨1324,0,none⟩) 3 3,.int .i64 0]),(62,.slice (some ⟨1324,0,none⟩) 3 3),(63,.int .i64 0)]
noncomputable def kW7:CW:=kW6.Fi [
(1472,.cells (.of [(0,.int .i64 7),(1,.int .i64 2)]) 2 #[] 3),
(1481,.cells (.of [(0,.int .i64 (-1)),(1,.int .i64 3),(2,.int .i64 5)]) 3 #[] 3),
(1490,.cells (.of [(0,.int .i64 7),(1,.int .i64 2)]) 2 #[] 3),
(1496,.cells (.of [(0,.string ⟨#[110,111,100,101]⟩),(1,.slice (some ⟨1472,0,none⟩) 2 2),(2,.string ⟨#[112,97,105,114]⟩),(3,.slice (some ⟨1481,0,none⟩) 3 3),(4,.string ⟨#[110,111,100,101]⟩),(5,.slice (some ⟨1490,0,none⟩) 2 2)]) 6 #[] 56)] 1497
noncomputable def kA7:AI:=yj.Fi [(14,.slice (some ⟨1496,0,none⟩) 3 3),(15,.int .i64 1),(16,.int .i64 0),(64,.tuple #[.slice (some ⟨1496,0,none⟩) 3 3,.int .i64 1,.int .i64 0]),(65,.slice (some ⟨1327,0,none⟩) 3 3),(66,.slice (some ⟨1332,0,none⟩) 4 4),(67,.tuple #[.slice (some ⟨1496,0,none⟩) 3 3,.int .i64 1,.int .i64 0]),(68,.slice (some ⟨1496,0,none⟩) 3 3),(69,.int .i64 1),(70,.int .i64 0)]
noncomputable def kW8:CW:=kW7.Fi [
] 1552
noncomputable def xV:AI:=kA7.Fi [(17,.slice none 0 0),(18,.int .i64 0),(19,.int .i64 213),(71,.tuple #[.slice none 0 0,.int .i64 0,.int .i64 213]),(72,.slice (some ⟨1499,0,none⟩) 3 3),(73,.slice (some ⟨1499,0,none⟩) 2 2),(74,.slice (some ⟨265,0,none⟩) 20 20),(75,.tuple #[.slice none 0 0,.int .i64 0,.int .i64 213]),(76,.slice none 0 0),(77,.int .i64 0),(78,.int .i64 213)]
noncomputable def kW9:CW:=kW8.Fi [
(1600,.cells (.of [(0,.string ⟨#[112,97,105,114]⟩)]) 1 #[] 9)] 1601
noncomputable def kA9:AI:=xV.Fi [(20,.slice (some ⟨1600,0,none⟩) 1 1),(21,.int .i64 0),(79,.tuple #[.slice (some ⟨1600,0,none⟩) 1 1,.int .i64 0]),(80,.slice (some ⟨1554,0,none⟩) 3 3),(81,.slice (some ⟨1554,0,none⟩) 2 2),(82,.slice (some ⟨265,0,none⟩) 20 20),(83,.tuple #[.slice (some ⟨1600,0,none⟩) 1 1,.int .i64 0]),(84,.slice (some ⟨1600,0,none⟩) 1 1),(85,.int .i64 0)]
noncomputable def AIN:CW:=kW9.Fi [
] 1821
noncomputable def ss:AI:=kA9.Fi [(22,.slice none 0 0),(23,.int .i64 214),(86,.tuple #[.slice none 0 0,.int .i64 214]),(87,.slice (some ⟨1603,0,none⟩) 3 3),(88,.slice (some ⟨1604,0,none⟩) 2 2),(89,.agg #[.string ⟨#[112,97,105,114]⟩,.string ⟨#[110,111,100,101]⟩,.slice (some ⟨1604,0,none⟩) 2 2]),(90,.slice (some ⟨1605,0,none⟩) 1 1),(91,.slice (some ⟨1610,0,none⟩) 4 4),(92,.tuple #[.slice none 0 0,.int .i64 214]),(93,.slice none 0 0),(94,.int .i64 214)]
end Go.Ce
