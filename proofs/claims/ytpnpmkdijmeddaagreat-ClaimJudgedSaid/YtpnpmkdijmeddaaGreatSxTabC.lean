/- Tables of types and functions: printed by gentab.py. -/
import Derived.Test.YtpnpmkdijmeddaaGreatSxW
import Derived.Test.YtpnpmkdijmeddaaGreatChecked
import Derived.KernelRfl
set_option maxRecDepth 100000
namespace Go.Sx
open Go.Proofs
noncomputable abbrev PR:=Tryz.prog
noncomputable def tabT:List (Nat×TI):=[
 (1,⟨1,false,8,.cells [.nilf],.func,.cells⟩),
 (2,⟨1,false,8,.cells [.int .i64 0],.intk .i64,.words .i64⟩),
 (3,⟨1,false,8,.cells [.int .i64 0],.intk .i64,.words .i64⟩),
 (4,⟨1,false,1,.cells [.bool false],.bool,.rows [.bool]⟩),
 (5,⟨1,false,1,.cells [.int .u8 0],.intk .u8,.words .u8⟩),
 (6,⟨1,false,1,.cells [.int .u8 0],.intk .u8,.words .u8⟩),
 (7,⟨4,true,24,.cells [.int .i64 0,.int .i64 0,.bool false,.int .u8 0],.struct [(0,1,false),(1,1,false),(2,1,false),(3,1,false)],.rows [.int .i64,.int .i64,.bool,.int .u8]⟩),
 (8,⟨4,true,24,.cells [.int .i64 0,.int .i64 0,.bool false,.int .u8 0],.struct [(0,1,false),(1,1,false),(2,1,false),(3,1,false)],.rows [.int .i64,.int .i64,.bool,.int .u8]⟩),
 (9,⟨1,false,16,.cells [.str ⟨#[]⟩],.other,.cells⟩),
 (10,⟨1,false,16,.cells [.str ⟨#[]⟩],.other,.cells⟩),
 (11,⟨1,false,16,.cells [.str ⟨#[]⟩],.other,.cells⟩),
 (12,⟨1,false,8,.cells [.int .u64 0],.intk .u64,.words .u64⟩),
 (13,⟨2,true,24,.cells [.str ⟨#[]⟩,.int .u64 0],.struct [(0,1,false),(1,1,false)],.cells⟩),
 (18,⟨1,true,8,.cells [.nilp],.struct [(0,1,false)],.cells⟩),
 (22,⟨1,false,24,.cells [.nils],.slice 3,.cells⟩),
 (24,⟨1,false,8,.cells [.nilp],.ptr,.cells⟩),
 (29,⟨3,true,24,.cells [.int .i64 0,.int .i64 0,.int .i64 0],.struct [(0,1,false),(1,1,false),(2,1,false)],.rows [.int .i64,.int .i64,.int .i64]⟩),
 (31,⟨6,true,48,.cells [.int .i64 0,.int .i64 0,.int .i64 0,.int .i64 0,.int .i64 0,.int .i64 0],.struct [(0,3,true),(3,1,false),(4,1,false),(5,1,false)],.rows [.int .i64,.int .i64,.int .i64,.int .i64,.int .i64,.int .i64]⟩),
 (33,⟨3,true,24,.cells [.int .i64 0,.int .i64 0,.int .i64 0],.struct [(0,1,false),(1,1,false),(2,1,false)],.rows [.int .i64,.int .i64,.int .i64]⟩),
 (35,⟨10,true,80,.cells [.int .i64 0,.int .i64 0,.int .i64 0,.int .i64 0,.int .i64 0,.int .i64 0,.int .i64 0,.int .i64 0,.int .i64 0,.int .i64 0],.struct [(0,6,true),(6,3,true),(9,1,false)],.rows [.int .i64,.int .i64,.int .i64,.int .i64,.int .i64,.int .i64,.int .i64,.int .i64,.int .i64,.int .i64]⟩),
 (37,⟨13,true,104,.cells [.int .i64 0,.int .i64 0,.int .i64 0,.int .i64 0,.int .i64 0,.int .i64 0,.int .i64 0,.int .i64 0,.int .i64 0,.int .i64 0,.int .i64 0,.int .i64 0,.int .i64 0],.struct [(0,1,false),(1,1,false),(2,1,false),(3,10,true)],.rows [.int .i64,.int .i64,.int .i64,.int .i64,.int .i64,.int .i64,.int .i64,.int .i64,.int .i64,.int .i64,.int .i64,.int .i64,.int .i64]⟩),
 (38,⟨1,false,8,.cells [.nilp],.ptr,.cells⟩),
 (39,⟨1,false,24,.cells [.nils],.slice 54,.cells⟩),
 (40,⟨1,false,8,.cells [.nilp],.ptr,.cells⟩),
 (41,⟨1,false,24,.cells [.nils],.slice 40,.cells⟩),
 (42,⟨1,false,24,.cells [.nils],.slice 58,.cells⟩),
 (43,⟨1,false,8,.cells [.nilp],.ptr,.cells⟩),
 (44,⟨1,false,24,.cells [.nils],.slice 22,.cells⟩),
 (45,⟨1,false,24,.cells [.nils],.slice 89,.cells⟩),
 (47,⟨25,true,328,.cells [.int .i64 0,.int .i64 0,.int .i64 0,.int .i64 0,.int .i64 0,.int .i64 0,.int .i64 0,.int .i64 0,.int .i64 0,.int .i64 0,.int .i64 0,.int .i64 0,.int .i64 0,.nilp,.nils,.nils,.nilp,.nils,.nils,.nilp,.nils,.nils,.nils,.nils,.int .i64 0],.struct [(0,13,true),(13,1,false),(14,1,false),(15,1,false),(16,1,false),(17,1,false),(18,1,false),(19,1,false),(20,1,false),(21,1,false),(22,1,false),(23,1,false),(24,1,false)],.cells⟩),
 (48,⟨1,false,8,.cells [.int .i64 0],.intk .i64,.words .i64⟩),
 (54,⟨1,false,8,.cells [.int .u64 0],.intk .u64,.words .u64⟩),
 (56,⟨2,true,16,.cells [.int .u64 0,.int .i64 0],.struct [(0,1,false),(1,1,false)],.rows [.int .u64,.int .i64]⟩),
 (58,⟨1,false,8,.cells [.nilp],.ptr,.cells⟩),
 (70,⟨1,false,8,.cells [.nilp],.ptr,.cells⟩),
 (76,⟨1,false,24,.cells [.nils],.slice 56,.cells⟩),
 (78,⟨3,true,72,.cells [.nils,.nils,.nils],.struct [(0,1,false),(1,1,false),(2,1,false)],.cells⟩),
 (85,⟨4,true,32,.cells [.int .i64 0,.int .i64 0,.int .i64 0,.int .u64 0],.struct [(0,1,false),(1,1,false),(2,1,false),(3,1,false)],.rows [.int .i64,.int .i64,.int .i64,.int .u64]⟩),
 (87,⟨3,true,24,.cells [.int .i64 0,.int .i64 0,.int .u64 0],.struct [(0,1,false),(1,1,false),(2,1,false)],.rows [.int .i64,.int .i64,.int .u64]⟩),
 (89,⟨10,true,80,.cells [.int .i64 0,.int .i64 0,.int .i64 0,.int .i64 0,.int .i64 0,.int .i64 0,.int .u64 0,.int .i64 0,.int .i64 0,.int .u64 0],.struct [(0,1,false),(1,1,false),(2,1,false),(3,4,true),(7,3,true)],.rows [.int .i64,.int .i64,.int .i64,.int .i64,.int .i64,.int .i64,.int .u64,.int .i64,.int .i64,.int .u64]⟩),
 (94,⟨1,false,8,.cells [.nilp],.ptr,.cells⟩),
 (95,⟨1,false,8,.cells [.nilp],.ptr,.cells⟩),
 (97,⟨4,true,32,.cells [.int .i64 0,.bool false,.nilp,.nilp],.struct [(0,1,false),(1,1,false),(2,1,false),(3,1,false)],.cells⟩),
 (98,⟨1,false,8,.cells [.int .u64 0],.intk .u64,.words .u64⟩),
 (100,⟨26,true,208,.cells [.int .i64 0,.int .i64 0,.int .i64 0,.int .i64 0,.int .i64 0,.int .i64 0,.int .i64 0,.int .i64 0,.int .i64 0,.int .i64 0,.int .i64 0,.int .i64 0,.int .i64 0,.int .i64 0,.bool false,.nilp,.nilp,.int .i64 0,.int .u64 0,.int .i64 0,.int .u64 0,.int .u64 0,.int .i64 0,.int .u64 0,.bool false,.int .i64 0],.struct [(0,13,true),(13,4,true),(17,1,false),(18,1,false),(19,1,false),(20,1,false),(21,2,true),(23,1,false),(24,1,false),(25,1,false)],.cells⟩),
 (103,⟨26,true,208,.cells [.int .i64 0,.int .i64 0,.int .i64 0,.int .i64 0,.int .i64 0,.int .i64 0,.int .i64 0,.int .i64 0,.int .i64 0,.int .i64 0,.int .i64 0,.int .i64 0,.int .i64 0,.int .i64 0,.bool false,.nilp,.nilp,.int .i64 0,.int .u64 0,.int .i64 0,.int .u64 0,.int .u64 0,.int .i64 0,.int .u64 0,.bool false,.int .i64 0],.struct [(0,26,true)],.cells⟩),
 (112,⟨22,true,176,.cells [.int .i64 0,.int .i64 0,.int .i64 0,.int .i64 0,.int .i64 0,.int .i64 0,.int .i64 0,.int .i64 0,.int .i64 0,.int .i64 0,.int .i64 0,.int .i64 0,.int .i64 0,.int .i64 0,.int .u64 0,.int .i64 0,.int .u64 0,.int .u64 0,.int .i64 0,.int .u64 0,.bool false,.int .i64 0],.struct [(0,13,true),(13,0,true),(13,1,false),(14,1,false),(15,1,false),(16,1,false),(17,2,true),(19,1,false),(20,1,false),(21,1,false)],.rows [.int .i64,.int .i64,.int .i64,.int .i64,.int .i64,.int .i64,.int .i64,.int .i64,.int .i64,.int .i64,.int .i64,.int .i64,.int .i64,.int .i64,.int .u64,.int .i64,.int .u64,.int .u64,.int .i64,.int .u64,.bool,.int .i64]⟩),
 (114,⟨22,true,176,.cells [.int .i64 0,.int .i64 0,.int .i64 0,.int .i64 0,.int .i64 0,.int .i64 0,.int .i64 0,.int .i64 0,.int .i64 0,.int .i64 0,.int .i64 0,.int .i64 0,.int .i64 0,.int .i64 0,.int .u64 0,.int .i64 0,.int .u64 0,.int .u64 0,.int .i64 0,.int .u64 0,.bool false,.int .i64 0],.struct [(0,22,true)],.rows [.int .i64,.int .i64,.int .i64,.int .i64,.int .i64,.int .i64,.int .i64,.int .i64,.int .i64,.int .i64,.int .i64,.int .i64,.int .i64,.int .i64,.int .u64,.int .i64,.int .u64,.int .u64,.int .i64,.int .u64,.bool,.int .i64]⟩),
 (116,⟨1,false,8,.cells [.nilp],.ptr,.cells⟩),
 (117,⟨1,false,8,.cells [.int .u64 0],.intk .u64,.words .u64⟩),
 (119,⟨4096,true,32768,.words .u64 (List.replicate 4096 0),.arr 4096 1 false,.cells⟩),
 (121,⟨5,true,40,.cells [.int .i64 0,.int .i64 0,.int .u64 0,.int .u64 0,.bool false],.struct [(0,1,false),(1,1,false),(2,1,false),(3,1,false),(4,1,false)],.rows [.int .i64,.int .i64,.int .u64,.int .u64,.bool]⟩),
 (123,⟨8,true,64,.cells [.nilp,.int .i64 0,.int .i64 0,.int .i64 0,.int .u64 0,.int .u64 0,.bool false,.int .i64 0],.struct [(0,1,false),(1,1,false),(2,5,true),(7,1,false)],.cells⟩),
 (127,⟨4,true,32,.cells [.nilf,.nilf,.nilf,.nilf],.arr 4 1 false,.cells⟩),
 (129,⟨8,true,64,.cells [.bool false,.int .u64 0,.nilf,.nilf,.nilf,.nilf,.int .i64 0,.int .i64 0],.struct [(0,1,false),(1,1,false),(2,4,true),(6,1,false),(7,1,false)],.cells⟩),
 (135,⟨1,false,24,.cells [.nils],.slice 87,.cells⟩),
 (141,⟨1,false,8,.cells [.nilp],.ptr,.cells⟩),
 (144,⟨3,true,24,.cells [.nilp,.int .u64 0,.int .u64 0],.struct [(0,1,false),(1,1,false),(2,1,false)],.cells⟩),
 (149,⟨1,false,24,.cells [.nils],.slice 54,.cells⟩),
 (154,⟨1,false,8,.cells [.nilf],.func,.cells⟩),
 (156,⟨2,true,16,.cells [.int .i64 0,.int .i64 0],.struct [(0,1,false),(1,1,false)],.rows [.int .i64,.int .i64]⟩),
 (162,⟨4,true,32,.cells [.int .i64 0,.int .i64 0,.int .u64 0,.int .u64 0],.struct [(0,1,false),(1,1,false),(2,1,false),(3,1,false)],.rows [.int .i64,.int .i64,.int .u64,.int .u64]⟩),
 (163,⟨1,false,24,.cells [.nils],.slice 162,.cells⟩),
 (165,⟨24,true,208,.cells [.int .i64 0,.int .i64 0,.int .i64 0,.int .i64 0,.int .i64 0,.int .i64 0,.int .i64 0,.int .i64 0,.int .i64 0,.int .i64 0,.int .i64 0,.int .i64 0,.int .i64 0,.int .u64 0,.int .i64 0,.int .i64 0,.int .i64 0,.int .u64 0,.int .u64 0,.int .u64 0,.nils,.int .u64 0,.bool false,.int .i64 0],.struct [(0,13,true),(13,1,false),(14,1,false),(15,4,true),(19,1,false),(20,1,false),(21,1,false),(22,1,false),(23,1,false)],.cells⟩),
 (172,⟨1,false,8,.cells [.int .i64 0],.intk .i64,.words .i64⟩),
 (175,⟨3,true,24,.cells [.int .i64 0,.int .i64 0,.bool false],.struct [(0,1,false),(1,1,false),(2,1,false)],.rows [.int .i64,.int .i64,.bool]⟩),
 (178,⟨1,false,8,.cells [.int .i64 0],.intk .i64,.words .i64⟩),
 (180,⟨3,true,24,.cells [.int .i64 0,.int .i64 0,.int .i64 0],.struct [(0,1,false),(1,1,false),(2,1,false)],.rows [.int .i64,.int .i64,.int .i64]⟩),
 (182,⟨1,false,8,.cells [.int .i64 0],.intk .i64,.words .i64⟩),
 (184,⟨3,true,24,.cells [.int .i64 0,.int .i64 0,.int .i64 0],.struct [(0,1,false),(1,1,false),(2,1,false)],.rows [.int .i64,.int .i64,.int .i64]⟩),
 (187,⟨1,false,8,.cells [.int .i64 0],.intk .i64,.words .i64⟩),
 (189,⟨26,true,200,.cells [.int .i64 0,.int .i64 0,.int .i64 0,.int .i64 0,.int .i64 0,.int .i64 0,.int .i64 0,.int .i64 0,.int .i64 0,.int .i64 0,.int .i64 0,.int .i64 0,.int .i64 0,.bool false,.bool false,.int .u64 0,.int .u64 0,.int .i64 0,.int .i64 0,.int .i64 0,.int .i64 0,.int .u64 0,.nilp,.nilp,.int .u64 0,.int .i64 0],.struct [(0,13,true),(13,1,false),(14,1,false),(15,1,false),(16,1,false),(17,1,false),(18,1,false),(19,1,false),(20,1,false),(21,1,false),(22,1,false),(23,1,false),(24,1,false),(25,1,false)],.cells⟩),
 (191,⟨1,false,8,.cells [.nilf],.func,.cells⟩),
 (192,⟨13,true,104,.cells [.nilf,.nilf,.nilf,.nilf,.nilf,.nilf,.nilf,.nilf,.nilf,.nilf,.nilf,.nilf,.nilf],.arr 13 1 false,.cells⟩),
 (203,⟨1,false,24,.cells [.nils],.slice 117,.cells⟩),
 (205,⟨2,true,16,.cells [.int .i64 0,.int .i64 0],.struct [(0,1,false),(1,1,false)],.rows [.int .i64,.int .i64]⟩),
 (206,⟨4,true,32,.cells [.int .i64 0,.int .i64 0,.int .i64 0,.int .i64 0],.arr 2 2 true,.cells⟩),
 (208,⟨1,false,8,.cells [.int .u64 0],.intk .u64,.words .u64⟩),
 (210,⟨1,false,8,.cells [.int .u64 0],.intk .u64,.words .u64⟩),
 (213,⟨1,false,8,.cells [.nilf],.func,.cells⟩),
 (215,⟨3,true,24,.cells [.nilf,.bool false,.int .i64 0],.struct [(0,1,false),(1,1,false),(2,1,false)],.cells⟩),
 (216,⟨1,false,8,.cells [.nilp],.ptr,.cells⟩),
 (218,⟨15,true,120,.cells [.nilf,.bool false,.int .i64 0,.int .i64 0,.int .i64 0,.int .i64 0,.int .i64 0,.int .i64 0,.int .i64 0,.int .i64 0,.int .i64 0,.int .i64 0,.int .i64 0,.int .i64 0,.nilp],.struct [(0,3,true),(3,10,true),(13,1,false),(14,1,false)],.cells⟩),
 (250,⟨3,true,24,.cells [.int .i64 0,.int .i64 0,.int .i64 0],.struct [(0,1,false),(1,1,false),(2,1,false)],.rows [.int .i64,.int .i64,.int .i64]⟩),
 (252,⟨1,false,24,.cells [.nils],.slice 205,.cells⟩),
 (262,⟨9,true,64,.cells [.int .i64 0,.int .i64 0,.int .i64 0,.int .u64 0,.int .i64 0,.int .i64 0,.bool false,.bool false,.int .i64 0],.struct [(0,3,true),(3,1,false),(4,1,false),(5,1,false),(6,1,false),(7,1,false),(8,1,false)],.rows [.int .i64,.int .i64,.int .i64,.int .u64,.int .i64,.int .i64,.bool,.bool,.int .i64]⟩),
 (263,⟨1,false,8,.cells [.nilf],.func,.cells⟩),
 (265,⟨10,true,72,.cells [.int .i64 0,.int .i64 0,.int .i64 0,.int .u64 0,.int .i64 0,.int .i64 0,.bool false,.bool false,.int .i64 0,.nilf],.struct [(0,9,true),(9,1,false)],.cells⟩),
 (268,⟨1,false,24,.cells [.nils],.slice 250,.cells⟩),
 (273,⟨1,false,8,.cells [.nilp],.ptr,.cells⟩),
 (290,⟨1,false,8,.cells [.nilp],.other,.cells⟩)]
noncomputable def tabF:List (Nat×Func):=[(2,Tryz.f2),(3,Tryz.f3),(4,Tryz.f4),(5,Tryz.f5),(6,Tryz.f6),(7,Tryz.f7),(8,Tryz.f8),(9,Tryz.f9),(10,Tryz.f10),(11,Tryz.f11),(12,Tryz.f12),(13,Tryz.f13),(14,Tryz.f14),(15,Tryz.f15),(16,Tryz.f16),(17,Tryz.f17),(18,Tryz.f18),(19,Tryz.f19),(20,Tryz.f20),(21,Tryz.f21),(22,Tryz.f22),(23,Tryz.f23),(24,Tryz.f24),(25,Tryz.f25),(26,Tryz.f26),(27,Tryz.f27),(28,Tryz.f28),(29,Tryz.f29),(30,Tryz.f30),(31,Tryz.f31),(32,Tryz.f32),(33,Tryz.f33),(34,Tryz.f34),(35,Tryz.f35),(36,Tryz.f36),(37,Tryz.f37),(38,Tryz.f38),(39,Tryz.f39),(40,Tryz.f40),(41,Tryz.f41),(42,Tryz.f42),(43,Tryz.f43),(44,Tryz.f44),(45,Tryz.f45),(46,Tryz.f46),(47,Tryz.f47),(48,Tryz.f48),(49,Tryz.f49),(50,Tryz.f50),(51,Tryz.f51),(52,Tryz.f52),(53,Tryz.f53),(54,Tryz.f54),(55,Tryz.f55),(56,Tryz.f56),(57,Tryz.f57),(58,Tryz.f58),(59,Tryz.f59),(60,Tryz.f60),(61,Tryz.f61),(62,Tryz.f62),(63,Tryz.f63),(64,Tryz.f64),(65,Tryz.f65),(66,Tryz.f66),(67,Tryz.f67),(68,Tryz.f68),(69,Tryz.f69),(70,Tryz.f70),(71,Tryz.f71),(72,Tryz.f72),(73,Tryz.f73),(74,Tryz.f74),(75,Tryz.f75),(76,Tryz.f76),(77,Tryz.f77),(78,Tryz.f78),(79,Tryz.f79),(80,Tryz.f80),(81,Tryz.f81),(82,Tryz.f82),(83,Tryz.f83),(84,Tryz.f84),(85,Tryz.f85),(86,Tryz.f86),(87,Tryz.f87),(88,Tryz.f88),(89,Tryz.f89),(90,Tryz.f90),(91,Tryz.f91),(92,Tryz.f92),(93,Tryz.f93),(94,Tryz.f94),(95,Tryz.f95),(96,Tryz.f96),(97,Tryz.f97),(98,Tryz.f98),(99,Tryz.f99),(100,Tryz.f100),(101,Tryz.f101),(102,Tryz.f102),(103,Tryz.f103),(104,Tryz.f104),(105,Tryz.f105),(106,Tryz.f106),(107,Tryz.f107),(108,Tryz.f108),(109,Tryz.f109),(110,Tryz.f110),(111,Tryz.f111),(112,Tryz.f112),(113,Tryz.f113),(114,Tryz.f114),(115,Tryz.f115),(116,Tryz.f116),(117,Tryz.f117),(118,Tryz.f118),(119,Tryz.f119),(120,Tryz.f120),(121,Tryz.f121),(122,Tryz.f122),(123,Tryz.f123),(124,Tryz.f124),(125,Tryz.f125),(126,Tryz.f126),(127,Tryz.f127),(128,Tryz.f128),(129,Tryz.f129),(130,Tryz.f130),(131,Tryz.f131),(132,Tryz.f132),(133,Tryz.f133),(134,Tryz.f134),(135,Tryz.f135),(136,Tryz.f136),(137,Tryz.f137),(138,Tryz.f138),(139,Tryz.f139),(140,Tryz.f140),(141,Tryz.f141),(142,Tryz.f142),(143,Tryz.f143),(144,Tryz.f144),(145,Tryz.f145),(146,Tryz.f146),(147,Tryz.f147),(148,Tryz.f148),(149,Tryz.f149),(150,Tryz.f150),(151,Tryz.f151),(152,Tryz.f152),(153,Tryz.f153),(154,Tryz.f154),(155,Tryz.f155),(156,Tryz.f156),(157,Tryz.f157),(158,Tryz.f158),(159,Tryz.f159),(160,Tryz.f160),(161,Tryz.f161),(162,Tryz.f162),(163,Tryz.f163),(164,Tryz.f164),(165,Tryz.f165),(166,Tryz.f166),(167,Tryz.f167),(168,Tryz.f168),(169,Tryz.f169),(170,Tryz.f170),(171,Tryz.f171),(172,Tryz.f172),(173,Tryz.f173),(174,Tryz.f174),(175,Tryz.f175),(176,Tryz.f176),(177,Tryz.f177),(178,Tryz.f178),(179,Tryz.f179),(180,Tryz.f180),(181,Tryz.f181),(182,Tryz.f182),(183,Tryz.f183),(184,Tryz.f184),(185,Tryz.f185),(186,Tryz.f186),(187,Tryz.f187),(188,Tryz.f188),(209,Tryz.f209),(210,Tryz.f210)]
theorem tabF_ok:AllF PR tabF:=
 ⟨⟨Tryz.func2,Tryz.call2⟩,⟨⟨Tryz.func3,Tryz.call3⟩,⟨⟨Tryz.func4,Tryz.call4⟩,⟨⟨Tryz.func5,Tryz.call5⟩,⟨⟨Tryz.func6,Tryz.call6⟩,⟨⟨Tryz.func7,Tryz.call7⟩,⟨⟨Tryz.func8,Tryz.call8⟩,⟨⟨Tryz.func9,Tryz.call9⟩,⟨⟨Tryz.func10,Tryz.call10⟩,⟨⟨Tryz.func11,Tryz.call11⟩,⟨⟨Tryz.func12,Tryz.call12⟩,⟨⟨Tryz.func13,Tryz.call13⟩,⟨⟨Tryz.func14,Tryz.call14⟩,⟨⟨Tryz.func15,Tryz.call15⟩,⟨⟨Tryz.func16,Tryz.call16⟩,⟨⟨Tryz.func17,Tryz.call17⟩,⟨⟨Tryz.func18,Tryz.call18⟩,⟨⟨Tryz.func19,Tryz.call19⟩,⟨⟨Tryz.func20,Tryz.call20⟩,⟨⟨Tryz.func21,Tryz.call21⟩,⟨⟨Tryz.func22,Tryz.call22⟩,⟨⟨Tryz.func23,Tryz.call23⟩,⟨⟨Tryz.func24,Tryz.call24⟩,⟨⟨Tryz.func25,Tryz.call25⟩,⟨⟨Tryz.func26,Tryz.call26⟩,⟨⟨Tryz.func27,Tryz.call27⟩,⟨⟨Tryz.func28,Tryz.call28⟩,⟨⟨Tryz.func29,Tryz.call29⟩,⟨⟨Tryz.func30,Tryz.call30⟩,⟨⟨Tryz.func31,Tryz.call31⟩,⟨⟨Tryz.func32,Tryz.call32⟩,⟨⟨Tryz.func33,Tryz.call33⟩,⟨⟨Tryz.func34,Tryz.call34⟩,⟨⟨Tryz.func35,Tryz.call35⟩,⟨⟨Tryz.func36,Tryz.call36⟩,⟨⟨Tryz.func37,Tryz.call37⟩,⟨⟨Tryz.func38,Tryz.call38⟩,⟨⟨Tryz.func39,Tryz.call39⟩,⟨⟨Tryz.func40,Tryz.call40⟩,⟨⟨Tryz.func41,Tryz.call41⟩,⟨⟨Tryz.func42,Tryz.call42⟩,⟨⟨Tryz.func43,Tryz.call43⟩,⟨⟨Tryz.func44,Tryz.call44⟩,⟨⟨Tryz.func45,Tryz.call45⟩,⟨⟨Tryz.func46,Tryz.call46⟩,⟨⟨Tryz.func47,Tryz.call47⟩,⟨⟨Tryz.func48,Tryz.call48⟩,⟨⟨Tryz.func49,Tryz.call49⟩,⟨⟨Tryz.func50,Tryz.call50⟩,⟨⟨Tryz.func51,Tryz.call51⟩,⟨⟨Tryz.func52,Tryz.call52⟩,⟨⟨Tryz.func53,Tryz.call53⟩,⟨⟨Tryz.func54,Tryz.call54⟩,⟨⟨Tryz.func55,Tryz.call55⟩,⟨⟨Tryz.func56,Tryz.call56⟩,⟨⟨Tryz.func57,Tryz.call57⟩,⟨⟨Tryz.func58,Tryz.call58⟩,⟨⟨Tryz.func59,Tryz.call59⟩,⟨⟨Tryz.func60,Tryz.call60⟩,⟨⟨Tryz.func61,Tryz.call61⟩,⟨⟨Tryz.func62,Tryz.call62⟩,⟨⟨Tryz.func63,Tryz.call63⟩,⟨⟨Tryz.func64,Tryz.call64⟩,⟨⟨Tryz.func65,Tryz.call65⟩,⟨⟨Tryz.func66,Tryz.call66⟩,⟨⟨Tryz.func67,Tryz.call67⟩,⟨⟨Tryz.func68,Tryz.call68⟩,⟨⟨Tryz.func69,Tryz.call69⟩,⟨⟨Tryz.func70,Tryz.call70⟩,⟨⟨Tryz.func71,Tryz.call71⟩,⟨⟨Tryz.func72,Tryz.call72⟩,⟨⟨Tryz.func73,Tryz.call73⟩,⟨⟨Tryz.func74,Tryz.call74⟩,⟨⟨Tryz.func75,Tryz.call75⟩,⟨⟨Tryz.func76,Tryz.call76⟩,⟨⟨Tryz.func77,Tryz.call77⟩,⟨⟨Tryz.func78,Tryz.call78⟩,⟨⟨Tryz.func79,Tryz.call79⟩,⟨⟨Tryz.func80,Tryz.call80⟩,⟨⟨Tryz.func81,Tryz.call81⟩,⟨⟨Tryz.func82,Tryz.call82⟩,⟨⟨Tryz.func83,Tryz.call83⟩,⟨⟨Tryz.func84,Tryz.call84⟩,⟨⟨Tryz.func85,Tryz.call85⟩,⟨⟨Tryz.func86,Tryz.call86⟩,⟨⟨Tryz.func87,Tryz.call87⟩,⟨⟨Tryz.func88,Tryz.call88⟩,⟨⟨Tryz.func89,Tryz.call89⟩,⟨⟨Tryz.func90,Tryz.call90⟩,⟨⟨Tryz.func91,Tryz.call91⟩,⟨⟨Tryz.func92,Tryz.call92⟩,⟨⟨Tryz.func93,Tryz.call93⟩,⟨⟨Tryz.func94,Tryz.call94⟩,⟨⟨Tryz.func95,Tryz.call95⟩,⟨⟨Tryz.func96,Tryz.call96⟩,⟨⟨Tryz.func97,Tryz.call97⟩,⟨⟨Tryz.func98,Tryz.call98⟩,⟨⟨Tryz.func99,Tryz.call99⟩,⟨⟨Tryz.func100,Tryz.call100⟩,⟨⟨Tryz.func101,Tryz.call101⟩,⟨⟨Tryz.func102,Tryz.call102⟩,⟨⟨Tryz.func103,Tryz.call103⟩,⟨⟨Tryz.func104,Tryz.call104⟩,⟨⟨Tryz.func105,Tryz.call105⟩,⟨⟨Tryz.func106,Tryz.call106⟩,⟨⟨Tryz.func107,Tryz.call107⟩,⟨⟨Tryz.func108,Tryz.call108⟩,⟨⟨Tryz.func109,Tryz.call109⟩,⟨⟨Tryz.func110,Tryz.call110⟩,⟨⟨Tryz.func111,Tryz.call111⟩,⟨⟨Tryz.func112,Tryz.call112⟩,⟨⟨Tryz.func113,Tryz.call113⟩,⟨⟨Tryz.func114,Tryz.call114⟩,⟨⟨Tryz.func115,Tryz.call115⟩,⟨⟨Tryz.func116,Tryz.call116⟩,⟨⟨Tryz.func117,Tryz.call117⟩,⟨⟨Tryz.func118,Tryz.call118⟩,⟨⟨Tryz.func119,Tryz.call119⟩,⟨⟨Tryz.func120,Tryz.call120⟩,⟨⟨Tryz.func121,Tryz.call121⟩,⟨⟨Tryz.func122,Tryz.call122⟩,⟨⟨Tryz.func123,Tryz.call123⟩,⟨⟨Tryz.func124,Tryz.call124⟩,⟨⟨Tryz.func125,Tryz.call125⟩,⟨⟨Tryz.func126,Tryz.call126⟩,⟨⟨Tryz.func127,Tryz.call127⟩,⟨⟨Tryz.func128,Tryz.call128⟩,⟨⟨Tryz.func129,Tryz.call129⟩,⟨⟨Tryz.func130,Tryz.call130⟩,⟨⟨Tryz.func131,Tryz.call131⟩,⟨⟨Tryz.func132,Tryz.call132⟩,⟨⟨Tryz.func133,Tryz.call133⟩,⟨⟨Tryz.func134,Tryz.call134⟩,⟨⟨Tryz.func135,Tryz.call135⟩,⟨⟨Tryz.func136,Tryz.call136⟩,⟨⟨Tryz.func137,Tryz.call137⟩,⟨⟨Tryz.func138,Tryz.call138⟩,⟨⟨Tryz.func139,Tryz.call139⟩,⟨⟨Tryz.func140,Tryz.call140⟩,⟨⟨Tryz.func141,Tryz.call141⟩,⟨⟨Tryz.func142,Tryz.call142⟩,⟨⟨Tryz.func143,Tryz.call143⟩,⟨⟨Tryz.func144,Tryz.call144⟩,⟨⟨Tryz.func145,Tryz.call145⟩,⟨⟨Tryz.func146,Tryz.call146⟩,⟨⟨Tryz.func147,Tryz.call147⟩,⟨⟨Tryz.func148,Tryz.call148⟩,⟨⟨Tryz.func149,Tryz.call149⟩,⟨⟨Tryz.func150,Tryz.call150⟩,⟨⟨Tryz.func151,Tryz.call151⟩,⟨⟨Tryz.func152,Tryz.call152⟩,⟨⟨Tryz.func153,Tryz.call153⟩,⟨⟨Tryz.func154,Tryz.call154⟩,⟨⟨Tryz.func155,Tryz.call155⟩,⟨⟨Tryz.func156,Tryz.call156⟩,⟨⟨Tryz.func157,Tryz.call157⟩,⟨⟨Tryz.func158,Tryz.call158⟩,⟨⟨Tryz.func159,Tryz.call159⟩,⟨⟨Tryz.func160,Tryz.call160⟩,⟨⟨Tryz.func161,Tryz.call161⟩,⟨⟨Tryz.func162,Tryz.call162⟩,⟨⟨Tryz.func163,Tryz.call163⟩,⟨⟨Tryz.func164,Tryz.call164⟩,⟨⟨Tryz.func165,Tryz.call165⟩,⟨⟨Tryz.func166,Tryz.call166⟩,⟨⟨Tryz.func167,Tryz.call167⟩,⟨⟨Tryz.func168,Tryz.call168⟩,⟨⟨Tryz.func169,Tryz.call169⟩,⟨⟨Tryz.func170,Tryz.call170⟩,⟨⟨Tryz.func171,Tryz.call171⟩,⟨⟨Tryz.func172,Tryz.call172⟩,⟨⟨Tryz.func173,Tryz.call173⟩,⟨⟨Tryz.func174,Tryz.call174⟩,⟨⟨Tryz.func175,Tryz.call175⟩,⟨⟨Tryz.func176,Tryz.call176⟩,⟨⟨Tryz.func177,Tryz.call177⟩,⟨⟨Tryz.func178,Tryz.call178⟩,⟨⟨Tryz.func179,Tryz.call179⟩,⟨⟨Tryz.func180,Tryz.call180⟩,⟨⟨Tryz.func181,Tryz.call181⟩,⟨⟨Tryz.func182,Tryz.call182⟩,⟨⟨Tryz.func183,Tryz.call183⟩,⟨⟨Tryz.func184,Tryz.call184⟩,⟨⟨Tryz.func185,Tryz.call185⟩,⟨⟨Tryz.func186,Tryz.call186⟩,⟨⟨Tryz.func187,Tryz.call187⟩,⟨⟨Tryz.func188,Tryz.call188⟩,⟨⟨Tryz.func209,Tryz.call209⟩,⟨⟨Tryz.func210,Tryz.call210⟩,trivial⟩⟩⟩⟩⟩⟩⟩⟩⟩⟩⟩⟩⟩⟩⟩⟩⟩⟩⟩⟩⟩⟩⟩⟩⟩⟩⟩⟩⟩⟩⟩⟩⟩⟩⟩⟩⟩⟩⟩⟩⟩⟩⟩⟩⟩⟩⟩⟩⟩⟩⟩⟩⟩⟩⟩⟩⟩⟩⟩⟩⟩⟩⟩⟩⟩⟩⟩⟩⟩⟩⟩⟩⟩⟩⟩⟩⟩⟩⟩⟩⟩⟩⟩⟩⟩⟩⟩⟩⟩⟩⟩⟩⟩⟩⟩⟩⟩⟩⟩⟩⟩⟩⟩⟩⟩⟩⟩⟩⟩⟩⟩⟩⟩⟩⟩⟩⟩⟩⟩⟩⟩⟩⟩⟩⟩⟩⟩⟩⟩⟩⟩⟩⟩⟩⟩⟩⟩⟩⟩⟩⟩⟩⟩⟩⟩⟩⟩⟩⟩⟩⟩⟩⟩⟩⟩⟩⟩⟩⟩⟩⟩⟩⟩⟩⟩⟩⟩⟩⟩⟩⟩⟩⟩⟩⟩⟩⟩⟩⟩⟩⟩⟩⟩⟩⟩⟩⟩⟩⟩
def seT (t:TypeId):Option (List IntKind):=cond (Nat.beq t 87) (some [.i64,.i64,.u64]) (cond (Nat.beq t 56) (some [.u64,.i64]) (none))
theorem seT_ok:∀ t ks,seT t=some ks→SEok PR t ks:=by
 intro t ks h
 unfold seT at h
 cases h87:Nat.beq t 87 with
 |true=>rw [h87] at h;cases h;have:=Nat.beq_eq.mp h87;subst this;exact SEok_of (by kernel_rfl)
 |false=>
  rw [h87] at h;simp only [cond_false] at h
  cases h56:Nat.beq t 56 with
  |true=>rw [h56] at h;cases h;have:=Nat.beq_eq.mp h56;subst this;exact SEok_of (by kernel_rfl)
  |false=>
   rw [h56] at h;simp only [cond_false] at h
   cases h
def imT (t:TypeId) (n:String):Option FuncId:=cond (Nat.beq t 182&&decide (n= "coxswain/tower.cells")) (some 210) (cond (Nat.beq t 178&&decide (n= "coxswain/tower.cells")) (some 209) (none))
def pzT (_:TypeId):Bool:=false
theorem imT_ok:∀ t n f,imT t n=some f→IMok PR t n f:=by
 intro t n f h
 unfold imT at h
 cases h0:(Nat.beq t 182&&decide (n= "coxswain/tower.cells")) with
 |true=>
  rw [h0] at h;cases h;have h0:=Bool.and_eq_true_iff.1 h0;have e:=Nat.beq_eq.mp h0.1;have e2:=of_decide_eq_true h0.2;subst e;subst e2;exact IMok_ofV (by kernel_rfl)
 |false=>
 rw [h0] at h;simp only [cond_false] at h
 cases h1:(Nat.beq t 178&&decide (n= "coxswain/tower.cells")) with
 |true=>
  rw [h1] at h;cases h;have h1:=Bool.and_eq_true_iff.1 h1;have e:=Nat.beq_eq.mp h1.1;have e2:=of_decide_eq_true h1.2;subst e;subst e2;exact IMok_ofV (by kernel_rfl)
 |false=>
 rw [h1] at h;simp only [cond_false] at h
 cases h
theorem pzT_ok:∀ t,pzT t=true→PZok PR t:=by
 intro t h
 cases h
set_option maxRecDepth 100000 in
theorem tabT_ok:allTy PR tabT=true:=by kernel_rfl
theorem env_ok (sm:FuncId→Option (List V→St→Option (V×St))):EnvOK PR (envOf tabT tabF sm seT imT pzT):=
 envOf_ok (by kernel_rfl) (by kernel_rfl) (by kernel_rfl) tabT_ok tabF_ok seT_ok imT_ok pzT_ok
end Go.Sx
namespace Go.Sx
section
variable {P:Program} {E:Env}
def ctl (E:Env) (run:X) (fr:Frs) (todo:List Item) (T:Tr V) (df:List Dfr) (s:St):Option (List Item×Tr V×List Dfr×St):=
 match todo with
 |.inBlock _::k=>some (k,T,df,s)
 |.inScope _::k=>some (k,T,df,s)
 |.inLoop c::k=>some (.code c::.inLoop c::k,T,df,s)
 |.code c::k=>match c with
  |.skip=>some (k,T,df,s)
  |.label _=>some (k,T,df,s)
  |.seq a b=>some (.code a::.code b::k,T,df,s)
  |.cond c a b=>(ev T c).bind fun v=>match v with
   |.bool t=>match dec t s with
    |(true,s1)=>some (.code a::k,settle T c true,df,s1)
    |(false,s1)=>some (.code b::k,settle T c false,df,s1)
   |_=>none
  |.block id c=>some (.code c::.inBlock id::k,T,df,s)
  |.loop c=>some (.code c::.inLoop c::k,T,df,s)
  |.exit id=>(exitTo id k).bind fun k'=>some (k',T,df,s)
  |.goto l=>(gotoIn l k).bind fun k'=>some (k',T,df,s)
  |.scope c=>some (.code c::.inScope c::k,T,df,s)
  |.ret=>none
  |.refuse _=>none
  |.region id ops draw=>(stepX E run fr (.region id ops draw) T df s).bind fun (e,T1,df1,s1)=>match e with
   |.normal=>some (k,T1,df1,s1)
   |_=>none
  |.rangeFunc f ps a b=>(stepX E run fr (.rangeFunc f ps a b) T df s).bind fun (e,T1,df1,s1)=>match e with
   |.normal=>some (k,T1,df1,s1)
   |_=>none
 |_=>none
def ctlN (E:Env) (run:X) (fr:Frs):Nat→List Item→Tr V→List Dfr→St→Option (List Item×Tr V×List Dfr×St)
 |0,todo,T,df,s=>some (todo,T,df,s)
 |n+1,todo,T,df,s=>(ctl E run fr todo T df s).bind fun (todo1,T1,df1,s1)=>ctlN E run fr n todo1 T1 df1 s1
def StepsT (P:Program) (fr:Frs) (t t':List Item):Rel:=fun rv kind _ cs a b=>Steps P (At fr rv kind cs a t) (At fr rv kind cs b t')
variable {fr:Frs} {T T':Tr V} {df df':List Dfr} {s s':St}
theorem ctl_ok (hE:EnvOK P E) (hS:SumOK P E) {run:X} (hr:XOK P run) {todo todo':List Item} (h:ctl E run fr todo T df s=some (todo',T',df',s')) (ho:Obl s'):
  Lg s s'∧Obl s∧Pc fr T df s T' df' s' (StepsT P fr todo todo'):=by
 have hX:=stepX_ok hE hS hr
 have plain:∀ t t',some (t',T,df,s)=some (todo',T',df',s')→(∀ rv kind cs a,Steps P (At fr rv kind cs a t) (At fr rv kind cs a t'))→Lg s s'∧Obl s∧Pc fr T df s T' df' s' (StepsT P fr t todo'):=by
  intro t t' he hst
  injection he with he
  injection he with h1 he
  injection he with h2 he
  injection he with h3 h4
  subst h1;subst h2;subst h3;subst h4
  exact ⟨.refl _,ho,Pc.stay fun rv kind k cs a=>hst rv kind cs a⟩
 unfold ctl at h
 split at h
 ·exact plain _ _ h fun _ _ _ _=>m_one stepR_inBlock
 ·exact plain _ _ h fun _ _ _ _=>m_one stepR_inScope
 ·exact plain _ _ h fun _ _ _ _=>m_one stepR_inLoop
 ·rename_i c k
  split at h
  ·exact plain _ _ h fun _ _ _ _=>m_one stepR_skip
  ·exact plain _ _ h fun _ _ _ _=>m_one stepR_label
  ·exact plain _ _ h fun _ _ _ _=>m_one stepR_seq
  ·rename_i c x y
   obtain ⟨v,h1,h2⟩:=XA h
   split at h2
   ·rename_i t
    generalize hd:dec t s=ds at h2
    obtain ⟨b,s1⟩:=ds
    have hfin:some ((Item.code (if b then x else y))::k,settle T c b,df,s1)=some (todo',T',df',s'):=by cases b<;>exact h2
    injection hfin with he
    injection he with e1 he
    injection he with e2 he
    injection he with e3 e4
    subst e1;subst e2;subst e3;subst e4
    obtain ⟨hbt,hq⟩:=dec_ok hd ho
    refine ⟨.of_same hq.1,hq.2,?_⟩
    intro D L rv kind k' cs a hSR hC hD
    refine ⟨L,a,?_,?_,?_,?_⟩
    ·rw [hq.1.H];exact .refl _ _ _ _
    ·rw [YA hq.1.nx.symm,hq.1.H];exact hSR
    ·rw [YA hq.1.nx.symm];exact hC.slots fun u=>settle_get h1 hbt u
    ·have hev:evalA a.arr c=.bool t:=by rw [ev_ok (hC L (.refl _ _)).1 h1];rfl
     have hev2:(⟨a.arr,a.dv⟩:Act).eval c=.bool t:=hev
     refine m_one ?_
     rw [hbt]
     exact stepR_cond hev2
   ·cases h2
  ·exact plain _ _ h fun _ _ _ _=>m_one stepR_block
  ·exact plain _ _ h fun _ _ _ _=>m_one stepR_loop
  ·obtain ⟨k',h1,h2⟩:=XA h
   exact plain _ _ h2 fun _ _ _ _=>m_one (stepR_exit h1)
  ·obtain ⟨k',h1,h2⟩:=XA h
   exact plain _ _ h2 fun _ _ _ _=>m_one (stepR_goto h1)
  ·exact plain _ _ h fun _ _ _ _=>m_one stepR_scope
  ·cases h
  ·cases h
  ·obtain ⟨⟨e,T1,df1,s1⟩,h1,h2⟩:=XA h
   have he:e=.normal∧some (k,T1,df1,s1)=some (todo',T',df',s'):=by cases e<;>first|exact ⟨rfl,h2⟩|cases h2
   obtain ⟨rfl,h3⟩:=he
   injection h3 with h3
   injection h3 with e1 h3
   injection h3 with e2 h3
   injection h3 with e3 e4
   subst e1;subst e2;subst e3;subst e4
   obtain ⟨g1,g2,g3⟩:=hX _ _ _ _ _ _ _ _ _ h1 ho
   exact ⟨g1,g2,(g3.at.atk (fun _=>k)).mono fun rv kind k cs a b p=>p⟩
  ·obtain ⟨⟨e,T1,df1,s1⟩,h1,h2⟩:=XA h
   have he:e=.normal∧some (k,T1,df1,s1)=some (todo',T',df',s'):=by cases e<;>first|exact ⟨rfl,h2⟩|cases h2
   obtain ⟨rfl,h3⟩:=he
   injection h3 with h3
   injection h3 with e1 h3
   injection h3 with e2 h3
   injection h3 with e3 e4
   subst e1;subst e2;subst e3;subst e4
   obtain ⟨g1,g2,g3⟩:=hX _ _ _ _ _ _ _ _ _ h1 ho
   exact ⟨g1,g2,(g3.at.atk (fun _=>k)).mono fun rv kind k cs a b p=>p⟩
 ·cases h
theorem ctlN_ok (hE:EnvOK P E) (hS:SumOK P E) {run:X} (hr:XOK P run):∀ (n:Nat) (todo todo':List Item) (T T':Tr V) (df df':List Dfr) (s s':St),ctlN E run fr n todo T df s=some (todo',T',df',s')→Obl s'→
  Lg s s'∧Obl s∧Pc fr T df s T' df' s' (StepsT P fr todo todo'):=by
 intro n
 induction n with
 |zero=>
  intro todo todo' T T' df df' s s' h ho
  simp only [ctlN] at h
  injection h with h
  injection h with e1 h
  injection h with e2 h
  injection h with e3 e4
  subst e1;subst e2;subst e3;subst e4
  exact ⟨.refl _,ho,Pc.stay fun _ _ _ _ _=>.refl _ _⟩
 |succ n ih=>
  intro todo todo' T T' df df' s s' h ho
  simp only [ctlN] at h
  obtain ⟨⟨todo1,T1,df1,s1⟩,h1,h2⟩:=XA h
  obtain ⟨g1,g2,g3⟩:=ih _ _ _ _ _ _ _ _ h2 ho
  obtain ⟨k1,k2,k3⟩:=ctl_ok hE hS hr h1 g2
  exact ⟨k1.trans g1,k2,k3.trans g3 k1.le g1.le fun _ _ _ _ _ _ _ p q=>Steps.trans p q⟩
structure KeptBut (S:Nat→Prop) (W W':World):Prop where
 os:W'.os=W.os
 tape:W'.tape=W.tape
 output:W'.output=W.output
 size:W.heap.size≤W'.heap.size
 old:∀ b,b<W.heap.size→¬ S b→W'.heap[b]?=W.heap[b]?
theorem KeptBut.refl (S:Nat→Prop) (W:World):KeptBut S W W:=⟨rfl,rfl,rfl,Nat.le_refl _,fun _ _ _=>rfl⟩
def Fresh (S:Nat→Prop) (W:World) (L:LM) (H:Nat→Option Ob):Prop:=∀ n o b,H n=some o→o.isRo=false→(L n).blk=some b→W.heap.size≤b∨S b
theorem KeptBut.mv {S:Nat→Prop} {W w w':World} {D:Nat→Prop} {L L':LM} {H H':Nat→Option Ob} (hk:KeptBut S W w) (hf:Fresh S W L H) (hm:Mv D L H w L' H' w'):KeptBut S W w'∧Fresh S W L' H':=by
 refine ⟨⟨hm.os.trans hk.os,hm.tape.trans hk.tape,hm.output.trans hk.output,Nat.le_trans hk.size hm.size,fun b hb hS=>?_⟩,fun n o b ho hr hb=>?_⟩
 ·rw [hm.frame b (Nat.lt_of_lt_of_le hb hk.size) (fun n o ho hr hbl=>by
   rcases hf n o b ho hr hbl with h|h
   ·omega
   ·exact hS h)]
  exact hk.old b hb hS
 ·rcases hm.sub n o b ho hr hb with h|⟨m,om,h1,h2,h3⟩
  ·exact .inl (Nat.le_trans hk.size h)
  ·exact hf m om b h1 h2 h3
structure Base where
 W:World
 S:Nat→Prop
 n0:Nat
 L0:LM
def YC (β:Base) (fr:Frs) (T:Tr V) (df:List Dfr) (H:Nat→Option Ob) (nx hi:Nat) (a:Cf):Prop:=
 ∃ (D:Nat→Prop) (L:LM),SR D L H a.w∧CtxR D L fr T df a.arr a.dv none∧(∀ n,D n→n<nx∨hi≤n)∧KeptBut β.S β.W a.w∧Fresh β.S β.W L H∧(∀ m,m<β.n0→D m∧L m=β.L0 m)
theorem YC.run (hE:EnvOK P E) (hS:SumOK P E) {run:X} (hr:XOK P run) (kind:CallKind) (cs:List Frame) {β:Base} {hi n:Nat} {todo todo':List Item} {a:Cf} (hA:YC β fr T df s.H.get s.nx hi a)
  (h:ctlN E run fr n todo T df s=some (todo',T',df',s')) (ho:Obl s') (hhi:s'.nx≤hi):
  ∃ b,YC β fr T' df' s'.H.get s'.nx hi b∧Steps P (At fr none kind cs a todo) (At fr none kind cs b todo'):=by
 obtain ⟨D,L,hSR,hC,hD,hk,hf,h0⟩:=hA
 obtain ⟨g1,g2,g3⟩:=ctlN_ok hE hS hr n _ _ _ _ _ _ _ _ h ho
 obtain ⟨L',b,m1,m2,m3,m4⟩:=g3 D L none kind [] cs a hSR hC (fun n hn=>(hD n hn).imp id (fun h=>by omega))
 obtain ⟨k1,k2⟩:=hk.mv hf m1
 refine ⟨b,⟨_,L',m2,m3,fun n hn=>?_,k1,k2,fun m hm=>⟨.inl (h0 m hm).1,(m1.agree m (h0 m hm).1).symm.trans (h0 m hm).2⟩⟩,m4⟩
 rcases hn with hn|hn
 ·rcases hD n hn with h|h
  ·have:=g1.le;exact .inl (by omega)
  ·exact .inr h
 ·exact .inl hn.2
theorem YC.take {β:Base} {nx hi nx' far:Nat} {H H':Nat→Option Ob} {Tc:Tr V} {a:Cf} (hA:YC β fr T [] H nx hi a) (π:Nat→Nat) (p:Nat→Bool) (hp:∀ m,p m=true→m<nx') (hfar:nx'≤far)
  (hH:∀ m o,H' m=some o→o.plain=true∧p m=true∧o.names p=true∧H (π m)=some (o.ren π))
  (hinj:∀ m n om on,H' m=some om→H' n=some on→om.isRo=false→m≠n→π m≠π n)
  (hlive:∀ m,p m=true→m<β.n0∨∃ o,H (π m)=some o) (hold:∀ m,m<β.n0→p m=true∧π m=m)
  (hTn:∀ t,fr.nt≤t→Tc.get t=none) (hT:∀ t,t<fr.nt→(∃ v,Tc.get t=some v∧v.names p=true∧(T.get t).getD XJ=v.ren π)∨(Tc.get t).getD XJ=((T.get t).getD XJ).ren (fun n=>far+n)):
  YC β fr Tc [] H' nx' far a:=by
 obtain ⟨D,L,hSR,hC,hD,hk,hf,hb0⟩:=hA
 obtain ⟨π',hπ'⟩:∃ π':Nat→Nat,π'=fun m=>if m<nx' then π m else m - far:=⟨_,rfl⟩
 obtain ⟨D',hD'⟩:∃ D':Nat→Prop,D'=fun m=>p m=true∨(far≤m∧D (m - far)):=⟨_,rfl⟩
 have hlt:∀ m,m<nx'→π' m=π m:=fun m hm=>by rw [hπ'];simp [hm]
 have hge:∀ m,far≤m→π' m=m - far:=fun m hm=>by rw [hπ'];simp [show ¬ m<nx' by omega]
 have hDD:∀ m,D' m→D (π' m):=by
  intro m hm
  rw [hD'] at hm
  rcases hm with hm|⟨h1,h2⟩
  ·rw [hlt m (hp m hm)]
   rcases hlive m hm with h|⟨o,ho⟩
   ·rw [(hold m h).2];exact (hb0 m h).1
   ·exact hSR.live ho
  ·rw [hge m h1];exact h2
 have hren:∀ v:V,v.names p=true→∀ L1:LM,v.den (fun n=>L1 (π' n))=(v.ren π).den L1:=by
  intro v hv L1
  rw [den_ren]
  exact den_names (p:=p) (fun n hn=>by simp [hlt n (hp n hn)]) v hv
 refine ⟨D',fun m=>L (π' m),?_,?_,?_,hk,?_,fun m hm=>⟨by rw [hD'];exact .inl (hold m hm).1,?_⟩⟩
 ·refine hSR.take hDD (fun m o ho=>?_) (fun m o L1 L2 ho hAg hR=>?_) (fun m n om on hm hn hr hne=>?_)
  ·obtain ⟨h1,h2,h3,h4⟩:=hH m o ho
   refine ⟨h1,by rw [hD'];exact .inl h2,?_⟩
   rw [hlt m (hp m h2),h4]
   congr 1
   cases o with
   |mem b t op=>
    cases b with
    |cells cs=>
     simp only [Ob.names,Body.names] at h3
     simp only [Ob.ren,Body.ren]
     congr 2
     exact renL_names (p:=p) (fun n hn=>(hlt n (hp n hn)).symm) cs h3
    |words k ws=>rfl
    |rows sh rs=>rfl
   |ro k ws=>rfl
   |loop=>cases h1
   |deferred=>cases h1
  ·obtain ⟨h1,h2,h3,h4⟩:=hH m o ho
   exact ObR_names (p:=p) (fun n hn=>hAg n (by rw [hD'];exact .inl hn)) h2 h3 hR
  ·obtain ⟨_,h2,_,_⟩:=hH m om hm
   obtain ⟨_,h3,_,_⟩:=hH n on hn
   rw [hlt m (hp m h2),hlt n (hp n h3)]
   exact hinj m n om on hm hn hr hne
 ·intro L' hL'
  have h0:=hC L (.refl _ _)
  have hfr:fr.rnd=none:=by
   have:=h0.2.2
   cases hr:fr.rnd with
   |none=>rfl
   |some l=>rw [hr] at this;cases this
  refine ⟨⟨h0.1.1,fun t=>?_⟩,h0.2.1,by rw [hfr];rfl⟩
  by_cases htn:fr.nt≤t
  ·rw [hTn t htn,Array.getD_eq_getD_getElem?,Array.getElem?_eq_none (by rw [h0.1.1];exact htn)];rfl
  rcases hT t (by omega) with ⟨v,g1,g2,g3⟩|g
  ·rw [h0.1.2 t,g3,g1,← hren v g2 L]
   exact den_names (p:=p) (fun n hn=>hL' n (by rw [hD'];exact .inl hn)) v g2
  ·rw [g,den_ren]
   refine (hC (fun n=>L' (far+n)) fun n hn=>?_).1.2 t
   have h1:=hL' (far+n) (by rw [hD'];exact .inr ⟨by omega,by rw [Nat.add_sub_cancel_left];exact hn⟩)
   show L n=L' (far+n)
   rw [← h1]
   show L n=L (π' (far+n))
   rw [hge _ (by omega),Nat.add_sub_cancel_left]
 ·intro m hm
  rw [hD'] at hm
  rcases hm with hm|hm
  ·exact .inl (hp m hm)
  ·exact .inr hm.1
 ·intro m o b ho hr hb
  obtain ⟨h1,h2,h3,h4⟩:=hH m o ho
  have hb:(L (π' m)).blk=some b:=hb
  rw [hlt m (hp m h2)] at hb
  exact hf (π m) _ b h4 (by rw [isRo_ren];exact hr) hb
 ·show L (π' m)=_
  rw [hlt m (hp m (hold m hm).1),(hold m hm).2]
  exact (hb0 m hm).2
end
end Go.Sx
