/- Tables of types and functions: printed by gentab.py. -/
import Derived.Test.YtmmcpgjfkphgaaaGreatSxW
import Derived.Test.YtmmcpgjfkphgaaaGreatChecked
import Derived.KernelRfl
namespace Go.Sx
noncomputable def tabT : List (Nat × TI) := [
  (1, ⟨1, false, 8, .cells [.nilf], .func, .cells⟩),
  (2, ⟨1, false, 8, .cells [.int .i64 0], .intk .i64, .words .i64⟩),
  (3, ⟨1, false, 8, .cells [.int .i64 0], .intk .i64, .words .i64⟩),
  (4, ⟨1, false, 1, .cells [.bool false], .bool, .rows [.bool]⟩),
  (5, ⟨1, false, 1, .cells [.int .u8 0], .intk .u8, .words .u8⟩),
  (6, ⟨1, false, 1, .cells [.int .u8 0], .intk .u8, .words .u8⟩),
  (7, ⟨4, true, 24, .cells [.int .i64 0, .int .i64 0, .bool false, .int .u8 0], .struct [(0, 1, false), (1, 1, false), (2, 1, false), (3, 1, false)], .rows [.int .i64, .int .i64, .bool, .int .u8]⟩),
  (8, ⟨4, true, 24, .cells [.int .i64 0, .int .i64 0, .bool false, .int .u8 0], .struct [(0, 1, false), (1, 1, false), (2, 1, false), (3, 1, false)], .rows [.int .i64, .int .i64, .bool, .int .u8]⟩),
  (9, ⟨1, false, 16, .cells [.str ⟨#[]⟩], .other, .cells⟩),
  (10, ⟨1, false, 16, .cells [.str ⟨#[]⟩], .other, .cells⟩),
  (11, ⟨1, false, 16, .cells [.str ⟨#[]⟩], .other, .cells⟩),
  (12, ⟨1, false, 8, .cells [.int .u64 0], .intk .u64, .words .u64⟩),
  (13, ⟨2, true, 24, .cells [.str ⟨#[]⟩, .int .u64 0], .struct [(0, 1, false), (1, 1, false)], .cells⟩),
  (14, ⟨2, true, 24, .cells [.str ⟨#[]⟩, .int .u64 0], .struct [(0, 1, false), (1, 1, false)], .cells⟩),
  (15, ⟨1, false, 8, .cells [.nilp], .ptr, .cells⟩),
  (16, ⟨1, false, 8, .cells [.nilp], .other, .cells⟩),
  (17, ⟨1, false, 8, .cells [.nilp], .ptr, .cells⟩),
  (18, ⟨1, true, 8, .cells [.nilp], .struct [(0, 1, false)], .cells⟩),
  (19, ⟨1, true, 8, .cells [.nilp], .struct [(0, 1, false)], .cells⟩),
  (20, ⟨1, false, 16, .cells [.nili], .iface, .cells⟩),
  (21, ⟨1, false, 4, .cells [.int .i32 0], .intk .i32, .words .i32⟩),
  (22, ⟨1, false, 24, .cells [.nils], .slice 3, .cells⟩),
  (23, ⟨1, false, 8, .cells [.nilf], .func, .cells⟩),
  (24, ⟨1, false, 24, .cells [.nils], .slice 63, .cells⟩),
  (26, ⟨1, false, 8, .cells [.nilf], .func, .cells⟩),
  (27, ⟨1, false, 8, .cells [.int .i64 0], .intk .i64, .words .i64⟩),
  (29, ⟨1, false, 8, .cells [.nilf], .func, .cells⟩),
  (30, ⟨1, false, 8, .cells [.nilf], .func, .cells⟩),
  (31, ⟨3, true, 24, .cells [.int .i64 0, .int .i64 0, .int .i64 0], .struct [(0, 1, false), (1, 1, false), (2, 1, false)], .rows [.int .i64, .int .i64, .int .i64]⟩),
  (32, ⟨3, true, 24, .cells [.int .i64 0, .int .i64 0, .int .i64 0], .struct [(0, 1, false), (1, 1, false), (2, 1, false)], .rows [.int .i64, .int .i64, .int .i64]⟩),
  (33, ⟨1, false, 8, .cells [.nilf], .func, .cells⟩),
  (34, ⟨1, false, 8, .cells [.nilp], .ptr, .cells⟩),
  (35, ⟨1, false, 8, .cells [.nilf], .func, .cells⟩),
  (36, ⟨1, false, 8, .cells [.nilf], .func, .cells⟩),
  (37, ⟨4, true, 32, .cells [.int .i64 0, .int .i64 0, .int .i64 0, .int .i64 0], .struct [(0, 1, false), (1, 1, false), (2, 1, false), (3, 1, false)], .rows [.int .i64, .int .i64, .int .i64, .int .i64]⟩),
  (38, ⟨4, true, 32, .cells [.int .i64 0, .int .i64 0, .int .i64 0, .int .i64 0], .struct [(0, 1, false), (1, 1, false), (2, 1, false), (3, 1, false)], .rows [.int .i64, .int .i64, .int .i64, .int .i64]⟩),
  (40, ⟨1, false, 8, .cells [.nilf], .func, .cells⟩),
  (41, ⟨1, false, 8, .cells [.nilf], .func, .cells⟩),
  (43, ⟨1, false, 8, .cells [.nilf], .func, .cells⟩),
  (44, ⟨1, false, 8, .cells [.nilf], .func, .cells⟩),
  (45, ⟨1, false, 8, .cells [.nilf], .func, .cells⟩),
  (46, ⟨1, false, 8, .cells [.nilp], .ptr, .cells⟩),
  (47, ⟨1, false, 8, .cells [.nilf], .func, .cells⟩),
  (49, ⟨1, false, 8, .cells [.nilp], .ptr, .cells⟩),
  (50, ⟨1, false, 8, .cells [.nilf], .func, .cells⟩),
  (51, ⟨1, false, 8, .cells [.nilf], .func, .cells⟩),
  (52, ⟨1, false, 8, .cells [.nilf], .func, .cells⟩),
  (53, ⟨1, false, 8, .cells [.nilf], .func, .cells⟩),
  (54, ⟨1, false, 8, .cells [.nilp], .ptr, .cells⟩),
  (55, ⟨1, false, 8, .cells [.nilf], .func, .cells⟩),
  (56, ⟨1, false, 8, .cells [.nilf], .func, .cells⟩),
  (57, ⟨1, false, 8, .cells [.int .u64 0], .intk .u64, .words .u64⟩),
  (58, ⟨4, true, 32, .cells [.int .i64 0, .int .i64 0, .int .i64 0, .int .u64 0], .struct [(0, 1, false), (1, 1, false), (2, 1, false), (3, 1, false)], .rows [.int .i64, .int .i64, .int .i64, .int .u64]⟩),
  (59, ⟨4, true, 32, .cells [.int .i64 0, .int .i64 0, .int .i64 0, .int .u64 0], .struct [(0, 1, false), (1, 1, false), (2, 1, false), (3, 1, false)], .rows [.int .i64, .int .i64, .int .i64, .int .u64]⟩),
  (60, ⟨3, true, 24, .cells [.int .i64 0, .int .i64 0, .int .u64 0], .struct [(0, 1, false), (1, 1, false), (2, 1, false)], .rows [.int .i64, .int .i64, .int .u64]⟩),
  (61, ⟨3, true, 24, .cells [.int .i64 0, .int .i64 0, .int .u64 0], .struct [(0, 1, false), (1, 1, false), (2, 1, false)], .rows [.int .i64, .int .i64, .int .u64]⟩),
  (62, ⟨10, true, 80, .cells [.int .i64 0, .int .i64 0, .int .i64 0, .int .i64 0, .int .i64 0, .int .i64 0, .int .u64 0, .int .i64 0, .int .i64 0, .int .u64 0], .struct [(0, 1, false), (1, 1, false), (2, 1, false), (3, 4, true), (7, 3, true)], .rows [.int .i64, .int .i64, .int .i64, .int .i64, .int .i64, .int .i64, .int .u64, .int .i64, .int .i64, .int .u64]⟩),
  (63, ⟨10, true, 80, .cells [.int .i64 0, .int .i64 0, .int .i64 0, .int .i64 0, .int .i64 0, .int .i64 0, .int .u64 0, .int .i64 0, .int .i64 0, .int .u64 0], .struct [(0, 1, false), (1, 1, false), (2, 1, false), (3, 4, true), (7, 3, true)], .rows [.int .i64, .int .i64, .int .i64, .int .i64, .int .i64, .int .i64, .int .u64, .int .i64, .int .i64, .int .u64]⟩),
  (64, ⟨1, false, 24, .cells [.nils], .slice 46, .cells⟩),
  (65, ⟨1, false, 24, .cells [.nils], .slice 49, .cells⟩),
  (66, ⟨1, false, 24, .cells [.nils], .slice 22, .cells⟩),
  (67, ⟨1, false, 24, .cells [.nils], .slice 4, .cells⟩),
  (68, ⟨13, true, 232, .cells [.int .i64 0, .int .i64 0, .int .i64 0, .nilp, .nils, .nils, .nils, .nils, .nils, .nils, .nils, .nils, .int .i64 0], .struct [(0, 3, true), (3, 1, false), (4, 1, false), (5, 1, false), (6, 1, false), (7, 1, false), (8, 1, false), (9, 1, false), (10, 1, false), (11, 1, false), (12, 1, false)], .cells⟩),
  (69, ⟨13, true, 232, .cells [.int .i64 0, .int .i64 0, .int .i64 0, .nilp, .nils, .nils, .nils, .nils, .nils, .nils, .nils, .nils, .int .i64 0], .struct [(0, 3, true), (3, 1, false), (4, 1, false), (5, 1, false), (6, 1, false), (7, 1, false), (8, 1, false), (9, 1, false), (10, 1, false), (11, 1, false), (12, 1, false)], .cells⟩),
  (70, ⟨1, false, 8, .cells [.nilp], .ptr, .cells⟩),
  (71, ⟨1, false, 8, .cells [.nilf], .func, .cells⟩),
  (72, ⟨1, false, 8, .cells [.nilf], .func, .cells⟩),
  (73, ⟨1, false, 24, .cells [.nils], .slice 57, .cells⟩),
  (74, ⟨1, false, 24, .cells [.nils], .slice 161, .cells⟩),
  (75, ⟨3, true, 72, .cells [.nils, .nils, .nils], .struct [(0, 1, false), (1, 1, false), (2, 1, false)], .cells⟩),
  (76, ⟨3, true, 72, .cells [.nils, .nils, .nils], .struct [(0, 1, false), (1, 1, false), (2, 1, false)], .cells⟩),
  (77, ⟨1, false, 8, .cells [.nilf], .func, .cells⟩),
  (78, ⟨1, false, 8, .cells [.nilf], .func, .cells⟩),
  (79, ⟨1, false, 8, .cells [.nilf], .func, .cells⟩),
  (80, ⟨1, false, 8, .cells [.nilf], .func, .cells⟩),
  (81, ⟨1, false, 8, .cells [.nilf], .func, .cells⟩),
  (82, ⟨1, false, 8, .cells [.nilf], .func, .cells⟩),
  (84, ⟨1, false, 8, .cells [.nilf], .func, .cells⟩),
  (85, ⟨1, false, 8, .cells [.nilf], .func, .cells⟩),
  (86, ⟨1, false, 8, .cells [.nilf], .func, .cells⟩),
  (87, ⟨1, false, 8, .cells [.nilf], .func, .cells⟩),
  (88, ⟨1, false, 8, .cells [.nilf], .func, .cells⟩),
  (89, ⟨1, false, 8, .cells [.nilf], .func, .cells⟩),
  (90, ⟨1, false, 8, .cells [.nilp], .ptr, .cells⟩),
  (91, ⟨3, true, 24, .cells [.bool false, .nilp, .int .i64 0], .struct [(0, 1, false), (1, 1, false), (2, 1, false)], .cells⟩),
  (92, ⟨3, true, 24, .cells [.bool false, .nilp, .int .i64 0], .struct [(0, 1, false), (1, 1, false), (2, 1, false)], .cells⟩),
  (93, ⟨1, false, 8, .cells [.nilf], .func, .cells⟩),
  (94, ⟨1, false, 16, .cells [.nili], .iface, .cells⟩),
  (95, ⟨1, false, 16, .cells [.nili], .iface, .cells⟩),
  (96, ⟨10, true, 104, .cells [.bool false, .int .i64 0, .int .i64 0, .int .i64 0, .int .i64 0, .int .i64 0, .nili, .nils, .int .i64 0, .int .i64 0], .struct [(0, 1, false), (1, 4, true), (5, 1, false), (6, 1, false), (7, 1, false), (8, 1, false), (9, 1, false)], .cells⟩),
  (97, ⟨10, true, 104, .cells [.bool false, .int .i64 0, .int .i64 0, .int .i64 0, .int .i64 0, .int .i64 0, .nili, .nils, .int .i64 0, .int .i64 0], .struct [(0, 1, false), (1, 4, true), (5, 1, false), (6, 1, false), (7, 1, false), (8, 1, false), (9, 1, false)], .cells⟩),
  (98, ⟨1, false, 8, .cells [.nilp], .ptr, .cells⟩),
  (99, ⟨1, false, 8, .cells [.nilf], .func, .cells⟩),
  (101, ⟨1, false, 8, .cells [.nilf], .func, .cells⟩),
  (102, ⟨1, false, 8, .cells [.nilp], .ptr, .cells⟩),
  (103, ⟨1, false, 8, .cells [.nilf], .func, .cells⟩),
  (104, ⟨1, false, 8, .cells [.nilf], .func, .cells⟩),
  (105, ⟨1, false, 8, .cells [.nilf], .func, .cells⟩),
  (106, ⟨1, false, 24, .cells [.nils], .slice 61, .cells⟩),
  (107, ⟨1, false, 8, .cells [.nilf], .func, .cells⟩),
  (109, ⟨1, false, 8, .cells [.nilf], .func, .cells⟩),
  (110, ⟨1, false, 8, .cells [.nilf], .func, .cells⟩),
  (111, ⟨1, false, 8, .cells [.nilf], .func, .cells⟩),
  (113, ⟨1, false, 8, .cells [.nilf], .func, .cells⟩),
  (114, ⟨1, false, 8, .cells [.nilf], .func, .cells⟩),
  (115, ⟨1, false, 8, .cells [.nilf], .func, .cells⟩),
  (116, ⟨1, false, 8, .cells [.nilf], .func, .cells⟩),
  (117, ⟨1, false, 8, .cells [.nilf], .func, .cells⟩),
  (118, ⟨1, false, 8, .cells [.nilf], .func, .cells⟩),
  (119, ⟨1, false, 8, .cells [.nilf], .func, .cells⟩),
  (120, ⟨1, false, 8, .cells [.nilf], .func, .cells⟩),
  (121, ⟨1, false, 8, .cells [.int .u64 0], .intk .u64, .words .u64⟩),
  (122, ⟨1, false, 8, .cells [.nilf], .func, .cells⟩),
  (123, ⟨1, false, 8, .cells [.nilf], .func, .cells⟩),
  (124, ⟨1, false, 8, .cells [.nilf], .func, .cells⟩),
  (125, ⟨1, false, 8, .cells [.nilf], .func, .cells⟩),
  (126, ⟨7, true, 56, .cells [.int .i64 0, .int .i64 0, .int .i64 0, .int .i64 0, .nilf, .bool false, .int .i64 0], .struct [(0, 4, true), (4, 1, false), (5, 1, false), (6, 1, false)], .cells⟩),
  (127, ⟨7, true, 56, .cells [.int .i64 0, .int .i64 0, .int .i64 0, .int .i64 0, .nilf, .bool false, .int .i64 0], .struct [(0, 4, true), (4, 1, false), (5, 1, false), (6, 1, false)], .cells⟩),
  (128, ⟨1, false, 8, .cells [.nilf], .func, .cells⟩),
  (129, ⟨10, true, 80, .cells [.int .i64 0, .int .i64 0, .int .i64 0, .int .i64 0, .nilf, .bool false, .int .i64 0, .int .i64 0, .int .u64 0, .int .u64 0], .struct [(0, 7, true), (7, 1, false), (8, 1, false), (9, 1, false)], .cells⟩),
  (130, ⟨10, true, 80, .cells [.int .i64 0, .int .i64 0, .int .i64 0, .int .i64 0, .nilf, .bool false, .int .i64 0, .int .i64 0, .int .u64 0, .int .u64 0], .struct [(0, 7, true), (7, 1, false), (8, 1, false), (9, 1, false)], .cells⟩),
  (131, ⟨1, false, 8, .cells [.nilf], .func, .cells⟩),
  (132, ⟨9, true, 72, .cells [.int .i64 0, .int .i64 0, .int .i64 0, .int .i64 0, .nilf, .bool false, .int .i64 0, .int .u64 0, .int .i64 0], .struct [(0, 7, true), (7, 1, false), (8, 1, false)], .cells⟩),
  (133, ⟨9, true, 72, .cells [.int .i64 0, .int .i64 0, .int .i64 0, .int .i64 0, .nilf, .bool false, .int .i64 0, .int .u64 0, .int .i64 0], .struct [(0, 7, true), (7, 1, false), (8, 1, false)], .cells⟩),
  (134, ⟨8, true, 64, .cells [.int .i64 0, .int .i64 0, .int .i64 0, .int .i64 0, .nilf, .bool false, .int .i64 0, .int .u64 0], .struct [(0, 7, true), (7, 1, false)], .cells⟩),
  (135, ⟨8, true, 64, .cells [.int .i64 0, .int .i64 0, .int .i64 0, .int .i64 0, .nilf, .bool false, .int .i64 0, .int .u64 0], .struct [(0, 7, true), (7, 1, false)], .cells⟩),
  (136, ⟨1, false, 8, .cells [.nilf], .func, .cells⟩),
  (138, ⟨1, false, 8, .cells [.nilf], .func, .cells⟩),
  (140, ⟨1, false, 8, .cells [.nilf], .func, .cells⟩),
  (142, ⟨1, false, 8, .cells [.nilf], .func, .cells⟩),
  (143, ⟨1, false, 8, .cells [.nilp], .ptr, .cells⟩),
  (144, ⟨1, false, 8, .cells [.int .u64 0], .intk .u64, .words .u64⟩),
  (145, ⟨4096, true, 32768, .words .u64 (List.replicate 4096 0), .arr 4096 1 false, .cells⟩),
  (146, ⟨4096, true, 32768, .words .u64 (List.replicate 4096 0), .arr 4096 1 false, .cells⟩),
  (147, ⟨5, true, 40, .cells [.int .i64 0, .int .i64 0, .int .u64 0, .int .u64 0, .bool false], .struct [(0, 1, false), (1, 1, false), (2, 1, false), (3, 1, false), (4, 1, false)], .rows [.int .i64, .int .i64, .int .u64, .int .u64, .bool]⟩),
  (148, ⟨5, true, 40, .cells [.int .i64 0, .int .i64 0, .int .u64 0, .int .u64 0, .bool false], .struct [(0, 1, false), (1, 1, false), (2, 1, false), (3, 1, false), (4, 1, false)], .rows [.int .i64, .int .i64, .int .u64, .int .u64, .bool]⟩),
  (149, ⟨8, true, 64, .cells [.nilp, .int .i64 0, .int .i64 0, .int .i64 0, .int .u64 0, .int .u64 0, .bool false, .int .i64 0], .struct [(0, 1, false), (1, 1, false), (2, 5, true), (7, 1, false)], .cells⟩),
  (150, ⟨8, true, 64, .cells [.nilp, .int .i64 0, .int .i64 0, .int .i64 0, .int .u64 0, .int .u64 0, .bool false, .int .i64 0], .struct [(0, 1, false), (1, 1, false), (2, 5, true), (7, 1, false)], .cells⟩),
  (151, ⟨1, false, 8, .cells [.nilf], .func, .cells⟩),
  (152, ⟨1, false, 24, .cells [.nils], .slice 144, .cells⟩),
  (153, ⟨1, false, 8, .cells [.nilf], .func, .cells⟩),
  (154, ⟨1, false, 8, .cells [.nilf], .func, .cells⟩),
  (155, ⟨1, false, 4, .cells [.int .u32 0], .intk .u32, .words .u32⟩),
  (156, ⟨1, false, 8, .cells [.nilf], .func, .cells⟩),
  (157, ⟨1, false, 8, .cells [.nilp], .ptr, .cells⟩),
  (158, ⟨1, false, 8, .cells [.nilf], .func, .cells⟩),
  (159, ⟨1, false, 8, .cells [.nilf], .func, .cells⟩),
  (160, ⟨2, true, 16, .cells [.int .u64 0, .int .i64 0], .struct [(0, 1, false), (1, 1, false)], .rows [.int .u64, .int .i64]⟩),
  (161, ⟨2, true, 16, .cells [.int .u64 0, .int .i64 0], .struct [(0, 1, false), (1, 1, false)], .rows [.int .u64, .int .i64]⟩),
  (163, ⟨1, false, 8, .cells [.nilf], .func, .cells⟩),
  (164, ⟨1, false, 8, .cells [.nilf], .func, .cells⟩),
  (165, ⟨1, false, 8, .cells [.nilf], .func, .cells⟩),
  (167, ⟨1, false, 8, .cells [.nilf], .func, .cells⟩),
  (168, ⟨1, false, 8, .cells [.nilf], .func, .cells⟩),
  (169, ⟨1, false, 8, .cells [.nilf], .func, .cells⟩),
  (170, ⟨1, false, 8, .cells [.nilf], .func, .cells⟩),
  (171, ⟨1, false, 8, .cells [.int .u64 0], .intk .u64, .words .u64⟩),
  (172, ⟨1, false, 8, .cells [.nilp], .ptr, .cells⟩),
  (173, ⟨1, false, 8, .cells [.nilf], .func, .cells⟩),
  (174, ⟨3, true, 24, .cells [.nilp, .int .u64 0, .int .u64 0], .struct [(0, 1, false), (1, 1, false), (2, 1, false)], .cells⟩),
  (175, ⟨3, true, 24, .cells [.nilp, .int .u64 0, .int .u64 0], .struct [(0, 1, false), (1, 1, false), (2, 1, false)], .cells⟩),
  (176, ⟨1, false, 8, .cells [.nilf], .func, .cells⟩),
  (177, ⟨1, false, 8, .cells [.nilf], .func, .cells⟩),
  (178, ⟨1, false, 8, .cells [.nilf], .func, .cells⟩),
  (179, ⟨1, false, 8, .cells [.nilf], .func, .cells⟩),
  (181, ⟨1, false, 8, .cells [.nilf], .func, .cells⟩),
  (182, ⟨1, false, 8, .cells [.nilf], .func, .cells⟩),
  (183, ⟨1, false, 8, .cells [.nilf], .func, .cells⟩),
  (185, ⟨1, false, 8, .cells [.nilf], .func, .cells⟩),
  (186, ⟨1, false, 8, .cells [.nilf], .func, .cells⟩),
  (187, ⟨1, false, 8, .cells [.nilf], .func, .cells⟩),
  (188, ⟨4, true, 40, .cells [.nilp, .nilp, .nilp, .str ⟨#[]⟩], .struct [(0, 1, false), (1, 1, false), (2, 1, false), (3, 1, false)], .cells⟩),
  (189, ⟨4, true, 40, .cells [.nilp, .nilp, .nilp, .str ⟨#[]⟩], .struct [(0, 1, false), (1, 1, false), (2, 1, false), (3, 1, false)], .cells⟩),
  (190, ⟨0, true, 0, .cells [], .arr 0 1 false, .cells⟩),
  (191, ⟨0, true, 0, .cells [], .struct [(0, 0, true)], .cells⟩),
  (192, ⟨0, true, 0, .cells [], .struct [(0, 0, true)], .cells⟩),
  (193, ⟨1, false, 1, .cells [.int .u8 0], .intk .u8, .words .u8⟩),
  (194, ⟨1, false, 1, .cells [.int .u8 0], .intk .u8, .words .u8⟩),
  (195, ⟨1, false, 8, .cells [.nilf], .func, .cells⟩),
  (196, ⟨1, false, 8, .cells [.nilp], .ptr, .cells⟩),
  (197, ⟨1, false, 4, .cells [.int .i32 0], .intk .i32, .words .i32⟩),
  (198, ⟨1, false, 4, .cells [.int .i32 0], .intk .i32, .words .i32⟩),
  (199, ⟨11, true, 48, .cells [.int .u64 0, .int .u64 0, .int .u32 0, .int .u8 0, .int .u8 0, .int .u8 0, .int .u8 0, .nilf, .nilp, .int .i32 0, .int .i32 0], .struct [(0, 1, false), (1, 1, false), (2, 1, false), (3, 1, false), (4, 1, false), (5, 1, false), (6, 1, false), (7, 1, false), (8, 1, false), (9, 1, false), (10, 1, false)], .cells⟩),
  (200, ⟨11, true, 48, .cells [.int .u64 0, .int .u64 0, .int .u32 0, .int .u8 0, .int .u8 0, .int .u8 0, .int .u8 0, .nilf, .nilp, .int .i32 0, .int .i32 0], .struct [(0, 1, false), (1, 1, false), (2, 1, false), (3, 1, false), (4, 1, false), (5, 1, false), (6, 1, false), (7, 1, false), (8, 1, false), (9, 1, false), (10, 1, false)], .cells⟩),
  (201, ⟨1, false, 8, .cells [.nilf], .func, .cells⟩),
  (202, ⟨1, false, 8, .cells [.nilp], .other, .cells⟩)]
noncomputable def tabF : List (Nat × Func) := [(2, Go.Proofs.Tryz.f2), (3, Go.Proofs.Tryz.f3), (4, Go.Proofs.Tryz.f4), (5, Go.Proofs.Tryz.f5), (6, Go.Proofs.Tryz.f6), (7, Go.Proofs.Tryz.f7), (8, Go.Proofs.Tryz.f8), (9, Go.Proofs.Tryz.f9), (10, Go.Proofs.Tryz.f10), (11, Go.Proofs.Tryz.f11), (12, Go.Proofs.Tryz.f12), (13, Go.Proofs.Tryz.f13), (14, Go.Proofs.Tryz.f14), (15, Go.Proofs.Tryz.f15), (16, Go.Proofs.Tryz.f16), (17, Go.Proofs.Tryz.f17), (18, Go.Proofs.Tryz.f18), (19, Go.Proofs.Tryz.f19), (20, Go.Proofs.Tryz.f20), (21, Go.Proofs.Tryz.f21), (22, Go.Proofs.Tryz.f22), (23, Go.Proofs.Tryz.f23), (24, Go.Proofs.Tryz.f24), (25, Go.Proofs.Tryz.f25), (26, Go.Proofs.Tryz.f26), (27, Go.Proofs.Tryz.f27), (28, Go.Proofs.Tryz.f28), (29, Go.Proofs.Tryz.f29), (30, Go.Proofs.Tryz.f30), (31, Go.Proofs.Tryz.f31), (32, Go.Proofs.Tryz.f32), (33, Go.Proofs.Tryz.f33), (34, Go.Proofs.Tryz.f34), (35, Go.Proofs.Tryz.f35), (36, Go.Proofs.Tryz.f36), (37, Go.Proofs.Tryz.f37), (38, Go.Proofs.Tryz.f38), (39, Go.Proofs.Tryz.f39), (40, Go.Proofs.Tryz.f40), (41, Go.Proofs.Tryz.f41), (42, Go.Proofs.Tryz.f42), (43, Go.Proofs.Tryz.f43), (44, Go.Proofs.Tryz.f44), (45, Go.Proofs.Tryz.f45), (46, Go.Proofs.Tryz.f46), (47, Go.Proofs.Tryz.f47), (48, Go.Proofs.Tryz.f48), (49, Go.Proofs.Tryz.f49), (50, Go.Proofs.Tryz.f50), (51, Go.Proofs.Tryz.f51), (52, Go.Proofs.Tryz.f52), (53, Go.Proofs.Tryz.f53), (54, Go.Proofs.Tryz.f54), (55, Go.Proofs.Tryz.f55), (56, Go.Proofs.Tryz.f56), (57, Go.Proofs.Tryz.f57), (58, Go.Proofs.Tryz.f58), (59, Go.Proofs.Tryz.f59), (60, Go.Proofs.Tryz.f60), (61, Go.Proofs.Tryz.f61), (62, Go.Proofs.Tryz.f62), (63, Go.Proofs.Tryz.f63), (64, Go.Proofs.Tryz.f64), (65, Go.Proofs.Tryz.f65), (66, Go.Proofs.Tryz.f66), (67, Go.Proofs.Tryz.f67), (68, Go.Proofs.Tryz.f68), (69, Go.Proofs.Tryz.f69), (70, Go.Proofs.Tryz.f70), (71, Go.Proofs.Tryz.f71), (72, Go.Proofs.Tryz.f72), (73, Go.Proofs.Tryz.f73), (74, Go.Proofs.Tryz.f74), (75, Go.Proofs.Tryz.f75), (76, Go.Proofs.Tryz.f76), (77, Go.Proofs.Tryz.f77), (78, Go.Proofs.Tryz.f78), (79, Go.Proofs.Tryz.f79), (80, Go.Proofs.Tryz.f80), (81, Go.Proofs.Tryz.f81), (82, Go.Proofs.Tryz.f82), (83, Go.Proofs.Tryz.f83), (84, Go.Proofs.Tryz.f84), (85, Go.Proofs.Tryz.f85), (86, Go.Proofs.Tryz.f86), (87, Go.Proofs.Tryz.f87), (88, Go.Proofs.Tryz.f88), (89, Go.Proofs.Tryz.f89), (90, Go.Proofs.Tryz.f90), (91, Go.Proofs.Tryz.f91), (92, Go.Proofs.Tryz.f92), (93, Go.Proofs.Tryz.f93), (94, Go.Proofs.Tryz.f94), (95, Go.Proofs.Tryz.f95), (96, Go.Proofs.Tryz.f96), (97, Go.Proofs.Tryz.f97), (98, Go.Proofs.Tryz.f98), (99, Go.Proofs.Tryz.f99), (100, Go.Proofs.Tryz.f100), (101, Go.Proofs.Tryz.f101), (102, Go.Proofs.Tryz.f102), (103, Go.Proofs.Tryz.f103), (104, Go.Proofs.Tryz.f104), (122, Go.Proofs.Tryz.f122), (124, Go.Proofs.Tryz.f124)]
theorem tabF_ok : AllF Go.Proofs.Tryz.prog tabF :=
  ⟨⟨Go.Proofs.Tryz.func2, Go.Proofs.Tryz.call2⟩, ⟨⟨Go.Proofs.Tryz.func3, Go.Proofs.Tryz.call3⟩, ⟨⟨Go.Proofs.Tryz.func4, Go.Proofs.Tryz.call4⟩, ⟨⟨Go.Proofs.Tryz.func5, Go.Proofs.Tryz.call5⟩, ⟨⟨Go.Proofs.Tryz.func6, Go.Proofs.Tryz.call6⟩, ⟨⟨Go.Proofs.Tryz.func7, Go.Proofs.Tryz.call7⟩, ⟨⟨Go.Proofs.Tryz.func8, Go.Proofs.Tryz.call8⟩, ⟨⟨Go.Proofs.Tryz.func9, Go.Proofs.Tryz.call9⟩, ⟨⟨Go.Proofs.Tryz.func10, Go.Proofs.Tryz.call10⟩, ⟨⟨Go.Proofs.Tryz.func11, Go.Proofs.Tryz.call11⟩, ⟨⟨Go.Proofs.Tryz.func12, Go.Proofs.Tryz.call12⟩, ⟨⟨Go.Proofs.Tryz.func13, Go.Proofs.Tryz.call13⟩, ⟨⟨Go.Proofs.Tryz.func14, Go.Proofs.Tryz.call14⟩, ⟨⟨Go.Proofs.Tryz.func15, Go.Proofs.Tryz.call15⟩, ⟨⟨Go.Proofs.Tryz.func16, Go.Proofs.Tryz.call16⟩, ⟨⟨Go.Proofs.Tryz.func17, Go.Proofs.Tryz.call17⟩, ⟨⟨Go.Proofs.Tryz.func18, Go.Proofs.Tryz.call18⟩, ⟨⟨Go.Proofs.Tryz.func19, Go.Proofs.Tryz.call19⟩, ⟨⟨Go.Proofs.Tryz.func20, Go.Proofs.Tryz.call20⟩, ⟨⟨Go.Proofs.Tryz.func21, Go.Proofs.Tryz.call21⟩, ⟨⟨Go.Proofs.Tryz.func22, Go.Proofs.Tryz.call22⟩, ⟨⟨Go.Proofs.Tryz.func23, Go.Proofs.Tryz.call23⟩, ⟨⟨Go.Proofs.Tryz.func24, Go.Proofs.Tryz.call24⟩, ⟨⟨Go.Proofs.Tryz.func25, Go.Proofs.Tryz.call25⟩, ⟨⟨Go.Proofs.Tryz.func26, Go.Proofs.Tryz.call26⟩, ⟨⟨Go.Proofs.Tryz.func27, Go.Proofs.Tryz.call27⟩, ⟨⟨Go.Proofs.Tryz.func28, Go.Proofs.Tryz.call28⟩, ⟨⟨Go.Proofs.Tryz.func29, Go.Proofs.Tryz.call29⟩, ⟨⟨Go.Proofs.Tryz.func30, Go.Proofs.Tryz.call30⟩, ⟨⟨Go.Proofs.Tryz.func31, Go.Proofs.Tryz.call31⟩, ⟨⟨Go.Proofs.Tryz.func32, Go.Proofs.Tryz.call32⟩, ⟨⟨Go.Proofs.Tryz.func33, Go.Proofs.Tryz.call33⟩, ⟨⟨Go.Proofs.Tryz.func34, Go.Proofs.Tryz.call34⟩, ⟨⟨Go.Proofs.Tryz.func35, Go.Proofs.Tryz.call35⟩, ⟨⟨Go.Proofs.Tryz.func36, Go.Proofs.Tryz.call36⟩, ⟨⟨Go.Proofs.Tryz.func37, Go.Proofs.Tryz.call37⟩, ⟨⟨Go.Proofs.Tryz.func38, Go.Proofs.Tryz.call38⟩, ⟨⟨Go.Proofs.Tryz.func39, Go.Proofs.Tryz.call39⟩, ⟨⟨Go.Proofs.Tryz.func40, Go.Proofs.Tryz.call40⟩, ⟨⟨Go.Proofs.Tryz.func41, Go.Proofs.Tryz.call41⟩, ⟨⟨Go.Proofs.Tryz.func42, Go.Proofs.Tryz.call42⟩, ⟨⟨Go.Proofs.Tryz.func43, Go.Proofs.Tryz.call43⟩, ⟨⟨Go.Proofs.Tryz.func44, Go.Proofs.Tryz.call44⟩, ⟨⟨Go.Proofs.Tryz.func45, Go.Proofs.Tryz.call45⟩, ⟨⟨Go.Proofs.Tryz.func46, Go.Proofs.Tryz.call46⟩, ⟨⟨Go.Proofs.Tryz.func47, Go.Proofs.Tryz.call47⟩, ⟨⟨Go.Proofs.Tryz.func48, Go.Proofs.Tryz.call48⟩, ⟨⟨Go.Proofs.Tryz.func49, Go.Proofs.Tryz.call49⟩, ⟨⟨Go.Proofs.Tryz.func50, Go.Proofs.Tryz.call50⟩, ⟨⟨Go.Proofs.Tryz.func51, Go.Proofs.Tryz.call51⟩, ⟨⟨Go.Proofs.Tryz.func52, Go.Proofs.Tryz.call52⟩, ⟨⟨Go.Proofs.Tryz.func53, Go.Proofs.Tryz.call53⟩, ⟨⟨Go.Proofs.Tryz.func54, Go.Proofs.Tryz.call54⟩, ⟨⟨Go.Proofs.Tryz.func55, Go.Proofs.Tryz.call55⟩, ⟨⟨Go.Proofs.Tryz.func56, Go.Proofs.Tryz.call56⟩, ⟨⟨Go.Proofs.Tryz.func57, Go.Proofs.Tryz.call57⟩, ⟨⟨Go.Proofs.Tryz.func58, Go.Proofs.Tryz.call58⟩, ⟨⟨Go.Proofs.Tryz.func59, Go.Proofs.Tryz.call59⟩, ⟨⟨Go.Proofs.Tryz.func60, Go.Proofs.Tryz.call60⟩, ⟨⟨Go.Proofs.Tryz.func61, Go.Proofs.Tryz.call61⟩, ⟨⟨Go.Proofs.Tryz.func62, Go.Proofs.Tryz.call62⟩, ⟨⟨Go.Proofs.Tryz.func63, Go.Proofs.Tryz.call63⟩, ⟨⟨Go.Proofs.Tryz.func64, Go.Proofs.Tryz.call64⟩, ⟨⟨Go.Proofs.Tryz.func65, Go.Proofs.Tryz.call65⟩, ⟨⟨Go.Proofs.Tryz.func66, Go.Proofs.Tryz.call66⟩, ⟨⟨Go.Proofs.Tryz.func67, Go.Proofs.Tryz.call67⟩, ⟨⟨Go.Proofs.Tryz.func68, Go.Proofs.Tryz.call68⟩, ⟨⟨Go.Proofs.Tryz.func69, Go.Proofs.Tryz.call69⟩, ⟨⟨Go.Proofs.Tryz.func70, Go.Proofs.Tryz.call70⟩, ⟨⟨Go.Proofs.Tryz.func71, Go.Proofs.Tryz.call71⟩, ⟨⟨Go.Proofs.Tryz.func72, Go.Proofs.Tryz.call72⟩, ⟨⟨Go.Proofs.Tryz.func73, Go.Proofs.Tryz.call73⟩, ⟨⟨Go.Proofs.Tryz.func74, Go.Proofs.Tryz.call74⟩, ⟨⟨Go.Proofs.Tryz.func75, Go.Proofs.Tryz.call75⟩, ⟨⟨Go.Proofs.Tryz.func76, Go.Proofs.Tryz.call76⟩, ⟨⟨Go.Proofs.Tryz.func77, Go.Proofs.Tryz.call77⟩, ⟨⟨Go.Proofs.Tryz.func78, Go.Proofs.Tryz.call78⟩, ⟨⟨Go.Proofs.Tryz.func79, Go.Proofs.Tryz.call79⟩, ⟨⟨Go.Proofs.Tryz.func80, Go.Proofs.Tryz.call80⟩, ⟨⟨Go.Proofs.Tryz.func81, Go.Proofs.Tryz.call81⟩, ⟨⟨Go.Proofs.Tryz.func82, Go.Proofs.Tryz.call82⟩, ⟨⟨Go.Proofs.Tryz.func83, Go.Proofs.Tryz.call83⟩, ⟨⟨Go.Proofs.Tryz.func84, Go.Proofs.Tryz.call84⟩, ⟨⟨Go.Proofs.Tryz.func85, Go.Proofs.Tryz.call85⟩, ⟨⟨Go.Proofs.Tryz.func86, Go.Proofs.Tryz.call86⟩, ⟨⟨Go.Proofs.Tryz.func87, Go.Proofs.Tryz.call87⟩, ⟨⟨Go.Proofs.Tryz.func88, Go.Proofs.Tryz.call88⟩, ⟨⟨Go.Proofs.Tryz.func89, Go.Proofs.Tryz.call89⟩, ⟨⟨Go.Proofs.Tryz.func90, Go.Proofs.Tryz.call90⟩, ⟨⟨Go.Proofs.Tryz.func91, Go.Proofs.Tryz.call91⟩, ⟨⟨Go.Proofs.Tryz.func92, Go.Proofs.Tryz.call92⟩, ⟨⟨Go.Proofs.Tryz.func93, Go.Proofs.Tryz.call93⟩, ⟨⟨Go.Proofs.Tryz.func94, Go.Proofs.Tryz.call94⟩, ⟨⟨Go.Proofs.Tryz.func95, Go.Proofs.Tryz.call95⟩, ⟨⟨Go.Proofs.Tryz.func96, Go.Proofs.Tryz.call96⟩, ⟨⟨Go.Proofs.Tryz.func97, Go.Proofs.Tryz.call97⟩, ⟨⟨Go.Proofs.Tryz.func98, Go.Proofs.Tryz.call98⟩, ⟨⟨Go.Proofs.Tryz.func99, Go.Proofs.Tryz.call99⟩, ⟨⟨Go.Proofs.Tryz.func100, Go.Proofs.Tryz.call100⟩, ⟨⟨Go.Proofs.Tryz.func101, Go.Proofs.Tryz.call101⟩, ⟨⟨Go.Proofs.Tryz.func102, Go.Proofs.Tryz.call102⟩, ⟨⟨Go.Proofs.Tryz.func103, Go.Proofs.Tryz.call103⟩, ⟨⟨Go.Proofs.Tryz.func104, Go.Proofs.Tryz.call104⟩, ⟨⟨Go.Proofs.Tryz.func122, Go.Proofs.Tryz.call122⟩, ⟨⟨Go.Proofs.Tryz.func124, Go.Proofs.Tryz.call124⟩, trivial⟩⟩⟩⟩⟩⟩⟩⟩⟩⟩⟩⟩⟩⟩⟩⟩⟩⟩⟩⟩⟩⟩⟩⟩⟩⟩⟩⟩⟩⟩⟩⟩⟩⟩⟩⟩⟩⟩⟩⟩⟩⟩⟩⟩⟩⟩⟩⟩⟩⟩⟩⟩⟩⟩⟩⟩⟩⟩⟩⟩⟩⟩⟩⟩⟩⟩⟩⟩⟩⟩⟩⟩⟩⟩⟩⟩⟩⟩⟩⟩⟩⟩⟩⟩⟩⟩⟩⟩⟩⟩⟩⟩⟩⟩⟩⟩⟩⟩⟩⟩⟩⟩⟩⟩⟩
def seT (t : TypeId) : Option (List IntKind) := cond (Nat.beq t 61) (some [.i64, .i64, .u64]) (cond (Nat.beq t 38) (some [.i64, .i64, .i64, .i64]) (none))
theorem seT_ok : ∀ t ks, seT t = some ks → SEok Go.Proofs.Tryz.prog t ks := by
  intro t ks h
  unfold seT at h
  cases h61 : Nat.beq t 61 with
  | true => rw [h61] at h; cases h; have := Nat.beq_eq.mp h61; subst this; exact SEok_of (by kernel_rfl)
  | false =>
    rw [h61] at h; simp only [cond_false] at h
    cases h38 : Nat.beq t 38 with
    | true => rw [h38] at h; cases h; have := Nat.beq_eq.mp h38; subst this; exact SEok_of (by kernel_rfl)
    | false =>
      rw [h38] at h; simp only [cond_false] at h
      cases h
def imT (t : TypeId) (n : String) : Option FuncId := cond (Nat.beq t 98 && decide (n = "Step")) (some 122) (cond (Nat.beq t 102 && decide (n = "Step")) (some 124) (none))
def pzT (t : TypeId) : Bool := Nat.beq t 98 || Nat.beq t 102
theorem imT_ok : ∀ t n f, imT t n = some f → IMok Go.Proofs.Tryz.prog t n f := by
  intro t n f h
  unfold imT at h
  cases h0 : (Nat.beq t 98 && decide (n = "Step")) with
  | true =>
    rw [h0] at h; cases h; have h0 := Bool.and_eq_true_iff.1 h0; have e := Nat.beq_eq.mp h0.1; have e2 := of_decide_eq_true h0.2; subst e; subst e2; exact IMok_of (by kernel_rfl)
  | false =>
  rw [h0] at h; simp only [cond_false] at h
  cases h1 : (Nat.beq t 102 && decide (n = "Step")) with
  | true =>
    rw [h1] at h; cases h; have h1 := Bool.and_eq_true_iff.1 h1; have e := Nat.beq_eq.mp h1.1; have e2 := of_decide_eq_true h1.2; subst e; subst e2; exact IMok_of (by kernel_rfl)
  | false =>
  rw [h1] at h; simp only [cond_false] at h
  cases h
theorem pzT_ok : ∀ t, pzT t = true → PZok Go.Proofs.Tryz.prog t := by
  intro t h
  unfold pzT at h
  simp only [Bool.or_eq_true] at h
  rcases h with h | h <;> (have e := Nat.beq_eq.mp h; subst e; exact PZok_of (by kernel_rfl))
set_option maxRecDepth 100000 in
theorem tabT_ok : allTy Go.Proofs.Tryz.prog tabT = true := by kernel_rfl
theorem env_ok (sm : FuncId → Option (List V → St → Option (V × St))) : EnvOK Go.Proofs.Tryz.prog (envOf tabT tabF sm seT imT pzT) :=
  envOf_ok (by kernel_rfl) (by kernel_rfl) (by kernel_rfl) tabT_ok tabF_ok seT_ok imT_ok pzT_ok
end Go.Sx
