/-
  The table of the types of this seat's translation, as the engine asks it, checked by the kernel; printed by a program of ours.
-/
import Derived.Test.YtabjelabdojpkaaDoorEng
import Derived.Test.YtabjelabdojpkaaDoorProg
import Derived.KernelRfl
namespace Go.Proofs.YtabjelabdojpkaaDoor
open Go.Eng

def tabL : List (TypeId × TI) := [
  (1, { agg := false, size := 1, bytes := 8, zero := [.nilFunc], kind := .cell }),
  (2, { agg := false, size := 1, bytes := 8, zero := [(.int .i64 0)], kind := (.int .i64) }),
  (3, { agg := false, size := 1, bytes := 8, zero := [(.int .i64 0)], kind := (.int .i64) }),
  (4, { agg := false, size := 1, bytes := 1, zero := [(.bool false)], kind := .bool }),
  (5, { agg := false, size := 1, bytes := 1, zero := [(.int .u8 0)], kind := (.int .u8) }),
  (6, { agg := false, size := 1, bytes := 1, zero := [(.int .u8 0)], kind := (.int .u8) }),
  (7, { agg := true, size := 4, bytes := 24, zero := [(.int .i64 0), (.int .i64 0), (.bool false), (.int .u8 0)], kind := (.struct [(0, 1), (1, 1), (2, 1), (3, 1)]) }),
  (8, { agg := true, size := 4, bytes := 24, zero := [(.int .i64 0), (.int .i64 0), (.bool false), (.int .u8 0)], kind := (.struct [(0, 1), (1, 1), (2, 1), (3, 1)]) }),
  (9, { agg := false, size := 1, bytes := 16, zero := [(.string ⟨#[]⟩)], kind := .str }),
  (10, { agg := false, size := 1, bytes := 16, zero := [(.string ⟨#[]⟩)], kind := .str }),
  (11, { agg := false, size := 1, bytes := 16, zero := [(.string ⟨#[]⟩)], kind := .str }),
  (12, { agg := false, size := 1, bytes := 8, zero := [(.int .u64 0)], kind := (.int .u64) }),
  (13, { agg := true, size := 2, bytes := 24, zero := [(.string ⟨#[]⟩), (.int .u64 0)], kind := (.struct [(0, 1), (1, 1)]) }),
  (14, { agg := true, size := 2, bytes := 24, zero := [(.string ⟨#[]⟩), (.int .u64 0)], kind := (.struct [(0, 1), (1, 1)]) }),
  (15, { agg := false, size := 1, bytes := 8, zero := [(.pointer none)], kind := .cell }),
  (16, { agg := false, size := 1, bytes := 8, zero := [(.pointer none)], kind := .cell }),
  (17, { agg := false, size := 1, bytes := 8, zero := [(.pointer none)], kind := .cell }),
  (18, { agg := true, size := 1, bytes := 8, zero := [(.pointer none)], kind := (.struct [(0, 1)]) }),
  (19, { agg := true, size := 1, bytes := 8, zero := [(.pointer none)], kind := (.struct [(0, 1)]) }),
  (20, { agg := false, size := 1, bytes := 16, zero := [.nilIface], kind := .iface }),
  (21, { agg := false, size := 1, bytes := 4, zero := [(.int .i32 0)], kind := (.int .i32) }),
  (22, { agg := false, size := 1, bytes := 24, zero := [(.slice none 0 0)], kind := (.slice 9) }),
  (23, { agg := false, size := 1, bytes := 24, zero := [(.slice none 0 0)], kind := (.slice 50) }),
  (24, { agg := false, size := 1, bytes := 24, zero := [(.slice none 0 0)], kind := (.slice 54) }),
  (25, { agg := true, size := 4, bytes := 88, zero := [(.string ⟨#[]⟩), (.slice none 0 0), (.slice none 0 0), (.slice none 0 0)], kind := (.struct [(0, 1), (1, 1), (2, 1), (3, 1)]) }),
  (26, { agg := true, size := 4, bytes := 88, zero := [(.string ⟨#[]⟩), (.slice none 0 0), (.slice none 0 0), (.slice none 0 0)], kind := (.struct [(0, 1), (1, 1), (2, 1), (3, 1)]) }),
  (27, { agg := false, size := 1, bytes := 8, zero := [(.int .i64 0)], kind := (.int .i64) }),
  (29, { agg := false, size := 1, bytes := 8, zero := [.nilFunc], kind := .cell }),
  (30, { agg := false, size := 1, bytes := 8, zero := [.nilFunc], kind := .cell }),
  (32, { agg := false, size := 1, bytes := 8, zero := [.nilFunc], kind := .cell }),
  (33, { agg := false, size := 1, bytes := 8, zero := [.nilFunc], kind := .cell }),
  (34, { agg := false, size := 1, bytes := 8, zero := [.nilFunc], kind := .cell }),
  (35, { agg := false, size := 1, bytes := 8, zero := [.nilFunc], kind := .cell }),
  (36, { agg := false, size := 1, bytes := 24, zero := [(.slice none 0 0)], kind := (.slice 102) }),
  (37, { agg := false, size := 1, bytes := 24, zero := [(.slice none 0 0)], kind := (.slice 26) }),
  (38, { agg := false, size := 1, bytes := 8, zero := [.nilFunc], kind := .cell }),
  (39, { agg := false, size := 1, bytes := 8, zero := [.nilFunc], kind := .cell }),
  (40, { agg := false, size := 1, bytes := 8, zero := [.nilFunc], kind := .cell }),
  (41, { agg := false, size := 1, bytes := 8, zero := [(.pointer none)], kind := .cell }),
  (42, { agg := false, size := 1, bytes := 24, zero := [(.slice none 0 0)], kind := (.slice 5) }),
  (43, { agg := true, size := 2, bytes := 32, zero := [(.pointer none), (.slice none 0 0)], kind := (.struct [(0, 1), (1, 1)]) }),
  (44, { agg := true, size := 2, bytes := 32, zero := [(.pointer none), (.slice none 0 0)], kind := (.struct [(0, 1), (1, 1)]) }),
  (45, { agg := false, size := 1, bytes := 16, zero := [.nilIface], kind := .iface }),
  (46, { agg := false, size := 1, bytes := 16, zero := [.nilIface], kind := .iface }),
  (48, { agg := false, size := 1, bytes := 8, zero := [.nilFunc], kind := .cell }),
  (49, { agg := true, size := 2, bytes := 24, zero := [(.string ⟨#[]⟩), (.int .i64 0)], kind := (.struct [(0, 1), (1, 1)]) }),
  (50, { agg := true, size := 2, bytes := 24, zero := [(.string ⟨#[]⟩), (.int .i64 0)], kind := (.struct [(0, 1), (1, 1)]) }),
  (51, { agg := false, size := 1, bytes := 8, zero := [.nilFunc], kind := .cell }),
  (52, { agg := false, size := 1, bytes := 24, zero := [(.slice none 0 0)], kind := (.slice 78) }),
  (53, { agg := true, size := 4, bytes := 72, zero := [(.string ⟨#[]⟩), (.bool false), (.slice none 0 0), (.slice none 0 0)], kind := (.struct [(0, 1), (1, 1), (2, 1), (3, 1)]) }),
  (54, { agg := true, size := 4, bytes := 72, zero := [(.string ⟨#[]⟩), (.bool false), (.slice none 0 0), (.slice none 0 0)], kind := (.struct [(0, 1), (1, 1), (2, 1), (3, 1)]) }),
  (55, { agg := false, size := 1, bytes := 8, zero := [.nilFunc], kind := .cell }),
  (56, { agg := false, size := 1, bytes := 8, zero := [.nilFunc], kind := .cell }),
  (57, { agg := false, size := 1, bytes := 8, zero := [.nilFunc], kind := .cell }),
  (58, { agg := false, size := 1, bytes := 8, zero := [.nilFunc], kind := .cell }),
  (59, { agg := false, size := 1, bytes := 24, zero := [(.slice none 0 0)], kind := (.slice 87) }),
  (61, { agg := false, size := 1, bytes := 8, zero := [.nilFunc], kind := .cell }),
  (62, { agg := false, size := 1, bytes := 8, zero := [.nilFunc], kind := .cell }),
  (63, { agg := false, size := 1, bytes := 8, zero := [(.int .u64 0)], kind := (.int .u64) }),
  (65, { agg := false, size := 1, bytes := 8, zero := [.nilFunc], kind := .cell }),
  (66, { agg := false, size := 1, bytes := 8, zero := [.nilFunc], kind := .cell }),
  (67, { agg := false, size := 1, bytes := 8, zero := [.nilFunc], kind := .cell }),
  (68, { agg := false, size := 1, bytes := 8, zero := [.nilFunc], kind := .cell }),
  (69, { agg := true, size := 3, bytes := 48, zero := [(.string ⟨#[]⟩), (.string ⟨#[]⟩), (.string ⟨#[]⟩)], kind := (.array 3 9) }),
  (70, { agg := false, size := 1, bytes := 8, zero := [.nilFunc], kind := .cell }),
  (71, { agg := false, size := 1, bytes := 8, zero := [.nilFunc], kind := .cell }),
  (72, { agg := false, size := 1, bytes := 8, zero := [(.pointer none)], kind := .cell }),
  (73, { agg := false, size := 1, bytes := 8, zero := [.nilFunc], kind := .cell }),
  (74, { agg := false, size := 1, bytes := 8, zero := [.nilFunc], kind := .cell }),
  (75, { agg := false, size := 1, bytes := 8, zero := [.nilFunc], kind := .cell }),
  (76, { agg := false, size := 1, bytes := 24, zero := [(.slice none 0 0)], kind := (.slice 104) }),
  (77, { agg := true, size := 5, bytes := 96, zero := [(.int .i64 0), (.string ⟨#[]⟩), (.slice none 0 0), (.slice none 0 0), (.slice none 0 0)], kind := (.struct [(0, 1), (1, 1), (2, 1), (3, 1), (4, 1)]) }),
  (78, { agg := true, size := 5, bytes := 96, zero := [(.int .i64 0), (.string ⟨#[]⟩), (.slice none 0 0), (.slice none 0 0), (.slice none 0 0)], kind := (.struct [(0, 1), (1, 1), (2, 1), (3, 1), (4, 1)]) }),
  (79, { agg := false, size := 1, bytes := 8, zero := [.nilFunc], kind := .cell }),
  (80, { agg := false, size := 1, bytes := 8, zero := [(.pointer none)], kind := .cell }),
  (81, { agg := false, size := 1, bytes := 8, zero := [.nilFunc], kind := .cell }),
  (83, { agg := false, size := 1, bytes := 8, zero := [.nilFunc], kind := .cell }),
  (84, { agg := false, size := 1, bytes := 8, zero := [.nilFunc], kind := .cell }),
  (85, { agg := false, size := 1, bytes := 8, zero := [.nilFunc], kind := .cell }),
  (86, { agg := true, size := 2, bytes := 24, zero := [(.int .i64 0), (.string ⟨#[]⟩)], kind := (.struct [(0, 1), (1, 1)]) }),
  (87, { agg := true, size := 2, bytes := 24, zero := [(.int .i64 0), (.string ⟨#[]⟩)], kind := (.struct [(0, 1), (1, 1)]) }),
  (89, { agg := false, size := 1, bytes := 8, zero := [.nilFunc], kind := .cell }),
  (90, { agg := false, size := 1, bytes := 8, zero := [.nilFunc], kind := .cell }),
  (91, { agg := false, size := 1, bytes := 8, zero := [(.pointer none)], kind := .cell }),
  (92, { agg := true, size := 2, bytes := 32, zero := [(.slice none 0 0), (.int .i64 0)], kind := (.struct [(0, 1), (1, 1)]) }),
  (93, { agg := true, size := 2, bytes := 32, zero := [(.slice none 0 0), (.int .i64 0)], kind := (.struct [(0, 1), (1, 1)]) }),
  (94, { agg := false, size := 1, bytes := 8, zero := [.nilFunc], kind := .cell }),
  (95, { agg := false, size := 1, bytes := 4, zero := [(.int .u32 0)], kind := (.int .u32) }),
  (97, { agg := false, size := 1, bytes := 8, zero := [.nilFunc], kind := .cell }),
  (98, { agg := false, size := 1, bytes := 8, zero := [(.int .u64 0)], kind := (.int .u64) }),
  (100, { agg := false, size := 1, bytes := 8, zero := [.nilFunc], kind := .cell }),
  (101, { agg := true, size := 4, bytes := 32, zero := [(.int .i64 0), (.int .i64 0), (.int .i64 0), (.int .i64 0)], kind := (.struct [(0, 1), (1, 1), (2, 1), (3, 1)]) }),
  (102, { agg := true, size := 4, bytes := 32, zero := [(.int .i64 0), (.int .i64 0), (.int .i64 0), (.int .i64 0)], kind := (.struct [(0, 1), (1, 1), (2, 1), (3, 1)]) }),
  (103, { agg := true, size := 5, bytes := 72, zero := [(.int .i64 0), (.int .i64 0), (.string ⟨#[]⟩), (.string ⟨#[]⟩), (.slice none 0 0)], kind := (.struct [(0, 1), (1, 1), (2, 1), (3, 1), (4, 1)]) }),
  (104, { agg := true, size := 5, bytes := 72, zero := [(.int .i64 0), (.int .i64 0), (.string ⟨#[]⟩), (.string ⟨#[]⟩), (.slice none 0 0)], kind := (.struct [(0, 1), (1, 1), (2, 1), (3, 1), (4, 1)]) }),
  (105, { agg := false, size := 1, bytes := 8, zero := [.nilFunc], kind := .cell }),
  (106, { agg := false, size := 1, bytes := 8, zero := [.nilFunc], kind := .cell }),
  (107, { agg := true, size := 1, bytes := 8, zero := [(.int .i64 0)], kind := (.struct [(0, 1)]) }),
  (108, { agg := true, size := 1, bytes := 8, zero := [(.int .i64 0)], kind := (.struct [(0, 1)]) }),
  (110, { agg := false, size := 1, bytes := 8, zero := [.nilFunc], kind := .cell }),
  (111, { agg := false, size := 1, bytes := 8, zero := [.nilFunc], kind := .cell }),
  (113, { agg := false, size := 1, bytes := 8, zero := [.nilFunc], kind := .cell }),
  (114, { agg := false, size := 1, bytes := 8, zero := [.nilFunc], kind := .cell }),
  (115, { agg := false, size := 1, bytes := 8, zero := [.nilFunc], kind := .cell }),
  (116, { agg := false, size := 1, bytes := 8, zero := [.nilFunc], kind := .cell }),
  (117, { agg := false, size := 1, bytes := 8, zero := [.nilFunc], kind := .cell }),
  (118, { agg := false, size := 1, bytes := 8, zero := [.nilFunc], kind := .cell }),
  (119, { agg := false, size := 1, bytes := 8, zero := [.nilFunc], kind := .cell }),
  (120, { agg := false, size := 1, bytes := 8, zero := [.nilFunc], kind := .cell }),
  (121, { agg := false, size := 1, bytes := 8, zero := [.nilFunc], kind := .cell }),
  (122, { agg := false, size := 1, bytes := 8, zero := [.nilFunc], kind := .cell }),
  (123, { agg := false, size := 1, bytes := 8, zero := [.nilFunc], kind := .cell }),
  (124, { agg := false, size := 1, bytes := 24, zero := [(.slice none 0 0)], kind := (.slice 3) }),
  (125, { agg := false, size := 1, bytes := 8, zero := [.nilFunc], kind := .cell }),
  (126, { agg := true, size := 24, bytes := 24, zero := [(.int .u8 0), (.int .u8 0), (.int .u8 0), (.int .u8 0), (.int .u8 0), (.int .u8 0), (.int .u8 0), (.int .u8 0), (.int .u8 0), (.int .u8 0), (.int .u8 0), (.int .u8 0), (.int .u8 0), (.int .u8 0), (.int .u8 0), (.int .u8 0), (.int .u8 0), (.int .u8 0), (.int .u8 0), (.int .u8 0), (.int .u8 0), (.int .u8 0), (.int .u8 0), (.int .u8 0)], kind := (.array 24 5) }),
  (127, { agg := false, size := 1, bytes := 8, zero := [.nilFunc], kind := .cell }),
  (128, { agg := false, size := 1, bytes := 8, zero := [.nilFunc], kind := .cell }),
  (130, { agg := false, size := 1, bytes := 8, zero := [.nilFunc], kind := .cell }),
  (131, { agg := true, size := 11, bytes := 176, zero := [(.string ⟨#[]⟩), (.string ⟨#[]⟩), (.string ⟨#[]⟩), (.string ⟨#[]⟩), (.string ⟨#[]⟩), (.string ⟨#[]⟩), (.string ⟨#[]⟩), (.string ⟨#[]⟩), (.string ⟨#[]⟩), (.string ⟨#[]⟩), (.string ⟨#[]⟩)], kind := (.array 11 9) }),
  (132, { agg := false, size := 1, bytes := 8, zero := [.nilFunc], kind := .cell }),
  (133, { agg := false, size := 1, bytes := 8, zero := [.nilFunc], kind := .cell }),
  (134, { agg := false, size := 1, bytes := 8, zero := [.nilFunc], kind := .cell }),
  (135, { agg := false, size := 1, bytes := 8, zero := [.nilFunc], kind := .cell }),
  (136, { agg := false, size := 1, bytes := 8, zero := [.nilFunc], kind := .cell }),
  (137, { agg := false, size := 1, bytes := 8, zero := [.nilFunc], kind := .cell }),
  (138, { agg := false, size := 1, bytes := 8, zero := [.nilFunc], kind := .cell }),
  (139, { agg := true, size := 20, bytes := 160, zero := [(.int .u64 0), (.int .u64 0), (.int .u64 0), (.int .u64 0), (.int .u64 0), (.int .u64 0), (.int .u64 0), (.int .u64 0), (.int .u64 0), (.int .u64 0), (.int .u64 0), (.int .u64 0), (.int .u64 0), (.int .u64 0), (.int .u64 0), (.int .u64 0), (.int .u64 0), (.int .u64 0), (.int .u64 0), (.int .u64 0)], kind := (.array 20 98) }),
  (140, { agg := true, size := 65, bytes := 65, zero := [(.int .u8 0), (.int .u8 0), (.int .u8 0), (.int .u8 0), (.int .u8 0), (.int .u8 0), (.int .u8 0), (.int .u8 0), (.int .u8 0), (.int .u8 0), (.int .u8 0), (.int .u8 0), (.int .u8 0), (.int .u8 0), (.int .u8 0), (.int .u8 0), (.int .u8 0), (.int .u8 0), (.int .u8 0), (.int .u8 0), (.int .u8 0), (.int .u8 0), (.int .u8 0), (.int .u8 0), (.int .u8 0), (.int .u8 0), (.int .u8 0), (.int .u8 0), (.int .u8 0), (.int .u8 0), (.int .u8 0), (.int .u8 0), (.int .u8 0), (.int .u8 0), (.int .u8 0), (.int .u8 0), (.int .u8 0), (.int .u8 0), (.int .u8 0), (.int .u8 0), (.int .u8 0), (.int .u8 0), (.int .u8 0), (.int .u8 0), (.int .u8 0), (.int .u8 0), (.int .u8 0), (.int .u8 0), (.int .u8 0), (.int .u8 0), (.int .u8 0), (.int .u8 0), (.int .u8 0), (.int .u8 0), (.int .u8 0), (.int .u8 0), (.int .u8 0), (.int .u8 0), (.int .u8 0), (.int .u8 0), (.int .u8 0), (.int .u8 0), (.int .u8 0), (.int .u8 0), (.int .u8 0)], kind := (.array 65 5) }),
  (141, { agg := false, size := 1, bytes := 8, zero := [.nilFunc], kind := .cell }),
  (142, { agg := false, size := 1, bytes := 8, zero := [(.int .i64 0)], kind := (.int .i64) }),
  (144, { agg := false, size := 1, bytes := 8, zero := [.nilFunc], kind := .cell }),
  (145, { agg := false, size := 1, bytes := 8, zero := [(.pointer none)], kind := .cell }),
  (146, { agg := false, size := 1, bytes := 8, zero := [.nilFunc], kind := .cell }),
  (147, { agg := false, size := 1, bytes := 8, zero := [.nilFunc], kind := .cell }),
  (149, { agg := false, size := 1, bytes := 8, zero := [.nilFunc], kind := .cell }),
  (150, { agg := false, size := 1, bytes := 8, zero := [.nilFunc], kind := .cell }),
  (151, { agg := false, size := 1, bytes := 8, zero := [.nilFunc], kind := .cell }),
  (152, { agg := false, size := 1, bytes := 8, zero := [.nilFunc], kind := .cell }),
  (154, { agg := false, size := 1, bytes := 8, zero := [.nilFunc], kind := .cell }),
  (155, { agg := true, size := 3, bytes := 48, zero := [(.string ⟨#[]⟩), (.string ⟨#[]⟩), .nilIface], kind := (.struct [(0, 1), (1, 1), (2, 1)]) }),
  (156, { agg := true, size := 3, bytes := 48, zero := [(.string ⟨#[]⟩), (.string ⟨#[]⟩), .nilIface], kind := (.struct [(0, 1), (1, 1), (2, 1)]) }),
  (157, { agg := false, size := 1, bytes := 8, zero := [.nilFunc], kind := .cell }),
  (158, { agg := false, size := 1, bytes := 8, zero := [.nilFunc], kind := .cell }),
  (159, { agg := false, size := 1, bytes := 8, zero := [.nilFunc], kind := .cell }),
  (160, { agg := true, size := 32, bytes := 32, zero := [(.int .u8 0), (.int .u8 0), (.int .u8 0), (.int .u8 0), (.int .u8 0), (.int .u8 0), (.int .u8 0), (.int .u8 0), (.int .u8 0), (.int .u8 0), (.int .u8 0), (.int .u8 0), (.int .u8 0), (.int .u8 0), (.int .u8 0), (.int .u8 0), (.int .u8 0), (.int .u8 0), (.int .u8 0), (.int .u8 0), (.int .u8 0), (.int .u8 0), (.int .u8 0), (.int .u8 0), (.int .u8 0), (.int .u8 0), (.int .u8 0), (.int .u8 0), (.int .u8 0), (.int .u8 0), (.int .u8 0), (.int .u8 0)], kind := (.array 32 5) }),
  (161, { agg := true, size := 64, bytes := 64, zero := [(.int .u8 0), (.int .u8 0), (.int .u8 0), (.int .u8 0), (.int .u8 0), (.int .u8 0), (.int .u8 0), (.int .u8 0), (.int .u8 0), (.int .u8 0), (.int .u8 0), (.int .u8 0), (.int .u8 0), (.int .u8 0), (.int .u8 0), (.int .u8 0), (.int .u8 0), (.int .u8 0), (.int .u8 0), (.int .u8 0), (.int .u8 0), (.int .u8 0), (.int .u8 0), (.int .u8 0), (.int .u8 0), (.int .u8 0), (.int .u8 0), (.int .u8 0), (.int .u8 0), (.int .u8 0), (.int .u8 0), (.int .u8 0), (.int .u8 0), (.int .u8 0), (.int .u8 0), (.int .u8 0), (.int .u8 0), (.int .u8 0), (.int .u8 0), (.int .u8 0), (.int .u8 0), (.int .u8 0), (.int .u8 0), (.int .u8 0), (.int .u8 0), (.int .u8 0), (.int .u8 0), (.int .u8 0), (.int .u8 0), (.int .u8 0), (.int .u8 0), (.int .u8 0), (.int .u8 0), (.int .u8 0), (.int .u8 0), (.int .u8 0), (.int .u8 0), (.int .u8 0), (.int .u8 0), (.int .u8 0), (.int .u8 0), (.int .u8 0), (.int .u8 0), (.int .u8 0)], kind := (.array 64 5) }),
  (162, { agg := false, size := 1, bytes := 8, zero := [.nilFunc], kind := .cell }),
  (163, { agg := false, size := 1, bytes := 8, zero := [(.pointer none)], kind := .cell }),
  (164, { agg := true, size := 1, bytes := 16, zero := [(.string ⟨#[]⟩)], kind := (.struct [(0, 1)]) }),
  (165, { agg := true, size := 1, bytes := 16, zero := [(.string ⟨#[]⟩)], kind := (.struct [(0, 1)]) }),
  (166, { agg := true, size := 256, bytes := 256, zero := [(.int .u8 0), (.int .u8 0), (.int .u8 0), (.int .u8 0), (.int .u8 0), (.int .u8 0), (.int .u8 0), (.int .u8 0), (.int .u8 0), (.int .u8 0), (.int .u8 0), (.int .u8 0), (.int .u8 0), (.int .u8 0), (.int .u8 0), (.int .u8 0), (.int .u8 0), (.int .u8 0), (.int .u8 0), (.int .u8 0), (.int .u8 0), (.int .u8 0), (.int .u8 0), (.int .u8 0), (.int .u8 0), (.int .u8 0), (.int .u8 0), (.int .u8 0), (.int .u8 0), (.int .u8 0), (.int .u8 0), (.int .u8 0), (.int .u8 0), (.int .u8 0), (.int .u8 0), (.int .u8 0), (.int .u8 0), (.int .u8 0), (.int .u8 0), (.int .u8 0), (.int .u8 0), (.int .u8 0), (.int .u8 0), (.int .u8 0), (.int .u8 0), (.int .u8 0), (.int .u8 0), (.int .u8 0), (.int .u8 0), (.int .u8 0), (.int .u8 0), (.int .u8 0), (.int .u8 0), (.int .u8 0), (.int .u8 0), (.int .u8 0), (.int .u8 0), (.int .u8 0), (.int .u8 0), (.int .u8 0), (.int .u8 0), (.int .u8 0), (.int .u8 0), (.int .u8 0), (.int .u8 0), (.int .u8 0), (.int .u8 0), (.int .u8 0), (.int .u8 0), (.int .u8 0), (.int .u8 0), (.int .u8 0), (.int .u8 0), (.int .u8 0), (.int .u8 0), (.int .u8 0), (.int .u8 0), (.int .u8 0), (.int .u8 0), (.int .u8 0), (.int .u8 0), (.int .u8 0), (.int .u8 0), (.int .u8 0), (.int .u8 0), (.int .u8 0), (.int .u8 0), (.int .u8 0), (.int .u8 0), (.int .u8 0), (.int .u8 0), (.int .u8 0), (.int .u8 0), (.int .u8 0), (.int .u8 0), (.int .u8 0), (.int .u8 0), (.int .u8 0), (.int .u8 0), (.int .u8 0), (.int .u8 0), (.int .u8 0), (.int .u8 0), (.int .u8 0), (.int .u8 0), (.int .u8 0), (.int .u8 0), (.int .u8 0), (.int .u8 0), (.int .u8 0), (.int .u8 0), (.int .u8 0), (.int .u8 0), (.int .u8 0), (.int .u8 0), (.int .u8 0), (.int .u8 0), (.int .u8 0), (.int .u8 0), (.int .u8 0), (.int .u8 0), (.int .u8 0), (.int .u8 0), (.int .u8 0), (.int .u8 0), (.int .u8 0), (.int .u8 0), (.int .u8 0), (.int .u8 0), (.int .u8 0), (.int .u8 0), (.int .u8 0), (.int .u8 0), (.int .u8 0), (.int .u8 0), (.int .u8 0), (.int .u8 0), (.int .u8 0), (.int .u8 0), (.int .u8 0), (.int .u8 0), (.int .u8 0), (.int .u8 0), (.int .u8 0), (.int .u8 0), (.int .u8 0), (.int .u8 0), (.int .u8 0), (.int .u8 0), (.int .u8 0), (.int .u8 0), (.int .u8 0), (.int .u8 0), (.int .u8 0), (.int .u8 0), (.int .u8 0), (.int .u8 0), (.int .u8 0), (.int .u8 0), (.int .u8 0), (.int .u8 0), (.int .u8 0), (.int .u8 0), (.int .u8 0), (.int .u8 0), (.int .u8 0), (.int .u8 0), (.int .u8 0), (.int .u8 0), (.int .u8 0), (.int .u8 0), (.int .u8 0), (.int .u8 0), (.int .u8 0), (.int .u8 0), (.int .u8 0), (.int .u8 0), (.int .u8 0), (.int .u8 0), (.int .u8 0), (.int .u8 0), (.int .u8 0), (.int .u8 0), (.int .u8 0), (.int .u8 0), (.int .u8 0), (.int .u8 0), (.int .u8 0), (.int .u8 0), (.int .u8 0), (.int .u8 0), (.int .u8 0), (.int .u8 0), (.int .u8 0), (.int .u8 0), (.int .u8 0), (.int .u8 0), (.int .u8 0), (.int .u8 0), (.int .u8 0), (.int .u8 0), (.int .u8 0), (.int .u8 0), (.int .u8 0), (.int .u8 0), (.int .u8 0), (.int .u8 0), (.int .u8 0), (.int .u8 0), (.int .u8 0), (.int .u8 0), (.int .u8 0), (.int .u8 0), (.int .u8 0), (.int .u8 0), (.int .u8 0), (.int .u8 0), (.int .u8 0), (.int .u8 0), (.int .u8 0), (.int .u8 0), (.int .u8 0), (.int .u8 0), (.int .u8 0), (.int .u8 0), (.int .u8 0), (.int .u8 0), (.int .u8 0), (.int .u8 0), (.int .u8 0), (.int .u8 0), (.int .u8 0), (.int .u8 0), (.int .u8 0), (.int .u8 0), (.int .u8 0), (.int .u8 0), (.int .u8 0), (.int .u8 0), (.int .u8 0), (.int .u8 0), (.int .u8 0), (.int .u8 0), (.int .u8 0), (.int .u8 0), (.int .u8 0), (.int .u8 0), (.int .u8 0), (.int .u8 0), (.int .u8 0), (.int .u8 0), (.int .u8 0), (.int .u8 0), (.int .u8 0), (.int .u8 0), (.int .u8 0)], kind := (.array 256 5) }),
  (167, { agg := true, size := 2, bytes := 2, zero := [(.int .u8 0), (.int .u8 0)], kind := (.struct [(0, 1), (1, 1)]) }),
  (168, { agg := true, size := 2, bytes := 2, zero := [(.int .u8 0), (.int .u8 0)], kind := (.struct [(0, 1), (1, 1)]) }),
  (169, { agg := true, size := 32, bytes := 32, zero := [(.int .u8 0), (.int .u8 0), (.int .u8 0), (.int .u8 0), (.int .u8 0), (.int .u8 0), (.int .u8 0), (.int .u8 0), (.int .u8 0), (.int .u8 0), (.int .u8 0), (.int .u8 0), (.int .u8 0), (.int .u8 0), (.int .u8 0), (.int .u8 0), (.int .u8 0), (.int .u8 0), (.int .u8 0), (.int .u8 0), (.int .u8 0), (.int .u8 0), (.int .u8 0), (.int .u8 0), (.int .u8 0), (.int .u8 0), (.int .u8 0), (.int .u8 0), (.int .u8 0), (.int .u8 0), (.int .u8 0), (.int .u8 0)], kind := (.array 16 168) }),
  (170, { agg := false, size := 1, bytes := 8, zero := [.nilFunc], kind := .cell }),
  (171, { agg := false, size := 1, bytes := 8, zero := [.nilFunc], kind := .cell }),
  (172, { agg := false, size := 1, bytes := 8, zero := [.nilFunc], kind := .cell }),
  (173, { agg := true, size := 4, bytes := 40, zero := [(.pointer none), (.pointer none), (.pointer none), (.string ⟨#[]⟩)], kind := (.struct [(0, 1), (1, 1), (2, 1), (3, 1)]) }),
  (174, { agg := true, size := 4, bytes := 40, zero := [(.pointer none), (.pointer none), (.pointer none), (.string ⟨#[]⟩)], kind := (.struct [(0, 1), (1, 1), (2, 1), (3, 1)]) }),
  (178, { agg := false, size := 1, bytes := 1, zero := [(.int .u8 0)], kind := (.int .u8) }),
  (179, { agg := false, size := 1, bytes := 1, zero := [(.int .u8 0)], kind := (.int .u8) }),
  (180, { agg := false, size := 1, bytes := 8, zero := [.nilFunc], kind := .cell }),
  (181, { agg := false, size := 1, bytes := 4, zero := [(.int .i32 0)], kind := (.int .i32) }),
  (182, { agg := false, size := 1, bytes := 4, zero := [(.int .i32 0)], kind := (.int .i32) }),
  (183, { agg := true, size := 11, bytes := 48, zero := [(.int .u64 0), (.int .u64 0), (.int .u32 0), (.int .u8 0), (.int .u8 0), (.int .u8 0), (.int .u8 0), .nilFunc, (.pointer none), (.int .i32 0), (.int .i32 0)], kind := (.struct [(0, 1), (1, 1), (2, 1), (3, 1), (4, 1), (5, 1), (6, 1), (7, 1), (8, 1), (9, 1), (10, 1)]) }),
  (184, { agg := true, size := 11, bytes := 48, zero := [(.int .u64 0), (.int .u64 0), (.int .u32 0), (.int .u8 0), (.int .u8 0), (.int .u8 0), (.int .u8 0), .nilFunc, (.pointer none), (.int .i32 0), (.int .i32 0)], kind := (.struct [(0, 1), (1, 1), (2, 1), (3, 1), (4, 1), (5, 1), (6, 1), (7, 1), (8, 1), (9, 1), (10, 1)]) })]
theorem tabL_ok : tabCheck Tryd.prog tabL = true := by kernel_rfl
def T : Tab := lookT tabL
theorem hT : TabOk Tryd.prog T := tabCheck_ok tabL_ok
theorem fns_met0 : fnsCheck Tryd.prog 3 13 = true := by kernel_rfl
theorem fns_met1 : fnsCheck Tryd.prog 14 16 = true := by kernel_rfl
theorem fns_met2 : fnsCheck Tryd.prog 18 25 = true := by kernel_rfl
theorem fns_met3 : fnsCheck Tryd.prog 27 32 = true := by kernel_rfl
theorem fns_met4 : fnsCheck Tryd.prog 33 34 = true := by kernel_rfl
theorem fns_met5 : fnsCheck Tryd.prog 35 44 = true := by kernel_rfl
theorem fns_met6 : fnsCheck Tryd.prog 45 48 = true := by kernel_rfl
theorem fns_met7 : fnsCheck Tryd.prog 49 53 = true := by kernel_rfl
theorem fns_met8 : fnsCheck Tryd.prog 54 65 = true := by kernel_rfl
theorem fns_met9 : fnsCheck Tryd.prog 71 82 = true := by kernel_rfl
theorem fns_met10 : fnsCheck Tryd.prog 84 97 = true := by kernel_rfl
theorem fns_met11 : fnsCheck Tryd.prog 98 105 = true := by kernel_rfl
theorem fns_met12 : fnsCheck Tryd.prog 107 110 = true := by kernel_rfl
theorem fns_met13 : fnsCheck Tryd.prog 111 113 = true := by kernel_rfl
theorem fns_met14 : fnsCheck Tryd.prog 116 117 = true := by kernel_rfl
def F : FuncId → Bool := fun g => fnsIn 3 13 g || fnsIn 14 16 g || fnsIn 18 25 g || fnsIn 27 32 g || fnsIn 33 34 g || fnsIn 35 44 g || fnsIn 45 48 g || fnsIn 49 53 g || fnsIn 54 65 g || fnsIn 71 82 g || fnsIn 84 97 g || fnsIn 98 105 g || fnsIn 107 110 g || fnsIn 111 113 g || fnsIn 116 117 g
theorem hF : ∀ g, F g = true → fnOk Tryd.prog g = true := fun g h => by
  simp only [F, Bool.or_eq_true] at h
  rcases h with ((((((((((((((h | h) | h) | h) | h) | h) | h) | h) | h) | h) | h) | h) | h) | h) | h)
  · exact fns_ok fns_met0 g h
  · exact fns_ok fns_met1 g h
  · exact fns_ok fns_met2 g h
  · exact fns_ok fns_met3 g h
  · exact fns_ok fns_met4 g h
  · exact fns_ok fns_met5 g h
  · exact fns_ok fns_met6 g h
  · exact fns_ok fns_met7 g h
  · exact fns_ok fns_met8 g h
  · exact fns_ok fns_met9 g h
  · exact fns_ok fns_met10 g h
  · exact fns_ok fns_met11 g h
  · exact fns_ok fns_met12 g h
  · exact fns_ok fns_met13 g h
  · exact fns_ok fns_met14 g h
end Go.Proofs.YtabjelabdojpkaaDoor
