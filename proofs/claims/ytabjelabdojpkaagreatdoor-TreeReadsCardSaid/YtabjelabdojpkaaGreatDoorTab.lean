/-
  The table of the types of this seat's translation, as the engine asks it, checked by the kernel; printed by a program of ours.
-/
import Derived.Test.YtabjelabdojpkaaGreatDoorEng
import Derived.Test.YtabjelabdojpkaaGreatDoorProg
import Derived.KernelRfl
namespace Go.Proofs.YtabjelabdojpkaaGreatDoor
open Go.Eng

def tabL : List (TypeId × TI) := [
  (1, { agg := false, size := 1, bytes := 8, zero := [.nilFunc], kind := .cell }),
  (2, { agg := false, size := 1, bytes := 8, zero := [(.int .i64 0)], kind := (.int .i64) }),
  (3, { agg := false, size := 1, bytes := 8, zero := [(.int .i64 0)], kind := (.int .i64) }),
  (4, { agg := false, size := 1, bytes := 1, zero := [(.bool false)], kind := .bool }),
  (5, { agg := false, size := 1, bytes := 1, zero := [(.int .u8 0)], kind := (.int .u8) }),
  (6, { agg := false, size := 1, bytes := 1, zero := [(.int .u8 0)], kind := (.int .u8) }),
  (7, { agg := true, size := 4, bytes := 24, zero := [(.int .i64 0), (.int .i64 0), (.bool false), (.int .u8 0)], kind := (.struct [(0, 1), (1, 1), (2, 1), (3, 1)]) }),
  (8, { agg := true, size := 4, bytes := 24, zero := [(.int .i64 0), (.int .i64 0), (.bool false), (.int .u8 0)], kind := (.struct [(0, 1), (1, 1), (2, 1), (3, 1)]) }),
  (9, { agg := false, size := 1, bytes := 16, zero := [(.string ⟨#[]⟩)], kind := .str }),
  (10, { agg := false, size := 1, bytes := 16, zero := [(.string ⟨#[]⟩)], kind := .str }),
  (11, { agg := false, size := 1, bytes := 16, zero := [(.string ⟨#[]⟩)], kind := .str }),
  (12, { agg := false, size := 1, bytes := 8, zero := [(.int .u64 0)], kind := (.int .u64) }),
  (13, { agg := true, size := 2, bytes := 24, zero := [(.string ⟨#[]⟩), (.int .u64 0)], kind := (.struct [(0, 1), (1, 1)]) }),
  (14, { agg := true, size := 2, bytes := 24, zero := [(.string ⟨#[]⟩), (.int .u64 0)], kind := (.struct [(0, 1), (1, 1)]) }),
  (15, { agg := false, size := 1, bytes := 8, zero := [(.pointer none)], kind := .cell }),
  (16, { agg := false, size := 1, bytes := 8, zero := [(.pointer none)], kind := .cell }),
  (17, { agg := false, size := 1, bytes := 8, zero := [(.pointer none)], kind := .cell }),
  (18, { agg := true, size := 1, bytes := 8, zero := [(.pointer none)], kind := (.struct [(0, 1)]) }),
  (19, { agg := true, size := 1, bytes := 8, zero := [(.pointer none)], kind := (.struct [(0, 1)]) }),
  (20, { agg := false, size := 1, bytes := 16, zero := [.nilIface], kind := .iface }),
  (21, { agg := false, size := 1, bytes := 4, zero := [(.int .i32 0)], kind := (.int .i32) }),
  (22, { agg := false, size := 1, bytes := 24, zero := [(.slice none 0 0)], kind := (.slice 9) }),
  (23, { agg := false, size := 1, bytes := 24, zero := [(.slice none 0 0)], kind := (.slice 43) }),
  (24, { agg := false, size := 1, bytes := 24, zero := [(.slice none 0 0)], kind := (.slice 47) }),
  (25, { agg := true, size := 4, bytes := 88, zero := [(.string ⟨#[]⟩), (.slice none 0 0), (.slice none 0 0), (.slice none 0 0)], kind := (.struct [(0, 1), (1, 1), (2, 1), (3, 1)]) }),
  (26, { agg := true, size := 4, bytes := 88, zero := [(.string ⟨#[]⟩), (.slice none 0 0), (.slice none 0 0), (.slice none 0 0)], kind := (.struct [(0, 1), (1, 1), (2, 1), (3, 1)]) }),
  (27, { agg := false, size := 1, bytes := 8, zero := [(.int .i64 0)], kind := (.int .i64) }),
  (29, { agg := false, size := 1, bytes := 8, zero := [.nilFunc], kind := .cell }),
  (30, { agg := false, size := 1, bytes := 8, zero := [.nilFunc], kind := .cell }),
  (31, { agg := false, size := 1, bytes := 8, zero := [.nilFunc], kind := .cell }),
  (32, { agg := false, size := 1, bytes := 24, zero := [(.slice none 0 0)], kind := (.slice 52) }),
  (34, { agg := false, size := 1, bytes := 8, zero := [.nilFunc], kind := .cell }),
  (35, { agg := false, size := 1, bytes := 8, zero := [.nilFunc], kind := .cell }),
  (36, { agg := false, size := 1, bytes := 8, zero := [.nilFunc], kind := .cell }),
  (37, { agg := false, size := 1, bytes := 8, zero := [(.pointer none)], kind := .cell }),
  (38, { agg := true, size := 4, bytes := 48, zero := [(.slice none 0 0), (.int .i64 0), (.int .i64 0), (.int .i64 0)], kind := (.struct [(0, 1), (1, 1), (2, 1), (3, 1)]) }),
  (39, { agg := true, size := 4, bytes := 48, zero := [(.slice none 0 0), (.int .i64 0), (.int .i64 0), (.int .i64 0)], kind := (.struct [(0, 1), (1, 1), (2, 1), (3, 1)]) }),
  (40, { agg := false, size := 1, bytes := 8, zero := [.nilFunc], kind := .cell }),
  (41, { agg := false, size := 1, bytes := 8, zero := [.nilFunc], kind := .cell }),
  (42, { agg := true, size := 2, bytes := 24, zero := [(.string ⟨#[]⟩), (.int .i64 0)], kind := (.struct [(0, 1), (1, 1)]) }),
  (43, { agg := true, size := 2, bytes := 24, zero := [(.string ⟨#[]⟩), (.int .i64 0)], kind := (.struct [(0, 1), (1, 1)]) }),
  (44, { agg := false, size := 1, bytes := 8, zero := [.nilFunc], kind := .cell }),
  (45, { agg := false, size := 1, bytes := 24, zero := [(.slice none 0 0)], kind := (.slice 70) }),
  (46, { agg := true, size := 4, bytes := 72, zero := [(.string ⟨#[]⟩), (.bool false), (.slice none 0 0), (.slice none 0 0)], kind := (.struct [(0, 1), (1, 1), (2, 1), (3, 1)]) }),
  (47, { agg := true, size := 4, bytes := 72, zero := [(.string ⟨#[]⟩), (.bool false), (.slice none 0 0), (.slice none 0 0)], kind := (.struct [(0, 1), (1, 1), (2, 1), (3, 1)]) }),
  (48, { agg := false, size := 1, bytes := 8, zero := [.nilFunc], kind := .cell }),
  (49, { agg := false, size := 1, bytes := 8, zero := [.nilFunc], kind := .cell }),
  (50, { agg := false, size := 1, bytes := 8, zero := [.nilFunc], kind := .cell }),
  (51, { agg := true, size := 2, bytes := 24, zero := [(.int .i64 0), (.string ⟨#[]⟩)], kind := (.struct [(0, 1), (1, 1)]) }),
  (52, { agg := true, size := 2, bytes := 24, zero := [(.int .i64 0), (.string ⟨#[]⟩)], kind := (.struct [(0, 1), (1, 1)]) }),
  (54, { agg := false, size := 1, bytes := 8, zero := [.nilFunc], kind := .cell }),
  (55, { agg := false, size := 1, bytes := 8, zero := [.nilFunc], kind := .cell }),
  (56, { agg := false, size := 1, bytes := 8, zero := [.nilFunc], kind := .cell }),
  (57, { agg := false, size := 1, bytes := 8, zero := [(.pointer none)], kind := .cell }),
  (58, { agg := false, size := 1, bytes := 8, zero := [(.pointer none)], kind := .cell }),
  (59, { agg := true, size := 2, bytes := 32, zero := [(.slice none 0 0), (.int .i64 0)], kind := (.struct [(0, 1), (1, 1)]) }),
  (60, { agg := true, size := 2, bytes := 32, zero := [(.slice none 0 0), (.int .i64 0)], kind := (.struct [(0, 1), (1, 1)]) }),
  (61, { agg := false, size := 1, bytes := 8, zero := [.nilFunc], kind := .cell }),
  (62, { agg := false, size := 1, bytes := 8, zero := [.nilFunc], kind := .cell }),
  (63, { agg := false, size := 1, bytes := 8, zero := [.nilFunc], kind := .cell }),
  (64, { agg := false, size := 1, bytes := 8, zero := [.nilFunc], kind := .cell }),
  (65, { agg := false, size := 1, bytes := 8, zero := [.nilFunc], kind := .cell }),
  (66, { agg := false, size := 1, bytes := 8, zero := [.nilFunc], kind := .cell }),
  (67, { agg := false, size := 1, bytes := 8, zero := [.nilFunc], kind := .cell }),
  (68, { agg := false, size := 1, bytes := 24, zero := [(.slice none 0 0)], kind := (.slice 94) }),
  (69, { agg := true, size := 5, bytes := 96, zero := [(.int .i64 0), (.string ⟨#[]⟩), (.slice none 0 0), (.slice none 0 0), (.slice none 0 0)], kind := (.struct [(0, 1), (1, 1), (2, 1), (3, 1), (4, 1)]) }),
  (70, { agg := true, size := 5, bytes := 96, zero := [(.int .i64 0), (.string ⟨#[]⟩), (.slice none 0 0), (.slice none 0 0), (.slice none 0 0)], kind := (.struct [(0, 1), (1, 1), (2, 1), (3, 1), (4, 1)]) }),
  (71, { agg := false, size := 1, bytes := 8, zero := [.nilFunc], kind := .cell }),
  (73, { agg := false, size := 1, bytes := 8, zero := [.nilFunc], kind := .cell }),
  (74, { agg := false, size := 1, bytes := 8, zero := [.nilFunc], kind := .cell }),
  (75, { agg := false, size := 1, bytes := 8, zero := [.nilFunc], kind := .cell }),
  (76, { agg := false, size := 1, bytes := 16, zero := [.nilIface], kind := .iface }),
  (77, { agg := false, size := 1, bytes := 16, zero := [.nilIface], kind := .iface }),
  (79, { agg := false, size := 1, bytes := 8, zero := [.nilFunc], kind := .cell }),
  (80, { agg := false, size := 1, bytes := 8, zero := [.nilFunc], kind := .cell }),
  (81, { agg := false, size := 1, bytes := 8, zero := [.nilFunc], kind := .cell }),
  (82, { agg := false, size := 1, bytes := 8, zero := [.nilFunc], kind := .cell }),
  (83, { agg := false, size := 1, bytes := 8, zero := [.nilFunc], kind := .cell }),
  (84, { agg := false, size := 1, bytes := 8, zero := [.nilFunc], kind := .cell }),
  (85, { agg := false, size := 1, bytes := 8, zero := [.nilFunc], kind := .cell }),
  (86, { agg := false, size := 1, bytes := 8, zero := [.nilFunc], kind := .cell }),
  (87, { agg := false, size := 1, bytes := 24, zero := [(.slice none 0 0)], kind := (.slice 5) }),
  (88, { agg := true, size := 1, bytes := 8, zero := [(.int .i64 0)], kind := (.struct [(0, 1)]) }),
  (89, { agg := true, size := 1, bytes := 8, zero := [(.int .i64 0)], kind := (.struct [(0, 1)]) }),
  (91, { agg := false, size := 1, bytes := 8, zero := [.nilFunc], kind := .cell }),
  (92, { agg := false, size := 1, bytes := 8, zero := [.nilFunc], kind := .cell }),
  (93, { agg := true, size := 5, bytes := 72, zero := [(.int .i64 0), (.int .i64 0), (.string ⟨#[]⟩), (.string ⟨#[]⟩), (.slice none 0 0)], kind := (.struct [(0, 1), (1, 1), (2, 1), (3, 1), (4, 1)]) }),
  (94, { agg := true, size := 5, bytes := 72, zero := [(.int .i64 0), (.int .i64 0), (.string ⟨#[]⟩), (.string ⟨#[]⟩), (.slice none 0 0)], kind := (.struct [(0, 1), (1, 1), (2, 1), (3, 1), (4, 1)]) }),
  (95, { agg := false, size := 1, bytes := 8, zero := [.nilFunc], kind := .cell }),
  (96, { agg := false, size := 1, bytes := 8, zero := [.nilFunc], kind := .cell }),
  (97, { agg := false, size := 1, bytes := 8, zero := [.nilFunc], kind := .cell }),
  (98, { agg := false, size := 1, bytes := 8, zero := [.nilFunc], kind := .cell }),
  (99, { agg := false, size := 1, bytes := 8, zero := [.nilFunc], kind := .cell }),
  (100, { agg := false, size := 1, bytes := 8, zero := [.nilFunc], kind := .cell }),
  (101, { agg := false, size := 1, bytes := 8, zero := [.nilFunc], kind := .cell }),
  (102, { agg := false, size := 1, bytes := 8, zero := [(.int .i64 0)], kind := (.int .i64) }),
  (104, { agg := false, size := 1, bytes := 8, zero := [.nilFunc], kind := .cell }),
  (105, { agg := false, size := 1, bytes := 8, zero := [(.pointer none)], kind := .cell }),
  (106, { agg := false, size := 1, bytes := 8, zero := [.nilFunc], kind := .cell }),
  (107, { agg := false, size := 1, bytes := 8, zero := [.nilFunc], kind := .cell }),
  (108, { agg := false, size := 1, bytes := 8, zero := [.nilFunc], kind := .cell }),
  (110, { agg := false, size := 1, bytes := 8, zero := [.nilFunc], kind := .cell }),
  (111, { agg := false, size := 1, bytes := 8, zero := [.nilFunc], kind := .cell }),
  (112, { agg := false, size := 1, bytes := 8, zero := [.nilFunc], kind := .cell }),
  (113, { agg := false, size := 1, bytes := 8, zero := [(.int .u64 0)], kind := (.int .u64) }),
  (115, { agg := false, size := 1, bytes := 8, zero := [.nilFunc], kind := .cell }),
  (116, { agg := false, size := 1, bytes := 8, zero := [(.int .u64 0)], kind := (.int .u64) }),
  (117, { agg := true, size := 3, bytes := 48, zero := [(.string ⟨#[]⟩), (.string ⟨#[]⟩), .nilIface], kind := (.struct [(0, 1), (1, 1), (2, 1)]) }),
  (118, { agg := true, size := 3, bytes := 48, zero := [(.string ⟨#[]⟩), (.string ⟨#[]⟩), .nilIface], kind := (.struct [(0, 1), (1, 1), (2, 1)]) }),
  (119, { agg := false, size := 1, bytes := 8, zero := [.nilFunc], kind := .cell }),
  (120, { agg := true, size := 24, bytes := 24, zero := [(.int .u8 0), (.int .u8 0), (.int .u8 0), (.int .u8 0), (.int .u8 0), (.int .u8 0), (.int .u8 0), (.int .u8 0), (.int .u8 0), (.int .u8 0), (.int .u8 0), (.int .u8 0), (.int .u8 0), (.int .u8 0), (.int .u8 0), (.int .u8 0), (.int .u8 0), (.int .u8 0), (.int .u8 0), (.int .u8 0), (.int .u8 0), (.int .u8 0), (.int .u8 0), (.int .u8 0)], kind := (.array 24 5) }),
  (121, { agg := false, size := 1, bytes := 8, zero := [.nilFunc], kind := .cell }),
  (122, { agg := false, size := 1, bytes := 8, zero := [.nilFunc], kind := .cell }),
  (124, { agg := false, size := 1, bytes := 8, zero := [.nilFunc], kind := .cell }),
  (125, { agg := false, size := 1, bytes := 8, zero := [.nilFunc], kind := .cell }),
  (126, { agg := false, size := 1, bytes := 8, zero := [.nilFunc], kind := .cell }),
  (127, { agg := false, size := 1, bytes := 8, zero := [(.pointer none)], kind := .cell }),
  (128, { agg := false, size := 1, bytes := 8, zero := [(.pointer none)], kind := .cell }),
  (129, { agg := true, size := 1, bytes := 16, zero := [(.string ⟨#[]⟩)], kind := (.struct [(0, 1)]) }),
  (130, { agg := true, size := 1, bytes := 16, zero := [(.string ⟨#[]⟩)], kind := (.struct [(0, 1)]) }),
  (131, { agg := false, size := 1, bytes := 8, zero := [.nilFunc], kind := .cell }),
  (132, { agg := false, size := 1, bytes := 8, zero := [.nilFunc], kind := .cell }),
  (133, { agg := true, size := 20, bytes := 160, zero := [(.int .u64 0), (.int .u64 0), (.int .u64 0), (.int .u64 0), (.int .u64 0), (.int .u64 0), (.int .u64 0), (.int .u64 0), (.int .u64 0), (.int .u64 0), (.int .u64 0), (.int .u64 0), (.int .u64 0), (.int .u64 0), (.int .u64 0), (.int .u64 0), (.int .u64 0), (.int .u64 0), (.int .u64 0), (.int .u64 0)], kind := (.array 20 113) }),
  (134, { agg := false, size := 1, bytes := 4, zero := [(.int .u32 0)], kind := (.int .u32) }),
  (135, { agg := true, size := 65, bytes := 65, zero := [(.int .u8 0), (.int .u8 0), (.int .u8 0), (.int .u8 0), (.int .u8 0), (.int .u8 0), (.int .u8 0), (.int .u8 0), (.int .u8 0), (.int .u8 0), (.int .u8 0), (.int .u8 0), (.int .u8 0), (.int .u8 0), (.int .u8 0), (.int .u8 0), (.int .u8 0), (.int .u8 0), (.int .u8 0), (.int .u8 0), (.int .u8 0), (.int .u8 0), (.int .u8 0), (.int .u8 0), (.int .u8 0), (.int .u8 0), (.int .u8 0), (.int .u8 0), (.int .u8 0), (.int .u8 0), (.int .u8 0), (.int .u8 0), (.int .u8 0), (.int .u8 0), (.int .u8 0), (.int .u8 0), (.int .u8 0), (.int .u8 0), (.int .u8 0), (.int .u8 0), (.int .u8 0), (.int .u8 0), (.int .u8 0), (.int .u8 0), (.int .u8 0), (.int .u8 0), (.int .u8 0), (.int .u8 0), (.int .u8 0), (.int .u8 0), (.int .u8 0), (.int .u8 0), (.int .u8 0), (.int .u8 0), (.int .u8 0), (.int .u8 0), (.int .u8 0), (.int .u8 0), (.int .u8 0), (.int .u8 0), (.int .u8 0), (.int .u8 0), (.int .u8 0), (.int .u8 0), (.int .u8 0)], kind := (.array 65 5) }),
  (136, { agg := false, size := 1, bytes := 8, zero := [.nilFunc], kind := .cell }),
  (137, { agg := true, size := 256, bytes := 256, zero := [(.int .u8 0), (.int .u8 0), (.int .u8 0), (.int .u8 0), (.int .u8 0), (.int .u8 0), (.int .u8 0), (.int .u8 0), (.int .u8 0), (.int .u8 0), (.int .u8 0), (.int .u8 0), (.int .u8 0), (.int .u8 0), (.int .u8 0), (.int .u8 0), (.int .u8 0), (.int .u8 0), (.int .u8 0), (.int .u8 0), (.int .u8 0), (.int .u8 0), (.int .u8 0), (.int .u8 0), (.int .u8 0), (.int .u8 0), (.int .u8 0), (.int .u8 0), (.int .u8 0), (.int .u8 0), (.int .u8 0), (.int .u8 0), (.int .u8 0), (.int .u8 0), (.int .u8 0), (.int .u8 0), (.int .u8 0), (.int .u8 0), (.int .u8 0), (.int .u8 0), (.int .u8 0), (.int .u8 0), (.int .u8 0), (.int .u8 0), (.int .u8 0), (.int .u8 0), (.int .u8 0), (.int .u8 0), (.int .u8 0), (.int .u8 0), (.int .u8 0), (.int .u8 0), (.int .u8 0), (.int .u8 0), (.int .u8 0), (.int .u8 0), (.int .u8 0), (.int .u8 0), (.int .u8 0), (.int .u8 0), (.int .u8 0), (.int .u8 0), (.int .u8 0), (.int .u8 0), (.int .u8 0), (.int .u8 0), (.int .u8 0), (.int .u8 0), (.int .u8 0), (.int .u8 0), (.int .u8 0), (.int .u8 0), (.int .u8 0), (.int .u8 0), (.int .u8 0), (.int .u8 0), (.int .u8 0), (.int .u8 0), (.int .u8 0), (.int .u8 0), (.int .u8 0), (.int .u8 0), (.int .u8 0), (.int .u8 0), (.int .u8 0), (.int .u8 0), (.int .u8 0), (.int .u8 0), (.int .u8 0), (.int .u8 0), (.int .u8 0), (.int .u8 0), (.int .u8 0), (.int .u8 0), (.int .u8 0), (.int .u8 0), (.int .u8 0), (.int .u8 0), (.int .u8 0), (.int .u8 0), (.int .u8 0), (.int .u8 0), (.int .u8 0), (.int .u8 0), (.int .u8 0), (.int .u8 0), (.int .u8 0), (.int .u8 0), (.int .u8 0), (.int .u8 0), (.int .u8 0), (.int .u8 0), (.int .u8 0), (.int .u8 0), (.int .u8 0), (.int .u8 0), (.int .u8 0), (.int .u8 0), (.int .u8 0), (.int .u8 0), (.int .u8 0), (.int .u8 0), (.int .u8 0), (.int .u8 0), (.int .u8 0), (.int .u8 0), (.int .u8 0), (.int .u8 0), (.int .u8 0), (.int .u8 0), (.int .u8 0), (.int .u8 0), (.int .u8 0), (.int .u8 0), (.int .u8 0), (.int .u8 0), (.int .u8 0), (.int .u8 0), (.int .u8 0), (.int .u8 0), (.int .u8 0), (.int .u8 0), (.int .u8 0), (.int .u8 0), (.int .u8 0), (.int .u8 0), (.int .u8 0), (.int .u8 0), (.int .u8 0), (.int .u8 0), (.int .u8 0), (.int .u8 0), (.int .u8 0), (.int .u8 0), (.int .u8 0), (.int .u8 0), (.int .u8 0), (.int .u8 0), (.int .u8 0), (.int .u8 0), (.int .u8 0), (.int .u8 0), (.int .u8 0), (.int .u8 0), (.int .u8 0), (.int .u8 0), (.int .u8 0), (.int .u8 0), (.int .u8 0), (.int .u8 0), (.int .u8 0), (.int .u8 0), (.int .u8 0), (.int .u8 0), (.int .u8 0), (.int .u8 0), (.int .u8 0), (.int .u8 0), (.int .u8 0), (.int .u8 0), (.int .u8 0), (.int .u8 0), (.int .u8 0), (.int .u8 0), (.int .u8 0), (.int .u8 0), (.int .u8 0), (.int .u8 0), (.int .u8 0), (.int .u8 0), (.int .u8 0), (.int .u8 0), (.int .u8 0), (.int .u8 0), (.int .u8 0), (.int .u8 0), (.int .u8 0), (.int .u8 0), (.int .u8 0), (.int .u8 0), (.int .u8 0), (.int .u8 0), (.int .u8 0), (.int .u8 0), (.int .u8 0), (.int .u8 0), (.int .u8 0), (.int .u8 0), (.int .u8 0), (.int .u8 0), (.int .u8 0), (.int .u8 0), (.int .u8 0), (.int .u8 0), (.int .u8 0), (.int .u8 0), (.int .u8 0), (.int .u8 0), (.int .u8 0), (.int .u8 0), (.int .u8 0), (.int .u8 0), (.int .u8 0), (.int .u8 0), (.int .u8 0), (.int .u8 0), (.int .u8 0), (.int .u8 0), (.int .u8 0), (.int .u8 0), (.int .u8 0), (.int .u8 0), (.int .u8 0), (.int .u8 0), (.int .u8 0), (.int .u8 0), (.int .u8 0), (.int .u8 0), (.int .u8 0), (.int .u8 0), (.int .u8 0), (.int .u8 0), (.int .u8 0), (.int .u8 0), (.int .u8 0), (.int .u8 0), (.int .u8 0), (.int .u8 0), (.int .u8 0), (.int .u8 0), (.int .u8 0), (.int .u8 0), (.int .u8 0), (.int .u8 0), (.int .u8 0), (.int .u8 0)], kind := (.array 256 5) }),
  (138, { agg := true, size := 2, bytes := 2, zero := [(.int .u8 0), (.int .u8 0)], kind := (.struct [(0, 1), (1, 1)]) }),
  (139, { agg := true, size := 2, bytes := 2, zero := [(.int .u8 0), (.int .u8 0)], kind := (.struct [(0, 1), (1, 1)]) }),
  (140, { agg := true, size := 32, bytes := 32, zero := [(.int .u8 0), (.int .u8 0), (.int .u8 0), (.int .u8 0), (.int .u8 0), (.int .u8 0), (.int .u8 0), (.int .u8 0), (.int .u8 0), (.int .u8 0), (.int .u8 0), (.int .u8 0), (.int .u8 0), (.int .u8 0), (.int .u8 0), (.int .u8 0), (.int .u8 0), (.int .u8 0), (.int .u8 0), (.int .u8 0), (.int .u8 0), (.int .u8 0), (.int .u8 0), (.int .u8 0), (.int .u8 0), (.int .u8 0), (.int .u8 0), (.int .u8 0), (.int .u8 0), (.int .u8 0), (.int .u8 0), (.int .u8 0)], kind := (.array 16 139) }),
  (141, { agg := false, size := 1, bytes := 8, zero := [.nilFunc], kind := .cell }),
  (142, { agg := true, size := 11, bytes := 176, zero := [(.string ⟨#[]⟩), (.string ⟨#[]⟩), (.string ⟨#[]⟩), (.string ⟨#[]⟩), (.string ⟨#[]⟩), (.string ⟨#[]⟩), (.string ⟨#[]⟩), (.string ⟨#[]⟩), (.string ⟨#[]⟩), (.string ⟨#[]⟩), (.string ⟨#[]⟩)], kind := (.array 11 9) }),
  (143, { agg := false, size := 1, bytes := 8, zero := [.nilFunc], kind := .cell }),
  (145, { agg := false, size := 1, bytes := 8, zero := [.nilFunc], kind := .cell }),
  (146, { agg := true, size := 32, bytes := 32, zero := [(.int .u8 0), (.int .u8 0), (.int .u8 0), (.int .u8 0), (.int .u8 0), (.int .u8 0), (.int .u8 0), (.int .u8 0), (.int .u8 0), (.int .u8 0), (.int .u8 0), (.int .u8 0), (.int .u8 0), (.int .u8 0), (.int .u8 0), (.int .u8 0), (.int .u8 0), (.int .u8 0), (.int .u8 0), (.int .u8 0), (.int .u8 0), (.int .u8 0), (.int .u8 0), (.int .u8 0), (.int .u8 0), (.int .u8 0), (.int .u8 0), (.int .u8 0), (.int .u8 0), (.int .u8 0), (.int .u8 0), (.int .u8 0)], kind := (.array 32 5) }),
  (147, { agg := true, size := 64, bytes := 64, zero := [(.int .u8 0), (.int .u8 0), (.int .u8 0), (.int .u8 0), (.int .u8 0), (.int .u8 0), (.int .u8 0), (.int .u8 0), (.int .u8 0), (.int .u8 0), (.int .u8 0), (.int .u8 0), (.int .u8 0), (.int .u8 0), (.int .u8 0), (.int .u8 0), (.int .u8 0), (.int .u8 0), (.int .u8 0), (.int .u8 0), (.int .u8 0), (.int .u8 0), (.int .u8 0), (.int .u8 0), (.int .u8 0), (.int .u8 0), (.int .u8 0), (.int .u8 0), (.int .u8 0), (.int .u8 0), (.int .u8 0), (.int .u8 0), (.int .u8 0), (.int .u8 0), (.int .u8 0), (.int .u8 0), (.int .u8 0), (.int .u8 0), (.int .u8 0), (.int .u8 0), (.int .u8 0), (.int .u8 0), (.int .u8 0), (.int .u8 0), (.int .u8 0), (.int .u8 0), (.int .u8 0), (.int .u8 0), (.int .u8 0), (.int .u8 0), (.int .u8 0), (.int .u8 0), (.int .u8 0), (.int .u8 0), (.int .u8 0), (.int .u8 0), (.int .u8 0), (.int .u8 0), (.int .u8 0), (.int .u8 0), (.int .u8 0), (.int .u8 0), (.int .u8 0), (.int .u8 0)], kind := (.array 64 5) }),
  (148, { agg := true, size := 4, bytes := 40, zero := [(.pointer none), (.pointer none), (.pointer none), (.string ⟨#[]⟩)], kind := (.struct [(0, 1), (1, 1), (2, 1), (3, 1)]) }),
  (149, { agg := true, size := 4, bytes := 40, zero := [(.pointer none), (.pointer none), (.pointer none), (.string ⟨#[]⟩)], kind := (.struct [(0, 1), (1, 1), (2, 1), (3, 1)]) }),
  (153, { agg := false, size := 1, bytes := 1, zero := [(.int .u8 0)], kind := (.int .u8) }),
  (154, { agg := false, size := 1, bytes := 1, zero := [(.int .u8 0)], kind := (.int .u8) }),
  (155, { agg := false, size := 1, bytes := 8, zero := [.nilFunc], kind := .cell }),
  (156, { agg := false, size := 1, bytes := 4, zero := [(.int .i32 0)], kind := (.int .i32) }),
  (157, { agg := false, size := 1, bytes := 4, zero := [(.int .i32 0)], kind := (.int .i32) }),
  (158, { agg := true, size := 11, bytes := 48, zero := [(.int .u64 0), (.int .u64 0), (.int .u32 0), (.int .u8 0), (.int .u8 0), (.int .u8 0), (.int .u8 0), .nilFunc, (.pointer none), (.int .i32 0), (.int .i32 0)], kind := (.struct [(0, 1), (1, 1), (2, 1), (3, 1), (4, 1), (5, 1), (6, 1), (7, 1), (8, 1), (9, 1), (10, 1)]) }),
  (159, { agg := true, size := 11, bytes := 48, zero := [(.int .u64 0), (.int .u64 0), (.int .u32 0), (.int .u8 0), (.int .u8 0), (.int .u8 0), (.int .u8 0), .nilFunc, (.pointer none), (.int .i32 0), (.int .i32 0)], kind := (.struct [(0, 1), (1, 1), (2, 1), (3, 1), (4, 1), (5, 1), (6, 1), (7, 1), (8, 1), (9, 1), (10, 1)]) })]
theorem tabL_ok : tabCheck Tryz.prog tabL = true := by kernel_rfl
def T : Tab := lookT tabL
theorem hT : TabOk Tryz.prog T := tabCheck_ok tabL_ok
theorem fns_met0 : fnsCheck Tryz.prog 3 11 = true := by kernel_rfl
theorem fns_met1 : fnsCheck Tryz.prog 16 25 = true := by kernel_rfl
theorem fns_met2 : fnsCheck Tryz.prog 26 33 = true := by kernel_rfl
theorem fns_met3 : fnsCheck Tryz.prog 35 36 = true := by kernel_rfl
theorem fns_met4 : fnsCheck Tryz.prog 37 47 = true := by kernel_rfl
theorem fns_met5 : fnsCheck Tryz.prog 52 55 = true := by kernel_rfl
theorem fns_met6 : fnsCheck Tryz.prog 57 64 = true := by kernel_rfl
theorem fns_met7 : fnsCheck Tryz.prog 66 67 = true := by kernel_rfl
theorem fns_met8 : fnsCheck Tryz.prog 68 78 = true := by kernel_rfl
theorem fns_met9 : fnsCheck Tryz.prog 79 80 = true := by kernel_rfl
theorem fns_met10 : fnsCheck Tryz.prog 81 90 = true := by kernel_rfl
theorem fns_met11 : fnsCheck Tryz.prog 92 100 = true := by kernel_rfl
theorem fns_met12 : fnsCheck Tryz.prog 101 103 = true := by kernel_rfl
theorem fns_met13 : fnsCheck Tryz.prog 105 107 = true := by kernel_rfl
theorem fns_met14 : fnsCheck Tryz.prog 108 109 = true := by kernel_rfl
def F : FuncId → Bool := fun g => fnsIn 3 11 g || fnsIn 16 25 g || fnsIn 26 33 g || fnsIn 35 36 g || fnsIn 37 47 g || fnsIn 52 55 g || fnsIn 57 64 g || fnsIn 66 67 g || fnsIn 68 78 g || fnsIn 79 80 g || fnsIn 81 90 g || fnsIn 92 100 g || fnsIn 101 103 g || fnsIn 105 107 g || fnsIn 108 109 g
theorem hF : ∀ g, F g = true → fnOk Tryz.prog g = true := fun g h => by
  simp only [F, Bool.or_eq_true] at h
  rcases h with ((((((((((((((h | h) | h) | h) | h) | h) | h) | h) | h) | h) | h) | h) | h) | h) | h)
  · exact fns_ok fns_met0 g h
  · exact fns_ok fns_met1 g h
  · exact fns_ok fns_met2 g h
  · exact fns_ok fns_met3 g h
  · exact fns_ok fns_met4 g h
  · exact fns_ok fns_met5 g h
  · exact fns_ok fns_met6 g h
  · exact fns_ok fns_met7 g h
  · exact fns_ok fns_met8 g h
  · exact fns_ok fns_met9 g h
  · exact fns_ok fns_met10 g h
  · exact fns_ok fns_met11 g h
  · exact fns_ok fns_met12 g h
  · exact fns_ok fns_met13 g h
  · exact fns_ok fns_met14 g h
end Go.Proofs.YtabjelabdojpkaaGreatDoor
