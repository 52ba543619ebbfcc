/-
  The table of the types of this seat's translation, as the engine asks it, checked by the kernel; printed by a program of ours.
-/
import Derived.Test.YtjlaaanmjaihaaaDoorEng
import Derived.Test.YtjlaaanmjaihaaaDoorProg
import Derived.KernelRfl
namespace Go.Proofs.YtjlaaanmjaihaaaDoor
open Go.Eng

def tabL : List (TypeId × TI) := [
  (1, { agg := false, size := 1, bytes := 8, zero := [.nilFunc], kind := .cell }),
  (2, { agg := false, size := 1, bytes := 8, zero := [(.int .i64 0)], kind := (.int .i64) }),
  (3, { agg := false, size := 1, bytes := 8, zero := [(.int .i64 0)], kind := (.int .i64) }),
  (4, { agg := false, size := 1, bytes := 1, zero := [(.bool false)], kind := .bool }),
  (5, { agg := false, size := 1, bytes := 1, zero := [(.int .u8 0)], kind := (.int .u8) }),
  (6, { agg := false, size := 1, bytes := 1, zero := [(.int .u8 0)], kind := (.int .u8) }),
  (7, { agg := true, size := 4, bytes := 24, zero := [(.int .i64 0), (.int .i64 0), (.bool false), (.int .u8 0)], kind := (.struct [(0, 1), (1, 1), (2, 1), (3, 1)]) }),
  (8, { agg := true, size := 4, bytes := 24, zero := [(.int .i64 0), (.int .i64 0), (.bool false), (.int .u8 0)], kind := (.struct [(0, 1), (1, 1), (2, 1), (3, 1)]) }),
  (9, { agg := false, size := 1, bytes := 16, zero := [(.string ⟨#[]⟩)], kind := .str }),
  (10, { agg := false, size := 1, bytes := 16, zero := [(.string ⟨#[]⟩)], kind := .str }),
  (11, { agg := false, size := 1, bytes := 16, zero := [(.string ⟨#[]⟩)], kind := .str }),
  (12, { agg := false, size := 1, bytes := 8, zero := [(.int .u64 0)], kind := (.int .u64) }),
  (13, { agg := true, size := 2, bytes := 24, zero := [(.string ⟨#[]⟩), (.int .u64 0)], kind := (.struct [(0, 1), (1, 1)]) }),
  (14, { agg := true, size := 2, bytes := 24, zero := [(.string ⟨#[]⟩), (.int .u64 0)], kind := (.struct [(0, 1), (1, 1)]) }),
  (15, { agg := false, size := 1, bytes := 8, zero := [(.pointer none)], kind := .cell }),
  (16, { agg := false, size := 1, bytes := 8, zero := [(.pointer none)], kind := .cell }),
  (17, { agg := false, size := 1, bytes := 8, zero := [(.pointer none)], kind := .cell }),
  (18, { agg := true, size := 1, bytes := 8, zero := [(.pointer none)], kind := (.struct [(0, 1)]) }),
  (19, { agg := true, size := 1, bytes := 8, zero := [(.pointer none)], kind := (.struct [(0, 1)]) }),
  (20, { agg := false, size := 1, bytes := 16, zero := [.nilIface], kind := .iface }),
  (21, { agg := false, size := 1, bytes := 4, zero := [(.int .i32 0)], kind := (.int .i32) }),
  (22, { agg := false, size := 1, bytes := 24, zero := [(.slice none 0 0)], kind := (.slice 30) }),
  (23, { agg := false, size := 1, bytes := 8, zero := [(.int .i64 0)], kind := (.int .i64) }),
  (25, { agg := false, size := 1, bytes := 8, zero := [.nilFunc], kind := .cell }),
  (26, { agg := false, size := 1, bytes := 8, zero := [.nilFunc], kind := .cell }),
  (27, { agg := false, size := 1, bytes := 8, zero := [.nilFunc], kind := .cell }),
  (28, { agg := false, size := 1, bytes := 24, zero := [(.slice none 0 0)], kind := (.slice 9) }),
  (29, { agg := true, size := 2, bytes := 24, zero := [(.int .i64 0), (.string ⟨#[]⟩)], kind := (.struct [(0, 1), (1, 1)]) }),
  (30, { agg := true, size := 2, bytes := 24, zero := [(.int .i64 0), (.string ⟨#[]⟩)], kind := (.struct [(0, 1), (1, 1)]) }),
  (31, { agg := false, size := 1, bytes := 8, zero := [.nilFunc], kind := .cell }),
  (32, { agg := false, size := 1, bytes := 8, zero := [.nilFunc], kind := .cell }),
  (34, { agg := false, size := 1, bytes := 8, zero := [.nilFunc], kind := .cell }),
  (35, { agg := false, size := 1, bytes := 8, zero := [.nilFunc], kind := .cell }),
  (36, { agg := false, size := 1, bytes := 8, zero := [.nilFunc], kind := .cell }),
  (37, { agg := false, size := 1, bytes := 8, zero := [.nilFunc], kind := .cell }),
  (38, { agg := false, size := 1, bytes := 8, zero := [(.pointer none)], kind := .cell }),
  (39, { agg := false, size := 1, bytes := 24, zero := [(.slice none 0 0)], kind := (.slice 5) }),
  (40, { agg := true, size := 2, bytes := 32, zero := [(.pointer none), (.slice none 0 0)], kind := (.struct [(0, 1), (1, 1)]) }),
  (41, { agg := true, size := 2, bytes := 32, zero := [(.pointer none), (.slice none 0 0)], kind := (.struct [(0, 1), (1, 1)]) }),
  (42, { agg := false, size := 1, bytes := 8, zero := [.nilFunc], kind := .cell }),
  (43, { agg := false, size := 1, bytes := 16, zero := [.nilIface], kind := .iface }),
  (44, { agg := false, size := 1, bytes := 16, zero := [.nilIface], kind := .iface }),
  (46, { agg := false, size := 1, bytes := 8, zero := [.nilFunc], kind := .cell }),
  (47, { agg := false, size := 1, bytes := 8, zero := [.nilFunc], kind := .cell }),
  (48, { agg := false, size := 1, bytes := 8, zero := [.nilFunc], kind := .cell }),
  (49, { agg := false, size := 1, bytes := 8, zero := [.nilFunc], kind := .cell }),
  (50, { agg := false, size := 1, bytes := 8, zero := [.nilFunc], kind := .cell }),
  (51, { agg := false, size := 1, bytes := 8, zero := [.nilFunc], kind := .cell }),
  (52, { agg := false, size := 1, bytes := 8, zero := [.nilFunc], kind := .cell }),
  (53, { agg := false, size := 1, bytes := 8, zero := [.nilFunc], kind := .cell }),
  (54, { agg := false, size := 1, bytes := 8, zero := [.nilFunc], kind := .cell }),
  (55, { agg := false, size := 1, bytes := 8, zero := [(.pointer none)], kind := .cell }),
  (56, { agg := false, size := 1, bytes := 8, zero := [.nilFunc], kind := .cell }),
  (57, { agg := false, size := 1, bytes := 8, zero := [.nilFunc], kind := .cell }),
  (58, { agg := false, size := 1, bytes := 8, zero := [.nilFunc], kind := .cell }),
  (60, { agg := false, size := 1, bytes := 8, zero := [.nilFunc], kind := .cell }),
  (61, { agg := false, size := 1, bytes := 8, zero := [.nilFunc], kind := .cell }),
  (62, { agg := false, size := 1, bytes := 8, zero := [(.int .i64 0)], kind := (.int .i64) }),
  (64, { agg := false, size := 1, bytes := 8, zero := [.nilFunc], kind := .cell }),
  (65, { agg := false, size := 1, bytes := 8, zero := [(.pointer none)], kind := .cell }),
  (66, { agg := false, size := 1, bytes := 8, zero := [.nilFunc], kind := .cell }),
  (67, { agg := false, size := 1, bytes := 8, zero := [.nilFunc], kind := .cell }),
  (68, { agg := false, size := 1, bytes := 8, zero := [.nilFunc], kind := .cell }),
  (70, { agg := false, size := 1, bytes := 8, zero := [.nilFunc], kind := .cell }),
  (71, { agg := false, size := 1, bytes := 8, zero := [.nilFunc], kind := .cell }),
  (72, { agg := false, size := 1, bytes := 8, zero := [(.int .u64 0)], kind := (.int .u64) }),
  (74, { agg := false, size := 1, bytes := 8, zero := [.nilFunc], kind := .cell }),
  (75, { agg := false, size := 1, bytes := 8, zero := [(.int .u64 0)], kind := (.int .u64) }),
  (76, { agg := true, size := 3, bytes := 48, zero := [(.string ⟨#[]⟩), (.string ⟨#[]⟩), .nilIface], kind := (.struct [(0, 1), (1, 1), (2, 1)]) }),
  (77, { agg := true, size := 3, bytes := 48, zero := [(.string ⟨#[]⟩), (.string ⟨#[]⟩), .nilIface], kind := (.struct [(0, 1), (1, 1), (2, 1)]) }),
  (78, { agg := false, size := 1, bytes := 8, zero := [.nilFunc], kind := .cell }),
  (79, { agg := true, size := 24, bytes := 24, zero := [(.int .u8 0), (.int .u8 0), (.int .u8 0), (.int .u8 0), (.int .u8 0), (.int .u8 0), (.int .u8 0), (.int .u8 0), (.int .u8 0), (.int .u8 0), (.int .u8 0), (.int .u8 0), (.int .u8 0), (.int .u8 0), (.int .u8 0), (.int .u8 0), (.int .u8 0), (.int .u8 0), (.int .u8 0), (.int .u8 0), (.int .u8 0), (.int .u8 0), (.int .u8 0), (.int .u8 0)], kind := (.array 24 5) }),
  (80, { agg := false, size := 1, bytes := 8, zero := [.nilFunc], kind := .cell }),
  (81, { agg := false, size := 1, bytes := 8, zero := [.nilFunc], kind := .cell }),
  (83, { agg := false, size := 1, bytes := 8, zero := [.nilFunc], kind := .cell }),
  (84, { agg := false, size := 1, bytes := 8, zero := [.nilFunc], kind := .cell }),
  (85, { agg := false, size := 1, bytes := 8, zero := [(.pointer none)], kind := .cell }),
  (86, { agg := true, size := 1, bytes := 16, zero := [(.string ⟨#[]⟩)], kind := (.struct [(0, 1)]) }),
  (87, { agg := true, size := 1, bytes := 16, zero := [(.string ⟨#[]⟩)], kind := (.struct [(0, 1)]) }),
  (88, { agg := false, size := 1, bytes := 8, zero := [.nilFunc], kind := .cell }),
  (89, { agg := false, size := 1, bytes := 8, zero := [.nilFunc], kind := .cell }),
  (90, { agg := true, size := 20, bytes := 160, zero := [(.int .u64 0), (.int .u64 0), (.int .u64 0), (.int .u64 0), (.int .u64 0), (.int .u64 0), (.int .u64 0), (.int .u64 0), (.int .u64 0), (.int .u64 0), (.int .u64 0), (.int .u64 0), (.int .u64 0), (.int .u64 0), (.int .u64 0), (.int .u64 0), (.int .u64 0), (.int .u64 0), (.int .u64 0), (.int .u64 0)], kind := (.array 20 72) }),
  (91, { agg := false, size := 1, bytes := 4, zero := [(.int .u32 0)], kind := (.int .u32) }),
  (92, { agg := true, size := 65, bytes := 65, zero := [(.int .u8 0), (.int .u8 0), (.int .u8 0), (.int .u8 0), (.int .u8 0), (.int .u8 0), (.int .u8 0), (.int .u8 0), (.int .u8 0), (.int .u8 0), (.int .u8 0), (.int .u8 0), (.int .u8 0), (.int .u8 0), (.int .u8 0), (.int .u8 0), (.int .u8 0), (.int .u8 0), (.int .u8 0), (.int .u8 0), (.int .u8 0), (.int .u8 0), (.int .u8 0), (.int .u8 0), (.int .u8 0), (.int .u8 0), (.int .u8 0), (.int .u8 0), (.int .u8 0), (.int .u8 0), (.int .u8 0), (.int .u8 0), (.int .u8 0), (.int .u8 0), (.int .u8 0), (.int .u8 0), (.int .u8 0), (.int .u8 0), (.int .u8 0), (.int .u8 0), (.int .u8 0), (.int .u8 0), (.int .u8 0), (.int .u8 0), (.int .u8 0), (.int .u8 0), (.int .u8 0), (.int .u8 0), (.int .u8 0), (.int .u8 0), (.int .u8 0), (.int .u8 0), (.int .u8 0), (.int .u8 0), (.int .u8 0), (.int .u8 0), (.int .u8 0), (.int .u8 0), (.int .u8 0), (.int .u8 0), (.int .u8 0), (.int .u8 0), (.int .u8 0), (.int .u8 0), (.int .u8 0)], kind := (.array 65 5) }),
  (93, { agg := false, size := 1, bytes := 8, zero := [.nilFunc], kind := .cell }),
  (94, { agg := true, size := 256, bytes := 256, zero := [(.int .u8 0), (.int .u8 0), (.int .u8 0), (.int .u8 0), (.int .u8 0), (.int .u8 0), (.int .u8 0), (.int .u8 0), (.int .u8 0), (.int .u8 0), (.int .u8 0), (.int .u8 0), (.int .u8 0), (.int .u8 0), (.int .u8 0), (.int .u8 0), (.int .u8 0), (.int .u8 0), (.int .u8 0), (.int .u8 0), (.int .u8 0), (.int .u8 0), (.int .u8 0), (.int .u8 0), (.int .u8 0), (.int .u8 0), (.int .u8 0), (.int .u8 0), (.int .u8 0), (.int .u8 0), (.int .u8 0), (.int .u8 0), (.int .u8 0), (.int .u8 0), (.int .u8 0), (.int .u8 0), (.int .u8 0), (.int .u8 0), (.int .u8 0), (.int .u8 0), (.int .u8 0), (.int .u8 0), (.int .u8 0), (.int .u8 0), (.int .u8 0), (.int .u8 0), (.int .u8 0), (.int .u8 0), (.int .u8 0), (.int .u8 0), (.int .u8 0), (.int .u8 0), (.int .u8 0), (.int .u8 0), (.int .u8 0), (.int .u8 0), (.int .u8 0), (.int .u8 0), (.int .u8 0), (.int .u8 0), (.int .u8 0), (.int .u8 0), (.int .u8 0), (.int .u8 0), (.int .u8 0), (.int .u8 0), (.int .u8 0), (.int .u8 0), (.int .u8 0), (.int .u8 0), (.int .u8 0), (.int .u8 0), (.int .u8 0), (.int .u8 0), (.int .u8 0), (.int .u8 0), (.int .u8 0), (.int .u8 0), (.int .u8 0), (.int .u8 0), (.int .u8 0), (.int .u8 0), (.int .u8 0), (.int .u8 0), (.int .u8 0), (.int .u8 0), (.int .u8 0), (.int .u8 0), (.int .u8 0), (.int .u8 0), (.int .u8 0), (.int .u8 0), (.int .u8 0), (.int .u8 0), (.int .u8 0), (.int .u8 0), (.int .u8 0), (.int .u8 0), (.int .u8 0), (.int .u8 0), (.int .u8 0), (.int .u8 0), (.int .u8 0), (.int .u8 0), (.int .u8 0), (.int .u8 0), (.int .u8 0), (.int .u8 0), (.int .u8 0), (.int .u8 0), (.int .u8 0), (.int .u8 0), (.int .u8 0), (.int .u8 0), (.int .u8 0), (.int .u8 0), (.int .u8 0), (.int .u8 0), (.int .u8 0), (.int .u8 0), (.int .u8 0), (.int .u8 0), (.int .u8 0), (.int .u8 0), (.int .u8 0), (.int .u8 0), (.int .u8 0), (.int .u8 0), (.int .u8 0), (.int .u8 0), (.int .u8 0), (.int .u8 0), (.int .u8 0), (.int .u8 0), (.int .u8 0), (.int .u8 0), (.int .u8 0), (.int .u8 0), (.int .u8 0), (.int .u8 0), (.int .u8 0), (.int .u8 0), (.int .u8 0), (.int .u8 0), (.int .u8 0), (.int .u8 0), (.int .u8 0), (.int .u8 0), (.int .u8 0), (.int .u8 0), (.int .u8 0), (.int .u8 0), (.int .u8 0), (.int .u8 0), (.int .u8 0), (.int .u8 0), (.int .u8 0), (.int .u8 0), (.int .u8 0), (.int .u8 0), (.int .u8 0), (.int .u8 0), (.int .u8 0), (.int .u8 0), (.int .u8 0), (.int .u8 0), (.int .u8 0), (.int .u8 0), (.int .u8 0), (.int .u8 0), (.int .u8 0), (.int .u8 0), (.int .u8 0), (.int .u8 0), (.int .u8 0), (.int .u8 0), (.int .u8 0), (.int .u8 0), (.int .u8 0), (.int .u8 0), (.int .u8 0), (.int .u8 0), (.int .u8 0), (.int .u8 0), (.int .u8 0), (.int .u8 0), (.int .u8 0), (.int .u8 0), (.int .u8 0), (.int .u8 0), (.int .u8 0), (.int .u8 0), (.int .u8 0), (.int .u8 0), (.int .u8 0), (.int .u8 0), (.int .u8 0), (.int .u8 0), (.int .u8 0), (.int .u8 0), (.int .u8 0), (.int .u8 0), (.int .u8 0), (.int .u8 0), (.int .u8 0), (.int .u8 0), (.int .u8 0), (.int .u8 0), (.int .u8 0), (.int .u8 0), (.int .u8 0), (.int .u8 0), (.int .u8 0), (.int .u8 0), (.int .u8 0), (.int .u8 0), (.int .u8 0), (.int .u8 0), (.int .u8 0), (.int .u8 0), (.int .u8 0), (.int .u8 0), (.int .u8 0), (.int .u8 0), (.int .u8 0), (.int .u8 0), (.int .u8 0), (.int .u8 0), (.int .u8 0), (.int .u8 0), (.int .u8 0), (.int .u8 0), (.int .u8 0), (.int .u8 0), (.int .u8 0), (.int .u8 0), (.int .u8 0), (.int .u8 0), (.int .u8 0), (.int .u8 0), (.int .u8 0), (.int .u8 0), (.int .u8 0), (.int .u8 0), (.int .u8 0), (.int .u8 0), (.int .u8 0), (.int .u8 0), (.int .u8 0), (.int .u8 0), (.int .u8 0), (.int .u8 0), (.int .u8 0), (.int .u8 0), (.int .u8 0), (.int .u8 0)], kind := (.array 256 5) }),
  (95, { agg := true, size := 2, bytes := 2, zero := [(.int .u8 0), (.int .u8 0)], kind := (.struct [(0, 1), (1, 1)]) }),
  (96, { agg := true, size := 2, bytes := 2, zero := [(.int .u8 0), (.int .u8 0)], kind := (.struct [(0, 1), (1, 1)]) }),
  (97, { agg := true, size := 32, bytes := 32, zero := [(.int .u8 0), (.int .u8 0), (.int .u8 0), (.int .u8 0), (.int .u8 0), (.int .u8 0), (.int .u8 0), (.int .u8 0), (.int .u8 0), (.int .u8 0), (.int .u8 0), (.int .u8 0), (.int .u8 0), (.int .u8 0), (.int .u8 0), (.int .u8 0), (.int .u8 0), (.int .u8 0), (.int .u8 0), (.int .u8 0), (.int .u8 0), (.int .u8 0), (.int .u8 0), (.int .u8 0), (.int .u8 0), (.int .u8 0), (.int .u8 0), (.int .u8 0), (.int .u8 0), (.int .u8 0), (.int .u8 0), (.int .u8 0)], kind := (.array 16 96) }),
  (98, { agg := false, size := 1, bytes := 8, zero := [.nilFunc], kind := .cell }),
  (99, { agg := false, size := 1, bytes := 8, zero := [.nilFunc], kind := .cell }),
  (101, { agg := false, size := 1, bytes := 8, zero := [.nilFunc], kind := .cell }),
  (102, { agg := true, size := 32, bytes := 32, zero := [(.int .u8 0), (.int .u8 0), (.int .u8 0), (.int .u8 0), (.int .u8 0), (.int .u8 0), (.int .u8 0), (.int .u8 0), (.int .u8 0), (.int .u8 0), (.int .u8 0), (.int .u8 0), (.int .u8 0), (.int .u8 0), (.int .u8 0), (.int .u8 0), (.int .u8 0), (.int .u8 0), (.int .u8 0), (.int .u8 0), (.int .u8 0), (.int .u8 0), (.int .u8 0), (.int .u8 0), (.int .u8 0), (.int .u8 0), (.int .u8 0), (.int .u8 0), (.int .u8 0), (.int .u8 0), (.int .u8 0), (.int .u8 0)], kind := (.array 32 5) }),
  (103, { agg := true, size := 64, bytes := 64, zero := [(.int .u8 0), (.int .u8 0), (.int .u8 0), (.int .u8 0), (.int .u8 0), (.int .u8 0), (.int .u8 0), (.int .u8 0), (.int .u8 0), (.int .u8 0), (.int .u8 0), (.int .u8 0), (.int .u8 0), (.int .u8 0), (.int .u8 0), (.int .u8 0), (.int .u8 0), (.int .u8 0), (.int .u8 0), (.int .u8 0), (.int .u8 0), (.int .u8 0), (.int .u8 0), (.int .u8 0), (.int .u8 0), (.int .u8 0), (.int .u8 0), (.int .u8 0), (.int .u8 0), (.int .u8 0), (.int .u8 0), (.int .u8 0), (.int .u8 0), (.int .u8 0), (.int .u8 0), (.int .u8 0), (.int .u8 0), (.int .u8 0), (.int .u8 0), (.int .u8 0), (.int .u8 0), (.int .u8 0), (.int .u8 0), (.int .u8 0), (.int .u8 0), (.int .u8 0), (.int .u8 0), (.int .u8 0), (.int .u8 0), (.int .u8 0), (.int .u8 0), (.int .u8 0), (.int .u8 0), (.int .u8 0), (.int .u8 0), (.int .u8 0), (.int .u8 0), (.int .u8 0), (.int .u8 0), (.int .u8 0), (.int .u8 0), (.int .u8 0), (.int .u8 0), (.int .u8 0)], kind := (.array 64 5) }),
  (104, { agg := true, size := 4, bytes := 40, zero := [(.pointer none), (.pointer none), (.pointer none), (.string ⟨#[]⟩)], kind := (.struct [(0, 1), (1, 1), (2, 1), (3, 1)]) }),
  (105, { agg := true, size := 4, bytes := 40, zero := [(.pointer none), (.pointer none), (.pointer none), (.string ⟨#[]⟩)], kind := (.struct [(0, 1), (1, 1), (2, 1), (3, 1)]) }),
  (109, { agg := false, size := 1, bytes := 8, zero := [.nilFunc], kind := .cell }),
  (110, { agg := false, size := 1, bytes := 1, zero := [(.int .u8 0)], kind := (.int .u8) }),
  (111, { agg := false, size := 1, bytes := 1, zero := [(.int .u8 0)], kind := (.int .u8) }),
  (112, { agg := false, size := 1, bytes := 8, zero := [.nilFunc], kind := .cell }),
  (113, { agg := false, size := 1, bytes := 4, zero := [(.int .i32 0)], kind := (.int .i32) }),
  (114, { agg := false, size := 1, bytes := 4, zero := [(.int .i32 0)], kind := (.int .i32) }),
  (115, { agg := true, size := 11, bytes := 48, zero := [(.int .u64 0), (.int .u64 0), (.int .u32 0), (.int .u8 0), (.int .u8 0), (.int .u8 0), (.int .u8 0), .nilFunc, (.pointer none), (.int .i32 0), (.int .i32 0)], kind := (.struct [(0, 1), (1, 1), (2, 1), (3, 1), (4, 1), (5, 1), (6, 1), (7, 1), (8, 1), (9, 1), (10, 1)]) }),
  (116, { agg := true, size := 11, bytes := 48, zero := [(.int .u64 0), (.int .u64 0), (.int .u32 0), (.int .u8 0), (.int .u8 0), (.int .u8 0), (.int .u8 0), .nilFunc, (.pointer none), (.int .i32 0), (.int .i32 0)], kind := (.struct [(0, 1), (1, 1), (2, 1), (3, 1), (4, 1), (5, 1), (6, 1), (7, 1), (8, 1), (9, 1), (10, 1)]) })]
theorem tabL_ok : tabCheck Tryd.prog tabL = true := by kernel_rfl
def T : Tab := lookT tabL
theorem hT : TabOk Tryd.prog T := tabCheck_ok tabL_ok
theorem fns_met0 : fnsCheck Tryd.prog 3 37 = true := by kernel_rfl
theorem fns_met1 : fnsCheck Tryd.prog 39 65 = true := by kernel_rfl
theorem fns_met2 : fnsCheck Tryd.prog 66 70 = true := by kernel_rfl
theorem fns_met3 : fnsCheck Tryd.prog 71 72 = true := by kernel_rfl
def F : FuncId → Bool := fun g => fnsIn 3 37 g || fnsIn 39 65 g || fnsIn 66 70 g || fnsIn 71 72 g
theorem hF : ∀ g, F g = true → fnOk Tryd.prog g = true := fun g h => by
  simp only [F, Bool.or_eq_true] at h
  rcases h with (((h | h) | h) | h)
  · exact fns_ok fns_met0 g h
  · exact fns_ok fns_met1 g h
  · exact fns_ok fns_met2 g h
  · exact fns_ok fns_met3 g h
end Go.Proofs.YtjlaaanmjaihaaaDoor
