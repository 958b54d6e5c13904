/- The table of types of this program, and the setting of the walks. -/
import Derived.Test.YtmedhhjbknnfkaaVL21
import Derived.Test.YtmedhhjbknnfkaaProg
import Derived.Eval
set_option maxRecDepth 100000
namespace Go.Proofs.Ytmedhhjbknnfkaa.V
open Go Go.VL

def tab : List (TypeId × TI) := [
  (1, ⟨.func, 1, 8, [.nilf]⟩),
  (2, ⟨.int .i64, 1, 8, [.int .i64 0]⟩),
  (3, ⟨.int .i64, 1, 8, [.int .i64 0]⟩),
  (4, ⟨.bool, 1, 1, [.bool false]⟩),
  (5, ⟨.int .u8, 1, 1, [.int .u8 0]⟩),
  (6, ⟨.int .u8, 1, 1, [.int .u8 0]⟩),
  (7, ⟨.struct [(0, 2, 1), (1, 3, 1), (2, 4, 1), (3, 6, 1)], 4, 24, [.int .i64 0, .int .i64 0, .bool false, .int .u8 0]⟩),
  (8, ⟨.struct [(0, 2, 1), (1, 3, 1), (2, 4, 1), (3, 6, 1)], 4, 24, [.int .i64 0, .int .i64 0, .bool false, .int .u8 0]⟩),
  (9, ⟨.str, 1, 16, [.str ⟨#[]⟩]⟩),
  (10, ⟨.str, 1, 16, [.str ⟨#[]⟩]⟩),
  (11, ⟨.str, 1, 16, [.str ⟨#[]⟩]⟩),
  (12, ⟨.int .u64, 1, 8, [.int .u64 0]⟩),
  (13, ⟨.struct [(0, 9, 1), (1, 12, 1)], 2, 24, [.str ⟨#[]⟩, .int .u64 0]⟩),
  (14, ⟨.struct [(0, 9, 1), (1, 12, 1)], 2, 24, [.str ⟨#[]⟩, .int .u64 0]⟩),
  (15, ⟨.ptr, 1, 8, [.nilp]⟩),
  (16, ⟨.ptr, 1, 8, [.nilp]⟩),
  (17, ⟨.ptr, 1, 8, [.nilp]⟩),
  (18, ⟨.struct [(0, 17, 1)], 1, 8, [.nilp]⟩),
  (19, ⟨.struct [(0, 17, 1)], 1, 8, [.nilp]⟩),
  (20, ⟨.iface, 1, 16, [.nili]⟩),
  (21, ⟨.int .i32, 1, 4, [.int .i32 0]⟩),
  (22, ⟨.slice 27, 1, 24, [.sl .no 3 []]⟩),
  (23, ⟨.func, 1, 8, [.nilf]⟩),
  (24, ⟨.func, 1, 8, [.nilf]⟩),
  (25, ⟨.slice 29, 1, 24, [.sl .no 2 []]⟩),
  (26, ⟨.struct [(0, 3, 1), (1, 9, 1), (2, 9, 1)], 3, 40, [.int .i64 0, .str ⟨#[]⟩, .str ⟨#[]⟩]⟩),
  (27, ⟨.struct [(0, 3, 1), (1, 9, 1), (2, 9, 1)], 3, 40, [.int .i64 0, .str ⟨#[]⟩, .str ⟨#[]⟩]⟩),
  (28, ⟨.struct [(0, 9, 1), (1, 9, 1)], 2, 32, [.str ⟨#[]⟩, .str ⟨#[]⟩]⟩),
  (29, ⟨.struct [(0, 9, 1), (1, 9, 1)], 2, 32, [.str ⟨#[]⟩, .str ⟨#[]⟩]⟩),
  (30, ⟨.func, 1, 8, [.nilf]⟩),
  (31, ⟨.ptr, 1, 8, [.nilp]⟩),
  (32, ⟨.func, 1, 8, [.nilf]⟩),
  (33, ⟨.slice 29, 1, 24, [.sl .no 2 []]⟩),
  (34, ⟨.func, 1, 8, [.nilf]⟩),
  (35, ⟨.func, 1, 8, [.nilf]⟩),
  (36, ⟨.func, 1, 8, [.nilf]⟩),
  (37, ⟨.func, 1, 8, [.nilf]⟩),
  (38, ⟨.func, 1, 8, [.nilf]⟩),
  (40, ⟨.func, 1, 8, [.nilf]⟩),
  (41, ⟨.func, 1, 8, [.nilf]⟩),
  (42, ⟨.func, 1, 8, [.nilf]⟩),
  (43, ⟨.func, 1, 8, [.nilf]⟩),
  (44, ⟨.func, 1, 8, [.nilf]⟩),
  (45, ⟨.func, 1, 8, [.nilf]⟩),
  (46, ⟨.func, 1, 8, [.nilf]⟩),
  (47, ⟨.slice 51, 1, 24, [.sl .no 6 []]⟩),
  (48, ⟨.func, 1, 8, [.nilf]⟩),
  (49, ⟨.func, 1, 8, [.nilf]⟩),
  (50, ⟨.struct [(0, 3, 1), (1, 9, 1), (2, 4, 1), (3, 9, 1), (4, 4, 1), (5, 9, 1)], 6, 72, [.int .i64 0, .str ⟨#[]⟩, .bool false, .str ⟨#[]⟩, .bool false, .str ⟨#[]⟩]⟩),
  (51, ⟨.struct [(0, 3, 1), (1, 9, 1), (2, 4, 1), (3, 9, 1), (4, 4, 1), (5, 9, 1)], 6, 72, [.int .i64 0, .str ⟨#[]⟩, .bool false, .str ⟨#[]⟩, .bool false, .str ⟨#[]⟩]⟩),
  (52, ⟨.func, 1, 8, [.nilf]⟩),
  (53, ⟨.func, 1, 8, [.nilf]⟩),
  (54, ⟨.func, 1, 8, [.nilf]⟩),
  (55, ⟨.func, 1, 8, [.nilf]⟩),
  (57, ⟨.func, 1, 8, [.nilf]⟩),
  (58, ⟨.func, 1, 8, [.nilf]⟩),
  (59, ⟨.func, 1, 8, [.nilf]⟩),
  (60, ⟨.func, 1, 8, [.nilf]⟩),
  (61, ⟨.func, 1, 8, [.nilf]⟩),
  (63, ⟨.func, 1, 8, [.nilf]⟩),
  (64, ⟨.func, 1, 8, [.nilf]⟩),
  (66, ⟨.func, 1, 8, [.nilf]⟩),
  (68, ⟨.func, 1, 8, [.nilf]⟩),
  (70, ⟨.func, 1, 8, [.nilf]⟩),
  (71, ⟨.func, 1, 8, [.nilf]⟩),
  (73, ⟨.func, 1, 8, [.nilf]⟩),
  (74, ⟨.func, 1, 8, [.nilf]⟩),
  (75, ⟨.func, 1, 8, [.nilf]⟩),
  (76, ⟨.ptr, 1, 8, [.nilp]⟩),
  (77, ⟨.struct [(0, 76, 1)], 1, 8, [.nilp]⟩),
  (78, ⟨.struct [(0, 76, 1)], 1, 8, [.nilp]⟩),
  (79, ⟨.slice 31, 1, 24, [.sl .no 1 []]⟩),
  (80, ⟨.func, 1, 8, [.nilf]⟩),
  (81, ⟨.func, 1, 8, [.nilf]⟩),
  (82, ⟨.slice 22, 1, 24, [.sl .no 1 []]⟩),
  (83, ⟨.func, 1, 8, [.nilf]⟩),
  (84, ⟨.func, 1, 8, [.nilf]⟩),
  (85, ⟨.func, 1, 8, [.nilf]⟩),
  (86, ⟨.func, 1, 8, [.nilf]⟩),
  (87, ⟨.func, 1, 8, [.nilf]⟩),
  (88, ⟨.func, 1, 8, [.nilf]⟩),
  (89, ⟨.struct [(0, 29, 2), (2, 76, 1), (3, 76, 1), (4, 3, 1), (5, 3, 1)], 6, 64, [.str ⟨#[]⟩, .str ⟨#[]⟩, .nilp, .nilp, .int .i64 0, .int .i64 0]⟩),
  (90, ⟨.struct [(0, 29, 2), (2, 76, 1), (3, 76, 1), (4, 3, 1), (5, 3, 1)], 6, 64, [.str ⟨#[]⟩, .str ⟨#[]⟩, .nilp, .nilp, .int .i64 0, .int .i64 0]⟩),
  (92, ⟨.func, 1, 8, [.nilf]⟩),
  (93, ⟨.func, 1, 8, [.nilf]⟩),
  (94, ⟨.func, 1, 8, [.nilf]⟩),
  (96, ⟨.func, 1, 8, [.nilf]⟩),
  (97, ⟨.func, 1, 8, [.nilf]⟩),
  (98, ⟨.func, 1, 8, [.nilf]⟩),
  (99, ⟨.struct [(0, 17, 1), (1, 17, 1), (2, 17, 1), (3, 9, 1)], 4, 40, [.nilp, .nilp, .nilp, .str ⟨#[]⟩]⟩),
  (100, ⟨.struct [(0, 17, 1), (1, 17, 1), (2, 17, 1), (3, 9, 1)], 4, 40, [.nilp, .nilp, .nilp, .str ⟨#[]⟩]⟩),
  (101, ⟨.array 0 16, 0, 0, []⟩),
  (102, ⟨.struct [(0, 101, 0)], 0, 0, []⟩),
  (103, ⟨.struct [(0, 101, 0)], 0, 0, []⟩),
  (104, ⟨.int .u32, 1, 4, [.int .u32 0]⟩),
  (105, ⟨.int .u8, 1, 1, [.int .u8 0]⟩),
  (106, ⟨.int .u8, 1, 1, [.int .u8 0]⟩),
  (107, ⟨.func, 1, 8, [.nilf]⟩),
  (108, ⟨.ptr, 1, 8, [.nilp]⟩),
  (109, ⟨.int .i32, 1, 4, [.int .i32 0]⟩),
  (110, ⟨.int .i32, 1, 4, [.int .i32 0]⟩),
  (111, ⟨.struct [(0, 12, 1), (1, 12, 1), (2, 104, 1), (3, 105, 1), (4, 5, 1), (5, 5, 1), (6, 106, 1), (7, 107, 1), (8, 108, 1), (9, 109, 1), (10, 110, 1)], 11, 48, [.int .u64 0, .int .u64 0, .int .u32 0, .int .u8 0, .int .u8 0, .int .u8 0, .int .u8 0, .nilf, .nilp, .int .i32 0, .int .i32 0]⟩),
  (112, ⟨.struct [(0, 12, 1), (1, 12, 1), (2, 104, 1), (3, 105, 1), (4, 5, 1), (5, 5, 1), (6, 106, 1), (7, 107, 1), (8, 108, 1), (9, 109, 1), (10, 110, 1)], 11, 48, [.int .u64 0, .int .u64 0, .int .u32 0, .int .u8 0, .int .u8 0, .int .u8 0, .int .u8 0, .nilf, .nilp, .int .i32 0, .int .i32 0]⟩)]
set_option maxHeartbeats 4000000 in
theorem tab_ok : (tab.all fun x => tib Try.prog x.1 x.2) = true := by kernel_rfl
theorem mixed : Try.prog.follows .mixedOrders = true := by kernel_rfl
def eqTs : List TypeId := [27, 29, 51]
def ptTs : List TypeId := [15, 17, 31, 76, 108]
theorem eqTs_ok : (eqTs.all (eqb Try.prog)) = true := by kernel_rfl
theorem ptTs_ok : (ptTs.all (ptb Try.prog)) = true := by kernel_rfl
def TT (t : TypeId) : Option TI := lookT tab t
noncomputable def C : Ctx := ⟨Try.prog, TT, lookT_ok tab tab_ok, mixed, eqTs.elem, fun t h => eqb_ok (all_ok _ eqTs_ok t h), ptTs.elem, fun t h => ptb_ok (all_ok _ ptTs_ok t h)⟩
theorem E27 : C.E 27 = true := rfl
theorem E29 : C.E 29 = true := rfl
theorem E51 : C.E 51 = true := rfl
theorem Z15 : C.Z 15 = true := rfl
theorem Z17 : C.Z 17 = true := rfl
theorem Z31 : C.Z 31 = true := rfl
theorem Z76 : C.Z 76 = true := rfl
theorem Z108 : C.Z 108 = true := rfl
theorem CT (t : TypeId) : C.T t = TT t := rfl
theorem CP : C.P = Try.prog := rfl
theorem T1 : TT 1 = some ⟨.func, 1, 8, [.nilf]⟩ := rfl
theorem T2 : TT 2 = some ⟨.int .i64, 1, 8, [.int .i64 0]⟩ := rfl
theorem T3 : TT 3 = some ⟨.int .i64, 1, 8, [.int .i64 0]⟩ := rfl
theorem T4 : TT 4 = some ⟨.bool, 1, 1, [.bool false]⟩ := rfl
theorem T5 : TT 5 = some ⟨.int .u8, 1, 1, [.int .u8 0]⟩ := rfl
theorem T6 : TT 6 = some ⟨.int .u8, 1, 1, [.int .u8 0]⟩ := rfl
theorem T7 : TT 7 = some ⟨.struct [(0, 2, 1), (1, 3, 1), (2, 4, 1), (3, 6, 1)], 4, 24, [.int .i64 0, .int .i64 0, .bool false, .int .u8 0]⟩ := rfl
theorem T8 : TT 8 = some ⟨.struct [(0, 2, 1), (1, 3, 1), (2, 4, 1), (3, 6, 1)], 4, 24, [.int .i64 0, .int .i64 0, .bool false, .int .u8 0]⟩ := rfl
theorem T9 : TT 9 = some ⟨.str, 1, 16, [.str ⟨#[]⟩]⟩ := rfl
theorem T10 : TT 10 = some ⟨.str, 1, 16, [.str ⟨#[]⟩]⟩ := rfl
theorem T11 : TT 11 = some ⟨.str, 1, 16, [.str ⟨#[]⟩]⟩ := rfl
theorem T12 : TT 12 = some ⟨.int .u64, 1, 8, [.int .u64 0]⟩ := rfl
theorem T13 : TT 13 = some ⟨.struct [(0, 9, 1), (1, 12, 1)], 2, 24, [.str ⟨#[]⟩, .int .u64 0]⟩ := rfl
theorem T14 : TT 14 = some ⟨.struct [(0, 9, 1), (1, 12, 1)], 2, 24, [.str ⟨#[]⟩, .int .u64 0]⟩ := rfl
theorem T15 : TT 15 = some ⟨.ptr, 1, 8, [.nilp]⟩ := rfl
theorem T16 : TT 16 = some ⟨.ptr, 1, 8, [.nilp]⟩ := rfl
theorem T17 : TT 17 = some ⟨.ptr, 1, 8, [.nilp]⟩ := rfl
theorem T18 : TT 18 = some ⟨.struct [(0, 17, 1)], 1, 8, [.nilp]⟩ := rfl
theorem T19 : TT 19 = some ⟨.struct [(0, 17, 1)], 1, 8, [.nilp]⟩ := rfl
theorem T20 : TT 20 = some ⟨.iface, 1, 16, [.nili]⟩ := rfl
theorem T21 : TT 21 = some ⟨.int .i32, 1, 4, [.int .i32 0]⟩ := rfl
theorem T22 : TT 22 = some ⟨.slice 27, 1, 24, [.sl .no 3 []]⟩ := rfl
theorem T23 : TT 23 = some ⟨.func, 1, 8, [.nilf]⟩ := rfl
theorem T24 : TT 24 = some ⟨.func, 1, 8, [.nilf]⟩ := rfl
theorem T25 : TT 25 = some ⟨.slice 29, 1, 24, [.sl .no 2 []]⟩ := rfl
theorem T26 : TT 26 = some ⟨.struct [(0, 3, 1), (1, 9, 1), (2, 9, 1)], 3, 40, [.int .i64 0, .str ⟨#[]⟩, .str ⟨#[]⟩]⟩ := rfl
theorem T27 : TT 27 = some ⟨.struct [(0, 3, 1), (1, 9, 1), (2, 9, 1)], 3, 40, [.int .i64 0, .str ⟨#[]⟩, .str ⟨#[]⟩]⟩ := rfl
theorem T28 : TT 28 = some ⟨.struct [(0, 9, 1), (1, 9, 1)], 2, 32, [.str ⟨#[]⟩, .str ⟨#[]⟩]⟩ := rfl
theorem T29 : TT 29 = some ⟨.struct [(0, 9, 1), (1, 9, 1)], 2, 32, [.str ⟨#[]⟩, .str ⟨#[]⟩]⟩ := rfl
theorem T30 : TT 30 = some ⟨.func, 1, 8, [.nilf]⟩ := rfl
theorem T31 : TT 31 = some ⟨.ptr, 1, 8, [.nilp]⟩ := rfl
theorem T32 : TT 32 = some ⟨.func, 1, 8, [.nilf]⟩ := rfl
theorem T33 : TT 33 = some ⟨.slice 29, 1, 24, [.sl .no 2 []]⟩ := rfl
theorem T34 : TT 34 = some ⟨.func, 1, 8, [.nilf]⟩ := rfl
theorem T35 : TT 35 = some ⟨.func, 1, 8, [.nilf]⟩ := rfl
theorem T36 : TT 36 = some ⟨.func, 1, 8, [.nilf]⟩ := rfl
theorem T37 : TT 37 = some ⟨.func, 1, 8, [.nilf]⟩ := rfl
theorem T38 : TT 38 = some ⟨.func, 1, 8, [.nilf]⟩ := rfl
theorem T40 : TT 40 = some ⟨.func, 1, 8, [.nilf]⟩ := rfl
theorem T41 : TT 41 = some ⟨.func, 1, 8, [.nilf]⟩ := rfl
theorem T42 : TT 42 = some ⟨.func, 1, 8, [.nilf]⟩ := rfl
theorem T43 : TT 43 = some ⟨.func, 1, 8, [.nilf]⟩ := rfl
theorem T44 : TT 44 = some ⟨.func, 1, 8, [.nilf]⟩ := rfl
theorem T45 : TT 45 = some ⟨.func, 1, 8, [.nilf]⟩ := rfl
theorem T46 : TT 46 = some ⟨.func, 1, 8, [.nilf]⟩ := rfl
theorem T47 : TT 47 = some ⟨.slice 51, 1, 24, [.sl .no 6 []]⟩ := rfl
theorem T48 : TT 48 = some ⟨.func, 1, 8, [.nilf]⟩ := rfl
theorem T49 : TT 49 = some ⟨.func, 1, 8, [.nilf]⟩ := rfl
theorem T50 : TT 50 = some ⟨.struct [(0, 3, 1), (1, 9, 1), (2, 4, 1), (3, 9, 1), (4, 4, 1), (5, 9, 1)], 6, 72, [.int .i64 0, .str ⟨#[]⟩, .bool false, .str ⟨#[]⟩, .bool false, .str ⟨#[]⟩]⟩ := rfl
theorem T51 : TT 51 = some ⟨.struct [(0, 3, 1), (1, 9, 1), (2, 4, 1), (3, 9, 1), (4, 4, 1), (5, 9, 1)], 6, 72, [.int .i64 0, .str ⟨#[]⟩, .bool false, .str ⟨#[]⟩, .bool false, .str ⟨#[]⟩]⟩ := rfl
theorem T52 : TT 52 = some ⟨.func, 1, 8, [.nilf]⟩ := rfl
theorem T53 : TT 53 = some ⟨.func, 1, 8, [.nilf]⟩ := rfl
theorem T54 : TT 54 = some ⟨.func, 1, 8, [.nilf]⟩ := rfl
theorem T55 : TT 55 = some ⟨.func, 1, 8, [.nilf]⟩ := rfl
theorem T57 : TT 57 = some ⟨.func, 1, 8, [.nilf]⟩ := rfl
theorem T58 : TT 58 = some ⟨.func, 1, 8, [.nilf]⟩ := rfl
theorem T59 : TT 59 = some ⟨.func, 1, 8, [.nilf]⟩ := rfl
theorem T60 : TT 60 = some ⟨.func, 1, 8, [.nilf]⟩ := rfl
theorem T61 : TT 61 = some ⟨.func, 1, 8, [.nilf]⟩ := rfl
theorem T63 : TT 63 = some ⟨.func, 1, 8, [.nilf]⟩ := rfl
theorem T64 : TT 64 = some ⟨.func, 1, 8, [.nilf]⟩ := rfl
theorem T66 : TT 66 = some ⟨.func, 1, 8, [.nilf]⟩ := rfl
theorem T68 : TT 68 = some ⟨.func, 1, 8, [.nilf]⟩ := rfl
theorem T70 : TT 70 = some ⟨.func, 1, 8, [.nilf]⟩ := rfl
theorem T71 : TT 71 = some ⟨.func, 1, 8, [.nilf]⟩ := rfl
theorem T73 : TT 73 = some ⟨.func, 1, 8, [.nilf]⟩ := rfl
theorem T74 : TT 74 = some ⟨.func, 1, 8, [.nilf]⟩ := rfl
theorem T75 : TT 75 = some ⟨.func, 1, 8, [.nilf]⟩ := rfl
theorem T76 : TT 76 = some ⟨.ptr, 1, 8, [.nilp]⟩ := rfl
theorem T77 : TT 77 = some ⟨.struct [(0, 76, 1)], 1, 8, [.nilp]⟩ := rfl
theorem T78 : TT 78 = some ⟨.struct [(0, 76, 1)], 1, 8, [.nilp]⟩ := rfl
theorem T79 : TT 79 = some ⟨.slice 31, 1, 24, [.sl .no 1 []]⟩ := rfl
theorem T80 : TT 80 = some ⟨.func, 1, 8, [.nilf]⟩ := rfl
theorem T81 : TT 81 = some ⟨.func, 1, 8, [.nilf]⟩ := rfl
theorem T82 : TT 82 = some ⟨.slice 22, 1, 24, [.sl .no 1 []]⟩ := rfl
theorem T83 : TT 83 = some ⟨.func, 1, 8, [.nilf]⟩ := rfl
theorem T84 : TT 84 = some ⟨.func, 1, 8, [.nilf]⟩ := rfl
theorem T85 : TT 85 = some ⟨.func, 1, 8, [.nilf]⟩ := rfl
theorem T86 : TT 86 = some ⟨.func, 1, 8, [.nilf]⟩ := rfl
theorem T87 : TT 87 = some ⟨.func, 1, 8, [.nilf]⟩ := rfl
theorem T88 : TT 88 = some ⟨.func, 1, 8, [.nilf]⟩ := rfl
theorem T89 : TT 89 = some ⟨.struct [(0, 29, 2), (2, 76, 1), (3, 76, 1), (4, 3, 1), (5, 3, 1)], 6, 64, [.str ⟨#[]⟩, .str ⟨#[]⟩, .nilp, .nilp, .int .i64 0, .int .i64 0]⟩ := rfl
theorem T90 : TT 90 = some ⟨.struct [(0, 29, 2), (2, 76, 1), (3, 76, 1), (4, 3, 1), (5, 3, 1)], 6, 64, [.str ⟨#[]⟩, .str ⟨#[]⟩, .nilp, .nilp, .int .i64 0, .int .i64 0]⟩ := rfl
theorem T92 : TT 92 = some ⟨.func, 1, 8, [.nilf]⟩ := rfl
theorem T93 : TT 93 = some ⟨.func, 1, 8, [.nilf]⟩ := rfl
theorem T94 : TT 94 = some ⟨.func, 1, 8, [.nilf]⟩ := rfl
theorem T96 : TT 96 = some ⟨.func, 1, 8, [.nilf]⟩ := rfl
theorem T97 : TT 97 = some ⟨.func, 1, 8, [.nilf]⟩ := rfl
theorem T98 : TT 98 = some ⟨.func, 1, 8, [.nilf]⟩ := rfl
theorem T99 : TT 99 = some ⟨.struct [(0, 17, 1), (1, 17, 1), (2, 17, 1), (3, 9, 1)], 4, 40, [.nilp, .nilp, .nilp, .str ⟨#[]⟩]⟩ := rfl
theorem T100 : TT 100 = some ⟨.struct [(0, 17, 1), (1, 17, 1), (2, 17, 1), (3, 9, 1)], 4, 40, [.nilp, .nilp, .nilp, .str ⟨#[]⟩]⟩ := rfl
theorem T101 : TT 101 = some ⟨.array 0 16, 0, 0, []⟩ := rfl
theorem T102 : TT 102 = some ⟨.struct [(0, 101, 0)], 0, 0, []⟩ := rfl
theorem T103 : TT 103 = some ⟨.struct [(0, 101, 0)], 0, 0, []⟩ := rfl
theorem T104 : TT 104 = some ⟨.int .u32, 1, 4, [.int .u32 0]⟩ := rfl
theorem T105 : TT 105 = some ⟨.int .u8, 1, 1, [.int .u8 0]⟩ := rfl
theorem T106 : TT 106 = some ⟨.int .u8, 1, 1, [.int .u8 0]⟩ := rfl
theorem T107 : TT 107 = some ⟨.func, 1, 8, [.nilf]⟩ := rfl
theorem T108 : TT 108 = some ⟨.ptr, 1, 8, [.nilp]⟩ := rfl
theorem T109 : TT 109 = some ⟨.int .i32, 1, 4, [.int .i32 0]⟩ := rfl
theorem T110 : TT 110 = some ⟨.int .i32, 1, 4, [.int .i32 0]⟩ := rfl
theorem T111 : TT 111 = some ⟨.struct [(0, 12, 1), (1, 12, 1), (2, 104, 1), (3, 105, 1), (4, 5, 1), (5, 5, 1), (6, 106, 1), (7, 107, 1), (8, 108, 1), (9, 109, 1), (10, 110, 1)], 11, 48, [.int .u64 0, .int .u64 0, .int .u32 0, .int .u8 0, .int .u8 0, .int .u8 0, .int .u8 0, .nilf, .nilp, .int .i32 0, .int .i32 0]⟩ := rfl
theorem T112 : TT 112 = some ⟨.struct [(0, 12, 1), (1, 12, 1), (2, 104, 1), (3, 105, 1), (4, 5, 1), (5, 5, 1), (6, 106, 1), (7, 107, 1), (8, 108, 1), (9, 109, 1), (10, 110, 1)], 11, 48, [.int .u64 0, .int .u64 0, .int .u32 0, .int .u8 0, .int .u8 0, .int .u8 0, .int .u8 0, .nilf, .nilp, .int .i32 0, .int .i32 0]⟩ := rfl
attribute [go_sem] CT CP T1 T2 T3 T4 T5 T6 T7 T8 T9 T10 T11 T12 T13 T14 T15 T16 T17 T18 T19 T20 T21 T22 T23 T24 T25 T26 T27 T28 T29 T30 T31 T32 T33 T34 T35 T36 T37 T38 T40 T41 T42 T43 T44 T45 T46 T47 T48 T49 T50 T51 T52 T53 T54 T55 T57 T58 T59 T60 T61 T63 T64 T66 T68 T70 T71 T73 T74 T75 T76 T77 T78 T79 T80 T81 T82 T83 T84 T85 T86 T87 T88 T89 T90 T92 T93 T94 T96 T97 T98 T99 T100 T101 T102 T103 T104 T105 T106 T107 T108 T109 T110 T111 T112 E27 E29 E51 Z15 Z17 Z31 Z76 Z108
end Go.Proofs.Ytmedhhjbknnfkaa.V
