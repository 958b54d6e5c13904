/- The table of types of this program, and the setting of the walks. -/
import Derived.Test.YtmplfmhcpkmpbaaVL21
import Derived.Test.YtmplfmhcpkmpbaaProg
import Derived.Eval
set_option maxRecDepth 100000
namespace Go.Proofs.Ytmplfmhcpkmpbaa.V
open Go Go.VL

def tab : List (TypeId × TI) := [
  (1, ⟨.func, 1, 8, [.nilf]⟩),
  (2, ⟨.int .i64, 1, 8, [.int .i64 0]⟩),
  (3, ⟨.int .i64, 1, 8, [.int .i64 0]⟩),
  (4, ⟨.bool, 1, 1, [.bool false]⟩),
  (5, ⟨.int .u8, 1, 1, [.int .u8 0]⟩),
  (6, ⟨.int .u8, 1, 1, [.int .u8 0]⟩),
  (7, ⟨.struct [(0, 2, 1), (1, 3, 1), (2, 4, 1), (3, 6, 1)], 4, 24, [.int .i64 0, .int .i64 0, .bool false, .int .u8 0]⟩),
  (8, ⟨.struct [(0, 2, 1), (1, 3, 1), (2, 4, 1), (3, 6, 1)], 4, 24, [.int .i64 0, .int .i64 0, .bool false, .int .u8 0]⟩),
  (9, ⟨.str, 1, 16, [.str ⟨#[]⟩]⟩),
  (10, ⟨.str, 1, 16, [.str ⟨#[]⟩]⟩),
  (11, ⟨.str, 1, 16, [.str ⟨#[]⟩]⟩),
  (12, ⟨.int .u64, 1, 8, [.int .u64 0]⟩),
  (13, ⟨.struct [(0, 9, 1), (1, 12, 1)], 2, 24, [.str ⟨#[]⟩, .int .u64 0]⟩),
  (14, ⟨.struct [(0, 9, 1), (1, 12, 1)], 2, 24, [.str ⟨#[]⟩, .int .u64 0]⟩),
  (15, ⟨.ptr, 1, 8, [.nilp]⟩),
  (16, ⟨.ptr, 1, 8, [.nilp]⟩),
  (17, ⟨.ptr, 1, 8, [.nilp]⟩),
  (18, ⟨.struct [(0, 17, 1)], 1, 8, [.nilp]⟩),
  (19, ⟨.struct [(0, 17, 1)], 1, 8, [.nilp]⟩),
  (20, ⟨.iface, 1, 16, [.nili]⟩),
  (21, ⟨.int .i32, 1, 4, [.int .i32 0]⟩),
  (22, ⟨.slice 41, 1, 24, [.sl .no 3 []]⟩),
  (23, ⟨.func, 1, 8, [.nilf]⟩),
  (24, ⟨.func, 1, 8, [.nilf]⟩),
  (25, ⟨.int .i64, 1, 8, [.int .i64 0]⟩),
  (26, ⟨.func, 1, 8, [.nilf]⟩),
  (27, ⟨.func, 1, 8, [.nilf]⟩),
  (28, ⟨.slice 44, 1, 24, [.sl .no 12 []]⟩),
  (29, ⟨.func, 1, 8, [.nilf]⟩),
  (30, ⟨.ptr, 1, 8, [.nilp]⟩),
  (31, ⟨.slice 36, 1, 24, [.sl .no 6 []]⟩),
  (33, ⟨.func, 1, 8, [.nilf]⟩),
  (34, ⟨.func, 1, 8, [.nilf]⟩),
  (35, ⟨.struct [(0, 3, 1), (1, 9, 1), (2, 4, 1), (3, 9, 1), (4, 4, 1), (5, 9, 1)], 6, 72, [.int .i64 0, .str ⟨#[]⟩, .bool false, .str ⟨#[]⟩, .bool false, .str ⟨#[]⟩]⟩),
  (36, ⟨.struct [(0, 3, 1), (1, 9, 1), (2, 4, 1), (3, 9, 1), (4, 4, 1), (5, 9, 1)], 6, 72, [.int .i64 0, .str ⟨#[]⟩, .bool false, .str ⟨#[]⟩, .bool false, .str ⟨#[]⟩]⟩),
  (38, ⟨.func, 1, 8, [.nilf]⟩),
  (39, ⟨.func, 1, 8, [.nilf]⟩),
  (40, ⟨.struct [(0, 9, 1), (1, 4, 1), (2, 9, 1)], 3, 40, [.str ⟨#[]⟩, .bool false, .str ⟨#[]⟩]⟩),
  (41, ⟨.struct [(0, 9, 1), (1, 4, 1), (2, 9, 1)], 3, 40, [.str ⟨#[]⟩, .bool false, .str ⟨#[]⟩]⟩),
  (42, ⟨.func, 1, 8, [.nilf]⟩),
  (43, ⟨.struct [(0, 3, 1), (1, 3, 1), (2, 22, 1), (3, 22, 1), (4, 9, 1), (5, 9, 1), (6, 36, 6)], 12, 168, [.int .i64 0, .int .i64 0, .sl .no 3 [], .sl .no 3 [], .str ⟨#[]⟩, .str ⟨#[]⟩, .int .i64 0, .str ⟨#[]⟩, .bool false, .str ⟨#[]⟩, .bool false, .str ⟨#[]⟩]⟩),
  (44, ⟨.struct [(0, 3, 1), (1, 3, 1), (2, 22, 1), (3, 22, 1), (4, 9, 1), (5, 9, 1), (6, 36, 6)], 12, 168, [.int .i64 0, .int .i64 0, .sl .no 3 [], .sl .no 3 [], .str ⟨#[]⟩, .str ⟨#[]⟩, .int .i64 0, .str ⟨#[]⟩, .bool false, .str ⟨#[]⟩, .bool false, .str ⟨#[]⟩]⟩),
  (46, ⟨.func, 1, 8, [.nilf]⟩),
  (47, ⟨.func, 1, 8, [.nilf]⟩),
  (48, ⟨.func, 1, 8, [.nilf]⟩),
  (49, ⟨.func, 1, 8, [.nilf]⟩),
  (50, ⟨.func, 1, 8, [.nilf]⟩),
  (51, ⟨.slice 3, 1, 24, [.sl .no 1 []]⟩),
  (52, ⟨.func, 1, 8, [.nilf]⟩),
  (53, ⟨.int .u64, 1, 8, [.int .u64 0]⟩),
  (54, ⟨.func, 1, 8, [.nilf]⟩),
  (55, ⟨.func, 1, 8, [.nilf]⟩),
  (56, ⟨.ptr, 1, 8, [.nilp]⟩),
  (57, ⟨.struct [(0, 56, 1)], 1, 8, [.nilp]⟩),
  (58, ⟨.struct [(0, 56, 1)], 1, 8, [.nilp]⟩),
  (59, ⟨.slice 30, 1, 24, [.sl .no 1 []]⟩),
  (60, ⟨.func, 1, 8, [.nilf]⟩),
  (61, ⟨.func, 1, 8, [.nilf]⟩),
  (62, ⟨.func, 1, 8, [.nilf]⟩),
  (63, ⟨.ptr, 1, 8, [.nilp]⟩),
  (64, ⟨.struct [(0, 22, 1)], 1, 24, [.sl .no 3 []]⟩),
  (65, ⟨.struct [(0, 22, 1)], 1, 24, [.sl .no 3 []]⟩),
  (66, ⟨.func, 1, 8, [.nilf]⟩),
  (67, ⟨.slice 5, 1, 24, [.sl .no 1 []]⟩),
  (68, ⟨.func, 1, 8, [.nilf]⟩),
  (69, ⟨.func, 1, 8, [.nilf]⟩),
  (70, ⟨.ptr, 1, 8, [.nilp]⟩),
  (71, ⟨.func, 1, 8, [.nilf]⟩),
  (72, ⟨.func, 1, 8, [.nilf]⟩),
  (73, ⟨.func, 1, 8, [.nilf]⟩),
  (74, ⟨.ptr, 1, 8, [.nilp]⟩),
  (75, ⟨.struct [(0, 67, 1), (1, 3, 1), (2, 25, 1)], 3, 40, [.sl .no 1 [], .int .i64 0, .int .i64 0]⟩),
  (76, ⟨.struct [(0, 67, 1), (1, 3, 1), (2, 25, 1)], 3, 40, [.sl .no 1 [], .int .i64 0, .int .i64 0]⟩),
  (77, ⟨.func, 1, 8, [.nilf]⟩),
  (78, ⟨.func, 1, 8, [.nilf]⟩),
  (79, ⟨.func, 1, 8, [.nilf]⟩),
  (80, ⟨.func, 1, 8, [.nilf]⟩),
  (81, ⟨.func, 1, 8, [.nilf]⟩),
  (82, ⟨.func, 1, 8, [.nilf]⟩),
  (83, ⟨.slice 86, 1, 24, [.sl .no 2 []]⟩),
  (84, ⟨.func, 1, 8, [.nilf]⟩),
  (85, ⟨.struct [(0, 9, 1), (1, 9, 1)], 2, 32, [.str ⟨#[]⟩, .str ⟨#[]⟩]⟩),
  (86, ⟨.struct [(0, 9, 1), (1, 9, 1)], 2, 32, [.str ⟨#[]⟩, .str ⟨#[]⟩]⟩),
  (87, ⟨.slice 22, 1, 24, [.sl .no 1 []]⟩),
  (88, ⟨.func, 1, 8, [.nilf]⟩),
  (89, ⟨.func, 1, 8, [.nilf]⟩),
  (90, ⟨.func, 1, 8, [.nilf]⟩),
  (91, ⟨.func, 1, 8, [.nilf]⟩),
  (92, ⟨.func, 1, 8, [.nilf]⟩),
  (93, ⟨.func, 1, 8, [.nilf]⟩),
  (94, ⟨.struct [(0, 67, 1), (1, 3, 1), (2, 25, 1), (3, 4, 1)], 4, 48, [.sl .no 1 [], .int .i64 0, .int .i64 0, .bool false]⟩),
  (95, ⟨.struct [(0, 67, 1), (1, 3, 1), (2, 25, 1), (3, 4, 1)], 4, 48, [.sl .no 1 [], .int .i64 0, .int .i64 0, .bool false]⟩),
  (96, ⟨.func, 1, 8, [.nilf]⟩),
  (97, ⟨.func, 1, 8, [.nilf]⟩),
  (98, ⟨.other, 1, 8, [.undef]⟩),
  (99, ⟨.ptr, 1, 8, [.nilp]⟩),
  (100, ⟨.struct [(0, 99, 1)], 1, 8, [.nilp]⟩),
  (101, ⟨.struct [(0, 99, 1)], 1, 8, [.nilp]⟩),
  (102, ⟨.func, 1, 8, [.nilf]⟩),
  (103, ⟨.func, 1, 8, [.nilf]⟩),
  (104, ⟨.struct [(0, 86, 2), (2, 99, 1), (3, 99, 1), (4, 3, 1), (5, 3, 1)], 6, 64, [.str ⟨#[]⟩, .str ⟨#[]⟩, .nilp, .nilp, .int .i64 0, .int .i64 0]⟩),
  (105, ⟨.struct [(0, 86, 2), (2, 99, 1), (3, 99, 1), (4, 3, 1), (5, 3, 1)], 6, 64, [.str ⟨#[]⟩, .str ⟨#[]⟩, .nilp, .nilp, .int .i64 0, .int .i64 0]⟩),
  (106, ⟨.func, 1, 8, [.nilf]⟩),
  (107, ⟨.func, 1, 8, [.nilf]⟩),
  (108, ⟨.func, 1, 8, [.nilf]⟩),
  (109, ⟨.func, 1, 8, [.nilf]⟩),
  (110, ⟨.func, 1, 8, [.nilf]⟩),
  (111, ⟨.func, 1, 8, [.nilf]⟩),
  (113, ⟨.func, 1, 8, [.nilf]⟩),
  (114, ⟨.func, 1, 8, [.nilf]⟩),
  (115, ⟨.func, 1, 8, [.nilf]⟩),
  (116, ⟨.func, 1, 8, [.nilf]⟩),
  (117, ⟨.func, 1, 8, [.nilf]⟩),
  (118, ⟨.func, 1, 8, [.nilf]⟩),
  (119, ⟨.slice 21, 1, 24, [.sl .no 1 []]⟩),
  (120, ⟨.func, 1, 8, [.nilf]⟩),
  (121, ⟨.int .u64, 1, 8, [.int .u64 0]⟩),
  (123, ⟨.func, 1, 8, [.nilf]⟩),
  (124, ⟨.func, 1, 8, [.nilf]⟩),
  (125, ⟨.func, 1, 8, [.nilf]⟩),
  (126, ⟨.struct [(0, 17, 1), (1, 17, 1), (2, 17, 1), (3, 9, 1)], 4, 40, [.nilp, .nilp, .nilp, .str ⟨#[]⟩]⟩),
  (127, ⟨.struct [(0, 17, 1), (1, 17, 1), (2, 17, 1), (3, 9, 1)], 4, 40, [.nilp, .nilp, .nilp, .str ⟨#[]⟩]⟩),
  (128, ⟨.array 0 16, 0, 0, []⟩),
  (129, ⟨.struct [(0, 128, 0)], 0, 0, []⟩),
  (130, ⟨.struct [(0, 128, 0)], 0, 0, []⟩),
  (131, ⟨.int .u32, 1, 4, [.int .u32 0]⟩),
  (132, ⟨.int .u8, 1, 1, [.int .u8 0]⟩),
  (133, ⟨.int .u8, 1, 1, [.int .u8 0]⟩),
  (134, ⟨.func, 1, 8, [.nilf]⟩),
  (135, ⟨.ptr, 1, 8, [.nilp]⟩),
  (136, ⟨.int .i32, 1, 4, [.int .i32 0]⟩),
  (137, ⟨.int .i32, 1, 4, [.int .i32 0]⟩),
  (138, ⟨.struct [(0, 12, 1), (1, 12, 1), (2, 131, 1), (3, 132, 1), (4, 5, 1), (5, 5, 1), (6, 133, 1), (7, 134, 1), (8, 135, 1), (9, 136, 1), (10, 137, 1)], 11, 48, [.int .u64 0, .int .u64 0, .int .u32 0, .int .u8 0, .int .u8 0, .int .u8 0, .int .u8 0, .nilf, .nilp, .int .i32 0, .int .i32 0]⟩),
  (139, ⟨.struct [(0, 12, 1), (1, 12, 1), (2, 131, 1), (3, 132, 1), (4, 5, 1), (5, 5, 1), (6, 133, 1), (7, 134, 1), (8, 135, 1), (9, 136, 1), (10, 137, 1)], 11, 48, [.int .u64 0, .int .u64 0, .int .u32 0, .int .u8 0, .int .u8 0, .int .u8 0, .int .u8 0, .nilf, .nilp, .int .i32 0, .int .i32 0]⟩)]
set_option maxHeartbeats 4000000 in
theorem tab_ok : (tab.all fun x => tib Try.prog x.1 x.2) = true := by kernel_rfl
theorem mixed : Try.prog.follows .mixedOrders = true := by kernel_rfl
def eqTs : List TypeId := [36, 41, 86]
def ptTs : List TypeId := [15, 17, 30, 56, 63, 70, 74, 99, 135]
theorem eqTs_ok : (eqTs.all (eqb Try.prog)) = true := by kernel_rfl
theorem ptTs_ok : (ptTs.all (ptb Try.prog)) = true := by kernel_rfl
def TT (t : TypeId) : Option TI := lookT tab t
noncomputable def C : Ctx := ⟨Try.prog, TT, lookT_ok tab tab_ok, mixed, eqTs.elem, fun t h => eqb_ok (all_ok _ eqTs_ok t h), ptTs.elem, fun t h => ptb_ok (all_ok _ ptTs_ok t h)⟩
theorem E36 : C.E 36 = true := rfl
theorem E41 : C.E 41 = true := rfl
theorem E86 : C.E 86 = true := rfl
theorem Z15 : C.Z 15 = true := rfl
theorem Z17 : C.Z 17 = true := rfl
theorem Z30 : C.Z 30 = true := rfl
theorem Z56 : C.Z 56 = true := rfl
theorem Z63 : C.Z 63 = true := rfl
theorem Z70 : C.Z 70 = true := rfl
theorem Z74 : C.Z 74 = true := rfl
theorem Z99 : C.Z 99 = true := rfl
theorem Z135 : C.Z 135 = true := rfl
theorem CT (t : TypeId) : C.T t = TT t := rfl
theorem CP : C.P = Try.prog := rfl
theorem T1 : TT 1 = some ⟨.func, 1, 8, [.nilf]⟩ := rfl
theorem T2 : TT 2 = some ⟨.int .i64, 1, 8, [.int .i64 0]⟩ := rfl
theorem T3 : TT 3 = some ⟨.int .i64, 1, 8, [.int .i64 0]⟩ := rfl
theorem T4 : TT 4 = some ⟨.bool, 1, 1, [.bool false]⟩ := rfl
theorem T5 : TT 5 = some ⟨.int .u8, 1, 1, [.int .u8 0]⟩ := rfl
theorem T6 : TT 6 = some ⟨.int .u8, 1, 1, [.int .u8 0]⟩ := rfl
theorem T7 : TT 7 = some ⟨.struct [(0, 2, 1), (1, 3, 1), (2, 4, 1), (3, 6, 1)], 4, 24, [.int .i64 0, .int .i64 0, .bool false, .int .u8 0]⟩ := rfl
theorem T8 : TT 8 = some ⟨.struct [(0, 2, 1), (1, 3, 1), (2, 4, 1), (3, 6, 1)], 4, 24, [.int .i64 0, .int .i64 0, .bool false, .int .u8 0]⟩ := rfl
theorem T9 : TT 9 = some ⟨.str, 1, 16, [.str ⟨#[]⟩]⟩ := rfl
theorem T10 : TT 10 = some ⟨.str, 1, 16, [.str ⟨#[]⟩]⟩ := rfl
theorem T11 : TT 11 = some ⟨.str, 1, 16, [.str ⟨#[]⟩]⟩ := rfl
theorem T12 : TT 12 = some ⟨.int .u64, 1, 8, [.int .u64 0]⟩ := rfl
theorem T13 : TT 13 = some ⟨.struct [(0, 9, 1), (1, 12, 1)], 2, 24, [.str ⟨#[]⟩, .int .u64 0]⟩ := rfl
theorem T14 : TT 14 = some ⟨.struct [(0, 9, 1), (1, 12, 1)], 2, 24, [.str ⟨#[]⟩, .int .u64 0]⟩ := rfl
theorem T15 : TT 15 = some ⟨.ptr, 1, 8, [.nilp]⟩ := rfl
theorem T16 : TT 16 = some ⟨.ptr, 1, 8, [.nilp]⟩ := rfl
theorem T17 : TT 17 = some ⟨.ptr, 1, 8, [.nilp]⟩ := rfl
theorem T18 : TT 18 = some ⟨.struct [(0, 17, 1)], 1, 8, [.nilp]⟩ := rfl
theorem T19 : TT 19 = some ⟨.struct [(0, 17, 1)], 1, 8, [.nilp]⟩ := rfl
theorem T20 : TT 20 = some ⟨.iface, 1, 16, [.nili]⟩ := rfl
theorem T21 : TT 21 = some ⟨.int .i32, 1, 4, [.int .i32 0]⟩ := rfl
theorem T22 : TT 22 = some ⟨.slice 41, 1, 24, [.sl .no 3 []]⟩ := rfl
theorem T23 : TT 23 = some ⟨.func, 1, 8, [.nilf]⟩ := rfl
theorem T24 : TT 24 = some ⟨.func, 1, 8, [.nilf]⟩ := rfl
theorem T25 : TT 25 = some ⟨.int .i64, 1, 8, [.int .i64 0]⟩ := rfl
theorem T26 : TT 26 = some ⟨.func, 1, 8, [.nilf]⟩ := rfl
theorem T27 : TT 27 = some ⟨.func, 1, 8, [.nilf]⟩ := rfl
theorem T28 : TT 28 = some ⟨.slice 44, 1, 24, [.sl .no 12 []]⟩ := rfl
theorem T29 : TT 29 = some ⟨.func, 1, 8, [.nilf]⟩ := rfl
theorem T30 : TT 30 = some ⟨.ptr, 1, 8, [.nilp]⟩ := rfl
theorem T31 : TT 31 = some ⟨.slice 36, 1, 24, [.sl .no 6 []]⟩ := rfl
theorem T33 : TT 33 = some ⟨.func, 1, 8, [.nilf]⟩ := rfl
theorem T34 : TT 34 = some ⟨.func, 1, 8, [.nilf]⟩ := rfl
theorem T35 : TT 35 = some ⟨.struct [(0, 3, 1), (1, 9, 1), (2, 4, 1), (3, 9, 1), (4, 4, 1), (5, 9, 1)], 6, 72, [.int .i64 0, .str ⟨#[]⟩, .bool false, .str ⟨#[]⟩, .bool false, .str ⟨#[]⟩]⟩ := rfl
theorem T36 : TT 36 = some ⟨.struct [(0, 3, 1), (1, 9, 1), (2, 4, 1), (3, 9, 1), (4, 4, 1), (5, 9, 1)], 6, 72, [.int .i64 0, .str ⟨#[]⟩, .bool false, .str ⟨#[]⟩, .bool false, .str ⟨#[]⟩]⟩ := rfl
theorem T38 : TT 38 = some ⟨.func, 1, 8, [.nilf]⟩ := rfl
theorem T39 : TT 39 = some ⟨.func, 1, 8, [.nilf]⟩ := rfl
theorem T40 : TT 40 = some ⟨.struct [(0, 9, 1), (1, 4, 1), (2, 9, 1)], 3, 40, [.str ⟨#[]⟩, .bool false, .str ⟨#[]⟩]⟩ := rfl
theorem T41 : TT 41 = some ⟨.struct [(0, 9, 1), (1, 4, 1), (2, 9, 1)], 3, 40, [.str ⟨#[]⟩, .bool false, .str ⟨#[]⟩]⟩ := rfl
theorem T42 : TT 42 = some ⟨.func, 1, 8, [.nilf]⟩ := rfl
theorem T43 : TT 43 = some ⟨.struct [(0, 3, 1), (1, 3, 1), (2, 22, 1), (3, 22, 1), (4, 9, 1), (5, 9, 1), (6, 36, 6)], 12, 168, [.int .i64 0, .int .i64 0, .sl .no 3 [], .sl .no 3 [], .str ⟨#[]⟩, .str ⟨#[]⟩, .int .i64 0, .str ⟨#[]⟩, .bool false, .str ⟨#[]⟩, .bool false, .str ⟨#[]⟩]⟩ := rfl
theorem T44 : TT 44 = some ⟨.struct [(0, 3, 1), (1, 3, 1), (2, 22, 1), (3, 22, 1), (4, 9, 1), (5, 9, 1), (6, 36, 6)], 12, 168, [.int .i64 0, .int .i64 0, .sl .no 3 [], .sl .no 3 [], .str ⟨#[]⟩, .str ⟨#[]⟩, .int .i64 0, .str ⟨#[]⟩, .bool false, .str ⟨#[]⟩, .bool false, .str ⟨#[]⟩]⟩ := rfl
theorem T46 : TT 46 = some ⟨.func, 1, 8, [.nilf]⟩ := rfl
theorem T47 : TT 47 = some ⟨.func, 1, 8, [.nilf]⟩ := rfl
theorem T48 : TT 48 = some ⟨.func, 1, 8, [.nilf]⟩ := rfl
theorem T49 : TT 49 = some ⟨.func, 1, 8, [.nilf]⟩ := rfl
theorem T50 : TT 50 = some ⟨.func, 1, 8, [.nilf]⟩ := rfl
theorem T51 : TT 51 = some ⟨.slice 3, 1, 24, [.sl .no 1 []]⟩ := rfl
theorem T52 : TT 52 = some ⟨.func, 1, 8, [.nilf]⟩ := rfl
theorem T53 : TT 53 = some ⟨.int .u64, 1, 8, [.int .u64 0]⟩ := rfl
theorem T54 : TT 54 = some ⟨.func, 1, 8, [.nilf]⟩ := rfl
theorem T55 : TT 55 = some ⟨.func, 1, 8, [.nilf]⟩ := rfl
theorem T56 : TT 56 = some ⟨.ptr, 1, 8, [.nilp]⟩ := rfl
theorem T57 : TT 57 = some ⟨.struct [(0, 56, 1)], 1, 8, [.nilp]⟩ := rfl
theorem T58 : TT 58 = some ⟨.struct [(0, 56, 1)], 1, 8, [.nilp]⟩ := rfl
theorem T59 : TT 59 = some ⟨.slice 30, 1, 24, [.sl .no 1 []]⟩ := rfl
theorem T60 : TT 60 = some ⟨.func, 1, 8, [.nilf]⟩ := rfl
theorem T61 : TT 61 = some ⟨.func, 1, 8, [.nilf]⟩ := rfl
theorem T62 : TT 62 = some ⟨.func, 1, 8, [.nilf]⟩ := rfl
theorem T63 : TT 63 = some ⟨.ptr, 1, 8, [.nilp]⟩ := rfl
theorem T64 : TT 64 = some ⟨.struct [(0, 22, 1)], 1, 24, [.sl .no 3 []]⟩ := rfl
theorem T65 : TT 65 = some ⟨.struct [(0, 22, 1)], 1, 24, [.sl .no 3 []]⟩ := rfl
theorem T66 : TT 66 = some ⟨.func, 1, 8, [.nilf]⟩ := rfl
theorem T67 : TT 67 = some ⟨.slice 5, 1, 24, [.sl .no 1 []]⟩ := rfl
theorem T68 : TT 68 = some ⟨.func, 1, 8, [.nilf]⟩ := rfl
theorem T69 : TT 69 = some ⟨.func, 1, 8, [.nilf]⟩ := rfl
theorem T70 : TT 70 = some ⟨.ptr, 1, 8, [.nilp]⟩ := rfl
theorem T71 : TT 71 = some ⟨.func, 1, 8, [.nilf]⟩ := rfl
theorem T72 : TT 72 = some ⟨.func, 1, 8, [.nilf]⟩ := rfl
theorem T73 : TT 73 = some ⟨.func, 1, 8, [.nilf]⟩ := rfl
theorem T74 : TT 74 = some ⟨.ptr, 1, 8, [.nilp]⟩ := rfl
theorem T75 : TT 75 = some ⟨.struct [(0, 67, 1), (1, 3, 1), (2, 25, 1)], 3, 40, [.sl .no 1 [], .int .i64 0, .int .i64 0]⟩ := rfl
theorem T76 : TT 76 = some ⟨.struct [(0, 67, 1), (1, 3, 1), (2, 25, 1)], 3, 40, [.sl .no 1 [], .int .i64 0, .int .i64 0]⟩ := rfl
theorem T77 : TT 77 = some ⟨.func, 1, 8, [.nilf]⟩ := rfl
theorem T78 : TT 78 = some ⟨.func, 1, 8, [.nilf]⟩ := rfl
theorem T79 : TT 79 = some ⟨.func, 1, 8, [.nilf]⟩ := rfl
theorem T80 : TT 80 = some ⟨.func, 1, 8, [.nilf]⟩ := rfl
theorem T81 : TT 81 = some ⟨.func, 1, 8, [.nilf]⟩ := rfl
theorem T82 : TT 82 = some ⟨.func, 1, 8, [.nilf]⟩ := rfl
theorem T83 : TT 83 = some ⟨.slice 86, 1, 24, [.sl .no 2 []]⟩ := rfl
theorem T84 : TT 84 = some ⟨.func, 1, 8, [.nilf]⟩ := rfl
theorem T85 : TT 85 = some ⟨.struct [(0, 9, 1), (1, 9, 1)], 2, 32, [.str ⟨#[]⟩, .str ⟨#[]⟩]⟩ := rfl
theorem T86 : TT 86 = some ⟨.struct [(0, 9, 1), (1, 9, 1)], 2, 32, [.str ⟨#[]⟩, .str ⟨#[]⟩]⟩ := rfl
theorem T87 : TT 87 = some ⟨.slice 22, 1, 24, [.sl .no 1 []]⟩ := rfl
theorem T88 : TT 88 = some ⟨.func, 1, 8, [.nilf]⟩ := rfl
theorem T89 : TT 89 = some ⟨.func, 1, 8, [.nilf]⟩ := rfl
theorem T90 : TT 90 = some ⟨.func, 1, 8, [.nilf]⟩ := rfl
theorem T91 : TT 91 = some ⟨.func, 1, 8, [.nilf]⟩ := rfl
theorem T92 : TT 92 = some ⟨.func, 1, 8, [.nilf]⟩ := rfl
theorem T93 : TT 93 = some ⟨.func, 1, 8, [.nilf]⟩ := rfl
theorem T94 : TT 94 = some ⟨.struct [(0, 67, 1), (1, 3, 1), (2, 25, 1), (3, 4, 1)], 4, 48, [.sl .no 1 [], .int .i64 0, .int .i64 0, .bool false]⟩ := rfl
theorem T95 : TT 95 = some ⟨.struct [(0, 67, 1), (1, 3, 1), (2, 25, 1), (3, 4, 1)], 4, 48, [.sl .no 1 [], .int .i64 0, .int .i64 0, .bool false]⟩ := rfl
theorem T96 : TT 96 = some ⟨.func, 1, 8, [.nilf]⟩ := rfl
theorem T97 : TT 97 = some ⟨.func, 1, 8, [.nilf]⟩ := rfl
theorem T98 : TT 98 = some ⟨.other, 1, 8, [.undef]⟩ := rfl
theorem T99 : TT 99 = some ⟨.ptr, 1, 8, [.nilp]⟩ := rfl
theorem T100 : TT 100 = some ⟨.struct [(0, 99, 1)], 1, 8, [.nilp]⟩ := rfl
theorem T101 : TT 101 = some ⟨.struct [(0, 99, 1)], 1, 8, [.nilp]⟩ := rfl
theorem T102 : TT 102 = some ⟨.func, 1, 8, [.nilf]⟩ := rfl
theorem T103 : TT 103 = some ⟨.func, 1, 8, [.nilf]⟩ := rfl
theorem T104 : TT 104 = some ⟨.struct [(0, 86, 2), (2, 99, 1), (3, 99, 1), (4, 3, 1), (5, 3, 1)], 6, 64, [.str ⟨#[]⟩, .str ⟨#[]⟩, .nilp, .nilp, .int .i64 0, .int .i64 0]⟩ := rfl
theorem T105 : TT 105 = some ⟨.struct [(0, 86, 2), (2, 99, 1), (3, 99, 1), (4, 3, 1), (5, 3, 1)], 6, 64, [.str ⟨#[]⟩, .str ⟨#[]⟩, .nilp, .nilp, .int .i64 0, .int .i64 0]⟩ := rfl
theorem T106 : TT 106 = some ⟨.func, 1, 8, [.nilf]⟩ := rfl
theorem T107 : TT 107 = some ⟨.func, 1, 8, [.nilf]⟩ := rfl
theorem T108 : TT 108 = some ⟨.func, 1, 8, [.nilf]⟩ := rfl
theorem T109 : TT 109 = some ⟨.func, 1, 8, [.nilf]⟩ := rfl
theorem T110 : TT 110 = some ⟨.func, 1, 8, [.nilf]⟩ := rfl
theorem T111 : TT 111 = some ⟨.func, 1, 8, [.nilf]⟩ := rfl
theorem T113 : TT 113 = some ⟨.func, 1, 8, [.nilf]⟩ := rfl
theorem T114 : TT 114 = some ⟨.func, 1, 8, [.nilf]⟩ := rfl
theorem T115 : TT 115 = some ⟨.func, 1, 8, [.nilf]⟩ := rfl
theorem T116 : TT 116 = some ⟨.func, 1, 8, [.nilf]⟩ := rfl
theorem T117 : TT 117 = some ⟨.func, 1, 8, [.nilf]⟩ := rfl
theorem T118 : TT 118 = some ⟨.func, 1, 8, [.nilf]⟩ := rfl
theorem T119 : TT 119 = some ⟨.slice 21, 1, 24, [.sl .no 1 []]⟩ := rfl
theorem T120 : TT 120 = some ⟨.func, 1, 8, [.nilf]⟩ := rfl
theorem T121 : TT 121 = some ⟨.int .u64, 1, 8, [.int .u64 0]⟩ := rfl
theorem T123 : TT 123 = some ⟨.func, 1, 8, [.nilf]⟩ := rfl
theorem T124 : TT 124 = some ⟨.func, 1, 8, [.nilf]⟩ := rfl
theorem T125 : TT 125 = some ⟨.func, 1, 8, [.nilf]⟩ := rfl
theorem T126 : TT 126 = some ⟨.struct [(0, 17, 1), (1, 17, 1), (2, 17, 1), (3, 9, 1)], 4, 40, [.nilp, .nilp, .nilp, .str ⟨#[]⟩]⟩ := rfl
theorem T127 : TT 127 = some ⟨.struct [(0, 17, 1), (1, 17, 1), (2, 17, 1), (3, 9, 1)], 4, 40, [.nilp, .nilp, .nilp, .str ⟨#[]⟩]⟩ := rfl
theorem T128 : TT 128 = some ⟨.array 0 16, 0, 0, []⟩ := rfl
theorem T129 : TT 129 = some ⟨.struct [(0, 128, 0)], 0, 0, []⟩ := rfl
theorem T130 : TT 130 = some ⟨.struct [(0, 128, 0)], 0, 0, []⟩ := rfl
theorem T131 : TT 131 = some ⟨.int .u32, 1, 4, [.int .u32 0]⟩ := rfl
theorem T132 : TT 132 = some ⟨.int .u8, 1, 1, [.int .u8 0]⟩ := rfl
theorem T133 : TT 133 = some ⟨.int .u8, 1, 1, [.int .u8 0]⟩ := rfl
theorem T134 : TT 134 = some ⟨.func, 1, 8, [.nilf]⟩ := rfl
theorem T135 : TT 135 = some ⟨.ptr, 1, 8, [.nilp]⟩ := rfl
theorem T136 : TT 136 = some ⟨.int .i32, 1, 4, [.int .i32 0]⟩ := rfl
theorem T137 : TT 137 = some ⟨.int .i32, 1, 4, [.int .i32 0]⟩ := rfl
theorem T138 : TT 138 = some ⟨.struct [(0, 12, 1), (1, 12, 1), (2, 131, 1), (3, 132, 1), (4, 5, 1), (5, 5, 1), (6, 133, 1), (7, 134, 1), (8, 135, 1), (9, 136, 1), (10, 137, 1)], 11, 48, [.int .u64 0, .int .u64 0, .int .u32 0, .int .u8 0, .int .u8 0, .int .u8 0, .int .u8 0, .nilf, .nilp, .int .i32 0, .int .i32 0]⟩ := rfl
theorem T139 : TT 139 = some ⟨.struct [(0, 12, 1), (1, 12, 1), (2, 131, 1), (3, 132, 1), (4, 5, 1), (5, 5, 1), (6, 133, 1), (7, 134, 1), (8, 135, 1), (9, 136, 1), (10, 137, 1)], 11, 48, [.int .u64 0, .int .u64 0, .int .u32 0, .int .u8 0, .int .u8 0, .int .u8 0, .int .u8 0, .nilf, .nilp, .int .i32 0, .int .i32 0]⟩ := rfl
theorem M98 : mapS Try.prog 98 = some (.bool false) := by kernel_rfl
attribute [go_sem] M98
attribute [go_sem] CT CP T1 T2 T3 T4 T5 T6 T7 T8 T9 T10 T11 T12 T13 T14 T15 T16 T17 T18 T19 T20 T21 T22 T23 T24 T25 T26 T27 T28 T29 T30 T31 T33 T34 T35 T36 T38 T39 T40 T41 T42 T43 T44 T46 T47 T48 T49 T50 T51 T52 T53 T54 T55 T56 T57 T58 T59 T60 T61 T62 T63 T64 T65 T66 T67 T68 T69 T70 T71 T72 T73 T74 T75 T76 T77 T78 T79 T80 T81 T82 T83 T84 T85 T86 T87 T88 T89 T90 T91 T92 T93 T94 T95 T96 T97 T98 T99 T100 T101 T102 T103 T104 T105 T106 T107 T108 T109 T110 T111 T113 T114 T115 T116 T117 T118 T119 T120 T121 T123 T124 T125 T126 T127 T128 T129 T130 T131 T132 T133 T134 T135 T136 T137 T138 T139 E36 E41 E86 Z15 Z17 Z30 Z56 Z63 Z70 Z74 Z99 Z135
end Go.Proofs.Ytmplfmhcpkmpbaa.V
