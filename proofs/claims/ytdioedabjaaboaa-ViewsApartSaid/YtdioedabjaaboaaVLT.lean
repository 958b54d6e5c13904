/- The table of types of this program, and the setting of the walks. -/
import Derived.Test.YtdioedabjaaboaaVL21
import Derived.Test.YtdioedabjaaboaaProg
import Derived.Eval
set_option maxRecDepth 100000
namespace Go.Proofs.Ytdioedabjaaboaa.V
open Go Go.VL

def tab : List (TypeId × TI) := [
  (1, ⟨.func, 1, 8, [.nilf]⟩),
  (2, ⟨.int .i64, 1, 8, [.int .i64 0]⟩),
  (3, ⟨.int .i64, 1, 8, [.int .i64 0]⟩),
  (4, ⟨.bool, 1, 1, [.bool false]⟩),
  (5, ⟨.int .u8, 1, 1, [.int .u8 0]⟩),
  (6, ⟨.int .u8, 1, 1, [.int .u8 0]⟩),
  (7, ⟨.struct [(0, 2, 1), (1, 3, 1), (2, 4, 1), (3, 6, 1)], 4, 24, [.int .i64 0, .int .i64 0, .bool false, .int .u8 0]⟩),
  (8, ⟨.struct [(0, 2, 1), (1, 3, 1), (2, 4, 1), (3, 6, 1)], 4, 24, [.int .i64 0, .int .i64 0, .bool false, .int .u8 0]⟩),
  (9, ⟨.str, 1, 16, [.str ⟨#[]⟩]⟩),
  (10, ⟨.str, 1, 16, [.str ⟨#[]⟩]⟩),
  (11, ⟨.str, 1, 16, [.str ⟨#[]⟩]⟩),
  (12, ⟨.int .u64, 1, 8, [.int .u64 0]⟩),
  (13, ⟨.struct [(0, 9, 1), (1, 12, 1)], 2, 24, [.str ⟨#[]⟩, .int .u64 0]⟩),
  (14, ⟨.struct [(0, 9, 1), (1, 12, 1)], 2, 24, [.str ⟨#[]⟩, .int .u64 0]⟩),
  (15, ⟨.ptr, 1, 8, [.nilp]⟩),
  (16, ⟨.ptr, 1, 8, [.nilp]⟩),
  (17, ⟨.ptr, 1, 8, [.nilp]⟩),
  (18, ⟨.struct [(0, 17, 1)], 1, 8, [.nilp]⟩),
  (19, ⟨.struct [(0, 17, 1)], 1, 8, [.nilp]⟩),
  (20, ⟨.iface, 1, 16, [.nili]⟩),
  (21, ⟨.int .i32, 1, 4, [.int .i32 0]⟩),
  (22, ⟨.slice 28, 1, 24, [.sl .no 6 []]⟩),
  (23, ⟨.struct [(0, 9, 1), (1, 3, 1), (2, 9, 1), (3, 9, 1)], 4, 56, [.str ⟨#[]⟩, .int .i64 0, .str ⟨#[]⟩, .str ⟨#[]⟩]⟩),
  (24, ⟨.struct [(0, 9, 1), (1, 3, 1), (2, 9, 1), (3, 9, 1)], 4, 56, [.str ⟨#[]⟩, .int .i64 0, .str ⟨#[]⟩, .str ⟨#[]⟩]⟩),
  (25, ⟨.func, 1, 8, [.nilf]⟩),
  (26, ⟨.slice 59, 1, 24, [.sl .no 3 []]⟩),
  (27, ⟨.struct [(0, 3, 1), (1, 26, 1), (2, 24, 4)], 6, 88, [.int .i64 0, .sl .no 3 [], .str ⟨#[]⟩, .int .i64 0, .str ⟨#[]⟩, .str ⟨#[]⟩]⟩),
  (28, ⟨.struct [(0, 3, 1), (1, 26, 1), (2, 24, 4)], 6, 88, [.int .i64 0, .sl .no 3 [], .str ⟨#[]⟩, .int .i64 0, .str ⟨#[]⟩, .str ⟨#[]⟩]⟩),
  (29, ⟨.func, 1, 8, [.nilf]⟩),
  (30, ⟨.ptr, 1, 8, [.nilp]⟩),
  (31, ⟨.ptr, 1, 8, [.nilp]⟩),
  (32, ⟨.struct [(0, 30, 1), (1, 31, 1)], 2, 16, [.nilp, .nilp]⟩),
  (33, ⟨.struct [(0, 30, 1), (1, 31, 1)], 2, 16, [.nilp, .nilp]⟩),
  (34, ⟨.func, 1, 8, [.nilf]⟩),
  (35, ⟨.int .i64, 1, 8, [.int .i64 0]⟩),
  (36, ⟨.func, 1, 8, [.nilf]⟩),
  (37, ⟨.int .u64, 1, 8, [.int .u64 0]⟩),
  (38, ⟨.func, 1, 8, [.nilf]⟩),
  (39, ⟨.func, 1, 8, [.nilf]⟩),
  (40, ⟨.func, 1, 8, [.nilf]⟩),
  (41, ⟨.slice 64, 1, 24, [.sl .no 3 []]⟩),
  (43, ⟨.func, 1, 8, [.nilf]⟩),
  (44, ⟨.func, 1, 8, [.nilf]⟩),
  (45, ⟨.func, 1, 8, [.nilf]⟩),
  (46, ⟨.slice 24, 1, 24, [.sl .no 4 []]⟩),
  (47, ⟨.func, 1, 8, [.nilf]⟩),
  (48, ⟨.slice 74, 1, 24, [.sl .no 5 []]⟩),
  (49, ⟨.struct [(0, 48, 1), (1, 4, 1)], 2, 32, [.sl .no 5 [], .bool false]⟩),
  (50, ⟨.struct [(0, 48, 1), (1, 4, 1)], 2, 32, [.sl .no 5 [], .bool false]⟩),
  (51, ⟨.slice 31, 1, 24, [.sl .no 1 []]⟩),
  (52, ⟨.func, 1, 8, [.nilf]⟩),
  (53, ⟨.func, 1, 8, [.nilf]⟩),
  (54, ⟨.func, 1, 8, [.nilf]⟩),
  (55, ⟨.func, 1, 8, [.nilf]⟩),
  (56, ⟨.func, 1, 8, [.nilf]⟩),
  (57, ⟨.func, 1, 8, [.nilf]⟩),
  (58, ⟨.struct [(0, 9, 1), (1, 4, 1), (2, 9, 1)], 3, 40, [.str ⟨#[]⟩, .bool false, .str ⟨#[]⟩]⟩),
  (59, ⟨.struct [(0, 9, 1), (1, 4, 1), (2, 9, 1)], 3, 40, [.str ⟨#[]⟩, .bool false, .str ⟨#[]⟩]⟩),
  (60, ⟨.func, 1, 8, [.nilf]⟩),
  (61, ⟨.func, 1, 8, [.nilf]⟩),
  (62, ⟨.slice 9, 1, 24, [.sl .no 1 []]⟩),
  (63, ⟨.struct [(0, 9, 1), (1, 62, 1), (2, 2, 1)], 3, 48, [.str ⟨#[]⟩, .sl .no 1 [], .int .i64 0]⟩),
  (64, ⟨.struct [(0, 9, 1), (1, 62, 1), (2, 2, 1)], 3, 48, [.str ⟨#[]⟩, .sl .no 1 [], .int .i64 0]⟩),
  (65, ⟨.func, 1, 8, [.nilf]⟩),
  (66, ⟨.slice 90, 1, 24, [.sl .no 6 []]⟩),
  (68, ⟨.func, 1, 8, [.nilf]⟩),
  (69, ⟨.func, 1, 8, [.nilf]⟩),
  (70, ⟨.func, 1, 8, [.nilf]⟩),
  (71, ⟨.func, 1, 8, [.nilf]⟩),
  (72, ⟨.other, 1, 8, [.nilm]⟩),
  (73, ⟨.struct [(0, 24, 4), (4, 72, 1)], 5, 64, [.str ⟨#[]⟩, .int .i64 0, .str ⟨#[]⟩, .str ⟨#[]⟩, .nilm]⟩),
  (74, ⟨.struct [(0, 24, 4), (4, 72, 1)], 5, 64, [.str ⟨#[]⟩, .int .i64 0, .str ⟨#[]⟩, .str ⟨#[]⟩, .nilm]⟩),
  (76, ⟨.func, 1, 8, [.nilf]⟩),
  (77, ⟨.func, 1, 8, [.nilf]⟩),
  (78, ⟨.slice 85, 1, 24, [.sl .no 2 []]⟩),
  (79, ⟨.ptr, 1, 8, [.nilp]⟩),
  (80, ⟨.struct [(0, 79, 1)], 1, 8, [.nilp]⟩),
  (81, ⟨.struct [(0, 79, 1)], 1, 8, [.nilp]⟩),
  (82, ⟨.func, 1, 8, [.nilf]⟩),
  (83, ⟨.func, 1, 8, [.nilf]⟩),
  (84, ⟨.struct [(0, 9, 1), (1, 9, 1)], 2, 32, [.str ⟨#[]⟩, .str ⟨#[]⟩]⟩),
  (85, ⟨.struct [(0, 9, 1), (1, 9, 1)], 2, 32, [.str ⟨#[]⟩, .str ⟨#[]⟩]⟩),
  (86, ⟨.func, 1, 8, [.nilf]⟩),
  (87, ⟨.func, 1, 8, [.nilf]⟩),
  (88, ⟨.func, 1, 8, [.nilf]⟩),
  (89, ⟨.struct [(0, 3, 1), (1, 9, 1), (2, 4, 1), (3, 9, 1), (4, 4, 1), (5, 9, 1)], 6, 72, [.int .i64 0, .str ⟨#[]⟩, .bool false, .str ⟨#[]⟩, .bool false, .str ⟨#[]⟩]⟩),
  (90, ⟨.struct [(0, 3, 1), (1, 9, 1), (2, 4, 1), (3, 9, 1), (4, 4, 1), (5, 9, 1)], 6, 72, [.int .i64 0, .str ⟨#[]⟩, .bool false, .str ⟨#[]⟩, .bool false, .str ⟨#[]⟩]⟩),
  (91, ⟨.func, 1, 8, [.nilf]⟩),
  (92, ⟨.func, 1, 8, [.nilf]⟩),
  (93, ⟨.func, 1, 8, [.nilf]⟩),
  (95, ⟨.func, 1, 8, [.nilf]⟩),
  (96, ⟨.func, 1, 8, [.nilf]⟩),
  (97, ⟨.func, 1, 8, [.nilf]⟩),
  (98, ⟨.func, 1, 8, [.nilf]⟩),
  (99, ⟨.func, 1, 8, [.nilf]⟩),
  (100, ⟨.func, 1, 8, [.nilf]⟩),
  (101, ⟨.ptr, 1, 8, [.nilp]⟩),
  (102, ⟨.func, 1, 8, [.nilf]⟩),
  (103, ⟨.func, 1, 8, [.nilf]⟩),
  (104, ⟨.ptr, 1, 8, [.nilp]⟩),
  (105, ⟨.func, 1, 8, [.nilf]⟩),
  (106, ⟨.func, 1, 8, [.nilf]⟩),
  (107, ⟨.func, 1, 8, [.nilf]⟩),
  (108, ⟨.func, 1, 8, [.nilf]⟩),
  (109, ⟨.other, 1, 8, [.nilm]⟩),
  (110, ⟨.struct [(0, 2, 1), (1, 2, 1)], 2, 16, [.int .i64 0, .int .i64 0]⟩),
  (111, ⟨.struct [(0, 2, 1), (1, 2, 1)], 2, 16, [.int .i64 0, .int .i64 0]⟩),
  (112, ⟨.struct [(0, 109, 1), (1, 111, 2)], 3, 24, [.nilm, .int .i64 0, .int .i64 0]⟩),
  (113, ⟨.struct [(0, 109, 1), (1, 111, 2)], 3, 24, [.nilm, .int .i64 0, .int .i64 0]⟩),
  (114, ⟨.func, 1, 8, [.nilf]⟩),
  (116, ⟨.func, 1, 8, [.nilf]⟩),
  (117, ⟨.func, 1, 8, [.nilf]⟩),
  (118, ⟨.func, 1, 8, [.nilf]⟩),
  (119, ⟨.func, 1, 8, [.nilf]⟩),
  (120, ⟨.func, 1, 8, [.nilf]⟩),
  (121, ⟨.struct [(0, 101, 1)], 1, 8, [.nilp]⟩),
  (122, ⟨.struct [(0, 101, 1)], 1, 8, [.nilp]⟩),
  (123, ⟨.func, 1, 8, [.nilf]⟩),
  (124, ⟨.func, 1, 8, [.nilf]⟩),
  (125, ⟨.struct [(0, 85, 2), (2, 101, 1), (3, 101, 1), (4, 3, 1), (5, 3, 1)], 6, 64, [.str ⟨#[]⟩, .str ⟨#[]⟩, .nilp, .nilp, .int .i64 0, .int .i64 0]⟩),
  (126, ⟨.struct [(0, 85, 2), (2, 101, 1), (3, 101, 1), (4, 3, 1), (5, 3, 1)], 6, 64, [.str ⟨#[]⟩, .str ⟨#[]⟩, .nilp, .nilp, .int .i64 0, .int .i64 0]⟩),
  (127, ⟨.func, 1, 8, [.nilf]⟩),
  (128, ⟨.func, 1, 8, [.nilf]⟩),
  (129, ⟨.func, 1, 8, [.nilf]⟩),
  (130, ⟨.func, 1, 8, [.nilf]⟩),
  (131, ⟨.func, 1, 8, [.nilf]⟩),
  (132, ⟨.func, 1, 8, [.nilf]⟩),
  (133, ⟨.func, 1, 8, [.nilf]⟩),
  (135, ⟨.func, 1, 8, [.nilf]⟩),
  (136, ⟨.func, 1, 8, [.nilf]⟩),
  (137, ⟨.func, 1, 8, [.nilf]⟩),
  (138, ⟨.func, 1, 8, [.nilf]⟩),
  (139, ⟨.func, 1, 8, [.nilf]⟩),
  (140, ⟨.func, 1, 8, [.nilf]⟩),
  (141, ⟨.int .u64, 1, 8, [.int .u64 0]⟩),
  (143, ⟨.func, 1, 8, [.nilf]⟩),
  (144, ⟨.func, 1, 8, [.nilf]⟩),
  (145, ⟨.int .i64, 1, 8, [.int .i64 0]⟩),
  (147, ⟨.func, 1, 8, [.nilf]⟩),
  (148, ⟨.func, 1, 8, [.nilf]⟩),
  (149, ⟨.func, 1, 8, [.nilf]⟩),
  (150, ⟨.func, 1, 8, [.nilf]⟩),
  (152, ⟨.func, 1, 8, [.nilf]⟩),
  (153, ⟨.func, 1, 8, [.nilf]⟩),
  (154, ⟨.int .u32, 1, 4, [.int .u32 0]⟩),
  (155, ⟨.func, 1, 8, [.nilf]⟩),
  (156, ⟨.func, 1, 8, [.nilf]⟩),
  (157, ⟨.int .u64, 1, 8, [.int .u64 0]⟩),
  (158, ⟨.func, 1, 8, [.nilf]⟩),
  (159, ⟨.func, 1, 8, [.nilf]⟩),
  (160, ⟨.func, 1, 8, [.nilf]⟩),
  (161, ⟨.ptr, 1, 8, [.nilp]⟩),
  (162, ⟨.func, 1, 8, [.nilf]⟩),
  (163, ⟨.ptr, 1, 8, [.nilp]⟩),
  (165, ⟨.func, 1, 8, [.nilf]⟩),
  (166, ⟨.func, 1, 8, [.nilf]⟩),
  (167, ⟨.struct [(0, 17, 1), (1, 17, 1), (2, 17, 1), (3, 9, 1)], 4, 40, [.nilp, .nilp, .nilp, .str ⟨#[]⟩]⟩),
  (168, ⟨.struct [(0, 17, 1), (1, 17, 1), (2, 17, 1), (3, 9, 1)], 4, 40, [.nilp, .nilp, .nilp, .str ⟨#[]⟩]⟩),
  (169, ⟨.array 0 16, 0, 0, []⟩),
  (170, ⟨.struct [(0, 169, 0)], 0, 0, []⟩),
  (171, ⟨.struct [(0, 169, 0)], 0, 0, []⟩),
  (172, ⟨.int .u8, 1, 1, [.int .u8 0]⟩),
  (173, ⟨.int .u8, 1, 1, [.int .u8 0]⟩),
  (174, ⟨.func, 1, 8, [.nilf]⟩),
  (175, ⟨.ptr, 1, 8, [.nilp]⟩),
  (176, ⟨.int .i32, 1, 4, [.int .i32 0]⟩),
  (177, ⟨.int .i32, 1, 4, [.int .i32 0]⟩),
  (178, ⟨.struct [(0, 12, 1), (1, 12, 1), (2, 154, 1), (3, 172, 1), (4, 5, 1), (5, 5, 1), (6, 173, 1), (7, 174, 1), (8, 175, 1), (9, 176, 1), (10, 177, 1)], 11, 48, [.int .u64 0, .int .u64 0, .int .u32 0, .int .u8 0, .int .u8 0, .int .u8 0, .int .u8 0, .nilf, .nilp, .int .i32 0, .int .i32 0]⟩),
  (179, ⟨.struct [(0, 12, 1), (1, 12, 1), (2, 154, 1), (3, 172, 1), (4, 5, 1), (5, 5, 1), (6, 173, 1), (7, 174, 1), (8, 175, 1), (9, 176, 1), (10, 177, 1)], 11, 48, [.int .u64 0, .int .u64 0, .int .u32 0, .int .u8 0, .int .u8 0, .int .u8 0, .int .u8 0, .nilf, .nilp, .int .i32 0, .int .i32 0]⟩)]
set_option maxHeartbeats 4000000 in
theorem tab_ok : (tab.all fun x => tib Try.prog x.1 x.2) = true := by kernel_rfl
theorem mixed : Try.prog.follows .mixedOrders = true := by kernel_rfl
def eqTs : List TypeId := [24, 59, 85, 90, 111]
def ptTs : List TypeId := [15, 17, 30, 31, 79, 101, 104, 161, 163, 175]
theorem eqTs_ok : (eqTs.all (eqb Try.prog)) = true := by kernel_rfl
theorem ptTs_ok : (ptTs.all (ptb Try.prog)) = true := by kernel_rfl
def TT (t : TypeId) : Option TI := lookT tab t
noncomputable def C : Ctx := ⟨Try.prog, TT, lookT_ok tab tab_ok, mixed, eqTs.elem, fun t h => eqb_ok (all_ok _ eqTs_ok t h), ptTs.elem, fun t h => ptb_ok (all_ok _ ptTs_ok t h)⟩
theorem E24 : C.E 24 = true := rfl
theorem E59 : C.E 59 = true := rfl
theorem E85 : C.E 85 = true := rfl
theorem E90 : C.E 90 = true := rfl
theorem E111 : C.E 111 = true := rfl
theorem Z15 : C.Z 15 = true := rfl
theorem Z17 : C.Z 17 = true := rfl
theorem Z30 : C.Z 30 = true := rfl
theorem Z31 : C.Z 31 = true := rfl
theorem Z79 : C.Z 79 = true := rfl
theorem Z101 : C.Z 101 = true := rfl
theorem Z104 : C.Z 104 = true := rfl
theorem Z161 : C.Z 161 = true := rfl
theorem Z163 : C.Z 163 = true := rfl
theorem Z175 : C.Z 175 = true := rfl
theorem CT (t : TypeId) : C.T t = TT t := rfl
theorem CP : C.P = Try.prog := rfl
theorem T1 : TT 1 = some ⟨.func, 1, 8, [.nilf]⟩ := rfl
theorem T2 : TT 2 = some ⟨.int .i64, 1, 8, [.int .i64 0]⟩ := rfl
theorem T3 : TT 3 = some ⟨.int .i64, 1, 8, [.int .i64 0]⟩ := rfl
theorem T4 : TT 4 = some ⟨.bool, 1, 1, [.bool false]⟩ := rfl
theorem T5 : TT 5 = some ⟨.int .u8, 1, 1, [.int .u8 0]⟩ := rfl
theorem T6 : TT 6 = some ⟨.int .u8, 1, 1, [.int .u8 0]⟩ := rfl
theorem T7 : TT 7 = some ⟨.struct [(0, 2, 1), (1, 3, 1), (2, 4, 1), (3, 6, 1)], 4, 24, [.int .i64 0, .int .i64 0, .bool false, .int .u8 0]⟩ := rfl
theorem T8 : TT 8 = some ⟨.struct [(0, 2, 1), (1, 3, 1), (2, 4, 1), (3, 6, 1)], 4, 24, [.int .i64 0, .int .i64 0, .bool false, .int .u8 0]⟩ := rfl
theorem T9 : TT 9 = some ⟨.str, 1, 16, [.str ⟨#[]⟩]⟩ := rfl
theorem T10 : TT 10 = some ⟨.str, 1, 16, [.str ⟨#[]⟩]⟩ := rfl
theorem T11 : TT 11 = some ⟨.str, 1, 16, [.str ⟨#[]⟩]⟩ := rfl
theorem T12 : TT 12 = some ⟨.int .u64, 1, 8, [.int .u64 0]⟩ := rfl
theorem T13 : TT 13 = some ⟨.struct [(0, 9, 1), (1, 12, 1)], 2, 24, [.str ⟨#[]⟩, .int .u64 0]⟩ := rfl
theorem T14 : TT 14 = some ⟨.struct [(0, 9, 1), (1, 12, 1)], 2, 24, [.str ⟨#[]⟩, .int .u64 0]⟩ := rfl
theorem T15 : TT 15 = some ⟨.ptr, 1, 8, [.nilp]⟩ := rfl
theorem T16 : TT 16 = some ⟨.ptr, 1, 8, [.nilp]⟩ := rfl
theorem T17 : TT 17 = some ⟨.ptr, 1, 8, [.nilp]⟩ := rfl
theorem T18 : TT 18 = some ⟨.struct [(0, 17, 1)], 1, 8, [.nilp]⟩ := rfl
theorem T19 : TT 19 = some ⟨.struct [(0, 17, 1)], 1, 8, [.nilp]⟩ := rfl
theorem T20 : TT 20 = some ⟨.iface, 1, 16, [.nili]⟩ := rfl
theorem T21 : TT 21 = some ⟨.int .i32, 1, 4, [.int .i32 0]⟩ := rfl
theorem T22 : TT 22 = some ⟨.slice 28, 1, 24, [.sl .no 6 []]⟩ := rfl
theorem T23 : TT 23 = some ⟨.struct [(0, 9, 1), (1, 3, 1), (2, 9, 1), (3, 9, 1)], 4, 56, [.str ⟨#[]⟩, .int .i64 0, .str ⟨#[]⟩, .str ⟨#[]⟩]⟩ := rfl
theorem T24 : TT 24 = some ⟨.struct [(0, 9, 1), (1, 3, 1), (2, 9, 1), (3, 9, 1)], 4, 56, [.str ⟨#[]⟩, .int .i64 0, .str ⟨#[]⟩, .str ⟨#[]⟩]⟩ := rfl
theorem T25 : TT 25 = some ⟨.func, 1, 8, [.nilf]⟩ := rfl
theorem T26 : TT 26 = some ⟨.slice 59, 1, 24, [.sl .no 3 []]⟩ := rfl
theorem T27 : TT 27 = some ⟨.struct [(0, 3, 1), (1, 26, 1), (2, 24, 4)], 6, 88, [.int .i64 0, .sl .no 3 [], .str ⟨#[]⟩, .int .i64 0, .str ⟨#[]⟩, .str ⟨#[]⟩]⟩ := rfl
theorem T28 : TT 28 = some ⟨.struct [(0, 3, 1), (1, 26, 1), (2, 24, 4)], 6, 88, [.int .i64 0, .sl .no 3 [], .str ⟨#[]⟩, .int .i64 0, .str ⟨#[]⟩, .str ⟨#[]⟩]⟩ := rfl
theorem T29 : TT 29 = some ⟨.func, 1, 8, [.nilf]⟩ := rfl
theorem T30 : TT 30 = some ⟨.ptr, 1, 8, [.nilp]⟩ := rfl
theorem T31 : TT 31 = some ⟨.ptr, 1, 8, [.nilp]⟩ := rfl
theorem T32 : TT 32 = some ⟨.struct [(0, 30, 1), (1, 31, 1)], 2, 16, [.nilp, .nilp]⟩ := rfl
theorem T33 : TT 33 = some ⟨.struct [(0, 30, 1), (1, 31, 1)], 2, 16, [.nilp, .nilp]⟩ := rfl
theorem T34 : TT 34 = some ⟨.func, 1, 8, [.nilf]⟩ := rfl
theorem T35 : TT 35 = some ⟨.int .i64, 1, 8, [.int .i64 0]⟩ := rfl
theorem T36 : TT 36 = some ⟨.func, 1, 8, [.nilf]⟩ := rfl
theorem T37 : TT 37 = some ⟨.int .u64, 1, 8, [.int .u64 0]⟩ := rfl
theorem T38 : TT 38 = some ⟨.func, 1, 8, [.nilf]⟩ := rfl
theorem T39 : TT 39 = some ⟨.func, 1, 8, [.nilf]⟩ := rfl
theorem T40 : TT 40 = some ⟨.func, 1, 8, [.nilf]⟩ := rfl
theorem T41 : TT 41 = some ⟨.slice 64, 1, 24, [.sl .no 3 []]⟩ := rfl
theorem T43 : TT 43 = some ⟨.func, 1, 8, [.nilf]⟩ := rfl
theorem T44 : TT 44 = some ⟨.func, 1, 8, [.nilf]⟩ := rfl
theorem T45 : TT 45 = some ⟨.func, 1, 8, [.nilf]⟩ := rfl
theorem T46 : TT 46 = some ⟨.slice 24, 1, 24, [.sl .no 4 []]⟩ := rfl
theorem T47 : TT 47 = some ⟨.func, 1, 8, [.nilf]⟩ := rfl
theorem T48 : TT 48 = some ⟨.slice 74, 1, 24, [.sl .no 5 []]⟩ := rfl
theorem T49 : TT 49 = some ⟨.struct [(0, 48, 1), (1, 4, 1)], 2, 32, [.sl .no 5 [], .bool false]⟩ := rfl
theorem T50 : TT 50 = some ⟨.struct [(0, 48, 1), (1, 4, 1)], 2, 32, [.sl .no 5 [], .bool false]⟩ := rfl
theorem T51 : TT 51 = some ⟨.slice 31, 1, 24, [.sl .no 1 []]⟩ := rfl
theorem T52 : TT 52 = some ⟨.func, 1, 8, [.nilf]⟩ := rfl
theorem T53 : TT 53 = some ⟨.func, 1, 8, [.nilf]⟩ := rfl
theorem T54 : TT 54 = some ⟨.func, 1, 8, [.nilf]⟩ := rfl
theorem T55 : TT 55 = some ⟨.func, 1, 8, [.nilf]⟩ := rfl
theorem T56 : TT 56 = some ⟨.func, 1, 8, [.nilf]⟩ := rfl
theorem T57 : TT 57 = some ⟨.func, 1, 8, [.nilf]⟩ := rfl
theorem T58 : TT 58 = some ⟨.struct [(0, 9, 1), (1, 4, 1), (2, 9, 1)], 3, 40, [.str ⟨#[]⟩, .bool false, .str ⟨#[]⟩]⟩ := rfl
theorem T59 : TT 59 = some ⟨.struct [(0, 9, 1), (1, 4, 1), (2, 9, 1)], 3, 40, [.str ⟨#[]⟩, .bool false, .str ⟨#[]⟩]⟩ := rfl
theorem T60 : TT 60 = some ⟨.func, 1, 8, [.nilf]⟩ := rfl
theorem T61 : TT 61 = some ⟨.func, 1, 8, [.nilf]⟩ := rfl
theorem T62 : TT 62 = some ⟨.slice 9, 1, 24, [.sl .no 1 []]⟩ := rfl
theorem T63 : TT 63 = some ⟨.struct [(0, 9, 1), (1, 62, 1), (2, 2, 1)], 3, 48, [.str ⟨#[]⟩, .sl .no 1 [], .int .i64 0]⟩ := rfl
theorem T64 : TT 64 = some ⟨.struct [(0, 9, 1), (1, 62, 1), (2, 2, 1)], 3, 48, [.str ⟨#[]⟩, .sl .no 1 [], .int .i64 0]⟩ := rfl
theorem T65 : TT 65 = some ⟨.func, 1, 8, [.nilf]⟩ := rfl
theorem T66 : TT 66 = some ⟨.slice 90, 1, 24, [.sl .no 6 []]⟩ := rfl
theorem T68 : TT 68 = some ⟨.func, 1, 8, [.nilf]⟩ := rfl
theorem T69 : TT 69 = some ⟨.func, 1, 8, [.nilf]⟩ := rfl
theorem T70 : TT 70 = some ⟨.func, 1, 8, [.nilf]⟩ := rfl
theorem T71 : TT 71 = some ⟨.func, 1, 8, [.nilf]⟩ := rfl
theorem T72 : TT 72 = some ⟨.other, 1, 8, [.nilm]⟩ := rfl
theorem T73 : TT 73 = some ⟨.struct [(0, 24, 4), (4, 72, 1)], 5, 64, [.str ⟨#[]⟩, .int .i64 0, .str ⟨#[]⟩, .str ⟨#[]⟩, .nilm]⟩ := rfl
theorem T74 : TT 74 = some ⟨.struct [(0, 24, 4), (4, 72, 1)], 5, 64, [.str ⟨#[]⟩, .int .i64 0, .str ⟨#[]⟩, .str ⟨#[]⟩, .nilm]⟩ := rfl
theorem T76 : TT 76 = some ⟨.func, 1, 8, [.nilf]⟩ := rfl
theorem T77 : TT 77 = some ⟨.func, 1, 8, [.nilf]⟩ := rfl
theorem T78 : TT 78 = some ⟨.slice 85, 1, 24, [.sl .no 2 []]⟩ := rfl
theorem T79 : TT 79 = some ⟨.ptr, 1, 8, [.nilp]⟩ := rfl
theorem T80 : TT 80 = some ⟨.struct [(0, 79, 1)], 1, 8, [.nilp]⟩ := rfl
theorem T81 : TT 81 = some ⟨.struct [(0, 79, 1)], 1, 8, [.nilp]⟩ := rfl
theorem T82 : TT 82 = some ⟨.func, 1, 8, [.nilf]⟩ := rfl
theorem T83 : TT 83 = some ⟨.func, 1, 8, [.nilf]⟩ := rfl
theorem T84 : TT 84 = some ⟨.struct [(0, 9, 1), (1, 9, 1)], 2, 32, [.str ⟨#[]⟩, .str ⟨#[]⟩]⟩ := rfl
theorem T85 : TT 85 = some ⟨.struct [(0, 9, 1), (1, 9, 1)], 2, 32, [.str ⟨#[]⟩, .str ⟨#[]⟩]⟩ := rfl
theorem T86 : TT 86 = some ⟨.func, 1, 8, [.nilf]⟩ := rfl
theorem T87 : TT 87 = some ⟨.func, 1, 8, [.nilf]⟩ := rfl
theorem T88 : TT 88 = some ⟨.func, 1, 8, [.nilf]⟩ := rfl
theorem T89 : TT 89 = some ⟨.struct [(0, 3, 1), (1, 9, 1), (2, 4, 1), (3, 9, 1), (4, 4, 1), (5, 9, 1)], 6, 72, [.int .i64 0, .str ⟨#[]⟩, .bool false, .str ⟨#[]⟩, .bool false, .str ⟨#[]⟩]⟩ := rfl
theorem T90 : TT 90 = some ⟨.struct [(0, 3, 1), (1, 9, 1), (2, 4, 1), (3, 9, 1), (4, 4, 1), (5, 9, 1)], 6, 72, [.int .i64 0, .str ⟨#[]⟩, .bool false, .str ⟨#[]⟩, .bool false, .str ⟨#[]⟩]⟩ := rfl
theorem T91 : TT 91 = some ⟨.func, 1, 8, [.nilf]⟩ := rfl
theorem T92 : TT 92 = some ⟨.func, 1, 8, [.nilf]⟩ := rfl
theorem T93 : TT 93 = some ⟨.func, 1, 8, [.nilf]⟩ := rfl
theorem T95 : TT 95 = some ⟨.func, 1, 8, [.nilf]⟩ := rfl
theorem T96 : TT 96 = some ⟨.func, 1, 8, [.nilf]⟩ := rfl
theorem T97 : TT 97 = some ⟨.func, 1, 8, [.nilf]⟩ := rfl
theorem T98 : TT 98 = some ⟨.func, 1, 8, [.nilf]⟩ := rfl
theorem T99 : TT 99 = some ⟨.func, 1, 8, [.nilf]⟩ := rfl
theorem T100 : TT 100 = some ⟨.func, 1, 8, [.nilf]⟩ := rfl
theorem T101 : TT 101 = some ⟨.ptr, 1, 8, [.nilp]⟩ := rfl
theorem T102 : TT 102 = some ⟨.func, 1, 8, [.nilf]⟩ := rfl
theorem T103 : TT 103 = some ⟨.func, 1, 8, [.nilf]⟩ := rfl
theorem T104 : TT 104 = some ⟨.ptr, 1, 8, [.nilp]⟩ := rfl
theorem T105 : TT 105 = some ⟨.func, 1, 8, [.nilf]⟩ := rfl
theorem T106 : TT 106 = some ⟨.func, 1, 8, [.nilf]⟩ := rfl
theorem T107 : TT 107 = some ⟨.func, 1, 8, [.nilf]⟩ := rfl
theorem T108 : TT 108 = some ⟨.func, 1, 8, [.nilf]⟩ := rfl
theorem T109 : TT 109 = some ⟨.other, 1, 8, [.nilm]⟩ := rfl
theorem T110 : TT 110 = some ⟨.struct [(0, 2, 1), (1, 2, 1)], 2, 16, [.int .i64 0, .int .i64 0]⟩ := rfl
theorem T111 : TT 111 = some ⟨.struct [(0, 2, 1), (1, 2, 1)], 2, 16, [.int .i64 0, .int .i64 0]⟩ := rfl
theorem T112 : TT 112 = some ⟨.struct [(0, 109, 1), (1, 111, 2)], 3, 24, [.nilm, .int .i64 0, .int .i64 0]⟩ := rfl
theorem T113 : TT 113 = some ⟨.struct [(0, 109, 1), (1, 111, 2)], 3, 24, [.nilm, .int .i64 0, .int .i64 0]⟩ := rfl
theorem T114 : TT 114 = some ⟨.func, 1, 8, [.nilf]⟩ := rfl
theorem T116 : TT 116 = some ⟨.func, 1, 8, [.nilf]⟩ := rfl
theorem T117 : TT 117 = some ⟨.func, 1, 8, [.nilf]⟩ := rfl
theorem T118 : TT 118 = some ⟨.func, 1, 8, [.nilf]⟩ := rfl
theorem T119 : TT 119 = some ⟨.func, 1, 8, [.nilf]⟩ := rfl
theorem T120 : TT 120 = some ⟨.func, 1, 8, [.nilf]⟩ := rfl
theorem T121 : TT 121 = some ⟨.struct [(0, 101, 1)], 1, 8, [.nilp]⟩ := rfl
theorem T122 : TT 122 = some ⟨.struct [(0, 101, 1)], 1, 8, [.nilp]⟩ := rfl
theorem T123 : TT 123 = some ⟨.func, 1, 8, [.nilf]⟩ := rfl
theorem T124 : TT 124 = some ⟨.func, 1, 8, [.nilf]⟩ := rfl
theorem T125 : TT 125 = some ⟨.struct [(0, 85, 2), (2, 101, 1), (3, 101, 1), (4, 3, 1), (5, 3, 1)], 6, 64, [.str ⟨#[]⟩, .str ⟨#[]⟩, .nilp, .nilp, .int .i64 0, .int .i64 0]⟩ := rfl
theorem T126 : TT 126 = some ⟨.struct [(0, 85, 2), (2, 101, 1), (3, 101, 1), (4, 3, 1), (5, 3, 1)], 6, 64, [.str ⟨#[]⟩, .str ⟨#[]⟩, .nilp, .nilp, .int .i64 0, .int .i64 0]⟩ := rfl
theorem T127 : TT 127 = some ⟨.func, 1, 8, [.nilf]⟩ := rfl
theorem T128 : TT 128 = some ⟨.func, 1, 8, [.nilf]⟩ := rfl
theorem T129 : TT 129 = some ⟨.func, 1, 8, [.nilf]⟩ := rfl
theorem T130 : TT 130 = some ⟨.func, 1, 8, [.nilf]⟩ := rfl
theorem T131 : TT 131 = some ⟨.func, 1, 8, [.nilf]⟩ := rfl
theorem T132 : TT 132 = some ⟨.func, 1, 8, [.nilf]⟩ := rfl
theorem T133 : TT 133 = some ⟨.func, 1, 8, [.nilf]⟩ := rfl
theorem T135 : TT 135 = some ⟨.func, 1, 8, [.nilf]⟩ := rfl
theorem T136 : TT 136 = some ⟨.func, 1, 8, [.nilf]⟩ := rfl
theorem T137 : TT 137 = some ⟨.func, 1, 8, [.nilf]⟩ := rfl
theorem T138 : TT 138 = some ⟨.func, 1, 8, [.nilf]⟩ := rfl
theorem T139 : TT 139 = some ⟨.func, 1, 8, [.nilf]⟩ := rfl
theorem T140 : TT 140 = some ⟨.func, 1, 8, [.nilf]⟩ := rfl
theorem T141 : TT 141 = some ⟨.int .u64, 1, 8, [.int .u64 0]⟩ := rfl
theorem T143 : TT 143 = some ⟨.func, 1, 8, [.nilf]⟩ := rfl
theorem T144 : TT 144 = some ⟨.func, 1, 8, [.nilf]⟩ := rfl
theorem T145 : TT 145 = some ⟨.int .i64, 1, 8, [.int .i64 0]⟩ := rfl
theorem T147 : TT 147 = some ⟨.func, 1, 8, [.nilf]⟩ := rfl
theorem T148 : TT 148 = some ⟨.func, 1, 8, [.nilf]⟩ := rfl
theorem T149 : TT 149 = some ⟨.func, 1, 8, [.nilf]⟩ := rfl
theorem T150 : TT 150 = some ⟨.func, 1, 8, [.nilf]⟩ := rfl
theorem T152 : TT 152 = some ⟨.func, 1, 8, [.nilf]⟩ := rfl
theorem T153 : TT 153 = some ⟨.func, 1, 8, [.nilf]⟩ := rfl
theorem T154 : TT 154 = some ⟨.int .u32, 1, 4, [.int .u32 0]⟩ := rfl
theorem T155 : TT 155 = some ⟨.func, 1, 8, [.nilf]⟩ := rfl
theorem T156 : TT 156 = some ⟨.func, 1, 8, [.nilf]⟩ := rfl
theorem T157 : TT 157 = some ⟨.int .u64, 1, 8, [.int .u64 0]⟩ := rfl
theorem T158 : TT 158 = some ⟨.func, 1, 8, [.nilf]⟩ := rfl
theorem T159 : TT 159 = some ⟨.func, 1, 8, [.nilf]⟩ := rfl
theorem T160 : TT 160 = some ⟨.func, 1, 8, [.nilf]⟩ := rfl
theorem T161 : TT 161 = some ⟨.ptr, 1, 8, [.nilp]⟩ := rfl
theorem T162 : TT 162 = some ⟨.func, 1, 8, [.nilf]⟩ := rfl
theorem T163 : TT 163 = some ⟨.ptr, 1, 8, [.nilp]⟩ := rfl
theorem T165 : TT 165 = some ⟨.func, 1, 8, [.nilf]⟩ := rfl
theorem T166 : TT 166 = some ⟨.func, 1, 8, [.nilf]⟩ := rfl
theorem T167 : TT 167 = some ⟨.struct [(0, 17, 1), (1, 17, 1), (2, 17, 1), (3, 9, 1)], 4, 40, [.nilp, .nilp, .nilp, .str ⟨#[]⟩]⟩ := rfl
theorem T168 : TT 168 = some ⟨.struct [(0, 17, 1), (1, 17, 1), (2, 17, 1), (3, 9, 1)], 4, 40, [.nilp, .nilp, .nilp, .str ⟨#[]⟩]⟩ := rfl
theorem T169 : TT 169 = some ⟨.array 0 16, 0, 0, []⟩ := rfl
theorem T170 : TT 170 = some ⟨.struct [(0, 169, 0)], 0, 0, []⟩ := rfl
theorem T171 : TT 171 = some ⟨.struct [(0, 169, 0)], 0, 0, []⟩ := rfl
theorem T172 : TT 172 = some ⟨.int .u8, 1, 1, [.int .u8 0]⟩ := rfl
theorem T173 : TT 173 = some ⟨.int .u8, 1, 1, [.int .u8 0]⟩ := rfl
theorem T174 : TT 174 = some ⟨.func, 1, 8, [.nilf]⟩ := rfl
theorem T175 : TT 175 = some ⟨.ptr, 1, 8, [.nilp]⟩ := rfl
theorem T176 : TT 176 = some ⟨.int .i32, 1, 4, [.int .i32 0]⟩ := rfl
theorem T177 : TT 177 = some ⟨.int .i32, 1, 4, [.int .i32 0]⟩ := rfl
theorem T178 : TT 178 = some ⟨.struct [(0, 12, 1), (1, 12, 1), (2, 154, 1), (3, 172, 1), (4, 5, 1), (5, 5, 1), (6, 173, 1), (7, 174, 1), (8, 175, 1), (9, 176, 1), (10, 177, 1)], 11, 48, [.int .u64 0, .int .u64 0, .int .u32 0, .int .u8 0, .int .u8 0, .int .u8 0, .int .u8 0, .nilf, .nilp, .int .i32 0, .int .i32 0]⟩ := rfl
theorem T179 : TT 179 = some ⟨.struct [(0, 12, 1), (1, 12, 1), (2, 154, 1), (3, 172, 1), (4, 5, 1), (5, 5, 1), (6, 173, 1), (7, 174, 1), (8, 175, 1), (9, 176, 1), (10, 177, 1)], 11, 48, [.int .u64 0, .int .u64 0, .int .u32 0, .int .u8 0, .int .u8 0, .int .u8 0, .int .u8 0, .nilf, .nilp, .int .i32 0, .int .i32 0]⟩ := rfl
theorem PZ72 : pvZ (.agg #[.map none, .int .i64 0, .int .i64 0]) = .agg [.nilm, .int .i64 0, .int .i64 0] := rfl
attribute [go_sem] PZ72
theorem M72 : mapS Try.prog 72 = some (.agg #[.map none, .int .i64 0, .int .i64 0]) := by kernel_rfl
theorem M109 : mapS Try.prog 109 = some (.bool false) := by kernel_rfl
attribute [go_sem] M72 M109
attribute [go_sem] CT CP T1 T2 T3 T4 T5 T6 T7 T8 T9 T10 T11 T12 T13 T14 T15 T16 T17 T18 T19 T20 T21 T22 T23 T24 T25 T26 T27 T28 T29 T30 T31 T32 T33 T34 T35 T36 T37 T38 T39 T40 T41 T43 T44 T45 T46 T47 T48 T49 T50 T51 T52 T53 T54 T55 T56 T57 T58 T59 T60 T61 T62 T63 T64 T65 T66 T68 T69 T70 T71 T72 T73 T74 T76 T77 T78 T79 T80 T81 T82 T83 T84 T85 T86 T87 T88 T89 T90 T91 T92 T93 T95 T96 T97 T98 T99 T100 T101 T102 T103 T104 T105 T106 T107 T108 T109 T110 T111 T112 T113 T114 T116 T117 T118 T119 T120 T121 T122 T123 T124 T125 T126 T127 T128 T129 T130 T131 T132 T133 T135 T136 T137 T138 T139 T140 T141 T143 T144 T145 T147 T148 T149 T150 T152 T153 T154 T155 T156 T157 T158 T159 T160 T161 T162 T163 T165 T166 T167 T168 T169 T170 T171 T172 T173 T174 T175 T176 T177 T178 T179 E24 E59 E85 E90 E111 Z15 Z17 Z30 Z31 Z79 Z101 Z104 Z161 Z163 Z175
end Go.Proofs.Ytdioedabjaaboaa.V
