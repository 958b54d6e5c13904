/- The table of types of this program, and the setting of the walks. -/
import Derived.Test.YtdioedabjaaboaaGreatVL21
import Derived.Test.YtdioedabjaaboaaGreatProg
import Derived.Eval
set_option maxRecDepth 100000
namespace Go.Proofs.YtdioedabjaaboaaGreat.V
open Go Go.VL

def tab : List (TypeId × TI) := [
 (1, ⟨.func, 1, 8, [.nilf]⟩),
 (2, ⟨.int .i64, 1, 8, [.int .i64 0]⟩),
 (3, ⟨.int .i64, 1, 8, [.int .i64 0]⟩),
 (4, ⟨.bool, 1, 1, [.bool false]⟩),
 (5, ⟨.int .u8, 1, 1, [.int .u8 0]⟩),
 (6, ⟨.int .u8, 1, 1, [.int .u8 0]⟩),
 (7, ⟨.struct [(0, 2, 1), (1, 3, 1), (2, 4, 1), (3, 6, 1)], 4, 24, [.int .i64 0, .int .i64 0, .bool false, .int .u8 0]⟩),
 (8, ⟨.struct [(0, 2, 1), (1, 3, 1), (2, 4, 1), (3, 6, 1)], 4, 24, [.int .i64 0, .int .i64 0, .bool false, .int .u8 0]⟩),
 (9, ⟨.str, 1, 16, [.str ⟨#[]⟩]⟩),
 (10, ⟨.str, 1, 16, [.str ⟨#[]⟩]⟩),
 (11, ⟨.str, 1, 16, [.str ⟨#[]⟩]⟩),
 (12, ⟨.int .u64, 1, 8, [.int .u64 0]⟩),
 (13, ⟨.struct [(0, 9, 1), (1, 12, 1)], 2, 24, [.str ⟨#[]⟩, .int .u64 0]⟩),
 (14, ⟨.struct [(0, 9, 1), (1, 12, 1)], 2, 24, [.str ⟨#[]⟩, .int .u64 0]⟩),
 (15, ⟨.ptr, 1, 8, [.nilp]⟩),
 (16, ⟨.ptr, 1, 8, [.nilp]⟩),
 (17, ⟨.ptr, 1, 8, [.nilp]⟩),
 (18, ⟨.struct [(0, 17, 1)], 1, 8, [.nilp]⟩),
 (19, ⟨.struct [(0, 17, 1)], 1, 8, [.nilp]⟩),
 (20, ⟨.iface, 1, 16, [.nili]⟩),
 (21, ⟨.int .i32, 1, 4, [.int .i32 0]⟩),
 (22, ⟨.slice 9, 1, 24, [.sl .no 1 []]⟩),
 (23, ⟨.slice 26, 1, 24, [.sl .no 3 []]⟩),
 (24, ⟨.func, 1, 8, [.nilf]⟩),
 (25, ⟨.struct [(0, 9, 1), (1, 4, 1), (2, 9, 1)], 3, 40, [.str ⟨#[]⟩, .bool false, .str ⟨#[]⟩]⟩),
 (26, ⟨.struct [(0, 9, 1), (1, 4, 1), (2, 9, 1)], 3, 40, [.str ⟨#[]⟩, .bool false, .str ⟨#[]⟩]⟩),
 (27, ⟨.func, 1, 8, [.nilf]⟩),
 (28, ⟨.slice 5, 1, 24, [.sl .no 1 []]⟩),
 (29, ⟨.slice 53, 1, 24, [.sl .no 3 []]⟩),
 (30, ⟨.int .i64, 1, 8, [.int .i64 0]⟩),
 (32, ⟨.func, 1, 8, [.nilf]⟩),
 (33, ⟨.struct [(0, 9, 1), (1, 3, 1), (2, 9, 1), (3, 9, 1)], 4, 56, [.str ⟨#[]⟩, .int .i64 0, .str ⟨#[]⟩, .str ⟨#[]⟩]⟩),
 (34, ⟨.struct [(0, 9, 1), (1, 3, 1), (2, 9, 1), (3, 9, 1)], 4, 56, [.str ⟨#[]⟩, .int .i64 0, .str ⟨#[]⟩, .str ⟨#[]⟩]⟩),
 (35, ⟨.func, 1, 8, [.nilf]⟩),
 (36, ⟨.int .u64, 1, 8, [.int .u64 0]⟩),
 (37, ⟨.func, 1, 8, [.nilf]⟩),
 (38, ⟨.func, 1, 8, [.nilf]⟩),
 (39, ⟨.func, 1, 8, [.nilf]⟩),
 (40, ⟨.func, 1, 8, [.nilf]⟩),
 (41, ⟨.struct [(0, 3, 1), (1, 23, 1), (2, 34, 4)], 6, 88, [.int .i64 0, .sl .no 3 [], .str ⟨#[]⟩, .int .i64 0, .str ⟨#[]⟩, .str ⟨#[]⟩]⟩),
 (42, ⟨.struct [(0, 3, 1), (1, 23, 1), (2, 34, 4)], 6, 88, [.int .i64 0, .sl .no 3 [], .str ⟨#[]⟩, .int .i64 0, .str ⟨#[]⟩, .str ⟨#[]⟩]⟩),
 (43, ⟨.slice 42, 1, 24, [.sl .no 6 []]⟩),
 (44, ⟨.ptr, 1, 8, [.nilp]⟩),
 (45, ⟨.func, 1, 8, [.nilf]⟩),
 (46, ⟨.slice 113, 1, 24, [.sl .no 6 []]⟩),
 (48, ⟨.func, 1, 8, [.nilf]⟩),
 (49, ⟨.func, 1, 8, [.nilf]⟩),
 (50, ⟨.func, 1, 8, [.nilf]⟩),
 (51, ⟨.func, 1, 8, [.nilf]⟩),
 (52, ⟨.struct [(0, 9, 1), (1, 22, 1), (2, 2, 1)], 3, 48, [.str ⟨#[]⟩, .sl .no 1 [], .int .i64 0]⟩),
 (53, ⟨.struct [(0, 9, 1), (1, 22, 1), (2, 2, 1)], 3, 48, [.str ⟨#[]⟩, .sl .no 1 [], .int .i64 0]⟩),
 (54, ⟨.func, 1, 8, [.nilf]⟩),
 (55, ⟨.ptr, 1, 8, [.nilp]⟩),
 (56, ⟨.struct [(0, 44, 1), (1, 55, 1)], 2, 16, [.nilp, .nilp]⟩),
 (57, ⟨.struct [(0, 44, 1), (1, 55, 1)], 2, 16, [.nilp, .nilp]⟩),
 (58, ⟨.func, 1, 8, [.nilf]⟩),
 (59, ⟨.func, 1, 8, [.nilf]⟩),
 (60, ⟨.func, 1, 8, [.nilf]⟩),
 (61, ⟨.func, 1, 8, [.nilf]⟩),
 (62, ⟨.ptr, 1, 8, [.nilp]⟩),
 (63, ⟨.slice 34, 1, 24, [.sl .no 4 []]⟩),
 (64, ⟨.func, 1, 8, [.nilf]⟩),
 (65, ⟨.struct [(0, 63, 1)], 1, 24, [.sl .no 4 []]⟩),
 (66, ⟨.struct [(0, 63, 1)], 1, 24, [.sl .no 4 []]⟩),
 (67, ⟨.func, 1, 8, [.nilf]⟩),
 (68, ⟨.func, 1, 8, [.nilf]⟩),
 (69, ⟨.func, 1, 8, [.nilf]⟩),
 (70, ⟨.func, 1, 8, [.nilf]⟩),
 (71, ⟨.func, 1, 8, [.nilf]⟩),
 (72, ⟨.func, 1, 8, [.nilf]⟩),
 (73, ⟨.func, 1, 8, [.nilf]⟩),
 (74, ⟨.func, 1, 8, [.nilf]⟩),
 (75, ⟨.ptr, 1, 8, [.nilp]⟩),
 (76, ⟨.func, 1, 8, [.nilf]⟩),
 (77, ⟨.func, 1, 8, [.nilf]⟩),
 (78, ⟨.func, 1, 8, [.nilf]⟩),
 (79, ⟨.func, 1, 8, [.nilf]⟩),
 (80, ⟨.ptr, 1, 8, [.nilp]⟩),
 (81, ⟨.struct [(0, 28, 1), (1, 3, 1), (2, 30, 1)], 3, 40, [.sl .no 1 [], .int .i64 0, .int .i64 0]⟩),
 (82, ⟨.struct [(0, 28, 1), (1, 3, 1), (2, 30, 1)], 3, 40, [.sl .no 1 [], .int .i64 0, .int .i64 0]⟩),
 (83, ⟨.func, 1, 8, [.nilf]⟩),
 (84, ⟨.func, 1, 8, [.nilf]⟩),
 (85, ⟨.func, 1, 8, [.nilf]⟩),
 (86, ⟨.other, 1, 8, [.nilm]⟩),
 (87, ⟨.struct [(0, 34, 4), (4, 86, 1)], 5, 64, [.str ⟨#[]⟩, .int .i64 0, .str ⟨#[]⟩, .str ⟨#[]⟩, .nilm]⟩),
 (88, ⟨.struct [(0, 34, 4), (4, 86, 1)], 5, 64, [.str ⟨#[]⟩, .int .i64 0, .str ⟨#[]⟩, .str ⟨#[]⟩, .nilm]⟩),
 (90, ⟨.func, 1, 8, [.nilf]⟩),
 (91, ⟨.func, 1, 8, [.nilf]⟩),
 (93, ⟨.func, 1, 8, [.nilf]⟩),
 (94, ⟨.func, 1, 8, [.nilf]⟩),
 (95, ⟨.slice 2, 1, 24, [.sl .no 1 []]⟩),
 (97, ⟨.func, 1, 8, [.nilf]⟩),
 (99, ⟨.func, 1, 8, [.nilf]⟩),
 (100, ⟨.func, 1, 8, [.nilf]⟩),
 (101, ⟨.ptr, 1, 8, [.nilp]⟩),
 (102, ⟨.func, 1, 8, [.nilf]⟩),
 (103, ⟨.struct [(0, 101, 1)], 1, 8, [.nilp]⟩),
 (104, ⟨.struct [(0, 101, 1)], 1, 8, [.nilp]⟩),
 (105, ⟨.slice 108, 1, 24, [.sl .no 2 []]⟩),
 (106, ⟨.func, 1, 8, [.nilf]⟩),
 (107, ⟨.struct [(0, 9, 1), (1, 9, 1)], 2, 32, [.str ⟨#[]⟩, .str ⟨#[]⟩]⟩),
 (108, ⟨.struct [(0, 9, 1), (1, 9, 1)], 2, 32, [.str ⟨#[]⟩, .str ⟨#[]⟩]⟩),
 (109, ⟨.func, 1, 8, [.nilf]⟩),
 (110, ⟨.func, 1, 8, [.nilf]⟩),
 (111, ⟨.func, 1, 8, [.nilf]⟩),
 (112, ⟨.struct [(0, 3, 1), (1, 9, 1), (2, 4, 1), (3, 9, 1), (4, 4, 1), (5, 9, 1)], 6, 72, [.int .i64 0, .str ⟨#[]⟩, .bool false, .str ⟨#[]⟩, .bool false, .str ⟨#[]⟩]⟩),
 (113, ⟨.struct [(0, 3, 1), (1, 9, 1), (2, 4, 1), (3, 9, 1), (4, 4, 1), (5, 9, 1)], 6, 72, [.int .i64 0, .str ⟨#[]⟩, .bool false, .str ⟨#[]⟩, .bool false, .str ⟨#[]⟩]⟩),
 (114, ⟨.slice 88, 1, 24, [.sl .no 5 []]⟩),
 (115, ⟨.struct [(0, 114, 1), (1, 4, 1)], 2, 32, [.sl .no 5 [], .bool false]⟩),
 (116, ⟨.struct [(0, 114, 1), (1, 4, 1)], 2, 32, [.sl .no 5 [], .bool false]⟩),
 (117, ⟨.func, 1, 8, [.nilf]⟩),
 (118, ⟨.func, 1, 8, [.nilf]⟩),
 (119, ⟨.func, 1, 8, [.nilf]⟩),
 (120, ⟨.func, 1, 8, [.nilf]⟩),
 (121, ⟨.func, 1, 8, [.nilf]⟩),
 (122, ⟨.func, 1, 8, [.nilf]⟩),
 (123, ⟨.func, 1, 8, [.nilf]⟩),
 (124, ⟨.struct [(0, 28, 1), (1, 3, 1), (2, 30, 1), (3, 4, 1)], 4, 48, [.sl .no 1 [], .int .i64 0, .int .i64 0, .bool false]⟩),
 (125, ⟨.struct [(0, 28, 1), (1, 3, 1), (2, 30, 1), (3, 4, 1)], 4, 48, [.sl .no 1 [], .int .i64 0, .int .i64 0, .bool false]⟩),
 (126, ⟨.func, 1, 8, [.nilf]⟩),
 (127, ⟨.ptr, 1, 8, [.nilp]⟩),
 (128, ⟨.func, 1, 8, [.nilf]⟩),
 (129, ⟨.func, 1, 8, [.nilf]⟩),
 (130, ⟨.func, 1, 8, [.nilf]⟩),
 (131, ⟨.func, 1, 8, [.nilf]⟩),
 (132, ⟨.other, 1, 8, [.nilm]⟩),
 (133, ⟨.struct [(0, 2, 1), (1, 2, 1)], 2, 16, [.int .i64 0, .int .i64 0]⟩),
 (134, ⟨.struct [(0, 2, 1), (1, 2, 1)], 2, 16, [.int .i64 0, .int .i64 0]⟩),
 (135, ⟨.struct [(0, 132, 1), (1, 134, 2)], 3, 24, [.nilm, .int .i64 0, .int .i64 0]⟩),
 (136, ⟨.struct [(0, 132, 1), (1, 134, 2)], 3, 24, [.nilm, .int .i64 0, .int .i64 0]⟩),
 (137, ⟨.func, 1, 8, [.nilf]⟩),
 (138, ⟨.func, 1, 8, [.nilf]⟩),
 (139, ⟨.func, 1, 8, [.nilf]⟩),
 (140, ⟨.ptr, 1, 8, [.nilp]⟩),
 (141, ⟨.struct [(0, 140, 1)], 1, 8, [.nilp]⟩),
 (142, ⟨.struct [(0, 140, 1)], 1, 8, [.nilp]⟩),
 (143, ⟨.func, 1, 8, [.nilf]⟩),
 (144, ⟨.func, 1, 8, [.nilf]⟩),
 (145, ⟨.func, 1, 8, [.nilf]⟩),
 (146, ⟨.func, 1, 8, [.nilf]⟩),
 (147, ⟨.func, 1, 8, [.nilf]⟩),
 (148, ⟨.func, 1, 8, [.nilf]⟩),
 (149, ⟨.func, 1, 8, [.nilf]⟩),
 (150, ⟨.func, 1, 8, [.nilf]⟩),
 (151, ⟨.struct [(0, 108, 2), (2, 140, 1), (3, 140, 1), (4, 3, 1), (5, 3, 1)], 6, 64, [.str ⟨#[]⟩, .str ⟨#[]⟩, .nilp, .nilp, .int .i64 0, .int .i64 0]⟩),
 (152, ⟨.struct [(0, 108, 2), (2, 140, 1), (3, 140, 1), (4, 3, 1), (5, 3, 1)], 6, 64, [.str ⟨#[]⟩, .str ⟨#[]⟩, .nilp, .nilp, .int .i64 0, .int .i64 0]⟩),
 (153, ⟨.func, 1, 8, [.nilf]⟩),
 (154, ⟨.func, 1, 8, [.nilf]⟩),
 (155, ⟨.func, 1, 8, [.nilf]⟩),
 (156, ⟨.func, 1, 8, [.nilf]⟩),
 (157, ⟨.func, 1, 8, [.nilf]⟩),
 (158, ⟨.func, 1, 8, [.nilf]⟩),
 (159, ⟨.int .u64, 1, 8, [.int .u64 0]⟩),
 (161, ⟨.func, 1, 8, [.nilf]⟩),
 (162, ⟨.func, 1, 8, [.nilf]⟩),
 (163, ⟨.func, 1, 8, [.nilf]⟩),
 (164, ⟨.func, 1, 8, [.nilf]⟩),
 (165, ⟨.func, 1, 8, [.nilf]⟩),
 (166, ⟨.func, 1, 8, [.nilf]⟩),
 (167, ⟨.slice 3, 1, 24, [.sl .no 1 []]⟩),
 (168, ⟨.func, 1, 8, [.nilf]⟩),
 (169, ⟨.func, 1, 8, [.nilf]⟩),
 (170, ⟨.func, 1, 8, [.nilf]⟩),
 (171, ⟨.func, 1, 8, [.nilf]⟩),
 (172, ⟨.func, 1, 8, [.nilf]⟩),
 (173, ⟨.func, 1, 8, [.nilf]⟩),
 (175, ⟨.func, 1, 8, [.nilf]⟩),
 (176, ⟨.func, 1, 8, [.nilf]⟩),
 (177, ⟨.int .i64, 1, 8, [.int .i64 0]⟩),
 (179, ⟨.func, 1, 8, [.nilf]⟩),
 (180, ⟨.func, 1, 8, [.nilf]⟩),
 (181, ⟨.func, 1, 8, [.nilf]⟩),
 (182, ⟨.func, 1, 8, [.nilf]⟩),
 (184, ⟨.func, 1, 8, [.nilf]⟩),
 (185, ⟨.func, 1, 8, [.nilf]⟩),
 (186, ⟨.int .u32, 1, 4, [.int .u32 0]⟩),
 (187, ⟨.func, 1, 8, [.nilf]⟩),
 (188, ⟨.func, 1, 8, [.nilf]⟩),
 (189, ⟨.int .u64, 1, 8, [.int .u64 0]⟩),
 (190, ⟨.func, 1, 8, [.nilf]⟩),
 (191, ⟨.func, 1, 8, [.nilf]⟩),
 (192, ⟨.func, 1, 8, [.nilf]⟩),
 (193, ⟨.ptr, 1, 8, [.nilp]⟩),
 (194, ⟨.func, 1, 8, [.nilf]⟩),
 (195, ⟨.ptr, 1, 8, [.nilp]⟩),
 (197, ⟨.func, 1, 8, [.nilf]⟩),
 (198, ⟨.func, 1, 8, [.nilf]⟩),
 (199, ⟨.struct [(0, 17, 1), (1, 17, 1), (2, 17, 1), (3, 9, 1)], 4, 40, [.nilp, .nilp, .nilp, .str ⟨#[]⟩]⟩),
 (200, ⟨.struct [(0, 17, 1), (1, 17, 1), (2, 17, 1), (3, 9, 1)], 4, 40, [.nilp, .nilp, .nilp, .str ⟨#[]⟩]⟩),
 (201, ⟨.array 0 16, 0, 0, []⟩),
 (202, ⟨.struct [(0, 201, 0)], 0, 0, []⟩),
 (203, ⟨.struct [(0, 201, 0)], 0, 0, []⟩),
 (204, ⟨.int .u8, 1, 1, [.int .u8 0]⟩),
 (205, ⟨.int .u8, 1, 1, [.int .u8 0]⟩),
 (206, ⟨.func, 1, 8, [.nilf]⟩),
 (207, ⟨.ptr, 1, 8, [.nilp]⟩),
 (208, ⟨.int .i32, 1, 4, [.int .i32 0]⟩),
 (209, ⟨.int .i32, 1, 4, [.int .i32 0]⟩),
 (210, ⟨.struct [(0, 12, 1), (1, 12, 1), (2, 186, 1), (3, 204, 1), (4, 5, 1), (5, 5, 1), (6, 205, 1), (7, 206, 1), (8, 207, 1), (9, 208, 1), (10, 209, 1)], 11, 48, [.int .u64 0, .int .u64 0, .int .u32 0, .int .u8 0, .int .u8 0, .int .u8 0, .int .u8 0, .nilf, .nilp, .int .i32 0, .int .i32 0]⟩),
 (211, ⟨.struct [(0, 12, 1), (1, 12, 1), (2, 186, 1), (3, 204, 1), (4, 5, 1), (5, 5, 1), (6, 205, 1), (7, 206, 1), (8, 207, 1), (9, 208, 1), (10, 209, 1)], 11, 48, [.int .u64 0, .int .u64 0, .int .u32 0, .int .u8 0, .int .u8 0, .int .u8 0, .int .u8 0, .nilf, .nilp, .int .i32 0, .int .i32 0]⟩)]
set_option maxHeartbeats 4000000 in
theorem tab_ok : (tab.all fun x => tib Tryz.prog x.1 x.2) = true := by kernel_rfl
theorem mixed : Tryz.prog.follows .mixedOrders = true := by kernel_rfl
def eqTs : List TypeId := [26, 34, 108, 113, 134]
def ptTs : List TypeId := [15, 17, 44, 55, 62, 75, 80, 101, 127, 140, 193, 195, 207]
theorem eqTs_ok : (eqTs.all (eqb Tryz.prog)) = true := by kernel_rfl
theorem ptTs_ok : (ptTs.all (ptb Tryz.prog)) = true := by kernel_rfl
def TT (t : TypeId) : Option TI := lookT tab t
noncomputable def C : Ctx := ⟨Tryz.prog, TT, lookT_ok tab tab_ok, mixed, eqTs.elem, fun t h => eqb_ok (all_ok _ eqTs_ok t h), ptTs.elem, fun t h => ptb_ok (all_ok _ ptTs_ok t h)⟩
theorem E34 : C.E 34 = true := rfl
theorem Z44 : C.Z 44 = true := rfl
theorem Z55 : C.Z 55 = true := rfl
theorem Z75 : C.Z 75 = true := rfl
theorem Z101 : C.Z 101 = true := rfl
theorem Z140 : C.Z 140 = true := rfl
theorem CT (t : TypeId) : C.T t = TT t := rfl
theorem CP : C.P = Tryz.prog := rfl
theorem T2 : TT 2 = some ⟨.int .i64, 1, 8, [.int .i64 0]⟩ := rfl
theorem T3 : TT 3 = some ⟨.int .i64, 1, 8, [.int .i64 0]⟩ := rfl
theorem T4 : TT 4 = some ⟨.bool, 1, 1, [.bool false]⟩ := rfl
theorem T5 : TT 5 = some ⟨.int .u8, 1, 1, [.int .u8 0]⟩ := rfl
theorem T9 : TT 9 = some ⟨.str, 1, 16, [.str ⟨#[]⟩]⟩ := rfl
theorem T21 : TT 21 = some ⟨.int .i32, 1, 4, [.int .i32 0]⟩ := rfl
theorem T22 : TT 22 = some ⟨.slice 9, 1, 24, [.sl .no 1 []]⟩ := rfl
theorem T23 : TT 23 = some ⟨.slice 26, 1, 24, [.sl .no 3 []]⟩ := rfl
theorem T26 : TT 26 = some ⟨.struct [(0, 9, 1), (1, 4, 1), (2, 9, 1)], 3, 40, [.str ⟨#[]⟩, .bool false, .str ⟨#[]⟩]⟩ := rfl
theorem T28 : TT 28 = some ⟨.slice 5, 1, 24, [.sl .no 1 []]⟩ := rfl
theorem T29 : TT 29 = some ⟨.slice 53, 1, 24, [.sl .no 3 []]⟩ := rfl
theorem T30 : TT 30 = some ⟨.int .i64, 1, 8, [.int .i64 0]⟩ := rfl
theorem T34 : TT 34 = some ⟨.struct [(0, 9, 1), (1, 3, 1), (2, 9, 1), (3, 9, 1)], 4, 56, [.str ⟨#[]⟩, .int .i64 0, .str ⟨#[]⟩, .str ⟨#[]⟩]⟩ := rfl
theorem T36 : TT 36 = some ⟨.int .u64, 1, 8, [.int .u64 0]⟩ := rfl
theorem T42 : TT 42 = some ⟨.struct [(0, 3, 1), (1, 23, 1), (2, 34, 4)], 6, 88, [.int .i64 0, .sl .no 3 [], .str ⟨#[]⟩, .int .i64 0, .str ⟨#[]⟩, .str ⟨#[]⟩]⟩ := rfl
theorem T43 : TT 43 = some ⟨.slice 42, 1, 24, [.sl .no 6 []]⟩ := rfl
theorem T44 : TT 44 = some ⟨.ptr, 1, 8, [.nilp]⟩ := rfl
theorem T46 : TT 46 = some ⟨.slice 113, 1, 24, [.sl .no 6 []]⟩ := rfl
theorem T53 : TT 53 = some ⟨.struct [(0, 9, 1), (1, 22, 1), (2, 2, 1)], 3, 48, [.str ⟨#[]⟩, .sl .no 1 [], .int .i64 0]⟩ := rfl
theorem T55 : TT 55 = some ⟨.ptr, 1, 8, [.nilp]⟩ := rfl
theorem T57 : TT 57 = some ⟨.struct [(0, 44, 1), (1, 55, 1)], 2, 16, [.nilp, .nilp]⟩ := rfl
theorem T75 : TT 75 = some ⟨.ptr, 1, 8, [.nilp]⟩ := rfl
theorem T82 : TT 82 = some ⟨.struct [(0, 28, 1), (1, 3, 1), (2, 30, 1)], 3, 40, [.sl .no 1 [], .int .i64 0, .int .i64 0]⟩ := rfl
theorem T86 : TT 86 = some ⟨.other, 1, 8, [.nilm]⟩ := rfl
theorem T88 : TT 88 = some ⟨.struct [(0, 34, 4), (4, 86, 1)], 5, 64, [.str ⟨#[]⟩, .int .i64 0, .str ⟨#[]⟩, .str ⟨#[]⟩, .nilm]⟩ := rfl
theorem T101 : TT 101 = some ⟨.ptr, 1, 8, [.nilp]⟩ := rfl
theorem T104 : TT 104 = some ⟨.struct [(0, 101, 1)], 1, 8, [.nilp]⟩ := rfl
theorem T105 : TT 105 = some ⟨.slice 108, 1, 24, [.sl .no 2 []]⟩ := rfl
theorem T108 : TT 108 = some ⟨.struct [(0, 9, 1), (1, 9, 1)], 2, 32, [.str ⟨#[]⟩, .str ⟨#[]⟩]⟩ := rfl
theorem T113 : TT 113 = some ⟨.struct [(0, 3, 1), (1, 9, 1), (2, 4, 1), (3, 9, 1), (4, 4, 1), (5, 9, 1)], 6, 72, [.int .i64 0, .str ⟨#[]⟩, .bool false, .str ⟨#[]⟩, .bool false, .str ⟨#[]⟩]⟩ := rfl
theorem T114 : TT 114 = some ⟨.slice 88, 1, 24, [.sl .no 5 []]⟩ := rfl
theorem T116 : TT 116 = some ⟨.struct [(0, 114, 1), (1, 4, 1)], 2, 32, [.sl .no 5 [], .bool false]⟩ := rfl
theorem T125 : TT 125 = some ⟨.struct [(0, 28, 1), (1, 3, 1), (2, 30, 1), (3, 4, 1)], 4, 48, [.sl .no 1 [], .int .i64 0, .int .i64 0, .bool false]⟩ := rfl
theorem T132 : TT 132 = some ⟨.other, 1, 8, [.nilm]⟩ := rfl
theorem T134 : TT 134 = some ⟨.struct [(0, 2, 1), (1, 2, 1)], 2, 16, [.int .i64 0, .int .i64 0]⟩ := rfl
theorem T136 : TT 136 = some ⟨.struct [(0, 132, 1), (1, 134, 2)], 3, 24, [.nilm, .int .i64 0, .int .i64 0]⟩ := rfl
theorem T140 : TT 140 = some ⟨.ptr, 1, 8, [.nilp]⟩ := rfl
theorem T142 : TT 142 = some ⟨.struct [(0, 140, 1)], 1, 8, [.nilp]⟩ := rfl
theorem T152 : TT 152 = some ⟨.struct [(0, 108, 2), (2, 140, 1), (3, 140, 1), (4, 3, 1), (5, 3, 1)], 6, 64, [.str ⟨#[]⟩, .str ⟨#[]⟩, .nilp, .nilp, .int .i64 0, .int .i64 0]⟩ := rfl
theorem T159 : TT 159 = some ⟨.int .u64, 1, 8, [.int .u64 0]⟩ := rfl
theorem PZ86 : pvZ (.agg #[.map none, .int .i64 0, .int .i64 0]) = .agg [.nilm, .int .i64 0, .int .i64 0] := rfl
attribute [go_sem] PZ86
theorem M86 : mapS Tryz.prog 86 = some (.agg #[.map none, .int .i64 0, .int .i64 0]) := by kernel_rfl
theorem M132 : mapS Tryz.prog 132 = some (.bool false) := by kernel_rfl
attribute [go_sem] M86 M132
attribute [go_sem] CT CP T2 T3 T4 T5 T9 T21 T22 T23 T26 T28 T29 T30 T34 T36 T42 T43 T44 T46 T53 T55 T57 T75 T82 T86 T88 T101 T104 T105 T108 T113 T114 T116 T125 T132 T134 T136 T140 T142 T152 T159 E34 Z44 Z55 Z75 Z101 Z140
end Go.Proofs.YtdioedabjaaboaaGreat.V
