/- The table of types of this program, and the setting of the walks. -/
import Derived.Test.YtjdfajibflodbaaVL21
import Derived.Test.YtjdfajibflodbaaProg
import Derived.Eval
set_option maxRecDepth 100000
namespace Go.Proofs.Ytjdfajibflodbaa.V
open Go Go.VL

def tab : List (TypeId × TI) := [
  (1, ⟨.func, 1, 8, [.nilf]⟩),
  (2, ⟨.int .i64, 1, 8, [.int .i64 0]⟩),
  (3, ⟨.int .i64, 1, 8, [.int .i64 0]⟩),
  (4, ⟨.bool, 1, 1, [.bool false]⟩),
  (5, ⟨.int .u8, 1, 1, [.int .u8 0]⟩),
  (6, ⟨.int .u8, 1, 1, [.int .u8 0]⟩),
  (7, ⟨.struct [(0, 2, 1), (1, 3, 1), (2, 4, 1), (3, 6, 1)], 4, 24, [.int .i64 0, .int .i64 0, .bool false, .int .u8 0]⟩),
  (8, ⟨.struct [(0, 2, 1), (1, 3, 1), (2, 4, 1), (3, 6, 1)], 4, 24, [.int .i64 0, .int .i64 0, .bool false, .int .u8 0]⟩),
  (9, ⟨.str, 1, 16, [.str ⟨#[]⟩]⟩),
  (10, ⟨.str, 1, 16, [.str ⟨#[]⟩]⟩),
  (11, ⟨.str, 1, 16, [.str ⟨#[]⟩]⟩),
  (12, ⟨.int .u64, 1, 8, [.int .u64 0]⟩),
  (13, ⟨.struct [(0, 9, 1), (1, 12, 1)], 2, 24, [.str ⟨#[]⟩, .int .u64 0]⟩),
  (14, ⟨.struct [(0, 9, 1), (1, 12, 1)], 2, 24, [.str ⟨#[]⟩, .int .u64 0]⟩),
  (15, ⟨.ptr, 1, 8, [.nilp]⟩),
  (16, ⟨.ptr, 1, 8, [.nilp]⟩),
  (17, ⟨.ptr, 1, 8, [.nilp]⟩),
  (18, ⟨.struct [(0, 17, 1)], 1, 8, [.nilp]⟩),
  (19, ⟨.struct [(0, 17, 1)], 1, 8, [.nilp]⟩),
  (20, ⟨.iface, 1, 16, [.nili]⟩),
  (21, ⟨.int .i32, 1, 4, [.int .i32 0]⟩),
  (22, ⟨.slice 44, 1, 24, [.sl .no 3 []]⟩),
  (23, ⟨.struct [(0, 3, 1), (1, 3, 1), (2, 22, 1)], 3, 40, [.int .i64 0, .int .i64 0, .sl .no 3 []]⟩),
  (24, ⟨.struct [(0, 3, 1), (1, 3, 1), (2, 22, 1)], 3, 40, [.int .i64 0, .int .i64 0, .sl .no 3 []]⟩),
  (25, ⟨.func, 1, 8, [.nilf]⟩),
  (26, ⟨.func, 1, 8, [.nilf]⟩),
  (27, ⟨.struct [(0, 3, 1), (1, 3, 1), (2, 22, 1)], 3, 40, [.int .i64 0, .int .i64 0, .sl .no 3 []]⟩),
  (29, ⟨.func, 1, 8, [.nilf]⟩),
  (31, ⟨.func, 1, 8, [.nilf]⟩),
  (32, ⟨.int .i64, 1, 8, [.int .i64 0]⟩),
  (33, ⟨.func, 1, 8, [.nilf]⟩),
  (34, ⟨.func, 1, 8, [.nilf]⟩),
  (35, ⟨.func, 1, 8, [.nilf]⟩),
  (36, ⟨.func, 1, 8, [.nilf]⟩),
  (38, ⟨.func, 1, 8, [.nilf]⟩),
  (40, ⟨.func, 1, 8, [.nilf]⟩),
  (41, ⟨.func, 1, 8, [.nilf]⟩),
  (42, ⟨.slice 5, 1, 24, [.sl .no 1 []]⟩),
  (43, ⟨.struct [(0, 3, 1), (1, 3, 1), (2, 42, 1)], 3, 40, [.int .i64 0, .int .i64 0, .sl .no 1 []]⟩),
  (44, ⟨.struct [(0, 3, 1), (1, 3, 1), (2, 42, 1)], 3, 40, [.int .i64 0, .int .i64 0, .sl .no 1 []]⟩),
  (45, ⟨.func, 1, 8, [.nilf]⟩),
  (46, ⟨.func, 1, 8, [.nilf]⟩),
  (47, ⟨.func, 1, 8, [.nilf]⟩),
  (48, ⟨.func, 1, 8, [.nilf]⟩),
  (49, ⟨.func, 1, 8, [.nilf]⟩),
  (50, ⟨.func, 1, 8, [.nilf]⟩),
  (52, ⟨.func, 1, 8, [.nilf]⟩),
  (53, ⟨.func, 1, 8, [.nilf]⟩),
  (54, ⟨.func, 1, 8, [.nilf]⟩),
  (55, ⟨.func, 1, 8, [.nilf]⟩),
  (56, ⟨.func, 1, 8, [.nilf]⟩),
  (57, ⟨.func, 1, 8, [.nilf]⟩),
  (58, ⟨.func, 1, 8, [.nilf]⟩),
  (59, ⟨.func, 1, 8, [.nilf]⟩),
  (60, ⟨.slice 22, 1, 24, [.sl .no 1 []]⟩),
  (61, ⟨.func, 1, 8, [.nilf]⟩),
  (62, ⟨.func, 1, 8, [.nilf]⟩),
  (63, ⟨.func, 1, 8, [.nilf]⟩),
  (64, ⟨.func, 1, 8, [.nilf]⟩),
  (65, ⟨.slice 3, 1, 24, [.sl .no 1 []]⟩),
  (66, ⟨.func, 1, 8, [.nilf]⟩),
  (67, ⟨.func, 1, 8, [.nilf]⟩),
  (68, ⟨.struct [(0, 17, 1), (1, 17, 1), (2, 17, 1), (3, 9, 1)], 4, 40, [.nilp, .nilp, .nilp, .str ⟨#[]⟩]⟩),
  (69, ⟨.struct [(0, 17, 1), (1, 17, 1), (2, 17, 1), (3, 9, 1)], 4, 40, [.nilp, .nilp, .nilp, .str ⟨#[]⟩]⟩),
  (70, ⟨.array 0 16, 0, 0, []⟩),
  (71, ⟨.struct [(0, 70, 0)], 0, 0, []⟩),
  (72, ⟨.struct [(0, 70, 0)], 0, 0, []⟩),
  (73, ⟨.func, 1, 8, [.nilf]⟩),
  (74, ⟨.int .u32, 1, 4, [.int .u32 0]⟩),
  (75, ⟨.int .u8, 1, 1, [.int .u8 0]⟩),
  (76, ⟨.int .u8, 1, 1, [.int .u8 0]⟩),
  (77, ⟨.func, 1, 8, [.nilf]⟩),
  (78, ⟨.ptr, 1, 8, [.nilp]⟩),
  (79, ⟨.int .i32, 1, 4, [.int .i32 0]⟩),
  (80, ⟨.int .i32, 1, 4, [.int .i32 0]⟩),
  (81, ⟨.struct [(0, 12, 1), (1, 12, 1), (2, 74, 1), (3, 75, 1), (4, 5, 1), (5, 5, 1), (6, 76, 1), (7, 77, 1), (8, 78, 1), (9, 79, 1), (10, 80, 1)], 11, 48, [.int .u64 0, .int .u64 0, .int .u32 0, .int .u8 0, .int .u8 0, .int .u8 0, .int .u8 0, .nilf, .nilp, .int .i32 0, .int .i32 0]⟩),
  (82, ⟨.struct [(0, 12, 1), (1, 12, 1), (2, 74, 1), (3, 75, 1), (4, 5, 1), (5, 5, 1), (6, 76, 1), (7, 77, 1), (8, 78, 1), (9, 79, 1), (10, 80, 1)], 11, 48, [.int .u64 0, .int .u64 0, .int .u32 0, .int .u8 0, .int .u8 0, .int .u8 0, .int .u8 0, .nilf, .nilp, .int .i32 0, .int .i32 0]⟩)]
set_option maxHeartbeats 4000000 in
theorem tab_ok : (tab.all fun x => tib Try.prog x.1 x.2) = true := by kernel_rfl
theorem mixed : Try.prog.follows .mixedOrders = true := by kernel_rfl
def eqTs : List TypeId := []
def ptTs : List TypeId := [15, 17, 78]
theorem eqTs_ok : (eqTs.all (eqb Try.prog)) = true := by kernel_rfl
theorem ptTs_ok : (ptTs.all (ptb Try.prog)) = true := by kernel_rfl
def TT (t : TypeId) : Option TI := lookT tab t
noncomputable def C : Ctx := ⟨Try.prog, TT, lookT_ok tab tab_ok, mixed, eqTs.elem, fun t h => eqb_ok (all_ok _ eqTs_ok t h), ptTs.elem, fun t h => ptb_ok (all_ok _ ptTs_ok t h)⟩
theorem Z15 : C.Z 15 = true := rfl
theorem Z17 : C.Z 17 = true := rfl
theorem Z78 : C.Z 78 = true := rfl
theorem CT (t : TypeId) : C.T t = TT t := rfl
theorem CP : C.P = Try.prog := rfl
theorem T1 : TT 1 = some ⟨.func, 1, 8, [.nilf]⟩ := rfl
theorem T2 : TT 2 = some ⟨.int .i64, 1, 8, [.int .i64 0]⟩ := rfl
theorem T3 : TT 3 = some ⟨.int .i64, 1, 8, [.int .i64 0]⟩ := rfl
theorem T4 : TT 4 = some ⟨.bool, 1, 1, [.bool false]⟩ := rfl
theorem T5 : TT 5 = some ⟨.int .u8, 1, 1, [.int .u8 0]⟩ := rfl
theorem T6 : TT 6 = some ⟨.int .u8, 1, 1, [.int .u8 0]⟩ := rfl
theorem T7 : TT 7 = some ⟨.struct [(0, 2, 1), (1, 3, 1), (2, 4, 1), (3, 6, 1)], 4, 24, [.int .i64 0, .int .i64 0, .bool false, .int .u8 0]⟩ := rfl
theorem T8 : TT 8 = some ⟨.struct [(0, 2, 1), (1, 3, 1), (2, 4, 1), (3, 6, 1)], 4, 24, [.int .i64 0, .int .i64 0, .bool false, .int .u8 0]⟩ := rfl
theorem T9 : TT 9 = some ⟨.str, 1, 16, [.str ⟨#[]⟩]⟩ := rfl
theorem T10 : TT 10 = some ⟨.str, 1, 16, [.str ⟨#[]⟩]⟩ := rfl
theorem T11 : TT 11 = some ⟨.str, 1, 16, [.str ⟨#[]⟩]⟩ := rfl
theorem T12 : TT 12 = some ⟨.int .u64, 1, 8, [.int .u64 0]⟩ := rfl
theorem T13 : TT 13 = some ⟨.struct [(0, 9, 1), (1, 12, 1)], 2, 24, [.str ⟨#[]⟩, .int .u64 0]⟩ := rfl
theorem T14 : TT 14 = some ⟨.struct [(0, 9, 1), (1, 12, 1)], 2, 24, [.str ⟨#[]⟩, .int .u64 0]⟩ := rfl
theorem T15 : TT 15 = some ⟨.ptr, 1, 8, [.nilp]⟩ := rfl
theorem T16 : TT 16 = some ⟨.ptr, 1, 8, [.nilp]⟩ := rfl
theorem T17 : TT 17 = some ⟨.ptr, 1, 8, [.nilp]⟩ := rfl
theorem T18 : TT 18 = some ⟨.struct [(0, 17, 1)], 1, 8, [.nilp]⟩ := rfl
theorem T19 : TT 19 = some ⟨.struct [(0, 17, 1)], 1, 8, [.nilp]⟩ := rfl
theorem T20 : TT 20 = some ⟨.iface, 1, 16, [.nili]⟩ := rfl
theorem T21 : TT 21 = some ⟨.int .i32, 1, 4, [.int .i32 0]⟩ := rfl
theorem T22 : TT 22 = some ⟨.slice 44, 1, 24, [.sl .no 3 []]⟩ := rfl
theorem T23 : TT 23 = some ⟨.struct [(0, 3, 1), (1, 3, 1), (2, 22, 1)], 3, 40, [.int .i64 0, .int .i64 0, .sl .no 3 []]⟩ := rfl
theorem T24 : TT 24 = some ⟨.struct [(0, 3, 1), (1, 3, 1), (2, 22, 1)], 3, 40, [.int .i64 0, .int .i64 0, .sl .no 3 []]⟩ := rfl
theorem T25 : TT 25 = some ⟨.func, 1, 8, [.nilf]⟩ := rfl
theorem T26 : TT 26 = some ⟨.func, 1, 8, [.nilf]⟩ := rfl
theorem T27 : TT 27 = some ⟨.struct [(0, 3, 1), (1, 3, 1), (2, 22, 1)], 3, 40, [.int .i64 0, .int .i64 0, .sl .no 3 []]⟩ := rfl
theorem T29 : TT 29 = some ⟨.func, 1, 8, [.nilf]⟩ := rfl
theorem T31 : TT 31 = some ⟨.func, 1, 8, [.nilf]⟩ := rfl
theorem T32 : TT 32 = some ⟨.int .i64, 1, 8, [.int .i64 0]⟩ := rfl
theorem T33 : TT 33 = some ⟨.func, 1, 8, [.nilf]⟩ := rfl
theorem T34 : TT 34 = some ⟨.func, 1, 8, [.nilf]⟩ := rfl
theorem T35 : TT 35 = some ⟨.func, 1, 8, [.nilf]⟩ := rfl
theorem T36 : TT 36 = some ⟨.func, 1, 8, [.nilf]⟩ := rfl
theorem T38 : TT 38 = some ⟨.func, 1, 8, [.nilf]⟩ := rfl
theorem T40 : TT 40 = some ⟨.func, 1, 8, [.nilf]⟩ := rfl
theorem T41 : TT 41 = some ⟨.func, 1, 8, [.nilf]⟩ := rfl
theorem T42 : TT 42 = some ⟨.slice 5, 1, 24, [.sl .no 1 []]⟩ := rfl
theorem T43 : TT 43 = some ⟨.struct [(0, 3, 1), (1, 3, 1), (2, 42, 1)], 3, 40, [.int .i64 0, .int .i64 0, .sl .no 1 []]⟩ := rfl
theorem T44 : TT 44 = some ⟨.struct [(0, 3, 1), (1, 3, 1), (2, 42, 1)], 3, 40, [.int .i64 0, .int .i64 0, .sl .no 1 []]⟩ := rfl
theorem T45 : TT 45 = some ⟨.func, 1, 8, [.nilf]⟩ := rfl
theorem T46 : TT 46 = some ⟨.func, 1, 8, [.nilf]⟩ := rfl
theorem T47 : TT 47 = some ⟨.func, 1, 8, [.nilf]⟩ := rfl
theorem T48 : TT 48 = some ⟨.func, 1, 8, [.nilf]⟩ := rfl
theorem T49 : TT 49 = some ⟨.func, 1, 8, [.nilf]⟩ := rfl
theorem T50 : TT 50 = some ⟨.func, 1, 8, [.nilf]⟩ := rfl
theorem T52 : TT 52 = some ⟨.func, 1, 8, [.nilf]⟩ := rfl
theorem T53 : TT 53 = some ⟨.func, 1, 8, [.nilf]⟩ := rfl
theorem T54 : TT 54 = some ⟨.func, 1, 8, [.nilf]⟩ := rfl
theorem T55 : TT 55 = some ⟨.func, 1, 8, [.nilf]⟩ := rfl
theorem T56 : TT 56 = some ⟨.func, 1, 8, [.nilf]⟩ := rfl
theorem T57 : TT 57 = some ⟨.func, 1, 8, [.nilf]⟩ := rfl
theorem T58 : TT 58 = some ⟨.func, 1, 8, [.nilf]⟩ := rfl
theorem T59 : TT 59 = some ⟨.func, 1, 8, [.nilf]⟩ := rfl
theorem T60 : TT 60 = some ⟨.slice 22, 1, 24, [.sl .no 1 []]⟩ := rfl
theorem T61 : TT 61 = some ⟨.func, 1, 8, [.nilf]⟩ := rfl
theorem T62 : TT 62 = some ⟨.func, 1, 8, [.nilf]⟩ := rfl
theorem T63 : TT 63 = some ⟨.func, 1, 8, [.nilf]⟩ := rfl
theorem T64 : TT 64 = some ⟨.func, 1, 8, [.nilf]⟩ := rfl
theorem T65 : TT 65 = some ⟨.slice 3, 1, 24, [.sl .no 1 []]⟩ := rfl
theorem T66 : TT 66 = some ⟨.func, 1, 8, [.nilf]⟩ := rfl
theorem T67 : TT 67 = some ⟨.func, 1, 8, [.nilf]⟩ := rfl
theorem T68 : TT 68 = some ⟨.struct [(0, 17, 1), (1, 17, 1), (2, 17, 1), (3, 9, 1)], 4, 40, [.nilp, .nilp, .nilp, .str ⟨#[]⟩]⟩ := rfl
theorem T69 : TT 69 = some ⟨.struct [(0, 17, 1), (1, 17, 1), (2, 17, 1), (3, 9, 1)], 4, 40, [.nilp, .nilp, .nilp, .str ⟨#[]⟩]⟩ := rfl
theorem T70 : TT 70 = some ⟨.array 0 16, 0, 0, []⟩ := rfl
theorem T71 : TT 71 = some ⟨.struct [(0, 70, 0)], 0, 0, []⟩ := rfl
theorem T72 : TT 72 = some ⟨.struct [(0, 70, 0)], 0, 0, []⟩ := rfl
theorem T73 : TT 73 = some ⟨.func, 1, 8, [.nilf]⟩ := rfl
theorem T74 : TT 74 = some ⟨.int .u32, 1, 4, [.int .u32 0]⟩ := rfl
theorem T75 : TT 75 = some ⟨.int .u8, 1, 1, [.int .u8 0]⟩ := rfl
theorem T76 : TT 76 = some ⟨.int .u8, 1, 1, [.int .u8 0]⟩ := rfl
theorem T77 : TT 77 = some ⟨.func, 1, 8, [.nilf]⟩ := rfl
theorem T78 : TT 78 = some ⟨.ptr, 1, 8, [.nilp]⟩ := rfl
theorem T79 : TT 79 = some ⟨.int .i32, 1, 4, [.int .i32 0]⟩ := rfl
theorem T80 : TT 80 = some ⟨.int .i32, 1, 4, [.int .i32 0]⟩ := rfl
theorem T81 : TT 81 = some ⟨.struct [(0, 12, 1), (1, 12, 1), (2, 74, 1), (3, 75, 1), (4, 5, 1), (5, 5, 1), (6, 76, 1), (7, 77, 1), (8, 78, 1), (9, 79, 1), (10, 80, 1)], 11, 48, [.int .u64 0, .int .u64 0, .int .u32 0, .int .u8 0, .int .u8 0, .int .u8 0, .int .u8 0, .nilf, .nilp, .int .i32 0, .int .i32 0]⟩ := rfl
theorem T82 : TT 82 = some ⟨.struct [(0, 12, 1), (1, 12, 1), (2, 74, 1), (3, 75, 1), (4, 5, 1), (5, 5, 1), (6, 76, 1), (7, 77, 1), (8, 78, 1), (9, 79, 1), (10, 80, 1)], 11, 48, [.int .u64 0, .int .u64 0, .int .u32 0, .int .u8 0, .int .u8 0, .int .u8 0, .int .u8 0, .nilf, .nilp, .int .i32 0, .int .i32 0]⟩ := rfl
attribute [go_sem] CT CP T1 T2 T3 T4 T5 T6 T7 T8 T9 T10 T11 T12 T13 T14 T15 T16 T17 T18 T19 T20 T21 T22 T23 T24 T25 T26 T27 T29 T31 T32 T33 T34 T35 T36 T38 T40 T41 T42 T43 T44 T45 T46 T47 T48 T49 T50 T52 T53 T54 T55 T56 T57 T58 T59 T60 T61 T62 T63 T64 T65 T66 T67 T68 T69 T70 T71 T72 T73 T74 T75 T76 T77 T78 T79 T80 T81 T82 Z15 Z17 Z78
end Go.Proofs.Ytjdfajibflodbaa.V
