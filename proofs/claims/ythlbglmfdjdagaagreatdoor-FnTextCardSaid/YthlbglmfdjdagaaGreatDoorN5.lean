/- The logical machine and its contracts, part 5. No condition. -/
import Derived.Test.YthlbglmfdjdagaaGreatDoorN4
import Derived.Test.YthlbglmfdjdagaaGreatDoorChecked
namespace Go.Proofs.YthlbglmfdjdagaaGreatDoor.Lg
set_option linter.unusedSimpArgs false
set_option linter.unusedVariables false
open Go.Proofs.YthlbglmfdjdagaaGreatDoor
theorem ty3 : ty Tryz.prog 3 = some ⟨1, 8, .int .i64, some (.int .i64 0)⟩ := by kernel_rfl
theorem ty4 : ty Tryz.prog 4 = some ⟨1, 1, .bool, some (.bool false)⟩ := by kernel_rfl
theorem ty5 : ty Tryz.prog 5 = some ⟨1, 1, .int .u8, some (.int .u8 0)⟩ := by kernel_rfl
theorem ty9 : ty Tryz.prog 9 = some ⟨1, 16, .str, some (.str ⟨#[]⟩)⟩ := by kernel_rfl
theorem ty21 : ty Tryz.prog 21 = some ⟨1, 4, .int .i32, some (.int .i32 0)⟩ := by kernel_rfl
theorem ty22 : ty Tryz.prog 22 = some ⟨1, 24, .slice 5, some .nilsl⟩ := by kernel_rfl
theorem ty40 : ty Tryz.prog 40 = some ⟨1, 24, .slice 48, some .nilsl⟩ := by kernel_rfl
theorem ty44 : ty Tryz.prog 44 = some ⟨3, 40, .struct [(0, 22), (1, 3), (2, 3)] none, some (.agg [.nilsl, .int .i64 0, .int .i64 0])⟩ := by kernel_rfl
theorem ty48 : ty Tryz.prog 48 = some ⟨8, 88, .struct [(0, 3), (1, 3), (2, 4), (3, 9), (4, 9), (5, 9), (6, 3), (7, 3)] (some [1, 1, 0, 2, 2, 2, 1, 1]), some (.agg [.int .i64 0, .int .i64 0, .bool false, .str ⟨#[]⟩, .str ⟨#[]⟩, .str ⟨#[]⟩, .int .i64 0, .int .i64 0])⟩ := by kernel_rfl
theorem ty52 : ty Tryz.prog 52 = some ⟨1, 24, .slice 3, some .nilsl⟩ := by kernel_rfl
theorem ty53 : ty Tryz.prog 53 = some ⟨256, 256, .array 256 5, some (.agg [.int .u8 0, .int .u8 0, .int .u8 0, .int .u8 0, .int .u8 0, .int .u8 0, .int .u8 0, .int .u8 0, .int .u8 0, .int .u8 0, .int .u8 0, .int .u8 0, .int .u8 0, .int .u8 0, .int .u8 0, .int .u8 0, .int .u8 0, .int .u8 0, .int .u8 0, .int .u8 0, .int .u8 0, .int .u8 0, .int .u8 0, .int .u8 0, .int .u8 0, .int .u8 0, .int .u8 0, .int .u8 0, .int .u8 0, .int .u8 0, .int .u8 0, .int .u8 0, .int .u8 0, .int .u8 0, .int .u8 0, .int .u8 0, .int .u8 0, .int .u8 0, .int .u8 0, .int .u8 0, .int .u8 0, .int .u8 0, .int .u8 0, .int .u8 0, .int .u8 0, .int .u8 0, .int .u8 0, .int .u8 0, .int .u8 0, .int .u8 0, .int .u8 0, .int .u8 0, .int .u8 0, .int .u8 0, .int .u8 0, .int .u8 0, .int .u8 0, .int .u8 0, .int .u8 0, .int .u8 0, .int .u8 0, .int .u8 0, .int .u8 0, .int .u8 0, .int .u8 0, .int .u8 0, .int .u8 0, .int .u8 0, .int .u8 0, .int .u8 0, .int .u8 0, .int .u8 0, .int .u8 0, .int .u8 0, .int .u8 0, .int .u8 0, .int .u8 0, .int .u8 0, .int .u8 0, .int .u8 0, .int .u8 0, .int .u8 0, .int .u8 0, .int .u8 0, .int .u8 0, .int .u8 0, .int .u8 0, .int .u8 0, .int .u8 0, .int .u8 0, .int .u8 0, .int .u8 0, .int .u8 0, .int .u8 0, .int .u8 0, .int .u8 0, .int .u8 0, .int .u8 0, .int .u8 0, .int .u8 0, .int .u8 0, .int .u8 0, .int .u8 0, .int .u8 0, .int .u8 0, .int .u8 0, .int .u8 0, .int .u8 0, .int .u8 0, .int .u8 0, .int .u8 0, .int .u8 0, .int .u8 0, .int .u8 0, .int .u8 0, .int .u8 0, .int .u8 0, .int .u8 0, .int .u8 0, .int .u8 0, .int .u8 0, .int .u8 0, .int .u8 0, .int .u8 0, .int .u8 0, .int .u8 0, .int .u8 0, .int .u8 0, .int .u8 0, .int .u8 0, .int .u8 0, .int .u8 0, .int .u8 0, .int .u8 0, .int .u8 0, .int .u8 0, .int .u8 0, .int .u8 0, .int .u8 0, .int .u8 0, .int .u8 0, .int .u8 0, .int .u8 0, .int .u8 0, .int .u8 0, .int .u8 0, .int .u8 0, .int .u8 0, .int .u8 0, .int .u8 0, .int .u8 0, .int .u8 0, .int .u8 0, .int .u8 0, .int .u8 0, .int .u8 0, .int .u8 0, .int .u8 0, .int .u8 0, .int .u8 0, .int .u8 0, .int .u8 0, .int .u8 0, .int .u8 0, .int .u8 0, .int .u8 0, .int .u8 0, .int .u8 0, .int .u8 0, .int .u8 0, .int .u8 0, .int .u8 0, .int .u8 0, .int .u8 0, .int .u8 0, .int .u8 0, .int .u8 0, .int .u8 0, .int .u8 0, .int .u8 0, .int .u8 0, .int .u8 0, .int .u8 0, .int .u8 0, .int .u8 0, .int .u8 0, .int .u8 0, .int .u8 0, .int .u8 0, .int .u8 0, .int .u8 0, .int .u8 0, .int .u8 0, .int .u8 0, .int .u8 0, .int .u8 0, .int .u8 0, .int .u8 0, .int .u8 0, .int .u8 0, .int .u8 0, .int .u8 0, .int .u8 0, .int .u8 0, .int .u8 0, .int .u8 0, .int .u8 0, .int .u8 0, .int .u8 0, .int .u8 0, .int .u8 0, .int .u8 0, .int .u8 0, .int .u8 0, .int .u8 0, .int .u8 0, .int .u8 0, .int .u8 0, .int .u8 0, .int .u8 0, .int .u8 0, .int .u8 0, .int .u8 0, .int .u8 0, .int .u8 0, .int .u8 0, .int .u8 0, .int .u8 0, .int .u8 0, .int .u8 0, .int .u8 0, .int .u8 0, .int .u8 0, .int .u8 0, .int .u8 0, .int .u8 0, .int .u8 0, .int .u8 0, .int .u8 0, .int .u8 0, .int .u8 0, .int .u8 0, .int .u8 0, .int .u8 0, .int .u8 0, .int .u8 0, .int .u8 0, .int .u8 0, .int .u8 0, .int .u8 0, .int .u8 0, .int .u8 0, .int .u8 0, .int .u8 0, .int .u8 0, .int .u8 0])⟩ := by kernel_rfl
theorem ty55 : ty Tryz.prog 55 = some ⟨2, 2, .struct [(0, 5), (1, 5)] (some [1, 1]), some (.agg [.int .u8 0, .int .u8 0])⟩ := by kernel_rfl
theorem ty56 : ty Tryz.prog 56 = some ⟨32, 32, .array 16 55, some (.agg [.int .u8 0, .int .u8 0, .int .u8 0, .int .u8 0, .int .u8 0, .int .u8 0, .int .u8 0, .int .u8 0, .int .u8 0, .int .u8 0, .int .u8 0, .int .u8 0, .int .u8 0, .int .u8 0, .int .u8 0, .int .u8 0, .int .u8 0, .int .u8 0, .int .u8 0, .int .u8 0, .int .u8 0, .int .u8 0, .int .u8 0, .int .u8 0, .int .u8 0, .int .u8 0, .int .u8 0, .int .u8 0, .int .u8 0, .int .u8 0, .int .u8 0, .int .u8 0])⟩ := by kernel_rfl
theorem ty63 : ty Tryz.prog 63 = some ⟨1, 24, .slice 4, some .nilsl⟩ := by kernel_rfl
theorem ty64 : ty Tryz.prog 64 = some ⟨1, 8, .map 9 3, some .nilmap⟩ := by kernel_rfl
theorem ty65 : ty Tryz.prog 65 = some ⟨1, 24, .slice 81, some .nilsl⟩ := by kernel_rfl
theorem ty67 : ty Tryz.prog 67 = some ⟨11, 144, .struct [(0, 9), (1, 3), (2, 40), (3, 63), (4, 64), (5, 65), (6, 3), (7, 3), (8, 3), (9, 4), (10, 3)] none, some (.agg [.str ⟨#[]⟩, .int .i64 0, .nilsl, .nilsl, .nilmap, .nilsl, .int .i64 0, .int .i64 0, .int .i64 0, .bool false, .int .i64 0])⟩ := by kernel_rfl
theorem ty77 : ty Tryz.prog 77 = some ⟨1, 24, .slice 9, some .nilsl⟩ := by kernel_rfl
theorem ty81 : ty Tryz.prog 81 = some ⟨2, 32, .struct [(0, 9), (1, 9)] (some [2, 2]), some (.agg [.str ⟨#[]⟩, .str ⟨#[]⟩])⟩ := by kernel_rfl
theorem ty86 : ty Tryz.prog 86 = some ⟨5, 56, .struct [(0, 4), (1, 9), (2, 9), (3, 3), (4, 3)] (some [0, 2, 2, 1, 1]), some (.agg [.bool false, .str ⟨#[]⟩, .str ⟨#[]⟩, .int .i64 0, .int .i64 0])⟩ := by kernel_rfl
theorem Rg : ty Tryz.prog 120 = some ⟨1, 24, .slice 131, some .nilsl⟩ := by kernel_rfl
theorem Xa : ty Tryz.prog 122 = some ⟨5, 72, .struct [(0, 9), (1, 3), (2, 120), (3, 9), (4, 3)] none, some (.agg [.str ⟨#[]⟩, .int .i64 0, .nilsl, .str ⟨#[]⟩, .int .i64 0])⟩ := by kernel_rfl
theorem Vq : ty Tryz.prog 131 = some ⟨2, 24, .struct [(0, 9), (1, 4)] (some [2, 0]), some (.agg [.str ⟨#[]⟩, .bool false])⟩ := by kernel_rfl
theorem Xb : ty Tryz.prog 135 = some ⟨1, 8, .map 3 3, some .nilmap⟩ := by kernel_rfl
theorem Xc : ty Tryz.prog 148 = some ⟨1, 4, .int .u32, some (.int .u32 0)⟩ := by kernel_rfl
def WT : List (Nat × List Nat) := [(3, [0, 2, 3, 4, 5, 7, 8, 9, 10, 11, 14, 29, 46, 48]), (4, [0, 2, 3, 4]), (5, [0, 2, 3, 4, 5, 6, 7, 10, 31, 35, 36, 37, 38, 42, 49, 73]), (6, [0, 2, 3, 4, 5, 6, 9, 30, 35, 42, 62, 72]), (7, [0, 1, 4, 5, 6, 7, 26]), (8, [0, 2, 9]), (9, [0, 2]), (10, [0, 2, 3, 4, 5, 9, 22]), (11, [0, 2, 3, 4, 15]), (12, [0, 1, 4, 5, 6, 7, 15]), (13, [0, 2, 3, 4, 5, 9, 22]), (14, [0, 2, 3, 10]), (15, [0, 1, 4]), (16, [0, 1, 2, 6]), (17, [0, 2, 3, 5, 7, 8, 9, 10]), (18, [0, 2, 3, 4, 11]), (19, [0, 2]), (20, [0, 1, 4, 5, 6, 7, 8, 10, 12]), (21, [0, 2, 3, 34]), (22, [0, 1, 4, 5, 6, 7, 8, 9, 22, 36, 64]), (23, [0, 2]), (24, [0, 2, 3, 4, 5, 6, 7, 8, 9, 10, 11, 12, 16, 23, 45, 57, 59, 75, 77, 98]), (25, [0, 1, 2, 3, 4, 7, 9, 10, 12, 15, 16, 21, 24, 31, 48, 53, 55, 58, 59]), (26, [0, 2, 3, 4, 7, 16, 28]), (27, [0, 1, 4, 6, 10]), (28, [0, 2, 3, 18, 25, 38]), (29, [0, 1, 2, 3, 8, 9, 13, 19, 34, 35, 52, 53, 66, 67, 83]), (30, [0, 1, 2, 3, 6, 12]), (31, [0, 2, 3, 4, 7, 8, 9, 13, 20, 25, 30, 35, 40, 45]), (32, [0, 2, 5]), (33, [0, 1, 4]), (34, [0, 1, 3, 4, 34]), (35, [0, 2, 15, 29, 42, 43]), (36, [0, 2, 3, 4, 7, 9, 10, 11, 26]), (37, [0, 2, 3, 9]), (38, [0, 1, 4, 5, 12, 17, 26]), (39, [0, 1, 4, 26, 31, 32, 34]), (40, [0, 2, 3, 4, 19]), (41, [0, 2, 3, 4, 5, 14, 17, 43, 50, 72]), (42, [0, 2]), (43, [0, 2]), (44, [0, 2]), (45, [0, 1, 4, 11]), (46, [0, 1, 4]), (47, [0, 1, 4, 5, 14]), (48, [0, 1, 4, 5]), (49, [0, 1, 4, 5, 6, 7, 34]), (50, [0, 1, 2, 6, 11]), (51, [0, 2]), (52, [0, 1, 4, 5, 6, 7, 8, 10, 23, 51, 73, 74, 75, 76, 99]), (53, [0, 1, 4, 5, 6, 7, 9, 31, 46, 52]), (54, [0, 2, 3, 4, 16, 30]), (55, [0, 1, 4]), (56, [0, 1, 4]), (57, [0, 1, 4]), (58, [0, 1, 4, 11]), (59, [0, 1, 4]), (60, [0, 1, 4, 5, 6, 7, 8, 27, 34]), (61, [0, 1, 2]), (62, [0, 2, 3, 4, 24]), (63, [0, 1, 2, 3, 8, 9, 10, 11, 12, 13, 16, 18, 25, 28, 39, 44, 57, 69, 83, 93, 115, 132, 146]), (64, [0, 1, 4]), (65, [0, 1, 2, 4]), (66, [0, 1, 4, 5, 10, 17]), (67, [0, 1, 4]), (68, [0, 2, 3, 23, 28, 35]), (69, [0, 2, 3, 5, 6, 7, 18]), (70, [0, 1, 4, 5, 6, 7, 31, 36]), (71, [0, 1, 2, 6, 7]), (72, [0, 1, 4, 5, 6, 7, 8, 9, 26, 40]), (73, [0, 1, 2, 4, 5, 6, 7, 8, 9, 10, 11, 12, 13, 16, 22, 39, 59, 69, 84, 100, 115]), (74, [0, 1, 4]), (75, [0, 1, 3, 4, 5, 6, 7, 8, 29, 42, 52, 84]), (76, [0, 1, 2, 4, 6, 7, 8, 9, 10, 11, 24, 46, 52, 65, 75, 81, 87]), (77, [0, 1, 2, 3, 7]), (79, [0, 2]), (80, [0, 1, 2, 6, 7, 8, 9, 10, 11, 12, 13, 14, 15, 25, 47, 102, 119, 150, 173]), (81, [0, 1, 4, 5, 6, 8, 9, 11, 12, 13, 17, 29, 40, 59]), (82, [0, 1, 2, 3, 4, 8, 10, 11, 16]), (83, [0, 1, 3, 4, 5, 6, 7, 9, 10, 46, 52]), (84, [0, 1, 2, 3, 8, 9, 10, 22, 42, 56]), (85, [0, 1, 4]), (86, [0, 1, 2, 6, 7, 8, 9, 10, 11, 12, 13, 14, 15, 16, 17, 30, 37, 48, 80, 96]), (87, [0, 1, 3, 4, 5, 15, 21, 27, 33, 39, 52]), (88, [0, 1, 3, 4, 5, 6, 7, 8, 9, 23, 32, 61]), (89, [0, 2]), (90, [0, 1, 3, 4, 5, 6, 7, 8, 31, 46]), (91, [0, 1, 2, 6, 7, 30, 40]), (92, [0, 1, 2, 3, 5, 8, 9, 10]), (93, [0, 1, 4, 5, 6, 7, 8, 20, 30]), (94, [0, 1, 4, 5, 6, 7, 8, 15, 23, 35, 47, 53]), (95, [0, 1, 4, 5, 6, 7, 8, 10, 11, 19, 41, 59, 60, 61, 62, 63, 69, 72, 78, 79, 83]), (96, [0, 1, 4, 5, 6, 7, 8, 15, 28, 44, 49, 54, 69]), (97, [0, 1, 4, 5, 6, 7, 8, 9, 10, 11, 18, 31, 59, 65, 76, 81, 94, 108]), (98, [0, 1, 4]), (99, [0, 1, 2, 6, 7, 8, 9, 18, 63, 75]), (100, [0, 1]), (101, [0, 1, 4, 5, 6, 7, 8, 9, 10, 11, 12, 13, 14, 26, 40, 45, 54, 68]), (102, [0, 1, 4]), (103, [0, 1, 2, 6, 7, 17, 21, 26]), (104, [0, 1, 4]), (105, [0, 1, 4, 5, 6, 14]), (106, [0, 1, 2, 6, 7, 8, 20, 24, 26, 34, 39, 40, 43]), (107, [0, 1, 3, 4, 5, 6, 18, 28, 38, 61]), (108, [0, 1, 3, 4, 5, 6, 18, 28, 38, 61]), (109, [0, 1, 2, 3, 8, 9, 10, 11, 12, 13, 14, 15, 23, 44, 48, 49, 50]), (110, [0, 1, 4, 15]), (111, [0, 1, 4, 6, 56]), (112, [0, 1, 2, 3, 26]), (113, [0, 2, 3, 4]), (114, [0, 1, 4, 5, 6, 7, 8, 9, 10, 11, 25, 33, 61]), (115, [0, 1, 4]), (118, [0, 2, 3, 4, 5, 7, 8, 9, 10, 11, 15, 22, 29, 41]), (119, [0, 2]), (120, [0, 2, 3, 4, 20]), (121, [0, 1, 4, 13, 20, 29]), (122, [0, 2, 3, 4, 5, 6, 7, 23, 39, 45, 51, 64, 88, 129, 142, 157]), (123, [0, 1, 2, 3, 8, 9, 10, 11, 12, 13, 19, 26, 32, 70]), (124, [0, 2, 3, 4, 5, 6, 7, 10, 22, 43, 46, 53]), (125, [0, 2, 3, 4, 6, 12, 15, 17, 24, 26, 28, 34, 36, 38, 40]), (126, [0, 1, 2, 6, 7, 8, 9, 10, 11, 12, 13, 20, 28, 37]), (127, [0, 1, 4, 5, 6, 7, 8, 9, 10, 11, 12, 13, 16, 24, 31, 36, 59, 64, 73, 93, 107, 114, 132, 139]), (134, [0, 2]), (135, [0, 2, 3, 20]), (137, [0, 2]), (138, [0, 1, 4, 5, 6, 7, 8, 9, 10, 20, 39, 44, 77]), (144, [0, 2, 3, 4, 5, 6, 7, 8, 12, 25, 30])]
def WX : List (Nat × Mode) := [(4, .fresh), (11, .fresh), (12, .any), (18, .fresh), (20, .any), (21, .any), (26, .fresh), (33, .fresh), (34, .any), (35, .any), (40, .any), (41, .any), (50, .any), (51, .any), (52, .any), (53, .any), (54, .any), (55, .any), (60, .fresh), (62, .any), (63, .any), (64, .any), (65, .any), (70, .any), (71, .any), (73, .any), (75, .any), (76, .any), (77, .any), (80, .any), (82, .any), (83, .any), (84, .any), (85, .any), (87, .any), (88, .any), (90, .any), (92, .any), (100, .any), (107, .any), (108, .any), (111, .any), (112, .any), (113, .any), (119, .any), (120, .any), (121, .any), (122, .any), (135, .any)]
def oks : List Nat := [3, 4, 5, 6, 7, 8, 9, 10, 11, 12, 13, 14, 15, 16, 17, 18, 19, 20, 21, 22, 23, 24, 25, 26, 27, 28, 29, 30, 31, 32, 33, 34, 35, 36, 37, 38, 39, 40, 41, 42, 43, 44, 45, 46, 47, 48, 49, 50, 51, 52, 53, 54, 55, 56, 57, 58, 59, 60, 61, 62, 63, 64, 65, 66, 67, 68, 69, 70, 71, 72, 73, 74, 75, 76, 77, 79, 80, 81, 82, 83, 84, 85, 86, 87, 88, 89, 90, 91, 92, 93, 94, 95, 96, 97, 98, 99, 100, 101, 102, 103, 104, 105, 106, 107, 108, 109, 110, 111, 112, 113, 114, 115, 118, 119, 120, 121, 122, 123, 124, 125, 126, 127, 134, 135, 137, 138, 144]
def ords : List (Nat × List (Nat × List Nat × List (Nat × Nat))) := []
def libs : List (Nat × Option LibK) := [(116, some .rep), (117, some .join)]
def firstL : List Int := [240, 240, 240, 240, 240, 240, 240, 240, 240, 240, 240, 240, 240, 240, 240, 240, 240, 240, 240, 240, 240, 240, 240, 240, 240, 240, 240, 240, 240, 240, 240, 240, 240, 240, 240, 240, 240, 240, 240, 240, 240, 240, 240, 240, 240, 240, 240, 240, 240, 240, 240, 240, 240, 240, 240, 240, 240, 240, 240, 240, 240, 240, 240, 240, 240, 240, 240, 240, 240, 240, 240, 240, 240, 240, 240, 240, 240, 240, 240, 240, 240, 240, 240, 240, 240, 240, 240, 240, 240, 240, 240, 240, 240, 240, 240, 240, 240, 240, 240, 240, 240, 240, 240, 240, 240, 240, 240, 240, 240, 240, 240, 240, 240, 240, 240, 240, 240, 240, 240, 240, 240, 240, 240, 240, 240, 240, 240, 240, 241, 241, 241, 241, 241, 241, 241, 241, 241, 241, 241, 241, 241, 241, 241, 241, 241, 241, 241, 241, 241, 241, 241, 241, 241, 241, 241, 241, 241, 241, 241, 241, 241, 241, 241, 241, 241, 241, 241, 241, 241, 241, 241, 241, 241, 241, 241, 241, 241, 241, 241, 241, 241, 241, 241, 241, 241, 241, 241, 241, 241, 241, 241, 241, 241, 241, 2, 2, 2, 2, 2, 2, 2, 2, 2, 2, 2, 2, 2, 2, 2, 2, 2, 2, 2, 2, 2, 2, 2, 2, 2, 2, 2, 2, 2, 2, 19, 3, 3, 3, 3, 3, 3, 3, 3, 3, 3, 3, 3, 35, 3, 3, 52, 4, 4, 4, 68, 241, 241, 241, 241, 241, 241, 241, 241, 241, 241, 241]
def accL : List (Int × Int) := [(128, 191), (160, 191), (128, 159), (144, 191), (128, 143), (0, 0), (0, 0), (0, 0), (0, 0), (0, 0), (0, 0), (0, 0), (0, 0), (0, 0), (0, 0), (0, 0)]
def KQ {α : Type} (d : α) : List (Nat × α) → Nat → α
 | [], _ => d
 | (i, x) :: l, k => if i = k then x else KQ d l k
def cfg : Cfg := { keep := KQ [] WT, mode := KQ .pure WX, glob := fun g => if g = 0 then some (u8s firstL) else if g = 1 then some (u8s (D7 accL)) else none, ord := KQ [] ords, lib := KQ none libs }
def ok (k : FuncId) : Bool := oks.contains k
theorem Wi : oks.all (fun k => okF Tryz.prog cfg k) = true := by kernel_rfl
theorem WZ : ∀ K, ok K = true → okF Tryz.prog cfg K = true := by
 intro K h
 exact List.all_eq_true.1 Wi K (by simpa [ok] using h)
theorem glo : GloL cfg.glob := by
 intro g cs h
 have h : (if g = 0 then some (u8s firstL) else if g = 1 then some (u8s (D7 accL)) else none) = some cs := h
 split at h
 ·injection h with h; subst h; exact TG _
 ·split at h
  ·injection h with h; subst h; exact TG _
  ·cases h
theorem WR : cfg.glob 0 = some (u8s firstL) := rfl
theorem WQ : cfg.glob 1 = some (u8s (D7 accL)) := rfl
theorem UT : Tryz.prog.follows .mixedOrders = true := by kernel_rfl
noncomputable abbrev run := Run Tryz.prog cfg ok
set_option linter.defProp false
attribute [push_cast] List.length_set List.length_append List.length_cons List.length_nil
attribute [go_sem] We ty3 ty4 ty5 ty9 ty21 ty22 ty40 ty44 ty48 ty52 ty53 ty55 ty56 ty63 ty64 ty65 ty67 ty77 ty81 ty86 Rg Xa Vq Xb Xc
def z3 := Aa Tryz.func3 rfl (by rfl : ok 3 = true) (by rfl : cfg.keep 3 = [0, 2, 3, 4, 5, 7, 8, 9, 10, 11, 14, 29, 46, 48]) (by rfl : cfg.mode 3 = .pure) (by rfl : cfg.ord 3 = [])
def z4 := Aa Tryz.func4 rfl (by rfl : ok 4 = true) (by rfl : cfg.keep 4 = [0, 2, 3, 4]) (by rfl : cfg.mode 4 = .fresh) (by rfl : cfg.ord 4 = [])
def z5 := Aa Tryz.func5 rfl (by rfl : ok 5 = true) (by rfl : cfg.keep 5 = [0, 2, 3, 4, 5, 6, 7, 10, 31, 35, 36, 37, 38, 42, 49, 73]) (by rfl : cfg.mode 5 = .pure) (by rfl : cfg.ord 5 = [])
def z6 := Aa Tryz.func6 rfl (by rfl : ok 6 = true) (by rfl : cfg.keep 6 = [0, 2, 3, 4, 5, 6, 9, 30, 35, 42, 62, 72]) (by rfl : cfg.mode 6 = .pure) (by rfl : cfg.ord 6 = [])
def z7 := Aa Tryz.func7 rfl (by rfl : ok 7 = true) (by rfl : cfg.keep 7 = [0, 1, 4, 5, 6, 7, 26]) (by rfl : cfg.mode 7 = .pure) (by rfl : cfg.ord 7 = [])
def z8 := Aa Tryz.func8 rfl (by rfl : ok 8 = true) (by rfl : cfg.keep 8 = [0, 2, 9]) (by rfl : cfg.mode 8 = .pure) (by rfl : cfg.ord 8 = [])
def z9 := Aa Tryz.func9 rfl (by rfl : ok 9 = true) (by rfl : cfg.keep 9 = [0, 2]) (by rfl : cfg.mode 9 = .pure) (by rfl : cfg.ord 9 = [])
def z10 := Aa Tryz.func10 rfl (by rfl : ok 10 = true) (by rfl : cfg.keep 10 = [0, 2, 3, 4, 5, 9, 22]) (by rfl : cfg.mode 10 = .pure) (by rfl : cfg.ord 10 = [])
def z11 := Aa Tryz.func11 rfl (by rfl : ok 11 = true) (by rfl : cfg.keep 11 = [0, 2, 3, 4, 15]) (by rfl : cfg.mode 11 = .fresh) (by rfl : cfg.ord 11 = [])
def z12 := Aa Tryz.func12 rfl (by rfl : ok 12 = true) (by rfl : cfg.keep 12 = [0, 1, 4, 5, 6, 7, 15]) (by rfl : cfg.mode 12 = .any) (by rfl : cfg.ord 12 = [])
def z13 := Aa Tryz.func13 rfl (by rfl : ok 13 = true) (by rfl : cfg.keep 13 = [0, 2, 3, 4, 5, 9, 22]) (by rfl : cfg.mode 13 = .pure) (by rfl : cfg.ord 13 = [])
def z14 := Aa Tryz.func14 rfl (by rfl : ok 14 = true) (by rfl : cfg.keep 14 = [0, 2, 3, 10]) (by rfl : cfg.mode 14 = .pure) (by rfl : cfg.ord 14 = [])
def z15 := Aa Tryz.func15 rfl (by rfl : ok 15 = true) (by rfl : cfg.keep 15 = [0, 1, 4]) (by rfl : cfg.mode 15 = .pure) (by rfl : cfg.ord 15 = [])
def z16 := Aa Tryz.func16 rfl (by rfl : ok 16 = true) (by rfl : cfg.keep 16 = [0, 1, 2, 6]) (by rfl : cfg.mode 16 = .pure) (by rfl : cfg.ord 16 = [])
def z17 := Aa Tryz.func17 rfl (by rfl : ok 17 = true) (by rfl : cfg.keep 17 = [0, 2, 3, 5, 7, 8, 9, 10]) (by rfl : cfg.mode 17 = .pure) (by rfl : cfg.ord 17 = [])
def z18 := Aa Tryz.func18 rfl (by rfl : ok 18 = true) (by rfl : cfg.keep 18 = [0, 2, 3, 4, 11]) (by rfl : cfg.mode 18 = .fresh) (by rfl : cfg.ord 18 = [])
def z19 := Aa Tryz.func19 rfl (by rfl : ok 19 = true) (by rfl : cfg.keep 19 = [0, 2]) (by rfl : cfg.mode 19 = .pure) (by rfl : cfg.ord 19 = [])
def z20 := Aa Tryz.func20 rfl (by rfl : ok 20 = true) (by rfl : cfg.keep 20 = [0, 1, 4, 5, 6, 7, 8, 10, 12]) (by rfl : cfg.mode 20 = .any) (by rfl : cfg.ord 20 = [])
def z21 := Aa Tryz.func21 rfl (by rfl : ok 21 = true) (by rfl : cfg.keep 21 = [0, 2, 3, 34]) (by rfl : cfg.mode 21 = .any) (by rfl : cfg.ord 21 = [])
def z22 := Aa Tryz.func22 rfl (by rfl : ok 22 = true) (by rfl : cfg.keep 22 = [0, 1, 4, 5, 6, 7, 8, 9, 22, 36, 64]) (by rfl : cfg.mode 22 = .pure) (by rfl : cfg.ord 22 = [])
def z23 := Aa Tryz.func23 rfl (by rfl : ok 23 = true) (by rfl : cfg.keep 23 = [0, 2]) (by rfl : cfg.mode 23 = .pure) (by rfl : cfg.ord 23 = [])
def z24 := Aa Tryz.func24 rfl (by rfl : ok 24 = true) (by rfl : cfg.keep 24 = [0, 2, 3, 4, 5, 6, 7, 8, 9, 10, 11, 12, 16, 23, 45, 57, 59, 75, 77, 98]) (by rfl : cfg.mode 24 = .pure) (by rfl : cfg.ord 24 = [])
def z25 := Aa Tryz.func25 rfl (by rfl : ok 25 = true) (by rfl : cfg.keep 25 = [0, 1, 2, 3, 4, 7, 9, 10, 12, 15, 16, 21, 24, 31, 48, 53, 55, 58, 59]) (by rfl : cfg.mode 25 = .pure) (by rfl : cfg.ord 25 = [])
def z26 := Aa Tryz.func26 rfl (by rfl : ok 26 = true) (by rfl : cfg.keep 26 = [0, 2, 3, 4, 7, 16, 28]) (by rfl : cfg.mode 26 = .fresh) (by rfl : cfg.ord 26 = [])
def z27 := Aa Tryz.func27 rfl (by rfl : ok 27 = true) (by rfl : cfg.keep 27 = [0, 1, 4, 6, 10]) (by rfl : cfg.mode 27 = .pure) (by rfl : cfg.ord 27 = [])
def z28 := Aa Tryz.func28 rfl (by rfl : ok 28 = true) (by rfl : cfg.keep 28 = [0, 2, 3, 18, 25, 38]) (by rfl : cfg.mode 28 = .pure) (by rfl : cfg.ord 28 = [])
def z29 := Aa Tryz.func29 rfl (by rfl : ok 29 = true) (by rfl : cfg.keep 29 = [0, 1, 2, 3, 8, 9, 13, 19, 34, 35, 52, 53, 66, 67, 83]) (by rfl : cfg.mode 29 = .pure) (by rfl : cfg.ord 29 = [])
def z30 := Aa Tryz.func30 rfl (by rfl : ok 30 = true) (by rfl : cfg.keep 30 = [0, 1, 2, 3, 6, 12]) (by rfl : cfg.mode 30 = .pure) (by rfl : cfg.ord 30 = [])
def z31 := Aa Tryz.func31 rfl (by rfl : ok 31 = true) (by rfl : cfg.keep 31 = [0, 2, 3, 4, 7, 8, 9, 13, 20, 25, 30, 35, 40, 45]) (by rfl : cfg.mode 31 = .pure) (by rfl : cfg.ord 31 = [])
def z32 := Aa Tryz.func32 rfl (by rfl : ok 32 = true) (by rfl : cfg.keep 32 = [0, 2, 5]) (by rfl : cfg.mode 32 = .pure) (by rfl : cfg.ord 32 = [])
def z33 := Aa Tryz.func33 rfl (by rfl : ok 33 = true) (by rfl : cfg.keep 33 = [0, 1, 4]) (by rfl : cfg.mode 33 = .fresh) (by rfl : cfg.ord 33 = [])
def z34 := Aa Tryz.func34 rfl (by rfl : ok 34 = true) (by rfl : cfg.keep 34 = [0, 1, 3, 4, 34]) (by rfl : cfg.mode 34 = .any) (by rfl : cfg.ord 34 = [])
def z35 := Aa Tryz.func35 rfl (by rfl : ok 35 = true) (by rfl : cfg.keep 35 = [0, 2, 15, 29, 42, 43]) (by rfl : cfg.mode 35 = .any) (by rfl : cfg.ord 35 = [])
def z36 := Aa Tryz.func36 rfl (by rfl : ok 36 = true) (by rfl : cfg.keep 36 = [0, 2, 3, 4, 7, 9, 10, 11, 26]) (by rfl : cfg.mode 36 = .pure) (by rfl : cfg.ord 36 = [])
def z37 := Aa Tryz.func37 rfl (by rfl : ok 37 = true) (by rfl : cfg.keep 37 = [0, 2, 3, 9]) (by rfl : cfg.mode 37 = .pure) (by rfl : cfg.ord 37 = [])
def z38 := Aa Tryz.func38 rfl (by rfl : ok 38 = true) (by rfl : cfg.keep 38 = [0, 1, 4, 5, 12, 17, 26]) (by rfl : cfg.mode 38 = .pure) (by rfl : cfg.ord 38 = [])
def z39 := Aa Tryz.func39 rfl (by rfl : ok 39 = true) (by rfl : cfg.keep 39 = [0, 1, 4, 26, 31, 32, 34]) (by rfl : cfg.mode 39 = .pure) (by rfl : cfg.ord 39 = [])
def z40 := Aa Tryz.func40 rfl (by rfl : ok 40 = true) (by rfl : cfg.keep 40 = [0, 2, 3, 4, 19]) (by rfl : cfg.mode 40 = .any) (by rfl : cfg.ord 40 = [])
def z41 := Aa Tryz.func41 rfl (by rfl : ok 41 = true) (by rfl : cfg.keep 41 = [0, 2, 3, 4, 5, 14, 17, 43, 50, 72]) (by rfl : cfg.mode 41 = .any) (by rfl : cfg.ord 41 = [])
def z42 := Aa Tryz.func42 rfl (by rfl : ok 42 = true) (by rfl : cfg.keep 42 = [0, 2]) (by rfl : cfg.mode 42 = .pure) (by rfl : cfg.ord 42 = [])
def z43 := Aa Tryz.func43 rfl (by rfl : ok 43 = true) (by rfl : cfg.keep 43 = [0, 2]) (by rfl : cfg.mode 43 = .pure) (by rfl : cfg.ord 43 = [])
def z44 := Aa Tryz.func44 rfl (by rfl : ok 44 = true) (by rfl : cfg.keep 44 = [0, 2]) (by rfl : cfg.mode 44 = .pure) (by rfl : cfg.ord 44 = [])
def z45 := Aa Tryz.func45 rfl (by rfl : ok 45 = true) (by rfl : cfg.keep 45 = [0, 1, 4, 11]) (by rfl : cfg.mode 45 = .pure) (by rfl : cfg.ord 45 = [])
def z46 := Aa Tryz.func46 rfl (by rfl : ok 46 = true) (by rfl : cfg.keep 46 = [0, 1, 4]) (by rfl : cfg.mode 46 = .pure) (by rfl : cfg.ord 46 = [])
def z47 := Aa Tryz.func47 rfl (by rfl : ok 47 = true) (by rfl : cfg.keep 47 = [0, 1, 4, 5, 14]) (by rfl : cfg.mode 47 = .pure) (by rfl : cfg.ord 47 = [])
def z48 := Aa Tryz.func48 rfl (by rfl : ok 48 = true) (by rfl : cfg.keep 48 = [0, 1, 4, 5]) (by rfl : cfg.mode 48 = .pure) (by rfl : cfg.ord 48 = [])
def z49 := Aa Tryz.func49 rfl (by rfl : ok 49 = true) (by rfl : cfg.keep 49 = [0, 1, 4, 5, 6, 7, 34]) (by rfl : cfg.mode 49 = .pure) (by rfl : cfg.ord 49 = [])
def z50 := Aa Tryz.func50 rfl (by rfl : ok 50 = true) (by rfl : cfg.keep 50 = [0, 1, 2, 6, 11]) (by rfl : cfg.mode 50 = .any) (by rfl : cfg.ord 50 = [])
def z51 := Aa Tryz.func51 rfl (by rfl : ok 51 = true) (by rfl : cfg.keep 51 = [0, 2]) (by rfl : cfg.mode 51 = .any) (by rfl : cfg.ord 51 = [])
def z52 := Aa Tryz.func52 rfl (by rfl : ok 52 = true) (by rfl : cfg.keep 52 = [0, 1, 4, 5, 6, 7, 8, 10, 23, 51, 73, 74, 75, 76, 99]) (by rfl : cfg.mode 52 = .any) (by rfl : cfg.ord 52 = [])
def z53 := Aa Tryz.func53 rfl (by rfl : ok 53 = true) (by rfl : cfg.keep 53 = [0, 1, 4, 5, 6, 7, 9, 31, 46, 52]) (by rfl : cfg.mode 53 = .any) (by rfl : cfg.ord 53 = [])
def z54 := Aa Tryz.func54 rfl (by rfl : ok 54 = true) (by rfl : cfg.keep 54 = [0, 2, 3, 4, 16, 30]) (by rfl : cfg.mode 54 = .any) (by rfl : cfg.ord 54 = [])
def z55 := Aa Tryz.func55 rfl (by rfl : ok 55 = true) (by rfl : cfg.keep 55 = [0, 1, 4]) (by rfl : cfg.mode 55 = .any) (by rfl : cfg.ord 55 = [])
def z56 := Aa Tryz.func56 rfl (by rfl : ok 56 = true) (by rfl : cfg.keep 56 = [0, 1, 4]) (by rfl : cfg.mode 56 = .pure) (by rfl : cfg.ord 56 = [])
def z57 := Aa Tryz.func57 rfl (by rfl : ok 57 = true) (by rfl : cfg.keep 57 = [0, 1, 4]) (by rfl : cfg.mode 57 = .pure) (by rfl : cfg.ord 57 = [])
def z58 := Aa Tryz.func58 rfl (by rfl : ok 58 = true) (by rfl : cfg.keep 58 = [0, 1, 4, 11]) (by rfl : cfg.mode 58 = .pure) (by rfl : cfg.ord 58 = [])
def z59 := Aa Tryz.func59 rfl (by rfl : ok 59 = true) (by rfl : cfg.keep 59 = [0, 1, 4]) (by rfl : cfg.mode 59 = .pure) (by rfl : cfg.ord 59 = [])
def z60 := Aa Tryz.func60 rfl (by rfl : ok 60 = true) (by rfl : cfg.keep 60 = [0, 1, 4, 5, 6, 7, 8, 27, 34]) (by rfl : cfg.mode 60 = .fresh) (by rfl : cfg.ord 60 = [])
def z61 := Aa Tryz.func61 rfl (by rfl : ok 61 = true) (by rfl : cfg.keep 61 = [0, 1, 2]) (by rfl : cfg.mode 61 = .pure) (by rfl : cfg.ord 61 = [])
def z62 := Aa Tryz.func62 rfl (by rfl : ok 62 = true) (by rfl : cfg.keep 62 = [0, 2, 3, 4, 24]) (by rfl : cfg.mode 62 = .any) (by rfl : cfg.ord 62 = [])
def z63 := Aa Tryz.func63 rfl (by rfl : ok 63 = true) (by rfl : cfg.keep 63 = [0, 1, 2, 3, 8, 9, 10, 11, 12, 13, 16, 18, 25, 28, 39, 44, 57, 69, 83, 93, 115, 132, 146]) (by rfl : cfg.mode 63 = .any) (by rfl : cfg.ord 63 = [])
def z64 := Aa Tryz.func64 rfl (by rfl : ok 64 = true) (by rfl : cfg.keep 64 = [0, 1, 4]) (by rfl : cfg.mode 64 = .any) (by rfl : cfg.ord 64 = [])
def z65 := Aa Tryz.func65 rfl (by rfl : ok 65 = true) (by rfl : cfg.keep 65 = [0, 1, 2, 4]) (by rfl : cfg.mode 65 = .any) (by rfl : cfg.ord 65 = [])
def z66 := Aa Tryz.func66 rfl (by rfl : ok 66 = true) (by rfl : cfg.keep 66 = [0, 1, 4, 5, 10, 17]) (by rfl : cfg.mode 66 = .pure) (by rfl : cfg.ord 66 = [])
def z67 := Aa Tryz.func67 rfl (by rfl : ok 67 = true) (by rfl : cfg.keep 67 = [0, 1, 4]) (by rfl : cfg.mode 67 = .pure) (by rfl : cfg.ord 67 = [])
def z68 := Aa Tryz.func68 rfl (by rfl : ok 68 = true) (by rfl : cfg.keep 68 = [0, 2, 3, 23, 28, 35]) (by rfl : cfg.mode 68 = .pure) (by rfl : cfg.ord 68 = [])
def z69 := Aa Tryz.func69 rfl (by rfl : ok 69 = true) (by rfl : cfg.keep 69 = [0, 2, 3, 5, 6, 7, 18]) (by rfl : cfg.mode 69 = .pure) (by rfl : cfg.ord 69 = [])
def z70 := Aa Tryz.func70 rfl (by rfl : ok 70 = true) (by rfl : cfg.keep 70 = [0, 1, 4, 5, 6, 7, 31, 36]) (by rfl : cfg.mode 70 = .any) (by rfl : cfg.ord 70 = [])
def z71 := Aa Tryz.func71 rfl (by rfl : ok 71 = true) (by rfl : cfg.keep 71 = [0, 1, 2, 6, 7]) (by rfl : cfg.mode 71 = .any) (by rfl : cfg.ord 71 = [])
def z72 := Aa Tryz.func72 rfl (by rfl : ok 72 = true) (by rfl : cfg.keep 72 = [0, 1, 4, 5, 6, 7, 8, 9, 26, 40]) (by rfl : cfg.mode 72 = .pure) (by rfl : cfg.ord 72 = [])
def z73 := Aa Tryz.func73 rfl (by rfl : ok 73 = true) (by rfl : cfg.keep 73 = [0, 1, 2, 4, 5, 6, 7, 8, 9, 10, 11, 12, 13, 16, 22, 39, 59, 69, 84, 100, 115]) (by rfl : cfg.mode 73 = .any) (by rfl : cfg.ord 73 = [])
def z74 := Aa Tryz.func74 rfl (by rfl : ok 74 = true) (by rfl : cfg.keep 74 = [0, 1, 4]) (by rfl : cfg.mode 74 = .pure) (by rfl : cfg.ord 74 = [])
def z75 := Aa Tryz.func75 rfl (by rfl : ok 75 = true) (by rfl : cfg.keep 75 = [0, 1, 3, 4, 5, 6, 7, 8, 29, 42, 52, 84]) (by rfl : cfg.mode 75 = .any) (by rfl : cfg.ord 75 = [])
def z76 := Aa Tryz.func76 rfl (by rfl : ok 76 = true) (by rfl : cfg.keep 76 = [0, 1, 2, 4, 6, 7, 8, 9, 10, 11, 24, 46, 52, 65, 75, 81, 87]) (by rfl : cfg.mode 76 = .any) (by rfl : cfg.ord 76 = [])
def z77 := Aa Tryz.func77 rfl (by rfl : ok 77 = true) (by rfl : cfg.keep 77 = [0, 1, 2, 3, 7]) (by rfl : cfg.mode 77 = .any) (by rfl : cfg.ord 77 = [])
def z79 := Aa Tryz.func79 rfl (by rfl : ok 79 = true) (by rfl : cfg.keep 79 = [0, 2]) (by rfl : cfg.mode 79 = .pure) (by rfl : cfg.ord 79 = [])
def z80 := Aa Tryz.func80 rfl (by rfl : ok 80 = true) (by rfl : cfg.keep 80 = [0, 1, 2, 6, 7, 8, 9, 10, 11, 12, 13, 14, 15, 25, 47, 102, 119, 150, 173]) (by rfl : cfg.mode 80 = .any) (by rfl : cfg.ord 80 = [])
def z81 := Aa Tryz.func81 rfl (by rfl : ok 81 = true) (by rfl : cfg.keep 81 = [0, 1, 4, 5, 6, 8, 9, 11, 12, 13, 17, 29, 40, 59]) (by rfl : cfg.mode 81 = .pure) (by rfl : cfg.ord 81 = [])
def z82 := Aa Tryz.func82 rfl (by rfl : ok 82 = true) (by rfl : cfg.keep 82 = [0, 1, 2, 3, 4, 8, 10, 11, 16]) (by rfl : cfg.mode 82 = .any) (by rfl : cfg.ord 82 = [])
def z83 := Aa Tryz.func83 rfl (by rfl : ok 83 = true) (by rfl : cfg.keep 83 = [0, 1, 3, 4, 5, 6, 7, 9, 10, 46, 52]) (by rfl : cfg.mode 83 = .any) (by rfl : cfg.ord 83 = [])
def z84 := Aa Tryz.func84 rfl (by rfl : ok 84 = true) (by rfl : cfg.keep 84 = [0, 1, 2, 3, 8, 9, 10, 22, 42, 56]) (by rfl : cfg.mode 84 = .any) (by rfl : cfg.ord 84 = [])
def z85 := Aa Tryz.func85 rfl (by rfl : ok 85 = true) (by rfl : cfg.keep 85 = [0, 1, 4]) (by rfl : cfg.mode 85 = .any) (by rfl : cfg.ord 85 = [])
def z86 := Aa Tryz.func86 rfl (by rfl : ok 86 = true) (by rfl : cfg.keep 86 = [0, 1, 2, 6, 7, 8, 9, 10, 11, 12, 13, 14, 15, 16, 17, 30, 37, 48, 80, 96]) (by rfl : cfg.mode 86 = .pure) (by rfl : cfg.ord 86 = [])
def z87 := Aa Tryz.func87 rfl (by rfl : ok 87 = true) (by rfl : cfg.keep 87 = [0, 1, 3, 4, 5, 15, 21, 27, 33, 39, 52]) (by rfl : cfg.mode 87 = .any) (by rfl : cfg.ord 87 = [])
def z88 := Aa Tryz.func88 rfl (by rfl : ok 88 = true) (by rfl : cfg.keep 88 = [0, 1, 3, 4, 5, 6, 7, 8, 9, 23, 32, 61]) (by rfl : cfg.mode 88 = .any) (by rfl : cfg.ord 88 = [])
def z89 := Aa Tryz.func89 rfl (by rfl : ok 89 = true) (by rfl : cfg.keep 89 = [0, 2]) (by rfl : cfg.mode 89 = .pure) (by rfl : cfg.ord 89 = [])
def z90 := Aa Tryz.func90 rfl (by rfl : ok 90 = true) (by rfl : cfg.keep 90 = [0, 1, 3, 4, 5, 6, 7, 8, 31, 46]) (by rfl : cfg.mode 90 = .any) (by rfl : cfg.ord 90 = [])
def z91 := Aa Tryz.func91 rfl (by rfl : ok 91 = true) (by rfl : cfg.keep 91 = [0, 1, 2, 6, 7, 30, 40]) (by rfl : cfg.mode 91 = .pure) (by rfl : cfg.ord 91 = [])
def z92 := Aa Tryz.func92 rfl (by rfl : ok 92 = true) (by rfl : cfg.keep 92 = [0, 1, 2, 3, 5, 8, 9, 10]) (by rfl : cfg.mode 92 = .any) (by rfl : cfg.ord 92 = [])
def z93 := Aa Tryz.func93 rfl (by rfl : ok 93 = true) (by rfl : cfg.keep 93 = [0, 1, 4, 5, 6, 7, 8, 20, 30]) (by rfl : cfg.mode 93 = .pure) (by rfl : cfg.ord 93 = [])
def z94 := Aa Tryz.func94 rfl (by rfl : ok 94 = true) (by rfl : cfg.keep 94 = [0, 1, 4, 5, 6, 7, 8, 15, 23, 35, 47, 53]) (by rfl : cfg.mode 94 = .pure) (by rfl : cfg.ord 94 = [])
def z95 := Aa Tryz.func95 rfl (by rfl : ok 95 = true) (by rfl : cfg.keep 95 = [0, 1, 4, 5, 6, 7, 8, 10, 11, 19, 41, 59, 60, 61, 62, 63, 69, 72, 78, 79, 83]) (by rfl : cfg.mode 95 = .pure) (by rfl : cfg.ord 95 = [])
def z96 := Aa Tryz.func96 rfl (by rfl : ok 96 = true) (by rfl : cfg.keep 96 = [0, 1, 4, 5, 6, 7, 8, 15, 28, 44, 49, 54, 69]) (by rfl : cfg.mode 96 = .pure) (by rfl : cfg.ord 96 = [])
def z97 := Aa Tryz.func97 rfl (by rfl : ok 97 = true) (by rfl : cfg.keep 97 = [0, 1, 4, 5, 6, 7, 8, 9, 10, 11, 18, 31, 59, 65, 76, 81, 94, 108]) (by rfl : cfg.mode 97 = .pure) (by rfl : cfg.ord 97 = [])
def z98 := Aa Tryz.func98 rfl (by rfl : ok 98 = true) (by rfl : cfg.keep 98 = [0, 1, 4]) (by rfl : cfg.mode 98 = .pure) (by rfl : cfg.ord 98 = [])
def z99 := Aa Tryz.func99 rfl (by rfl : ok 99 = true) (by rfl : cfg.keep 99 = [0, 1, 2, 6, 7, 8, 9, 18, 63, 75]) (by rfl : cfg.mode 99 = .pure) (by rfl : cfg.ord 99 = [])
def z100 := Aa Tryz.func100 rfl (by rfl : ok 100 = true) (by rfl : cfg.keep 100 = [0, 1]) (by rfl : cfg.mode 100 = .any) (by rfl : cfg.ord 100 = [])
def z101 := Aa Tryz.func101 rfl (by rfl : ok 101 = true) (by rfl : cfg.keep 101 = [0, 1, 4, 5, 6, 7, 8, 9, 10, 11, 12, 13, 14, 26, 40, 45, 54, 68]) (by rfl : cfg.mode 101 = .pure) (by rfl : cfg.ord 101 = [])
def z102 := Aa Tryz.func102 rfl (by rfl : ok 102 = true) (by rfl : cfg.keep 102 = [0, 1, 4]) (by rfl : cfg.mode 102 = .pure) (by rfl : cfg.ord 102 = [])
def z103 := Aa Tryz.func103 rfl (by rfl : ok 103 = true) (by rfl : cfg.keep 103 = [0, 1, 2, 6, 7, 17, 21, 26]) (by rfl : cfg.mode 103 = .pure) (by rfl : cfg.ord 103 = [])
def z104 := Aa Tryz.func104 rfl (by rfl : ok 104 = true) (by rfl : cfg.keep 104 = [0, 1, 4]) (by rfl : cfg.mode 104 = .pure) (by rfl : cfg.ord 104 = [])
def z105 := Aa Tryz.func105 rfl (by rfl : ok 105 = true) (by rfl : cfg.keep 105 = [0, 1, 4, 5, 6, 14]) (by rfl : cfg.mode 105 = .pure) (by rfl : cfg.ord 105 = [])
def z106 := Aa Tryz.func106 rfl (by rfl : ok 106 = true) (by rfl : cfg.keep 106 = [0, 1, 2, 6, 7, 8, 20, 24, 26, 34, 39, 40, 43]) (by rfl : cfg.mode 106 = .pure) (by rfl : cfg.ord 106 = [])
def z107 := Aa Tryz.func107 rfl (by rfl : ok 107 = true) (by rfl : cfg.keep 107 = [0, 1, 3, 4, 5, 6, 18, 28, 38, 61]) (by rfl : cfg.mode 107 = .any) (by rfl : cfg.ord 107 = [])
def z108 := Aa Tryz.func108 rfl (by rfl : ok 108 = true) (by rfl : cfg.keep 108 = [0, 1, 3, 4, 5, 6, 18, 28, 38, 61]) (by rfl : cfg.mode 108 = .any) (by rfl : cfg.ord 108 = [])
def z109 := Aa Tryz.func109 rfl (by rfl : ok 109 = true) (by rfl : cfg.keep 109 = [0, 1, 2, 3, 8, 9, 10, 11, 12, 13, 14, 15, 23, 44, 48, 49, 50]) (by rfl : cfg.mode 109 = .pure) (by rfl : cfg.ord 109 = [])
def z110 := Aa Tryz.func110 rfl (by rfl : ok 110 = true) (by rfl : cfg.keep 110 = [0, 1, 4, 15]) (by rfl : cfg.mode 110 = .pure) (by rfl : cfg.ord 110 = [])
def z111 := Aa Tryz.func111 rfl (by rfl : ok 111 = true) (by rfl : cfg.keep 111 = [0, 1, 4, 6, 56]) (by rfl : cfg.mode 111 = .any) (by rfl : cfg.ord 111 = [])
def z112 := Aa Tryz.func112 rfl (by rfl : ok 112 = true) (by rfl : cfg.keep 112 = [0, 1, 2, 3, 26]) (by rfl : cfg.mode 112 = .any) (by rfl : cfg.ord 112 = [])
def z113 := Aa Tryz.func113 rfl (by rfl : ok 113 = true) (by rfl : cfg.keep 113 = [0, 2, 3, 4]) (by rfl : cfg.mode 113 = .any) (by rfl : cfg.ord 113 = [])
def z114 := Aa Tryz.func114 rfl (by rfl : ok 114 = true) (by rfl : cfg.keep 114 = [0, 1, 4, 5, 6, 7, 8, 9, 10, 11, 25, 33, 61]) (by rfl : cfg.mode 114 = .pure) (by rfl : cfg.ord 114 = [])
def z115 := Aa Tryz.func115 rfl (by rfl : ok 115 = true) (by rfl : cfg.keep 115 = [0, 1, 4]) (by rfl : cfg.mode 115 = .pure) (by rfl : cfg.ord 115 = [])
def z118 := Aa Tryz.func118 rfl (by rfl : ok 118 = true) (by rfl : cfg.keep 118 = [0, 2, 3, 4, 5, 7, 8, 9, 10, 11, 15, 22, 29, 41]) (by rfl : cfg.mode 118 = .pure) (by rfl : cfg.ord 118 = [])
def z119 := Aa Tryz.func119 rfl (by rfl : ok 119 = true) (by rfl : cfg.keep 119 = [0, 2]) (by rfl : cfg.mode 119 = .any) (by rfl : cfg.ord 119 = [])
def z120 := Aa Tryz.func120 rfl (by rfl : ok 120 = true) (by rfl : cfg.keep 120 = [0, 2, 3, 4, 20]) (by rfl : cfg.mode 120 = .any) (by rfl : cfg.ord 120 = [])
def z121 := Aa Tryz.func121 rfl (by rfl : ok 121 = true) (by rfl : cfg.keep 121 = [0, 1, 4, 13, 20, 29]) (by rfl : cfg.mode 121 = .any) (by rfl : cfg.ord 121 = [])
def z122 := Aa Tryz.func122 rfl (by rfl : ok 122 = true) (by rfl : cfg.keep 122 = [0, 2, 3, 4, 5, 6, 7, 23, 39, 45, 51, 64, 88, 129, 142, 157]) (by rfl : cfg.mode 122 = .any) (by rfl : cfg.ord 122 = [])
def z123 := Aa Tryz.func123 rfl (by rfl : ok 123 = true) (by rfl : cfg.keep 123 = [0, 1, 2, 3, 8, 9, 10, 11, 12, 13, 19, 26, 32, 70]) (by rfl : cfg.mode 123 = .pure) (by rfl : cfg.ord 123 = [])
def z124 := Aa Tryz.func124 rfl (by rfl : ok 124 = true) (by rfl : cfg.keep 124 = [0, 2, 3, 4, 5, 6, 7, 10, 22, 43, 46, 53]) (by rfl : cfg.mode 124 = .pure) (by rfl : cfg.ord 124 = [])
def z125 := Aa Tryz.func125 rfl (by rfl : ok 125 = true) (by rfl : cfg.keep 125 = [0, 2, 3, 4, 6, 12, 15, 17, 24, 26, 28, 34, 36, 38, 40]) (by rfl : cfg.mode 125 = .pure) (by rfl : cfg.ord 125 = [])
def z126 := Aa Tryz.func126 rfl (by rfl : ok 126 = true) (by rfl : cfg.keep 126 = [0, 1, 2, 6, 7, 8, 9, 10, 11, 12, 13, 20, 28, 37]) (by rfl : cfg.mode 126 = .pure) (by rfl : cfg.ord 126 = [])
def z127 := Aa Tryz.func127 rfl (by rfl : ok 127 = true) (by rfl : cfg.keep 127 = [0, 1, 4, 5, 6, 7, 8, 9, 10, 11, 12, 13, 16, 24, 31, 36, 59, 64, 73, 93, 107, 114, 132, 139]) (by rfl : cfg.mode 127 = .pure) (by rfl : cfg.ord 127 = [])
def z134 := Aa Tryz.func134 rfl (by rfl : ok 134 = true) (by rfl : cfg.keep 134 = [0, 2]) (by rfl : cfg.mode 134 = .pure) (by rfl : cfg.ord 134 = [])
def z135 := Aa Tryz.func135 rfl (by rfl : ok 135 = true) (by rfl : cfg.keep 135 = [0, 2, 3, 20]) (by rfl : cfg.mode 135 = .any) (by rfl : cfg.ord 135 = [])
attribute [go_sem] Tryz.f3 Tryz.f4 Tryz.f5 Tryz.f6 Tryz.f7 Tryz.f8 Tryz.f9 Tryz.f10 Tryz.f11 Tryz.f12 Tryz.f13 Tryz.f14 Tryz.f15 Tryz.f16 Tryz.f17 Tryz.f18 Tryz.f19 Tryz.f20 Tryz.f21 Tryz.f22 Tryz.f23 Tryz.f24 Tryz.f25 Tryz.f26 Tryz.f27 Tryz.f28 Tryz.f29 Tryz.f30 Tryz.f31 Tryz.f32 Tryz.f33 Tryz.f34 Tryz.f35 Tryz.f36 Tryz.f37 Tryz.f38 Tryz.f39 Tryz.f40 Tryz.f41 Tryz.f42 Tryz.f43 Tryz.f44 Tryz.f45 Tryz.f46 Tryz.f47 Tryz.f48 Tryz.f49 Tryz.f50 Tryz.f51 Tryz.f52 Tryz.f53 Tryz.f54 Tryz.f55 Tryz.f56 Tryz.f57 Tryz.f58 Tryz.f59 Tryz.f60 Tryz.f61 Tryz.f62 Tryz.f63 Tryz.f64 Tryz.f65 Tryz.f66 Tryz.f67 Tryz.f68 Tryz.f69 Tryz.f70 Tryz.f71 Tryz.f72 Tryz.f73 Tryz.f74 Tryz.f75 Tryz.f76 Tryz.f77 Tryz.f79 Tryz.f80 Tryz.f81 Tryz.f82 Tryz.f83 Tryz.f84 Tryz.f85 Tryz.f86 Tryz.f87 Tryz.f88 Tryz.f89 Tryz.f90 Tryz.f91 Tryz.f92 Tryz.f93 Tryz.f94 Tryz.f95 Tryz.f96 Tryz.f97 Tryz.f98 Tryz.f99 Tryz.f100 Tryz.f101 Tryz.f102 Tryz.f103 Tryz.f104 Tryz.f105 Tryz.f106 Tryz.f107 Tryz.f108 Tryz.f109 Tryz.f110 Tryz.f111 Tryz.f112 Tryz.f113 Tryz.f114 Tryz.f115 Tryz.f118 Tryz.f119 Tryz.f120 Tryz.f121 Tryz.f122 Tryz.f123 Tryz.f124 Tryz.f125 Tryz.f126 Tryz.f127 Tryz.f134 Tryz.f135
theorem own : ownKnob Tryz.prog.godebug = none := by kernel_rfl
theorem UJ : laidOutB Tryz.prog = true := by kernel_rfl
set_option maxRecDepth 100000
theorem OF {G B : LH} {v : V} {xs : List UInt8} {fl f0 : Nat} (hx : Hx G B) (ho : Own f0 B byC 1 v xs) (hf : fl ≤ f0) (hg : G.length ≤ f0) (hB : f0 ≤ B.length) (L : LH) (ys : List UInt8) (hy : 0 < ys.length) (hn : xs.length + ys.length ≤ 1099511627776) :
 ∃ b W, AB fl 1 1 (B ++ L) ys.length (rows byC ys) v = some (.sl b 0 1 (xs.length + ys.length) (xs.length + ys.length), W) ∧ Own f0 W byC 1 (.sl b 0 1 (xs.length + ys.length) (xs.length + ys.length)) (xs ++ ys) ∧ Hx G W
  ∧ (∀ c l, B.cellsAt c = some l → c < f0 → W.cellsAt c = some l) := by
 have ap := OG (fl := fl) (ho.ext (Hx.app (L := L))) Ab hf ys hy 1 (by unfold Aj; omega)
 have an := D8 (enc := byC) (z := 1) (v := v) (H := B ++ L) (f0 := f0) (by rw [List.length_append]; omega) (xs ++ ys)
 have e : (xs ++ ys).length = xs.length + ys.length := List.length_append
 rw [e] at an
 exact ⟨_, _, ap, an, M1 (hx.trans Hx.app) (ho.ext Hx.app) hg, fun c l hc hlt => Kz (Ag hc) (ho.ext (Hx.app (L := L))) hlt _⟩
theorem AO {G B : LH} {v : V} {xs : List UInt8} {fl f0 : Nat} (hx : Hx G B) (ho : Own f0 B byC 1 v xs) (hf : fl ≤ f0) (hg : G.length ≤ f0) (hB : f0 ≤ B.length) (L : LH) (x : UInt8) (hn : xs.length + 1 ≤ 1099511627776) :
 ∃ b W, AB fl 1 1 (B ++ L) 1 [V.int .u8 (x.toNat : Nat)] v = some (.sl b 0 1 (xs.length + 1) (xs.length + 1), W) ∧ Own f0 W byC 1 (.sl b 0 1 (xs.length + 1) (xs.length + 1)) (xs ++ [x]) ∧ Hx G W
  ∧ (∀ c l, B.cellsAt c = some l → c < f0 → W.cellsAt c = some l) := OF hx ho hf hg hB L [x] (by simp) hn
def endN (s : ByteArray) (p : Nat) : Nat := if p < s.size ∧ bA s p ≠ 10 then endN s (p + 1) else p
termination_by s.size - p
theorem I2 {s : ByteArray} {p : Nat} (h : p < s.size) (h2 : bA s p ≠ 10) : endN s p = endN s (p + 1) := by rw [endN, if_pos ⟨h, h2⟩]
theorem Jj {s : ByteArray} {p : Nat} (h : ¬ (p < s.size ∧ bA s p ≠ 10)) : endN s p = p := by rw [endN, if_neg h]
theorem El (s : ByteArray) : ∀ (d p : Nat), s.size - p ≤ d → p ≤ s.size → p ≤ endN s p ∧ endN s p ≤ s.size ∧ (∀ j : Nat, p ≤ j → j < endN s p → bA s j ≠ 10) ∧ (endN s p < s.size → bA s (endN s p) = 10) := by
 intro d
 induction d with
 | zero =>
   intro p hd hp
   rw [Jj (by omega)]
   exact ⟨Nat.le_refl _, hp, fun j h1 h2 => by omega, fun h => by omega⟩
 | succ d ih =>
   intro p hd hp
   by_cases h : p < s.size ∧ bA s p ≠ 10
   ·rw [I2 h.1 h.2]
    obtain ⟨h1, h2, h3, h4⟩ := ih (p + 1) (by omega) (by omega)
    refine ⟨by omega, h2, fun j hj1 hj2 => ?_, h4⟩
    by_cases hj : j = p
    ·rw [hj]; exact h.2
    ·exact h3 j (by omega) hj2
   ·rw [Jj h]
    refine ⟨Nat.le_refl _, hp, fun j h1 h2 => by omega, fun hlt => ?_⟩
    by_cases h10 : bA s p = 10
    ·exact h10
    ·exact absurd ⟨hlt, h10⟩ h
theorem B4 {s : ByteArray} {p : Nat} (h : p ≤ s.size) : p ≤ endN s p := (El s _ p (Nat.le_refl _) h).1
theorem Be {s : ByteArray} {p : Nat} (h : p ≤ s.size) : endN s p ≤ s.size := (El s _ p (Nat.le_refl _) h).2.1
theorem KO {s : ByteArray} {p : Nat} (h : p ≤ s.size) : ∀ j : Nat, p ≤ j → j < endN s p → bA s j ≠ 10 := (El s _ p (Nat.le_refl _) h).2.2.1
theorem G9 {s : ByteArray} {p : Nat} (h : p ≤ s.size) : endN s p < s.size → bA s (endN s p) = 10 := (El s _ p (Nat.le_refl _) h).2.2.2
theorem HX (s : ByteArray) (q e : Nat) : bs (s.extract q e) = ((bs s).drop q).take (e - q) := by
 simp [bs, ByteArray.data_extract, List.extract_eq_take_drop]
theorem Ap {s : ByteArray} {q e : Nat} (h : e ≤ s.size) : (s.extract q e).size = e - q := by
 rw [ByteArray.size_extract, Nat.min_eq_left h]
theorem OK {s : ByteArray} {p : Nat} (hp : p ≤ s.size) (i : Nat) : bA (s.extract p s.size) i = bA s ((p + i : Nat) : Int) := by
 by_cases h : p + i < s.size
 ·have h1 : i < (s.extract p s.size).size := by rw [Ap (Nat.le_refl _)]; omega
  rw [Bn h1, Bn h]
  simp only [HX]
  rw [List.getElem_take, List.getElem_drop]
 ·rw [B3 (by rw [Ap (Nat.le_refl _)]; omega), B3 (by omega)]
theorem UB {s : ByteArray} {p : Nat} (hp : p ≤ s.size) : idxB (s.extract p s.size) 10 = if endN s p < s.size then ((endN s p - p : Nat) : Int) else -1 := by
 have h1 := B4 hp
 have h2 := Be hp
 have h3 := KO hp
 have h4 := G9 hp
 have hz : (s.extract p s.size).size = s.size - p := Ap (Nat.le_refl _)
 rcases Ik (s.extract p s.size) 10 with ⟨e, h⟩ | ⟨i, e, hi, ha, hb⟩
 ·rw [e]
  by_cases hlt : endN s p < s.size
  ·exfalso
   have := h (endN s p - p) (by omega)
   rw [OK hp, show p + (endN s p - p) = endN s p by omega] at this
   exact this (h4 hlt)
  ·rw [if_neg hlt]
 ·rw [e]
  rw [OK hp] at ha
  have hge : endN s p ≤ p + i := by
   rcases Nat.lt_or_ge (p + i) (endN s p) with hl | hl
   ·exact absurd ha (h3 (p + i) (by omega) hl)
   ·exact hl
  have hlt : endN s p < s.size := by omega
  rw [if_pos hlt]
  have hle : p + i ≤ endN s p := by
   rcases Nat.lt_or_ge (endN s p) (p + i) with hl | hl
   ·exfalso
    have := hb (endN s p - p) (by omega)
    rw [OK hp, show p + (endN s p - p) = endN s p by omega] at this
    exact this (h4 hlt)
   ·exact hl
  omega
set_option maxHeartbeats 40000000
open Go.Proofs.YthlbglmfdjdagaaGreatDoor
def andZ (x m : Int) : Int := ((BitVec.ofInt 64 x &&& BitVec.ofInt 64 m).toNat : Int)
def xorZ (x y : Int) : Int := IntKind.wrap .i64 (BitVec.ofInt 64 x ^^^ BitVec.ofInt 64 y).toNat
theorem FB {x m : Int} (h0 : 0 ≤ m) (h : m < 9223372036854775808) : 0 ≤ andZ x m ∧ andZ x m ≤ m := by
 obtain ⟨n, rfl⟩ : ∃ n : Nat, m = n := ⟨m.toNat, by omega⟩
 unfold andZ
 refine ⟨by omega, ?_⟩
 rw [BitVec.toNat_and]
 have h1 : (BitVec.ofInt 64 (n : Int)).toNat = n := by
  rw [BitVec.toNat_ofInt]
  have : ((2 ^ 64 : Nat) : Int) = 18446744073709551616 := by decide
  rw [this, Int.emod_eq_of_lt (by omega) (by omega)]
  rfl
 rw [h1]
 have := Nat.and_le_right (n := (BitVec.ofInt 64 x).toNat) (m := n)
 omega
theorem J4 {x m : Int} (h : 0 ≤ m ∧ m < 9223372036854775808) : C4 .and .i64 x m = some (.int .i64 (andZ x m)) := by
 have := FB (x := x) h.1 h.2
 show some (V.int .i64 (IntKind.wrap .i64 (andZ x m))) = _
 rw [IntWalk.i64_in _ (by omega)]
theorem Kx {x y : Int} : C4 .xor .i64 x y = some (.int .i64 (xorZ x y)) := rfl
structure DAt (G H : LH) (b : Nat) (cv : V) (code : List UInt8) : Prop where
 hx : Hx G H
 hG : G.length ≤ b
 at_ : At G byC 1 cv code
 len : code.length ≤ 1099511627776
 cell : ∃ i h : Int, H.cellsAt b = some [cv, .int .i64 i, .int .i64 h] ∧ 0 ≤ i ∧ i ≤ code.length
theorem DAt.set {G H : LH} {b : Nat} {cv : V} {code : List UInt8} (h : DAt G H b cv code) {i n : Int} (h0 : 0 ≤ i) (h1 : i ≤ code.length) : DAt G (H.set b (.cells [cv, .int .i64 i, .int .i64 n])) b cv code := by
 obtain ⟨hx, hG, ha, hl, i', n', hc, _⟩ := h
 exact ⟨hx.set hG, hG, ha, hl, i, n, A1 (A5 hc), h0, h1⟩
theorem DAt.left {G H L : LH} {b : Nat} {cv : V} {code : List UInt8} (h : DAt G H b cv code) : DAt G (H ++ L) b cv code := by
 obtain ⟨hx, hG, ha, hl, i', n', hc, k⟩ := h
 exact ⟨hx.trans Hx.app, hG, ha, hl, i', n', Ag hc, k⟩
def Cur (H B : LH) (b : Nat) : Prop := ∃ c, B = H.set b (.cells c)
theorem Cur.trans {A B C : LH} {b : Nat} (h : Cur A B b) (k : Cur B C b) : Cur A C b := by
 obtain ⟨c, rfl⟩ := h; obtain ⟨d, rfl⟩ := k; exact ⟨d, by rw [List.set_set]⟩
theorem Ck {G H : LH} {b : Nat} {cv : V} {code : List UInt8} (h : DAt G H b cv code) (fl : Nat) (hf : fl ≤ b) :
 Ret (fun w B => ∃ x : Int, w = .int .i64 x ∧ 0 ≤ x ∧ x ≤ 255 ∧ DAt G B b cv code ∧ Cur H B b) (run 21 [.ptr b 0] fl H) := by
 have h' := h
 obtain ⟨hx, hG, ha, hl, i, n, hc, hi0, hi1⟩ := h
 have hb := A5 hc
 have p1 := ha.isTup; have p2 := ha.one
 have q1 := FB (m := 255) (x := 0) (by decide) (by decide)
 have ab := fun x => J4 (x := x) (m := 255) (by decide)
 have ar := fun x => FB (x := x) (m := 255) (by decide) (by decide)
 have bx : ∀ x, Hx G (List.set H b x) := fun x => hx.set hG
 have f2 := ha.len; have f3 := ha.lenOk ty22
 unfold run
 rw [z21]
 by_cases hlt : i < (code.length : Int)
 ·obtain ⟨j, rfl⟩ : ∃ j : Nat, i = j := ⟨i.toNat, by omega⟩
  have hj : j < code.length := by omega
  have t1 : ((j : Int) < (code.length : Int)) = True := eq_true hlt
  have g5 := ha.idx (T := ty Tryz.prog) (t := 22) (by simp only [Av, AC, ty5, ty22]) .i64 j (by omega) hlt
  have g4 : ∀ x, LH.cellsAt (List.set H b x) (blkV cv) = some (conV G cv) := fun x => (bx x).cells (ha.con (by omega))
  have g6 := fun n K => ha.load1 0 (fun x => .int .u8 x.toNat) (fun _ => rfl) j hj n K
  have g7 := (code.getD j 0).toNat_lt
  simp only [Nat.mul_one, Int.toNat_natCast] at g5
  simp +contextual -implicitDefEqProofs (maxSteps := 10000000) (disch := first | (and_intros <;> omega -splitDisjunctions) | (push_cast; and_intros <;> omega -splitDisjunctions) | fail) only [hc, hf, p1, p2, f2, f3, t1, ab, Kx, g4, g5, g6, A1, A0, A2, A3, go_sem, seval]
  exact ⟨_, rfl, (ar _).1, (ar _).2, h'.set (by omega) (by omega), _, rfl⟩
 ·have t1 : (i < (code.length : Int)) = False := eq_false hlt
  simp +contextual -implicitDefEqProofs (maxSteps := 10000000) (disch := first | (and_intros <;> omega -splitDisjunctions) | (push_cast; and_intros <;> omega -splitDisjunctions) | fail) only [hc, hf, p1, p2, f2, f3, t1, ab, Kx, A1, A0, A2, A3, go_sem, seval]
  exact ⟨_, rfl, (ar _).1, (ar _).2, h'.set (by omega) (by omega), _, rfl⟩
theorem N6 {x n : Int} (h0 : 0 ≤ x) (hn : 0 < n) : 0 ≤ x.tmod n ∧ x.tmod n < n := ⟨Int.tmod_nonneg n h0, Int.tmod_lt_of_pos x hn⟩
theorem Kf {G H : LH} {b : Nat} {cv : V} {code : List UInt8} (h : DAt G H b cv code) (n : Int) (hn : n ≤ 4611686018427387904) (fl : Nat) (hf : fl ≤ b) :
 Ret (fun w B => ∃ x : Int, w = .int .i64 x ∧ 0 ≤ x ∧ (x < n ∨ n ≤ 0 ∧ x = 0) ∧ DAt G B b cv code ∧ (B = H ∨ Cur H B b)) (run 20 [.ptr b 0, .int .i64 n] fl H) := by
 generalize hQ : (fun (w : V) (B : LH) => ∃ x : Int, w = .int .i64 x ∧ 0 ≤ x ∧ (x < n ∨ n ≤ 0 ∧ x = 0) ∧ DAt G B b cv code ∧ (B = H ∨ Cur H B b)) = Q
 unfold run
 rw [z20]
 by_cases h0 : n ≤ 0
 ·have t1 : (n ≤ 0) = True := eq_true h0
  simp +contextual -implicitDefEqProofs (maxSteps := 10000000) (disch := first | (and_intros <;> omega -splitDisjunctions) | (push_cast; and_intros <;> omega -splitDisjunctions) | fail) only [t1, go_sem, seval]
  subst hQ
  exact ⟨0, rfl, Int.le_refl _, .inr ⟨h0, rfl⟩, h, .inl rfl⟩
 have t1 : (n ≤ 0) = False := eq_false h0
 have t3 : n ≠ 0 := by omega
 have t4 : (n = 0) = False := eq_false t3
 obtain ⟨_, B, e1, x, rfl, x0, x1, hB, cB⟩ := Ck h fl hf
 by_cases h2 : n ≤ 256
 ·have t2 : (n ≤ 256) = True := eq_true h2
  have hr := N6 x0 (show 0 < n by omega)
  unfold run at e1
  simp +contextual -implicitDefEqProofs (maxSteps := 10000000) (disch := first | (and_intros <;> omega -splitDisjunctions) | (push_cast; and_intros <;> omega -splitDisjunctions) | fail) only [t1, t2, t4, ne_eq, not_false_eq_true, e1, go_sem, seval]
  subst hQ
  exact ⟨_, rfl, hr.1, .inl hr.2, hB, .inr cB⟩
 have t2 : (n ≤ 256) = False := eq_false h2
 obtain ⟨_, C, e2, y, rfl, y0, y1, hC, cC⟩ := Ck hB fl hf
 obtain ⟨_, D, e3, z, rfl, z0, z1, hD, cD⟩ := Ck hC fl hf
 obtain ⟨_, E, e4, u, rfl, u0, u1, hE, cE⟩ := Ck hD fl hf
 have hr := N6 (show 0 ≤ x * 16777216 + y * 65536 + z * 256 + u by omega) (show 0 < n by omega)
 unfold run at e1 e2 e3 e4
 simp +contextual -implicitDefEqProofs (maxSteps := 10000000) (disch := first | (and_intros <;> omega -splitDisjunctions) | (push_cast; and_intros <;> omega -splitDisjunctions) | fail) only [t1, t2, t4, ne_eq, not_false_eq_true, e1, e2, e3, e4, go_sem, seval]
 subst hQ
 exact ⟨_, rfl, hr.1, .inl hr.2, hE, .inr (((cB.trans cC).trans cD).trans cE)⟩
theorem Cur.cells {H B : LH} {b c : Nat} {l : List V} (h : Cur H B b) (hc : H.cellsAt c = some l) (hne : c ≠ b) : B.cellsAt c = some l := by
 obtain ⟨x, rfl⟩ := h
 rw [A0 (fun e => hne e.symm)]; exact hc
theorem O8 {H : LH} {cv : V} {code : List UInt8} (h : At H byC 1 cv code) (hl : code.length ≤ 1099511627776) (fl : Nat) :
 Ret (fun w B => w = .ptr H.length 0 ∧ DAt H B H.length cv code ∧ B.length = H.length + 1) (run 11 [cv] fl H) := by
 have p1 := h.isTup; have p2 := h.one; have f2 := h.len; have f3 := h.lenOk ty22
 have am := fun x => J4 (x := x) (m := 1073741823) (by decide)
 have ar := fun x => FB (x := x) (m := 1073741823) (by decide) (by decide)
 unfold run
 rw [z11]
 simp +contextual -implicitDefEqProofs (maxSteps := 10000000) (disch := first | (and_intros <;> omega -splitDisjunctions) | (push_cast; and_intros <;> omega -splitDisjunctions) | fail) only [p1, p2, f2, f3, go_sem, seval]
 refine B9 fun c R hc hR => ?_
 have key : ∀ (m : Nat) (i : Nat) (j n : Int) (x2 x15 : Option V), code.length - i < m → j = i → i ≤ code.length → 0 ≤ n → n ≤ 1099511918193 →
  Ret (fun w B => w = .ptr H.length 0 ∧ DAt H B H.length cv code ∧ B.length = H.length + 1) (zEv (Ac (mkR Tryz.prog cfg ok [0, 2, 3, 4, 15] H.length) .fresh H [ResultVar.tmp 2]) (mkR Tryz.prog cfg ok [0, 2, 3, 4, 15] H.length) (K.code (Code.loop c) :: K.blk 0 :: R) .nrm [some cv, x2, some (.int .i64 n), some (.int .i64 j), x15] (H)) := by
  intro m
  induction m with
  | zero => intro i j n x2 x15 hm; omega
  | succ m ih =>
    intro i j n x2 x15 hm hj hi h0 h1
    subst hj
    have fin : DAt H (H ++ [Blk.cells [cv, V.int .i64 0, V.int .i64 n]]) H.length cv code ∧ (H ++ [Blk.cells [cv, V.int .i64 0, V.int .i64 n]]).length = H.length + 1 := ⟨⟨Hx.app, Nat.le_refl _, h, hl, 0, n, by rw [A7]; rfl, by omega, by omega⟩, by simp⟩
    by_cases hlt : i < code.length
    ·have t1 : ((i : Int) < code.length) = True := eq_true (by omega)
     by_cases h4 : i < 4000
     ·have t2 : ((i : Int) < 4000) = True := eq_true (by omega)
      have g5 := h.idx (T := ty Tryz.prog) (t := 22) (by simp only [Av, AC, ty5, ty22]) .i64 i (by omega) (by omega)
      have g4 := h.con (by omega)
      have g6 := fun n K => h.load1 0 (fun x => .int .u8 x.toNat) (fun _ => rfl) i hlt n K
      have g7 := (code.getD i 0).toNat_lt
      simp only [Nat.mul_one, Int.toNat_natCast] at g5
      rw [A4 hc]
      simp +contextual -implicitDefEqProofs (maxSteps := 10000000) (disch := first | (and_intros <;> omega -splitDisjunctions) | (push_cast; and_intros <;> omega -splitDisjunctions) | fail) only [p1, p2, f2, f3, t1, t2, am, g4, g5, g6, go_sem, seval]
      exact ih (i + 1) ((i : Int) + 1) _ _ _ (by omega) (by omega) (by omega) (ar _).1 (Int.le_trans (ar _).2 (by decide))
     ·have t2 : ((i : Int) < 4000) = False := eq_false (by omega)
      rw [A4 hc, ← hR]
      simp +contextual -implicitDefEqProofs (maxSteps := 10000000) (disch := first | (and_intros <;> omega -splitDisjunctions) | (push_cast; and_intros <;> omega -splitDisjunctions) | fail) only [p1, p2, f2, f3, t1, t2, go_sem, seval]
      exact fin.1
    ·have t1 : ((i : Int) < code.length) = False := eq_false (by omega)
     rw [A4 hc, ← hR]
     simp +contextual -implicitDefEqProofs (maxSteps := 10000000) (disch := first | (and_intros <;> omega -splitDisjunctions) | (push_cast; and_intros <;> omega -splitDisjunctions) | fail) only [p1, p2, f2, f3, t1, go_sem, seval]
     exact fin.1
 exact key (code.length + 1) 0 0 _ _ _ (by omega) rfl (Nat.zero_le _) (by omega) (by omega)
open Go.Proofs.YthlbglmfdjdagaaGreatDoor
def fstB (n : Nat) : Int := firstL.getD n 0
theorem Pu {n : Nat} (h : n < 256) : (u8s firstL)[n]? = some (.int .u8 (fstB n)) := by
 have : ∀ n, n < 256 → (u8s firstL)[n]? = some (.int .u8 (fstB n)) := by
  intro n hn
  have hl : firstL.length = 256 := by kernel_rfl
  unfold u8s fstB
  rw [List.getElem?_map, List.getElem?_eq_getElem (by omega), Bp (by omega)]
  rfl
 exact this n h
theorem Ux {b : Nat} (h : 128 ≤ b) (h2 : b < 256) : (fstB b = 241 ∧ (b < 194 ∨ 244 < b)) ∨ (fstB b = 2 ∧ 194 ≤ b ∧ b ≤ 223) ∨ (fstB b = 19 ∧ b = 224) ∨ (fstB b = 3 ∧ (225 ≤ b ∧ b ≤ 236 ∨ 238 ≤ b ∧ b ≤ 239)) ∨
 (fstB b = 35 ∧ b = 237) ∨ (fstB b = 52 ∧ b = 240) ∨ (fstB b = 4 ∧ 241 ≤ b ∧ b ≤ 243) ∨ (fstB b = 68 ∧ b = 244) := by
 have key : ((List.range 256).all fun b => b < 128 || ((fstB b == 241 && (b < 194 || 244 < b)) || (fstB b == 2 && 194 ≤ b && b ≤ 223) || (fstB b == 19 && b == 224) || (fstB b == 3 && ((225 ≤ b && b ≤ 236) || (238 ≤ b && b ≤ 239))) ||
  (fstB b == 35 && b == 237) || (fstB b == 52 && b == 240) || (fstB b == 4 && 241 ≤ b && b ≤ 243) || (fstB b == 68 && b == 244))) = true := by kernel_rfl
 have := List.all_eq_true.1 key b (List.mem_range.2 h2)
 simp only [Bool.or_eq_true, Bool.and_eq_true, decide_eq_true_eq, beq_iff_eq] at this
 omega
theorem Eu (w : Nat) (n : Nat) (h : n < 2 ^ w) : (BitVec.ofInt w (n : Int)).toNat = n := by
 rw [BitVec.toNat_ofInt, Int.emod_eq_of_lt (by omega) (by exact_mod_cast h)]
 exact Int.toNat_natCast n
theorem Lj {k : Nat} {x y : Int} (hk : k < 32) (hx0 : 0 ≤ x) (hx : x < 2147483648) (hm : x % (2 ^ k : Nat) = 0) (hy0 : 0 ≤ y) (hy : y < (2 ^ k : Nat)) : C4 .or .i32 x y = some (.int .i32 (x + y)) := by
 obtain ⟨a, rfl⟩ : ∃ a : Nat, x = a := ⟨x.toNat, by omega⟩
 obtain ⟨b, rfl⟩ : ∃ b : Nat, y = b := ⟨y.toNat, by omega⟩
 have hm' : a % 2 ^ k = 0 := by exact_mod_cast hm
 have hb : b < 2 ^ k := by exact_mod_cast hy
 have hkk : 2 ^ k ≤ 2 ^ 31 := Nat.pow_le_pow_right (by decide) (by omega)
 have hab : a ||| b = a + b := by
  have h1 := Nat.two_pow_add_eq_or_of_lt hb (a / 2 ^ k)
  have h2 : 2 ^ k * (a / 2 ^ k) = a := by
   have := Nat.div_add_mod a (2 ^ k); omega
  rw [h2] at h1
  exact h1.symm
 have hsum : a + b < 2 ^ 31 := by
  have h1 := Nat.two_pow_add_eq_or_of_lt hb (a / 2 ^ k)
  rw [← hab]
  exact Nat.or_lt_two_pow (by omega) (by omega)
 unfold C4
 have e : (BitVec.ofInt IntKind.i32.bits (a : Int) ||| BitVec.ofInt IntKind.i32.bits (b : Int)).toNat = a + b := by
  rw [BitVec.toNat_or, Eu _ _ (show a < 2 ^ IntKind.i32.bits by show a < 2 ^ 32; omega), Eu _ _ (show b < 2 ^ IntKind.i32.bits by show b < 2 ^ 32; omega), hab]
 simp only [e]
 rw [IntWalk.i32_in _ (by omega)]
 rfl
theorem or6 {x y : Int} (h : (0 ≤ x ∧ x < 2147483648) ∧ x % 64 ≤ 0 ∧ 0 ≤ y ∧ y < 64) : C4 .or .i32 x y = some (.int .i32 (x + y)) := Lj (k := 6) (by decide) h.1.1 h.1.2 (show x % 64 = 0 by omega) h.2.2.1 h.2.2.2
theorem or12 {x y : Int} (h : (0 ≤ x ∧ x < 2147483648) ∧ x % 4096 ≤ 0 ∧ 0 ≤ y ∧ y < 4096) : C4 .or .i32 x y = some (.int .i32 (x + y)) := Lj (k := 12) (by decide) h.1.1 h.1.2 (show x % 4096 = 0 by omega) h.2.2.1 h.2.2.2
theorem or18 {x y : Int} (h : (0 ≤ x ∧ x < 2147483648) ∧ x % 262144 ≤ 0 ∧ 0 ≤ y ∧ y < 262144) : C4 .or .i32 x y = some (.int .i32 (x + y)) := Lj (k := 18) (by decide) h.1.1 h.1.2 (show x % 262144 = 0 by omega) h.2.2.1 h.2.2.2
theorem FC {k : Nat} {x : Int} (hk : k ≤ 8) (h : 0 ≤ x) (h2 : x < 256) : C4 .and .u8 x ((2 ^ k - 1 : Nat) : Int) = some (.int .u8 (x % (2 ^ k : Nat))) := by
 obtain ⟨a, rfl⟩ : ∃ a : Nat, x = a := ⟨x.toNat, by omega⟩
 have hkk : 2 ^ k ≤ 2 ^ 8 := Nat.pow_le_pow_right (by decide) hk
 have hk0 : 0 < 2 ^ k := Nat.two_pow_pos k
 unfold C4
 have e : (BitVec.ofInt IntKind.u8.bits (a : Int) &&& BitVec.ofInt IntKind.u8.bits ((2 ^ k - 1 : Nat) : Int)).toNat = a % 2 ^ k := by
  rw [BitVec.toNat_and, Eu _ _ (show a < 2 ^ IntKind.u8.bits by show a < 2 ^ 8; omega), Eu _ _ (show 2 ^ k - 1 < 2 ^ IntKind.u8.bits by show 2 ^ k - 1 < 2 ^ 8; omega), Nat.and_two_pow_sub_one_eq_mod]
 simp only [e]
 have hlt : a % 2 ^ k < 2 ^ k := Nat.mod_lt _ hk0
 rw [IntWalk.u8_in _ (by omega)]
 rfl
theorem WK {x : Int} (h : 0 ≤ x ∧ x < 256) : C4 .and .u8 x 63 = some (.int .u8 (x % 64)) := FC (k := 6) (by decide) h.1 h.2
theorem WJ {x : Int} (h : 0 ≤ x ∧ x < 256) : C4 .and .u8 x 31 = some (.int .u8 (x % 32)) := FC (k := 5) (by decide) h.1 h.2
theorem WI {x : Int} (h : 0 ≤ x ∧ x < 256) : C4 .and .u8 x 15 = some (.int .u8 (x % 16)) := FC (k := 4) (by decide) h.1 h.2
theorem and7 {x : Int} (h : 0 ≤ x ∧ x < 256) : C4 .and .u8 x 7 = some (.int .u8 (x % 8)) := FC (k := 3) (by decide) h.1 h.2
theorem andN {n : Nat} (h : n < 256) : C4 .andNot .i32 (n : Int) (-1) = some (.int .i32 0) := by
 have key : ((List.range 256).all fun n => match C4 .andNot .i32 (n : Int) (-1) with | some (.int .i32 0) => true | _ => false) = true := by kernel_rfl
 have := List.all_eq_true.1 key n (List.mem_range.2 h)
 split at this
 ·assumption
 ·cases this
theorem WM : C4 .and .i32 65533 (-1) = some (.int .i32 65533) := by kernel_rfl
theorem WN : C4 .or .i32 0 65533 = some (.int .i32 65533) := by kernel_rfl
theorem p31 : (2 : Int) ^ (min 31 32) = 2147483648 := by decide
theorem p18 : (2 : Int) ^ (min 18 32) = 262144 := by decide
theorem p12 : (2 : Int) ^ (min 12 32) = 4096 := by decide
theorem p6 : (2 : Int) ^ (min 6 32) = 64 := by decide
theorem p4 : (2 : Int) ^ (min 4 8) = 16 := by decide
theorem w31 : IntKind.i32.wrap 517543559168 = -2147483648 := by kernel_rfl
theorem fd31 : (-2147483648 : Int).fdiv 2147483648 = -1 := by kernel_rfl
theorem fd0 : (2 : Int).fdiv 16 = 0 := by kernel_rfl
theorem fd1 : (19 : Int).fdiv 16 = 1 := by kernel_rfl
theorem fd2 : (3 : Int).fdiv 16 = 0 := by kernel_rfl
theorem fd3 : (35 : Int).fdiv 16 = 2 := by kernel_rfl
theorem fd4 : (52 : Int).fdiv 16 = 3 := by kernel_rfl
theorem fd5 : (4 : Int).fdiv 16 = 0 := by kernel_rfl
theorem fd6 : (68 : Int).fdiv 16 = 4 := by kernel_rfl
theorem TT : (u8s (D7 accL)).length = 32 := by kernel_rfl
theorem acc0 : (u8s (D7 accL)).take 2 = [.int .u8 128, .int .u8 191] := by kernel_rfl
theorem acc1 : ((u8s (D7 accL)).drop 2).take 2 = [.int .u8 160, .int .u8 191] := by kernel_rfl
theorem acc2 : ((u8s (D7 accL)).drop 4).take 2 = [.int .u8 128, .int .u8 159] := by kernel_rfl
theorem acc3 : ((u8s (D7 accL)).drop 6).take 2 = [.int .u8 144, .int .u8 191] := by kernel_rfl
theorem acc4 : ((u8s (D7 accL)).drop 8).take 2 = [.int .u8 128, .int .u8 143] := by kernel_rfl
def decM (b0 b1 b2 b3 : Int) : Int × Int :=
 if b0 < 0 then (0, 0)
 else if b0 < 128 then (b0, 1)
 else if b0 < 194 ∨ 244 < b0 then (0, 0)
 else if b0 < 224 then (if b1 < 128 ∨ 191 < b1 then (0, 0) else ((b0 - 192) * 64 + (b1 - 128), 2))
 else if b0 < 240 then
  (if b1 < (if b0 = 224 then 160 else 128) ∨ (if b0 = 237 then 159 else 191) < b1 ∨ b2 < 128 ∨ 191 < b2 then (0, 0) else (((b0 - 224) * 64 + (b1 - 128)) * 64 + (b2 - 128), 3))
 else (if b1 < (if b0 = 240 then 144 else 128) ∨ (if b0 = 244 then 143 else 191) < b1 ∨ b2 < 128 ∨ 191 < b2 ∨ b3 < 128 ∨ 191 < b3 then (0, 0) else ((((b0 - 240) * 64 + (b1 - 128)) * 64 + (b2 - 128)) * 64 + (b3 - 128), 4))
def rawM (b0 b1 b2 b3 : Int) : Int × Int := if (decM b0 b1 b2 b3).2 = 0 then (65533, 1) else decM b0 b1 b2 b3
theorem UZ {x : Int × Int} {a b : Int} {H : LH} (h : x = (a, b)) : some (V.tup [.int .i32 a, .int .i64 b], H) = some (V.tup [.int .i32 x.1, .int .i64 x.2], H) := by rw [h]
theorem SP (s : ByteArray) (fl : Nat) (H : LH) (hs : 128 ≤ bA s 0) (hz : s.size ≤ 9223372036854775807) :
 run 24 [.str s] fl H = some (.tup [.int .i32 (rawM (bA s 0) (bA s 1) (bA s 2) (bA s 3)).1, .int .i64 (rawM (bA s 0) (bA s 1) (bA s 2) (bA s 3)).2], H) := by
 have h0 : 0 < s.size := by
  rcases Nat.eq_zero_or_pos s.size with h | h
  ·have := B3 (s := s) (p := 0) (by omega); omega
  ·exact h
 have b0 := D9 s 0
 have z1 : s.size < 2 → bA s 1 = -1 := fun h => B3 (by omega)
 have z2 : s.size < 3 → bA s 2 = -1 := fun h => B3 (by omega)
 have z3 : s.size < 4 → bA s 3 = -1 := fun h => B3 (by omega)
 have y1 := D9 s 1; have y2 := D9 s 2; have y3 := D9 s 3
 have h00 : ¬ (s.size : Int) < 1 := by omega
 unfold run
 rw [z24]
 obtain ⟨n, hn⟩ : ∃ n : Nat, bA s 0 = n := ⟨(bA s 0).toNat, by omega⟩
 rcases Ux (b := n) (by omega) (by omega) with ⟨hf, hr⟩ | ⟨hf, hr⟩ | ⟨hf, hr⟩ | ⟨hf, hr⟩ | ⟨hf, hr⟩ | ⟨hf, hr⟩ | ⟨hf, hr⟩ | ⟨hf, hr⟩
 all_goals
  simp +contextual -implicitDefEqProofs (maxSteps := 10000000) (disch := first | (and_intros <;> omega -splitDisjunctions) | (push_cast; and_intros <;> omega -splitDisjunctions) | fail) only [h00, hn, hf, WR, WQ, Pu, IntWalk.i32_in, Int.reduceMod, WK, WJ, WI, and7, andN, or6, or12, or18, WM, WN, p31, p18, p12, p6, p4, w31, fd31, fd0, fd1, fd2, fd3, fd4, fd5, fd6, TT, acc0, acc1, acc2, acc3, acc4, go_sem, seval]
  rw [← hn]
  (repeat' (refine BM (fun _ => ?_) (fun _ => ?_))) <;> refine UZ ?_ <;> simp only [rawM, decM] <;> grind
open Go.Proofs.YthlbglmfdjdagaaGreatDoor
def Bs (s : ByteArray) (p : Int) : Int := if p < 0 then 0 else if (s.size : Int) < p then s.size else p
theorem MZ (s : ByteArray) (p : Int) : 0 ≤ Bs s p := by unfold Bs; (repeat' split) <;> omega
theorem MY (s : ByteArray) (p : Int) : Bs s p ≤ s.size := by unfold Bs; (repeat' split) <;> omega
theorem FP {s : ByteArray} {p : Int} (h : 0 ≤ p) (h2 : p ≤ s.size) : Bs s p = p := by unfold Bs; rw [if_neg (by omega), if_neg (by omega)]
theorem QT (s : ByteArray) (p : Int) (fl : Nat) (H : LH) (hs : s.size ≤ 9223372036854775807) : run 15 [.str s, .int .i64 p] fl H = some (.int .i64 (Bs s p), H) := by
 unfold run Bs
 rw [z15]
 simp +contextual -implicitDefEqProofs (maxSteps := 10000000) (disch := first | (and_intros <;> omega -splitDisjunctions) | (push_cast; and_intros <;> omega -splitDisjunctions) | fail) only [minV, maxV, go_sem, seval]
 grind
theorem SO (s : ByteArray) (p : Int) (fl : Nat) (H : LH) (hs : s.size ≤ 9223372036854775807) : run 27 [.str s, .int .i64 p] fl H = some (.int .i64 (Bs s p), H) := by
 unfold run Bs
 rw [z27]
 simp +contextual -implicitDefEqProofs (maxSteps := 10000000) (disch := first | (and_intros <;> omega -splitDisjunctions) | (push_cast; and_intros <;> omega -splitDisjunctions) | fail) only [go_sem, seval]
 grind
theorem QR (fl : Nat) (H : LH) : run 24 [.str ⟨#[]⟩] fl H = some (.tup [.int .i32 65533, .int .i64 0], H) := by
 unfold run
 rw [z24]
 simp +contextual -implicitDefEqProofs (maxSteps := 10000000) (disch := first | (and_intros <;> omega -splitDisjunctions) | (push_cast; and_intros <;> omega -splitDisjunctions) | fail) only [go_sem, seval]
def encT (r : Int) : ByteArray :=
 if r < 0 ∨ 1114111 < r ∨ (55296 ≤ r ∧ r ≤ 57343) then ⟨#[]⟩
 else if r < 128 then ⟨#[UInt8.ofNat r.toNat]⟩
 else if r < 2048 then ⟨#[UInt8.ofNat (192 + r / 64).toNat, UInt8.ofNat (128 + r % 64).toNat]⟩
 else if r < 65536 then ⟨#[UInt8.ofNat (224 + r / 4096).toNat, UInt8.ofNat (128 + r / 64 % 64).toNat, UInt8.ofNat (128 + r % 64).toNat]⟩
 else ⟨#[UInt8.ofNat (240 + r / 262144).toNat, UInt8.ofNat (128 + r / 4096 % 64).toNat, UInt8.ofNat (128 + r / 64 % 64).toNat, UInt8.ofNat (128 + r % 64).toNat]⟩
theorem GG (r : Int) (fl : Nat) (H : LH) : run 28 [.int .i64 r] fl H = some (.str (encT r), H) := by
 unfold run encT
 rw [z28]
 have t1 : 0 ≤ r → r.tdiv 64 = r / 64 := fun h => Int.tdiv_eq_ediv_of_nonneg h
 have t2 : 0 ≤ r → r.tdiv 4096 = r / 4096 := fun h => Int.tdiv_eq_ediv_of_nonneg h
 have t3 : 0 ≤ r → r.tdiv 262144 = r / 262144 := fun h => Int.tdiv_eq_ediv_of_nonneg h
 have m1 : 0 ≤ r → r.tmod 64 = r % 64 := fun h => Int.tmod_eq_emod_of_nonneg h
 have m2 : 0 ≤ r → (r / 64).tmod 64 = r / 64 % 64 := fun h => Int.tmod_eq_emod_of_nonneg (by omega)
 have m3 : 0 ≤ r → (r / 4096).tmod 64 = r / 4096 % 64 := fun h => Int.tmod_eq_emod_of_nonneg (by omega)
 simp +contextual -implicitDefEqProofs (maxSteps := 10000000) (disch := first | (and_intros <;> omega -splitDisjunctions) | (push_cast; and_intros <;> omega -splitDisjunctions) | fail) only [t1, t2, t3, m1, m2, m3, go_sem, seval]
 simp only [or_assoc]
 (repeat' (refine BM (fun _ => ?_) (fun _ => ?_))) <;> (try simp only [*, if_true, if_false])
theorem ST {s : ByteArray} (h : ¬ s = ⟨#[]⟩) : 0 < s.size := by
 rcases Nat.eq_zero_or_pos s.size with h2 | h2
 ·exfalso; apply h
  apply ByteArray.ext
  exact Array.eq_empty_of_size_eq_zero h2
 ·exact h2
def rawS (t : ByteArray) : Int × Int := if t = ⟨#[]⟩ then (65533, 0) else rawM (bA t 0) (bA t 1) (bA t 2) (bA t 3)
theorem O5 (t : ByteArray) (fl : Nat) (H : LH) (hz : t.size ≤ 9223372036854775807) : run 14 [.str t] fl H = some (.tup [.int .i32 (rawS t).1, .int .i64 (rawS t).2], H) := by
 by_cases h : t = ⟨#[]⟩
 ·have e1 := fun fl H => QR fl H
  subst h
  unfold run at *
  rw [z14]
  simp +contextual -implicitDefEqProofs (maxSteps := 10000000) (disch := first | (and_intros <;> omega -splitDisjunctions) | (push_cast; and_intros <;> omega -splitDisjunctions) | fail) only [e1, go_sem, seval]
  rfl
 ·have h0 := ST h
  have b0 := J6 (s := t) (p := 0) (by omega) (by omega)
  have b1 := D9 t 0
  rw [rawS, if_neg h]
  by_cases hb : bA t 0 < 128
  ·unfold run at *
   rw [z14]
   simp +contextual -implicitDefEqProofs (maxSteps := 10000000) (disch := first | (and_intros <;> omega -splitDisjunctions) | (push_cast; and_intros <;> omega -splitDisjunctions) | fail) only [h, hb, IntWalk.i32_in, go_sem, seval]
   have e : decM (bA t 0) (bA t 1) (bA t 2) (bA t 3) = (bA t 0, 1) := by rw [decM, if_neg (by omega), if_pos hb]
   rw [rawM, e, if_neg (show ¬ (1 : Int) = 0 by decide)]
  ·have e1 := fun fl H => SP t fl H (by omega) hz
   unfold run at *
   rw [z14]
   simp +contextual -implicitDefEqProofs (maxSteps := 10000000) (disch := first | (and_intros <;> omega -splitDisjunctions) | (push_cast; and_intros <;> omega -splitDisjunctions) | fail) only [h, hb, e1, go_sem, seval]
theorem I6 {s : ByteArray} {q e : Nat} (h : e ≤ s.size) : (s.extract q e).size = e - q := by
 rw [ByteArray.size_extract, Nat.min_eq_left h]
theorem M7 (s : ByteArray) (q e : Nat) : bs (s.extract q e) = ((bs s).drop q).take (e - q) := by
 simp [bs, ByteArray.data_extract, List.extract_eq_take_drop]
theorem VL {s : ByteArray} {q e : Nat} (he : e ≤ s.size) {i : Nat} (hi : q + i < e) : bA (s.extract q e) i = bA s ((q + i : Nat) : Int) := by
 have h1 : i < (s.extract q e).size := by rw [I6 he]; omega
 rw [Bn h1, Bn (show q + i < s.size by omega)]
 simp only [M7]
 rw [List.getElem_take, List.getElem_drop]
theorem HQ {s : ByteArray} {q : Nat} (hq : q ≤ s.size) (i : Nat) : bA (s.extract q s.size) i = bA s ((q + i : Nat) : Int) := by
 by_cases h : q + i < s.size
 ·exact VL (Nat.le_refl _) h
 ·rw [B3 (by rw [I6 (Nat.le_refl _)]; omega), B3 (by omega)]
def Au (s : ByteArray) (p : Int) : Int × Int := decM (bA s (Bs s p)) (bA s (Bs s p + 1)) (bA s (Bs s p + 2)) (bA s (Bs s p + 3))
theorem Pa (b0 b1 b2 b3 : Int) : (decM b0 b1 b2 b3).2 = 1 → (decM b0 b1 b2 b3).1 < 128 := by
 unfold decM; grind
theorem VO (b0 b1 b2 b3 : Int) : 0 ≤ (decM b0 b1 b2 b3).2 ∧ (decM b0 b1 b2 b3).2 ≤ 4 := by
 unfold decM; grind
theorem VP (b0 b1 b2 b3 : Int) (h1 : b1 ≤ 255) (h2 : b2 ≤ 255) (h3 : b3 ≤ 255) : 0 ≤ (decM b0 b1 b2 b3).1 ∧ (decM b0 b1 b2 b3).1 ≤ 1114111 := by
 unfold decM; grind
theorem Pb (b0 b1 b2 b3 : Int) : (decM b0 b1 b2 b3).2 = 0 → decM b0 b1 b2 b3 = (0, 0) := by
 unfold decM; grind
theorem Fp (s : ByteArray) (p : Int) (fl : Nat) (H : LH) (hz : s.size ≤ 9223372036854775807) : run 7 [.str s, .int .i64 p] fl H = some (.tup [.int .i64 (Au s p).1, .int .i64 (Au s p).2], H) := by
 have e1 := fun fl H => QT s p fl H hz
 have l1 := MZ s p
 have l2 := MY s p
 obtain ⟨q, hq⟩ : ∃ q : Nat, Bs s p = q := ⟨(Bs s p).toNat, by omega⟩
 have hqs : q ≤ s.size := by omega
 have e2 := fun fl H => O5 (s.extract q s.size) fl H (by rw [I6 (Nat.le_refl _)]; omega)
 have hr : Au s p = decM (bA (s.extract q s.size) 0) (bA (s.extract q s.size) 1) (bA (s.extract q s.size) 2) (bA (s.extract q s.size) 3) := by
  rw [Au, hq]
  have d0 := HQ hqs 0; have d1 := HQ hqs 1; have d2 := HQ hqs 2; have d3 := HQ hqs 3
  have c0 : bA (s.extract q s.size) 0 = bA s q := d0
  have c1 : bA (s.extract q s.size) 1 = bA s (q + 1) := d1
  have c2 : bA (s.extract q s.size) 2 = bA s (q + 2) := d2
  have c3 : bA (s.extract q s.size) 3 = bA s (q + 3) := d3
  rw [c0, c1, c2, c3]
 have hraw : rawS (s.extract q s.size) = (if (Au s p).2 = 0 then (65533, if s.extract q s.size = ⟨#[]⟩ then 0 else 1) else Au s p) := by
  rw [hr, rawS]
  by_cases he : s.extract q s.size = ⟨#[]⟩
  ·have h0 : bA (s.extract q s.size) 0 = -1 := by rw [he]; rfl
   rw [if_pos he, h0, if_pos (by simp [decM]), if_pos he]
  ·rw [if_neg he, rawM, if_neg he]
 have g1 := VP (bA s (Bs s p)) (bA s (Bs s p + 1)) (bA s (Bs s p + 2)) (bA s (Bs s p + 3)) (D9 _ _) (D9 _ _) (D9 _ _)
 have g2 := Pa (bA s (Bs s p)) (bA s (Bs s p + 1)) (bA s (Bs s p + 2)) (bA s (Bs s p + 3))
 have g3 := Pb (bA s (Bs s p)) (bA s (Bs s p + 1)) (bA s (Bs s p + 2)) (bA s (Bs s p + 3))
 rw [← Au] at g1 g2 g3
 rw [hq] at e1
 by_cases h0 : (Au s p).2 = 0
 ·rw [if_pos h0] at hraw
  rw [g3 h0]
  have hr2 : ∃ k : Int, (k = 0 ∨ k = 1) ∧ rawS (s.extract q s.size) = (65533, k) := by
   by_cases he : s.extract q s.size = ⟨#[]⟩
   ·exact ⟨0, .inl rfl, by rw [hraw, if_pos he]⟩
   ·exact ⟨1, .inr rfl, by rw [hraw, if_neg he]⟩
  obtain ⟨k, hk, hr2⟩ := hr2
  rw [hr2] at e2
  clear hraw hr2
  rcases hk with rfl | rfl
  all_goals
   unfold run at *
   rw [z7]
   simp +contextual -implicitDefEqProofs (maxSteps := 10000000) (disch := first | (and_intros <;> omega -splitDisjunctions) | (push_cast; and_intros <;> omega -splitDisjunctions) | fail) only [e1, e2, go_sem, seval]
 ·rw [if_neg h0] at hraw
  rw [hraw] at e2
  generalize Au s p = d at *
  obtain ⟨r, n⟩ := d
  have h0 : ¬ n = 0 := h0
  have g2 : n = 1 → r < 128 := g2
  have g1 : 0 ≤ r ∧ r ≤ 1114111 := g1
  unfold run at *
  rw [z7]
  simp +contextual -implicitDefEqProofs (maxSteps := 10000000) (disch := first | (and_intros <;> omega -splitDisjunctions) | (push_cast; and_intros <;> omega -splitDisjunctions) | fail) only [e1, e2, h0, go_sem, seval]
  rw [if_neg (by omega)]
open Go.Proofs.YthlbglmfdjdagaaGreatDoor
def u8I (x : Int) : UInt8 := UInt8.ofNat x.toNat
theorem D4 {a b : Int} (h : u8I a = u8I b) (h1 : 0 ≤ a) (h2 : a < 256) (h3 : 0 ≤ b) (h4 : b < 256) : a = b := by
 have := congrArg UInt8.toNat h
 unfold u8I at this
 rw [UInt8.toNat_ofNat', UInt8.toNat_ofNat', Nat.mod_eq_of_lt (by omega), Nat.mod_eq_of_lt (by omega)] at this
 omega
theorem Ek (r : Int) : encT r = ⟨#[]⟩ ∨ (0 ≤ r ∧ r < 128 ∧ encT r = ⟨#[u8I r]⟩) ∨ (128 ≤ r ∧ r < 2048 ∧ encT r = ⟨#[u8I (192 + r / 64), u8I (128 + r % 64)]⟩) ∨
 (2048 ≤ r ∧ r < 65536 ∧ ¬ (55296 ≤ r ∧ r ≤ 57343) ∧ encT r = ⟨#[u8I (224 + r / 4096), u8I (128 + r / 64 % 64), u8I (128 + r % 64)]⟩) ∨
 (65536 ≤ r ∧ r ≤ 1114111 ∧ encT r = ⟨#[u8I (240 + r / 262144), u8I (128 + r / 4096 % 64), u8I (128 + r / 64 % 64), u8I (128 + r % 64)]⟩) := by
 unfold encT
 by_cases c1 : r < 0 ∨ 1114111 < r ∨ (55296 ≤ r ∧ r ≤ 57343)
 ·exact .inl (if_pos c1)
 ·rw [if_neg c1]
  by_cases c2 : r < 128
  ·exact .inr (.inl ⟨by omega, c2, if_pos c2⟩)
  ·rw [if_neg c2]
   by_cases c3 : r < 2048
   ·exact .inr (.inr (.inl ⟨by omega, c3, if_pos c3⟩))
   ·rw [if_neg c3]
    by_cases c4 : r < 65536
    ·exact .inr (.inr (.inr (.inl ⟨by omega, c4, by omega, if_pos c4⟩)))
    ·exact .inr (.inr (.inr (.inr ⟨by omega, by omega, if_neg c4⟩)))
theorem Un {r : Int} (h : 0 ≤ r) (h2 : r < 128) : encT r = ⟨#[u8I r]⟩ := by
 unfold encT; rw [if_neg (by omega), if_pos h2]; rfl
theorem Uo {r : Int} (h : 128 ≤ r) (h2 : r < 2048) : encT r = ⟨#[u8I (192 + r / 64), u8I (128 + r % 64)]⟩ := by
 unfold encT; rw [if_neg (by omega), if_neg (by omega), if_pos h2]; rfl
theorem Up {r : Int} (h : 2048 ≤ r) (h2 : r < 65536) (h3 : ¬ (55296 ≤ r ∧ r ≤ 57343)) : encT r = ⟨#[u8I (224 + r / 4096), u8I (128 + r / 64 % 64), u8I (128 + r % 64)]⟩ := by
 unfold encT; rw [if_neg (by omega), if_neg (by omega), if_neg (by omega), if_pos h2]; rfl
theorem Uq {r : Int} (h : 65536 ≤ r) (h2 : r ≤ 1114111) : encT r = ⟨#[u8I (240 + r / 262144), u8I (128 + r / 4096 % 64), u8I (128 + r / 64 % 64), u8I (128 + r % 64)]⟩ := by
 unfold encT; rw [if_neg (by omega), if_neg (by omega), if_neg (by omega), if_neg (by omega)]; rfl
theorem BA {s : ByteArray} {n e : Nat} (h : n < s.size) (h2 : n < e) : bs (s.extract n e) = u8I (bA s n) :: bs (s.extract (n + 1) e) := by
 rw [M7, M7, List.drop_eq_getElem_cons (show n < (bs s).length from h), show e - n = (e - (n + 1)) + 1 by omega, List.take_succ_cons]
 congr 1
 unfold u8I
 rw [Bn h, Int.toNat_natCast, UInt8.ofNat_toNat]
theorem I5 {s : ByteArray} {n : Nat} : bs (s.extract n n) = [] := by rw [M7]; simp
theorem M8 {a b : ByteArray} (h : bs a = bs b) : a = b := by
 rw [← Wc a, ← Wc b, h]
theorem ext1 {s : ByteArray} {n : Nat} (h : n + 1 ≤ s.size) : s.extract n (n + 1) = ⟨#[u8I (bA s n)]⟩ := by
 apply M8; rw [BA (by omega) (by omega), I5]
theorem ext2 {s : ByteArray} {n : Nat} (h : n + 2 ≤ s.size) : s.extract n (n + 2) = ⟨#[u8I (bA s n), u8I (bA s (n + 1))]⟩ := by
 apply M8; rw [BA (by omega) (by omega), BA (by omega) (by omega), I5]; rfl
theorem ext3 {s : ByteArray} {n : Nat} (h : n + 3 ≤ s.size) : s.extract n (n + 3) = ⟨#[u8I (bA s n), u8I (bA s (n + 1)), u8I (bA s (n + 2))]⟩ := by
 apply M8; rw [BA (by omega) (by omega), BA (by omega) (by omega), BA (by omega) (by omega), I5]; rfl
theorem ext4 {s : ByteArray} {n : Nat} (h : n + 4 ≤ s.size) : s.extract n (n + 4) = ⟨#[u8I (bA s n), u8I (bA s (n + 1)), u8I (bA s (n + 2)), u8I (bA s (n + 3))]⟩ := by
 apply M8; rw [BA (by omega) (by omega), BA (by omega) (by omega), BA (by omega) (by omega), BA (by omega) (by omega), I5]; rfl
theorem mk2 {a b c d : UInt8} : ((⟨#[a, b]⟩ : ByteArray) = ⟨#[c, d]⟩) ↔ a = c ∧ b = d := by simp
theorem mk3 {a b c d e f : UInt8} : ((⟨#[a, b, c]⟩ : ByteArray) = ⟨#[d, e, f]⟩) ↔ a = d ∧ b = e ∧ c = f := by simp
theorem mk4 {a b c d e f g h : UInt8} : ((⟨#[a, b, c, d]⟩ : ByteArray) = ⟨#[e, f, g, h]⟩) ↔ a = e ∧ b = f ∧ c = g ∧ d = h := by simp
theorem Ws {b0 : Int} (h0 : 0 ≤ b0) (k0 : b0 ≤ 255) : (((encT (b0 - 0)).size : Int) = 1 ∧ encT (b0 - 0) = ⟨#[u8I b0]⟩) ↔ b0 < 128 := by
 rw [Int.sub_zero]
 constructor
 ·rintro ⟨h1, h2⟩
  rcases Ek b0 with h | ⟨_, h, _⟩ | ⟨_, _, h⟩ | ⟨_, _, _, h⟩ | ⟨_, _, h⟩
  ·rw [h] at h1; cases h1
  ·exact h
  all_goals rw [h] at h1; cases h1
 ·intro h
  rw [Un h0 h]; exact ⟨rfl, rfl⟩
theorem Wt {b0 b1 : Int} (h0 : 0 ≤ b0) (k0 : b0 ≤ 255) (h1 : 0 ≤ b1) (k1 : b1 ≤ 255) : (((encT ((b0 - 192) * 64 + b1 - 128)).size : Int) = 2 ∧ encT ((b0 - 192) * 64 + b1 - 128) = ⟨#[u8I b0, u8I b1]⟩) ↔ (194 ≤ b0 ∧ b0 ≤ 223 ∧ 128 ≤ b1 ∧ b1 ≤ 191) := by
 generalize hr : (b0 - 192) * 64 + b1 - 128 = r
 constructor
 ·rintro ⟨g1, g2⟩
  rcases Ek r with h | ⟨_, _, h⟩ | ⟨_, _, h⟩ | ⟨_, _, _, h⟩ | ⟨_, _, h⟩
  ·rw [h] at g1; cases g1
  ·rw [h] at g1; cases g1
  ·rw [h, mk2] at g2
   have e1 := D4 g2.1 (by omega) (by omega) (by omega) (by omega)
   have e2 := D4 g2.2 (by omega) (by omega) (by omega) (by omega)
   omega
  all_goals rw [h] at g1; cases g1
 ·intro h
  rw [Uo (by omega) (by omega)]
  refine ⟨rfl, ?_⟩
  rw [show 192 + r / 64 = b0 by omega, show 128 + r % 64 = b1 by omega]
theorem Wu {b0 b1 b2 : Int} (h0 : 0 ≤ b0) (k0 : b0 ≤ 255) (h1 : 0 ≤ b1) (k1 : b1 ≤ 255) (h2 : 0 ≤ b2) (k2 : b2 ≤ 255) :
 (((encT (((b0 - 224) * 64 + b1 - 128) * 64 + b2 - 128)).size : Int) = 3 ∧ encT (((b0 - 224) * 64 + b1 - 128) * 64 + b2 - 128) = ⟨#[u8I b0, u8I b1, u8I b2]⟩) ↔
 (224 ≤ b0 ∧ b0 ≤ 239 ∧ (if b0 = 224 then 160 else 128) ≤ b1 ∧ b1 ≤ (if b0 = 237 then 159 else 191) ∧ 128 ≤ b2 ∧ b2 ≤ 191) := by
 generalize hr : ((b0 - 224) * 64 + b1 - 128) * 64 + b2 - 128 = r
 constructor
 ·rintro ⟨g1, g2⟩
  rcases Ek r with h | ⟨_, _, h⟩ | ⟨_, _, h⟩ | ⟨_, _, _, h⟩ | ⟨_, _, h⟩
  ·rw [h] at g1; cases g1
  ·rw [h] at g1; cases g1
  ·rw [h] at g1; cases g1
  ·rw [h, mk3] at g2
   have e1 := D4 g2.1 (by omega) (by omega) (by omega) (by omega)
   have e2 := D4 g2.2.1 (by omega) (by omega) (by omega) (by omega)
   have e3 := D4 g2.2.2 (by omega) (by omega) (by omega) (by omega)
   by_cases c1 : b0 = 224
   ·rw [if_pos c1, if_neg (by omega)]; omega
   ·rw [if_neg c1]
    by_cases c2 : b0 = 237
    ·rw [if_pos c2]; omega
    ·rw [if_neg c2]; omega
  ·rw [h] at g1; cases g1
 ·intro h
  have hh : 224 ≤ b0 ∧ b0 ≤ 239 ∧ 128 ≤ b1 ∧ b1 ≤ 191 ∧ 128 ≤ b2 ∧ b2 ≤ 191 ∧ (b0 = 224 → 160 ≤ b1) ∧ (b0 = 237 → b1 ≤ 159) := by grind
  rw [Up (by omega) (by omega) (by omega)]
  refine ⟨rfl, ?_⟩
  rw [show 224 + r / 4096 = b0 by omega, show 128 + r / 64 % 64 = b1 by omega, show 128 + r % 64 = b2 by omega]
theorem Wv {b0 b1 b2 b3 : Int} (h0 : 0 ≤ b0) (k0 : b0 ≤ 255) (h1 : 0 ≤ b1) (k1 : b1 ≤ 255) (h2 : 0 ≤ b2) (k2 : b2 ≤ 255) (h3 : 0 ≤ b3) (k3 : b3 ≤ 255) :
 (((encT ((((b0 - 240) * 64 + b1 - 128) * 64 + b2 - 128) * 64 + b3 - 128)).size : Int) = 4 ∧ encT ((((b0 - 240) * 64 + b1 - 128) * 64 + b2 - 128) * 64 + b3 - 128) = ⟨#[u8I b0, u8I b1, u8I b2, u8I b3]⟩) ↔
 (240 ≤ b0 ∧ b0 ≤ 244 ∧ (if b0 = 240 then 144 else 128) ≤ b1 ∧ b1 ≤ (if b0 = 244 then 143 else 191) ∧ 128 ≤ b2 ∧ b2 ≤ 191 ∧ 128 ≤ b3 ∧ b3 ≤ 191) := by
 generalize hr : (((b0 - 240) * 64 + b1 - 128) * 64 + b2 - 128) * 64 + b3 - 128 = r
 constructor
 ·rintro ⟨g1, g2⟩
  rcases Ek r with h | ⟨_, _, h⟩ | ⟨_, _, h⟩ | ⟨_, _, _, h⟩ | ⟨_, _, h⟩
  ·rw [h] at g1; cases g1
  ·rw [h] at g1; cases g1
  ·rw [h] at g1; cases g1
  ·rw [h] at g1; cases g1
  ·rw [h, mk4] at g2
   have e1 := D4 g2.1 (by omega) (by omega) (by omega) (by omega)
   have e2 := D4 g2.2.1 (by omega) (by omega) (by omega) (by omega)
   have e3 := D4 g2.2.2.1 (by omega) (by omega) (by omega) (by omega)
   have e4 := D4 g2.2.2.2 (by omega) (by omega) (by omega) (by omega)
   by_cases c1 : b0 = 240
   ·rw [if_pos c1, if_neg (by omega)]; omega
   ·rw [if_neg c1]
    by_cases c2 : b0 = 244
    ·rw [if_pos c2]; omega
    ·rw [if_neg c2]; omega
 ·intro h
  have hh : 240 ≤ b0 ∧ b0 ≤ 244 ∧ 128 ≤ b1 ∧ b1 ≤ 191 ∧ 128 ≤ b2 ∧ b2 ≤ 191 ∧ 128 ≤ b3 ∧ b3 ≤ 191 ∧ (b0 = 240 → 144 ≤ b1) ∧ (b0 = 244 → b1 ≤ 143) := by grind
  rw [Uq (by omega) (by omega)]
  refine ⟨rfl, ?_⟩
  rw [show 240 + r / 262144 = b0 by omega, show 128 + r / 4096 % 64 = b1 by omega, show 128 + r / 64 % 64 = b2 by omega, show 128 + r % 64 = b3 by omega]
theorem BY {x : Int × Int} {a b : Int} {H : LH} (h : x = (a, b)) : some (V.tup [.int .i64 a, .int .i64 b], H) = some (V.tup [.int .i64 x.1, .int .i64 x.2], H) := by rw [h]
theorem Kl (s : ByteArray) (p : Int) (fl : Nat) (H : LH) (hz : s.size ≤ 9223372036854775807) : run 22 [.str s, .int .i64 p] fl H = some (.tup [.int .i64 (Au s p).1, .int .i64 (Au s p).2], H) := by
 have e1 := fun fl H => SO s p fl H hz
 have e2 := fun r fl H => GG r fl H
 have l1 := MZ s p
 have l2 := MY s p
 rw [Au]
 generalize Bs s p = q at *
 have h0 := D9 s q; have h1 := D9 s (q + 1); have h2 := D9 s (q + 2); have h3 := D9 s (q + 3)
 have k0 := OJ s q; have k1 := OJ s (q + 1); have k2 := OJ s (q + 2); have k3 := OJ s (q + 3)
 unfold run at *
 rw [z22]
 simp +contextual -implicitDefEqProofs (maxSteps := 10000000) (disch := first | (and_intros <;> omega -splitDisjunctions) | (push_cast; and_intros <;> omega -splitDisjunctions) | fail) only [e1, e2, EQ, go_sem, seval]
 obtain ⟨n, rfl⟩ : ∃ n : Nat, q = n := ⟨q.toNat, by omega⟩
 simp only [Int.toNat_natCast, show ((n : Int) + 1).toNat = n + 1 by omega, show ((n : Int) + 2).toNat = n + 2 by omega, show ((n : Int) + 3).toNat = n + 3 by omega, show ((n : Int) + 4).toNat = n + 4 by omega]
 have o0 : (s.size : Int) - n < 1 → bA s n = -1 := fun h => B3 (by omega)
 have o1 : (s.size : Int) - n < 2 → bA s (n + 1) = -1 := fun h => B3 (by omega)
 have o2 : (s.size : Int) - n < 3 → bA s (n + 2) = -1 := fun h => B3 (by omega)
 have o3 : (s.size : Int) - n < 4 → bA s (n + 3) = -1 := fun h => B3 (by omega)
 refine BM (fun g1 => ?_) (fun g1 => BY (by simp only [decM]; grind))
 have n0 := J6 (s := s) (p := n) (by omega) (by omega)
 rw [ext1 (by omega)]
 refine BM (fun t1 => BY (by have t1 := (Ws n0 h0).1 t1; simp only [decM]; grind)) (fun t1 => ?_)
 have t1 := mt (Ws n0 h0).2 t1
 refine BM (fun g2 => ?_) (fun g2 => BY (by simp only [decM]; grind))
 have n1 := J6 (s := s) (p := n + 1) (by omega) (by omega)
 rw [ext2 (by omega)]
 refine BM (fun t2 => BY (by have t2 := (Wt n0 h0 n1 h1).1 t2; simp only [decM]; grind)) (fun t2 => ?_)
 have t2 := mt (Wt n0 h0 n1 h1).2 t2
 refine BM (fun g3 => ?_) (fun g3 => BY (by simp only [decM]; grind))
 have n2 := J6 (s := s) (p := n + 2) (by omega) (by omega)
 rw [ext3 (by omega)]
 refine BM (fun t3 => BY (by have t3 := (Wu n0 h0 n1 h1 n2 h2).1 t3; simp only [decM]; grind)) (fun t3 => ?_)
 have t3 := mt (Wu n0 h0 n1 h1 n2 h2).2 t3
 refine BM (fun g4 => ?_) (fun g4 => BY (by simp only [decM]; grind))
 have n3 := J6 (s := s) (p := n + 3) (by omega) (by omega)
 rw [ext4 (by omega)]
 refine BM (fun t4 => BY (by have t4 := (Wv n0 h0 n1 h1 n2 h2 n3 h3).1 t4; simp only [decM]; grind)) (fun t4 => ?_)
 have t4 := mt (Wv n0 h0 n1 h1 n2 h2 n3 h3).2 t4
 exact BY (by simp only [decM]; grind)
open Go.Proofs.YthlbglmfdjdagaaGreatDoor
def dig (n : Nat) : ByteArray := ⟨#[UInt8.ofNat (48 + n)]⟩
def decT (n : Nat) : ByteArray := if n < 10 then dig n else decT (n / 10) ++ dig (n % 10)
theorem Pc (n : Nat) : (decT n).size ≤ n + 1 := by
 induction n using Nat.strongRecOn with
 | _ n ih =>
   unfold decT
   split
   ·simp [dig, FO]
   ·rw [ByteArray.size_append]
    have := ih (n / 10) (by omega)
    simp only [dig, FO, List.length_cons, List.length_nil]
    omega
def numT (n : Int) : ByteArray := if n < 0 ∨ 4294967295 < n then ⟨#[]⟩ else decT n.toNat
theorem Tk (n : Nat) : (⟨#[UInt8.ofNat (48 + (n : Int)).toNat]⟩ : ByteArray) = dig n := by
 unfold dig
 rw [show (48 + (n : Int)).toNat = 48 + n by omega]
theorem OE (a b c : ByteArray) : a ++ (b ++ c) = a ++ b ++ c := (ByteArray.append_assoc).symm
theorem Ky (a : ByteArray) : a ++ ⟨#[]⟩ = a := ByteArray.append_empty
theorem Mg (k : Nat) (out : ByteArray) (hk : k ≠ 0) : (if k / 10 = 0 then dig (k % 10) ++ out else decT (k / 10) ++ (dig (k % 10) ++ out)) = decT k ++ out := by
 by_cases h : k < 10
 ·rw [if_pos (by omega), show k % 10 = k by omega]
  conv => rhs; rw [decT, if_pos h]
 ·rw [if_neg (by omega)]
  conv => rhs; rw [decT, if_neg h]
  rw [OE]
open Go.Proofs.YthlbglmfdjdagaaGreatDoor
theorem Bl (a b c : Int) (fl : Nat) (H : LH) : run 16 [.int .i64 a, .int .i64 b, .int .i64 c] fl H = some (.bool (decide (b ≤ a ∧ a ≤ c)), H) := by
 unfold run
 rw [z16]
 simp +contextual -implicitDefEqProofs (maxSteps := 10000000) (disch := first | (and_intros <;> omega -splitDisjunctions) | (push_cast; and_intros <;> omega -splitDisjunctions) | fail) only [go_sem, seval]
theorem Lv (k : Nat) (h : k ≤ 4611686018427387904) (fl : Nat) (H : LH) : run 37 [.int .i64 (k : Int)] fl H = some (.str (decT k), H) := by
 have hz : ∀ x y : ByteArray, (x ++ y).size = x.size + y.size := fun x y => ByteArray.size_append
 have hd : ∀ n, (dig n).size = 1 := fun n => rfl
 unfold run
 rw [z37]
 simp +contextual -implicitDefEqProofs (maxSteps := 10000000) (disch := first | (and_intros <;> omega -splitDisjunctions) | (push_cast; and_intros <;> omega -splitDisjunctions) | fail) only [go_sem, seval]
 generalize hL : K.code (Code.loop _) = L
 generalize hR : (K.blk _ :: _ : List K) = R
 have key : ∀ (m k : Nat) (out : ByteArray) (x2 x9 : Option V) (H1 : LH), k ≤ m → k ≤ 4611686018427387904 → 0 < out.size → out.size + m ≤ 4611686018427388000 → H.length ≤ H1.length →
  zEv (Ac (mkR Tryz.prog cfg ok [0, 2, 3, 9] H.length) .pure H [ResultVar.tmp 2]) (mkR Tryz.prog cfg ok [0, 2, 3, 9] H.length) (L :: R) .nrm [some (.int .i64 (k : Int)), x2, some (.str out), x9] H1 =
   some (.str (if k = 0 then out else decT k ++ out), H) := by
  intro m
  induction m using Nat.strongRecOn with
  | _ m ih =>
  intro k out x2 x9 H1 hk h4 ho hs hH
  have hq : ((k : Int)).tdiv 10 = ((k / 10 : Nat) : Int) := (Int.ofNat_tdiv k 10).symm
  have hr : ((k : Int)).tmod 10 = ((k % 10 : Nat) : Int) := (Int.ofNat_tmod k 10).symm
  have a1 : ¬ out = ⟨#[]⟩ := fun e => by rw [e] at ho; exact absurd ho (by decide)
  rw [← hL, ← hR, EQ]
  simp +contextual -implicitDefEqProofs (maxSteps := 10000000) (disch := first | (and_intros <;> omega -splitDisjunctions) | (push_cast; and_intros <;> omega -splitDisjunctions) | fail) only [hq, hr, Tk, hd, a1, go_sem, seval]
  rw [hL, hR]
  split
  ·rename_i hc
   rw [ih (k / 10) (by omega) (k / 10) (dig (k % 10) ++ out) _ _ _ (Nat.le_refl _) (by omega) (by rw [hz, hd]; omega) (by rw [hz, hd]; omega) (by simp only [List.length_append]; omega), Mg k out (by omega), if_neg (by omega)]
  ·rename_i hc
   rw [if_pos (by omega)]
 have hq : ((k : Int)).tdiv 10 = ((k / 10 : Nat) : Int) := (Int.ofNat_tdiv k 10).symm
 have hr : ((k : Int)).tmod 10 = ((k % 10 : Nat) : Int) := (Int.ofNat_tmod k 10).symm
 have go := fun x2 x9 H1 hH => key k (k / 10) (dig (k % 10) ++ ⟨#[]⟩) x2 x9 H1 (by omega) (by omega) (by rw [hz, hd]; omega) (by rw [hz, hd]; have : ByteArray.size ⟨#[]⟩ = 0 := rfl; omega) hH
 rw [← hL, ← hR, EQ]
 simp +contextual -implicitDefEqProofs (maxSteps := 10000000) (disch := first | (and_intros <;> omega -splitDisjunctions) | (push_cast; and_intros <;> omega -splitDisjunctions) | fail) only [hq, hr, Tk, hd, go_sem, seval]
 rw [hL, hR, go _ _ _ (by simp only [List.length_append]; omega)]
 by_cases k0 : k = 0
 ·subst k0
  rw [if_pos (by decide), Ky, show decT 0 = dig (0 % 10) from by rw [decT, if_pos (by decide)]]
 ·rw [Mg k _ k0, Ky]
theorem QP (n : Int) (fl : Nat) (H : LH) : run 32 [.int .i64 n] fl H = some (.str (numT n), H) := by
 have e1 := fun fl H => Bl n 0 4294967295 fl H
 have e2 := fun (h : n ≤ 4294967295) fl H => Lv n.toNat (by omega) fl H
 unfold run at e1 e2 ⊢
 rw [z32]
 by_cases a3 : n < 0 ∨ 4294967295 < n
 ·have c : ¬ (0 ≤ n ∧ n ≤ 4294967295) := by omega
  simp +contextual -implicitDefEqProofs (maxSteps := 10000000) (disch := first | (and_intros <;> omega -splitDisjunctions) | (push_cast; and_intros <;> omega -splitDisjunctions) | fail) only [c, e1, go_sem, seval]
  rw [numT, if_pos a3]
 ·have c1 : 0 ≤ n := by omega
  have c2 : n ≤ 4294967295 := by omega
  have e2' := e2 c2
  rw [show ((n.toNat : Nat) : Int) = n by omega] at e2'
  simp +contextual -implicitDefEqProofs (maxSteps := 10000000) (disch := first | (and_intros <;> omega -splitDisjunctions) | (push_cast; and_intros <;> omega -splitDisjunctions) | fail) only [c1, c2, e1, e2', go_sem, seval]
  rw [numT, if_neg a3]
open Go.Proofs.YthlbglmfdjdagaaGreatDoor
theorem FM (s : ByteArray) (p : Int) : 0 ≤ (Au s p).2 ∧ (Au s p).2 ≤ 4 := VO _ _ _ _
def mayB (r : Int) : Prop := (r = 9 ∨ r = 10 ∨ (32 ≤ r ∧ r ≤ 126)) ∨ (159 < r ∧ r ≠ 65279 ∧ r ≠ 65534 ∧ r ≠ 65535)
instance (r : Int) : Decidable (mayB r) := by unfold mayB; infer_instance
theorem Ki (r : Int) (fl : Nat) (H : LH) : run 19 [.int .i64 r] fl H = some (.bool (decide (mayB r)), H) := by
 have e1 := fun a b c fl H => Bl a b c fl H
 unfold run at *
 rw [z19]
 simp +contextual -implicitDefEqProofs (maxSteps := 10000000) (disch := first | (and_intros <;> omega -splitDisjunctions) | (push_cast; and_intros <;> omega -splitDisjunctions) | fail) only [e1, go_sem, seval]
 unfold mayB
 congr 3
 grind
def clnG (s : ByteArray) : Nat → Nat → Nat
 | 0, _ => 0
 | d + 1, p => if p < s.size then (if (Au s p).2 = 0 ∨ ¬ mayB (Au s p).1 then p else clnG s d (p + (Au s p).2.toNat)) else s.size
theorem Mb {s : ByteArray} {d p : Nat} : clnG s (d + 1) p = if p < s.size then (if (Au s p).2 = 0 ∨ ¬ mayB (Au s p).1 then p else clnG s d (p + (Au s p).2.toNat)) else s.size := rfl
def clnM (s : ByteArray) : Nat := clnG s (s.size + 1) 0
theorem E3 (s : ByteArray) (fl : Nat) (H : LH) (hs : s.size ≤ 1099511627776) : run 10 [.str s] fl H = some (.int .i64 (clnM s), H) := by
 have e1 := fun p fl H => Fp s p fl H (by omega)
 have e2 := fun r fl H => Ki r fl H
 unfold clnM
 generalize hres : clnG s (s.size + 1) 0 = res
 unfold run at *
 rw [z10]
 simp +contextual -implicitDefEqProofs (maxSteps := 10000000) (disch := first | (and_intros <;> omega -splitDisjunctions) | (push_cast; and_intros <;> omega -splitDisjunctions) | fail) only [go_sem, seval]
 refine Ae fun c R hc hR => ?_
 have key : ∀ (m : Nat) (p : Nat) (j : Int) (x2 x4 x5 x9 x22 : Option V), s.size - p < m → j = p → p ≤ s.size + 4 → (∃ d, s.size - p < d ∧ clnG s d p = res) →
  zEv (Ac (mkR Tryz.prog cfg ok [0, 2, 3, 4, 5, 9, 22] H.length) .pure H [ResultVar.tmp 2]) (mkR Tryz.prog cfg ok [0, 2, 3, 4, 5, 9, 22] H.length) (K.code (Code.loop c) :: K.blk 0 :: R) .nrm [some (.str s), x2, some (.int .i64 j), x4, x5, x9, x22] (H) = some (.int .i64 res, H) := by
  intro m
  induction m with
  | zero => intro p j x2 x4 x5 x9 x22 hm; omega
  | succ m ih =>
    intro p j x2 x4 x5 x9 x22 hm hj hp hf
    subst hj
    obtain ⟨d, hd, hf⟩ := hf
    obtain ⟨d, rfl⟩ : ∃ d', d = d' + 1 := ⟨d - 1, by omega⟩
    rw [Mb] at hf
    have q2 := FM s p
    by_cases hlt : p < s.size
    ·rw [if_pos hlt] at hf
     have t1 : ((p : Int) < s.size) = True := eq_true (by omega)
     by_cases hb : (Au s p).2 = 0 ∨ ¬ mayB (Au s p).1
     ·rw [if_pos hb] at hf
      rw [A4 hc, ← hR]
      rcases hb with hb | hb
      ·have t2 : ((Au s (p : Int)).2 = 0) = True := eq_true hb
       simp +contextual -implicitDefEqProofs (maxSteps := 10000000) (disch := first | (and_intros <;> omega -splitDisjunctions) | (push_cast; and_intros <;> omega -splitDisjunctions) | fail) only [t1, t2, e1, e2, go_sem, seval]
       rw [← hf]
      ·have t3 : mayB (Au s (p : Int)).1 = False := eq_false hb
       by_cases hb0 : (Au s (p : Int)).2 = 0
       ·have t2 : ((Au s (p : Int)).2 = 0) = True := eq_true hb0
        simp +contextual -implicitDefEqProofs (maxSteps := 10000000) (disch := first | (and_intros <;> omega -splitDisjunctions) | (push_cast; and_intros <;> omega -splitDisjunctions) | fail) only [t1, t2, e1, e2, go_sem, seval]
        rw [← hf]
       ·have t2 : ((Au s (p : Int)).2 = 0) = False := eq_false hb0
        simp +contextual -implicitDefEqProofs (maxSteps := 10000000) (disch := first | (and_intros <;> omega -splitDisjunctions) | (push_cast; and_intros <;> omega -splitDisjunctions) | fail) only [t1, t2, t3, e1, e2, not_false_eq_true, go_sem, seval]
        rw [← hf]
     ·rw [if_neg hb] at hf
      have t2 : ((Au s (p : Int)).2 = 0) = False := eq_false (fun h => hb (.inl h))
      have t3 : mayB (Au s (p : Int)).1 = True := eq_true (Classical.byContradiction fun h => hb (.inr h))
      have hn0 : (Au s (p : Int)).2 ≠ 0 := fun h => hb (.inl h)
      rw [A4 hc]
      simp +contextual -implicitDefEqProofs (maxSteps := 10000000) (disch := first | (and_intros <;> omega -splitDisjunctions) | (push_cast; and_intros <;> omega -splitDisjunctions) | fail) only [t1, t2, t3, e1, e2, not_true, go_sem, seval]
      exact ih (p + (Au s p).2.toNat) _ _ _ _ _ _ (by omega) (by omega) (by omega) ⟨d, by omega, hf⟩
    ·rw [if_neg hlt] at hf
     have t1 : ((p : Int) < s.size) = False := eq_false (by omega)
     rw [A4 hc, ← hR]
     simp +contextual -implicitDefEqProofs (maxSteps := 10000000) (disch := first | (and_intros <;> omega -splitDisjunctions) | (push_cast; and_intros <;> omega -splitDisjunctions) | fail) only [t1, go_sem, seval]
     rw [← hf]
 exact key (s.size + 1) 0 0 _ _ _ _ _ (by omega) rfl (by omega) ⟨s.size + 1, by omega, hres⟩
open Go.Proofs.YthlbglmfdjdagaaGreatDoor
def strC (s : ByteArray) : List V := [.str s]
theorem BD (s : ByteArray) : (strC s).length = 1 := rfl
theorem Oh (ps : List ByteArray) : LO (rows strC ps) = some ps := by
 induction ps with
 | nil => rfl
 | cons p ps ih =>
   show (LO (rows strC ps)).map (p :: ·) = _
   rw [ih]; rfl
theorem Fc (s : ByteArray) (n : Nat) (h : s.size * n ≤ 140737488355328) (h2 : n ≤ 9223372036854775807) (fl : Nat) (H : LH) :
 run 116 [.str s, .int .i64 n] fl H = some (.str ⟨(Lib.repeatL s.data.toList n).toArray⟩, H) := by
 unfold run
 rw [Oz Tryz.func116 rfl (by rfl : ok 116 = false)]
 unfold F0
 have hk : cfg.lib 116 = some .rep := by rfl
 rw [hk]
 simp only [libA, Int.toNat_natCast]
 rw [if_pos ⟨by omega, by omega, h⟩]
def spt (s : ByteArray) (p : Int) : Nat := if p < 0 then 0 else if (s.size : Int) < p then s.size else p.toNat
theorem BO (s : ByteArray) (p : Int) : spt s p ≤ s.size := by
 unfold spt
 by_cases h : p < 0
 ·rw [if_pos h]; omega
 ·rw [if_neg h]
  by_cases h2 : (s.size : Int) < p
  ·rw [if_pos h2]; exact Nat.le_refl _
  ·rw [if_neg h2]; omega
theorem Ay {s : ByteArray} {p : Nat} (h : p ≤ s.size) : spt s p = p := by
 unfold spt
 rw [if_neg (by omega), if_neg (by omega), Int.toNat_natCast]
theorem VM {s : ByteArray} {p : Int} (h : 0 ≤ p) : bA s (spt s p : Int) = bA s p := by
 unfold spt
 rw [if_neg (by omega)]
 by_cases h2 : (s.size : Int) < p
 ·rw [if_pos h2, B3 (Int.le_refl _), B3 (by omega)]
 ·rw [if_neg h2]; congr 1; omega
theorem M2 {s : ByteArray} {p : Int} : bA s p < 0 ↔ p < 0 ∨ (s.size : Int) ≤ p := by
 unfold bA
 by_cases h : 0 ≤ p ∧ p < (s.size : Int)
 ·rw [if_pos h]; omega
 ·rw [if_neg h]; omega
def lnN (s : ByteArray) : Nat → Nat
 | 0 => 0
 | p + 1 => if bA s p = 10 then p + 1 else lnN s p
theorem Dg (s : ByteArray) : ∀ p, lnN s p ≤ p
 | 0 => Nat.le_refl _
 | p + 1 => by
   unfold lnN
   have := Dg s p
   by_cases h : bA s p = 10
   ·rw [if_pos h]; exact Nat.le_refl _
   ·rw [if_neg h]; omega
theorem WV {s : ByteArray} {p : Nat} : lnN s (p + 1) = if bA s p = 10 then p + 1 else lnN s p := rfl
def DZ (s : ByteArray) (c : Int) : Nat → Int
 | 0 => -1
 | p + 1 => if bA s p = c then p else DZ s c p
theorem Mu {s : ByteArray} {q : Nat} (hq : q ≤ s.size) : ∀ p, p ≤ q → DZ (s.extract 0 q) 10 p + 1 = (lnN s p : Nat)
 | 0, _ => rfl
 | p + 1, h => by
   have e : bA (s.extract 0 q) p = bA s p := by
    have hz : (s.extract 0 q).size = q := by rw [Ap hq]; omega
    rw [Bn (by omega), Bn (by omega)]
    simp only [HX]
    rw [List.getElem_take, List.getElem_drop]
    congr 3; omega
   unfold DZ lnN
   rw [e]
   by_cases h2 : bA s p = 10
   ·rw [if_pos h2, if_pos h2]; omega
   ·rw [if_neg h2, if_neg h2]; exact Mu hq p (by omega)
def wtN (s : ByteArray) (p : Nat) : Nat := if p < s.size ∧ (bA s p = 32 ∨ bA s p = 9) then wtN s (p + 1) else p
termination_by s.size - p
theorem TJ {s : ByteArray} {p : Nat} (h : bA s p = 32 ∨ bA s p = 9) : wtN s p = wtN s (p + 1) := by
 have : p < s.size := by
  by_cases h2 : p < s.size
  ·exact h2
  ·rw [B3 (by omega)] at h; omega
 rw [wtN, if_pos ⟨this, h⟩]
theorem FS {s : ByteArray} {p : Nat} (h : ¬ (bA s p = 32 ∨ bA s p = 9)) : wtN s p = p := by rw [wtN, if_neg (fun h2 => h h2.2)]
theorem Ai {s : ByteArray} {p : Nat} {c : Int} (h : bA s p = c) (hc : 0 ≤ c) : p < s.size := by
 by_cases h2 : p < s.size
 ·exact h2
 ·rw [B3 (by omega)] at h; omega
theorem IZ (s : ByteArray) : ∀ (d p : Nat), s.size - p ≤ d → p ≤ wtN s p ∧ (p ≤ s.size → wtN s p ≤ s.size) ∧ ¬ (bA s (wtN s p) = 32 ∨ bA s (wtN s p) = 9) ∧ ∀ j : Nat, p ≤ j → j < wtN s p → bA s j = 32 ∨ bA s j = 9 := by
 intro d
 induction d with
 | zero =>
   intro p hd
   have h : ¬ (bA s p = 32 ∨ bA s p = 9) := by rw [B3 (by omega)]; omega
   rw [FS h]
   exact ⟨Nat.le_refl _, fun h => h, h, fun j h1 h2 => by omega⟩
 | succ d ih =>
   intro p hd
   by_cases h : bA s p = 32 ∨ bA s p = 9
   ·have hlt : p < s.size := by
     rcases h with h | h <;> exact Ai h (by omega)
    rw [TJ h]
    obtain ⟨h1, h2, h3, h4⟩ := ih (p + 1) (by omega)
    refine ⟨by omega, fun _ => h2 (by omega), h3, fun j hj1 hj2 => ?_⟩
    by_cases e : j = p
    ·rw [e]; exact h
    ·exact h4 j (by omega) hj2
   ·rw [FS h]
    exact ⟨Nat.le_refl _, fun h => h, h, fun j h1 h2 => by omega⟩
theorem B8 (s : ByteArray) (p : Nat) : p ≤ wtN s p := (IZ s _ p (Nat.le_refl _)).1
theorem Bm {s : ByteArray} {p : Nat} (h : p ≤ s.size) : wtN s p ≤ s.size := (IZ s _ p (Nat.le_refl _)).2.1 h
theorem WC (s : ByteArray) (p : Nat) : ¬ (bA s (wtN s p) = 32 ∨ bA s (wtN s p) = 9) := (IZ s _ p (Nat.le_refl _)).2.2.1
def blN (s : ByteArray) (p : Nat) : Nat := if p < s.size ∧ bA s p = 32 then blN s (p + 1) else p
termination_by s.size - p
theorem OO {s : ByteArray} {p : Nat} (h : bA s p = 32) : blN s p = blN s (p + 1) := by rw [blN, if_pos ⟨Ai h (by omega), h⟩]
theorem Ec {s : ByteArray} {p : Nat} (h : ¬ bA s p = 32) : blN s p = p := by rw [blN, if_neg (fun h2 => h h2.2)]
theorem ON (s : ByteArray) : ∀ (d p : Nat), s.size - p ≤ d → p ≤ blN s p ∧ (p ≤ s.size → blN s p ≤ s.size) := by
 intro d
 induction d with
 | zero =>
   intro p hd
   rw [Ec (by rw [B3 (by omega)]; omega)]
   exact ⟨Nat.le_refl _, fun h => h⟩
 | succ d ih =>
   intro p hd
   by_cases h : bA s p = 32
   ·have hlt := Ai h (by omega)
    rw [OO h]
    have := ih (p + 1) (by omega)
    exact ⟨by omega, fun _ => this.2 (by omega)⟩
   ·rw [Ec h]; exact ⟨Nat.le_refl _, fun h => h⟩
theorem Tj (s : ByteArray) (p : Nat) : p ≤ blN s p := (ON s _ p (Nat.le_refl _)).1
theorem OP {s : ByteArray} {p : Nat} (h : p ≤ s.size) : blN s p ≤ s.size := (ON s _ p (Nat.le_refl _)).2 h
def indN (s : ByteArray) (p : Nat) : Nat := blN s (lnN s p) - lnN s p
def gapP (s : ByteArray) (p : Int) : Prop := (bA s p = 32 ∨ bA s p = 9) ∨ bA s p = 10 ∨ bA s p < 0
instance (s : ByteArray) (p : Int) : Decidable (gapP s p) := by unfold gapP; infer_instance
def Ah (s : ByteArray) (p : Nat) : Int :=
 if (lnN s p ≠ p ∨ s.size < p + 3) ∨ ¬ gapP s (p + 3 : Nat) then 0
 else if s.extract p (p + 3) = ⟨#[45, 45, 45]⟩ then 1 else if s.extract p (p + 3) = ⟨#[46, 46, 46]⟩ then 2 else 0
def rsB (s : ByteArray) (p : Nat) : Bool := decide ((bA s (wtN s p) = 10 ∨ bA s (wtN s p) < 0) ∨ bA s (wtN s p) = 35 ∧ (wtN s p ≠ p ∨ lnN s p = p))
def rsN (s : ByteArray) (p : Nat) : Nat := if rsB s p = true then endN s (wtN s p) else wtN s p
def lonB (s : ByteArray) (p : Nat) : Bool := decide (bA s (wtN s (lnN s p)) = 10 ∨ bA s (wtN s (lnN s p)) < 0)
theorem KN {s : ByteArray} {p : Nat} (h : p < s.size) (h2 : bA s p = 35) : p < endN s p := by
 rw [I2 h (by omega)]
 have := B4 (s := s) (p := p + 1) (by omega)
 omega
def gpN (s : ByteArray) (p : Nat) : Nat :=
 if h : p < s.size then
  if (bA s p = 32 ∨ bA s p = 9) ∨ bA s p = 10 then gpN s (p + 1)
  else if h2 : bA s p = 35 ∧ (lnN s p = p ∨ bA s ((p : Int) - 1) = 32 ∨ bA s ((p : Int) - 1) = 9) then gpN s (endN s p) else p
 else p
termination_by s.size - p
decreasing_by
 ·omega
 ·have := KN h h2.1; omega
theorem PN {s : ByteArray} {p : Nat} (h : s.size ≤ p) : gpN s p = p := by rw [gpN, dif_neg (by omega)]
theorem Tp {s : ByteArray} {p : Nat} (h : (bA s p = 32 ∨ bA s p = 9) ∨ bA s p = 10) : gpN s p = gpN s (p + 1) := by
 have : p < s.size := by rcases h with (h | h) | h <;> exact Ai h (by omega)
 rw [gpN, dif_pos this, if_pos h]
theorem KZ {s : ByteArray} {p : Nat} (h : bA s p = 35) (h2 : lnN s p = p ∨ bA s ((p : Int) - 1) = 32 ∨ bA s ((p : Int) - 1) = 9) : gpN s p = gpN s (endN s p) := by
 rw [gpN, dif_pos (Ai h (by omega)), if_neg (by omega), dif_pos ⟨h, h2⟩]
theorem Ii {s : ByteArray} {p : Nat} (h : ¬ ((bA s p = 32 ∨ bA s p = 9) ∨ bA s p = 10)) (h2 : ¬ (bA s p = 35 ∧ (lnN s p = p ∨ bA s ((p : Int) - 1) = 32 ∨ bA s ((p : Int) - 1) = 9))) : gpN s p = p := by
 rw [gpN]
 by_cases h3 : p < s.size
 ·rw [dif_pos h3, if_neg h, dif_neg h2]
 ·rw [dif_neg h3]
theorem PM (s : ByteArray) : ∀ (d p : Nat), s.size - p ≤ d → p ≤ gpN s p ∧ (p ≤ s.size → gpN s p ≤ s.size) := by
 intro d
 induction d with
 | zero => intro p hd; rw [PN (by omega)]; exact ⟨Nat.le_refl _, fun h => h⟩
 | succ d ih =>
   intro p hd
   by_cases h : (bA s p = 32 ∨ bA s p = 9) ∨ bA s p = 10
   ·have hlt : p < s.size := by rcases h with (h | h) | h <;> exact Ai h (by omega)
    rw [Tp h]
    have := ih (p + 1) (by omega)
    exact ⟨by omega, fun _ => this.2 (by omega)⟩
   ·by_cases h2 : bA s p = 35 ∧ (lnN s p = p ∨ bA s ((p : Int) - 1) = 32 ∨ bA s ((p : Int) - 1) = 9)
    ·have hlt := Ai h2.1 (by omega)
     have h3 := KN hlt h2.1
     have h4 := Be (s := s) (p := p) (by omega)
     rw [KZ h2.1 h2.2]
     have := ih (endN s p) (by omega)
     exact ⟨by omega, fun _ => this.2 h4⟩
    ·rw [Ii h h2]; exact ⟨Nat.le_refl _, fun h => h⟩
theorem CH (s : ByteArray) (p : Nat) : p ≤ gpN s p := (PM s _ p (Nat.le_refl _)).1
theorem BL {s : ByteArray} {p : Nat} (h : p ≤ s.size) : gpN s p ≤ s.size := (PM s _ p (Nat.le_refl _)).2 h
open Go.Proofs.YthlbglmfdjdagaaGreatDoor
theorem AA (s : ByteArray) (p : Int) (fl : Nat) (H : LH) (hs : s.size ≤ 1099511627776) : run 15 [.str s, .int .i64 p] fl H = some (.int .i64 (spt s p), H) := by
 unfold run
 rw [z15]
 simp +contextual -implicitDefEqProofs (maxSteps := 10000000) (disch := first | (and_intros <;> omega -splitDisjunctions) | (push_cast; and_intros <;> omega -splitDisjunctions) | fail) only [maxV, minV, go_sem, seval]
 congr 3
 unfold spt
 grind
theorem Gz (s : ByteArray) (p : Int) (fl : Nat) (H : LH) (hs : s.size ≤ 1099511627776) : run 45 [.str s, .int .i64 p] fl H = some (.int .i64 (bA s (spt s p)), H) := by
 have e1 := fun fl H => AA s p fl H hs
 have h1 := BO s p
 unfold run at *
 rw [z45]
 rcases Nat.lt_or_ge (spt s p) s.size with h | h
 ·have t1 : ((spt s p : Int) = s.size) = False := eq_false (by omega)
  simp +contextual -implicitDefEqProofs (maxSteps := 10000000) (disch := first | (and_intros <;> omega -splitDisjunctions) | (push_cast; and_intros <;> omega -splitDisjunctions) | fail) only [e1, t1, go_sem, seval]
 ·have t1 : ((spt s p : Int) = s.size) = True := eq_true (by omega)
  simp +contextual -implicitDefEqProofs (maxSteps := 10000000) (disch := first | (and_intros <;> omega -splitDisjunctions) | (push_cast; and_intros <;> omega -splitDisjunctions) | fail) only [e1, t1, go_sem, seval]
  rw [B3 (by omega)]
theorem Ad (s : ByteArray) (p : Int) (fl : Nat) (H : LH) (h0 : 0 ≤ p) (hs : s.size ≤ 1099511627776) : run 45 [.str s, .int .i64 p] fl H = some (.int .i64 (bA s p), H) := by
 rw [Gz s p fl H hs, VM h0]
open Go.Proofs.YthlbglmfdjdagaaGreatDoor
theorem SN (s : ByteArray) (c : Int) (fl : Nat) (H : LH) : run 78 [.str s, .int .u8 c] fl H = some (.int .i64 (idxB s (UInt8.ofNat c.toNat)), H) := by
 unfold run
 rw [TQ Tryz.func78 rfl]
 unfold ext
 rw [if_pos ⟨rfl, rfl⟩]
 rfl
theorem GA (s : ByteArray) (c : Int) (fl : Nat) (H : LH) : run 67 [.str s, .int .u8 c] fl H = some (.int .i64 (idxB s (UInt8.ofNat c.toNat)), H) := by
 have e1 := fun c fl H => SN s c fl H
 unfold run at *
 rw [z67]
 simp +contextual -implicitDefEqProofs (maxSteps := 10000000) (disch := first | (and_intros <;> omega -splitDisjunctions) | (push_cast; and_intros <;> omega -splitDisjunctions) | fail) only [e1, go_sem, seval]
theorem O6 (s : ByteArray) (c : UInt8) (fl : Nat) (H : LH) : run 127 [.str s, .str ⟨#[c]⟩] fl H = some (.int .i64 (idxB s c), H) := by
 have e1 := fun fl H => GA s (c.toNat : Int) fl H
 rw [Int.toNat_natCast, UInt8.ofNat_toNat] at e1
 unfold run at *
 rw [z127]
 simp +contextual -implicitDefEqProofs (maxSteps := 10000000) (disch := first | (and_intros <;> omega -splitDisjunctions) | (push_cast; and_intros <;> omega -splitDisjunctions) | fail) only [e1, go_sem, seval]
 refine BM (fun h => ?_) (fun _ => rfl)
 subst h
 rcases Ik ⟨#[c]⟩ c with ⟨_, h2⟩ | ⟨i, h1, h2, _⟩
 ·exact absurd rfl (h2 0 (Nat.zero_lt_one))
 ·have h2 : i < 1 := h2
  rw [h1, show i = 0 by omega]
  rfl
open Go.Proofs.YthlbglmfdjdagaaGreatDoor
theorem Bf (b : Int) (fl : Nat) (H : LH) : run 42 [.int .i64 b] fl H = some (.bool (decide (b = 32 ∨ b = 9)), H) := by
 unfold run
 rw [z42]
 simp +contextual -implicitDefEqProofs (maxSteps := 10000000) (disch := first | (and_intros <;> omega -splitDisjunctions) | (push_cast; and_intros <;> omega -splitDisjunctions) | fail) only [go_sem, seval]
theorem CX (b : Int) (fl : Nat) (H : LH) : run 43 [.int .i64 b] fl H = some (.bool (decide (b = 10 ∨ b < 0)), H) := by
 unfold run
 rw [z43]
 simp +contextual -implicitDefEqProofs (maxSteps := 10000000) (disch := first | (and_intros <;> omega -splitDisjunctions) | (push_cast; and_intros <;> omega -splitDisjunctions) | fail) only [go_sem, seval]
theorem B7 (s : ByteArray) (p : Int) (fl : Nat) (H : LH) (h0 : 0 ≤ p) (hs : s.size ≤ 1099511627776) : run 48 [.str s, .int .i64 p] fl H = some (.bool (decide (gapP s p)), H) := by
 have e1 := fun fl H => Ad s p fl H h0 hs
 have e2 := fun fl H => Bf (bA s p) fl H
 have e3 := fun fl H => CX (bA s p) fl H
 unfold run at *
 rw [z48]
 simp +contextual -implicitDefEqProofs (maxSteps := 10000000) (disch := first | (and_intros <;> omega -splitDisjunctions) | (push_cast; and_intros <;> omega -splitDisjunctions) | fail) only [e1, e2, e3, go_sem, seval]
 rfl
theorem QQ (s : ByteArray) (ch : Int) (fl : Nat) (H : LH) (hs : s.size ≤ 1099511627776) : run 66 [.str s, .int .u8 ch] fl H = some (.int .i64 (DZ s ch s.size), H) := by
 unfold run
 rw [z66]
 simp +contextual -implicitDefEqProofs (maxSteps := 10000000) (disch := first | (and_intros <;> omega -splitDisjunctions) | (push_cast; and_intros <;> omega -splitDisjunctions) | fail) only [go_sem, seval]
 refine Ae fun c R hc hR => ?_
 have key : ∀ (m : Nat) (i : Nat) (j : Int) (x4 x10 x17 : Option V), i < m → j = (i : Int) - 1 → i ≤ s.size → DZ s ch i = DZ s ch s.size →
  zEv (Ac (mkR Tryz.prog cfg ok [0, 1, 4, 5, 10, 17] H.length) .pure H [ResultVar.tmp 4]) (mkR Tryz.prog cfg ok [0, 1, 4, 5, 10, 17] H.length) (K.code (Code.loop c) :: K.blk 0 :: R) .nrm [some (.str s), some (.int .u8 ch), x4, some (.int .i64 j), x10, x17] (H) = some (.int .i64 (DZ s ch s.size), H) := by
  intro m
  induction m with
  | zero => intro i j x4 x10 x17 hm; omega
  | succ m ih =>
    intro i j x4 x10 x17 hm hj hi hf
    subst hj
    rw [A4 hc, ← hR]
    simp +contextual -implicitDefEqProofs (maxSteps := 10000000) (disch := first | (and_intros <;> omega -splitDisjunctions) | (push_cast; and_intros <;> omega -splitDisjunctions) | fail) only [go_sem, seval]
    try rw [hR]
    cases i with
    | zero => rw [if_neg (by omega), ← hf]; rfl
    | succ i =>
      rw [if_pos (by omega)]
      have e : ((i + 1 : Nat) : Int) - 1 = i := by omega
      have h2 : DZ s ch (i + 1) = if bA s i = ch then (i : Int) else DZ s ch i := rfl
      rw [e] at *
      rw [h2] at hf
      refine BM (fun h => ?_) (fun h => ?_)
      ·rw [if_pos h] at hf; rw [← hf]
      ·rw [if_neg h] at hf
       exact ih i _ _ _ _ (by omega) rfl (by omega) hf
 exact key (s.size + 1) s.size _ _ _ _ (by omega) rfl (by omega) rfl
theorem Kh (s : ByteArray) (ch : Int) (fl : Nat) (H : LH) (hs : s.size ≤ 1099511627776) : run 56 [.str s, .int .u8 ch] fl H = some (.int .i64 (DZ s ch s.size), H) := by
 have e1 := fun fl H => QQ s ch fl H hs
 unfold run at *
 rw [z56]
 simp +contextual -implicitDefEqProofs (maxSteps := 10000000) (disch := first | (and_intros <;> omega -splitDisjunctions) | (push_cast; and_intros <;> omega -splitDisjunctions) | fail) only [e1, go_sem, seval]
theorem GB (s : ByteArray) (ch : Int) (fl : Nat) (H : LH) : run 57 [.str s, .int .u8 ch] fl H = some (.int .i64 (idxB s (UInt8.ofNat ch.toNat)), H) := by
 have e1 := fun ch fl H => GA s ch fl H
 unfold run at *
 rw [z57]
 simp +contextual -implicitDefEqProofs (maxSteps := 10000000) (disch := first | (and_intros <;> omega -splitDisjunctions) | (push_cast; and_intros <;> omega -splitDisjunctions) | fail) only [e1, go_sem, seval]
theorem DE (s : ByteArray) (p : Int) (fl : Nat) (H : LH) (hs : s.size ≤ 1099511627776) : run 46 [.str s, .int .i64 p] fl H = some (.int .i64 (lnN s (spt s p)), H) := by
 have e1 := fun fl H => AA s p fl H hs
 have h1 := BO s p
 have hz : (s.extract 0 (spt s p)).size = spt s p := by rw [Ap h1]; omega
 have e2 := fun fl H => Kh (s.extract 0 (spt s p)) 10 fl H (by omega)
 rw [hz] at e2
 have e3 := Mu h1 (spt s p) (Nat.le_refl _)
 have e4 := Dg s (spt s p)
 unfold run at *
 rw [z46]
 simp +contextual -implicitDefEqProofs (maxSteps := 10000000) (disch := first | (and_intros <;> omega -splitDisjunctions) | (push_cast; and_intros <;> omega -splitDisjunctions) | fail) only [e1, e2, e3, go_sem, seval]
theorem CV (s : ByteArray) (q : Nat) (fl : Nat) (H : LH) (hq : q ≤ s.size) (hs : s.size ≤ 1099511627776) : run 46 [.str s, .int .i64 (q : Int)] fl H = some (.int .i64 (lnN s q), H) := by
 have := DE s q fl H hs
 rwa [Ay hq] at this
theorem QJ (s : ByteArray) (p : Int) (fl : Nat) (H : LH) (hs : s.size ≤ 1099511627776) : run 59 [.str s, .int .i64 p] fl H = some (.int .i64 ((spt s p : Int) - (lnN s (spt s p) : Int)), H) := by
 have e1 := fun fl H => AA s p fl H hs
 have e2 := fun fl H => DE s p fl H hs
 have h1 := BO s p
 have h2 := Dg s (spt s p)
 unfold run at *
 rw [z59]
 simp +contextual -implicitDefEqProofs (maxSteps := 10000000) (disch := first | (and_intros <;> omega -splitDisjunctions) | (push_cast; and_intros <;> omega -splitDisjunctions) | fail) only [e1, e2, go_sem, seval]
theorem QK (s : ByteArray) (p : Int) (fl : Nat) (H : LH) (hs : s.size ≤ 1099511627776) : run 47 [.str s, .int .i64 p] fl H = some (.int .i64 (endN s (spt s p)), H) := by
 have e1 := fun fl H => AA s p fl H hs
 have h1 := BO s p
 generalize spt s p = q at *
 have e2 := fun fl H => GB (s.extract q s.size) 10 fl H
 have h3 := UB h1
 rw [show UInt8.ofNat (10 : Int).toNat = 10 from rfl, h3] at e2
 have h4 := B4 h1
 have h5 := Be h1
 rw [show ((endN s q - q : Nat) : Int) = (endN s q : Int) - q by omega] at e2
 unfold run at *
 rw [z47]
 by_cases h : endN s q < s.size
 ·have t1 : ¬ (endN s q : Int) - q < 0 := by omega
  simp only [if_pos h] at e2
  simp +contextual -implicitDefEqProofs (maxSteps := 10000000) (disch := first | (and_intros <;> omega -splitDisjunctions) | (push_cast; and_intros <;> omega -splitDisjunctions) | fail) only [e1, e2, t1, go_sem, seval]
  congr 3; omega
 ·simp only [if_neg h] at e2
  simp +contextual -implicitDefEqProofs (maxSteps := 10000000) (disch := first | (and_intros <;> omega -splitDisjunctions) | (push_cast; and_intros <;> omega -splitDisjunctions) | fail) only [e1, e2, go_sem, seval]
  congr 3; omega
theorem C2 (s : ByteArray) (q : Nat) (fl : Nat) (H : LH) (hq : q ≤ s.size) (hs : s.size ≤ 1099511627776) : run 47 [.str s, .int .i64 (q : Int)] fl H = some (.int .i64 (endN s q), H) := by
 have := QK s q fl H hs
 rwa [Ay hq] at this
theorem QN (s : ByteArray) (p : Int) (fl : Nat) (H : LH) (hs : s.size ≤ 1099511627776) : run 58 [.str s, .int .i64 p] fl H = some (.int .i64 (wtN s (spt s p)), H) := by
 have e1 := fun fl H => AA s p fl H hs
 have e2 := fun q (h : (0 : Int) ≤ q) fl H => Ad s q fl H h hs
 have e3 := fun b fl H => Bf b fl H
 have h1 := BO s p
 generalize spt s p = q0 at *
 unfold run at *
 rw [z58]
 simp +contextual -implicitDefEqProofs (maxSteps := 10000000) (disch := first | (and_intros <;> omega -splitDisjunctions) | (push_cast; and_intros <;> omega -splitDisjunctions) | fail) only [e1, go_sem, seval]
 refine Ae fun c R hc hR => ?_
 have key : ∀ (m : Nat) (q : Nat) (j : Int) (x4 x11 : Option V), s.size - q < m → j = (q : Int) → q ≤ s.size → wtN s q = wtN s q0 →
  zEv (Ac (mkR Tryz.prog cfg ok [0, 1, 4, 11] H.length) .pure H [ResultVar.tmp 4]) (mkR Tryz.prog cfg ok [0, 1, 4, 11] H.length) (K.code (Code.loop c) :: K.blk 0 :: R) .nrm [some (.str s), some (.int .i64 j), x4, x11] (H) = some (.int .i64 (wtN s q0), H) := by
  intro m
  induction m with
  | zero => intro q j x4 x11 hm; omega
  | succ m ih =>
    intro q j x4 x11 hm hj hq hf
    subst hj
    rw [A4 hc, ← hR]
    simp +contextual -implicitDefEqProofs (maxSteps := 10000000) (disch := first | (and_intros <;> omega -splitDisjunctions) | (push_cast; and_intros <;> omega -splitDisjunctions) | fail) only [e2, e3, go_sem, seval]
    try rw [hR]
    refine BM (fun h => ?_) (fun h => ?_)
    ·have hlt : q < s.size := by rcases h with h | h <;> exact Ai h (by omega)
     rw [TJ h] at hf
     exact ih (q + 1) ((q : Int) + 1) _ _ (by omega) rfl (by omega) hf
    ·rw [FS h] at hf
     rw [hf]
 exact key (s.size + 1) q0 _ _ _ (by omega) rfl h1 rfl
theorem AJ (s : ByteArray) (q : Nat) (fl : Nat) (H : LH) (hq : q ≤ s.size) (hs : s.size ≤ 1099511627776) : run 58 [.str s, .int .i64 (q : Int)] fl H = some (.int .i64 (wtN s q), H) := by
 have := QN s q fl H hs
 rwa [Ay hq] at this
theorem K1 (s : ByteArray) (p : Int) (fl : Nat) (H : LH) (hs : s.size ≤ 1099511627776) : run 105 [.str s, .int .i64 p] fl H = some (.int .i64 (indN s (spt s p)), H) := by
 have e1 := fun fl H => DE s p fl H hs
 have e2 := fun q (h : (0 : Int) ≤ q) fl H => Ad s q fl H h hs
 have h1 := BO s p
 generalize spt s p = q0 at *
 have h2 := Dg s q0
 have h3 := OP (s := s) (p := lnN s q0) (by omega)
 have h4 := Tj s (lnN s q0)
 unfold run at *
 rw [z105]
 simp +contextual -implicitDefEqProofs (maxSteps := 10000000) (disch := first | (and_intros <;> omega -splitDisjunctions) | (push_cast; and_intros <;> omega -splitDisjunctions) | fail) only [e1, go_sem, seval]
 refine Ae fun c R hc hR => ?_
 have key : ∀ (m : Nat) (q : Nat) (j : Int) (x1 x4 x14 : Option V), s.size - q < m → j = (q : Int) → q ≤ s.size → blN s q = blN s (lnN s q0) →
  zEv (Ac (mkR Tryz.prog cfg ok [0, 1, 4, 5, 6, 14] H.length) .pure H [ResultVar.tmp 4]) (mkR Tryz.prog cfg ok [0, 1, 4, 5, 6, 14] H.length) (K.code (Code.loop c) :: K.blk 0 :: R) .nrm [some (.str s), x1, x4, some (.int .i64 (lnN s q0)), some (.int .i64 j), x14] (H) = some (.int .i64 (indN s q0), H) := by
  intro m
  induction m with
  | zero => intro q j x1 x4 x14 hm; omega
  | succ m ih =>
    intro q j x1 x4 x14 hm hj hq hf
    subst hj
    rw [A4 hc, ← hR]
    simp +contextual -implicitDefEqProofs (maxSteps := 10000000) (disch := first | (and_intros <;> omega -splitDisjunctions) | (push_cast; and_intros <;> omega -splitDisjunctions) | fail) only [e2, go_sem, seval]
    try rw [hR]
    refine BM (fun h => ?_) (fun h => ?_)
    ·have hlt := Ai h (by omega)
     rw [OO h] at hf
     exact ih (q + 1) ((q : Int) + 1) _ _ _ (by omega) rfl (by omega) hf
    ·rw [Ec h] at hf
     unfold indN
     congr 3; omega
 exact key (s.size + 1) (lnN s q0) _ _ _ _ (by omega) rfl (by omega) rfl
theorem CU (s : ByteArray) (q : Nat) (fl : Nat) (H : LH) (hq : q ≤ s.size) (hs : s.size ≤ 1099511627776) : run 105 [.str s, .int .i64 (q : Int)] fl H = some (.int .i64 (indN s q), H) := by
 have := K1 s q fl H hs
 rwa [Ay hq] at this
theorem O4 (s : ByteArray) (p : Int) (fl : Nat) (H : LH) (hs : s.size ≤ 1099511627776) : run 39 [.str s, .int .i64 p] fl H = some (.int .i64 (Ah s (spt s p)), H) := by
 have e1 := fun fl H => AA s p fl H hs
 have h1 := BO s p
 generalize spt s p = q at *
 have e2 := fun fl H => CV s q fl H h1 hs
 have e3 := fun fl H => B7 s ((q + 3 : Nat) : Int) fl H (by omega) hs
 have h2 := Dg s q
 rw [show ((q + 3 : Nat) : Int) = (q : Int) + 3 by omega] at e3
 have hg : gapP s ((q + 3 : Nat) : Int) = gapP s ((q : Int) + 3) := by rw [show ((q + 3 : Nat) : Int) = (q : Int) + 3 by omega]
 unfold run at *
 rw [z39]
 unfold Ah
 simp only [hg]
 have d1 : ((lnN s q : Int) = q) = (lnN s q = q) := propext ⟨fun h => by omega, fun h => by omega⟩
 have d2 : ((s.size : Int) - q < 3) = (s.size < q + 3) := propext ⟨fun h => by omega, fun h => by omega⟩
 rcases Nat.lt_or_ge s.size (q + 3) with h | h
 ·have t1 : ((s.size : Int) - q < 3) = True := eq_true (by omega)
  simp +contextual -implicitDefEqProofs (maxSteps := 10000000) (disch := first | (and_intros <;> omega -splitDisjunctions) | (push_cast; and_intros <;> omega -splitDisjunctions) | fail) only [e1, e2, e3, t1, go_sem, seval]
  rw [if_pos (.inl (.inr h))]
 ·have t1 : ((s.size : Int) - q < 3) = False := eq_false (by omega)
  have t2 : ¬ s.size < q + 3 := by omega
  have t3 : ((q : Int) + 3).toNat = q + 3 := by omega
  simp +contextual -implicitDefEqProofs (maxSteps := 10000000) (disch := first | (and_intros <;> omega -splitDisjunctions) | (push_cast; and_intros <;> omega -splitDisjunctions) | fail) only [e1, e2, e3, t1, t3, d1, go_sem, seval]
  grind
theorem AK (s : ByteArray) (q : Nat) (fl : Nat) (H : LH) (hq : q ≤ s.size) (hs : s.size ≤ 1099511627776) : run 39 [.str s, .int .i64 (q : Int)] fl H = some (.int .i64 (Ah s q), H) := by
 have := O4 s q fl H hs
 rwa [Ay hq] at this
theorem CW (s : ByteArray) (p : Int) (fl : Nat) (H : LH) (hs : s.size ≤ 1099511627776) : run 49 [.str s, .int .i64 p] fl H = some (.tup [.int .i64 (rsN s (spt s p)), .bool (rsB s (spt s p))], H) := by
 have e1 := fun fl H => AA s p fl H hs
 have h1 := BO s p
 generalize spt s p = q at *
 have h2 := Bm h1
 have e2 := fun fl H => AJ s q fl H h1 hs
 have e3 := fun fl H => Ad s (wtN s q) fl H (by omega) hs
 have e4 := fun b fl H => CX b fl H
 have e5 := fun fl H => CV s q fl H h1 hs
 have e6 := fun fl H => C2 s (wtN s q) fl H h2 hs
 unfold run at *
 rw [z49]
 have r1 : rsB s q = decide ((bA s (wtN s q) = 10 ∨ bA s (wtN s q) < 0) ∨ bA s (wtN s q) = 35 ∧ (wtN s q ≠ q ∨ lnN s q = q)) := rfl
 unfold rsN
 rw [r1]
 by_cases hw : wtN s q = q
 ·have t1 : ((wtN s q : Int) = q) = True := eq_true (by omega)
  have t3 : (wtN s q = q) = True := eq_true hw
  by_cases hl : lnN s q = q
  ·have t2 : ((lnN s q : Int) = q) = True := eq_true (by omega)
   have t4 : (lnN s q = q) = True := eq_true hl
   simp +contextual -implicitDefEqProofs (maxSteps := 10000000) (disch := first | (and_intros <;> omega -splitDisjunctions) | (push_cast; and_intros <;> omega -splitDisjunctions) | fail) only [e1, e2, e3, e4, e5, e6, t1, t2, t3, t4, ne_eq, go_sem, seval]
   grind
  ·have t2 : ((lnN s q : Int) = q) = False := eq_false (by omega)
   have t4 : (lnN s q = q) = False := eq_false hl
   simp +contextual -implicitDefEqProofs (maxSteps := 10000000) (disch := first | (and_intros <;> omega -splitDisjunctions) | (push_cast; and_intros <;> omega -splitDisjunctions) | fail) only [e1, e2, e3, e4, e5, e6, t1, t2, t3, t4, ne_eq, go_sem, seval]
   grind
 ·have t1 : ((wtN s q : Int) = q) = False := eq_false (by omega)
  have t3 : (wtN s q = q) = False := eq_false hw
  simp +contextual -implicitDefEqProofs (maxSteps := 10000000) (disch := first | (and_intros <;> omega -splitDisjunctions) | (push_cast; and_intros <;> omega -splitDisjunctions) | fail) only [e1, e2, e3, e4, e5, e6, t1, t3, ne_eq, go_sem, seval]
  grind
theorem IC (s : ByteArray) (p : Int) (fl : Nat) (H : LH) (hs : s.size ≤ 1099511627776) : run 104 [.str s, .int .i64 p] fl H = some (.bool (lonB s (spt s p)), H) := by
 have e1 := fun fl H => DE s p fl H hs
 have h1 := BO s p
 generalize spt s p = q at *
 have h2 := Dg s q
 have e2 := fun fl H => AJ s (lnN s q) fl H (by omega) hs
 have e3 := fun fl H => Ad s (wtN s (lnN s q)) fl H (by omega) hs
 have e4 := fun b fl H => CX b fl H
 unfold run at *
 rw [z104]
 simp +contextual -implicitDefEqProofs (maxSteps := 10000000) (disch := first | (and_intros <;> omega -splitDisjunctions) | (push_cast; and_intros <;> omega -splitDisjunctions) | fail) only [e1, e2, e3, e4, go_sem, seval]
 rfl
theorem Vc (s : ByteArray) (p : Int) (fl : Nat) (H : LH) (hs : s.size ≤ 1099511627776) : run 38 [.str s, .int .i64 p] fl H = some (.int .i64 (gpN s (spt s p)), H) := by
 have e1 := fun fl H => AA s p fl H hs
 have e2 := fun q (h : (0 : Int) ≤ q) fl H => Ad s q fl H h hs
 have e3 := fun b fl H => Bf b fl H
 have h1 := BO s p
 generalize spt s p = q0 at *
 unfold run at *
 rw [z38]
 simp +contextual -implicitDefEqProofs (maxSteps := 10000000) (disch := first | (and_intros <;> omega -splitDisjunctions) | (push_cast; and_intros <;> omega -splitDisjunctions) | fail) only [e1, go_sem, seval]
 refine Ae fun c R hc hR => ?_
 have key : ∀ (m : Nat) (q : Nat) (j : Int) (x4 x5 x12 x17 x26 : Option V), s.size - q < m → j = (q : Int) → q ≤ s.size → gpN s q = gpN s q0 →
  zEv (Ac (mkR Tryz.prog cfg ok [0, 1, 4, 5, 12, 17, 26] H.length) .pure H [ResultVar.tmp 4]) (mkR Tryz.prog cfg ok [0, 1, 4, 5, 12, 17, 26] H.length) (K.code (Code.loop c) :: K.blk 0 :: R) .nrm [some (.str s), some (.int .i64 j), x4, x5, x12, x17, x26] (H) = some (.int .i64 (gpN s q0), H) := by
  intro m
  induction m with
  | zero => intro q j x4 x5 x12 x17 x26 hm; omega
  | succ m ih =>
    intro q j x4 x5 x12 x17 x26 hm hj hq hf
    subst hj
    have e4 := fun fl H => CV s q fl H hq hs
    have e5 := fun fl H => C2 s q fl H hq hs
    have d1 : ((lnN s q : Int) = q) = (lnN s q = q) := propext ⟨fun h => by omega, fun h => by omega⟩
    have h5 := Dg s q
    have e6 := fun fl H => Gz s ((q : Int) - 1) fl H hs
    unfold run at e4 e5 e6
    by_cases hlt : q < s.size
    ·have t1 : ((q : Int) < s.size) = True := eq_true (by omega)
     by_cases hw : (bA s q = 32 ∨ bA s q = 9) ∨ bA s q = 10
     ·rw [Tp hw] at hf
      rw [A4 hc]
      simp +contextual -implicitDefEqProofs (maxSteps := 10000000) (disch := first | (and_intros <;> omega -splitDisjunctions) | (push_cast; and_intros <;> omega -splitDisjunctions) | fail) only [t1, hw, e2, e3, go_sem, seval]
      exact ih (q + 1) ((q : Int) + 1) _ _ _ _ _ (by omega) rfl (by omega) hf
     ·by_cases h35 : bA s q = 35
      ·have t3 : ((35 : Int) = 32 ∨ (35 : Int) = 9) = False := eq_false (by omega)
       have h6 := KN hlt h35
       have h7 := Be hq
       by_cases hl : lnN s q = q
       ·have t2 : ((lnN s q : Int) = q) = True := eq_true (by omega)
        rw [KZ h35 (.inl hl)] at hf
        rw [A4 hc]
        simp +contextual -implicitDefEqProofs (maxSteps := 10000000) (disch := first | (and_intros <;> omega -splitDisjunctions) | (push_cast; and_intros <;> omega -splitDisjunctions) | fail) only [t1, t2, t3, h35, e2, e3, e4, e5, go_sem, seval]
        exact ih (endN s q) _ _ _ _ _ _ (by omega) rfl h7 hf
       ·have t2 : ((lnN s q : Int) = q) = False := eq_false (by omega)
        have hq1 : 1 ≤ q := by
         rcases Nat.eq_zero_or_pos q with h | h
         ·rw [h] at hl; exact absurd rfl hl
         ·exact h
        by_cases hb : bA s ((q : Int) - 1) = 32 ∨ bA s ((q : Int) - 1) = 9
        ·have t4 : (bA s ((q : Int) - 1) = 32 ∨ bA s ((q : Int) - 1) = 9) = True := eq_true hb
         rw [KZ h35 (.inr hb)] at hf
         rw [A4 hc]
         simp +contextual -implicitDefEqProofs (maxSteps := 10000000) (disch := first | (and_intros <;> omega -splitDisjunctions) | (push_cast; and_intros <;> omega -splitDisjunctions) | fail) only [t1, t2, t3, t4, h35, e2, e3, e4, e5, go_sem, seval]
         exact ih (endN s q) _ _ _ _ _ _ (by omega) rfl h7 hf
        ·have t4 : (bA s ((q : Int) - 1) = 32 ∨ bA s ((q : Int) - 1) = 9) = False := eq_false hb
         rw [Ii hw (fun h => by rcases h.2 with h | h; exact hl h; exact hb h)] at hf
         rw [A4 hc, ← hR]
         simp +contextual -implicitDefEqProofs (maxSteps := 10000000) (disch := first | (and_intros <;> omega -splitDisjunctions) | (push_cast; and_intros <;> omega -splitDisjunctions) | fail) only [t1, t2, t3, t4, h35, e2, e3, e4, e5, go_sem, seval]
         rw [hf]
      ·rw [Ii hw (fun h => h35 h.1)] at hf
       rw [A4 hc, ← hR]
       simp +contextual -implicitDefEqProofs (maxSteps := 10000000) (disch := first | (and_intros <;> omega -splitDisjunctions) | (push_cast; and_intros <;> omega -splitDisjunctions) | fail) only [t1, hw, h35, e2, e3, go_sem, seval]
       rw [hf]
    ·have t1 : ((q : Int) < s.size) = False := eq_false (by omega)
     rw [PN (by omega)] at hf
     rw [A4 hc, ← hR]
     simp +contextual -implicitDefEqProofs (maxSteps := 10000000) (disch := first | (and_intros <;> omega -splitDisjunctions) | (push_cast; and_intros <;> omega -splitDisjunctions) | fail) only [t1, go_sem, seval]
     rw [hf]
 exact key (s.size + 1) q0 _ _ _ _ _ _ (by omega) rfl h1 rfl
theorem DD (s : ByteArray) (q : Nat) (fl : Nat) (H : LH) (hq : q ≤ s.size) (hs : s.size ≤ 1099511627776) : run 38 [.str s, .int .i64 (q : Int)] fl H = some (.int .i64 (gpN s q), H) := by
 have := Vc s q fl H hs
 rwa [Ay hq] at this
open Go.Proofs.YthlbglmfdjdagaaGreatDoor
def pcC (x : ByteArray × Bool) : List V := [.str x.1, .bool x.2]
theorem As (x : ByteArray × Bool) : (pcC x).length = 2 := rfl
def pc0 : ByteArray × Bool := (⟨#[]⟩, false)
def brk (n : Nat) : ByteArray := ⟨(Lib.repeatL [10] n).toArray⟩
theorem AF (n : Nat) : (brk n).size = n := by
 show (Lib.repeatL [10] n).length = n
 rw [Lib.repeatL_length]; simp
theorem sz_e : ByteArray.size ⟨#[]⟩ = 0 := rfl
theorem sz_1 {b : UInt8} : ByteArray.size ⟨#[b]⟩ = 1 := rfl
def GU : List (ByteArray × Bool) → ByteArray → Bool → Nat → ByteArray
 | [], out, _, _ => out
 | x :: r, out, glue, many =>
   if (x.1 = ⟨#[]⟩ ∧ x.2 = false) ∧ r ≠ [] then GU r out glue (many + 1)
   else GU r ((if 0 < many then out ++ brk many else if glue = false then out ++ ⟨#[32]⟩ else out) ++ x.1) x.2 0
def DK : List (ByteArray × Bool) → ByteArray
 | [] => ⟨#[]⟩
 | x :: r => GU r x.1 x.2 0
def szP : List (ByteArray × Bool) → Nat
 | [] => 0
 | x :: r => x.1.size + 1 + szP r
theorem BE {x : ByteArray × Bool} {r : List (ByteArray × Bool)} : szP (x :: r) = x.1.size + 1 + szP r := rfl
theorem GO : ∀ xs : List (ByteArray × Bool), xs.length ≤ szP xs
 | [] => Nat.le_refl _
 | x :: r => by have := GO r; simp only [szP, List.length_cons]; omega
theorem Nr {α : Type} {xs : List α} {i : Nat} (hi : i < xs.length) (d : α) : xs.drop i = xs.getD i d :: xs.drop (i + 1) := by
 rw [List.drop_eq_getElem_cons hi, Bp hi]
theorem Fk {H : LH} {v : V} {xs : List (ByteArray × Bool)} (h : At H pcC 2 v xs) (hl : szP xs ≤ 1099511627776) (fl : Nat) :
 run 124 [v] fl H = some (.str (DK xs), H) := by
 have f1 := h.isTup; have f2 := h.len; have f3 := h.lenOk Rg; have f0 := h.one
 have f4 := fun L hp => (h.left (L := L)).con hp
 have f5 := h.idx (T := ty Tryz.prog) (t := 120) (by simp only [Av, AC, ty4, ty9, Rg, Vq])
 have f6 := fun L => (h.left (L := L)).loadD As pc0
 have hl2 := GO xs
 unfold run
 rw [z124]
 by_cases h0 : xs.length = 0
 ·have t0 : ((xs.length : Int) = 0) = True := eq_true (by omega)
  have : xs = [] := List.eq_nil_of_length_eq_zero h0
  subst this
  simp +contextual -implicitDefEqProofs (maxSteps := 10000000) (disch := first | (and_intros <;> omega -splitDisjunctions) | (push_cast; and_intros <;> omega -splitDisjunctions) | fail) only [f0, f1, f2, f3, f4, f5, f6, List.length_nil, Int.natCast_zero, go_sem, seval]
  rfl
 have t0 : ((xs.length : Int) = 0) = False := eq_false (by omega)
 have hpos : 0 < xs.length := by omega
 have b0 := fun n K => (h.left (L := [])).loadD0 As pc0 (fun e => .str e.1) (fun _ => rfl) 0 (by omega) n K
 have b1 := fun n K => (h.left (L := [])).loadDF As pc0 (fun e => .bool e.2) (j := 1) (fun _ => rfl) 0 (by omega) n K
 simp only [List.append_nil, Nat.zero_mul, Nat.add_zero] at b0 b1
 have hcon := h.con (by omega)
 simp +contextual -implicitDefEqProofs (maxSteps := 10000000) (disch := first | (and_intros <;> omega -splitDisjunctions) | (push_cast; and_intros <;> omega -splitDisjunctions) | fail) only [f0, f1, f2, f3, f4, f5, f6, hcon, b0, b1, t0, go_sem, seval]
 refine Ae fun c R hc hR => ?_
 have key : ∀ (m : Nat) (i w : Nat) (j ww : Int) (out : ByteArray) (g : Bool) (A : LH) (x2 x7 x10 x22 x43 x46 x53 : Option V), xs.length - i < m → j = (i : Int) → ww = (w : Int) → w ≤ i → i ≤ xs.length → Hx H A → out.size + w + szP (xs.drop i) ≤ szP xs → GU (xs.drop i) out g w = DK xs →
  zEv (Ac (mkR Tryz.prog cfg ok [0, 2, 3, 4, 5, 6, 7, 10, 22, 43, 46, 53] H.length) .pure H [ResultVar.tmp 2]) (mkR Tryz.prog cfg ok [0, 2, 3, 4, 5, 6, 7, 10, 22, 43, 46, 53] H.length) (K.code (Code.loop c) :: K.blk 0 :: R) .nrm [some v, x2, some (.str out), some (.bool g), some (.int .i64 ww), some (.int .i64 j), x7, x10, x22, x43, x46, x53] (A) = some (.str (DK xs), H) := by
  intro m
  induction m with
  | zero => intro i w j ww out g A x2 x7 x10 x22 x43 x46 x53 hm; omega
  | succ m ih =>
    intro i w j ww out g A x2 x7 x10 x22 x43 x46 x53 hm hj hww hw2 hi hA hb hf
    subst hj; subst hww
    have hB := h.ext hA
    have hle := hA.len
    have g1 := hB.isTup; have g2 := hB.len; have g3 := hB.lenOk Rg; have g0 := hB.one
    have g4 := fun hp => hB.con hp
    have g5 := hB.idx (T := ty Tryz.prog) (t := 120) (by simp only [Av, AC, ty4, ty9, Rg, Vq])
    have g6 := hB.loadD As pc0
    rcases Nat.lt_or_ge i xs.length with hlt | hge
    rotate_left
    ·have t1 : ((i : Int) < xs.length) = False := eq_false (by omega)
     rw [List.drop_of_length_le (by omega)] at hf
     rw [A4 hc, ← hR]
     simp +contextual -implicitDefEqProofs (maxSteps := 10000000) (disch := first | (and_intros <;> omega -splitDisjunctions) | (push_cast; and_intros <;> omega -splitDisjunctions) | fail) only [g0, g1, g2, g3, g4, g5, g6, t1, go_sem, seval]
     rw [← hf]; rfl
    have t1 : ((i : Int) < xs.length) = True := eq_true (by omega)
    have g7 := fun K => g6 i hlt K
    rw [Nr hlt pc0] at hf hb
    rw [BE] at hb
    generalize hs : xs.getD i pc0 = x at *
    obtain ⟨xt, xg⟩ := x
    dsimp only at hb
    unfold pcC at g7
    have g6 := g7
    have e1 : ∀ (hw : 0 < w) (fl : Nat) (H : LH), run 116 [.str ⟨#[10]⟩, .int .i64 (w : Int)] fl H = some (.str (brk w), H) := fun hw fl H => Fc ⟨#[10]⟩ w (by show 1 * w ≤ _; omega) (by omega) fl H
    have bsz := AF w
    unfold GU at hf
    have hdn : xs.drop (i + 1) ≠ [] ↔ (i : Int) < (xs.length : Int) - 1 := by
     rw [ne_eq, List.drop_eq_nil_iff]; omega
    by_cases c1 : (xt = ⟨#[]⟩ ∧ xg = false) ∧ xs.drop (i + 1) ≠ []
    ·rw [if_pos c1] at hf
     obtain ⟨⟨rfl, rfl⟩, c2⟩ := c1
     have t2 : ((i : Int) < (xs.length : Int) - 1) = True := eq_true (hdn.1 c2)
     rw [A4 hc]
     simp +contextual -implicitDefEqProofs (maxSteps := 10000000) (disch := first | (and_intros <;> omega -splitDisjunctions) | (push_cast; and_intros <;> omega -splitDisjunctions) | fail) only [g0, g1, g2, g3, g4, g5, g6, t1, t2, go_sem, seval]
     exact ih (i + 1) (w + 1) ((i : Int) + 1) ((w : Int) + 1) _ _ _ _ _ _ _ _ _ _ (by omega) (by omega) (by omega) (by omega) (by omega) (hA.trans Hx.app) (by simp only [sz_e] at hb; omega) hf
    ·rw [if_neg c1] at hf
     rw [hdn] at c1
     have c3 : xt ≠ ⟨#[]⟩ ∨ (xt = ⟨#[]⟩ ∧ xg = true) ∨ (xt = ⟨#[]⟩ ∧ xg = false ∧ ¬ (i : Int) < (xs.length : Int) - 1) := by grind
     clear c1
     have hf2 : ∀ o, o = (if 0 < w then out ++ brk w else if g = false then out ++ ⟨#[32]⟩ else out) → GU (xs.drop (i + 1)) (o ++ xt) xg 0 = DK xs := fun o ho => by rw [ho]; exact hf
     by_cases hw : 0 < w
     ·have t3 : ((w : Int) > 0) = True := eq_true (by omega)
      have t4 : (0 < (w : Int)) = True := eq_true (by omega)
      have e1 := fun fl H => e1 hw fl H
      have hf3 := hf2 _ (by rw [if_pos hw])
      unfold run at e1
      rcases c3 with c3 | ⟨rfl, rfl⟩ | ⟨rfl, rfl, c3⟩
      ·have c4 : (xt = ⟨#[]⟩) = False := eq_false c3
       have c5 : True := trivial
       rw [A4 hc]
       simp +contextual -implicitDefEqProofs (maxSteps := 10000000) (disch := first | (and_intros <;> omega -splitDisjunctions) | (push_cast; and_intros <;> omega -splitDisjunctions) | fail) only [g0, g1, g2, g3, g4, g5, g6, t1, t3, t4, c4, c5, e1, bsz, go_sem, seval]
       exact ih (i + 1) 0 ((i : Int) + 1) 0 _ _ _ _ _ _ _ _ _ _ (by omega) (by omega) (by omega) (by omega) (by omega) (hA.trans Hx.app) (by simp only [ByteArray.size_append, AF, sz_e, sz_1] at hb ⊢; omega) hf3
      ·have c4 : True := trivial
       have c5 : True := trivial
       rw [A4 hc]
       simp +contextual -implicitDefEqProofs (maxSteps := 10000000) (disch := first | (and_intros <;> omega -splitDisjunctions) | (push_cast; and_intros <;> omega -splitDisjunctions) | fail) only [g0, g1, g2, g3, g4, g5, g6, t1, t3, t4, c4, c5, e1, bsz, go_sem, seval]
       exact ih (i + 1) 0 ((i : Int) + 1) 0 _ _ _ _ _ _ _ _ _ _ (by omega) (by omega) (by omega) (by omega) (by omega) (hA.trans Hx.app) (by simp only [ByteArray.size_append, AF, sz_e, sz_1] at hb ⊢; omega) hf3
      ·have c4 : ((i : Int) < (xs.length : Int) - 1) = False := eq_false c3
       have c5 : True := trivial
       rw [A4 hc]
       simp +contextual -implicitDefEqProofs (maxSteps := 10000000) (disch := first | (and_intros <;> omega -splitDisjunctions) | (push_cast; and_intros <;> omega -splitDisjunctions) | fail) only [g0, g1, g2, g3, g4, g5, g6, t1, t3, t4, c4, c5, e1, bsz, go_sem, seval]
       exact ih (i + 1) 0 ((i : Int) + 1) 0 _ _ _ _ _ _ _ _ _ _ (by omega) (by omega) (by omega) (by omega) (by omega) (hA.trans Hx.app) (by simp only [ByteArray.size_append, AF, sz_e, sz_1] at hb ⊢; omega) hf3
     ·have t3 : ((w : Int) > 0) = False := eq_false (by omega)
      have t4 : (0 < (w : Int)) = False := eq_false (by omega)
      cases g with
      | true =>
        have hf3 := hf2 out (by rw [if_neg hw, if_neg (by decide)])
        rcases c3 with c3 | ⟨rfl, rfl⟩ | ⟨rfl, rfl, c3⟩
        ·have c4 : (xt = ⟨#[]⟩) = False := eq_false c3
         have c5 : True := trivial
         rw [A4 hc]
         simp +contextual -implicitDefEqProofs (maxSteps := 10000000) (disch := first | (and_intros <;> omega -splitDisjunctions) | (push_cast; and_intros <;> omega -splitDisjunctions) | fail) only [g0, g1, g2, g3, g4, g5, g6, t1, t3, t4, c4, c5, go_sem, seval]
         exact ih (i + 1) 0 ((i : Int) + 1) 0 _ _ _ _ _ _ _ _ _ _ (by omega) (by omega) (by omega) (by omega) (by omega) (hA.trans Hx.app) (by simp only [ByteArray.size_append, AF, sz_e, sz_1] at hb ⊢; omega) hf3
        ·have c4 : True := trivial
         have c5 : True := trivial
         rw [A4 hc]
         simp +contextual -implicitDefEqProofs (maxSteps := 10000000) (disch := first | (and_intros <;> omega -splitDisjunctions) | (push_cast; and_intros <;> omega -splitDisjunctions) | fail) only [g0, g1, g2, g3, g4, g5, g6, t1, t3, t4, c4, c5, go_sem, seval]
         exact ih (i + 1) 0 ((i : Int) + 1) 0 _ _ _ _ _ _ _ _ _ _ (by omega) (by omega) (by omega) (by omega) (by omega) (hA.trans Hx.app) (by simp only [ByteArray.size_append, AF, sz_e, sz_1] at hb ⊢; omega) hf3
        ·have c4 : ((i : Int) < (xs.length : Int) - 1) = False := eq_false c3
         have c5 : True := trivial
         rw [A4 hc]
         simp +contextual -implicitDefEqProofs (maxSteps := 10000000) (disch := first | (and_intros <;> omega -splitDisjunctions) | (push_cast; and_intros <;> omega -splitDisjunctions) | fail) only [g0, g1, g2, g3, g4, g5, g6, t1, t3, t4, c4, c5, go_sem, seval]
         exact ih (i + 1) 0 ((i : Int) + 1) 0 _ _ _ _ _ _ _ _ _ _ (by omega) (by omega) (by omega) (by omega) (by omega) (hA.trans Hx.app) (by simp only [ByteArray.size_append, AF, sz_e, sz_1] at hb ⊢; omega) hf3
      | false =>
        have hf3 := hf2 (out ++ ⟨#[32]⟩) (by rw [if_neg hw, if_pos rfl])
        rcases c3 with c3 | ⟨rfl, rfl⟩ | ⟨rfl, rfl, c3⟩
        ·have c4 : (xt = ⟨#[]⟩) = False := eq_false c3
         have c5 : True := trivial
         rw [A4 hc]
         simp +contextual -implicitDefEqProofs (maxSteps := 10000000) (disch := first | (and_intros <;> omega -splitDisjunctions) | (push_cast; and_intros <;> omega -splitDisjunctions) | fail) only [g0, g1, g2, g3, g4, g5, g6, t1, t3, t4, c4, c5, go_sem, seval]
         exact ih (i + 1) 0 ((i : Int) + 1) 0 _ _ _ _ _ _ _ _ _ _ (by omega) (by omega) (by omega) (by omega) (by omega) (hA.trans Hx.app) (by simp only [ByteArray.size_append, AF, sz_e, sz_1] at hb ⊢; omega) hf3
        ·have c4 : True := trivial
         have c5 : True := trivial
         rw [A4 hc]
         simp +contextual -implicitDefEqProofs (maxSteps := 10000000) (disch := first | (and_intros <;> omega -splitDisjunctions) | (push_cast; and_intros <;> omega -splitDisjunctions) | fail) only [g0, g1, g2, g3, g4, g5, g6, t1, t3, t4, c4, c5, go_sem, seval]
         exact ih (i + 1) 0 ((i : Int) + 1) 0 _ _ _ _ _ _ _ _ _ _ (by omega) (by omega) (by omega) (by omega) (by omega) (hA.trans Hx.app) (by simp only [ByteArray.size_append, AF, sz_e, sz_1] at hb ⊢; omega) hf3
        ·have c4 : ((i : Int) < (xs.length : Int) - 1) = False := eq_false c3
         have c5 : True := trivial
         rw [A4 hc]
         simp +contextual -implicitDefEqProofs (maxSteps := 10000000) (disch := first | (and_intros <;> omega -splitDisjunctions) | (push_cast; and_intros <;> omega -splitDisjunctions) | fail) only [g0, g1, g2, g3, g4, g5, g6, t1, t3, t4, c4, c5, go_sem, seval]
         exact ih (i + 1) 0 ((i : Int) + 1) 0 _ _ _ _ _ _ _ _ _ _ (by omega) (by omega) (by omega) (by omega) (by omega) (hA.trans Hx.app) (by simp only [ByteArray.size_append, AF, sz_e, sz_1] at hb ⊢; omega) hf3
 refine key (xs.length + 1) 1 0 1 0 _ _ _ _ _ _ _ _ _ _ (by omega) (by omega) (by omega) (by omega) (by omega) (Hx.refl _) ?_ ?_
 ·cases xs with
  | nil => exact absurd rfl h0
  | cons x r => rw [BE]; show x.1.size + 0 + szP r ≤ _; omega
 ·cases xs with
  | nil => exact absurd rfl h0
  | cons x r => rfl
end Go.Proofs.YthlbglmfdjdagaaGreatDoor.Lg
