/- The facts of this program that the logical machine takes: sizes and zero values of types, what is kept of each frame, how each function stands to memory, and that the code keeps the rule. No condition. -/
import Derived.Test.YtbjpecknlohicaaLgE
import Derived.Test.YtbjpecknlohicaaChecked
namespace Go.Proofs.Ytbjpecknlohicaa.Lg
set_option linter.unusedSimpArgs false
set_option linter.unusedVariables false
open Go.Proofs.Ytbjpecknlohicaa
theorem ty3 : ty Try.prog 3 = some ⟨1, 8, .int .i64, some (.int .i64 0)⟩ := by kernel_rfl
theorem ty4 : ty Try.prog 4 = some ⟨1, 1, .bool, some (.bool false)⟩ := by kernel_rfl
theorem ty5 : ty Try.prog 5 = some ⟨1, 1, .int .u8, some (.int .u8 0)⟩ := by kernel_rfl
theorem ty9 : ty Try.prog 9 = some ⟨1, 16, .str, some (.str ⟨#[]⟩)⟩ := by kernel_rfl
theorem ty23 : ty Try.prog 23 = some ⟨8, 88, .struct [(0, 3), (1, 3), (2, 4), (3, 9), (4, 9), (5, 9), (6, 3), (7, 3)] (some [1, 1, 0, 2, 2, 2, 1, 1]), some (.agg [.int .i64 0, .int .i64 0, .bool false, .str ⟨#[]⟩, .str ⟨#[]⟩, .str ⟨#[]⟩, .int .i64 0, .int .i64 0])⟩ := by kernel_rfl
theorem ty26 : ty Try.prog 26 = some ⟨8, 88, .struct [(0, 3), (1, 3), (2, 4), (3, 9), (4, 9), (5, 9), (6, 3), (7, 3)] (some [1, 1, 0, 2, 2, 2, 1, 1]), some (.agg [.int .i64 0, .int .i64 0, .bool false, .str ⟨#[]⟩, .str ⟨#[]⟩, .str ⟨#[]⟩, .int .i64 0, .int .i64 0])⟩ := by kernel_rfl
theorem ty30 : ty Try.prog 30 = some ⟨2, 16, .struct [(0, 3), (1, 3)] (some [1, 1]), some (.agg [.int .i64 0, .int .i64 0])⟩ := by kernel_rfl
theorem ty32 : ty Try.prog 32 = some ⟨2, 16, .struct [(0, 3), (1, 3)] (some [1, 1]), some (.agg [.int .i64 0, .int .i64 0])⟩ := by kernel_rfl
theorem ty35 : ty Try.prog 35 = some ⟨1, 24, .slice 130, some .nilsl⟩ := by kernel_rfl
theorem ty37 : ty Try.prog 37 = some ⟨1, 24, .struct [(0, 35)] none, some (.agg [.nilsl])⟩ := by kernel_rfl
theorem ty40 : ty Try.prog 40 = some ⟨1, 24, .slice 90, some .nilsl⟩ := by kernel_rfl
theorem ty42 : ty Try.prog 42 = some ⟨1, 24, .struct [(0, 40)] none, some (.agg [.nilsl])⟩ := by kernel_rfl
theorem ty46 : ty Try.prog 46 = some ⟨1, 24, .slice 23, some .nilsl⟩ := by kernel_rfl
theorem ty48 : ty Try.prog 48 = some ⟨1, 24, .slice 26, some .nilsl⟩ := by kernel_rfl
theorem ty54 : ty Try.prog 54 = some ⟨1, 24, .slice 134, some .nilsl⟩ := by kernel_rfl
theorem ty55 : ty Try.prog 55 = some ⟨1, 24, .slice 3, some .nilsl⟩ := by kernel_rfl
theorem ty57 : ty Try.prog 57 = some ⟨2, 48, .struct [(0, 54), (1, 55)] none, some (.agg [.nilsl, .nilsl])⟩ := by kernel_rfl
theorem ty60 : ty Try.prog 60 = some ⟨1, 24, .slice 100, some .nilsl⟩ := by kernel_rfl
theorem ty62 : ty Try.prog 62 = some ⟨2, 48, .struct [(0, 60), (1, 55)] none, some (.agg [.nilsl, .nilsl])⟩ := by kernel_rfl
theorem ty72 : ty Try.prog 72 = some ⟨9, 96, .struct [(0, 3), (1, 23)] none, some (.agg [.int .i64 0, .int .i64 0, .int .i64 0, .bool false, .str ⟨#[]⟩, .str ⟨#[]⟩, .str ⟨#[]⟩, .int .i64 0, .int .i64 0])⟩ := by kernel_rfl
theorem ty76 : ty Try.prog 76 = some ⟨9, 96, .struct [(0, 3), (1, 26)] none, some (.agg [.int .i64 0, .int .i64 0, .int .i64 0, .bool false, .str ⟨#[]⟩, .str ⟨#[]⟩, .str ⟨#[]⟩, .int .i64 0, .int .i64 0])⟩ := by kernel_rfl
theorem ty84 : ty Try.prog 84 = some ⟨1, 24, .slice 9, some .nilsl⟩ := by kernel_rfl
theorem ty90 : ty Try.prog 90 = some ⟨3, 32, .struct [(0, 3), (1, 3), (2, 9)] (some [1, 1, 2]), some (.agg [.int .i64 0, .int .i64 0, .str ⟨#[]⟩])⟩ := by kernel_rfl
theorem ty100 : ty Try.prog 100 = some ⟨4, 64, .struct [(0, 3), (1, 9), (2, 9), (3, 55)] none, some (.agg [.int .i64 0, .str ⟨#[]⟩, .str ⟨#[]⟩, .nilsl])⟩ := by kernel_rfl
theorem ty104 : ty Try.prog 104 = some ⟨5, 88, .struct [(0, 62), (2, 55), (3, 3), (4, 4)] none, some (.agg [.nilsl, .nilsl, .nilsl, .int .i64 0, .bool false])⟩ := by kernel_rfl
theorem ty111 : ty Try.prog 111 = some ⟨1, 24, .slice 4, some .nilsl⟩ := by kernel_rfl
theorem ty113 : ty Try.prog 113 = some ⟨5, 104, .struct [(0, 62), (2, 3), (3, 55), (4, 111)] none, some (.agg [.nilsl, .nilsl, .int .i64 0, .nilsl, .nilsl])⟩ := by kernel_rfl
theorem ty126 : ty Try.prog 126 = some ⟨5, 120, .struct [(0, 62), (2, 55), (3, 111), (4, 48)] none, some (.agg [.nilsl, .nilsl, .nilsl, .nilsl, .nilsl])⟩ := by kernel_rfl
theorem ty128 : ty Try.prog 128 = some ⟨1, 24, .slice 5, some .nilsl⟩ := by kernel_rfl
theorem ty130 : ty Try.prog 130 = some ⟨3, 32, .struct [(0, 3), (1, 3), (2, 9)] (some [1, 1, 2]), some (.agg [.int .i64 0, .int .i64 0, .str ⟨#[]⟩])⟩ := by kernel_rfl
theorem ty134 : ty Try.prog 134 = some ⟨4, 64, .struct [(0, 3), (1, 9), (2, 9), (3, 55)] none, some (.agg [.int .i64 0, .str ⟨#[]⟩, .str ⟨#[]⟩, .nilsl])⟩ := by kernel_rfl
theorem ty147 : ty Try.prog 147 = some ⟨1, 4, .int .u32, some (.int .u32 0)⟩ := by kernel_rfl
def keeps : List (Nat × List Nat) := [(2, []), (3, [0, 1, 2, 3, 4, 5, 10, 19]), (4, [0, 1, 2, 3, 4, 13]), (5, [0, 1, 2, 3, 4, 5, 6, 11, 21, 26]), (6, [0, 2, 3, 4, 5, 6, 7, 8, 9, 10, 15, 26, 31, 42, 50, 53, 60, 65, 68]), (7, [0, 1, 2, 3, 4, 5, 6, 11, 21, 26]), (8, [0, 2, 3, 4, 5, 6, 9, 28]), (9, [0, 1, 2, 3, 4, 5, 6, 7, 8, 9, 14, 19, 34, 39, 44]), (10, [0, 1, 2, 3, 4, 5, 10, 19]), (11, [0, 1, 2, 3, 4, 5, 6, 7, 8, 9, 10, 15, 26, 31, 42, 50, 53, 60, 65, 68]), (12, [0, 1, 2, 3, 4, 5, 6, 7, 8, 9, 10, 15, 26, 31, 42, 50, 53, 60, 65, 68]), (13, [0, 1, 2, 4, 11, 18, 25]), (14, [0, 1, 2, 3, 6, 13]), (15, [0, 1, 2, 3]), (16, [0, 1, 2, 3, 6, 13]), (17, [0, 1, 2, 3, 11, 20, 23, 28]), (18, [0, 1, 2, 3]), (19, [0, 1, 2, 3, 5, 19]), (20, [0, 1, 2, 4, 10]), (21, [0, 1, 2, 4, 6, 7, 8, 9, 14]), (22, [0, 1, 2, 3]), (23, [0, 1, 2]), (24, [0, 1, 2, 3, 4, 10]), (25, [0, 1, 4, 5, 11, 15, 25]), (26, [0, 2, 3, 4, 5, 9, 10, 11, 12, 17, 18, 24, 30, 36]), (27, [0, 2, 3, 4, 11]), (28, [0, 2, 3, 4, 5, 9, 10, 11, 16, 25, 34, 43]), (29, [0, 1, 4, 5, 10, 14, 26]), (30, [0, 1, 4, 5, 9]), (31, [0, 1, 4, 5, 9, 18, 27, 38, 48, 58, 68, 77, 86]), (32, [0, 1, 2, 4, 10, 16]), (33, [0, 1, 2, 4, 5, 7, 8, 12, 14, 15, 16, 17, 25, 35, 36, 37, 38, 49, 57, 58, 59, 68]), (34, [0, 1, 2, 3]), (35, [0, 1, 2, 3, 4, 5, 6, 17, 26, 27, 28, 29, 52]), (36, [0, 1, 2, 3, 4, 10, 16]), (37, [0, 2, 3, 4, 5, 6, 7, 8, 9, 10, 26, 44]), (38, [0, 2, 3, 5, 7, 9, 10, 23, 29, 39]), (39, [0, 1, 2, 3, 4, 9, 14]), (40, [0, 1, 2, 3, 4, 5, 6, 7, 32, 35, 36, 37, 75]), (41, [0, 1, 2, 3, 4, 5]), (42, [0, 1, 2, 4, 10]), (43, [0, 1, 2, 4, 5, 10]), (44, [0, 1, 2, 3]), (45, [0, 1, 2, 4, 5, 10]), (46, [0, 1, 2, 3, 4, 6, 8, 10, 11, 15, 22, 23, 24, 25, 36, 37, 38, 39, 43, 44, 45, 46, 58, 59, 60, 66]), (47, [0, 1, 2, 3, 4, 5, 9, 12, 13, 14, 15, 20]), (48, [0, 1, 4, 5, 10, 14, 25]), (49, [0, 1, 2, 4]), (50, [0, 1, 4, 5, 9]), (51, [0, 1, 4, 5, 9, 17]), (52, [0, 1, 2, 3, 5, 6, 7, 9, 12, 18, 19, 20, 21, 35, 36, 37, 38]), (53, [0, 1, 2, 3, 5, 8, 21, 22, 23, 24]), (54, [0]), (55, [0, 2, 8, 10]), (56, [0, 1, 2, 6]), (57, [0, 2, 5]), (58, [0, 1, 4, 5, 11, 15, 25]), (59, [0, 1, 2, 3]), (60, [0, 2, 3, 4, 11]), (61, [0, 2, 4, 5, 6, 7, 8, 13]), (62, [0, 1, 4, 5, 10, 14, 26]), (63, [0, 1, 2]), (64, [0, 1, 2, 3, 4, 9, 14, 19, 24, 29, 34, 39, 44]), (65, [0, 2, 3, 5, 7]), (66, [0, 1, 4, 5, 11, 15, 25]), (67, [0, 1, 4, 10]), (68, [0, 1, 2, 4, 6, 53, 55, 56, 57, 58, 67]), (69, [0, 1, 5, 47, 58, 80, 81, 82, 83]), (70, [0, 2, 3, 4, 11]), (71, [0, 2, 3, 4, 11]), (72, [0, 1, 4]), (73, [0, 1, 2, 3]), (74, [0, 1, 2, 3, 4, 24, 45]), (75, [0, 1, 2, 6, 8, 14, 39, 68, 69, 70, 71, 78]), (76, [0, 1, 4, 5, 10, 14, 26]), (77, [0, 2, 3, 4, 5, 13, 17, 29, 41]), (78, [0, 1, 4, 5, 6]), (79, [0, 2, 3, 4, 5, 9, 11, 12, 13, 24, 37]), (80, [0, 1, 4, 5, 10, 12, 13, 14, 24]), (81, [0, 1, 2, 6, 7, 8, 9, 14, 15, 16, 17, 18, 30]), (82, [0, 1, 2, 3, 4]), (83, [0, 1, 4, 5, 10, 12, 13, 14, 24]), (84, [0, 1, 2, 3, 6, 11, 12, 14, 17, 18, 20, 27, 29, 36, 53, 58, 60, 63, 64]), (85, [0, 2]), (86, [0, 1, 2, 3, 4, 7, 9, 10, 12, 15, 16, 21, 24, 31, 48, 53, 55, 58, 59]), (87, [0, 2]), (88, [0, 1, 2, 3, 5, 7, 9, 15, 16, 17, 18, 29, 30, 31, 32, 36, 37, 38, 39]), (89, [0, 1, 4, 5, 9]), (90, [0, 1, 2, 3, 4, 5, 10, 11, 12, 14, 18, 25, 41, 63, 64, 65, 66]), (91, [0, 1, 4, 5, 6, 8, 18, 56, 61, 87, 88, 89, 90]), (92, [0, 2, 3, 9]), (93, [0, 1, 2, 4, 11]), (94, [0, 1, 2, 3]), (95, [0, 1, 2, 4, 5, 16, 21]), (96, [0, 1, 2, 3, 4, 9, 14, 19]), (97, [0, 1, 2, 4, 11, 18, 24]), (98, [0, 1, 2, 3]), (99, [0, 1, 4, 5, 7, 8, 9, 16]), (100, [0, 1, 4]), (101, [0, 1, 3]), (102, [0, 1, 2, 3, 4, 9, 14, 19, 25]), (103, [0, 1, 4, 5, 6, 7, 12]), (104, [0, 1, 2, 3, 4, 5, 19, 22, 42, 83, 86, 125]), (105, [0, 1, 2, 3, 6, 12]), (106, [0, 2, 3, 4, 5, 6, 7, 8, 13, 20, 21, 22, 23, 29, 37]), (107, [0, 1, 2, 3, 8, 9, 13, 19, 34, 35, 52, 53, 66, 67, 83]), (108, [0, 1, 2, 3, 6, 12]), (109, [0, 2, 3, 4, 7, 8, 9, 13, 20, 25, 30, 35, 40, 45]), (110, [0, 1, 4, 5, 7, 8, 9, 16]), (111, [0, 1, 4, 5, 6, 7, 8, 9, 10, 11, 12, 13, 16, 24, 31, 36, 59, 64, 73, 93, 107, 114, 132, 139]), (112, [0, 2, 3, 7, 18]), (113, [0, 2, 3, 4, 7, 9, 10, 11, 26]), (114, [0, 1, 4]), (116, [0, 2]), (117, [0, 1, 4, 5, 6, 7, 8, 9, 10, 20, 39, 44, 77]), (118, [0, 1, 4]), (119, [0, 2]), (120, [0, 2]), (121, [0, 2]), (122, [0, 2]), (124, [0, 2, 3, 4, 5, 6, 7, 8, 12, 25, 30]), (125, [0, 1, 4]), (126, [0, 1, 4])]
def modes : List (Nat × Mode) := [(22, .fresh), (26, .fresh), (27, .fresh), (28, .fresh), (30, .any), (34, .fresh), (46, .fresh), (47, .fresh), (49, .any), (50, .any), (52, .fresh), (53, .fresh), (54, .fresh), (60, .fresh), (69, .any), (70, .fresh), (71, .fresh), (75, .any), (88, .fresh), (89, .any), (90, .any), (91, .any), (98, .fresh)]
def oks : List Nat := [2, 3, 4, 5, 6, 7, 8, 9, 10, 11, 12, 13, 14, 15, 16, 17, 18, 19, 20, 21, 22, 23, 24, 25, 26, 27, 28, 29, 30, 31, 32, 33, 34, 35, 36, 37, 38, 39, 40, 41, 42, 43, 44, 45, 46, 47, 48, 49, 50, 51, 52, 53, 54, 55, 56, 57, 58, 59, 60, 61, 62, 63, 64, 65, 66, 67, 68, 69, 70, 71, 72, 73, 74, 75, 76, 77, 78, 79, 80, 81, 82, 83, 84, 85, 86, 87, 88, 89, 90, 91, 92, 93, 94, 95, 96, 97, 98, 99, 100, 101, 102, 103, 104, 105, 106, 107, 108, 109, 110, 111, 112, 113, 114, 116, 117, 118, 119, 120, 121, 122, 124, 125, 126]
def findA {α : Type} (d : α) : List (Nat × α) → Nat → α
  | [], _ => d
  | (i, x) :: l, k => if i = k then x else findA d l k
def cfg : Cfg := { keep := findA [] keeps, mode := findA .pure modes, glob := fun _ => none }
def ok (k : FuncId) : Bool := oks.contains k
theorem oks_ok : oks.all (fun k => okF Try.prog cfg k) = true := by kernel_rfl
theorem ok_ok : ∀ K, ok K = true → okF Try.prog cfg K = true := by
  intro K h
  exact List.all_eq_true.1 oks_ok K (by simpa [ok] using h)
theorem glo : GloL cfg.glob := by
  intro g cs h
  cases h
theorem mixed : Try.prog.follows .mixedOrders = true := by kernel_rfl
theorem calls_ok : CallOk Try.prog cfg.glob (Run Try.prog cfg ok) := Run_ok mixed ok_ok glo
noncomputable abbrev run := Run Try.prog cfg ok
theorem own : ownKnob Try.prog.godebug = none := by kernel_rfl
theorem laidOut : laidOutB Try.prog = true := by kernel_rfl
end Go.Proofs.Ytbjpecknlohicaa.Lg
