/- The facts of this program that the logical machine takes: sizes and zero values of types, what is kept of each frame, how each function stands to memory, and that the code keeps the rule. No condition. -/
import Derived.Test.YtcbjmggbbnpbpaaLgE
import Derived.Test.YtcbjmggbbnpbpaaChecked
namespace Go.Proofs.Ytcbjmggbbnpbpaa.Lg
set_option linter.unusedSimpArgs false
set_option linter.unusedVariables false
open Go.Proofs.Ytcbjmggbbnpbpaa
theorem ty3 : ty Try.prog 3 = some ⟨1, 8, .int .i64, some (.int .i64 0)⟩ := by kernel_rfl
theorem ty4 : ty Try.prog 4 = some ⟨1, 1, .bool, some (.bool false)⟩ := by kernel_rfl
theorem ty5 : ty Try.prog 5 = some ⟨1, 1, .int .u8, some (.int .u8 0)⟩ := by kernel_rfl
theorem ty9 : ty Try.prog 9 = some ⟨1, 16, .str, some (.str ⟨#[]⟩)⟩ := by kernel_rfl
theorem ty22 : ty Try.prog 22 = some ⟨1, 24, .slice 42, some .nilsl⟩ := by kernel_rfl
theorem ty23 : ty Try.prog 23 = some ⟨1, 24, .slice 46, some .nilsl⟩ := by kernel_rfl
theorem ty26 : ty Try.prog 26 = some ⟨1, 24, .slice 74, some .nilsl⟩ := by kernel_rfl
theorem ty29 : ty Try.prog 29 = some ⟨1, 24, .slice 58, some .nilsl⟩ := by kernel_rfl
theorem ty31 : ty Try.prog 31 = some ⟨1, 24, .slice 49, some .nilsl⟩ := by kernel_rfl
theorem ty42 : ty Try.prog 42 = some ⟨8, 88, .struct [(0, 3), (1, 3), (2, 4), (3, 9), (4, 9), (5, 9), (6, 3), (7, 3)] (some [1, 1, 0, 2, 2, 2, 1, 1]), some (.agg [.int .i64 0, .int .i64 0, .bool false, .str ⟨#[]⟩, .str ⟨#[]⟩, .str ⟨#[]⟩, .int .i64 0, .int .i64 0])⟩ := by kernel_rfl
theorem ty44 : ty Try.prog 44 = some ⟨1, 24, .slice 100, some .nilsl⟩ := by kernel_rfl
theorem ty46 : ty Try.prog 46 = some ⟨1, 24, .struct [(0, 44)] none, some (.agg [.nilsl])⟩ := by kernel_rfl
theorem ty47 : ty Try.prog 47 = some ⟨1, 24, .slice 81, some .nilsl⟩ := by kernel_rfl
theorem ty49 : ty Try.prog 49 = some ⟨1, 24, .struct [(0, 47)] none, some (.agg [.nilsl])⟩ := by kernel_rfl
theorem ty54 : ty Try.prog 54 = some ⟨5, 88, .struct [(0, 29), (1, 31), (2, 26), (3, 3), (4, 3)] none, some (.agg [.nilsl, .nilsl, .nilsl, .int .i64 0, .int .i64 0])⟩ := by kernel_rfl
theorem ty55 : ty Try.prog 55 = some ⟨1, 24, .slice 3, some .nilsl⟩ := by kernel_rfl
theorem ty58 : ty Try.prog 58 = some ⟨8, 88, .struct [(0, 3), (1, 3), (2, 4), (3, 9), (4, 9), (5, 9), (6, 3), (7, 3)] (some [1, 1, 0, 2, 2, 2, 1, 1]), some (.agg [.int .i64 0, .int .i64 0, .bool false, .str ⟨#[]⟩, .str ⟨#[]⟩, .str ⟨#[]⟩, .int .i64 0, .int .i64 0])⟩ := by kernel_rfl
theorem ty64 : ty Try.prog 64 = some ⟨4, 96, .struct [(0, 29), (1, 55), (2, 55), (3, 55)] none, some (.agg [.nilsl, .nilsl, .nilsl, .nilsl])⟩ := by kernel_rfl
theorem ty67 : ty Try.prog 67 = some ⟨7, 152, .struct [(0, 64), (4, 31), (5, 26), (6, 3)] none, some (.agg [.nilsl, .nilsl, .nilsl, .nilsl, .nilsl, .nilsl, .int .i64 0])⟩ := by kernel_rfl
theorem ty72 : ty Try.prog 72 = some ⟨4, 40, .struct [(0, 3), (1, 3), (2, 4), (3, 9)] (some [1, 1, 0, 2]), some (.agg [.int .i64 0, .int .i64 0, .bool false, .str ⟨#[]⟩])⟩ := by kernel_rfl
theorem ty74 : ty Try.prog 74 = some ⟨6, 72, .struct [(0, 3), (1, 47), (2, 72)] none, some (.agg [.int .i64 0, .nilsl, .int .i64 0, .int .i64 0, .bool false, .str ⟨#[]⟩])⟩ := by kernel_rfl
theorem ty81 : ty Try.prog 81 = some ⟨3, 32, .struct [(0, 3), (1, 3), (2, 9)] (some [1, 1, 2]), some (.agg [.int .i64 0, .int .i64 0, .str ⟨#[]⟩])⟩ := by kernel_rfl
theorem ty98 : ty Try.prog 98 = some ⟨1, 24, .slice 5, some .nilsl⟩ := by kernel_rfl
theorem ty100 : ty Try.prog 100 = some ⟨3, 32, .struct [(0, 3), (1, 3), (2, 9)] (some [1, 1, 2]), some (.agg [.int .i64 0, .int .i64 0, .str ⟨#[]⟩])⟩ := by kernel_rfl
theorem ty102 : ty Try.prog 102 = some ⟨1, 24, .slice 9, some .nilsl⟩ := by kernel_rfl
theorem ty106 : ty Try.prog 106 = some ⟨3, 56, .struct [(0, 3), (1, 55), (2, 55)] none, some (.agg [.int .i64 0, .nilsl, .nilsl])⟩ := by kernel_rfl
theorem ty107 : ty Try.prog 107 = some ⟨1, 24, .slice 4, some .nilsl⟩ := by kernel_rfl
theorem ty116 : ty Try.prog 116 = some ⟨1, 8, .map 9 3, some .nilmap⟩ := by kernel_rfl
def keeps : List (Nat × List Nat) := [(3, [0, 1, 4, 5, 6, 7, 8, 9, 10, 11, 12, 13, 14, 15, 16, 21, 26, 53, 58, 63, 82, 90, 93, 110, 115, 118]), (4, [0, 1, 4, 5, 11, 15, 25]), (5, [0, 1, 4, 5, 11, 15, 25]), (6, [0, 1, 4, 5, 7, 8, 10, 11, 12, 13, 14, 19, 23, 29, 30, 31, 32, 42, 53]), (7, [0, 2, 3, 4, 11]), (8, [0, 2, 3, 4, 11]), (9, [0, 1, 4, 5, 6, 7, 8, 15, 25, 26, 27, 28, 36, 39]), (10, [0, 1, 4, 5, 10, 14, 26]), (11, [0, 1, 4, 5, 10, 14, 26]), (12, [0, 1, 4, 5, 10, 14, 26]), (13, [0, 1, 4, 5, 9]), (14, [0, 1, 4, 5, 9]), (15, [0, 1, 4, 5, 9]), (16, [0, 1, 4, 5, 9, 18, 29, 37, 47, 59, 70]), (17, [0, 1, 2, 4, 11, 18, 25]), (18, [0, 1, 2, 4, 10]), (19, [0, 1, 2, 4, 6, 7, 8, 9, 14]), (20, [0, 2, 3, 4, 7, 8, 9, 10, 11, 23]), (21, [0, 2, 3, 4, 7, 8, 9, 32]), (22, [0, 1, 2, 7, 8, 9, 10, 19, 40, 44, 45, 46, 47, 53, 85, 86, 87, 88, 105, 116, 146]), (23, [0, 2]), (24, [0, 1, 2, 3]), (25, [0, 1, 2, 3]), (26, [0, 1, 4]), (27, [0, 1, 2]), (28, [0, 1, 2]), (29, [0, 2]), (30, [0, 2, 3, 4, 5, 6, 7, 8, 21, 22, 23, 24, 35, 47, 58, 65, 84]), (31, [0, 1, 2, 3, 4, 5, 8, 9, 10, 11, 26]), (32, [0, 1, 2, 3, 7, 8, 9, 10, 11, 12, 17, 30, 57, 64, 65, 66, 67, 82, 85, 111]), (33, [0, 2]), (34, [0, 1, 2, 3, 4, 9, 15, 21]), (35, [0, 1, 2, 3, 4, 9, 14, 19, 24, 29, 34, 39, 44]), (36, [0, 1, 2, 3, 4, 10]), (37, [0, 2, 3, 5, 7]), (38, [0, 1, 4, 5, 9]), (39, [0, 1, 4, 5, 9, 18, 27, 37]), (40, [0, 1, 4, 5, 11, 15, 25]), (41, [0, 1, 2, 3]), (42, [0, 2, 3, 4, 5, 6, 7, 8, 9, 11, 12, 13, 14, 33, 36, 49, 54, 55, 62, 64, 69, 78, 84, 88, 108, 112, 121, 122]), (43, [0, 1, 4, 5, 6, 18, 46, 56]), (44, [0, 1, 2]), (45, [0, 1, 4, 6, 8, 9, 10, 11, 12, 17, 19, 20, 21, 22, 27]), (46, [0, 1, 2, 3, 4, 5, 8, 11, 12, 15, 18, 23, 29, 30, 34, 39, 45, 46, 47, 48, 63]), (47, [0, 1, 4, 5, 6, 7, 14, 28, 39]), (48, [0, 1, 4, 5, 11, 16, 23]), (49, [0, 2, 3, 4, 11]), (50, [0, 1, 4, 5, 7, 8, 9, 16]), (51, [0, 2, 4, 5, 6, 7, 8, 13]), (52, [0, 2, 3, 4, 5, 6, 23, 27, 28, 29, 30, 39, 43, 48, 60]), (53, [0, 1, 2, 3, 4, 5, 9, 10, 11, 12, 25]), (54, [0, 1, 2]), (55, [0, 1, 2]), (56, [0, 1, 2, 3]), (57, [0, 1, 4, 5, 7, 8, 9, 17, 24, 25, 26, 27, 35, 36, 37, 39, 61]), (58, [0, 2, 4]), (59, [0, 1, 2, 4, 5, 10]), (60, [0, 1, 2, 4, 5, 18, 27, 50, 65]), (61, [0, 1, 2, 4, 5, 6, 20, 36, 48]), (62, [0, 1, 2, 4, 5, 10, 24]), (63, [0, 1, 4]), (64, [0, 1, 2]), (65, [0, 1, 4, 5, 10, 14, 26]), (66, [0, 1, 2, 3, 4, 9, 14, 19, 24]), (67, [0, 1, 2, 4, 11]), (68, [0, 1, 2, 3, 4, 5, 19, 22, 42, 83, 86, 125]), (69, [0, 1, 4, 5, 6, 12, 17, 24, 32, 36]), (70, [0, 1, 4, 7, 15]), (71, [0, 2, 3, 4, 5, 7, 8, 9, 10, 29]), (72, [0, 2, 3, 4, 10, 15, 20, 25]), (73, [0, 1, 2]), (74, [0, 1, 2, 3]), (75, [0, 1, 2, 4, 5, 16, 21]), (76, [0, 1, 2, 3, 8, 9, 13, 19, 34, 35, 52, 53, 66, 67, 83]), (77, [0, 1, 3, 4, 5, 6, 7, 8, 16, 17, 28, 33, 59, 63]), (78, [0, 1, 2, 3, 4, 5, 6, 7, 8, 15, 16, 17, 18, 25, 30, 58, 63]), (79, [0, 1, 2, 3, 4, 7, 10, 12, 15, 18, 23, 26, 27, 31, 38, 44, 46, 48, 60]), (80, [0, 1, 2, 4]), (81, [0, 1, 4, 5, 7, 8, 9, 16]), (82, [0, 1, 2, 3, 4, 9, 14, 19]), (83, [0, 2, 3, 7, 18]), (84, [0, 2, 3, 4, 7, 19, 31, 54, 58]), (85, [0, 1, 4, 6, 7, 8, 9, 10, 15]), (86, [0, 1, 2, 6]), (87, [0, 2, 3, 4, 7, 9, 10, 11, 26]), (88, [0, 2, 3, 4, 11]), (89, [0, 2, 3, 32]), (90, [0, 2, 3, 4, 5, 6, 13, 18, 28]), (91, [0, 1, 4]), (92, [0, 2]), (93, [0, 1, 4, 5, 6, 7, 8, 12, 18, 28, 39, 52, 59, 61]), (94, [0, 2]), (95, [0, 2]), (96, [0, 2]), (97, [0, 2, 3, 4, 5, 6, 7, 25, 28, 46, 49]), (98, [0, 1, 4]), (99, [0, 1, 4]), (100, [0, 1, 4, 5, 6, 7, 8, 9, 11, 12, 13, 27, 34]), (101, [0, 1, 2, 6, 7, 8, 9, 10, 11, 12, 13, 20, 28, 37]), (102, [0, 1, 4, 11]), (103, [0, 1, 4])]
def modes : List (Nat × Mode) := [(6, .fresh), (7, .fresh), (8, .fresh), (9, .fresh), (13, .any), (14, .any), (15, .any), (21, .fresh), (22, .any), (25, .fresh), (30, .fresh), (31, .fresh), (32, .any), (38, .any), (47, .fresh), (49, .fresh), (58, .fresh), (61, .fresh), (71, .fresh), (77, .any), (78, .fresh), (88, .any), (89, .any)]
def oks : List Nat := [3, 4, 5, 6, 7, 8, 9, 10, 11, 12, 13, 14, 15, 16, 17, 18, 19, 20, 21, 22, 23, 24, 25, 26, 27, 28, 29, 30, 31, 32, 33, 34, 35, 36, 37, 38, 39, 40, 41, 42, 43, 44, 45, 46, 47, 48, 49, 50, 51, 52, 53, 54, 55, 56, 57, 58, 59, 60, 61, 62, 63, 64, 65, 66, 67, 68, 69, 70, 71, 72, 73, 74, 75, 76, 77, 78, 79, 80, 81, 82, 83, 84, 85, 86, 87, 88, 89, 90, 91, 92, 93, 94, 95, 96, 97, 98, 99, 100, 101, 102, 103]
def ords : List (Nat × List (Nat × List Nat × List (Nat × Nat))) := [(22, [(8, [0, 1, 2, 3, 4, 5, 6, 7, 8, 9, 10, 12, 13, 14, 15, 16, 17, 18, 11, 19, 20, 21, 22, 23, 24, 25], [(11, 4), (11, 8), (11, 15), (11, 18)]), (17, [0, 1, 2, 3, 5, 6, 4, 7, 8], [(4, 5)])]), (77, [(13, [0, 1, 2, 3, 4, 5, 6, 7, 8, 10, 11, 12, 13, 14, 9, 15, 16, 17, 18, 19, 20, 21], [(9, 13)])])]
def libs : List (Nat × Option LibK) := []
def findA {α : Type} (d : α) : List (Nat × α) → Nat → α
  | [], _ => d
  | (i, x) :: l, k => if i = k then x else findA d l k
def cfg : Cfg := { keep := findA [] keeps, mode := findA .pure modes, glob := fun _ => none, ord := findA [] ords, lib := findA none libs }
def ok (k : FuncId) : Bool := oks.contains k
theorem oks_ok : oks.all (fun k => okF Try.prog cfg k) = true := by kernel_rfl
theorem ok_ok : ∀ K, ok K = true → okF Try.prog cfg K = true := by
  intro K h
  exact List.all_eq_true.1 oks_ok K (by simpa [ok] using h)
theorem glo : GloL cfg.glob := by
  intro g cs h
  cases h
theorem mixed : Try.prog.follows .mixedOrders = true := by kernel_rfl
theorem findA_some {α : Type} {l : List (Nat × Option α)} {k : Nat} {x : α} (h : findA none l k = some x) : (k, some x) ∈ l := by
  induction l with
  | nil => cases h
  | cons a l ih =>
    obtain ⟨i, y⟩ := a
    unfold findA at h
    split at h
    · rename_i e; subst e; subst h; exact List.mem_cons_self
    · exact List.mem_cons_of_mem _ (ih h)
theorem libOk : LibOk Try.prog cfg := by
  exact LibOk_none (fun K => rfl)
theorem calls_ok : CallOk Try.prog cfg.glob (Run Try.prog cfg ok) := Run_ok libOk mixed ok_ok glo
noncomputable abbrev run := Run Try.prog cfg ok
theorem own : ownKnob Try.prog.godebug = none := by kernel_rfl
theorem laidOut : laidOutB Try.prog = true := by kernel_rfl
end Go.Proofs.Ytcbjmggbbnpbpaa.Lg
