/- The facts of this program that the logical machine takes: sizes and zero values of types, what is kept of each frame, how each function stands to memory, and that the code keeps the rule. No condition. -/
import Derived.Test.YtbjpecknlohicaaDoorLg35
import Derived.Test.YtbjpecknlohicaaDoorChecked
namespace Go.Proofs.YtbjpecknlohicaaDoor.Lg
set_option linter.unusedSimpArgs false
set_option linter.unusedVariables false
open Go.Proofs.YtbjpecknlohicaaDoor
theorem ty3 : ty Tryd.prog 3 = some ⟨1, 8, .int .i64, some (.int .i64 0)⟩ := by kernel_rfl
theorem ty4 : ty Tryd.prog 4 = some ⟨1, 1, .bool, some (.bool false)⟩ := by kernel_rfl
theorem ty5 : ty Tryd.prog 5 = some ⟨1, 1, .int .u8, some (.int .u8 0)⟩ := by kernel_rfl
theorem ty9 : ty Tryd.prog 9 = some ⟨1, 16, .str, some (.str ⟨#[]⟩)⟩ := by kernel_rfl
theorem ty21 : ty Tryd.prog 21 = some ⟨1, 4, .int .i32, some (.int .i32 0)⟩ := by kernel_rfl
theorem ty24 : ty Tryd.prog 24 = some ⟨1, 24, .slice 36, some .nilsl⟩ := by kernel_rfl
theorem ty29 : ty Tryd.prog 29 = some ⟨1, 24, .slice 5, some .nilsl⟩ := by kernel_rfl
theorem ty36 : ty Tryd.prog 36 = some ⟨2, 16, .struct [(0, 3), (1, 3)] (some [1, 1]), some (.agg [.int .i64 0, .int .i64 0])⟩ := by kernel_rfl
theorem ty39 : ty Tryd.prog 39 = some ⟨1, 24, .slice 9, some .nilsl⟩ := by kernel_rfl
theorem ty42 : ty Tryd.prog 42 = some ⟨1, 24, .slice 3, some .nilsl⟩ := by kernel_rfl
theorem ty55 : ty Tryd.prog 55 = some ⟨256, 256, .array 256 5, some (.agg [.int .u8 0, .int .u8 0, .int .u8 0, .int .u8 0, .int .u8 0, .int .u8 0, .int .u8 0, .int .u8 0, .int .u8 0, .int .u8 0, .int .u8 0, .int .u8 0, .int .u8 0, .int .u8 0, .int .u8 0, .int .u8 0, .int .u8 0, .int .u8 0, .int .u8 0, .int .u8 0, .int .u8 0, .int .u8 0, .int .u8 0, .int .u8 0, .int .u8 0, .int .u8 0, .int .u8 0, .int .u8 0, .int .u8 0, .int .u8 0, .int .u8 0, .int .u8 0, .int .u8 0, .int .u8 0, .int .u8 0, .int .u8 0, .int .u8 0, .int .u8 0, .int .u8 0, .int .u8 0, .int .u8 0, .int .u8 0, .int .u8 0, .int .u8 0, .int .u8 0, .int .u8 0, .int .u8 0, .int .u8 0, .int .u8 0, .int .u8 0, .int .u8 0, .int .u8 0, .int .u8 0, .int .u8 0, .int .u8 0, .int .u8 0, .int .u8 0, .int .u8 0, .int .u8 0, .int .u8 0, .int .u8 0, .int .u8 0, .int .u8 0, .int .u8 0, .int .u8 0, .int .u8 0, .int .u8 0, .int .u8 0, .int .u8 0, .int .u8 0, .int .u8 0, .int .u8 0, .int .u8 0, .int .u8 0, .int .u8 0, .int .u8 0, .int .u8 0, .int .u8 0, .int .u8 0, .int .u8 0, .int .u8 0, .int .u8 0, .int .u8 0, .int .u8 0, .int .u8 0, .int .u8 0, .int .u8 0, .int .u8 0, .int .u8 0, .int .u8 0, .int .u8 0, .int .u8 0, .int .u8 0, .int .u8 0, .int .u8 0, .int .u8 0, .int .u8 0, .int .u8 0, .int .u8 0, .int .u8 0, .int .u8 0, .int .u8 0, .int .u8 0, .int .u8 0, .int .u8 0, .int .u8 0, .int .u8 0, .int .u8 0, .int .u8 0, .int .u8 0, .int .u8 0, .int .u8 0, .int .u8 0, .int .u8 0, .int .u8 0, .int .u8 0, .int .u8 0, .int .u8 0, .int .u8 0, .int .u8 0, .int .u8 0, .int .u8 0, .int .u8 0, .int .u8 0, .int .u8 0, .int .u8 0, .int .u8 0, .int .u8 0, .int .u8 0, .int .u8 0, .int .u8 0, .int .u8 0, .int .u8 0, .int .u8 0, .int .u8 0, .int .u8 0, .int .u8 0, .int .u8 0, .int .u8 0, .int .u8 0, .int .u8 0, .int .u8 0, .int .u8 0, .int .u8 0, .int .u8 0, .int .u8 0, .int .u8 0, .int .u8 0, .int .u8 0, .int .u8 0, .int .u8 0, .int .u8 0, .int .u8 0, .int .u8 0, .int .u8 0, .int .u8 0, .int .u8 0, .int .u8 0, .int .u8 0, .int .u8 0, .int .u8 0, .int .u8 0, .int .u8 0, .int .u8 0, .int .u8 0, .int .u8 0, .int .u8 0, .int .u8 0, .int .u8 0, .int .u8 0, .int .u8 0, .int .u8 0, .int .u8 0, .int .u8 0, .int .u8 0, .int .u8 0, .int .u8 0, .int .u8 0, .int .u8 0, .int .u8 0, .int .u8 0, .int .u8 0, .int .u8 0, .int .u8 0, .int .u8 0, .int .u8 0, .int .u8 0, .int .u8 0, .int .u8 0, .int .u8 0, .int .u8 0, .int .u8 0, .int .u8 0, .int .u8 0, .int .u8 0, .int .u8 0, .int .u8 0, .int .u8 0, .int .u8 0, .int .u8 0, .int .u8 0, .int .u8 0, .int .u8 0, .int .u8 0, .int .u8 0, .int .u8 0, .int .u8 0, .int .u8 0, .int .u8 0, .int .u8 0, .int .u8 0, .int .u8 0, .int .u8 0, .int .u8 0, .int .u8 0, .int .u8 0, .int .u8 0, .int .u8 0, .int .u8 0, .int .u8 0, .int .u8 0, .int .u8 0, .int .u8 0, .int .u8 0, .int .u8 0, .int .u8 0, .int .u8 0, .int .u8 0, .int .u8 0, .int .u8 0, .int .u8 0, .int .u8 0, .int .u8 0, .int .u8 0, .int .u8 0, .int .u8 0, .int .u8 0, .int .u8 0, .int .u8 0, .int .u8 0, .int .u8 0, .int .u8 0, .int .u8 0, .int .u8 0, .int .u8 0, .int .u8 0, .int .u8 0, .int .u8 0, .int .u8 0, .int .u8 0, .int .u8 0, .int .u8 0, .int .u8 0, .int .u8 0, .int .u8 0, .int .u8 0])⟩ := by kernel_rfl
theorem ty58 : ty Tryd.prog 58 = some ⟨2, 2, .struct [(0, 5), (1, 5)] (some [1, 1]), some (.agg [.int .u8 0, .int .u8 0])⟩ := by kernel_rfl
theorem ty59 : ty Tryd.prog 59 = some ⟨32, 32, .array 16 58, some (.agg [.int .u8 0, .int .u8 0, .int .u8 0, .int .u8 0, .int .u8 0, .int .u8 0, .int .u8 0, .int .u8 0, .int .u8 0, .int .u8 0, .int .u8 0, .int .u8 0, .int .u8 0, .int .u8 0, .int .u8 0, .int .u8 0, .int .u8 0, .int .u8 0, .int .u8 0, .int .u8 0, .int .u8 0, .int .u8 0, .int .u8 0, .int .u8 0, .int .u8 0, .int .u8 0, .int .u8 0, .int .u8 0, .int .u8 0, .int .u8 0, .int .u8 0, .int .u8 0])⟩ := by kernel_rfl
theorem ty63 : ty Tryd.prog 63 = some ⟨1, 4, .int .u32, some (.int .u32 0)⟩ := by kernel_rfl
def keeps : List (Nat × List Nat) := [(2, []), (3, [0, 2, 3, 4, 7, 14]), (4, [0, 2, 3, 4, 5, 6, 7, 8, 9, 10, 13, 32, 40, 43, 57, 62, 65]), (5, [0, 2, 3, 4, 5, 6, 11, 19, 25, 37, 49, 57]), (6, [0, 2, 3, 4, 5, 6, 11, 23, 26, 38, 46, 54]), (7, [0, 2, 3, 4, 5, 6, 7, 8, 9, 12, 17, 29, 36]), (8, [0, 2, 3, 4, 5, 6, 7, 8, 11, 14, 15, 16, 17, 22, 29]), (9, [0, 1, 4, 5, 10, 14, 26]), (10, [0, 1, 4, 5, 9]), (11, [0, 1, 4, 5, 9, 18, 27]), (12, [0, 1, 4, 5, 6, 7, 8, 9, 22, 36, 64]), (13, [0, 1, 4, 6]), (14, [0, 1, 4, 5, 6, 7, 26]), (15, [0, 1, 2, 6]), (16, [0, 1, 4, 5, 6, 12]), (17, [0, 1, 4, 17]), (18, [0, 2, 3, 4, 5, 6, 7, 8, 9, 10, 26, 44]), (19, [0, 1, 4]), (20, [0, 2, 3, 5, 7, 9, 10, 23, 29, 39]), (21, [0, 1, 2, 3, 4, 9, 14]), (22, [0, 1, 4, 6, 10]), (23, [0, 2, 3, 18, 25, 38]), (24, [0, 2, 3, 10]), (25, [0, 1, 4]), (26, [0]), (27, [0, 2, 3, 4, 5, 13, 17, 29, 41]), (28, [0, 1, 2, 3, 11, 20, 23, 28]), (29, [0, 1, 2, 3, 8, 9, 10, 11, 13, 15, 20, 36, 41]), (30, [0, 1, 4, 5, 6]), (31, [0, 2, 3, 4, 5, 9, 11, 12, 13, 24, 37]), (32, [0, 1, 2, 3, 5, 19]), (33, [0, 2, 3, 4, 5, 6, 7, 8, 9, 10, 11, 12, 16, 23, 45, 57, 59, 75, 77, 98]), (34, [0, 2, 8, 10]), (35, [0, 1, 4, 5, 6, 7, 9, 18, 25, 43]), (36, [0, 1, 4, 5, 6, 9, 15, 24]), (37, [0, 1, 4]), (38, [0, 1, 4, 5, 6, 7, 12]), (39, [0, 2, 5]), (40, [0, 2, 4, 6]), (42, [0, 1, 4, 5, 6, 7, 8, 9, 10, 11, 12, 13, 16, 24, 31, 36, 59, 64, 73, 93, 107, 114, 132, 139]), (43, [0, 2, 3, 9]), (44, [0, 1, 4]), (46, [0, 2]), (47, [0, 1, 4, 5, 6, 7, 8, 9, 10, 20, 39, 44, 77]), (49, [0, 2, 3, 4, 5, 6, 7, 8, 12, 25, 30]), (70, [])]
def modes : List (Nat × Mode) := [(7, .fresh), (8, .fresh), (10, .any), (19, .fresh), (26, .fresh), (29, .fresh), (35, .fresh)]
def oks : List Nat := [2, 3, 4, 5, 6, 7, 8, 9, 10, 11, 12, 13, 14, 15, 16, 17, 18, 19, 20, 21, 22, 23, 24, 25, 26, 27, 28, 29, 30, 31, 32, 33, 34, 35, 36, 37, 38, 39, 40, 42, 43, 44, 46, 47, 49, 70]
def firstL : List Int := [240, 240, 240, 240, 240, 240, 240, 240, 240, 240, 240, 240, 240, 240, 240, 240, 240, 240, 240, 240, 240, 240, 240, 240, 240, 240, 240, 240, 240, 240, 240, 240, 240, 240, 240, 240, 240, 240, 240, 240, 240, 240, 240, 240, 240, 240, 240, 240, 240, 240, 240, 240, 240, 240, 240, 240, 240, 240, 240, 240, 240, 240, 240, 240, 240, 240, 240, 240, 240, 240, 240, 240, 240, 240, 240, 240, 240, 240, 240, 240, 240, 240, 240, 240, 240, 240, 240, 240, 240, 240, 240, 240, 240, 240, 240, 240, 240, 240, 240, 240, 240, 240, 240, 240, 240, 240, 240, 240, 240, 240, 240, 240, 240, 240, 240, 240, 240, 240, 240, 240, 240, 240, 240, 240, 240, 240, 240, 240, 241, 241, 241, 241, 241, 241, 241, 241, 241, 241, 241, 241, 241, 241, 241, 241, 241, 241, 241, 241, 241, 241, 241, 241, 241, 241, 241, 241, 241, 241, 241, 241, 241, 241, 241, 241, 241, 241, 241, 241, 241, 241, 241, 241, 241, 241, 241, 241, 241, 241, 241, 241, 241, 241, 241, 241, 241, 241, 241, 241, 241, 241, 241, 241, 241, 241, 2, 2, 2, 2, 2, 2, 2, 2, 2, 2, 2, 2, 2, 2, 2, 2, 2, 2, 2, 2, 2, 2, 2, 2, 2, 2, 2, 2, 2, 2, 19, 3, 3, 3, 3, 3, 3, 3, 3, 3, 3, 3, 3, 35, 3, 3, 52, 4, 4, 4, 68, 241, 241, 241, 241, 241, 241, 241, 241, 241, 241, 241]
def accL : List (Int × Int) := [(128, 191), (160, 191), (128, 159), (144, 191), (128, 143), (0, 0), (0, 0), (0, 0), (0, 0), (0, 0), (0, 0), (0, 0), (0, 0), (0, 0), (0, 0), (0, 0)]
def findA {α : Type} (d : α) : List (Nat × α) → Nat → α
  | [], _ => d
  | (i, x) :: l, k => if i = k then x else findA d l k
def cfg : Cfg := { keep := findA [] keeps, mode := findA .pure modes, glob := fun g => if g = 0 then some (u8s firstL) else if g = 1 then some (u8s (flat2 accL)) else none }
def ok (k : FuncId) : Bool := oks.contains k
theorem oks_ok : oks.all (fun k => okF Tryd.prog cfg k) = true := by kernel_rfl
theorem ok_ok : ∀ K, ok K = true → okF Tryd.prog cfg K = true := by
  intro K h
  exact List.all_eq_true.1 oks_ok K (by simpa [ok] using h)
theorem glo : GloL cfg.glob := by
  intro g cs h
  have h : (if g = 0 then some (u8s firstL) else if g = 1 then some (u8s (flat2 accL)) else none) = some cs := h
  split at h
  · injection h with h; subst h; exact u8s_lt _
  · split at h
    · injection h with h; subst h; exact u8s_lt _
    · cases h
theorem globF : cfg.glob 0 = some (u8s firstL) := rfl
theorem globA : cfg.glob 1 = some (u8s (flat2 accL)) := rfl
theorem mixed : Tryd.prog.follows .mixedOrders = true := by kernel_rfl
theorem calls_ok : CallOk Tryd.prog cfg.glob (Run Tryd.prog cfg ok) := Run_ok mixed ok_ok glo
noncomputable abbrev run := Run Tryd.prog cfg ok
theorem own : ownKnob Tryd.prog.godebug = none := by kernel_rfl
theorem laidOut : laidOutB Tryd.prog = true := by kernel_rfl
end Go.Proofs.YtbjpecknlohicaaDoor.Lg
