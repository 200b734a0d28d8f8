/- A byte's place in a text, and a text cut at a byte, over the logical machine. No condition. -/
import Derived.Test.YtcbjmggbbnpbpaaDoorLc
import Derived.Test.YtcbjmggbbnpbpaaDoorLgE
namespace Go.Proofs.YtcbjmggbbnpbpaaDoor.Lg
set_option linter.unusedSimpArgs false
set_option linter.unusedVariables false
set_option maxRecDepth 100000
set_option maxHeartbeats 40000000
open Go.Proofs.YtcbjmggbbnpbpaaDoor

theorem run_idxS (s : ByteArray) (c : Int) (fl : Nat) (H : LH) : run 165 [.str s, .int .u8 c] fl H = some (.int .i64 (idxB s (UInt8.ofNat c.toNat)), H) := by
  unfold run
  rw [Run_ext Tryd.func165 rfl]
  unfold ext
  rw [if_pos ⟨rfl, rfl⟩]
  rfl
theorem run_idxByte (s : ByteArray) (c : Int) (fl : Nat) (H : LH) : run 155 [.str s, .int .u8 c] fl H = some (.int .i64 (idxB s (UInt8.ofNat c.toNat)), H) := by
  have e1 := fun c fl H => run_idxS s c fl H
  unfold run at *
  rw [Run_z Tryd.func155 rfl (by rfl : ok 155 = true) (by rfl : cfg.keep 155 = [0, 1, 4]) (by rfl : cfg.mode 155 = .pure) (by rfl : cfg.ord 155 = [])]
  simp (config := {contextual := true, maxSteps := 10000000, implicitDefEqProofs := false}) (disch := first | (and_intros <;> omega -splitDisjunctions) | (simp only [List.length_set, List.length_append, List.length_cons, List.length_nil]; and_intros <;> omega -splitDisjunctions) | fail) only [e1, Tryd.f155, go_sem, ↓reduceIte, Nat.reduceEqDiff, Nat.reduceAdd, Nat.reduceMul, Nat.reduceLT, Nat.reduceLeDiff, reduceCtorEq, Int.reduceNe, Int.reduceEq, Int.reduceLT, Int.reduceLE, Int.reduceAdd, Int.reduceSub, Int.reduceMul, Int.reduceNeg, Int.reduceToNat, UInt8.reduceToNat, natLit]
theorem run_index1 (s : ByteArray) (c : UInt8) (fl : Nat) (H : LH) : run 142 [.str s, .str ⟨#[c]⟩] fl H = some (.int .i64 (idxB s c), H) := by
  have e1 := fun fl H => run_idxByte s (c.toNat : Int) fl H
  rw [Int.toNat_natCast, UInt8.ofNat_toNat] at e1
  unfold run at *
  rw [Run_z Tryd.func142 rfl (by rfl : ok 142 = true) (by rfl : cfg.keep 142 = [0, 1, 4, 5, 6, 7, 8, 9, 10, 11, 12, 13, 16, 24, 31, 36, 59, 64, 73, 93, 107, 114, 132, 139]) (by rfl : cfg.mode 142 = .pure) (by rfl : cfg.ord 142 = [])]
  simp (config := {contextual := true, maxSteps := 10000000, implicitDefEqProofs := false}) (disch := first | (and_intros <;> omega -splitDisjunctions) | (simp only [List.length_set, List.length_append, List.length_cons, List.length_nil]; and_intros <;> omega -splitDisjunctions) | fail) only [e1, Tryd.f142, go_sem, ↓reduceIte, Nat.reduceEqDiff, Nat.reduceAdd, Nat.reduceMul, Nat.reduceLT, Nat.reduceLeDiff, reduceCtorEq, Int.reduceNe, Int.reduceEq, Int.reduceLT, Int.reduceLE, Int.reduceAdd, Int.reduceSub, Int.reduceMul, Int.reduceNeg, Int.reduceToNat, UInt8.reduceToNat, natLit, ty3, ty5, ty9]
  refine ite_E (fun h => ?_) (fun _ => rfl)
  subst h
  rcases idxB_or ⟨#[c]⟩ c with ⟨_, h2⟩ | ⟨i, h1, h2, _⟩
  · exact absurd rfl (h2 0 (Nat.zero_lt_one))
  · have h2 : i < 1 := h2
    rw [h1, show i = 0 by omega]
    rfl
end Go.Proofs.YtcbjmggbbnpbpaaDoor.Lg
