/- A byte's place in a text, and a text cut at a byte, over the logical machine. No condition. -/
import Derived.Test.YtbjpecknlohicaaDoorLc
import Derived.Test.YtbjpecknlohicaaDoorLg34
namespace Go.Proofs.YtbjpecknlohicaaDoor.Lg
set_option linter.unusedSimpArgs false
set_option linter.unusedVariables false
set_option maxRecDepth 100000
set_option maxHeartbeats 40000000
open Go.Proofs.YtbjpecknlohicaaDoor

theorem run_idxS (s : ByteArray) (c : Int) (fl : Nat) (H : LH) : run 48 [.str s, .int .u8 c] fl H = some (.int .i64 (idxB s (UInt8.ofNat c.toNat)), H) := by
  unfold run
  rw [Run_ext Tryd.func48 rfl]
  unfold ext
  rw [if_pos ⟨rfl, rfl⟩]
  rfl
theorem run_idxByte (s : ByteArray) (c : Int) (fl : Nat) (H : LH) : run 44 [.str s, .int .u8 c] fl H = some (.int .i64 (idxB s (UInt8.ofNat c.toNat)), H) := by
  have e1 := fun c fl H => run_idxS s c fl H
  unfold run at *
  rw [Run_z Tryd.func44 rfl (by rfl : ok 44 = true) (by rfl : cfg.keep 44 = [0, 1, 4]) (by rfl : cfg.mode 44 = .pure)]
  simp (config := {contextual := true, maxSteps := 10000000, implicitDefEqProofs := false}) (disch := first | (and_intros <;> omega -splitDisjunctions) | (simp only [List.length_set, List.length_append, List.length_cons, List.length_nil]; and_intros <;> omega -splitDisjunctions) | fail) only [e1, Tryd.f44, go_sem, ↓reduceIte, Nat.reduceEqDiff, Nat.reduceAdd, Nat.reduceMul, Nat.reduceLT, Nat.reduceLeDiff, reduceCtorEq, Int.reduceNe, Int.reduceEq, Int.reduceLT, Int.reduceLE, Int.reduceAdd, Int.reduceSub, Int.reduceMul, Int.reduceNeg, Int.reduceToNat, UInt8.reduceToNat, natLit]
theorem run_index1 (s : ByteArray) (c : UInt8) (fl : Nat) (H : LH) : run 42 [.str s, .str ⟨#[c]⟩] fl H = some (.int .i64 (idxB s c), H) := by
  have e1 := fun fl H => run_idxByte s (c.toNat : Int) fl H
  rw [Int.toNat_natCast, UInt8.ofNat_toNat] at e1
  unfold run at *
  rw [Run_z Tryd.func42 rfl (by rfl : ok 42 = true) (by rfl : cfg.keep 42 = [0, 1, 4, 5, 6, 7, 8, 9, 10, 11, 12, 13, 16, 24, 31, 36, 59, 64, 73, 93, 107, 114, 132, 139]) (by rfl : cfg.mode 42 = .pure)]
  simp (config := {contextual := true, maxSteps := 10000000, implicitDefEqProofs := false}) (disch := first | (and_intros <;> omega -splitDisjunctions) | (simp only [List.length_set, List.length_append, List.length_cons, List.length_nil]; and_intros <;> omega -splitDisjunctions) | fail) only [e1, Tryd.f42, go_sem, ↓reduceIte, Nat.reduceEqDiff, Nat.reduceAdd, Nat.reduceMul, Nat.reduceLT, Nat.reduceLeDiff, reduceCtorEq, Int.reduceNe, Int.reduceEq, Int.reduceLT, Int.reduceLE, Int.reduceAdd, Int.reduceSub, Int.reduceMul, Int.reduceNeg, Int.reduceToNat, UInt8.reduceToNat, natLit, ty3, ty5, ty9]
  refine ite_E (fun h => ?_) (fun _ => rfl)
  subst h
  rcases idxB_or ⟨#[c]⟩ c with ⟨_, h2⟩ | ⟨i, h1, h2, _⟩
  · exact absurd rfl (h2 0 (Nat.zero_lt_one))
  · have h2 : i < 1 := h2
    rw [h1, show i = 0 by omega]
    rfl
/-- what is behind the first byte 'c' -/
def cutA (s : ByteArray) (c : UInt8) : ByteArray := if 0 ≤ idxB s c then s.extract ((idxB s c) + 1).toNat s.size else ⟨#[]⟩
def cutF (s : ByteArray) (c : UInt8) : ByteArray := if 0 ≤ idxB s c then s.extract 0 (idxB s c).toNat else s
theorem run_cut1 (s : ByteArray) (c : UInt8) (fl : Nat) (H : LH) (hs : s.size ≤ 9223372036854775807) : run 38 [.str s, .str ⟨#[c]⟩] fl H = some (.tup [.str (cutF s c), .str (cutA s c), .bool (decide (0 ≤ idxB s c))], H) := by
  have e1 := fun fl H => run_index1 s c fl H
  have l1 := idxB_lo s c
  have l2 := idxB_hi s c
  unfold run cutF cutA at *
  rw [Run_z Tryd.func38 rfl (by rfl : ok 38 = true) (by rfl : cfg.keep 38 = [0, 1, 4, 5, 6, 7, 12]) (by rfl : cfg.mode 38 = .pure)]
  simp (config := {contextual := true, maxSteps := 10000000, implicitDefEqProofs := false}) (disch := first | (and_intros <;> omega -splitDisjunctions) | (simp only [List.length_set, List.length_append, List.length_cons, List.length_nil]; and_intros <;> omega -splitDisjunctions) | fail) only [e1, Tryd.f38, go_sem, ↓reduceIte, Nat.reduceEqDiff, Nat.reduceAdd, Nat.reduceMul, Nat.reduceLT, Nat.reduceLeDiff, reduceCtorEq, Int.reduceNe, Int.reduceEq, Int.reduceLT, Int.reduceLE, Int.reduceAdd, Int.reduceSub, Int.reduceMul, Int.reduceNeg, Int.reduceToNat, UInt8.reduceToNat, natLit, ty3, ty9]
  refine ite_E (fun h => ?_) (fun h => ?_)
  · simp only [h, if_true, decide_true]
  · simp only [h, if_false, decide_false]
theorem run_sCut1 (s : ByteArray) (c : UInt8) (fl : Nat) (H : LH) (hs : s.size ≤ 9223372036854775807) : run 30 [.str s, .str ⟨#[c]⟩] fl H = some (.tup [.str (cutF s c), .str (cutA s c), .bool (decide (0 ≤ idxB s c))], H) := by
  have e1 := fun fl H => run_cut1 s c fl H hs
  unfold run at *
  rw [Run_z Tryd.func30 rfl (by rfl : ok 30 = true) (by rfl : cfg.keep 30 = [0, 1, 4, 5, 6]) (by rfl : cfg.mode 30 = .pure)]
  simp (config := {contextual := true, maxSteps := 10000000, implicitDefEqProofs := false}) (disch := first | (and_intros <;> omega -splitDisjunctions) | (simp only [List.length_set, List.length_append, List.length_cons, List.length_nil]; and_intros <;> omega -splitDisjunctions) | fail) only [e1, Tryd.f30, go_sem, ↓reduceIte, Nat.reduceEqDiff, Nat.reduceAdd, Nat.reduceMul, Nat.reduceLT, Nat.reduceLeDiff, reduceCtorEq, Int.reduceNe, Int.reduceEq, Int.reduceLT, Int.reduceLE, Int.reduceAdd, Int.reduceSub, Int.reduceMul, Int.reduceNeg, Int.reduceToNat, UInt8.reduceToNat, natLit]
end Go.Proofs.YtbjpecknlohicaaDoor.Lg
