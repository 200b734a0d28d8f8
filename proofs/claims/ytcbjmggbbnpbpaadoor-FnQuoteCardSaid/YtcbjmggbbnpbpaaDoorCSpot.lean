/- Lines of a text: the program's functions. No condition. -/
import Derived.Test.YtcbjmggbbnpbpaaDoorCTxL0
namespace Go.Proofs.YtcbjmggbbnpbpaaDoor.Lg
set_option linter.unusedSimpArgs false
set_option linter.unusedVariables false
set_option maxRecDepth 100000
set_option maxHeartbeats 40000000
open Go.Proofs.YtcbjmggbbnpbpaaDoor

theorem run_spot (s : ByteArray) (p : Int) (fl : Nat) (H : LH) (hs : s.size ≤ 1099511627776) : run 70 [.str s, .int .i64 p] fl H = some (.int .i64 (spt s p), H) := by
  unfold run
  rw [Run_z Tryd.func70 rfl (by rfl : ok 70 = true) (by rfl : cfg.keep 70 = [0, 1, 4]) (by rfl : cfg.mode 70 = .pure) (by rfl : cfg.ord 70 = [])]
  simp (config := {contextual := true, maxSteps := 10000000, implicitDefEqProofs := false}) (disch := first | (and_intros <;> omega -splitDisjunctions) | (simp only [List.length_set, List.length_append, List.length_cons, List.length_nil]; and_intros <;> omega -splitDisjunctions) | fail) only [maxV, minV, Tryd.f70, go_sem, ↓reduceIte, Nat.reduceEqDiff, Nat.reduceAdd, Nat.reduceMul, Nat.reduceLT, Nat.reduceLeDiff, reduceCtorEq, Int.reduceNe, Int.reduceEq, Int.reduceLT, Int.reduceLE, Int.reduceAdd, Int.reduceSub, Int.reduceMul, Int.reduceNeg, Int.reduceToNat, UInt8.reduceToNat, natLit, ty3, ty9]
  congr 3
  unfold spt
  grind
theorem run_byteAt0 (s : ByteArray) (p : Int) (fl : Nat) (H : LH) (hs : s.size ≤ 1099511627776) : run 71 [.str s, .int .i64 p] fl H = some (.int .i64 (bA s (spt s p)), H) := by
  have e1 := fun fl H => run_spot s p fl H hs
  have h1 := spt_le s p
  unfold run at *
  rw [Run_z Tryd.func71 rfl (by rfl : ok 71 = true) (by rfl : cfg.keep 71 = [0, 1, 4, 11]) (by rfl : cfg.mode 71 = .pure) (by rfl : cfg.ord 71 = [])]
  rcases Nat.lt_or_ge (spt s p) s.size with h | h
  · have t1 : ((spt s p : Int) = s.size) = False := eq_false (by omega)
    simp (config := {contextual := true, maxSteps := 10000000, implicitDefEqProofs := false}) (disch := first | (and_intros <;> omega -splitDisjunctions) | (simp only [List.length_set, List.length_append, List.length_cons, List.length_nil]; and_intros <;> omega -splitDisjunctions) | fail) only [e1, t1, Tryd.f71, go_sem, ↓reduceIte, Nat.reduceEqDiff, Nat.reduceAdd, Nat.reduceMul, Nat.reduceLT, Nat.reduceLeDiff, reduceCtorEq, Int.reduceNe, Int.reduceEq, Int.reduceLT, Int.reduceLE, Int.reduceAdd, Int.reduceSub, Int.reduceMul, Int.reduceNeg, Int.reduceToNat, UInt8.reduceToNat, natLit, ty3, ty5, ty9]
  · have t1 : ((spt s p : Int) = s.size) = True := eq_true (by omega)
    simp (config := {contextual := true, maxSteps := 10000000, implicitDefEqProofs := false}) (disch := first | (and_intros <;> omega -splitDisjunctions) | (simp only [List.length_set, List.length_append, List.length_cons, List.length_nil]; and_intros <;> omega -splitDisjunctions) | fail) only [e1, t1, Tryd.f71, go_sem, ↓reduceIte, Nat.reduceEqDiff, Nat.reduceAdd, Nat.reduceMul, Nat.reduceLT, Nat.reduceLeDiff, reduceCtorEq, Int.reduceNe, Int.reduceEq, Int.reduceLT, Int.reduceLE, Int.reduceAdd, Int.reduceSub, Int.reduceMul, Int.reduceNeg, Int.reduceToNat, UInt8.reduceToNat, natLit, ty3, ty5, ty9]
    rw [bA_out (by omega)]
theorem run_byteAt (s : ByteArray) (p : Int) (fl : Nat) (H : LH) (h0 : 0 ≤ p) (hs : s.size ≤ 1099511627776) : run 71 [.str s, .int .i64 p] fl H = some (.int .i64 (bA s p), H) := by
  rw [run_byteAt0 s p fl H hs, bA_spt h0]
end Go.Proofs.YtcbjmggbbnpbpaaDoor.Lg
