/- FnExactCanWrite over the logical machine. No condition. -/
import Derived.Test.YtcbjmggbbnpbpaaDoorCNc10
namespace Go.Proofs.YtcbjmggbbnpbpaaDoor.Lg
set_option linter.unusedSimpArgs false
set_option linter.unusedVariables false
set_option maxRecDepth 100000
set_option maxHeartbeats 40000000
open Go.Proofs.YtcbjmggbbnpbpaaDoor

theorem sumZ_mem {α : Type} {w : α → Int} (h : ∀ x, 0 ≤ w x) {xs : List α} {x : α} (hx : x ∈ xs) : w x ≤ sumZ w xs := by
  induction xs with
  | nil => cases hx
  | cons y ys ih =>
    have := sumZ_nonneg h ys
    have := h y
    simp only [sumZ]
    rcases List.mem_cons.1 hx with rfl | hx
    · omega
    · have := ih hx; omega
theorem run_FnExactCanWrite (v : V) (xs : List Ev) (fl : Nat) (H : LH) (h : At H evC 8 v xs) (hl : xs.length ≤ 9223372036854775807) (hf : ∀ x ∈ xs, evCFit x) :
    run 4 [v] fl H = some (.bool true, H) := by
  have f1 := h.isTup
  have e0 := run_szEventS v xs 1048576 H.length H h (by decide) (by decide) hl hf
  by_cases hs : (1048576 : Int) < xs.length + sumZ evCW xs
  · unfold run at *
    rw [if_pos hs] at e0
    rw [Run_z Tryd.func4 rfl (by rfl : ok 4 = true) (by rfl : cfg.keep 4 = [0, 2, 3, 4, 5, 6, 11, 21, 26]) (by rfl : cfg.mode 4 = .pure) (by rfl : cfg.ord 4 = [])]
    simp (config := {contextual := true, maxSteps := 10000000, implicitDefEqProofs := false}) (disch := first | (and_intros <;> omega -splitDisjunctions) | (simp only [List.length_set, List.length_append, List.length_cons, List.length_nil]; and_intros <;> omega -splitDisjunctions) | fail) only [e0, f1, Tryd.f4, go_sem, ↓reduceIte, Nat.reduceEqDiff, Nat.reduceAdd, Nat.reduceMul, Nat.reduceLT, Nat.reduceLeDiff, reduceCtorEq, Int.reduceNe, Int.reduceEq, Int.reduceLT, Int.reduceLE, Int.reduceAdd, Int.reduceSub, Int.reduceMul, Int.reduceNeg, Int.reduceToNat, UInt8.reduceToNat, natLit, ty3, ty4]
  · rw [if_neg hs] at e0
    have w0 := sumZ_nonneg (w := evCW) (fun x => by unfold evCW; omega) xs
    have hx : xs.length ≤ 1048576 := by omega
    have ht : ∀ e ∈ xs, e.text.size ≤ 16777216 := fun e he => by
      have := sumZ_mem (w := evCW) (fun x => by unfold evCW; omega) he
      have h2 : (e.text.size : Int) ≤ evCW e := by unfold evCW; omega
      omega
    have e1 := run_toEventS v xs H.length H h hx
    have x1 : Hx H (H ++ [Blk.cells (rows evC xs)]) := Hx.app
    have e2 := run_spCanWrite (At.new (H := H) (L := ([] : LH)) evC_len) hf hx ht H.length
    have e3 := run_toEventS v xs H.length (H ++ [Blk.cells (rows evC xs)]) (h.ext x1) hx
    have l1 : (H ++ [Blk.cells (rows evC xs)]).length = H.length + 1 := by simp
    have e4 := run_imCanWrite (At.new (H := H ++ [Blk.cells (rows evC xs)]) (L := ([] : LH)) evC_len) hf hx (by simp [capOk]) ht H.length
    have x2 : Hx H (H ++ [Blk.cells (rows evC xs)] ++ [Blk.cells (rows evC xs)]) := x1.trans Hx.app
    have e5 := run_toEventS v xs H.length (H ++ [Blk.cells (rows evC xs)] ++ [Blk.cells (rows evC xs)]) (h.ext x2) hx
    have a6 : At (H ++ [Blk.cells (rows evC xs)] ++ [Blk.cells (rows evC xs)]) evC 8 (.sl (H ++ [Blk.cells (rows evC xs)]).length 0 8 xs.length xs.length) xs := At.new evC_len
    have e6 := run_eqEventS (.sl (H ++ [Blk.cells (rows evC xs)]).length 0 8 xs.length xs.length) (.sl (H ++ [Blk.cells (rows evC xs)] ++ [Blk.cells (rows evC xs)]).length 0 8 xs.length xs.length) xs xs H.length (H ++ [Blk.cells (rows evC xs)] ++ [Blk.cells (rows evC xs)] ++ [Blk.cells (rows evC xs)]) a6.left (At.new evC_len) (by omega) (by omega)
    have hb : ¬ (1048576 : Int) - (xs.length + sumZ evCW xs) < 0 := by omega
    simp only [List.append_assoc, List.cons_append, List.nil_append, List.length_append, List.length_cons, List.length_nil, Nat.zero_add] at e1 e2 e3 e4 e5 e6
    unfold run at *
    rw [Run_z Tryd.func4 rfl (by rfl : ok 4 = true) (by rfl : cfg.keep 4 = [0, 2, 3, 4, 5, 6, 11, 21, 26]) (by rfl : cfg.mode 4 = .pure) (by rfl : cfg.ord 4 = [])]
    simp (config := {contextual := true, maxSteps := 10000000, implicitDefEqProofs := false}) (disch := first | (and_intros <;> omega -splitDisjunctions) | (simp only [List.length_set, List.length_append, List.length_cons, List.length_nil]; and_intros <;> omega -splitDisjunctions) | fail) only [e0, e1, e2, e3, e4, e5, e6, hb, f1, Tryd.f4, go_sem, ↓reduceIte, Nat.reduceEqDiff, Nat.reduceAdd, Nat.reduceMul, Nat.reduceLT, Nat.reduceLeDiff, reduceCtorEq, Int.reduceNe, Int.reduceEq, Int.reduceLT, Int.reduceLE, Int.reduceAdd, Int.reduceSub, Int.reduceMul, Int.reduceNeg, Int.reduceToNat, UInt8.reduceToNat, natLit, ty3, ty4]
end Go.Proofs.YtcbjmggbbnpbpaaDoor.Lg
