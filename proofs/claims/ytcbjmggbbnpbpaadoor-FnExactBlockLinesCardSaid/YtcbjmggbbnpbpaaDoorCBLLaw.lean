/- FnExactBlockLines over the logical machine. No condition. -/
import Derived.Test.YtcbjmggbbnpbpaaDoorCBl3
namespace Go.Proofs.YtcbjmggbbnpbpaaDoor.Lg
set_option linter.unusedSimpArgs false
set_option linter.unusedVariables false
set_option maxRecDepth 100000
set_option maxHeartbeats 40000000
open Go.Proofs.YtcbjmggbbnpbpaaDoor

theorem run_FnExactBlockLines (v : V) (xs : List Ev) (i col : Int) (fl : Nat) (H : LH) (h : At H evC 8 v xs) (hl : xs.length ≤ 9223372036854775807) (hf : ∀ x ∈ xs, evCFit x) :
    run 6 [v, .int .i64 i, .int .i64 col] fl H = some (.bool true, H) := by
  have f1 := h.isTup
  have e0 := run_szEventS v xs 1048576 H.length H h (by decide) (by decide) hl hf
  by_cases hs : (1048576 : Int) < xs.length + sumZ evCW xs
  · unfold run at *
    rw [if_pos hs] at e0
    rw [Run_z Tryd.func6 rfl (by rfl : ok 6 = true) (by rfl : cfg.keep 6 = [0, 1, 2, 6, 7, 8, 9, 10, 15, 29, 34]) (by rfl : cfg.mode 6 = .pure) (by rfl : cfg.ord 6 = [])]
    simp (config := {contextual := true, maxSteps := 10000000, implicitDefEqProofs := false}) (disch := first | (and_intros <;> omega -splitDisjunctions) | (simp only [List.length_set, List.length_append, List.length_cons, List.length_nil]; and_intros <;> omega -splitDisjunctions) | fail) only [e0, f1, Tryd.f6, go_sem, ↓reduceIte, Nat.reduceEqDiff, Nat.reduceAdd, Nat.reduceMul, Nat.reduceLT, Nat.reduceLeDiff, reduceCtorEq, Int.reduceNe, Int.reduceEq, Int.reduceLT, Int.reduceLE, Int.reduceAdd, Int.reduceSub, Int.reduceMul, Int.reduceNeg, Int.reduceToNat, UInt8.reduceToNat, natLit, ty3, ty4, ty9]
  · rw [if_neg hs] at e0
    have w0 := sumZ_nonneg (w := evCW) (fun x => by unfold evCW; omega) xs
    have hx : xs.length ≤ 1048576 := by omega
    have ht : ∀ e ∈ xs, Short e := fun e he => by
      have := sumZ_mem (w := evCW) (fun x => by unfold evCW; omega) he
      have h2 : ((e.text.size + e.anchor.size + e.tag.size : Nat) : Int) ≤ evCW e := by unfold evCW; omega
      unfold Short
      omega
    have e1 := run_toEventS v xs H.length H h hx
    have x1 : Hx H (H ++ [Blk.cells (rows evC xs)]) := Hx.app
    have e2 := run_spBlockLines (At.new (H := H) (L := ([] : LH)) evC_len) hf hx ht i col H.length
    have e3 := run_toEventS v xs H.length (H ++ [Blk.cells (rows evC xs)]) (h.ext x1) hx
    have l1 : (H ++ [Blk.cells (rows evC xs)]).length = H.length + 1 := by simp
    have e4 := run_imBlockLines (At.new (H := H ++ [Blk.cells (rows evC xs)]) (L := ([] : LH)) evC_len) hf hx (by simp [capOk]) ht i col H.length
    have x2 : Hx H (H ++ [Blk.cells (rows evC xs)] ++ [Blk.cells (rows evC xs)]) := x1.trans Hx.app
    have e5 := run_toEventS v xs H.length (H ++ [Blk.cells (rows evC xs)] ++ [Blk.cells (rows evC xs)]) (h.ext x2) hx
    have a6 : At (H ++ [Blk.cells (rows evC xs)] ++ [Blk.cells (rows evC xs)]) evC 8 (.sl (H ++ [Blk.cells (rows evC xs)]).length 0 8 xs.length xs.length) xs := At.new evC_len
    have e6 := run_eqEventS (.sl (H ++ [Blk.cells (rows evC xs)]).length 0 8 xs.length xs.length) (.sl (H ++ [Blk.cells (rows evC xs)] ++ [Blk.cells (rows evC xs)]).length 0 8 xs.length xs.length) xs xs H.length (H ++ [Blk.cells (rows evC xs)] ++ [Blk.cells (rows evC xs)] ++ [Blk.cells (rows evC xs)]) a6.left (At.new evC_len) (by omega) (by omega)
    have hb : ¬ (1048576 : Int) - (xs.length + sumZ evCW xs) < 0 := by omega
    simp only [List.append_assoc, List.cons_append, List.nil_append, List.length_append, List.length_cons, List.length_nil, Nat.zero_add] at e1 e2 e3 e4 e5 e6
    generalize blkW xs i col = Z at *
    unfold run at *
    rw [Run_z Tryd.func6 rfl (by rfl : ok 6 = true) (by rfl : cfg.keep 6 = [0, 1, 2, 6, 7, 8, 9, 10, 15, 29, 34]) (by rfl : cfg.mode 6 = .pure) (by rfl : cfg.ord 6 = [])]
    simp (config := {contextual := true, maxSteps := 10000000, implicitDefEqProofs := false}) (disch := first | (and_intros <;> omega -splitDisjunctions) | (simp only [List.length_set, List.length_append, List.length_cons, List.length_nil]; and_intros <;> omega -splitDisjunctions) | fail) only [e0, e1, e2, e3, e4, e5, e6, hb, f1, Tryd.f6, go_sem, ↓reduceIte, Nat.reduceEqDiff, Nat.reduceAdd, Nat.reduceMul, Nat.reduceLT, Nat.reduceLeDiff, reduceCtorEq, Int.reduceNe, Int.reduceEq, Int.reduceLT, Int.reduceLE, Int.reduceAdd, Int.reduceSub, Int.reduceMul, Int.reduceNeg, Int.reduceToNat, UInt8.reduceToNat, natLit, ty3, ty4, ty9]
end Go.Proofs.YtcbjmggbbnpbpaaDoor.Lg
