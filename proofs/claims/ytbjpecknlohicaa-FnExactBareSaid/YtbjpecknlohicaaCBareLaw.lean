/- FnExactBare over the logical machine. No condition. -/
import Derived.Test.YtbjpecknlohicaaCBare
namespace Go.Proofs.Ytbjpecknlohicaa.Lg
set_option linter.unusedSimpArgs false
set_option linter.unusedVariables false
set_option maxRecDepth 100000
set_option maxHeartbeats 40000000
open Go.Proofs.Ytbjpecknlohicaa

theorem run_FnExactBare (v : V) (xs : List Ev) (fl : Nat) (H : LH) (h : At H evC 8 v xs) (hl : xs.length ≤ 9223372036854775807) (hf : ∀ x ∈ xs, evCFit x) :
    run 6 [v] fl H = some (.bool true, H) := by
  have f1 := h.isTup
  have e0 := run_szEventS v xs 1048576 H.length H h (by decide) (by decide) hl hf
  by_cases hs : (1048576 : Int) < xs.length + sumZ evCW xs
  · unfold run at *
    rw [if_pos hs] at e0
    rw [Run_z Try.func6 rfl (by rfl : ok 6 = true) (by rfl : cfg.keep 6 = [0, 2, 3, 4, 5, 6, 7, 8, 9, 10, 15, 26, 31, 42, 50, 53, 60, 65, 68]) (by rfl : cfg.mode 6 = .pure)]
    simp (config := {contextual := true, maxSteps := 10000000, implicitDefEqProofs := false}) (disch := omega) only [e0, f1, Try.f6, go_sem, ↓reduceIte, Nat.reduceEqDiff, Nat.reduceAdd, Nat.reduceMul, Nat.reduceLT, Nat.reduceLeDiff, reduceCtorEq, Int.reduceNe, Int.reduceEq, Int.reduceLT, Int.reduceLE, Int.reduceAdd, Int.reduceSub, Int.reduceMul, Int.reduceNeg, Int.reduceToNat, natLit, ty3, ty4]
  · rw [if_neg hs] at e0
    have w0 := sumZ_nonneg (w := evCW) (fun x => by unfold evCW; omega) xs
    have hx : xs.length ≤ 1048576 := by omega
    have hm : (xs.map bareEv).length = xs.length := by simp
    have e1 := run_toEventS v xs H.length H h hx
    obtain ⟨w, H1, e2, x1, o1⟩ := run_spBare (.sl H.length 0 8 xs.length xs.length) xs H.length (H ++ [.cells (rows evC xs)]) (At.new evC_len) hx
    have x0 : Hx H H1 := Hx.app.trans x1
    have e3 := run_toEventS v xs H.length H1 (h.ext x0) hx
    obtain ⟨g, H2, e4, x2, o2⟩ := run_imBare (.sl H1.length 0 8 xs.length xs.length) xs H.length (H1 ++ [.cells (rows evC xs)]) (At.new evC_len) hx
    have y2 : Hx H1 H2 := Hx.app.trans x2
    have l1 := x0.len; have l2 := y2.len; have l3 := x2.len
    rw [List.length_append] at l3 o2
    have e5 := run_eqEventS g w _ _ H.length H2 (o2.at evC_len) ((o1.at evC_len).ext y2) (by omega) (by omega)
    have e6 := run_toEventS v xs H.length H2 (h.ext (x0.trans y2)) hx
    have a7 : At H2 evC 8 (.sl H1.length 0 8 xs.length xs.length) xs := (At.new evC_len).ext x2
    have e7 := run_eqEventS (.sl H1.length 0 8 xs.length xs.length) (.sl H2.length 0 8 xs.length xs.length) xs xs H.length (H2 ++ [.cells (rows evC xs)]) a7.left (At.new evC_len) (by omega) (by omega)
    have c8 : LH.cellsAt (H2 ++ [.cells (rows evC xs)]) H1.length = some (rows evC xs) := (x2.trans Hx.app).cells (by rw [cellsAt_app0]; rfl)
    have e8 := run_markEventS H1.length xs 1 H.length (H2 ++ [.cells (rows evC xs)]) c8 (by omega) (by decide) (by decide) (by omega)
    generalize hH3 : List.set (H2 ++ [.cells (rows evC xs)]) H1.length (.cells (rows evC (marksF mkEvent 8 xs.length 1))) = H3 at e8
    have y3 : Hx H1 H3 := by rw [← hH3]; exact (y2.trans Hx.app).set (Nat.le_refl _)
    have o3 : Own (H1.length + 1) H3 evC 8 g (xs.map bareEv) := by rw [← hH3]; exact (o2.ext Hx.app).setNe (Nat.lt_succ_self _)
    have e9 := run_eqEventS g w _ _ H.length H3 (o3.at evC_len) ((o1.at evC_len).ext y3) (by omega) (by omega)
    have e10 := run_markEventO g _ 1 H.length H3 o3 (by omega) (by decide) (by decide) (by omega)
    rw [hm] at e10
    generalize hH4 : setV H3 g (rows evC (marksF mkEvent 8 xs.length 1)) = H4 at e10
    have y4 : Hx H1 H4 := by rw [← hH4]; exact Hx.setV o3 y3 (by omega)
    have o4 : Own (H1.length + 1) H4 evC 8 g (marksF mkEvent 8 xs.length 1) := by rw [← hH4]; exact o3.setV (by rw [marksF_len, hm])
    have e11 := run_heldEventS g xs.length 1 H.length H4 (o4.at evC_len) (by decide) (by decide) (by omega)
    have e12 := run_toEventS v xs H.length H4 (h.ext (x0.trans y4)) hx
    obtain ⟨g', H5, e13, x5, o5⟩ := run_imBare (.sl H4.length 0 8 xs.length xs.length) xs H.length (H4 ++ [.cells (rows evC xs)]) (At.new evC_len) hx
    have y5 : Hx H4 H5 := Hx.app.trans x5
    have e14 := run_eqEventS g' w _ _ H.length H5 (o5.at evC_len) ((o1.at evC_len).ext (y4.trans y5)) (by omega) (by omega)
    have e15 := run_heldEventS g xs.length 1 H.length H5 ((o4.at evC_len).ext y5) (by decide) (by decide) (by omega)
    have t1 := (o1.at evC_len).isTup; have t2 := (o2.at evC_len).isTup; have t3 := (o5.at evC_len).isTup
    have hb : ¬ (1048576 : Int) - (xs.length + sumZ evCW xs) < 0 := by omega
    have hb2 : ¬ (1 : Int) + xs.length * 8 < 0 := by omega
    unfold run at *
    rw [Run_z Try.func6 rfl (by rfl : ok 6 = true) (by rfl : cfg.keep 6 = [0, 2, 3, 4, 5, 6, 7, 8, 9, 10, 15, 26, 31, 42, 50, 53, 60, 65, 68]) (by rfl : cfg.mode 6 = .pure)]
    simp (config := {contextual := true, maxSteps := 10000000, implicitDefEqProofs := false}) (disch := omega) only [e0, e1, e2, e3, e4, e5, e6, e7, e8, e9, e10, e11, e12, e13, e14, e15, t1, t2, t3, hb, hb2, f1, Try.f6, go_sem, ↓reduceIte, Nat.reduceEqDiff, Nat.reduceAdd, Nat.reduceMul, Nat.reduceLT, Nat.reduceLeDiff, reduceCtorEq, Int.reduceNe, Int.reduceEq, Int.reduceLT, Int.reduceLE, Int.reduceAdd, Int.reduceSub, Int.reduceMul, Int.reduceNeg, Int.reduceToNat, natLit, ty3, ty4]
end Go.Proofs.Ytbjpecknlohicaa.Lg
