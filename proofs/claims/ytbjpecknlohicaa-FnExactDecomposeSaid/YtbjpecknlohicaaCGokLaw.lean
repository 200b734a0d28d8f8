/- FnExactGraphOk over the logical machine. No condition. -/
import Derived.Test.YtbjpecknlohicaaCTGraph
import Derived.Test.YtbjpecknlohicaaCGok8
namespace Go.Proofs.Ytbjpecknlohicaa.Lg
set_option linter.unusedSimpArgs false
set_option linter.unusedVariables false
set_option maxRecDepth 100000
set_option maxHeartbeats 40000000
open Go.Proofs.Ytbjpecknlohicaa

theorem run_imOk (nv rv : V) (g : Gr) (fl : Nat) (H : LH) (h : GAt H nv rv g) (hw : grW g ≤ 1048576) : run 35 [.agg [nv, rv]] fl H = some (.bool (imOk g), H) := by
  have hb := grW_bnd hw
  exact run_imGraphOk nv rv g fl H h (by omega) (fun n hn => by have := hb.2.2 n hn; omega) (by omega)
theorem run_spOk (nv rv : V) (g : Gr) (fl : Nat) (H : LH) (h : GAt H nv rv g) (hw : grW g ≤ 1048576) : run 33 [.agg [nv, rv]] fl H = some (.bool (imOk g), H) := by
  have hb := grW_bnd hw
  rw [← spOk_imOk g (fun n hn => by have := hb.2.2 n hn; omega)]
  exact run_spGraphOk nv rv g fl H h (by omega) (fun n hn => by have := hb.2.2 n hn; omega) (by omega)
theorem run_FnExactGraphOk (nv rv : V) (g : Gr) (fl : Nat) (H : LH) (h : GAt H nv rv g) (hf : grFit g) :
    run 7 [.agg [nv, rv]] fl H = some (.bool true, H) := by
  have f1 := h.1.isTup; have f2 := h.2.isTup
  have f3 := h.1.one; have f4 := h.2.one
  have e0 := fun L => run_szGraphW nv rv g 1048576 H.length (H ++ L) (h.ext Hx.app) (by decide) (by decide) hf
  have w0 := @grW_lo g
  by_cases hs : (1048576 : Int) < grW g
  · unfold run at *
    simp only [if_pos hs] at e0
    rw [Run_z Try.func7 rfl (by rfl : ok 7 = true) (by rfl : cfg.keep 7 = [0, 1, 2, 3, 4, 5, 6, 11, 21, 26]) (by rfl : cfg.mode 7 = .pure)]
    simp (config := {contextual := true, maxSteps := 10000000, implicitDefEqProofs := false}) (disch := first | (and_intros <;> omega -splitDisjunctions) | (simp only [List.length_set, List.length_append, List.length_cons, List.length_nil]; and_intros <;> omega -splitDisjunctions) | fail) only [e0, f1, f2, Try.f7, go_sem, ↓reduceIte, Nat.reduceEqDiff, Nat.reduceAdd, Nat.reduceMul, Nat.reduceLT, Nat.reduceLeDiff, reduceCtorEq, Int.reduceNe, Int.reduceEq, Int.reduceLT, Int.reduceLE, Int.reduceAdd, Int.reduceSub, Int.reduceMul, Int.reduceNeg, Int.reduceToNat, UInt8.reduceToNat, natLit, ty3, ty4, ty9, ty54, ty55, ty57, ty60, ty62, ty100, ty134]
  · simp only [if_neg hs] at e0
    have hw : grW g ≤ 1048576 := by omega
    obtain ⟨H1, n1, r1, e1, c1⟩ := run_copy nv rv g H.length (H ++ [.cells [nv, rv]]) (h.ext Hx.app) hw
    have x1 : Hx H H1 := Hx.app.trans c1.ext
    have e2 := run_spOk n1 r1 g H.length H1 c1.at hw
    obtain ⟨H2, n2, r2, e3, c2⟩ := run_copy nv rv g H.length H1 (h.ext x1) hw
    have x2 := x1.trans c2.ext
    have e4 := fun L => run_imOk n2 r2 g H.length (H2 ++ L) (c2.at.ext Hx.app) hw
    obtain ⟨H3, n3, r3, e5, c3⟩ := run_copy nv rv g H.length (H2 ++ [.cells [n2, r2]]) ((h.ext x2).ext Hx.app) hw
    have e6 := run_eqGraphW n2 r2 n3 r3 g H.length H3 ((c2.at.ext Hx.app).ext c3.ext) c3.at hw
    have g1 := c1.at.1.isTup; have g2 := c1.at.2.isTup; have g3 := c2.at.1.isTup; have g4 := c2.at.2.isTup; have g5 := c3.at.1.isTup; have g6 := c3.at.2.isTup
    have k3 := c2.at.1.one; have k4 := c2.at.2.one
    have m0 : LH.cellsAt H1 H.length = some [nv, rv] := c1.ext.cells (by rw [cellsAt_app0]; rfl)
    have m1 : ∀ L, LH.cellsAt (H2 ++ L) H.length = some [nv, rv] := fun L => (c2.ext.trans Hx.app).cells m0
    have hb : ¬ (1048576 : Int) - grW g < 0 := by omega
    have l1 := x1.len; have l2 := x2.len; have l3 := c2.ext.len; have l4 := c3.ext.len
    unfold run at *
    rw [Run_z Try.func7 rfl (by rfl : ok 7 = true) (by rfl : cfg.keep 7 = [0, 1, 2, 3, 4, 5, 6, 11, 21, 26]) (by rfl : cfg.mode 7 = .pure)]
    simp (config := {contextual := true, maxSteps := 10000000, implicitDefEqProofs := false}) (disch := first | (and_intros <;> omega -splitDisjunctions) | (simp only [List.length_set, List.length_append, List.length_cons, List.length_nil]; and_intros <;> omega -splitDisjunctions) | fail) only [e0, e1, e2, e3, e4, e5, e6, f1, f2, f3, f4, g1, g2, g3, g4, g5, g6, k3, k4, m0, m1, hb, Try.f7, go_sem, ↓reduceIte, Nat.reduceEqDiff, Nat.reduceAdd, Nat.reduceMul, Nat.reduceLT, Nat.reduceLeDiff, reduceCtorEq, Int.reduceNe, Int.reduceEq, Int.reduceLT, Int.reduceLE, Int.reduceAdd, Int.reduceSub, Int.reduceMul, Int.reduceNeg, Int.reduceToNat, UInt8.reduceToNat, natLit, ty3, ty4, ty9, ty54, ty55, ty57, ty60, ty62, ty100, ty134]
end Go.Proofs.Ytbjpecknlohicaa.Lg
