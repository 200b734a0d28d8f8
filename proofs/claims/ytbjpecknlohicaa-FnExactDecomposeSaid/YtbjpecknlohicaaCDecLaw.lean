/- FnExactDecompose over the logical machine. No condition. -/
import Derived.Test.YtbjpecknlohicaaCDecSp
import Derived.Test.YtbjpecknlohicaaCMarkG
namespace Go.Proofs.Ytbjpecknlohicaa.Lg
set_option linter.unusedSimpArgs false
set_option linter.unusedVariables false
set_option maxRecDepth 100000
set_option maxHeartbeats 40000000
open Go.Proofs.Ytbjpecknlohicaa

theorem run_FnExactDecompose (nv rv : V) (g : Gr) (fl : Nat) (H : LH) (h : GAt H nv rv g) (hf : grFit g) :
    run 12 [.agg [nv, rv]] fl H = some (.bool true, H) := by
  have f1 := h.1.isTup; have f2 := h.2.isTup
  have f3 := h.1.one; have f4 := h.2.one
  have e0 := fun L => run_szGraphW nv rv g 1048576 H.length (H ++ L) (h.ext Hx.app) (by decide) (by decide) hf
  have w0 := @grW_lo g
  by_cases hs : (1048576 : Int) < grW g
  · unfold run at *
    simp only [if_pos hs] at e0
    rw [Run_z Try.func12 rfl (by rfl : ok 12 = true) (by rfl : cfg.keep 12 = [0, 1, 2, 3, 4, 5, 6, 7, 8, 9, 10, 15, 26, 31, 42, 50, 53, 60, 65, 68]) (by rfl : cfg.mode 12 = .pure)]
    simp (config := {contextual := true, maxSteps := 10000000, implicitDefEqProofs := false}) (disch := first | (and_intros <;> omega -splitDisjunctions) | (simp only [List.length_set, List.length_append, List.length_cons, List.length_nil]; and_intros <;> omega -splitDisjunctions) | fail) only [e0, f1, f2, Try.f12, go_sem, ↓reduceIte, Nat.reduceEqDiff, Nat.reduceAdd, Nat.reduceMul, Nat.reduceLT, Nat.reduceLeDiff, reduceCtorEq, Int.reduceNe, Int.reduceEq, Int.reduceLT, Int.reduceLE, Int.reduceAdd, Int.reduceSub, Int.reduceMul, Int.reduceNeg, Int.reduceToNat, UInt8.reduceToNat, natLit, ty3, ty4, ty9, ty54, ty55, ty57, ty60, ty62, ty100, ty134]
  simp only [if_neg hs] at e0
  have hw : grW g ≤ 1048576 := by omega
  have hbx : (decL g).length ≤ 1073741824 := (by have := decL_len (g := g) (fun n hn => by have := (grW_bnd hw).2.2 n hn; omega) hw; omega)
  have hb : ¬ (1048576 : Int) - grW g < 0 := by omega
  obtain ⟨H1, n1, r1, e1, c1⟩ := run_copy nv rv g H.length (H ++ [.cells [nv, rv]]) (h.ext Hx.app) hw
  have x1 : Hx H H1 := Hx.app.trans c1.ext
  obtain ⟨w, H2, e2, x2, o2⟩ := run_spDec n1 r1 g H.length H1 c1.at hw
  have y2 : Hx H H2 := x1.trans x2
  obtain ⟨H3, n3, r3, e3, c3⟩ := run_copy nv rv g H.length H2 (h.ext y2) hw
  obtain ⟨q, H4, e4, x4, o4⟩ := run_imDec n3 r3 g H.length (H3 ++ [.cells [n3, r3]]) (c3.at.ext Hx.app) hw
  have y4 : Hx H3 H4 := Hx.app.trans x4
  have z4 : Hx H2 H4 := c3.ext.trans y4
  have e5 := run_eqEventS q w (decL g) (decL g) H.length H4 (o4.at evC_len) ((o2.at evC_len).ext z4) (by omega) (by omega)
  obtain ⟨H5, n5, r5, e6, c5⟩ := run_copy nv rv g H.length H4 (h.ext (y2.trans z4)) hw
  have e7 := run_eqGraphW n3 r3 n5 r5 g H.length H5 (c3.at.ext (y4.trans c5.ext)) c5.at hw
  have l1 := x1.len; have l2 := x2.len; have l3 := c3.ext.len; have l4 := y4.len; have l5 := c5.ext.len
  rw [List.length_append] at o4
  simp only [List.length_cons, List.length_nil, Nat.zero_add] at o4
  obtain ⟨kv, H6, e8, k, rfl, k0, m6⟩ := run_markGraph n3 r3 g 1 H.length H3 H5 c3.nodes c3.roots (y4.trans c5.ext) (by omega) (by decide) (by decide) hw
  have z6 : Hx H2 H6 := m6.hx ((z4.trans c5.ext).trans Hx.app) (Nat.le_refl _)
  have o6 : Own (H3.length + 1) H6 evC 8 q (decL g) := m6.own ((o4.ext c5.ext).ext Hx.app) (by omega)
  have e9 := run_eqEventS q w (decL g) (decL g) H.length H6 (o6.at evC_len) ((o2.at evC_len).ext z6) (by omega) (by omega)
  have e10 := run_markEventO q (decL g) 1 H.length H6 o6 (by omega) (by decide) (by decide) (by omega)
  generalize hH7 : setV H6 q (rows evC (marksF mkEvent 8 (decL g).length 1)) = H7 at e10
  have z7 : Hx H2 H7 := by rw [← hH7]; exact Hx.setV o6 z6 (by omega)
  have o7 : Own (H3.length + 1) H7 evC 8 q (marksF mkEvent 8 (decL g).length 1) := by rw [← hH7]; exact o6.setV (by rw [marksF_len])
  have e11 := run_heldEventS q (decL g).length 1 H.length H7 (o7.at evC_len) (by decide) (by decide) (by omega)
  obtain ⟨H8, n8, r8, e12, c8⟩ := run_copy nv rv g H.length H7 (h.ext (y2.trans z7)) hw
  obtain ⟨p, H9, e13, x9, o9⟩ := run_imDec n8 r8 g H.length H8 c8.at hw
  have y9 : Hx H7 H9 := c8.ext.trans x9
  have e14 := run_eqEventS p w (decL g) (decL g) H.length H9 (o9.at evC_len) ((o2.at evC_len).ext (z7.trans y9)) (by omega) (by omega)
  have e15 := run_heldEventS q (decL g).length 1 H.length H9 ((o7.at evC_len).ext y9) (by decide) (by decide) (by omega)
  have m0 : LH.cellsAt H1 H.length = some [nv, rv] := c1.ext.cells (by rw [cellsAt_app0]; rfl)
  have m2 := x2.cells m0
  have m4 := z4.cells m2
  have m7 := z7.cells m2
  have m5 : LH.cellsAt H4 H3.length = some [n3, r3] := x4.cells (by rw [cellsAt_app0]; rfl)
  have m3 : LH.cellsAt H5 H3.length = some [n3, r3] := (x4.trans c5.ext).cells (by rw [cellsAt_app0]; rfl)
  have b1 : ¬ k < 0 := by omega
  have b2 : ¬ (1 : Int) + (decL g).length * 8 < 0 := by omega
  have g1 := c1.at.1.isTup; have g2 := c1.at.2.isTup; have g3 := c3.at.1.isTup; have g4 := c3.at.2.isTup; have g5 := c5.at.1.isTup; have g6 := c5.at.2.isTup
  have i1 := c8.at.1.isTup; have i2 := c8.at.2.isTup
  have j1 := c3.at.1.one; have j2 := c3.at.2.one
  have t1 := (o2.at evC_len).isTup; have t2 := (o4.at evC_len).isTup; have t3 := (o9.at evC_len).isTup
  unfold run at *
  rw [Run_z Try.func12 rfl (by rfl : ok 12 = true) (by rfl : cfg.keep 12 = [0, 1, 2, 3, 4, 5, 6, 7, 8, 9, 10, 15, 26, 31, 42, 50, 53, 60, 65, 68]) (by rfl : cfg.mode 12 = .pure)]
  simp (config := {contextual := true, maxSteps := 10000000, implicitDefEqProofs := false}) (disch := first | (and_intros <;> omega -splitDisjunctions) | (simp only [List.length_set, List.length_append, List.length_cons, List.length_nil]; and_intros <;> omega -splitDisjunctions) | fail) only [e0, e1, e2, e3, e4, e5, e6, e7, e8, e9, e10, e11, e12, e13, e14, e15, f1, f2, f3, f4, g1, g2, g3, g4, g5, g6, i1, i2, j1, j2, t1, t2, t3, m0, m2, m4, m7, m3, m5, hb, b1, b2, Try.f12, go_sem, ↓reduceIte, Nat.reduceEqDiff, Nat.reduceAdd, Nat.reduceMul, Nat.reduceLT, Nat.reduceLeDiff, reduceCtorEq, Int.reduceNe, Int.reduceEq, Int.reduceLT, Int.reduceLE, Int.reduceAdd, Int.reduceSub, Int.reduceMul, Int.reduceNeg, Int.reduceToNat, UInt8.reduceToNat, natLit, ty3, ty4, ty9, ty54, ty55, ty57, ty60, ty62, ty100, ty134]
end Go.Proofs.Ytbjpecknlohicaa.Lg
