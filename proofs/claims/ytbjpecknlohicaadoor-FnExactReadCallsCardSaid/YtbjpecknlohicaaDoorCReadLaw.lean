/- FnExactReadCalls over the logical machine. No condition. -/
import Derived.Test.YtbjpecknlohicaaDoorCRead
namespace Go.Proofs.YtbjpecknlohicaaDoor.Lg
set_option linter.unusedSimpArgs false
set_option linter.unusedVariables false
set_option maxRecDepth 100000
set_option maxHeartbeats 40000000
open Go.Proofs.YtbjpecknlohicaaDoor

theorem rcL_len : ∀ (ls : List ByteArray) (n : Int) (l : List Ca), (rcL ls n l).1.length ≤ l.length + ls.length
  | [], n, l => by simp [rcL]
  | t :: ts, n, l => by
    have h1 := rcL_len ts (n + 1) l
    have h2 := rcL_len ts (n + 1) (l ++ [(tcM t).1])
    rw [List.length_append] at h2
    simp only [rcL, List.length_cons] at *
    by_cases c1 : t = ⟨#[]⟩
    · rw [if_pos c1]; omega
    · rw [if_neg c1]
      by_cases c2 : (tcM t).2 = true
      · rw [if_pos c2]; simp at h2; omega
      · rw [if_neg c2]; simp
theorem run_FnExactReadCalls (s : ByteArray) (fl : Nat) (H : LH) (hz : s.size ≤ 9223372036854775807) : run 4 [.str s] fl H = some (.bool true, H) := by
  by_cases hs : (1048576 : Int) < s.size
  · unfold run
    rw [Run_z Tryd.func4 rfl (by rfl : ok 4 = true) (by rfl : cfg.keep 4 = [0, 2, 3, 4, 5, 6, 7, 8, 9, 10, 13, 32, 40, 43, 57, 62, 65]) (by rfl : cfg.mode 4 = .pure)]
    simp (config := {contextual := true, maxSteps := 10000000, implicitDefEqProofs := false}) (disch := first | (and_intros <;> omega -splitDisjunctions) | (simp only [List.length_set, List.length_append, List.length_cons, List.length_nil]; and_intros <;> omega -splitDisjunctions) | fail) only [hs, Tryd.f4, go_sem, ↓reduceIte, Nat.reduceEqDiff, Nat.reduceAdd, Nat.reduceMul, Nat.reduceLT, Nat.reduceLeDiff, reduceCtorEq, Int.reduceNe, Int.reduceEq, Int.reduceLT, Int.reduceLE, Int.reduceAdd, Int.reduceSub, Int.reduceMul, Int.reduceNeg, Int.reduceToNat, UInt8.reduceToNat, natLit, ty3, ty4, ty9]
  · have hs2 : s.size ≤ 1048576 := by omega
    have c1 := fun fl H => run_spReadCalls s fl H hs2
    have c2 := fun fl H => run_imReadCalls s fl H hs2
    generalize hr : (if 5000 < s.size then (([] : List Ca), (1 : Int)) else rcL (lnF s s.size 0) 1 []) = r at c1 c2
    have hl : r.1.length ≤ 1048577 := by
      rw [← hr]
      by_cases h5 : 5000 < s.size
      · rw [if_pos h5]; simp
      · rw [if_neg h5]
        have a1 := rcL_len (lnF s s.size 0) 1 []
        have a2 := lnF_len s s.size 0
        simp at a1
        omega
    obtain ⟨_, H1, e1, w, rfl, x1, o1⟩ := c1 H.length H
    obtain ⟨_, H2, e2, g, rfl, x2, o2⟩ := c2 H.length H1
    have l1 := x1.len; have l2 := x2.len
    have e3 := run_eqCallS g w _ _ H.length H2 (o2.at caC_len) ((o1.at caC_len).ext x2) (by omega) (by omega)
    have e4 := run_markCallO g _ 1 H.length H2 o2 (by omega) (by decide) (by decide) (by omega)
    generalize hH3 : setV H2 g (rows caC (marksF mkCall 2 r.1.length 1)) = H3 at e4
    have y3 : Hx H1 H3 := by rw [← hH3]; exact Hx.setV o2 x2 (Nat.le_refl _)
    have o3 : Own H1.length H3 caC 2 g (marksF mkCall 2 r.1.length 1) := by rw [← hH3]; exact o2.setV (by rw [marksF_len])
    have e5 := run_heldCallS g r.1.length 1 H.length H3 (o3.at caC_len) (by decide) (by decide) (by omega)
    obtain ⟨_, H4, e6, h, rfl, x4, o4⟩ := c2 H.length H3
    have e7 := run_eqCallS h w _ _ H.length H4 (o4.at caC_len) ((o1.at caC_len).ext (y3.trans x4)) (by omega) (by omega)
    have e8 := run_heldCallS g r.1.length 1 H.length H4 ((o3.at caC_len).ext x4) (by decide) (by decide) (by omega)
    have t1 := (o1.at caC_len).isTup; have t2 := (o2.at caC_len).isTup; have t3 := (o4.at caC_len).isTup
    simp only [decide_true] at e3 e7
    have hb2 : ¬ (1 : Int) + r.1.length * 2 < 0 := by omega
    unfold run at *
    rw [Run_z Tryd.func4 rfl (by rfl : ok 4 = true) (by rfl : cfg.keep 4 = [0, 2, 3, 4, 5, 6, 7, 8, 9, 10, 13, 32, 40, 43, 57, 62, 65]) (by rfl : cfg.mode 4 = .pure)]
    simp (config := {contextual := true, maxSteps := 10000000, implicitDefEqProofs := false}) (disch := first | (and_intros <;> omega -splitDisjunctions) | (simp only [List.length_set, List.length_append, List.length_cons, List.length_nil]; and_intros <;> omega -splitDisjunctions) | fail) only [e1, e2, e3, e4, e5, e6, e7, e8, t1, t2, t3, hb2, show ¬ (1048576 : Int) < s.size by omega, Tryd.f4, go_sem, ↓reduceIte, Nat.reduceEqDiff, Nat.reduceAdd, Nat.reduceMul, Nat.reduceLT, Nat.reduceLeDiff, reduceCtorEq, Int.reduceNe, Int.reduceEq, Int.reduceLT, Int.reduceLE, Int.reduceAdd, Int.reduceSub, Int.reduceMul, Int.reduceNeg, Int.reduceToNat, UInt8.reduceToNat, natLit, ty3, ty4, ty9]
end Go.Proofs.YtbjpecknlohicaaDoor.Lg
