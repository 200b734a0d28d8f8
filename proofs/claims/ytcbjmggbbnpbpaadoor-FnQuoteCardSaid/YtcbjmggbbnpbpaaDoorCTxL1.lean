/- Lines of a text: the program's functions. No condition. -/
import Derived.Test.YtcbjmggbbnpbpaaDoorCSpot
import Derived.Test.YtcbjmggbbnpbpaaDoorCCut
namespace Go.Proofs.YtcbjmggbbnpbpaaDoor.Lg
set_option linter.unusedSimpArgs false
set_option linter.unusedVariables false
set_option maxRecDepth 100000
set_option maxHeartbeats 40000000
open Go.Proofs.YtcbjmggbbnpbpaaDoor

theorem run_isWhite (b : Int) (fl : Nat) (H : LH) : run 76 [.int .i64 b] fl H = some (.bool (decide (b = 32 ∨ b = 9)), H) := by
  unfold run
  rw [Run_z Tryd.func76 rfl (by rfl : ok 76 = true) (by rfl : cfg.keep 76 = [0, 2]) (by rfl : cfg.mode 76 = .pure) (by rfl : cfg.ord 76 = [])]
  simp (config := {contextual := true, maxSteps := 10000000, implicitDefEqProofs := false}) (disch := first | (and_intros <;> omega -splitDisjunctions) | (simp only [List.length_set, List.length_append, List.length_cons, List.length_nil]; and_intros <;> omega -splitDisjunctions) | fail) only [Tryd.f76, go_sem, ↓reduceIte, Nat.reduceEqDiff, Nat.reduceAdd, Nat.reduceMul, Nat.reduceLT, Nat.reduceLeDiff, reduceCtorEq, Int.reduceNe, Int.reduceEq, Int.reduceLT, Int.reduceLE, Int.reduceAdd, Int.reduceSub, Int.reduceMul, Int.reduceNeg, Int.reduceToNat, UInt8.reduceToNat, natLit, ty3]
theorem run_isBreak (b : Int) (fl : Nat) (H : LH) : run 148 [.int .i64 b] fl H = some (.bool (decide (b = 10 ∨ b < 0)), H) := by
  unfold run
  rw [Run_z Tryd.func148 rfl (by rfl : ok 148 = true) (by rfl : cfg.keep 148 = [0, 2]) (by rfl : cfg.mode 148 = .pure) (by rfl : cfg.ord 148 = [])]
  simp (config := {contextual := true, maxSteps := 10000000, implicitDefEqProofs := false}) (disch := first | (and_intros <;> omega -splitDisjunctions) | (simp only [List.length_set, List.length_append, List.length_cons, List.length_nil]; and_intros <;> omega -splitDisjunctions) | fail) only [Tryd.f148, go_sem, ↓reduceIte, Nat.reduceEqDiff, Nat.reduceAdd, Nat.reduceMul, Nat.reduceLT, Nat.reduceLeDiff, reduceCtorEq, Int.reduceNe, Int.reduceEq, Int.reduceLT, Int.reduceLE, Int.reduceAdd, Int.reduceSub, Int.reduceMul, Int.reduceNeg, Int.reduceToNat, UInt8.reduceToNat, natLit, ty3]
theorem run_gapAt (s : ByteArray) (p : Int) (fl : Nat) (H : LH) (h0 : 0 ≤ p) (hs : s.size ≤ 1099511627776) : run 131 [.str s, .int .i64 p] fl H = some (.bool (decide (gapP s p)), H) := by
  have e1 := fun fl H => run_byteAt s p fl H h0 hs
  have e2 := fun fl H => run_isWhite (bA s p) fl H
  have e3 := fun fl H => run_isBreak (bA s p) fl H
  unfold run at *
  rw [Run_z Tryd.func131 rfl (by rfl : ok 131 = true) (by rfl : cfg.keep 131 = [0, 1, 4, 5]) (by rfl : cfg.mode 131 = .pure) (by rfl : cfg.ord 131 = [])]
  simp (config := {contextual := true, maxSteps := 10000000, implicitDefEqProofs := false}) (disch := first | (and_intros <;> omega -splitDisjunctions) | (simp only [List.length_set, List.length_append, List.length_cons, List.length_nil]; and_intros <;> omega -splitDisjunctions) | fail) only [e1, e2, e3, Tryd.f131, go_sem, ↓reduceIte, Nat.reduceEqDiff, Nat.reduceAdd, Nat.reduceMul, Nat.reduceLT, Nat.reduceLeDiff, reduceCtorEq, Int.reduceNe, Int.reduceEq, Int.reduceLT, Int.reduceLE, Int.reduceAdd, Int.reduceSub, Int.reduceMul, Int.reduceNeg, Int.reduceToNat, UInt8.reduceToNat, natLit]
  rfl
theorem run_lastS (s : ByteArray) (ch : Int) (fl : Nat) (H : LH) (hs : s.size ≤ 1099511627776) : run 161 [.str s, .int .u8 ch] fl H = some (.int .i64 (lastF s ch s.size), H) := by
  unfold run
  rw [Run_z Tryd.func161 rfl (by rfl : ok 161 = true) (by rfl : cfg.keep 161 = [0, 1, 4, 5, 10, 17]) (by rfl : cfg.mode 161 = .pure) (by rfl : cfg.ord 161 = [])]
  simp (config := {contextual := true, maxSteps := 10000000, implicitDefEqProofs := false}) (disch := first | (and_intros <;> omega -splitDisjunctions) | (simp only [List.length_set, List.length_append, List.length_cons, List.length_nil]; and_intros <;> omega -splitDisjunctions) | fail) only [Tryd.f161, go_sem, ↓reduceIte, Nat.reduceEqDiff, Nat.reduceAdd, Nat.reduceMul, Nat.reduceLT, Nat.reduceLeDiff, reduceCtorEq, Int.reduceNe, Int.reduceEq, Int.reduceLT, Int.reduceLE, Int.reduceAdd, Int.reduceSub, Int.reduceMul, Int.reduceNeg, Int.reduceToNat, UInt8.reduceToNat, natLit, ty3, ty5, ty9]
  refine at_loopE fun c R hc hR => ?_
  have key : ∀ (m : Nat) (i : Nat) (j : Int) (x4 x10 x17 : Option V), i < m → j = (i : Int) - 1 → i ≤ s.size → lastF s ch i = lastF s ch s.size →
      zEv (leaveX (mkR Tryd.prog cfg ok [0, 1, 4, 5, 10, 17] H.length) .pure H [ResultVar.tmp 4]) (mkR Tryd.prog cfg ok [0, 1, 4, 5, 10, 17] H.length) (K.code (Code.loop c) :: K.blk 0 :: R) .nrm [some (.str s), some (.int .u8 ch), x4, some (.int .i64 j), x10, x17] (H) = some (.int .i64 (lastF s ch s.size), H) := by
    intro m
    induction m with
    | zero => intro i j x4 x10 x17 hm; omega
    | succ m ih =>
      intro i j x4 x10 x17 hm hj hi hf
      subst hj
      rw [zEv_round hc, ← hR]
      simp (config := {contextual := true, maxSteps := 10000000, implicitDefEqProofs := false}) (disch := first | (and_intros <;> omega -splitDisjunctions) | (simp only [List.length_set, List.length_append, List.length_cons, List.length_nil]; and_intros <;> omega -splitDisjunctions) | fail) only [Tryd.f161, go_sem, ↓reduceIte, Nat.reduceEqDiff, Nat.reduceAdd, Nat.reduceMul, Nat.reduceLT, Nat.reduceLeDiff, reduceCtorEq, Int.reduceNe, Int.reduceEq, Int.reduceLT, Int.reduceLE, Int.reduceAdd, Int.reduceSub, Int.reduceMul, Int.reduceNeg, Int.reduceToNat, UInt8.reduceToNat, natLit, ty3, ty5, ty9]
      try rw [hR]
      cases i with
      | zero => rw [if_neg (by omega), ← hf]; rfl
      | succ i =>
        rw [if_pos (by omega)]
        have e : ((i + 1 : Nat) : Int) - 1 = i := by omega
        have h2 : lastF s ch (i + 1) = if bA s i = ch then (i : Int) else lastF s ch i := rfl
        rw [e] at *
        rw [h2] at hf
        refine ite_E (fun h => ?_) (fun h => ?_)
        · rw [if_pos h] at hf; rw [← hf]
        · rw [if_neg h] at hf
          exact ih i _ _ _ _ (by omega) rfl (by omega) hf
  exact key (s.size + 1) s.size _ _ _ _ (by omega) rfl (by omega) rfl
theorem run_lastB (s : ByteArray) (ch : Int) (fl : Nat) (H : LH) (hs : s.size ≤ 1099511627776) : run 147 [.str s, .int .u8 ch] fl H = some (.int .i64 (lastF s ch s.size), H) := by
  have e1 := fun fl H => run_lastS s ch fl H hs
  unfold run at *
  rw [Run_z Tryd.func147 rfl (by rfl : ok 147 = true) (by rfl : cfg.keep 147 = [0, 1, 4]) (by rfl : cfg.mode 147 = .pure) (by rfl : cfg.ord 147 = [])]
  simp (config := {contextual := true, maxSteps := 10000000, implicitDefEqProofs := false}) (disch := first | (and_intros <;> omega -splitDisjunctions) | (simp only [List.length_set, List.length_append, List.length_cons, List.length_nil]; and_intros <;> omega -splitDisjunctions) | fail) only [e1, Tryd.f147, go_sem, ↓reduceIte, Nat.reduceEqDiff, Nat.reduceAdd, Nat.reduceMul, Nat.reduceLT, Nat.reduceLeDiff, reduceCtorEq, Int.reduceNe, Int.reduceEq, Int.reduceLT, Int.reduceLE, Int.reduceAdd, Int.reduceSub, Int.reduceMul, Int.reduceNeg, Int.reduceToNat, UInt8.reduceToNat, natLit]
theorem run_LineAt (s : ByteArray) (p : Int) (fl : Nat) (H : LH) (hs : s.size ≤ 1099511627776) : run 130 [.str s, .int .i64 p] fl H = some (.int .i64 (lnN s (spt s p)), H) := by
  have e1 := fun fl H => run_spot s p fl H hs
  have h1 := spt_le s p
  have hz : (s.extract 0 (spt s p)).size = spt s p := by rw [exts_size h1]; omega
  have e2 := fun fl H => run_lastB (s.extract 0 (spt s p)) 10 fl H (by omega)
  rw [hz] at e2
  have e3 := lastF_ln h1 (spt s p) (Nat.le_refl _)
  have e4 := lnN_le s (spt s p)
  unfold run at *
  rw [Run_z Tryd.func130 rfl (by rfl : ok 130 = true) (by rfl : cfg.keep 130 = [0, 1, 4]) (by rfl : cfg.mode 130 = .pure) (by rfl : cfg.ord 130 = [])]
  simp (config := {contextual := true, maxSteps := 10000000, implicitDefEqProofs := false}) (disch := first | (and_intros <;> omega -splitDisjunctions) | (simp only [List.length_set, List.length_append, List.length_cons, List.length_nil]; and_intros <;> omega -splitDisjunctions) | fail) only [e1, e2, e3, Tryd.f130, go_sem, ↓reduceIte, Nat.reduceEqDiff, Nat.reduceAdd, Nat.reduceMul, Nat.reduceLT, Nat.reduceLeDiff, reduceCtorEq, Int.reduceNe, Int.reduceEq, Int.reduceLT, Int.reduceLE, Int.reduceAdd, Int.reduceSub, Int.reduceMul, Int.reduceNeg, Int.reduceToNat, UInt8.reduceToNat, natLit, ty3, ty9]
theorem run_LineAtN (s : ByteArray) (q : Nat) (fl : Nat) (H : LH) (hq : q ≤ s.size) (hs : s.size ≤ 1099511627776) : run 130 [.str s, .int .i64 (q : Int)] fl H = some (.int .i64 (lnN s q), H) := by
  have := run_LineAt s q fl H hs
  rwa [spt_in hq] at this
theorem run_White (s : ByteArray) (p : Int) (fl : Nat) (H : LH) (hs : s.size ≤ 1099511627776) : run 106 [.str s, .int .i64 p] fl H = some (.int .i64 (wtN s (spt s p)), H) := by
  have e1 := fun fl H => run_spot s p fl H hs
  have e2 := fun q (h : (0 : Int) ≤ q) fl H => run_byteAt s q fl H h hs
  have e3 := fun b fl H => run_isWhite b fl H
  have h1 := spt_le s p
  generalize spt s p = q0 at *
  unfold run at *
  rw [Run_z Tryd.func106 rfl (by rfl : ok 106 = true) (by rfl : cfg.keep 106 = [0, 1, 4, 11]) (by rfl : cfg.mode 106 = .pure) (by rfl : cfg.ord 106 = [])]
  simp (config := {contextual := true, maxSteps := 10000000, implicitDefEqProofs := false}) (disch := first | (and_intros <;> omega -splitDisjunctions) | (simp only [List.length_set, List.length_append, List.length_cons, List.length_nil]; and_intros <;> omega -splitDisjunctions) | fail) only [e1, Tryd.f106, go_sem, ↓reduceIte, Nat.reduceEqDiff, Nat.reduceAdd, Nat.reduceMul, Nat.reduceLT, Nat.reduceLeDiff, reduceCtorEq, Int.reduceNe, Int.reduceEq, Int.reduceLT, Int.reduceLE, Int.reduceAdd, Int.reduceSub, Int.reduceMul, Int.reduceNeg, Int.reduceToNat, UInt8.reduceToNat, natLit, ty3]
  refine at_loopE fun c R hc hR => ?_
  have key : ∀ (m : Nat) (q : Nat) (j : Int) (x4 x11 : Option V), s.size - q < m → j = (q : Int) → q ≤ s.size → wtN s q = wtN s q0 →
      zEv (leaveX (mkR Tryd.prog cfg ok [0, 1, 4, 11] H.length) .pure H [ResultVar.tmp 4]) (mkR Tryd.prog cfg ok [0, 1, 4, 11] H.length) (K.code (Code.loop c) :: K.blk 0 :: R) .nrm [some (.str s), some (.int .i64 j), x4, x11] (H) = some (.int .i64 (wtN s q0), H) := by
    intro m
    induction m with
    | zero => intro q j x4 x11 hm; omega
    | succ m ih =>
      intro q j x4 x11 hm hj hq hf
      subst hj
      rw [zEv_round hc, ← hR]
      simp (config := {contextual := true, maxSteps := 10000000, implicitDefEqProofs := false}) (disch := first | (and_intros <;> omega -splitDisjunctions) | (simp only [List.length_set, List.length_append, List.length_cons, List.length_nil]; and_intros <;> omega -splitDisjunctions) | fail) only [e2, e3, Tryd.f106, go_sem, ↓reduceIte, Nat.reduceEqDiff, Nat.reduceAdd, Nat.reduceMul, Nat.reduceLT, Nat.reduceLeDiff, reduceCtorEq, Int.reduceNe, Int.reduceEq, Int.reduceLT, Int.reduceLE, Int.reduceAdd, Int.reduceSub, Int.reduceMul, Int.reduceNeg, Int.reduceToNat, UInt8.reduceToNat, natLit, ty3]
      try rw [hR]
      refine ite_E (fun h => ?_) (fun h => ?_)
      · have hlt : q < s.size := by rcases h with h | h <;> exact bA_in' h (by omega)
        rw [wtN_go h] at hf
        exact ih (q + 1) ((q : Int) + 1) _ _ (by omega) rfl (by omega) hf
      · rw [wtN_here h] at hf
        rw [hf]
  exact key (s.size + 1) q0 _ _ _ (by omega) rfl h1 rfl
theorem run_WhiteN (s : ByteArray) (q : Nat) (fl : Nat) (H : LH) (hq : q ≤ s.size) (hs : s.size ≤ 1099511627776) : run 106 [.str s, .int .i64 (q : Int)] fl H = some (.int .i64 (wtN s q), H) := by
  have := run_White s q fl H hs
  rwa [spt_in hq] at this
theorem run_MarkAt (s : ByteArray) (p : Int) (fl : Nat) (H : LH) (hs : s.size ≤ 1099511627776) : run 105 [.str s, .int .i64 p] fl H = some (.int .i64 (markN s (spt s p)), H) := by
  have e1 := fun fl H => run_spot s p fl H hs
  have h1 := spt_le s p
  generalize spt s p = q at *
  have e2 := fun fl H => run_LineAtN s q fl H h1 hs
  have e3 := fun fl H => run_gapAt s ((q + 3 : Nat) : Int) fl H (by omega) hs
  have h2 := lnN_le s q
  rw [show ((q + 3 : Nat) : Int) = (q : Int) + 3 by omega] at e3
  have hg : gapP s ((q + 3 : Nat) : Int) = gapP s ((q : Int) + 3) := by rw [show ((q + 3 : Nat) : Int) = (q : Int) + 3 by omega]
  unfold run at *
  rw [Run_z Tryd.func105 rfl (by rfl : ok 105 = true) (by rfl : cfg.keep 105 = [0, 1, 4, 26, 31, 32, 34]) (by rfl : cfg.mode 105 = .pure) (by rfl : cfg.ord 105 = [])]
  unfold markN
  simp only [hg]
  have d1 : ((lnN s q : Int) = q) = (lnN s q = q) := propext ⟨fun h => by omega, fun h => by omega⟩
  have d2 : ((s.size : Int) - q < 3) = (s.size < q + 3) := propext ⟨fun h => by omega, fun h => by omega⟩
  rcases Nat.lt_or_ge s.size (q + 3) with h | h
  · have t1 : ((s.size : Int) - q < 3) = True := eq_true (by omega)
    simp (config := {contextual := true, maxSteps := 10000000, implicitDefEqProofs := false}) (disch := first | (and_intros <;> omega -splitDisjunctions) | (simp only [List.length_set, List.length_append, List.length_cons, List.length_nil]; and_intros <;> omega -splitDisjunctions) | fail) only [e1, e2, e3, t1, Tryd.f105, go_sem, ↓reduceIte, Nat.reduceEqDiff, Nat.reduceAdd, Nat.reduceMul, Nat.reduceLT, Nat.reduceLeDiff, reduceCtorEq, Int.reduceNe, Int.reduceEq, Int.reduceLT, Int.reduceLE, Int.reduceAdd, Int.reduceSub, Int.reduceMul, Int.reduceNeg, Int.reduceToNat, UInt8.reduceToNat, natLit, ty3, ty4, ty9]
    rw [if_pos (.inl (.inr h))]
  · have t1 : ((s.size : Int) - q < 3) = False := eq_false (by omega)
    have t2 : ¬ s.size < q + 3 := by omega
    have t3 : ((q : Int) + 3).toNat = q + 3 := by omega
    simp (config := {contextual := true, maxSteps := 10000000, implicitDefEqProofs := false}) (disch := first | (and_intros <;> omega -splitDisjunctions) | (simp only [List.length_set, List.length_append, List.length_cons, List.length_nil]; and_intros <;> omega -splitDisjunctions) | fail) only [e1, e2, e3, t1, t3, d1, Tryd.f105, go_sem, ↓reduceIte, Nat.reduceEqDiff, Nat.reduceAdd, Nat.reduceMul, Nat.reduceLT, Nat.reduceLeDiff, reduceCtorEq, Int.reduceNe, Int.reduceEq, Int.reduceLT, Int.reduceLE, Int.reduceAdd, Int.reduceSub, Int.reduceMul, Int.reduceNeg, Int.reduceToNat, UInt8.reduceToNat, natLit, ty3, ty4, ty9]
    grind
theorem run_MarkAtN (s : ByteArray) (q : Nat) (fl : Nat) (H : LH) (hq : q ≤ s.size) (hs : s.size ≤ 1099511627776) : run 105 [.str s, .int .i64 (q : Int)] fl H = some (.int .i64 (markN s q), H) := by
  have := run_MarkAt s q fl H hs
  rwa [spt_in hq] at this
end Go.Proofs.YtcbjmggbbnpbpaaDoor.Lg
