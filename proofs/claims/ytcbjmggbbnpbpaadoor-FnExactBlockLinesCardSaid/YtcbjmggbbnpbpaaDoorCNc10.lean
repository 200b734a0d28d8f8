/- CanWrite in the reference. No condition. -/
import Derived.Test.YtcbjmggbbnpbpaaDoorCNc9
namespace Go.Proofs.YtcbjmggbbnpbpaaDoor.Lg
set_option linter.unusedSimpArgs false
set_option linter.unusedVariables false
set_option maxRecDepth 100000
set_option maxHeartbeats 40000000
open Go.Proofs.YtcbjmggbbnpbpaaDoor

theorem run_spCanWrite {v : V} {es : List Ev} {H : LH} (h : At H evC 8 v es) (hes : ∀ e ∈ es, evCFit e) (hl : es.length ≤ 1048576) (ht : ∀ e ∈ es, e.text.size ≤ 16777216) (fl : Nat) :
    run 15 [v] fl H = some (.bool (cwM es), H) := by
  have n2 := fun fl => run_spWhole h hes hl fl
  have i1 := h.isTup; have i2 := h.len; have i3 := h.lenOk ty39; have i4 := h.one
  obtain ⟨Z, hZ⟩ : ∃ Z, cwM es = Z := ⟨_, rfl⟩
  rw [hZ]
  unfold cwM at hZ
  by_cases hn : wholeM es = true
  rotate_left
  · have hn : wholeM es = false := by simpa using hn
    rw [hn] at n2 hZ
    unfold run at *
    rw [Run_z Tryd.func15 rfl (by rfl : ok 15 = true) (by rfl : cfg.keep 15 = [0, 2, 3, 4, 5, 6, 7, 10, 11, 12, 13, 14, 20, 22, 27, 31, 34, 37, 38, 39, 40, 53]) (by rfl : cfg.mode 15 = .pure) (by rfl : cfg.ord 15 = [])]
    simp (config := {contextual := true, maxSteps := 10000000, implicitDefEqProofs := false}) (disch := first | (and_intros <;> omega -splitDisjunctions) | (simp only [List.length_set, List.length_append, List.length_cons, List.length_nil]; and_intros <;> omega -splitDisjunctions) | fail) only [n2, i1, Tryd.f15, go_sem, ↓reduceIte, Nat.reduceEqDiff, Nat.reduceAdd, Nat.reduceMul, Nat.reduceLT, Nat.reduceLeDiff, reduceCtorEq, Int.reduceNe, Int.reduceEq, Int.reduceLT, Int.reduceLE, Int.reduceAdd, Int.reduceSub, Int.reduceMul, Int.reduceNeg, Int.reduceToNat, UInt8.reduceToNat, natLit, ty3, ty4, ty9, ty39, ty65, ty67]
    rw [← hZ]; rfl
  rw [hn, Bool.true_and, ← cw_same hn] at hZ
  rw [hn] at n2
  have hn2 : nestedM es = true := by
    unfold wholeM tiedM at hn
    simp only [Bool.and_eq_true] at hn
    exact hn.1.1
  have hB := nestedM_bal hn2
  unfold run at *
  rw [Run_z Tryd.func15 rfl (by rfl : ok 15 = true) (by rfl : cfg.keep 15 = [0, 2, 3, 4, 5, 6, 7, 10, 11, 12, 13, 14, 20, 22, 27, 31, 34, 37, 38, 39, 40, 53]) (by rfl : cfg.mode 15 = .pure) (by rfl : cfg.ord 15 = [])]
  simp (config := {contextual := true, maxSteps := 10000000, implicitDefEqProofs := false}) (disch := first | (and_intros <;> omega -splitDisjunctions) | (simp only [List.length_set, List.length_append, List.length_cons, List.length_nil]; and_intros <;> omega -splitDisjunctions) | fail) only [n2, i1, i2, i3, i4, Tryd.f15, go_sem, ↓reduceIte, Nat.reduceEqDiff, Nat.reduceAdd, Nat.reduceMul, Nat.reduceLT, Nat.reduceLeDiff, reduceCtorEq, Int.reduceNe, Int.reduceEq, Int.reduceLT, Int.reduceLE, Int.reduceAdd, Int.reduceSub, Int.reduceMul, Int.reduceNeg, Int.reduceToNat, UInt8.reduceToNat, natLit, ty3, ty4, ty9, ty39, ty65, ty67]
  refine at_loopE fun c R hc hR => ?_
  have key : ∀ (m : Nat) (k : Nat) (kk oo : Int) (B : LH) (x2 x4 x5 x6 x7 x10 x14 x20 x22 x27 x31 x34 x37 x38 x39 x40 x53 : Option V), es.length - k < m → kk = k → k ≤ es.length → Hx H B → oo = ((stk es k).length : Nat) → ((List.range es.length).drop k).all (cwS es) = Z →
      zEv (leaveX (mkR Tryd.prog cfg ok [0, 2, 3, 4, 5, 6, 7, 10, 11, 12, 13, 14, 20, 22, 27, 31, 34, 37, 38, 39, 40, 53] H.length) .pure H [ResultVar.tmp 2]) (mkR Tryd.prog cfg ok [0, 2, 3, 4, 5, 6, 7, 10, 11, 12, 13, 14, 20, 22, 27, 31, 34, 37, 38, 39, 40, 53] H.length) (K.code (Code.loop c) :: K.blk 0 :: R) .nrm [some v, x2, some (.int .i64 oo), x4, x5, x6, x7, x10, some v, some (.int .i64 es.length), some (.int .i64 kk), x14, x20, x22, x27, x31, x34, x37, x38, x39, x40, x53] (B) = some (.bool Z, H) := by
    intro m
    induction m with
    | zero => intro k kk oo B x2 x4 x5 x6 x7 x10 x14 x20 x22 x27 x31 x34 x37 x38 x39 x40 x53 hm; omega
    | succ m ih =>
      intro k kk oo B x2 x4 x5 x6 x7 x10 x14 x20 x22 x27 x31 x34 x37 x38 x39 x40 x53 hm hk hkl hx ho hz
      subst hk
      have hlB := hx.len
      by_cases hlt : k < es.length
      rotate_left
      · have t1 : ((k : Int) < es.length) = False := eq_false (by omega)
        rw [range_end (by omega)] at hz
        rw [zEv_round hc, ← hR]
        simp (config := {contextual := true, maxSteps := 10000000, implicitDefEqProofs := false}) (disch := first | (and_intros <;> omega -splitDisjunctions) | (simp only [List.length_set, List.length_append, List.length_cons, List.length_nil]; and_intros <;> omega -splitDisjunctions) | fail) only [t1, Tryd.f15, go_sem, ↓reduceIte, Nat.reduceEqDiff, Nat.reduceAdd, Nat.reduceMul, Nat.reduceLT, Nat.reduceLeDiff, reduceCtorEq, Int.reduceNe, Int.reduceEq, Int.reduceLT, Int.reduceLE, Int.reduceAdd, Int.reduceSub, Int.reduceMul, Int.reduceNeg, Int.reduceToNat, UInt8.reduceToNat, natLit, ty3, ty4, ty9, ty39, ty65, ty67]
        rw [← hz]; rfl
      have t1 : ((k : Int) < es.length) = True := eq_true (by omega)
      have rB := h.ext hx
      have f1 := rB.isTup; have f2 := rB.len; have f3 := rB.lenOk ty39; have f0 := rB.one
      have f4 := fun hp => rB.con hp
      have f5 := rB.idx (T := ty Tryd.prog) (t := 39) (by simp only [elemI, sizeO, ty3, ty4, ty9, ty39, ty65])
      have f6 := rB.loadD evC_len evZ
      have g6 := f6 k hlt
      have hfe := hes _ (show es.getD k evZ ∈ es by rw [getD_of hlt]; exact List.getElem_mem _)
      have hft := ht _ (show es.getD k evZ ∈ es by rw [getD_of hlt]; exact List.getElem_mem _)
      have n1 := fun fl H => run_l20Event (es.getD k evZ) fl H hfe hft
      have n3 := fun fl H => run_l13Coll (es.getD k evZ) fl H
      rw [range_drop hlt, List.all_cons] at hz
      have hslen := stk_len es k
      have hslen1 := stk_len es (k + 1)
      have hs1 : stk es (k + 1) = if isC (evA es k) then stk es k ++ [k] else if kd es k = 7 then (stk es k).dropLast else stk es k := rfl
      obtain ⟨sl, hsl⟩ : ∃ n, (stk es (k + 1)).length = n := ⟨_, rfl⟩
      have hcS : cwS es k = (wrE (es.getD k evZ) && decide (sl ≤ 40) && keysB es k) := by unfold cwS; rw [hsl]
      have hkB : ¬ (es.getD k evZ).kind = 4 → keysB es k = true := fun h => by unfold keysB; rw [decide_eq_false (show ¬ kd es k = 4 from h)]; rfl
      by_cases hw : wrE (es.getD k evZ) = true
      rotate_left
      · have hw : wrE (es.getD k evZ) = false := by simpa using hw
        rw [hcS, hw, Bool.false_and, Bool.false_and, Bool.false_and] at hz
        rw [hw] at n1
        unfold run evC at *
        rw [zEv_round hc, ← hR]
        simp (config := {contextual := true, maxSteps := 10000000, implicitDefEqProofs := false}) (disch := first | (and_intros <;> omega -splitDisjunctions) | (simp only [List.length_set, List.length_append, List.length_cons, List.length_nil]; and_intros <;> omega -splitDisjunctions) | fail) only [t1, g6, n1, f0, f1, f2, f3, f4, f5, f6, Tryd.f15, go_sem, ↓reduceIte, Nat.reduceEqDiff, Nat.reduceAdd, Nat.reduceMul, Nat.reduceLT, Nat.reduceLeDiff, reduceCtorEq, Int.reduceNe, Int.reduceEq, Int.reduceLT, Int.reduceLE, Int.reduceAdd, Int.reduceSub, Int.reduceMul, Int.reduceNeg, Int.reduceToNat, UInt8.reduceToNat, natLit, ty3, ty4, ty9, ty39, ty65, ty67]
        rw [← hz]
      rw [hw] at n1
      rw [hw, Bool.true_and] at hcS
      rw [hcS] at hz
      by_cases hC : isC (evA es k)
      · have hC2 : (es.getD k evZ).kind = 3 ∨ (es.getD k evZ).kind = 4 := hC
        have h7 : ¬ (es.getD k evZ).kind = 7 := by omega
        rw [if_pos hC] at hs1
        have hol : oo + 1 = sl := by rw [ho, ← hsl, hs1, List.length_append, List.length_singleton]; omega
        rw [decide_eq_true (show isC (es.getD k evZ) from hC)] at n3
        by_cases hg : sl ≤ 40
        rotate_left
        · have t7 : ((sl : Int) > 40) = True := eq_true (by omega)
          rw [decide_eq_false hg, Bool.false_and, Bool.false_and] at hz
          unfold run evC at *
          rw [zEv_round hc, ← hR]
          simp (config := {contextual := true, maxSteps := 10000000, implicitDefEqProofs := false}) (disch := first | (and_intros <;> omega -splitDisjunctions) | (simp only [List.length_set, List.length_append, List.length_cons, List.length_nil]; and_intros <;> omega -splitDisjunctions) | fail) only [t1, t7, hol, h7, g6, n1, n3, f0, f1, f2, f3, f4, f5, f6, Tryd.f15, go_sem, ↓reduceIte, Nat.reduceEqDiff, Nat.reduceAdd, Nat.reduceMul, Nat.reduceLT, Nat.reduceLeDiff, reduceCtorEq, Int.reduceNe, Int.reduceEq, Int.reduceLT, Int.reduceLE, Int.reduceAdd, Int.reduceSub, Int.reduceMul, Int.reduceNeg, Int.reduceToNat, UInt8.reduceToNat, natLit, ty3, ty4, ty9, ty39, ty65, ty67]
          rw [← hz]
        have t7 : ((sl : Int) > 40) = False := eq_false (by omega)
        by_cases h4 : (es.getD k evZ).kind = 4
        rotate_left
        · rw [hkB h4, decide_eq_true hg, Bool.true_and, Bool.true_and] at hz
          unfold run evC at *
          rw [zEv_round hc, ← hR]
          simp (config := {contextual := true, maxSteps := 10000000, implicitDefEqProofs := false}) (disch := first | (and_intros <;> omega -splitDisjunctions) | (simp only [List.length_set, List.length_append, List.length_cons, List.length_nil]; and_intros <;> omega -splitDisjunctions) | fail) only [t1, t7, hol, h7, h4, g6, n1, n3, f0, f1, f2, f3, f4, f5, f6, Tryd.f15, go_sem, ↓reduceIte, Nat.reduceEqDiff, Nat.reduceAdd, Nat.reduceMul, Nat.reduceLT, Nat.reduceLeDiff, reduceCtorEq, Int.reduceNe, Int.reduceEq, Int.reduceLT, Int.reduceLE, Int.reduceAdd, Int.reduceSub, Int.reduceMul, Int.reduceNeg, Int.reduceToNat, UInt8.reduceToNat, natLit, ty3, ty4, ty9, ty39, ty65, ty67]
          rw [hR]
          exact ih (k + 1) ((k : Int) + 1) sl _ _ _ _ _ _ _ _ _ _ _ _ _ _ _ _ _ _ (by omega) (by omega) (by omega) (hx.trans Hx.app) (by rw [hsl]) hz
        have hxX : Hx H (B ++ [.cells (evC (es.getD k evZ))]) := hx.trans Hx.app
        obtain ⟨w0, C, e7, xC, oC⟩ := run_l13Kids (h.ext hxX) hl hlt H.length
        have hxC : Hx H C := hxX.trans xC
        have hki := kidsF_in es hlt
        have hkl2 := kidsF_len es hlt
        have hkz : (keyG es 0 (kidsF es k) && ((List.range es.length).drop (k + 1)).all (cwS es)) = Z := by
          rw [← hz]
          unfold keysB
          rw [decide_eq_true (show kd es k = 4 from h4), decide_eq_true hg]; rfl
        generalize kidsF es k = xs at *
        have aC := oC.at inN_len
        have w1 := aC.isTup; have w2 := aC.len; have w3 := aC.lenOk ty67; have w4 := aC.one
        have w6 := aC.idx (T := ty Tryd.prog) (t := 67) (by simp only [elemI, sizeO, ty3, ty67])
        unfold run evC at *
        simp only [h4] at n1 n3 g6 e7
        rw [zEv_round hc, ← hR]
        simp (config := {contextual := true, maxSteps := 10000000, implicitDefEqProofs := false}) (disch := first | (and_intros <;> omega -splitDisjunctions) | (simp only [List.length_set, List.length_append, List.length_cons, List.length_nil]; and_intros <;> omega -splitDisjunctions) | fail) only [t1, t7, hol, g6, n1, n3, e7, w1, w2, w3, w4, f0, f1, f2, f3, f4, f5, f6, Tryd.f15, go_sem, ↓reduceIte, Nat.reduceEqDiff, Nat.reduceAdd, Nat.reduceMul, Nat.reduceLT, Nat.reduceLeDiff, reduceCtorEq, Int.reduceNe, Int.reduceEq, Int.reduceLT, Int.reduceLE, Int.reduceAdd, Int.reduceSub, Int.reduceMul, Int.reduceNeg, Int.reduceToNat, UInt8.reduceToNat, natLit, ty3, ty4, ty9, ty39, ty65, ty67]
        rw [hR]
        refine at_loopE fun c5 R5 hc5 hR5 => ?_
        have key5 : ∀ (m : Nat) (j : Nat) (jj : Int) (x2 x4 x5 x6 x7 x10 x14 x20 x22 x27 x31 x34 x40 x53 : Option V), xs.length - j < m → jj = j → j ≤ xs.length → (keyG es j (xs.drop j) && ((List.range es.length).drop (k + 1)).all (cwS es)) = Z →
            zEv (leaveX (mkR Tryd.prog cfg ok [0, 2, 3, 4, 5, 6, 7, 10, 11, 12, 13, 14, 20, 22, 27, 31, 34, 37, 38, 39, 40, 53] H.length) .pure H [ResultVar.tmp 2]) (mkR Tryd.prog cfg ok [0, 2, 3, 4, 5, 6, 7, 10, 11, 12, 13, 14, 20, 22, 27, 31, 34, 37, 38, 39, 40, 53] H.length) (K.code (Code.loop c5) :: K.blk 2 :: R5) .nrm [some v, x2, some (.int .i64 sl), x4, x5, x6, x7, x10, some v, some (.int .i64 es.length), some (.int .i64 k), x14, x20, x22, x27, x31, x34, some w0, some (.int .i64 xs.length), some (.int .i64 jj), x40, x53] (C) = some (.bool Z, H) := by
          intro m
          induction m with
          | zero => intro j jj x2 x4 x5 x6 x7 x10 x14 x20 x22 x27 x31 x34 x40 x53 hm; omega
          | succ m ih5 =>
            intro j jj x2 x4 x5 x6 x7 x10 x14 x20 x22 x27 x31 x34 x40 x53 hm hj hjl hzz
            subst hj
            by_cases hlj : j < xs.length
            rotate_left
            · have t5 : ((j : Int) < xs.length) = False := eq_false (by omega)
              rw [keyG_end (by omega), Bool.true_and] at hzz
              rw [zEv_round hc5, ← hR5]
              simp (config := {contextual := true, maxSteps := 10000000, implicitDefEqProofs := false}) (disch := first | (and_intros <;> omega -splitDisjunctions) | (simp only [List.length_set, List.length_append, List.length_cons, List.length_nil]; and_intros <;> omega -splitDisjunctions) | fail) only [t5, Tryd.f15, go_sem, ↓reduceIte, Nat.reduceEqDiff, Nat.reduceAdd, Nat.reduceMul, Nat.reduceLT, Nat.reduceLeDiff, reduceCtorEq, Int.reduceNe, Int.reduceEq, Int.reduceLT, Int.reduceLE, Int.reduceAdd, Int.reduceSub, Int.reduceMul, Int.reduceNeg, Int.reduceToNat, UInt8.reduceToNat, natLit, ty3, ty4, ty9, ty39, ty65, ty67]
              exact ih (k + 1) ((k : Int) + 1) sl C _ _ _ _ _ _ _ _ _ _ _ _ _ _ _ _ _ (by omega) (by omega) (by omega) hxC (by rw [hsl]) hzz
            have t5 : ((j : Int) < xs.length) = True := eq_true (by omega)
            have hxi := hki (xs.getD j 0) (by rw [getD_of hlj]; exact List.getElem_mem _)
            have rBC := h.ext hxC
            have y1 := rBC.isTup; have y2 := rBC.len; have y3 := rBC.lenOk ty39; have y0 := rBC.one
            have y4 := fun hp => rBC.con hp
            have y5 := rBC.idx (T := ty Tryd.prog) (t := 39) (by simp only [elemI, sizeO, ty3, ty4, ty9, ty39, ty65])
            have y6 := rBC.loadD evC_len evZ
            have y6 := y6 (xs.getD j 0) hxi.2.1
            have s1 := fun n K => aC.load1 0 (fun x => .int .i64 (x : Nat)) (fun _ => rfl) j hlj n K
            have s2 := aC.con (by omega)
            have n4 := fun fl H => run_l13Coll (es.getD (xs.getD j 0) evZ) fl H
            have hxl := hxi.2.1
            rw [keyG_drop hlj] at hzz
            have t6 := tmod2 j
            by_cases hp : j % 2 = 0
            · rw [eq_true hp] at t6
              rw [decide_eq_true hp, Bool.true_and] at hzz
              unfold run evC at n4
              rw [zEv_round hc5, ← hR5]
              simp (config := {contextual := true, maxSteps := 10000000, implicitDefEqProofs := false}) (disch := first | (and_intros <;> omega -splitDisjunctions) | (simp only [List.length_set, List.length_append, List.length_cons, List.length_nil]; and_intros <;> omega -splitDisjunctions) | fail) only [t5, t6, s1, s2, y6, n4, w1, w2, w3, w4, w6, hxl, y0, y1, y2, y3, y4, y5, y6, Tryd.f15, go_sem, ↓reduceIte, Nat.reduceEqDiff, Nat.reduceAdd, Nat.reduceMul, Nat.reduceLT, Nat.reduceLeDiff, reduceCtorEq, Int.reduceNe, Int.reduceEq, Int.reduceLT, Int.reduceLE, Int.reduceAdd, Int.reduceSub, Int.reduceMul, Int.reduceNeg, Int.reduceToNat, UInt8.reduceToNat, natLit, ty3, ty4, ty9, ty39, ty65, ty67]
              rw [hR5]
              refine ite_E (fun w => ?_) (fun w => ?_)
              · rw [decide_eq_true (show isC (evA es (xs.getD j 0)) from w)] at hzz
                rw [← hR]
                simp (config := {contextual := true, maxSteps := 10000000, implicitDefEqProofs := false}) (disch := first | (and_intros <;> omega -splitDisjunctions) | (simp only [List.length_set, List.length_append, List.length_cons, List.length_nil]; and_intros <;> omega -splitDisjunctions) | fail) only [Tryd.f15, go_sem, ↓reduceIte, Nat.reduceEqDiff, Nat.reduceAdd, Nat.reduceMul, Nat.reduceLT, Nat.reduceLeDiff, reduceCtorEq, Int.reduceNe, Int.reduceEq, Int.reduceLT, Int.reduceLE, Int.reduceAdd, Int.reduceSub, Int.reduceMul, Int.reduceNeg, Int.reduceToNat, UInt8.reduceToNat, natLit, ty3, ty4, ty9, ty39, ty65, ty67]
                rw [← hzz]; rfl
              · rw [decide_eq_false (show ¬ isC (evA es (xs.getD j 0)) from w)] at hzz
                exact ih5 (j + 1) ((j : Int) + 1) _ _ _ _ _ _ _ _ _ _ _ _ _ _ (by omega) (by omega) (by omega) hzz
            · rw [eq_false hp] at t6
              rw [decide_eq_false hp, Bool.false_and] at hzz
              rw [zEv_round hc5, ← hR5]
              simp (config := {contextual := true, maxSteps := 10000000, implicitDefEqProofs := false}) (disch := first | (and_intros <;> omega -splitDisjunctions) | (simp only [List.length_set, List.length_append, List.length_cons, List.length_nil]; and_intros <;> omega -splitDisjunctions) | fail) only [t5, t6, s1, s2, y6, w1, w2, w3, w4, w6, hxl, y0, y1, y2, y3, y4, y5, y6, Tryd.f15, go_sem, ↓reduceIte, Nat.reduceEqDiff, Nat.reduceAdd, Nat.reduceMul, Nat.reduceLT, Nat.reduceLeDiff, reduceCtorEq, Int.reduceNe, Int.reduceEq, Int.reduceLT, Int.reduceLE, Int.reduceAdd, Int.reduceSub, Int.reduceMul, Int.reduceNeg, Int.reduceToNat, UInt8.reduceToNat, natLit, ty3, ty4, ty9, ty39, ty65, ty67]
              rw [hR5]
              exact ih5 (j + 1) ((j : Int) + 1) _ _ _ _ _ _ _ _ _ _ _ _ _ _ (by omega) (by omega) (by omega) hzz
        exact key5 (xs.length + 1) 0 0 _ _ _ _ _ _ _ _ _ _ _ _ _ _ (by omega) rfl (by omega) (by rw [List.drop_zero]; exact hkz)
      · rw [if_neg hC] at hs1
        rw [decide_eq_false (show ¬ isC (es.getD k evZ) from hC)] at n3
        have h4 : ¬ (es.getD k evZ).kind = 4 := fun h => hC (.inr h)
        by_cases h7 : (es.getD k evZ).kind = 7
        · rw [if_pos h7] at hs1
          have hne := List.length_pos_iff.2 (hB k hlt h7)
          have hol : oo - 1 = sl := by rw [ho, ← hsl, hs1, List.length_dropLast]; omega
          by_cases hg : sl ≤ 40
          rotate_left
          · have t7 : ((sl : Int) > 40) = True := eq_true (by omega)
            rw [decide_eq_false hg, Bool.false_and, Bool.false_and] at hz
            unfold run evC at *
            simp only [h7] at n1 n3 g6
            rw [zEv_round hc, ← hR]
            simp (config := {contextual := true, maxSteps := 10000000, implicitDefEqProofs := false}) (disch := first | (and_intros <;> omega -splitDisjunctions) | (simp only [List.length_set, List.length_append, List.length_cons, List.length_nil]; and_intros <;> omega -splitDisjunctions) | fail) only [t1, t7, hol, g6, n1, n3, f0, f1, f2, f3, f4, f5, f6, Tryd.f15, go_sem, ↓reduceIte, Nat.reduceEqDiff, Nat.reduceAdd, Nat.reduceMul, Nat.reduceLT, Nat.reduceLeDiff, reduceCtorEq, Int.reduceNe, Int.reduceEq, Int.reduceLT, Int.reduceLE, Int.reduceAdd, Int.reduceSub, Int.reduceMul, Int.reduceNeg, Int.reduceToNat, UInt8.reduceToNat, natLit, ty3, ty4, ty9, ty39, ty65, ty67]
            rw [← hz]
          have t7 : ((sl : Int) > 40) = False := eq_false (by omega)
          skip
          rw [hkB h4, decide_eq_true hg, Bool.true_and, Bool.true_and] at hz
          unfold run evC at *
          simp only [h7] at n1 n3 g6
          rw [zEv_round hc, ← hR]
          simp (config := {contextual := true, maxSteps := 10000000, implicitDefEqProofs := false}) (disch := first | (and_intros <;> omega -splitDisjunctions) | (simp only [List.length_set, List.length_append, List.length_cons, List.length_nil]; and_intros <;> omega -splitDisjunctions) | fail) only [t1, t7, hol, h4, g6, n1, n3, f0, f1, f2, f3, f4, f5, f6, Tryd.f15, go_sem, ↓reduceIte, Nat.reduceEqDiff, Nat.reduceAdd, Nat.reduceMul, Nat.reduceLT, Nat.reduceLeDiff, reduceCtorEq, Int.reduceNe, Int.reduceEq, Int.reduceLT, Int.reduceLE, Int.reduceAdd, Int.reduceSub, Int.reduceMul, Int.reduceNeg, Int.reduceToNat, UInt8.reduceToNat, natLit, ty3, ty4, ty9, ty39, ty65, ty67]
          rw [hR]
          exact ih (k + 1) ((k : Int) + 1) sl _ _ _ _ _ _ _ _ _ _ _ _ _ _ _ _ _ _ (by omega) (by omega) (by omega) (hx.trans Hx.app) (by rw [hsl]) hz
        · rw [if_neg h7] at hs1
          have hol : oo = sl := by rw [ho, ← hsl, hs1]
          have hol0 : oo = sl := hol
          by_cases hg : sl ≤ 40
          rotate_left
          · have t7 : ((sl : Int) > 40) = True := eq_true (by omega)
            rw [decide_eq_false hg, Bool.false_and, Bool.false_and] at hz
            unfold run evC at *
            rw [zEv_round hc, ← hR]
            simp (config := {contextual := true, maxSteps := 10000000, implicitDefEqProofs := false}) (disch := first | (and_intros <;> omega -splitDisjunctions) | (simp only [List.length_set, List.length_append, List.length_cons, List.length_nil]; and_intros <;> omega -splitDisjunctions) | fail) only [t1, t7, hol, h7, g6, n1, n3, f0, f1, f2, f3, f4, f5, f6, Tryd.f15, go_sem, ↓reduceIte, Nat.reduceEqDiff, Nat.reduceAdd, Nat.reduceMul, Nat.reduceLT, Nat.reduceLeDiff, reduceCtorEq, Int.reduceNe, Int.reduceEq, Int.reduceLT, Int.reduceLE, Int.reduceAdd, Int.reduceSub, Int.reduceMul, Int.reduceNeg, Int.reduceToNat, UInt8.reduceToNat, natLit, ty3, ty4, ty9, ty39, ty65, ty67]
            rw [← hz]
          have t7 : ((sl : Int) > 40) = False := eq_false (by omega)
          skip
          rw [hkB h4, decide_eq_true hg, Bool.true_and, Bool.true_and] at hz
          unfold run evC at *
          rw [zEv_round hc, ← hR]
          simp (config := {contextual := true, maxSteps := 10000000, implicitDefEqProofs := false}) (disch := first | (and_intros <;> omega -splitDisjunctions) | (simp only [List.length_set, List.length_append, List.length_cons, List.length_nil]; and_intros <;> omega -splitDisjunctions) | fail) only [t1, t7, hol, h7, h4, g6, n1, n3, f0, f1, f2, f3, f4, f5, f6, Tryd.f15, go_sem, ↓reduceIte, Nat.reduceEqDiff, Nat.reduceAdd, Nat.reduceMul, Nat.reduceLT, Nat.reduceLeDiff, reduceCtorEq, Int.reduceNe, Int.reduceEq, Int.reduceLT, Int.reduceLE, Int.reduceAdd, Int.reduceSub, Int.reduceMul, Int.reduceNeg, Int.reduceToNat, UInt8.reduceToNat, natLit, ty3, ty4, ty9, ty39, ty65, ty67]
          rw [hR]
          exact ih (k + 1) ((k : Int) + 1) sl _ _ _ _ _ _ _ _ _ _ _ _ _ _ _ _ _ _ (by omega) (by omega) (by omega) (hx.trans Hx.app) (by rw [hsl]) hz
  exact key (es.length + 1) 0 0 0 H _ _ _ _ _ _ _ _ _ _ _ _ _ _ _ _ _ (by omega) rfl (by omega) (Hx.refl _) rfl (by rw [List.drop_zero]; exact hZ)
end Go.Proofs.YtcbjmggbbnpbpaaDoor.Lg
