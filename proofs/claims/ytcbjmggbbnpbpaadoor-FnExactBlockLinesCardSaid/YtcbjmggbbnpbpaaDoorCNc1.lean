/- Nested events: where a collection ends and what an alias is, in the reference. No condition. -/
import Derived.Test.YtcbjmggbbnpbpaaDoorCNsM2
namespace Go.Proofs.YtcbjmggbbnpbpaaDoor.Lg
set_option linter.unusedSimpArgs false
set_option linter.unusedVariables false
set_option maxRecDepth 100000
set_option maxHeartbeats 40000000
open Go.Proofs.YtcbjmggbbnpbpaaDoor

theorem run_l13Coll (e : Ev) (fl : Nat) (H : LH) : run 45 [.agg (evC e)] fl H = some (.bool (decide (isC e)), H) := by
  unfold run evC
  rw [Run_z Tryd.func45 rfl (by rfl : ok 45 = true) (by rfl : cfg.keep 45 = [0, 1, 2]) (by rfl : cfg.mode 45 = .pure) (by rfl : cfg.ord 45 = [])]
  simp (config := {contextual := true, maxSteps := 10000000, implicitDefEqProofs := false}) (disch := first | (and_intros <;> omega -splitDisjunctions) | (simp only [List.length_set, List.length_append, List.length_cons, List.length_nil]; and_intros <;> omega -splitDisjunctions) | fail) only [Tryd.f45, go_sem, ↓reduceIte, Nat.reduceEqDiff, Nat.reduceAdd, Nat.reduceMul, Nat.reduceLT, Nat.reduceLeDiff, reduceCtorEq, Int.reduceNe, Int.reduceEq, Int.reduceLT, Int.reduceLE, Int.reduceAdd, Int.reduceSub, Int.reduceMul, Int.reduceNeg, Int.reduceToNat, UInt8.reduceToNat, natLit, ty3, ty4, ty9, ty65]
  have : decide (isC e) = (decide (e.kind = 3) || decide (e.kind = 4)) := by rw [Bool.eq_iff_iff]; simp only [decide_eq_true_eq, Bool.or_eq_true]; exact Iff.rfl
  rw [this]
  by_cases h : e.kind = 3 <;> simp [h]
theorem run_l13Node (e : Ev) (fl : Nat) (H : LH) : run 58 [.agg (evC e)] fl H = some (.bool (decide (isN e)), H) := by
  unfold run evC
  rw [Run_z Tryd.func58 rfl (by rfl : ok 58 = true) (by rfl : cfg.keep 58 = [0, 1, 2]) (by rfl : cfg.mode 58 = .pure) (by rfl : cfg.ord 58 = [])]
  simp (config := {contextual := true, maxSteps := 10000000, implicitDefEqProofs := false}) (disch := first | (and_intros <;> omega -splitDisjunctions) | (simp only [List.length_set, List.length_append, List.length_cons, List.length_nil]; and_intros <;> omega -splitDisjunctions) | fail) only [Tryd.f58, go_sem, ↓reduceIte, Nat.reduceEqDiff, Nat.reduceAdd, Nat.reduceMul, Nat.reduceLT, Nat.reduceLeDiff, reduceCtorEq, Int.reduceNe, Int.reduceEq, Int.reduceLT, Int.reduceLE, Int.reduceAdd, Int.reduceSub, Int.reduceMul, Int.reduceNeg, Int.reduceToNat, UInt8.reduceToNat, natLit, ty3, ty4, ty9, ty65]
  have : decide (isN e) = (decide (3 ≤ e.kind) && decide (e.kind ≤ 6)) := by rw [Bool.eq_iff_iff]; simp only [decide_eq_true_eq, Bool.and_eq_true]; exact Iff.rfl
  rw [this]
  by_cases h : 3 ≤ e.kind <;> simp [h]
theorem run_l13End {v : V} {es : List Ev} {H : LH} (h : At H evC 8 v es) (hl : es.length ≤ 1048576) {i : Nat} (hi : i < es.length) (fl : Nat) :
    run 92 [v, .int .i64 i] fl H = some (.int .i64 (endF es i), H) := by
  have f1 := h.isTup; have f2 := h.len; have f3 := h.lenOk ty39; have f0 := h.one
  have f4 := fun hp => h.con hp
  have f5 := h.idx (T := ty Tryd.prog) (t := 39) (by simp only [elemI, sizeO, ty3, ty4, ty9, ty39, ty65])
  have f6 := h.loadD evC_len evZ
  have n1 := fun e fl H => run_l13Node e fl H
  have n2 := fun e fl H => run_l13Coll e fl H
  have g6 := f6 i hi
  unfold endF
  unfold run at *
  rw [Run_z Tryd.func92 rfl (by rfl : ok 92 = true) (by rfl : cfg.keep 92 = [0, 1, 4, 5, 6, 12, 17, 24, 32, 36]) (by rfl : cfg.mode 92 = .pure) (by rfl : cfg.ord 92 = [])]
  by_cases hn : isN (evA es i)
  rotate_left
  · have d1 : decide (isN (es.getD i evZ)) = false := decide_eq_false hn
    simp (config := {contextual := true, maxSteps := 10000000, implicitDefEqProofs := false}) (disch := first | (and_intros <;> omega -splitDisjunctions) | (simp only [List.length_set, List.length_append, List.length_cons, List.length_nil]; and_intros <;> omega -splitDisjunctions) | fail) only [f0, f1, f2, f3, f4, f5, f6, g6, n1, d1, Tryd.f92, go_sem, ↓reduceIte, Nat.reduceEqDiff, Nat.reduceAdd, Nat.reduceMul, Nat.reduceLT, Nat.reduceLeDiff, reduceCtorEq, Int.reduceNe, Int.reduceEq, Int.reduceLT, Int.reduceLE, Int.reduceAdd, Int.reduceSub, Int.reduceMul, Int.reduceNeg, Int.reduceToNat, UInt8.reduceToNat, natLit, ty3, ty4, ty9, ty39, ty65]
    rw [if_neg hn]
  have d1 : decide (isN (es.getD i evZ)) = true := decide_eq_true hn
  simp (config := {contextual := true, maxSteps := 10000000, implicitDefEqProofs := false}) (disch := first | (and_intros <;> omega -splitDisjunctions) | (simp only [List.length_set, List.length_append, List.length_cons, List.length_nil]; and_intros <;> omega -splitDisjunctions) | fail) only [f0, f1, f2, f3, f4, f5, f6, g6, n1, d1, Tryd.f92, go_sem, ↓reduceIte, Nat.reduceEqDiff, Nat.reduceAdd, Nat.reduceMul, Nat.reduceLT, Nat.reduceLeDiff, reduceCtorEq, Int.reduceNe, Int.reduceEq, Int.reduceLT, Int.reduceLE, Int.reduceAdd, Int.reduceSub, Int.reduceMul, Int.reduceNeg, Int.reduceToNat, UInt8.reduceToNat, natLit, ty3, ty4, ty9, ty39, ty65]
  rw [if_pos hn]
  refine at_loopE fun c R hc hR => ?_
  have key : ∀ (m : Nat) (k : Nat) (kk cc : Int) (x1 x4 x12 x17 x24 x32 x36 : Option V), es.length - k < m → kk = k → -(k : Int) ≤ cc → cc ≤ k →
      zEv (leaveX (mkR Tryd.prog cfg ok [0, 1, 4, 5, 6, 12, 17, 24, 32, 36] H.length) .pure H [ResultVar.tmp 4]) (mkR Tryd.prog cfg ok [0, 1, 4, 5, 6, 12, 17, 24, 32, 36] H.length) (K.code (Code.loop c) :: K.blk 0 :: R) .nrm [some v, x1, x4, some (.int .i64 cc), some (.int .i64 kk), x12, x17, x24, x32, x36] (H) = some (.int .i64 (endGo es (es.length - k) k cc), H) := by
    intro m
    induction m with
    | zero => intro k kk cc x1 x4 x12 x17 x24 x32 x36 hm; omega
    | succ m ih =>
      intro k kk cc x1 x4 x12 x17 x24 x32 x36 hm hk hb1 hb2
      subst hk
      by_cases hlt : k < es.length
      rotate_left
      · have t1 : ((k : Int) < es.length) = False := eq_false (by omega)
        rw [zEv_round hc, ← hR]
        simp (config := {contextual := true, maxSteps := 10000000, implicitDefEqProofs := false}) (disch := first | (and_intros <;> omega -splitDisjunctions) | (simp only [List.length_set, List.length_append, List.length_cons, List.length_nil]; and_intros <;> omega -splitDisjunctions) | fail) only [t1, f0, f1, f2, f3, f4, f5, f6, Tryd.f92, go_sem, ↓reduceIte, Nat.reduceEqDiff, Nat.reduceAdd, Nat.reduceMul, Nat.reduceLT, Nat.reduceLeDiff, reduceCtorEq, Int.reduceNe, Int.reduceEq, Int.reduceLT, Int.reduceLE, Int.reduceAdd, Int.reduceSub, Int.reduceMul, Int.reduceNeg, Int.reduceToNat, UInt8.reduceToNat, natLit, ty3, ty4, ty9, ty39, ty65]
        rw [show es.length - k = 0 by omega]; rfl
      have t1 : ((k : Int) < es.length) = True := eq_true (by omega)
      have g6 := f6 k hlt
      have g7 := fun n K => h.loadD0 evC_len evZ (fun e => .int .i64 e.kind) (fun _ => rfl) k hlt n K
      rw [endGo_succ es hlt]
      rw [zEv_round hc, ← hR]
      simp (config := {contextual := true, maxSteps := 10000000, implicitDefEqProofs := false}) (disch := first | (and_intros <;> omega -splitDisjunctions) | (simp only [List.length_set, List.length_append, List.length_cons, List.length_nil]; and_intros <;> omega -splitDisjunctions) | fail) only [t1, f0, f1, f2, f3, f4, f5, f6, g6, g7, n2, Tryd.f92, go_sem, ↓reduceIte, Nat.reduceEqDiff, Nat.reduceAdd, Nat.reduceMul, Nat.reduceLT, Nat.reduceLeDiff, reduceCtorEq, Int.reduceNe, Int.reduceEq, Int.reduceLT, Int.reduceLE, Int.reduceAdd, Int.reduceSub, Int.reduceMul, Int.reduceNeg, Int.reduceToNat, UInt8.reduceToNat, natLit, ty3, ty4, ty9, ty39, ty65]
      rw [hR]
      have ih := fun c' (h1 : -((k + 1 : Nat) : Int) ≤ c') (h2 : c' ≤ ((k + 1 : Nat) : Int)) => ih (k + 1) ((k : Int) + 1) c'
      by_cases hC : isC (evA es k)
      · have h7 : ¬ (es.getD k evZ).kind = 7 := isC_7 hC
        simp only [stepC, if_pos hC, if_neg h7, decide_eq_true hC, if_true]
        by_cases h0 : cc + 1 = 0
        · rw [if_pos h0, if_pos h0]
        · rw [if_neg h0, if_neg h0]
          exact ih (cc + 1) (by omega) (by omega) _ _ _ _ _ _ _ (by omega) (by omega) (by omega) (by omega)
      · simp only [stepC, if_neg hC, decide_eq_false hC, Bool.false_eq_true, if_false]
        by_cases h7 : (es.getD k evZ).kind = 7
        · rw [if_pos h7]
          simp only [if_pos h7]
          by_cases h0 : cc - 1 = 0
          · rw [if_pos h0, if_pos h0]
          · rw [if_neg h0, if_neg h0]
            exact ih (cc - 1) (by omega) (by omega) _ _ _ _ _ _ _ (by omega) (by omega) (by omega) (by omega)
        · rw [if_neg h7]
          simp only [if_neg h7]
          by_cases h0 : cc = 0
          · rw [if_pos h0, if_pos h0]
          · rw [if_neg h0, if_neg h0]
            exact ih cc (by omega) (by omega) _ _ _ _ _ _ _ (by omega) (by omega) (by omega) (by omega)
  exact key (es.length + 1) i i 0 _ _ _ _ _ _ _ (by omega) rfl (by omega) (by omega)
end Go.Proofs.YtcbjmggbbnpbpaaDoor.Lg
