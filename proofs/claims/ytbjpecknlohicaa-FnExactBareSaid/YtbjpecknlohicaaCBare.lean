/- Bare, as the program has it twice, over the logical machine. No condition. -/
import Derived.Test.YtbjpecknlohicaaCTEvent
namespace Go.Proofs.Ytbjpecknlohicaa.Lg
set_option linter.unusedSimpArgs false
set_option linter.unusedVariables false
set_option maxRecDepth 100000
set_option maxHeartbeats 40000000
open Go.Proofs.Ytbjpecknlohicaa

def bareEv (e : Ev) : Ev :=
  if e.kind = 2 then { e with flag := true } else if e.kind = 8 then { e with flag := false } else if e.kind = 5 then { e with style := 3 } else if e.kind = 3 ∨ e.kind = 4 then { e with style := 6 } else e

theorem run_isCollection (e : Ev) (fl : Nat) (H : LH) : run 63 [.agg (evC e)] fl H = some (.bool (decide (e.kind = 3 ∨ e.kind = 4)), H) := by
  unfold run evC
  rw [Run_z Try.func63 rfl (by rfl : ok 63 = true) (by rfl : cfg.keep 63 = [0, 1, 2]) (by rfl : cfg.mode 63 = .pure)]
  simp (config := {contextual := true, maxSteps := 10000000, implicitDefEqProofs := false}) (disch := omega) only [Try.f63, go_sem, ↓reduceIte, Nat.reduceEqDiff, Nat.reduceAdd, Nat.reduceMul, Nat.reduceLT, Nat.reduceLeDiff, reduceCtorEq, Int.reduceNe, Int.reduceEq, Int.reduceLT, Int.reduceLE, Int.reduceAdd, Int.reduceSub, Int.reduceMul, Int.reduceNeg, Int.reduceToNat, natLit, ty3, ty4, ty9, ty26]
theorem run_imBare (v : V) (xs : List Ev) (fl : Nat) (H : LH) (h : At H evC 8 v xs) (hx : xs.length ≤ 1048576) :
    Ret (fun w H' => Hx H H' ∧ Own H.length H' evC 8 w (xs.map bareEv)) (run 28 [v] fl H) := by
  have e1 := fun e fl H => run_isCollection e fl H
  have f1 := h.isTup; have f2 := h.len; have f3 := h.lenOk ty48
  have f4 := h.cells; have f5 := h.src
  unfold run at *
  rw [Run_z Try.func28 rfl (by rfl : ok 28 = true) (by rfl : cfg.keep 28 = [0, 2, 3, 4, 5, 9, 10, 11, 16, 25, 34, 43]) (by rfl : cfg.mode 28 = .fresh)]
  simp (config := {contextual := true, maxSteps := 10000000, implicitDefEqProofs := false}) (disch := omega) only [e1, f1, f2, f3, f4, f5, Try.f28, go_sem, ↓reduceIte, Nat.reduceEqDiff, Nat.reduceAdd, Nat.reduceMul, Nat.reduceLT, Nat.reduceLeDiff, reduceCtorEq, Int.reduceNe, Int.reduceEq, Int.reduceLT, Int.reduceLE, Int.reduceAdd, Int.reduceSub, Int.reduceMul, Int.reduceNeg, Int.reduceToNat, natLit, ty3, ty4, ty9, ty26, ty48]
  by_cases hn : xs.length = 0
  · have hx0 : xs = [] := List.eq_nil_of_length_eq_zero hn
    subst hx0
    simp (config := {contextual := true, maxSteps := 10000000, implicitDefEqProofs := false}) (disch := omega) only [hn, Try.f28, go_sem, ↓reduceIte, Nat.reduceEqDiff, Nat.reduceAdd, Nat.reduceMul, Nat.reduceLT, Nat.reduceLeDiff, reduceCtorEq, Int.reduceNe, Int.reduceEq, Int.reduceLT, Int.reduceLE, Int.reduceAdd, Int.reduceSub, Int.reduceMul, Int.reduceNeg, Int.reduceToNat, natLit, ty3, ty4, ty9, ty26, ty48]
    rw [zEv_loop]
    simp (config := {contextual := true, maxSteps := 10000000, implicitDefEqProofs := false}) (disch := omega) only [Try.f28, go_sem, ↓reduceIte, Nat.reduceEqDiff, Nat.reduceAdd, Nat.reduceMul, Nat.reduceLT, Nat.reduceLeDiff, reduceCtorEq, Int.reduceNe, Int.reduceEq, Int.reduceLT, Int.reduceLE, Int.reduceAdd, Int.reduceSub, Int.reduceMul, Int.reduceNeg, Int.reduceToNat, natLit, ty3, ty4, ty9, ty26, ty48]
    exact ⟨Hx.refl H, .inl ⟨rfl, .inl rfl⟩⟩
  · have hp : 0 < xs.length := by omega
    simp (config := {contextual := true, maxSteps := 10000000, implicitDefEqProofs := false}) (disch := omega) only [hn, Try.f28, go_sem, ↓reduceIte, Nat.reduceEqDiff, Nat.reduceAdd, Nat.reduceMul, Nat.reduceLT, Nat.reduceLeDiff, reduceCtorEq, Int.reduceNe, Int.reduceEq, Int.reduceLT, Int.reduceLE, Int.reduceAdd, Int.reduceSub, Int.reduceMul, Int.reduceNeg, Int.reduceToNat, natLit, ty3, ty4, ty9, ty26, ty48]
    generalize hL : K.code (Code.loop _) = L
    generalize hR : (K.blk _ :: _ : List K) = R
    have key : ∀ (d i : Nat) (x0 x2 x4 x5 x11 x16 x25 x34 x43 : Option V) (ys : List Ev), xs.length - i = d → i ≤ xs.length → ys = (xs.take i).map bareEv ++ xs.drop i →
        Ret (fun w H' => Hx H H' ∧ Own H.length H' evC 8 w (xs.map bareEv)) (zEv (leaveX (mkR Try.prog cfg ok [0, 2, 3, 4, 5, 9, 10, 11, 16, 25, 34, 43] H.length) .fresh H [ResultVar.tmp 2]) (mkR Try.prog cfg ok [0, 2, 3, 4, 5, 9, 10, 11, 16, 25, 34, 43] H.length) (L :: R) .nrm
          [x0, x2, some (.sl H.length 0 8 xs.length xs.length), x4, x5, some (.int .i64 xs.length), some (.int .i64 i), x11, x16, x25, x34, x43] (H ++ [.cells (rows evC ys)])) := by
      intro d
      induction d using Nat.strongRecOn with
      | _ d ih =>
      intro i x0 x2 x4 x5 x11 x16 x25 x34 x43 ys hd hi hys
      have hyl : ys.length = xs.length := by rw [hys]; simp; omega
      have g1 := rows_len evC_len ys
      rw [hyl] at g1
      have q0 : i < xs.length → (rows evC ys)[i * 8]? = some (.int .i64 (ys.getD i ev0).kind) := fun hi => by
        have := rows_cell (j := 0) evC_len (xs := ys) (i := i) (by omega) (by omega)
        rw [getD_of (by omega)]
        exact this
      have q1 : i < xs.length → ((rows evC ys).drop (i * 8)).take 8 = evC (ys.getD i ev0) := fun hi => by
        rw [getD_of (by omega)]
        exact rows_row evC_len (by omega)
      have sF : ∀ b, i < xs.length → (rows evC ys).set (i * 8 + 2) (.bool b) = rows evC (ys.set i { ys.getD i ev0 with flag := b }) := fun b hi =>
        rows_putD (j := 2) (ws := [.bool b]) evC_len ev0 i (by omega) (by simp) _ rfl
      have sS : ∀ k, i < xs.length → (rows evC ys).set (i * 8 + 1) (.int .i64 k) = rows evC (ys.set i { ys.getD i ev0 with style := k }) := fun k hi =>
        rows_putD (j := 1) (ws := [.int .i64 k]) evC_len ev0 i (by omega) (by simp) _ rfl
      rw [← hL, ← hR, zEv_loop]
      simp (config := {contextual := true, maxSteps := 10000000, implicitDefEqProofs := false}) (disch := omega) only [e1, g1, q0, q1, sF, sS, Try.f28, go_sem, ↓reduceIte, Nat.reduceEqDiff, Nat.reduceAdd, Nat.reduceMul, Nat.reduceLT, Nat.reduceLeDiff, reduceCtorEq, Int.reduceNe, Int.reduceEq, Int.reduceLT, Int.reduceLE, Int.reduceAdd, Int.reduceSub, Int.reduceMul, Int.reduceNeg, Int.reduceToNat, natLit, ty3, ty4, ty9, ty26, ty48]
      rw [hL, hR]
      refine Ret_ite (fun hlt => ?_) (fun hge => ?_)
      · have hlt : i < xs.length := by omega
        have hg : ys.getD i ev0 = xs[i] := by rw [hys]; exact map_get hlt
        have st : ∀ y, y = bareEv xs[i] → ys.set i y = (xs.take (i + 1)).map bareEv ++ xs.drop (i + 1) := fun y hy => by rw [hy, hys]; exact map_step hlt
        simp only [hg, show (i : Int) + 1 = ((i + 1 : Nat) : Int) from rfl]
        have go := fun x0 x2 x4 x5 x11 x16 x25 x34 x43 ys' h => ih (xs.length - (i + 1)) (by omega) (i + 1) x0 x2 x4 x5 x11 x16 x25 x34 x43 ys' rfl (by omega) h
        (repeat' (refine Ret_ite (fun _ => ?_) (fun _ => ?_))) <;> refine go _ _ _ _ _ _ _ _ _ _ ?_
        · exact st _ (by simp only [bareEv, *, if_true])
        · exact st _ (by simp [bareEv, *])
        · exact st _ (by simp [bareEv, *])
        · exact st _ (by simp [bareEv, *])
        · rw [← st _ rfl, show bareEv xs[i] = xs[i] by simp only [bareEv, *, if_false], ← hg, getD_of (by omega), List.set_getElem_self]
      · have : i = xs.length := by omega
        subst this
        rw [Ret_some, hys, List.take_of_length_le (Nat.le_refl _), List.drop_length, List.append_nil]
        exact ⟨Hx.app, .inr ⟨H.length, by rw [List.length_map], by rw [cellsAt_app0]; rfl, Nat.le_refl _⟩⟩
    have := fun x0 x2 x4 x5 x11 x16 x25 x34 x43 => key xs.length 0 x0 x2 x4 x5 x11 x16 x25 x34 x43 xs rfl (Nat.zero_le _) (by simp)
    exact this _ _ _ _ _ _ _ _ _
theorem run_spBare (v : V) (xs : List Ev) (fl : Nat) (H : LH) (h : At H evC 8 v xs) (hx : xs.length ≤ 1048576) :
    Ret (fun w H' => Hx H H' ∧ Own H.length H' evC 8 w (xs.map bareEv)) (run 26 [v] fl H) := by
  have f1 := h.isTup; have f2 := h.len; have f3 := h.lenOk ty48
  have f4 := fun L => (h.left (L := L)).cells; have f5 := h.src
  have f6 := h.idx (T := ty Try.prog) (t := 48) (by simp only [elemI, sizeO, ty3, ty4, ty9, ty26, ty48])
  have f7 := fun L (hp : 0 < xs.length) => (h.left (L := L)).con hp
  have f8 := fun L => (h.left (L := L)).loadD evC_len ev0
  have fb := h.blk
  unfold run at *
  rw [Run_z Try.func26 rfl (by rfl : ok 26 = true) (by rfl : cfg.keep 26 = [0, 2, 3, 4, 5, 9, 10, 11, 12, 17, 18, 24, 30, 36]) (by rfl : cfg.mode 26 = .fresh)]
  simp (config := {contextual := true, maxSteps := 10000000, implicitDefEqProofs := false}) (disch := omega) only [f1, f2, f3, f4, f5, Try.f26, go_sem, ↓reduceIte, Nat.reduceEqDiff, Nat.reduceAdd, Nat.reduceMul, Nat.reduceLT, Nat.reduceLeDiff, reduceCtorEq, Int.reduceNe, Int.reduceEq, Int.reduceLT, Int.reduceLE, Int.reduceAdd, Int.reduceSub, Int.reduceMul, Int.reduceNeg, Int.reduceToNat, natLit, ty3, ty4, ty9, ty26, ty48]
  by_cases hn : xs.length = 0
  · have hx0 : xs = [] := List.eq_nil_of_length_eq_zero hn
    subst hx0
    simp (config := {contextual := true, maxSteps := 10000000, implicitDefEqProofs := false}) (disch := omega) only [f1, f2, f3, hn, Try.f26, go_sem, ↓reduceIte, Nat.reduceEqDiff, Nat.reduceAdd, Nat.reduceMul, Nat.reduceLT, Nat.reduceLeDiff, reduceCtorEq, Int.reduceNe, Int.reduceEq, Int.reduceLT, Int.reduceLE, Int.reduceAdd, Int.reduceSub, Int.reduceMul, Int.reduceNeg, Int.reduceToNat, natLit, ty3, ty4, ty9, ty26, ty48]
    rw [zEv_loop]
    simp (config := {contextual := true, maxSteps := 10000000, implicitDefEqProofs := false}) (disch := omega) only [Try.f26, go_sem, ↓reduceIte, Nat.reduceEqDiff, Nat.reduceAdd, Nat.reduceMul, Nat.reduceLT, Nat.reduceLeDiff, reduceCtorEq, Int.reduceNe, Int.reduceEq, Int.reduceLT, Int.reduceLE, Int.reduceAdd, Int.reduceSub, Int.reduceMul, Int.reduceNeg, Int.reduceToNat, natLit, ty3, ty4, ty9, ty26, ty48]
    exact ⟨Hx.app, .inr ⟨H.length, rfl, by rw [cellsAt_app0]; rfl, Nat.le_refl _⟩⟩
  · have hp : 0 < xs.length := by omega
    have hn2 : ¬ xs.length ≤ 0 := by omega
    simp (config := {contextual := true, maxSteps := 10000000, implicitDefEqProofs := false}) (disch := omega) only [hn, hn2, f1, f2, f3, Try.f26, go_sem, ↓reduceIte, Nat.reduceEqDiff, Nat.reduceAdd, Nat.reduceMul, Nat.reduceLT, Nat.reduceLeDiff, reduceCtorEq, Int.reduceNe, Int.reduceEq, Int.reduceLT, Int.reduceLE, Int.reduceAdd, Int.reduceSub, Int.reduceMul, Int.reduceNeg, Int.reduceToNat, natLit, ty3, ty4, ty9, ty26, ty48]
    generalize hL : K.code (Code.loop _) = L
    generalize hR : (K.blk _ :: _ : List K) = R
    have key : ∀ (d i : Nat) (x0 x2 x4 x5 x12 x17 x18 x24 x30 x36 : Option V) (ys : List Ev) (G : LH), xs.length - i = d → i ≤ xs.length → ys = (xs.take i).map bareEv ++ xs.drop i →
        Ret (fun w H' => Hx H H' ∧ Own H.length H' evC 8 w (xs.map bareEv)) (zEv (leaveX (mkR Try.prog cfg ok [0, 2, 3, 4, 5, 9, 10, 11, 12, 17, 18, 24, 30, 36] H.length) .fresh H [ResultVar.tmp 2]) (mkR Try.prog cfg ok [0, 2, 3, 4, 5, 9, 10, 11, 12, 17, 18, 24, 30, 36] H.length) (L :: R) .nrm
          [x0, x2, some (.sl (H.length + 1) 0 8 xs.length xs.length), x4, x5, some v, some (.int .i64 xs.length), some (.int .i64 i), x12, x17, x18, x24, x30, x36] (H ++ .dead :: .cells (rows evC ys) :: G)) := by
      intro d
      induction d using Nat.strongRecOn with
      | _ d ih =>
      intro i x0 x2 x4 x5 x12 x17 x18 x24 x30 x36 ys G hd hi hys
      have hyl : ys.length = xs.length := by rw [hys]; simp; omega
      have g1 := rows_len evC_len ys
      rw [hyl] at g1
      have sF : ∀ b, i < xs.length → (rows evC ys).set (i * 8 + 2) (.bool b) = rows evC (ys.set i { ys.getD i ev0 with flag := b }) := fun b hi =>
        rows_putD (j := 2) (ws := [.bool b]) evC_len ev0 i (by omega) (by simp) _ rfl
      have sS : ∀ k, i < xs.length → (rows evC ys).set (i * 8 + 1) (.int .i64 k) = rows evC (ys.set i { ys.getD i ev0 with style := k }) := fun k hi =>
        rows_putD (j := 1) (ws := [.int .i64 k]) evC_len ev0 i (by omega) (by simp) _ rfl
      rw [← hL, ← hR, zEv_loop]
      simp (config := {contextual := true, maxSteps := 10000000, implicitDefEqProofs := false}) (disch := omega) only [f1, f2, f3, f6, f7, f8, g1, sF, sS, evC, Try.f26, go_sem, ↓reduceIte, Nat.reduceEqDiff, Nat.reduceAdd, Nat.reduceMul, Nat.reduceLT, Nat.reduceLeDiff, reduceCtorEq, Int.reduceNe, Int.reduceEq, Int.reduceLT, Int.reduceLE, Int.reduceAdd, Int.reduceSub, Int.reduceMul, Int.reduceNeg, Int.reduceToNat, natLit, ty3, ty4, ty9, ty26, ty48]
      rw [hL, hR]
      refine Ret_ite (fun hlt => ?_) (fun hge => ?_)
      · have hlt : i < xs.length := by omega
        have hg : ys.getD i ev0 = xs[i] := by rw [hys]; exact map_get hlt
        have hg2 : xs.getD i ev0 = xs[i] := getD_of hlt ev0
        have st : ∀ y, y = bareEv xs[i] → ys.set i y = (xs.take (i + 1)).map bareEv ++ xs.drop (i + 1) := fun y hy => by rw [hy, hys]; exact map_step hlt
        simp only [hg, hg2, show (i : Int) + 1 = ((i + 1 : Nat) : Int) from rfl]
        have go := fun x0 x2 x4 x5 x12 x17 x18 x24 x30 x36 ys' G h => ih (xs.length - (i + 1)) (by omega) (i + 1) x0 x2 x4 x5 x12 x17 x18 x24 x30 x36 ys' G rfl (by omega) h
        (repeat' (refine Ret_ite (fun _ => ?_) (fun _ => ?_))) <;> refine go _ _ _ _ _ _ _ _ _ _ _ _ ?_
        · exact st _ (by simp [bareEv, *])
        · exact st _ (by simp [bareEv, *])
        · exact st _ (by simp [bareEv, *])
        · exact st _ (by simp [bareEv, *])
        · exact st _ (by simp [bareEv, *])
        · rw [← st _ rfl, show bareEv xs[i] = xs[i] by simp [bareEv, *], ← hg, getD_of (by omega), List.set_getElem_self]
      · have : i = xs.length := by omega
        subst this
        rw [Ret_some, hys, List.take_of_length_le (Nat.le_refl _), List.drop_length, List.append_nil]
        exact ⟨Hx.app, .inr ⟨H.length + 1, by rw [List.length_map], by rw [cellsAt_app]; rfl, by omega⟩⟩
    have := fun x0 x2 x4 x5 x12 x17 x18 x24 x30 x36 => key xs.length 0 x0 x2 x4 x5 x12 x17 x18 x24 x30 x36 xs [] rfl (Nat.zero_le _) (by simp)
    exact this _ _ _ _ _ _ _ _ _ _
end Go.Proofs.Ytbjpecknlohicaa.Lg
