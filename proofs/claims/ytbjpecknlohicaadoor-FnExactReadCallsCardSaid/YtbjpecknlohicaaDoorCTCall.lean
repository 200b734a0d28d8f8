/- What the laws do with values of Call, over the logical machine. No condition. -/
import Derived.Test.YtbjpecknlohicaaDoorLc
import Derived.Test.YtbjpecknlohicaaDoorCMk
namespace Go.Proofs.YtbjpecknlohicaaDoor.Lg
set_option linter.unusedSimpArgs false
set_option linter.unusedVariables false
set_option maxRecDepth 100000
set_option maxHeartbeats 40000000
open Go.Proofs.YtbjpecknlohicaaDoor

/-- a value of Call -/
structure Ca where
  kind : Int
  n : Int
  deriving DecidableEq
def caC (e : Ca) : List V := [.int .i64 e.kind, .int .i64 e.n]
theorem caC_len (e : Ca) : (caC e).length = 2 := rfl
def ca0 : Ca := ⟨0, 0⟩
/-- its measure -/
def caCW (e : Ca) : Int := 0
def caCFit (e : Ca) : Prop := True
theorem run_eqCall (a b : Ca) (fl : Nat) (H : LH) : run 21 [.agg (caC a), .agg (caC b)] fl H = some (.bool (decide (a = b)), H) := by
  unfold run caC
  rw [Run_z Tryd.func21 rfl (by rfl : ok 21 = true) (by rfl : cfg.keep 21 = [0, 1, 2, 3, 4, 9, 14]) (by rfl : cfg.mode 21 = .pure)]
  simp (config := {contextual := true, maxSteps := 10000000, implicitDefEqProofs := false}) (disch := first | (and_intros <;> omega -splitDisjunctions) | (simp only [List.length_set, List.length_append, List.length_cons, List.length_nil]; and_intros <;> omega -splitDisjunctions) | fail) only [Tryd.f21, go_sem, ↓reduceIte, Nat.reduceEqDiff, Nat.reduceAdd, Nat.reduceMul, Nat.reduceLT, Nat.reduceLeDiff, reduceCtorEq, Int.reduceNe, Int.reduceEq, Int.reduceLT, Int.reduceLE, Int.reduceAdd, Int.reduceSub, Int.reduceMul, Int.reduceNeg, Int.reduceToNat, UInt8.reduceToNat, natLit, ty3, ty36]
  cases a; cases b
  simp only [Ca.mk.injEq]
  grind
theorem run_eqCallS (v w : V) (xs ys : List Ca) (fl : Nat) (H : LH) (h : At H caC 2 v xs) (h' : At H caC 2 w ys) (hx : xs.length ≤ 1099511627776) (hy : ys.length ≤ 1099511627776) :
    run 9 [v, w] fl H = some (.bool (decide (xs = ys)), H) := by
  have e1 := fun a b fl H => run_eqCall a b fl H
  have f1 := h.isTup; have f2 := h.len; have f3 := h.lenOk ty24
  have f4 := fun L (hp : 0 < xs.length) => (h.left (L := L)).con hp
  have f5 := h.idx (T := ty Tryd.prog) (t := 24) (by simp only [elemI, sizeO, ty3, ty24, ty36])
  have g1 := h'.isTup; have g2 := h'.len; have g3 := h'.lenOk ty24
  have g4 := fun L (hp : 0 < ys.length) => (h'.left (L := L)).con hp
  have g5 := h'.idx (T := ty Tryd.prog) (t := 24) (by simp only [elemI, sizeO, ty3, ty24, ty36])
  have f4' := fun (hp : 0 < xs.length) => h.con hp
  have g4' := fun (hp : 0 < ys.length) => h'.con hp
  have f6 := fun L => (h.left (L := L)).loadD caC_len ca0
  have g6 := fun L => (h'.left (L := L)).loadD caC_len ca0
  have f6' := h.loadD caC_len ca0
  have g6' := h'.loadD caC_len ca0
  unfold run at *
  rw [Run_z Tryd.func9 rfl (by rfl : ok 9 = true) (by rfl : cfg.keep 9 = [0, 1, 4, 5, 10, 14, 26]) (by rfl : cfg.mode 9 = .pure)]
  by_cases hl : xs.length = ys.length
  · simp (config := {contextual := true, maxSteps := 10000000, implicitDefEqProofs := false}) (disch := first | (and_intros <;> omega -splitDisjunctions) | (simp only [List.length_set, List.length_append, List.length_cons, List.length_nil]; and_intros <;> omega -splitDisjunctions) | fail) only [hl, e1, f1, f2, f3, g1, g2, g3, Tryd.f9, go_sem, ↓reduceIte, Nat.reduceEqDiff, Nat.reduceAdd, Nat.reduceMul, Nat.reduceLT, Nat.reduceLeDiff, reduceCtorEq, Int.reduceNe, Int.reduceEq, Int.reduceLT, Int.reduceLE, Int.reduceAdd, Int.reduceSub, Int.reduceMul, Int.reduceNeg, Int.reduceToNat, UInt8.reduceToNat, natLit, ty3, ty4, ty24, ty36]
    generalize hL : K.code (Code.loop _) = L
    generalize hR : (K.blk _ :: _ : List K) = R
    have key : ∀ (d i : Nat) (x4 x10 x14 x26 : Option V), xs.length - i = d → i ≤ xs.length →
        zEv (leaveX (mkR Tryd.prog cfg ok [0, 1, 4, 5, 10, 14, 26] H.length) .pure H [ResultVar.tmp 4]) (mkR Tryd.prog cfg ok [0, 1, 4, 5, 10, 14, 26] H.length) (L :: R) .nrm [some v, some w, x4, some (.int .i64 i), x10, x14, x26] H =
        some (.bool (decide (xs.drop i = ys.drop i)), H) := by
      intro d
      induction d using Nat.strongRecOn with
      | _ d ih =>
      intro i x4 x10 x14 x26 hd hi
      rw [← hL, ← hR, zEv_loop]
      simp (config := {contextual := true, maxSteps := 10000000, implicitDefEqProofs := false}) (disch := first | (and_intros <;> omega -splitDisjunctions) | (simp only [List.length_set, List.length_append, List.length_cons, List.length_nil]; and_intros <;> omega -splitDisjunctions) | fail) only [e1, f1, f2, f3, f4', f5, f6', g1, g2, g3, g4', g5, g6', Tryd.f9, go_sem, ↓reduceIte, Nat.reduceEqDiff, Nat.reduceAdd, Nat.reduceMul, Nat.reduceLT, Nat.reduceLeDiff, reduceCtorEq, Int.reduceNe, Int.reduceEq, Int.reduceLT, Int.reduceLE, Int.reduceAdd, Int.reduceSub, Int.reduceMul, Int.reduceNeg, Int.reduceToNat, UInt8.reduceToNat, natLit, ty3, ty4, ty24, ty36]
      rw [hL, hR]
      split
      · rename_i hlt
        have hlt : i < xs.length := by omega
        have hlt' : i < ys.length := by omega
        rw [show (i : Int) + 1 = ((i + 1 : Nat) : Int) by omega, ih (xs.length - (i + 1)) (by omega) (i + 1) _ _ _ _ rfl (by omega), getD_of hlt, getD_of hlt', List.drop_eq_getElem_cons hlt, List.drop_eq_getElem_cons hlt']
        by_cases e : xs[i] = ys[i] <;> simp only [e, List.cons.injEq, true_and, false_and, not_true_eq_false, not_false_eq_true, if_true, if_false, decide_false]
      · rw [List.drop_of_length_le (by omega), List.drop_of_length_le (by omega)]
        rfl
    exact (key xs.length 0 _ _ _ _ rfl (Nat.zero_le _)).trans (by rw [List.drop_zero, List.drop_zero])
  · have h2 : ¬ xs = ys := fun e => hl (by rw [e])
    have h3 : ¬ (xs.length : Int) = (ys.length : Int) := by omega
    simp (config := {contextual := true, maxSteps := 10000000, implicitDefEqProofs := false}) (disch := first | (and_intros <;> omega -splitDisjunctions) | (simp only [List.length_set, List.length_append, List.length_cons, List.length_nil]; and_intros <;> omega -splitDisjunctions) | fail) only [h2, h3, e1, f1, f2, f3, g1, g2, g3, Tryd.f9, go_sem, ↓reduceIte, Nat.reduceEqDiff, Nat.reduceAdd, Nat.reduceMul, Nat.reduceLT, Nat.reduceLeDiff, reduceCtorEq, Int.reduceNe, Int.reduceEq, Int.reduceLT, Int.reduceLE, Int.reduceAdd, Int.reduceSub, Int.reduceMul, Int.reduceNeg, Int.reduceToNat, UInt8.reduceToNat, natLit, ty3, ty4, ty24, ty36]
/-- the mark of a value -/
def mkCall (k : Int) : Ca := ⟨k, (k + 1)⟩
theorem run_markCallS (b : Nat) (xs : List Ca) (k0 : Int) (fl : Nat) (H : LH) (h : H.cellsAt b = some (rows caC xs)) (hb : fl ≤ b) (h0 : 0 ≤ k0) (h1 : k0 ≤ 1099511627776) (hx : xs.length ≤ 1099511627776) :
    run 10 [.sl b 0 2 xs.length xs.length, .int .i64 k0] fl H = some (.int .i64 (k0 + xs.length * 2), H.set b (.cells (rows caC (marksF mkCall 2 xs.length k0)))) := by
  have hbl := cellsAt_lt h
  unfold run at *
  rw [Run_z Tryd.func10 rfl (by rfl : ok 10 = true) (by rfl : cfg.keep 10 = [0, 1, 4, 5, 9]) (by rfl : cfg.mode 10 = .any)]
  simp (config := {contextual := true, maxSteps := 10000000, implicitDefEqProofs := false}) (disch := first | (and_intros <;> omega -splitDisjunctions) | (simp only [List.length_set, List.length_append, List.length_cons, List.length_nil]; and_intros <;> omega -splitDisjunctions) | fail) only [Tryd.f10, go_sem, ↓reduceIte, Nat.reduceEqDiff, Nat.reduceAdd, Nat.reduceMul, Nat.reduceLT, Nat.reduceLeDiff, reduceCtorEq, Int.reduceNe, Int.reduceEq, Int.reduceLT, Int.reduceLE, Int.reduceAdd, Int.reduceSub, Int.reduceMul, Int.reduceNeg, Int.reduceToNat, UInt8.reduceToNat, natLit, ty3, ty24, ty36]
  generalize hL : K.code (Code.loop _) = L
  generalize hR : (K.blk _ :: _ : List K) = R
  have key : ∀ (d i : Nat) (x4 x9 : Option V) (ys : List Ca), xs.length - i = d → i ≤ xs.length → ys = marksF mkCall 2 i k0 ++ xs.drop i →
      zEv (leaveX (mkR Tryd.prog cfg ok [0, 1, 4, 5, 9] fl) .any H [ResultVar.tmp 4]) (mkR Tryd.prog cfg ok [0, 1, 4, 5, 9] fl) (L :: R) .nrm [some (.sl b 0 2 xs.length xs.length), some (.int .i64 (k0 + i * 2)), x4, some (.int .i64 i), x9] (H.set b (.cells (rows caC ys))) =
      some (.int .i64 (k0 + xs.length * 2), H.set b (.cells (rows caC (marksF mkCall 2 xs.length k0)))) := by
    intro d
    induction d using Nat.strongRecOn with
    | _ d ih =>
    intro i x4 x9 ys hd hi hys
    have hyl : ys.length = xs.length := by rw [hys]; simp [marksF_len]; omega
    have g1 := rows_len caC_len ys
    rw [hyl] at g1
    have g2 : i < xs.length → putAt (rows caC ys) (i * 2) (caC (mkCall (k0 + i * 2))) = rows caC (ys.set i (mkCall (k0 + i * 2))) := fun hi => by
      have := rows_putD (enc := caC) (j := 0) (xs := ys) caC_len ca0 i (by omega) (ws := caC (mkCall (k0 + i * 2))) (by simp [caC_len]) _ rfl
      simpa using this
    have g5 : fl ≤ b := hb
    simp only [caC, mkCall, putAt, Int.add_assoc, Nat.add_assoc, Nat.reduceAdd, Int.reduceAdd] at g2
    rw [← hL, ← hR, zEv_loop]
    simp (config := {contextual := true, maxSteps := 10000000, implicitDefEqProofs := false}) (disch := first | (and_intros <;> omega -splitDisjunctions) | (simp only [List.length_set, List.length_append, List.length_cons, List.length_nil]; and_intros <;> omega -splitDisjunctions) | fail) only [cellsAt_set, g1, g2, g5, Int.add_assoc, List.length_set, Tryd.f10, go_sem, ↓reduceIte, Nat.reduceEqDiff, Nat.reduceAdd, Nat.reduceMul, Nat.reduceLT, Nat.reduceLeDiff, reduceCtorEq, Int.reduceNe, Int.reduceEq, Int.reduceLT, Int.reduceLE, Int.reduceAdd, Int.reduceSub, Int.reduceMul, Int.reduceNeg, Int.reduceToNat, UInt8.reduceToNat, natLit, ty3, ty24, ty36]
    rw [hL, hR]
    split
    · rename_i hlt
      have hlt : i < xs.length := by omega
      have ms := mark_step (mk := mkCall) (f := 2) (k := k0) hlt
      simp only [mkCall, Int.mul_one, Int.add_assoc] at ms
      rw [hys, ms, show (i : Int) + 1 = ((i + 1 : Nat) : Int) by omega, show (i : Int) * 2 + 2 = ((i + 1 : Nat) : Int) * 2 by omega]
      exact ih (xs.length - (i + 1)) (by omega) (i + 1) _ _ _ rfl (by omega) rfl
    · have : i = xs.length := by omega
      subst this
      rw [hys, List.drop_length, List.append_nil]
  have := fun x4 x9 => key xs.length 0 x4 x9 xs rfl (Nat.zero_le _) (by simp [marksF])
  simp only [set_same h] at this
  simpa using this _ _
theorem run_markCallO {f0 : Nat} (v : V) (xs : List Ca) (k0 : Int) (fl : Nat) (H : LH) (h : Own f0 H caC 2 v xs) (hb : fl ≤ f0) (h0 : 0 ≤ k0) (h1 : k0 ≤ 1099511627776) (hx : xs.length ≤ 1099511627776) :
    run 10 [v, .int .i64 k0] fl H = some (.int .i64 (k0 + xs.length * 2), setV H v (rows caC (marksF mkCall 2 xs.length k0))) := by
  rcases h with ⟨rfl, rfl | rfl⟩ | ⟨b, rfl, h2, h3⟩
  · unfold run
    rw [Run_z Tryd.func10 rfl (by rfl : ok 10 = true) (by rfl : cfg.keep 10 = [0, 1, 4, 5, 9]) (by rfl : cfg.mode 10 = .any)]
    simp (config := {contextual := true, maxSteps := 10000000, implicitDefEqProofs := false}) (disch := first | (and_intros <;> omega -splitDisjunctions) | (simp only [List.length_set, List.length_append, List.length_cons, List.length_nil]; and_intros <;> omega -splitDisjunctions) | fail) only [Tryd.f10, go_sem, ↓reduceIte, Nat.reduceEqDiff, Nat.reduceAdd, Nat.reduceMul, Nat.reduceLT, Nat.reduceLeDiff, reduceCtorEq, Int.reduceNe, Int.reduceEq, Int.reduceLT, Int.reduceLE, Int.reduceAdd, Int.reduceSub, Int.reduceMul, Int.reduceNeg, Int.reduceToNat, UInt8.reduceToNat, natLit, ty3, ty24, ty36]
    rw [zEv_loop]
    simp (config := {contextual := true, maxSteps := 10000000, implicitDefEqProofs := false}) (disch := first | (and_intros <;> omega -splitDisjunctions) | (simp only [List.length_set, List.length_append, List.length_cons, List.length_nil]; and_intros <;> omega -splitDisjunctions) | fail) only [Tryd.f10, go_sem, ↓reduceIte, Nat.reduceEqDiff, Nat.reduceAdd, Nat.reduceMul, Nat.reduceLT, Nat.reduceLeDiff, reduceCtorEq, Int.reduceNe, Int.reduceEq, Int.reduceLT, Int.reduceLE, Int.reduceAdd, Int.reduceSub, Int.reduceMul, Int.reduceNeg, Int.reduceToNat, UInt8.reduceToNat, natLit, ty3, ty24, ty36]
    simp [setV]
  · unfold run
    rw [Run_z Tryd.func10 rfl (by rfl : ok 10 = true) (by rfl : cfg.keep 10 = [0, 1, 4, 5, 9]) (by rfl : cfg.mode 10 = .any)]
    simp (config := {contextual := true, maxSteps := 10000000, implicitDefEqProofs := false}) (disch := first | (and_intros <;> omega -splitDisjunctions) | (simp only [List.length_set, List.length_append, List.length_cons, List.length_nil]; and_intros <;> omega -splitDisjunctions) | fail) only [Tryd.f10, go_sem, ↓reduceIte, Nat.reduceEqDiff, Nat.reduceAdd, Nat.reduceMul, Nat.reduceLT, Nat.reduceLeDiff, reduceCtorEq, Int.reduceNe, Int.reduceEq, Int.reduceLT, Int.reduceLE, Int.reduceAdd, Int.reduceSub, Int.reduceMul, Int.reduceNeg, Int.reduceToNat, UInt8.reduceToNat, natLit, ty3, ty24, ty36]
    rw [zEv_loop]
    simp (config := {contextual := true, maxSteps := 10000000, implicitDefEqProofs := false}) (disch := first | (and_intros <;> omega -splitDisjunctions) | (simp only [List.length_set, List.length_append, List.length_cons, List.length_nil]; and_intros <;> omega -splitDisjunctions) | fail) only [Tryd.f10, go_sem, ↓reduceIte, Nat.reduceEqDiff, Nat.reduceAdd, Nat.reduceMul, Nat.reduceLT, Nat.reduceLeDiff, reduceCtorEq, Int.reduceNe, Int.reduceEq, Int.reduceLT, Int.reduceLE, Int.reduceAdd, Int.reduceSub, Int.reduceMul, Int.reduceNeg, Int.reduceToNat, UInt8.reduceToNat, natLit, ty3, ty24, ty36]
    simp [setV]
  · exact run_markCallS b xs k0 fl H h2 (by omega) h0 h1 hx
theorem run_heldCallS (v : V) (m : Nat) (k0 : Int) (fl : Nat) (H : LH) (h : At H caC 2 v (marksF mkCall 2 m k0)) (h0 : 0 ≤ k0) (h1 : k0 ≤ 1099511627776) (hx : m ≤ 1099511627776) :
    run 11 [v, .int .i64 k0] fl H = some (.int .i64 (k0 + m * 2), H) := by
  have f1 := h.isTup; have f2 := h.len; have f3 := h.lenOk ty24
  have f4 := fun (hp : 0 < m) => h.con (by rw [marksF_len]; exact hp)
  have f5 := h.idx (T := ty Tryd.prog) (t := 24) (by simp only [elemI, sizeO, ty3, ty24, ty36])
  have q0 := h.loadD0 caC_len ca0 (fun e => .int .i64 e.kind) (fun _ => rfl)
  have q1 := h.loadDF caC_len ca0 (fun e => .int .i64 e.n) (j := 1) (fun _ => rfl)
  have g := marksF_get (mk := mkCall) (f := 2) m k0
  simp only [marksF_len] at *
  unfold run at *
  rw [Run_z Tryd.func11 rfl (by rfl : ok 11 = true) (by rfl : cfg.keep 11 = [0, 1, 4, 5, 9, 18, 27]) (by rfl : cfg.mode 11 = .pure)]
  simp (config := {contextual := true, maxSteps := 10000000, implicitDefEqProofs := false}) (disch := first | (and_intros <;> omega -splitDisjunctions) | (simp only [List.length_set, List.length_append, List.length_cons, List.length_nil]; and_intros <;> omega -splitDisjunctions) | fail) only [f1, f2, f3, Tryd.f11, go_sem, ↓reduceIte, Nat.reduceEqDiff, Nat.reduceAdd, Nat.reduceMul, Nat.reduceLT, Nat.reduceLeDiff, reduceCtorEq, Int.reduceNe, Int.reduceEq, Int.reduceLT, Int.reduceLE, Int.reduceAdd, Int.reduceSub, Int.reduceMul, Int.reduceNeg, Int.reduceToNat, UInt8.reduceToNat, natLit, ty3, ty24, ty36]
  generalize hL : K.code (Code.loop _) = L
  generalize hR : (K.blk _ :: _ : List K) = R
  have key : ∀ (d i : Nat) (x4 x9 x18 x27 : Option V), m - i = d → i ≤ m →
      zEv (leaveX (mkR Tryd.prog cfg ok [0, 1, 4, 5, 9, 18, 27] H.length) .pure H [ResultVar.tmp 4]) (mkR Tryd.prog cfg ok [0, 1, 4, 5, 9, 18, 27] H.length) (L :: R) .nrm [some v, some (.int .i64 (k0 + i * 2)), x4, some (.int .i64 i), x9, x18, x27] H =
      some (.int .i64 (k0 + m * 2), H) := by
    intro d
    induction d using Nat.strongRecOn with
    | _ d ih =>
    intro i x4 x9 x18 x27 hd hi
    have g2 := fun d h => g i d h
    simp only [mkCall, Int.mul_one] at g2
    rw [← hL, ← hR, zEv_loop]
    simp (config := {contextual := true, maxSteps := 10000000, implicitDefEqProofs := false}) (disch := first | (and_intros <;> omega -splitDisjunctions) | (simp only [List.length_set, List.length_append, List.length_cons, List.length_nil]; and_intros <;> omega -splitDisjunctions) | fail) only [f1, f2, f3, f4, f5, q0, q1, g2, Int.add_assoc, Tryd.f11, go_sem, ↓reduceIte, Nat.reduceEqDiff, Nat.reduceAdd, Nat.reduceMul, Nat.reduceLT, Nat.reduceLeDiff, reduceCtorEq, Int.reduceNe, Int.reduceEq, Int.reduceLT, Int.reduceLE, Int.reduceAdd, Int.reduceSub, Int.reduceMul, Int.reduceNeg, Int.reduceToNat, UInt8.reduceToNat, natLit, ty3, ty24, ty36]
    rw [hL, hR]
    split
    · rename_i hlt
      rw [show (i : Int) + 1 = ((i + 1 : Nat) : Int) by omega, show (i : Int) * 2 + 2 = ((i + 1 : Nat) : Int) * 2 by omega]
      exact ih (m - (i + 1)) (by omega) (i + 1) _ _ _ _ rfl (by omega)
    · have : i = m := by omega
      subst this
      rfl
  have := fun x4 x9 x18 x27 => key m 0 x4 x9 x18 x27 rfl (Nat.zero_le _)
  simpa using this _ _ _ _

end Go.Proofs.YtbjpecknlohicaaDoor.Lg
