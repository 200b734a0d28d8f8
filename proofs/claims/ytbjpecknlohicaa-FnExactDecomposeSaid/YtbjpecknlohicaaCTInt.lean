/- What the laws do with values of Int, over the logical machine. No condition. -/
import Derived.Test.YtbjpecknlohicaaLc
import Derived.Test.YtbjpecknlohicaaCMk
namespace Go.Proofs.Ytbjpecknlohicaa.Lg
set_option linter.unusedSimpArgs false
set_option linter.unusedVariables false
set_option maxRecDepth 100000
set_option maxHeartbeats 40000000
open Go.Proofs.Ytbjpecknlohicaa

def inC (x : Int) : List V := [.int .i64 x]
theorem inC_len (x : Int) : (inC x).length = 1 := rfl
theorem run_toIntS (v : V) (xs : List Int) (fl : Nat) (H : LH) (h : At H inC 1 v xs) (hx : xs.length ≤ 1048576) :
    run 71 [v] fl H = some (.sl H.length 0 1 xs.length xs.length, H ++ [.cells (rows inC xs)]) := by
  have f1 := h.isTup; have f2 := h.len; have f3 := h.lenOk ty55
  have f4 := fun L (hp : 0 < xs.length) => (h.left (L := L)).con hp
  have f5 := h.idx (T := ty Try.prog) (t := 55) (by simp only [elemI, sizeO, ty3, ty55])
  unfold run at *
  rw [Run_z Try.func71 rfl (by rfl : ok 71 = true) (by rfl : cfg.keep 71 = [0, 2, 3, 4, 11]) (by rfl : cfg.mode 71 = .fresh)]
  simp (config := {contextual := true, maxSteps := 10000000, implicitDefEqProofs := false}) (disch := first | (and_intros <;> omega -splitDisjunctions) | (simp only [List.length_set, List.length_append, List.length_cons, List.length_nil]; and_intros <;> omega -splitDisjunctions) | fail) only [f1, f2, f3, Try.f71, go_sem, ↓reduceIte, Nat.reduceEqDiff, Nat.reduceAdd, Nat.reduceMul, Nat.reduceLT, Nat.reduceLeDiff, reduceCtorEq, Int.reduceNe, Int.reduceEq, Int.reduceLT, Int.reduceLE, Int.reduceAdd, Int.reduceSub, Int.reduceMul, Int.reduceNeg, Int.reduceToNat, UInt8.reduceToNat, natLit, ty3, ty55]
  generalize hL : K.code (Code.loop _) = L
  generalize hR : (K.blk _ :: _ : List K) = R
  have key : ∀ (d i : Nat) (x11 : Option V) (ys : List Int), xs.length - i = d → i ≤ xs.length → ys = xs.take i ++ List.replicate (xs.length - i) 0 →
      zEv (leaveX (mkR Try.prog cfg ok [0, 2, 3, 4, 11] H.length) .fresh H [ResultVar.tmp 2]) (mkR Try.prog cfg ok [0, 2, 3, 4, 11] H.length) (L :: R) .nrm [some v, some .nilsl, some (.sl H.length 0 1 xs.length xs.length), some (.int .i64 i), x11] (H ++ [.cells (rows inC ys)]) =
      some (.sl H.length 0 1 xs.length xs.length, H ++ [.cells (rows inC xs)]) := by
    intro d
    induction d using Nat.strongRecOn with
    | _ d ih =>
    intro i x11 ys hd hi hys
    have hyl : ys.length = xs.length := by rw [hys]; simp; omega
    have g1 := rows_len inC_len ys
    rw [hyl] at g1
    have g2 : i < xs.length → putAt (rows inC ys) (i) (inC (xs.getD i 0)) = rows inC (ys.set i (xs.getD i 0)) := fun hi => by
      have := rows_putD (enc := inC) (j := 0) (xs := ys) inC_len 0 i (by omega) (ws := inC (xs.getD i 0)) (by simp [inC_len]) _ rfl
      simpa using this
    have g3 := fun L => (h.left (L := L)).load1 0 _ (fun _ => rfl)
    have g4 : ∀ x : Int, (inC x).length = 1 := inC_len
    simp only [inC, putAt] at g2
    rw [← hL, ← hR, zEv_loop]
    simp (config := {contextual := true, maxSteps := 10000000, implicitDefEqProofs := false}) (disch := first | (and_intros <;> omega -splitDisjunctions) | (simp only [List.length_set, List.length_append, List.length_cons, List.length_nil]; and_intros <;> omega -splitDisjunctions) | fail) only [f1, f2, f3, f4, f5, g1, g2, g3, g4, Try.f71, go_sem, ↓reduceIte, Nat.reduceEqDiff, Nat.reduceAdd, Nat.reduceMul, Nat.reduceLT, Nat.reduceLeDiff, reduceCtorEq, Int.reduceNe, Int.reduceEq, Int.reduceLT, Int.reduceLE, Int.reduceAdd, Int.reduceSub, Int.reduceMul, Int.reduceNeg, Int.reduceToNat, UInt8.reduceToNat, natLit, ty3, ty55]
    rw [hL, hR]
    split
    · rename_i hlt
      have hlt : i < xs.length := by omega
      rw [show (i : Int) + 1 = ((i + 1 : Nat) : Int) by omega]
      refine ih (xs.length - (i + 1)) (by omega) (i + 1) _ _ rfl (by omega) ?_
      rw [hys, copy_step hlt]
    · rename_i hge
      have : i = xs.length := by omega
      subst this
      rw [hys, List.take_of_length_le (Nat.le_refl _), Nat.sub_self]
      simp
  have := fun x11 => key xs.length 0 x11 (List.replicate xs.length 0) (by simp) (by simp) (by simp)
  simp only [rows_replicate] at this
  exact this _
theorem run_eqIntS (v w : V) (xs ys : List Int) (fl : Nat) (H : LH) (h : At H inC 1 v xs) (h' : At H inC 1 w ys) (hx : xs.length ≤ 1099511627776) (hy : ys.length ≤ 1099511627776) :
    run 48 [v, w] fl H = some (.bool (decide (xs = ys)), H) := by
  have f1 := h.isTup; have f2 := h.len; have f3 := h.lenOk ty55
  have f4 := fun L (hp : 0 < xs.length) => (h.left (L := L)).con hp
  have f5 := h.idx (T := ty Try.prog) (t := 55) (by simp only [elemI, sizeO, ty3, ty55])
  have g1 := h'.isTup; have g2 := h'.len; have g3 := h'.lenOk ty55
  have g4 := fun L (hp : 0 < ys.length) => (h'.left (L := L)).con hp
  have g5 := h'.idx (T := ty Try.prog) (t := 55) (by simp only [elemI, sizeO, ty3, ty55])
  have f4' := fun (hp : 0 < xs.length) => h.con hp
  have g4' := fun (hp : 0 < ys.length) => h'.con hp
  have f6 := fun L => (h.left (L := L)).load1 0 _ (fun _ => rfl)
  have g6 := fun L => (h'.left (L := L)).load1 0 _ (fun _ => rfl)
  have f6' := h.load1 0 _ (fun _ => rfl)
  have g6' := h'.load1 0 _ (fun _ => rfl)
  unfold run at *
  rw [Run_z Try.func48 rfl (by rfl : ok 48 = true) (by rfl : cfg.keep 48 = [0, 1, 4, 5, 10, 14, 25]) (by rfl : cfg.mode 48 = .pure)]
  by_cases hl : xs.length = ys.length
  · simp (config := {contextual := true, maxSteps := 10000000, implicitDefEqProofs := false}) (disch := first | (and_intros <;> omega -splitDisjunctions) | (simp only [List.length_set, List.length_append, List.length_cons, List.length_nil]; and_intros <;> omega -splitDisjunctions) | fail) only [hl, f1, f2, f3, g1, g2, g3, Try.f48, go_sem, ↓reduceIte, Nat.reduceEqDiff, Nat.reduceAdd, Nat.reduceMul, Nat.reduceLT, Nat.reduceLeDiff, reduceCtorEq, Int.reduceNe, Int.reduceEq, Int.reduceLT, Int.reduceLE, Int.reduceAdd, Int.reduceSub, Int.reduceMul, Int.reduceNeg, Int.reduceToNat, UInt8.reduceToNat, natLit, ty3, ty55]
    generalize hL : K.code (Code.loop _) = L
    generalize hR : (K.blk _ :: _ : List K) = R
    have key : ∀ (d i : Nat) (x4 x10 x14 x25 : Option V), xs.length - i = d → i ≤ xs.length →
        zEv (leaveX (mkR Try.prog cfg ok [0, 1, 4, 5, 10, 14, 25] H.length) .pure H [ResultVar.tmp 4]) (mkR Try.prog cfg ok [0, 1, 4, 5, 10, 14, 25] H.length) (L :: R) .nrm [some v, some w, x4, some (.int .i64 i), x10, x14, x25] H =
        some (.bool (decide (xs.drop i = ys.drop i)), H) := by
      intro d
      induction d using Nat.strongRecOn with
      | _ d ih =>
      intro i x4 x10 x14 x25 hd hi
      rw [← hL, ← hR, zEv_loop]
      simp (config := {contextual := true, maxSteps := 10000000, implicitDefEqProofs := false}) (disch := first | (and_intros <;> omega -splitDisjunctions) | (simp only [List.length_set, List.length_append, List.length_cons, List.length_nil]; and_intros <;> omega -splitDisjunctions) | fail) only [f1, f2, f3, f4', f5, f6', g1, g2, g3, g4', g5, g6', Try.f48, go_sem, ↓reduceIte, Nat.reduceEqDiff, Nat.reduceAdd, Nat.reduceMul, Nat.reduceLT, Nat.reduceLeDiff, reduceCtorEq, Int.reduceNe, Int.reduceEq, Int.reduceLT, Int.reduceLE, Int.reduceAdd, Int.reduceSub, Int.reduceMul, Int.reduceNeg, Int.reduceToNat, UInt8.reduceToNat, natLit, ty3, ty55]
      rw [hL, hR]
      split
      · rename_i hlt
        have hlt : i < xs.length := by omega
        have hlt' : i < ys.length := by omega
        rw [show (i : Int) + 1 = ((i + 1 : Nat) : Int) by omega, ih (xs.length - (i + 1)) (by omega) (i + 1) _ _ _ _ rfl (by omega), getD_of hlt, getD_of hlt', List.drop_eq_getElem_cons hlt, List.drop_eq_getElem_cons hlt']
        by_cases e : xs[i] = ys[i] <;> simp only [e, List.cons.injEq, true_and, false_and, not_true_eq_false, not_false_eq_true, if_true, if_false, decide_false]
      · rw [List.drop_of_length_le (by omega), List.drop_of_length_le (by omega)]
        rfl
    exact (key xs.length 0 _ _ _ _ rfl (Nat.zero_le _)).trans (by rw [List.drop_zero, List.drop_zero])
  · have h2 : ¬ xs = ys := fun e => hl (by rw [e])
    have h3 : ¬ (xs.length : Int) = (ys.length : Int) := by omega
    simp (config := {contextual := true, maxSteps := 10000000, implicitDefEqProofs := false}) (disch := first | (and_intros <;> omega -splitDisjunctions) | (simp only [List.length_set, List.length_append, List.length_cons, List.length_nil]; and_intros <;> omega -splitDisjunctions) | fail) only [h2, h3, f1, f2, f3, g1, g2, g3, Try.f48, go_sem, ↓reduceIte, Nat.reduceEqDiff, Nat.reduceAdd, Nat.reduceMul, Nat.reduceLT, Nat.reduceLeDiff, reduceCtorEq, Int.reduceNe, Int.reduceEq, Int.reduceLT, Int.reduceLE, Int.reduceAdd, Int.reduceSub, Int.reduceMul, Int.reduceNeg, Int.reduceToNat, UInt8.reduceToNat, natLit, ty3, ty55]
/-- the mark of a value -/
def mkInt (k : Int) : Int := k
theorem run_markIntS (b : Nat) (xs : List Int) (k0 : Int) (fl : Nat) (H : LH) (h : H.cellsAt b = some (rows inC xs)) (hb : fl ≤ b) (h0 : 0 ≤ k0) (h1 : k0 ≤ 1099511627776) (hx : xs.length ≤ 1099511627776) :
    run 50 [.sl b 0 1 xs.length xs.length, .int .i64 k0] fl H = some (.int .i64 (k0 + xs.length), H.set b (.cells (rows inC (marksF mkInt 1 xs.length k0)))) := by
  have hbl := cellsAt_lt h
  unfold run at *
  rw [Run_z Try.func50 rfl (by rfl : ok 50 = true) (by rfl : cfg.keep 50 = [0, 1, 4, 5, 9]) (by rfl : cfg.mode 50 = .any)]
  simp (config := {contextual := true, maxSteps := 10000000, implicitDefEqProofs := false}) (disch := first | (and_intros <;> omega -splitDisjunctions) | (simp only [List.length_set, List.length_append, List.length_cons, List.length_nil]; and_intros <;> omega -splitDisjunctions) | fail) only [Try.f50, go_sem, ↓reduceIte, Nat.reduceEqDiff, Nat.reduceAdd, Nat.reduceMul, Nat.reduceLT, Nat.reduceLeDiff, reduceCtorEq, Int.reduceNe, Int.reduceEq, Int.reduceLT, Int.reduceLE, Int.reduceAdd, Int.reduceSub, Int.reduceMul, Int.reduceNeg, Int.reduceToNat, UInt8.reduceToNat, natLit, ty3, ty55]
  generalize hL : K.code (Code.loop _) = L
  generalize hR : (K.blk _ :: _ : List K) = R
  have key : ∀ (d i : Nat) (x4 x9 : Option V) (ys : List Int), xs.length - i = d → i ≤ xs.length → ys = marksF mkInt 1 i k0 ++ xs.drop i →
      zEv (leaveX (mkR Try.prog cfg ok [0, 1, 4, 5, 9] fl) .any H [ResultVar.tmp 4]) (mkR Try.prog cfg ok [0, 1, 4, 5, 9] fl) (L :: R) .nrm [some (.sl b 0 1 xs.length xs.length), some (.int .i64 (k0 + i)), x4, some (.int .i64 i), x9] (H.set b (.cells (rows inC ys))) =
      some (.int .i64 (k0 + xs.length), H.set b (.cells (rows inC (marksF mkInt 1 xs.length k0)))) := by
    intro d
    induction d using Nat.strongRecOn with
    | _ d ih =>
    intro i x4 x9 ys hd hi hys
    have hyl : ys.length = xs.length := by rw [hys]; simp [marksF_len]; omega
    have g1 := rows_len inC_len ys
    rw [hyl] at g1
    have g2 : i < xs.length → putAt (rows inC ys) (i) (inC (mkInt (k0 + i))) = rows inC (ys.set i (mkInt (k0 + i))) := fun hi => by
      have := rows_putD (enc := inC) (j := 0) (xs := ys) inC_len 0 i (by omega) (ws := inC (mkInt (k0 + i))) (by simp [inC_len]) _ rfl
      simpa using this
    have g5 : fl ≤ b := hb
    simp only [inC, mkInt, putAt, Int.add_assoc, Nat.add_assoc, Nat.reduceAdd, Int.reduceAdd] at g2
    rw [← hL, ← hR, zEv_loop]
    simp (config := {contextual := true, maxSteps := 10000000, implicitDefEqProofs := false}) (disch := first | (and_intros <;> omega -splitDisjunctions) | (simp only [List.length_set, List.length_append, List.length_cons, List.length_nil]; and_intros <;> omega -splitDisjunctions) | fail) only [cellsAt_set, g1, g2, g5, Int.add_assoc, List.length_set, Try.f50, go_sem, ↓reduceIte, Nat.reduceEqDiff, Nat.reduceAdd, Nat.reduceMul, Nat.reduceLT, Nat.reduceLeDiff, reduceCtorEq, Int.reduceNe, Int.reduceEq, Int.reduceLT, Int.reduceLE, Int.reduceAdd, Int.reduceSub, Int.reduceMul, Int.reduceNeg, Int.reduceToNat, UInt8.reduceToNat, natLit, ty3, ty55]
    rw [hL, hR]
    split
    · rename_i hlt
      have hlt : i < xs.length := by omega
      have ms := mark_step (mk := mkInt) (f := 1) (k := k0) hlt
      simp only [mkInt, Int.mul_one, Int.add_assoc] at ms
      rw [hys, ms, show (i : Int) + 1 = ((i + 1 : Nat) : Int) by omega]
      exact ih (xs.length - (i + 1)) (by omega) (i + 1) _ _ _ rfl (by omega) rfl
    · have : i = xs.length := by omega
      subst this
      rw [hys, List.drop_length, List.append_nil]
  have := fun x4 x9 => key xs.length 0 x4 x9 xs rfl (Nat.zero_le _) (by simp [marksF])
  simp only [set_same h] at this
  simpa using this _ _
theorem run_markIntO {f0 : Nat} (v : V) (xs : List Int) (k0 : Int) (fl : Nat) (H : LH) (h : Own f0 H inC 1 v xs) (hb : fl ≤ f0) (h0 : 0 ≤ k0) (h1 : k0 ≤ 1099511627776) (hx : xs.length ≤ 1099511627776) :
    run 50 [v, .int .i64 k0] fl H = some (.int .i64 (k0 + xs.length), setV H v (rows inC (marksF mkInt 1 xs.length k0))) := by
  rcases h with ⟨rfl, rfl | rfl⟩ | ⟨b, rfl, h2, h3⟩
  · unfold run
    rw [Run_z Try.func50 rfl (by rfl : ok 50 = true) (by rfl : cfg.keep 50 = [0, 1, 4, 5, 9]) (by rfl : cfg.mode 50 = .any)]
    simp (config := {contextual := true, maxSteps := 10000000, implicitDefEqProofs := false}) (disch := first | (and_intros <;> omega -splitDisjunctions) | (simp only [List.length_set, List.length_append, List.length_cons, List.length_nil]; and_intros <;> omega -splitDisjunctions) | fail) only [Try.f50, go_sem, ↓reduceIte, Nat.reduceEqDiff, Nat.reduceAdd, Nat.reduceMul, Nat.reduceLT, Nat.reduceLeDiff, reduceCtorEq, Int.reduceNe, Int.reduceEq, Int.reduceLT, Int.reduceLE, Int.reduceAdd, Int.reduceSub, Int.reduceMul, Int.reduceNeg, Int.reduceToNat, UInt8.reduceToNat, natLit, ty3, ty55]
    rw [zEv_loop]
    simp (config := {contextual := true, maxSteps := 10000000, implicitDefEqProofs := false}) (disch := first | (and_intros <;> omega -splitDisjunctions) | (simp only [List.length_set, List.length_append, List.length_cons, List.length_nil]; and_intros <;> omega -splitDisjunctions) | fail) only [Try.f50, go_sem, ↓reduceIte, Nat.reduceEqDiff, Nat.reduceAdd, Nat.reduceMul, Nat.reduceLT, Nat.reduceLeDiff, reduceCtorEq, Int.reduceNe, Int.reduceEq, Int.reduceLT, Int.reduceLE, Int.reduceAdd, Int.reduceSub, Int.reduceMul, Int.reduceNeg, Int.reduceToNat, UInt8.reduceToNat, natLit, ty3, ty55]
    simp [setV]
  · unfold run
    rw [Run_z Try.func50 rfl (by rfl : ok 50 = true) (by rfl : cfg.keep 50 = [0, 1, 4, 5, 9]) (by rfl : cfg.mode 50 = .any)]
    simp (config := {contextual := true, maxSteps := 10000000, implicitDefEqProofs := false}) (disch := first | (and_intros <;> omega -splitDisjunctions) | (simp only [List.length_set, List.length_append, List.length_cons, List.length_nil]; and_intros <;> omega -splitDisjunctions) | fail) only [Try.f50, go_sem, ↓reduceIte, Nat.reduceEqDiff, Nat.reduceAdd, Nat.reduceMul, Nat.reduceLT, Nat.reduceLeDiff, reduceCtorEq, Int.reduceNe, Int.reduceEq, Int.reduceLT, Int.reduceLE, Int.reduceAdd, Int.reduceSub, Int.reduceMul, Int.reduceNeg, Int.reduceToNat, UInt8.reduceToNat, natLit, ty3, ty55]
    rw [zEv_loop]
    simp (config := {contextual := true, maxSteps := 10000000, implicitDefEqProofs := false}) (disch := first | (and_intros <;> omega -splitDisjunctions) | (simp only [List.length_set, List.length_append, List.length_cons, List.length_nil]; and_intros <;> omega -splitDisjunctions) | fail) only [Try.f50, go_sem, ↓reduceIte, Nat.reduceEqDiff, Nat.reduceAdd, Nat.reduceMul, Nat.reduceLT, Nat.reduceLeDiff, reduceCtorEq, Int.reduceNe, Int.reduceEq, Int.reduceLT, Int.reduceLE, Int.reduceAdd, Int.reduceSub, Int.reduceMul, Int.reduceNeg, Int.reduceToNat, UInt8.reduceToNat, natLit, ty3, ty55]
    simp [setV]
  · exact run_markIntS b xs k0 fl H h2 (by omega) h0 h1 hx
theorem run_heldIntS (v : V) (m : Nat) (k0 : Int) (fl : Nat) (H : LH) (h : At H inC 1 v (marksF mkInt 1 m k0)) (h0 : 0 ≤ k0) (h1 : k0 ≤ 1099511627776) (hx : m ≤ 1099511627776) :
    run 51 [v, .int .i64 k0] fl H = some (.int .i64 (k0 + m), H) := by
  have f1 := h.isTup; have f2 := h.len; have f3 := h.lenOk ty55
  have f4 := fun (hp : 0 < m) => h.con (by rw [marksF_len]; exact hp)
  have f5 := h.idx (T := ty Try.prog) (t := 55) (by simp only [elemI, sizeO, ty3, ty55])
  have q0 := h.load1 0 _ (fun _ => rfl)
  have g := marksF_get (mk := mkInt) (f := 1) m k0
  simp only [marksF_len] at *
  unfold run at *
  rw [Run_z Try.func51 rfl (by rfl : ok 51 = true) (by rfl : cfg.keep 51 = [0, 1, 4, 5, 9, 17]) (by rfl : cfg.mode 51 = .pure)]
  simp (config := {contextual := true, maxSteps := 10000000, implicitDefEqProofs := false}) (disch := first | (and_intros <;> omega -splitDisjunctions) | (simp only [List.length_set, List.length_append, List.length_cons, List.length_nil]; and_intros <;> omega -splitDisjunctions) | fail) only [f1, f2, f3, Try.f51, go_sem, ↓reduceIte, Nat.reduceEqDiff, Nat.reduceAdd, Nat.reduceMul, Nat.reduceLT, Nat.reduceLeDiff, reduceCtorEq, Int.reduceNe, Int.reduceEq, Int.reduceLT, Int.reduceLE, Int.reduceAdd, Int.reduceSub, Int.reduceMul, Int.reduceNeg, Int.reduceToNat, UInt8.reduceToNat, natLit, ty3, ty55]
  generalize hL : K.code (Code.loop _) = L
  generalize hR : (K.blk _ :: _ : List K) = R
  have key : ∀ (d i : Nat) (x4 x9 x17 : Option V), m - i = d → i ≤ m →
      zEv (leaveX (mkR Try.prog cfg ok [0, 1, 4, 5, 9, 17] H.length) .pure H [ResultVar.tmp 4]) (mkR Try.prog cfg ok [0, 1, 4, 5, 9, 17] H.length) (L :: R) .nrm [some v, some (.int .i64 (k0 + i)), x4, some (.int .i64 i), x9, x17] H =
      some (.int .i64 (k0 + m), H) := by
    intro d
    induction d using Nat.strongRecOn with
    | _ d ih =>
    intro i x4 x9 x17 hd hi
    have g2 := fun d h => g i d h
    simp only [mkInt, Int.mul_one] at g2
    rw [← hL, ← hR, zEv_loop]
    simp (config := {contextual := true, maxSteps := 10000000, implicitDefEqProofs := false}) (disch := first | (and_intros <;> omega -splitDisjunctions) | (simp only [List.length_set, List.length_append, List.length_cons, List.length_nil]; and_intros <;> omega -splitDisjunctions) | fail) only [f1, f2, f3, f4, f5, q0, g2, Int.add_assoc, Try.f51, go_sem, ↓reduceIte, Nat.reduceEqDiff, Nat.reduceAdd, Nat.reduceMul, Nat.reduceLT, Nat.reduceLeDiff, reduceCtorEq, Int.reduceNe, Int.reduceEq, Int.reduceLT, Int.reduceLE, Int.reduceAdd, Int.reduceSub, Int.reduceMul, Int.reduceNeg, Int.reduceToNat, UInt8.reduceToNat, natLit, ty3, ty55]
    rw [hL, hR]
    split
    · rename_i hlt
      rw [show (i : Int) + 1 = ((i + 1 : Nat) : Int) by omega]
      exact ih (m - (i + 1)) (by omega) (i + 1) _ _ _ rfl (by omega)
    · have : i = m := by omega
      subst this
      rfl
  have := fun x4 x9 x17 => key m 0 x4 x9 x17 rfl (Nat.zero_le _)
  simpa using this _ _ _

end Go.Proofs.Ytbjpecknlohicaa.Lg
