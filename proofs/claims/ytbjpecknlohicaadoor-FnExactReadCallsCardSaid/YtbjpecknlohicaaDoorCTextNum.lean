/- TextNum, as the program has it twice, over the logical machine. No condition. -/
import Derived.Test.YtbjpecknlohicaaDoorCNum
import Derived.Test.YtbjpecknlohicaaDoorLg34
namespace Go.Proofs.YtbjpecknlohicaaDoor.Lg
set_option linter.unusedSimpArgs false
set_option linter.unusedVariables false
set_option maxRecDepth 100000
set_option maxHeartbeats 40000000
open Go.Proofs.YtbjpecknlohicaaDoor

/-- what digits write -/
def digs : List UInt8 → Int → Option Int
  | [], n => some n
  | b :: l, n => if (b.toNat : Int) < 48 ∨ 57 < (b.toNat : Int) then none else digs l (10 * n + ((b.toNat : Int) - 48))
def tnumF (s : ByteArray) : Option Int → V
  | none => .tup [.int .i64 0, .bool false]
  | some n => if numT n = s then .tup [.int .i64 n, .bool true] else .tup [.int .i64 0, .bool false]
def tnum (s : ByteArray) : Int × Bool :=
  if 1 ≤ s.size ∧ s.size ≤ 10 then (match digs (bs s) 0 with
    | none => (0, false)
    | some n => if numT n = s then (n, true) else (0, false)) else (0, false)
theorem tnum_in {s : ByteArray} (h : 1 ≤ s.size ∧ s.size ≤ 10) : V.tup [.int .i64 (tnum s).1, .bool (tnum s).2] = tnumF s (digs (bs s) 0) := by
  simp only [tnum, h, and_self, if_true]
  cases digs (bs s) 0 with
  | none => rfl
  | some n =>
    simp only [tnumF]
    by_cases h9 : numT n = s
    · simp only [h9, if_true]
    · simp only [h9, if_false]
def pw10 (i : Nat) : Int := 10 ^ i
theorem pw10_succ (i : Nat) : pw10 (i + 1) = 10 * pw10 i := by unfold pw10; rw [Int.pow_succ]; omega
theorem pw10_le {i : Nat} (h : i ≤ 10) : pw10 i ≤ 10000000000 := by
  have : ∀ k, k < 11 → pw10 k ≤ 10000000000 := by decide
  exact this i (by omega)
theorem run_imTextNum (s : ByteArray) (fl : Nat) (H : LH) : run 31 [.str s] fl H = some (.tup [.int .i64 (tnum s).1, .bool (tnum s).2], H) := by
  have e1 := fun a b c fl H => run_within a b c fl H
  have e2 := fun n fl H => run_imNum n fl H
  unfold run at *
  rw [Run_z Tryd.func31 rfl (by rfl : ok 31 = true) (by rfl : cfg.keep 31 = [0, 2, 3, 4, 5, 9, 11, 12, 13, 24, 37]) (by rfl : cfg.mode 31 = .pure)]
  simp (config := {contextual := true, maxSteps := 10000000, implicitDefEqProofs := false}) (disch := first | (and_intros <;> omega -splitDisjunctions) | (simp only [List.length_set, List.length_append, List.length_cons, List.length_nil]; and_intros <;> omega -splitDisjunctions) | fail) only [e1, e2, Tryd.f31, go_sem, ↓reduceIte, Nat.reduceEqDiff, Nat.reduceAdd, Nat.reduceMul, Nat.reduceLT, Nat.reduceLeDiff, reduceCtorEq, Int.reduceNe, Int.reduceEq, Int.reduceLT, Int.reduceLE, Int.reduceAdd, Int.reduceSub, Int.reduceMul, Int.reduceNeg, Int.reduceToNat, UInt8.reduceToNat, natLit, ty3, ty4, ty5, ty9]
  refine ite_E (fun hsz => ?_) (fun hsz => ?_)
  · have hsz : 1 ≤ s.size ∧ s.size ≤ 10 := by omega
    refine at_loopE fun c0 R hc0 hR => ?_
    have key : ∀ (d i : Nat) (x5 x9 x13 x24 x37 : Option V) (n m j : Int), s.size - i = d → i ≤ s.size → m = n → j = i → 0 ≤ n → n < pw10 i →
        zEv (leaveX (mkR Tryd.prog cfg ok [0, 2, 3, 4, 5, 9, 11, 12, 13, 24, 37] H.length) .pure H [ResultVar.tmp 2, ResultVar.tmp 3]) (mkR Tryd.prog cfg ok [0, 2, 3, 4, 5, 9, 11, 12, 13, 24, 37] H.length) (K.code (Code.loop c0) :: K.blk 0 :: R) .nrm [some (.str s), some (.int .i64 0), some (.bool false), some (.int .i64 m), x5, x9, some (.int .i64 s.size), some (.int .i64 j), x13, x24, x37] H = some (tnumF s (digs ((bs s).drop i) n), H) := by
      intro d
      induction d using Nat.strongRecOn with
      | _ d ih =>
      intro i x5 x9 x13 x24 x37 n m j hd hi hm hj hn0 hn
      subst hj; subst hm
      have p1 := pw10_le (i := i) (by omega)
      have p2 := pw10_succ i
      rw [zEv_round hc0]
      simp (config := {contextual := true, maxSteps := 10000000, implicitDefEqProofs := false}) (disch := first | (and_intros <;> omega -splitDisjunctions) | (simp only [List.length_set, List.length_append, List.length_cons, List.length_nil]; and_intros <;> omega -splitDisjunctions) | fail) only [e1, e2, Tryd.f31, go_sem, ↓reduceIte, Nat.reduceEqDiff, Nat.reduceAdd, Nat.reduceMul, Nat.reduceLT, Nat.reduceLeDiff, reduceCtorEq, Int.reduceNe, Int.reduceEq, Int.reduceLT, Int.reduceLE, Int.reduceAdd, Int.reduceSub, Int.reduceMul, Int.reduceNeg, Int.reduceToNat, UInt8.reduceToNat, natLit, ty3, ty4, ty5, ty9]
      refine ite_E (fun hlt => ?_) (fun hge => ?_)
      · have hlt : i < (bs s).length := by rw [bs_len]; omega
        rw [List.drop_eq_getElem_cons hlt, digs, ← bA_nat (by omega)]
        refine ite_E (fun hb => ?_) (fun hb => ?_)
        · rw [if_pos hb, ← hR]
          simp (config := {contextual := true, maxSteps := 10000000, implicitDefEqProofs := false}) (disch := first | (and_intros <;> omega -splitDisjunctions) | (simp only [List.length_set, List.length_append, List.length_cons, List.length_nil]; and_intros <;> omega -splitDisjunctions) | fail) only [Tryd.f31, go_sem, ↓reduceIte, Nat.reduceEqDiff, Nat.reduceAdd, Nat.reduceMul, Nat.reduceLT, Nat.reduceLeDiff, reduceCtorEq, Int.reduceNe, Int.reduceEq, Int.reduceLT, Int.reduceLE, Int.reduceAdd, Int.reduceSub, Int.reduceMul, Int.reduceNeg, Int.reduceToNat, UInt8.reduceToNat, natLit, ty3, ty4, ty5, ty9]
          rfl
        · rw [if_neg hb]
          have := bA_hi s i
          exact ih (s.size - (i + 1)) (by omega) (i + 1) _ _ _ _ _ _ _ _ rfl (by omega) (by omega) rfl (by omega) (by omega)
      · have : i = s.size := by omega
        subst this
        rw [← hR]
        simp (config := {contextual := true, maxSteps := 10000000, implicitDefEqProofs := false}) (disch := first | (and_intros <;> omega -splitDisjunctions) | (simp only [List.length_set, List.length_append, List.length_cons, List.length_nil]; and_intros <;> omega -splitDisjunctions) | fail) only [e1, e2, Tryd.f31, go_sem, ↓reduceIte, Nat.reduceEqDiff, Nat.reduceAdd, Nat.reduceMul, Nat.reduceLT, Nat.reduceLeDiff, reduceCtorEq, Int.reduceNe, Int.reduceEq, Int.reduceLT, Int.reduceLE, Int.reduceAdd, Int.reduceSub, Int.reduceMul, Int.reduceNeg, Int.reduceToNat, UInt8.reduceToNat, natLit, ty3, ty4, ty5, ty9]
        rw [List.drop_of_length_le (by rw [bs_len]; omega)]
        simp only [digs, tnumF]
        by_cases h9 : numT m = s
        · simp only [h9, not_true_eq_false, if_true, if_false]
        · simp only [h9, not_false_eq_true, if_true, if_false]
    have := fun x5 x9 x13 x24 x37 => key s.size 0 x5 x9 x13 x24 x37 0 0 0 rfl (Nat.zero_le _) rfl rfl (by decide) (by decide)
    rw [List.drop_zero] at this
    rw [tnum_in hsz]
    exact this _ _ _ _ _
  · have hsz : ¬ (1 ≤ s.size ∧ s.size ≤ 10) := by omega
    simp only [tnum, hsz, if_false]
theorem run_spTextNum (s : ByteArray) (fl : Nat) (H : LH) : run 27 [.str s] fl H = some (.tup [.int .i64 (tnum s).1, .bool (tnum s).2], H) := by
  have e2 := fun n fl H => run_spNum n fl H
  unfold run at *
  rw [Run_z Tryd.func27 rfl (by rfl : ok 27 = true) (by rfl : cfg.keep 27 = [0, 2, 3, 4, 5, 13, 17, 29, 41]) (by rfl : cfg.mode 27 = .pure)]
  simp (config := {contextual := true, maxSteps := 10000000, implicitDefEqProofs := false}) (disch := first | (and_intros <;> omega -splitDisjunctions) | (simp only [List.length_set, List.length_append, List.length_cons, List.length_nil]; and_intros <;> omega -splitDisjunctions) | fail) only [e2, Tryd.f27, go_sem, ↓reduceIte, Nat.reduceEqDiff, Nat.reduceAdd, Nat.reduceMul, Nat.reduceLT, Nat.reduceLeDiff, reduceCtorEq, Int.reduceNe, Int.reduceEq, Int.reduceLT, Int.reduceLE, Int.reduceAdd, Int.reduceSub, Int.reduceMul, Int.reduceNeg, Int.reduceToNat, UInt8.reduceToNat, natLit, ty3, ty5, ty9]
  refine ite_E2 (fun hsz => ?_) (fun hsz => ?_)
  · have hsz : 1 ≤ s.size ∧ s.size ≤ 10 := by omega
    refine at_loopE fun c0 R hc0 hR => ?_
    have key : ∀ (d i : Nat) (x13 x17 x29 x41 : Option V) (n m j : Int), s.size - i = d → i ≤ s.size → m = n → j = i → 0 ≤ n → n < pw10 i →
        zEv (leaveX (mkR Tryd.prog cfg ok [0, 2, 3, 4, 5, 13, 17, 29, 41] H.length) .pure H [ResultVar.tmp 2, ResultVar.tmp 3]) (mkR Tryd.prog cfg ok [0, 2, 3, 4, 5, 13, 17, 29, 41] H.length) (K.code (Code.loop c0) :: K.blk 0 :: R) .nrm [some (.str s), some (.int .i64 0), some (.bool false), some (.int .i64 m), some (.int .i64 j), x13, x17, x29, x41] H = some (tnumF s (digs ((bs s).drop i) n), H) := by
      intro d
      induction d using Nat.strongRecOn with
      | _ d ih =>
      intro i x13 x17 x29 x41 n m j hd hi hm hj hn0 hn
      subst hj; subst hm
      have p1 := pw10_le (i := i) (by omega)
      have p2 := pw10_succ i
      rw [zEv_round hc0]
      simp (config := {contextual := true, maxSteps := 10000000, implicitDefEqProofs := false}) (disch := first | (and_intros <;> omega -splitDisjunctions) | (simp only [List.length_set, List.length_append, List.length_cons, List.length_nil]; and_intros <;> omega -splitDisjunctions) | fail) only [e2, Tryd.f27, go_sem, ↓reduceIte, Nat.reduceEqDiff, Nat.reduceAdd, Nat.reduceMul, Nat.reduceLT, Nat.reduceLeDiff, reduceCtorEq, Int.reduceNe, Int.reduceEq, Int.reduceLT, Int.reduceLE, Int.reduceAdd, Int.reduceSub, Int.reduceMul, Int.reduceNeg, Int.reduceToNat, UInt8.reduceToNat, natLit, ty3, ty5, ty9]
      refine ite_E (fun hlt => ?_) (fun hge => ?_)
      · have hlt : i < (bs s).length := by rw [bs_len]; omega
        rw [List.drop_eq_getElem_cons hlt, digs, ← bA_nat (by omega)]
        refine ite_E (fun hb => ?_) (fun hb => ?_)
        · rw [if_pos hb, ← hR]
          simp (config := {contextual := true, maxSteps := 10000000, implicitDefEqProofs := false}) (disch := first | (and_intros <;> omega -splitDisjunctions) | (simp only [List.length_set, List.length_append, List.length_cons, List.length_nil]; and_intros <;> omega -splitDisjunctions) | fail) only [Tryd.f27, go_sem, ↓reduceIte, Nat.reduceEqDiff, Nat.reduceAdd, Nat.reduceMul, Nat.reduceLT, Nat.reduceLeDiff, reduceCtorEq, Int.reduceNe, Int.reduceEq, Int.reduceLT, Int.reduceLE, Int.reduceAdd, Int.reduceSub, Int.reduceMul, Int.reduceNeg, Int.reduceToNat, UInt8.reduceToNat, natLit, ty3, ty5, ty9]
          rfl
        · rw [if_neg hb]
          have := bA_hi s i
          exact ih (s.size - (i + 1)) (by omega) (i + 1) _ _ _ _ _ _ _ rfl (by omega) (by omega) rfl (by omega) (by omega)
      · have : i = s.size := by omega
        subst this
        rw [← hR]
        simp (config := {contextual := true, maxSteps := 10000000, implicitDefEqProofs := false}) (disch := first | (and_intros <;> omega -splitDisjunctions) | (simp only [List.length_set, List.length_append, List.length_cons, List.length_nil]; and_intros <;> omega -splitDisjunctions) | fail) only [e2, Tryd.f27, go_sem, ↓reduceIte, Nat.reduceEqDiff, Nat.reduceAdd, Nat.reduceMul, Nat.reduceLT, Nat.reduceLeDiff, reduceCtorEq, Int.reduceNe, Int.reduceEq, Int.reduceLT, Int.reduceLE, Int.reduceAdd, Int.reduceSub, Int.reduceMul, Int.reduceNeg, Int.reduceToNat, UInt8.reduceToNat, natLit, ty3, ty5, ty9]
        rw [List.drop_of_length_le (by rw [bs_len]; omega)]
        simp only [digs, tnumF]
        by_cases h9 : numT m = s
        · simp only [h9, not_true_eq_false, if_true, if_false]
        · simp only [h9, not_false_eq_true, if_true, if_false]
    have := fun x13 x17 x29 x41 => key s.size 0 x13 x17 x29 x41 0 0 0 rfl (Nat.zero_le _) rfl rfl (by decide) (by decide)
    rw [List.drop_zero] at this
    rw [tnum_in hsz]
    exact this _ _ _ _
  · have hsz : ¬ (1 ≤ s.size ∧ s.size ≤ 10) := by omega
    simp only [tnum, hsz, if_false]
end Go.Proofs.YtbjpecknlohicaaDoor.Lg
