/- Bare texts, quoted texts of keys. No condition. -/
import Derived.Test.YtcbjmggbbnpbpaaDoorCPtM
import Derived.Test.YtcbjmggbbnpbpaaDoorCNum
import Derived.Test.YtcbjmggbbnpbpaaDoorCLibT
namespace Go.Proofs.YtcbjmggbbnpbpaaDoor.Lg
set_option linter.unusedSimpArgs false
set_option linter.unusedVariables false
set_option maxRecDepth 100000
set_option maxHeartbeats 40000000
open Go.Proofs.YtcbjmggbbnpbpaaDoor
set_option linter.unusedSectionVars false
variable [ML]

theorem bareG_s {s : ByteArray} {d p : Nat} : bareG s (d + 1) p = if p < s.size then (if wordB (bA s p) ∨ bA s p = 95 then bareG s d (p + 1) else false) else true := rfl
theorem bareG_fuel (s : ByteArray) : ∀ (d e p : Nat), s.size - p ≤ d → s.size - p ≤ e → bareG s d p = bareG s e p
  | 0, 0, p, _, _ => rfl
  | 0, e + 1, p, h, _ => by rw [bareG_s, if_neg (by omega)]; rfl
  | d + 1, 0, p, _, h => by rw [bareG_s, if_neg (by omega)]; rfl
  | d + 1, e + 1, p, h1, h2 => by
    rw [bareG_s, bareG_s]
    by_cases hp : p < s.size
    · rw [if_pos hp, if_pos hp, bareG_fuel s d e (p + 1) (by omega) (by omega)]
    · rw [if_neg hp, if_neg hp]
theorem run_isWord (b : Int) (fl : Nat) (H : LH) : run 132 [.int .u8 b] fl H = some (.bool (decide (wordB b)), H) := by
  unfold run
  rw [Run_z Tryd.func132 rfl (by rfl : ok 132 = true) (by rfl : cfg.keep 132 = [0, 2]) (by rfl : cfg.mode 132 = .pure) (by rfl : cfg.ord 132 = [])]
  simp (config := {contextual := true, maxSteps := 10000000, implicitDefEqProofs := false}) (disch := first | (and_intros <;> omega -splitDisjunctions) | (simp only [List.length_set, List.length_append, List.length_cons, List.length_nil]; and_intros <;> omega -splitDisjunctions) | fail) only [Tryd.f132, go_sem, ↓reduceIte, Nat.reduceEqDiff, Nat.reduceAdd, Nat.reduceMul, Nat.reduceLT, Nat.reduceLeDiff, reduceCtorEq, Int.reduceNe, Int.reduceEq, Int.reduceLT, Int.reduceLE, Int.reduceAdd, Int.reduceSub, Int.reduceMul, Int.reduceNeg, Int.reduceToNat, UInt8.reduceToNat, natLit, ty5]
  unfold wordB
  congr 3
  grind
theorem run_isBare (s : ByteArray) (fl : Nat) (H : LH) (hs : s.size ≤ 1099511627776) : run 112 [.str s] fl H = some (.bool (bareB s), H) := by
  have e1 := fun b fl H => run_isWord b fl H
  unfold bareB
  by_cases h0 : s.size = 0
  · have hs0 : s = ⟨#[]⟩ := (sz0q s).1 h0
    subst hs0
    unfold run
    rw [Run_z Tryd.func112 rfl (by rfl : ok 112 = true) (by rfl : cfg.keep 112 = [0, 2, 3, 15, 17, 18, 19, 31]) (by rfl : cfg.mode 112 = .pure) (by rfl : cfg.ord 112 = [])]
    simp (config := {contextual := true, maxSteps := 10000000, implicitDefEqProofs := false}) (disch := first | (and_intros <;> omega -splitDisjunctions) | (simp only [List.length_set, List.length_append, List.length_cons, List.length_nil]; and_intros <;> omega -splitDisjunctions) | fail) only [Tryd.f112, go_sem, ↓reduceIte, Nat.reduceEqDiff, Nat.reduceAdd, Nat.reduceMul, Nat.reduceLT, Nat.reduceLeDiff, reduceCtorEq, Int.reduceNe, Int.reduceEq, Int.reduceLT, Int.reduceLE, Int.reduceAdd, Int.reduceSub, Int.reduceMul, Int.reduceNeg, Int.reduceToNat, UInt8.reduceToNat, natLit, ty3, ty4, ty5, ty9]
    rfl
  have hne : (s = ⟨#[]⟩) = False := eq_false (fun e => h0 (by rw [e]; rfl))
  have hpos : 0 < s.size := by omega
  by_cases h1 : 48 ≤ bA s 0 ∧ bA s 0 ≤ 57
  · have t1 : (48 ≤ bA s 0) = True := eq_true h1.1
    have t2 : (bA s 0 ≤ 57) = True := eq_true h1.2
    rw [decide_eq_false (fun h => h.2 h1), Bool.false_and]
    unfold run
    rw [Run_z Tryd.func112 rfl (by rfl : ok 112 = true) (by rfl : cfg.keep 112 = [0, 2, 3, 15, 17, 18, 19, 31]) (by rfl : cfg.mode 112 = .pure) (by rfl : cfg.ord 112 = [])]
    simp (config := {contextual := true, maxSteps := 10000000, implicitDefEqProofs := false}) (disch := first | (and_intros <;> omega -splitDisjunctions) | (simp only [List.length_set, List.length_append, List.length_cons, List.length_nil]; and_intros <;> omega -splitDisjunctions) | fail) only [hne, t1, t2, Tryd.f112, go_sem, ↓reduceIte, Nat.reduceEqDiff, Nat.reduceAdd, Nat.reduceMul, Nat.reduceLT, Nat.reduceLeDiff, reduceCtorEq, Int.reduceNe, Int.reduceEq, Int.reduceLT, Int.reduceLE, Int.reduceAdd, Int.reduceSub, Int.reduceMul, Int.reduceNeg, Int.reduceToNat, UInt8.reduceToNat, natLit, ty3, ty4, ty5, ty9]
  rw [decide_eq_true ⟨h0, h1⟩, Bool.true_and]
  generalize hres : bareG s s.size 0 = res
  unfold run at *
  rw [Run_z Tryd.func112 rfl (by rfl : ok 112 = true) (by rfl : cfg.keep 112 = [0, 2, 3, 15, 17, 18, 19, 31]) (by rfl : cfg.mode 112 = .pure) (by rfl : cfg.ord 112 = [])]
  have fin : ∀ (X : Option (V × LH)), X = some (.bool res, H) → X = some (.bool res, H) := fun X h => h
  by_cases h2 : 48 ≤ bA s 0
  · have t1 : (48 ≤ bA s 0) = True := eq_true h2
    have t2 : (bA s 0 ≤ 57) = False := eq_false (fun h => h1 ⟨h2, h⟩)
    simp (config := {contextual := true, maxSteps := 10000000, implicitDefEqProofs := false}) (disch := first | (and_intros <;> omega -splitDisjunctions) | (simp only [List.length_set, List.length_append, List.length_cons, List.length_nil]; and_intros <;> omega -splitDisjunctions) | fail) only [hne, t1, t2, Tryd.f112, go_sem, ↓reduceIte, Nat.reduceEqDiff, Nat.reduceAdd, Nat.reduceMul, Nat.reduceLT, Nat.reduceLeDiff, reduceCtorEq, Int.reduceNe, Int.reduceEq, Int.reduceLT, Int.reduceLE, Int.reduceAdd, Int.reduceSub, Int.reduceMul, Int.reduceNeg, Int.reduceToNat, UInt8.reduceToNat, natLit, ty3, ty4, ty5, ty9]
    refine at_loopE fun c R hc hR => ?_
    have key : ∀ (m : Nat) (i : Nat) (j : Int) (x2 x3 x15 x19 x31 : Option V), s.size - i < m → j = i → i ≤ s.size → bareG s (s.size - i) i = res →
        zEv (leaveX (mkR Tryd.prog cfg ok [0, 2, 3, 15, 17, 18, 19, 31] H.length) .pure H [ResultVar.tmp 2]) (mkR Tryd.prog cfg ok [0, 2, 3, 15, 17, 18, 19, 31] H.length) (K.code (Code.loop c) :: K.blk 0 :: R) .nrm [some (.str s), x2, x3, x15, some (.int .i64 s.size), some (.int .i64 j), x19, x31] (H) = some (.bool res, H) := by
      intro m
      induction m with
      | zero => intro i j x2 x3 x15 x19 x31 hm; omega
      | succ m ih =>
        intro i j x2 x3 x15 x19 x31 hm hj hi hf
        subst hj
        by_cases hlt : i < s.size
        · have t3 : ((i : Int) < s.size) = True := eq_true (by omega)
          rw [show s.size - i = (s.size - (i + 1)) + 1 by omega, bareG_s, if_pos hlt] at hf
          rw [zEv_round hc, ← hR]
          simp (config := {contextual := true, maxSteps := 10000000, implicitDefEqProofs := false}) (disch := first | (and_intros <;> omega -splitDisjunctions) | (simp only [List.length_set, List.length_append, List.length_cons, List.length_nil]; and_intros <;> omega -splitDisjunctions) | fail) only [t3, e1, Tryd.f112, go_sem, ↓reduceIte, Nat.reduceEqDiff, Nat.reduceAdd, Nat.reduceMul, Nat.reduceLT, Nat.reduceLeDiff, reduceCtorEq, Int.reduceNe, Int.reduceEq, Int.reduceLT, Int.reduceLE, Int.reduceAdd, Int.reduceSub, Int.reduceMul, Int.reduceNeg, Int.reduceToNat, UInt8.reduceToNat, natLit, ty3, ty4, ty5, ty9]
          try rw [hR]
          by_cases hw : wordB (bA s i) ∨ bA s i = 95
          · rw [if_pos hw] at hf
            rw [if_neg (fun h => hw.elim h.1 h.2)]
            exact ih (i + 1) ((i : Int) + 1) _ _ _ _ _ (by omega) (by omega) (by omega) hf
          · rw [if_neg hw] at hf
            rw [if_pos ⟨fun h => hw (.inl h), fun h => hw (.inr h)⟩, hf]
        · have t3 : ((i : Int) < s.size) = False := eq_false (by omega)
          rw [show s.size - i = 0 by omega] at hf
          rw [zEv_round hc, ← hR]
          simp (config := {contextual := true, maxSteps := 10000000, implicitDefEqProofs := false}) (disch := first | (and_intros <;> omega -splitDisjunctions) | (simp only [List.length_set, List.length_append, List.length_cons, List.length_nil]; and_intros <;> omega -splitDisjunctions) | fail) only [t3, Tryd.f112, go_sem, ↓reduceIte, Nat.reduceEqDiff, Nat.reduceAdd, Nat.reduceMul, Nat.reduceLT, Nat.reduceLeDiff, reduceCtorEq, Int.reduceNe, Int.reduceEq, Int.reduceLT, Int.reduceLE, Int.reduceAdd, Int.reduceSub, Int.reduceMul, Int.reduceNeg, Int.reduceToNat, UInt8.reduceToNat, natLit, ty3, ty4, ty5, ty9]
          rw [← hf]; rfl
    exact key (s.size + 1) 0 0 _ _ _ _ _ (by omega) rfl (Nat.zero_le _) hres
  · have t1 : (48 ≤ bA s 0) = False := eq_false h2
    simp (config := {contextual := true, maxSteps := 10000000, implicitDefEqProofs := false}) (disch := first | (and_intros <;> omega -splitDisjunctions) | (simp only [List.length_set, List.length_append, List.length_cons, List.length_nil]; and_intros <;> omega -splitDisjunctions) | fail) only [hne, t1, Tryd.f112, go_sem, ↓reduceIte, Nat.reduceEqDiff, Nat.reduceAdd, Nat.reduceMul, Nat.reduceLT, Nat.reduceLeDiff, reduceCtorEq, Int.reduceNe, Int.reduceEq, Int.reduceLT, Int.reduceLE, Int.reduceAdd, Int.reduceSub, Int.reduceMul, Int.reduceNeg, Int.reduceToNat, UInt8.reduceToNat, natLit, ty3, ty4, ty5, ty9]
    refine at_loopE fun c R hc hR => ?_
    have key : ∀ (m : Nat) (i : Nat) (j : Int) (x2 x3 x15 x19 x31 : Option V), s.size - i < m → j = i → i ≤ s.size → bareG s (s.size - i) i = res →
        zEv (leaveX (mkR Tryd.prog cfg ok [0, 2, 3, 15, 17, 18, 19, 31] H.length) .pure H [ResultVar.tmp 2]) (mkR Tryd.prog cfg ok [0, 2, 3, 15, 17, 18, 19, 31] H.length) (K.code (Code.loop c) :: K.blk 0 :: R) .nrm [some (.str s), x2, x3, x15, some (.int .i64 s.size), some (.int .i64 j), x19, x31] (H) = some (.bool res, H) := by
      intro m
      induction m with
      | zero => intro i j x2 x3 x15 x19 x31 hm; omega
      | succ m ih =>
        intro i j x2 x3 x15 x19 x31 hm hj hi hf
        subst hj
        by_cases hlt : i < s.size
        · have t3 : ((i : Int) < s.size) = True := eq_true (by omega)
          rw [show s.size - i = (s.size - (i + 1)) + 1 by omega, bareG_s, if_pos hlt] at hf
          rw [zEv_round hc, ← hR]
          simp (config := {contextual := true, maxSteps := 10000000, implicitDefEqProofs := false}) (disch := first | (and_intros <;> omega -splitDisjunctions) | (simp only [List.length_set, List.length_append, List.length_cons, List.length_nil]; and_intros <;> omega -splitDisjunctions) | fail) only [t3, e1, Tryd.f112, go_sem, ↓reduceIte, Nat.reduceEqDiff, Nat.reduceAdd, Nat.reduceMul, Nat.reduceLT, Nat.reduceLeDiff, reduceCtorEq, Int.reduceNe, Int.reduceEq, Int.reduceLT, Int.reduceLE, Int.reduceAdd, Int.reduceSub, Int.reduceMul, Int.reduceNeg, Int.reduceToNat, UInt8.reduceToNat, natLit, ty3, ty4, ty5, ty9]
          try rw [hR]
          by_cases hw : wordB (bA s i) ∨ bA s i = 95
          · rw [if_pos hw] at hf
            rw [if_neg (fun h => hw.elim h.1 h.2)]
            exact ih (i + 1) ((i : Int) + 1) _ _ _ _ _ (by omega) (by omega) (by omega) hf
          · rw [if_neg hw] at hf
            rw [if_pos ⟨fun h => hw (.inl h), fun h => hw (.inr h)⟩, hf]
        · have t3 : ((i : Int) < s.size) = False := eq_false (by omega)
          rw [show s.size - i = 0 by omega] at hf
          rw [zEv_round hc, ← hR]
          simp (config := {contextual := true, maxSteps := 10000000, implicitDefEqProofs := false}) (disch := first | (and_intros <;> omega -splitDisjunctions) | (simp only [List.length_set, List.length_append, List.length_cons, List.length_nil]; and_intros <;> omega -splitDisjunctions) | fail) only [t3, Tryd.f112, go_sem, ↓reduceIte, Nat.reduceEqDiff, Nat.reduceAdd, Nat.reduceMul, Nat.reduceLT, Nat.reduceLeDiff, reduceCtorEq, Int.reduceNe, Int.reduceEq, Int.reduceLT, Int.reduceLE, Int.reduceAdd, Int.reduceSub, Int.reduceMul, Int.reduceNeg, Int.reduceToNat, UInt8.reduceToNat, natLit, ty3, ty4, ty5, ty9]
          rw [← hf]; rfl
    exact key (s.size + 1) 0 0 _ _ _ _ _ (by omega) rfl (Nat.zero_le _) hres
end Go.Proofs.YtcbjmggbbnpbpaaDoor.Lg
