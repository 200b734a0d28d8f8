/- NumText, as the program has it twice, over the logical machine: both write a number's digits. No condition. -/
import Derived.Test.YtcbjmggbbnpbpaaDoorCMk
namespace Go.Proofs.YtcbjmggbbnpbpaaDoor.Lg
set_option linter.unusedSimpArgs false
set_option linter.unusedVariables false
set_option maxRecDepth 100000
set_option maxHeartbeats 40000000
open Go.Proofs.YtcbjmggbbnpbpaaDoor
set_option linter.unusedSectionVars false
variable [ML]

theorem run_within (a b c : Int) (fl : Nat) (H : LH) : run 61 [.int .i64 a, .int .i64 b, .int .i64 c] fl H = some (.bool (decide (b ≤ a ∧ a ≤ c)), H) := by
  unfold run
  rw [Run_z Tryd.func61 rfl (by rfl : ok 61 = true) (by rfl : cfg.keep 61 = [0, 1, 2, 6]) (by rfl : cfg.mode 61 = .pure) (by rfl : cfg.ord 61 = [])]
  simp (config := {contextual := true, maxSteps := 10000000, implicitDefEqProofs := false}) (disch := first | (and_intros <;> omega -splitDisjunctions) | (simp only [List.length_set, List.length_append, List.length_cons, List.length_nil]; and_intros <;> omega -splitDisjunctions) | fail) only [Tryd.f61, go_sem, ↓reduceIte, Nat.reduceEqDiff, Nat.reduceAdd, Nat.reduceMul, Nat.reduceLT, Nat.reduceLeDiff, reduceCtorEq, Int.reduceNe, Int.reduceEq, Int.reduceLT, Int.reduceLE, Int.reduceAdd, Int.reduceSub, Int.reduceMul, Int.reduceNeg, Int.reduceToNat, UInt8.reduceToNat, natLit, ty3]
theorem run_spNumN : ∀ (m k : Nat), k ≤ m → k ≤ 4294967295 → ∀ (fl : Nat) (H : LH), run 32 [.int .i64 (k : Int)] fl H = some (.str (decT k), H) := by
  intro m
  induction m using Nat.strongRecOn with
  | _ m ih =>
  intro k hk h2 fl H
  have e := fun (h : 10 ≤ k) fl H => ih (k / 10) (by omega) (k / 10) (Nat.le_refl _) (by omega) fl H
  have hq : ((k : Int)).tdiv 10 = ((k / 10 : Nat) : Int) := (Int.ofNat_tdiv k 10).symm
  have hr : ((k : Int)).tmod 10 = ((k % 10 : Nat) : Int) := (Int.ofNat_tmod k 10).symm
  have hs := decT_size (k / 10)
  unfold run at e ⊢
  rw [Run_z Tryd.func32 rfl (by rfl : ok 32 = true) (by rfl : cfg.keep 32 = [0, 2, 8, 10]) (by rfl : cfg.mode 32 = .pure) (by rfl : cfg.ord 32 = [])]
  by_cases a2 : k < 10
  · simp (config := {contextual := true, maxSteps := 10000000, implicitDefEqProofs := false}) (disch := first | (and_intros <;> omega -splitDisjunctions) | (simp only [List.length_set, List.length_append, List.length_cons, List.length_nil]; and_intros <;> omega -splitDisjunctions) | fail) only [hq, hr, show ¬ (k : Int) < 0 by omega, show ¬ 4294967295 < (k : Int) by omega, show (k : Int) < 10 by omega, Tryd.f32, go_sem, ↓reduceIte, Nat.reduceEqDiff, Nat.reduceAdd, Nat.reduceMul, Nat.reduceLT, Nat.reduceLeDiff, reduceCtorEq, Int.reduceNe, Int.reduceEq, Int.reduceLT, Int.reduceLE, Int.reduceAdd, Int.reduceSub, Int.reduceMul, Int.reduceNeg, Int.reduceToNat, UInt8.reduceToNat, natLit, ty3, ty5, ty9, ty46]
    rw [dig_eq, decT, if_pos (by omega)]
  · have e' := e (by omega)
    simp (config := {contextual := true, maxSteps := 10000000, implicitDefEqProofs := false}) (disch := first | (and_intros <;> omega -splitDisjunctions) | (simp only [List.length_set, List.length_append, List.length_cons, List.length_nil]; and_intros <;> omega -splitDisjunctions) | fail) only [hq, hr, e', show ¬ (k : Int) < 0 by omega, show ¬ 4294967295 < (k : Int) by omega, show ¬ (k : Int) < 10 by omega, Tryd.f32, go_sem, ↓reduceIte, Nat.reduceEqDiff, Nat.reduceAdd, Nat.reduceMul, Nat.reduceLT, Nat.reduceLeDiff, reduceCtorEq, Int.reduceNe, Int.reduceEq, Int.reduceLT, Int.reduceLE, Int.reduceAdd, Int.reduceSub, Int.reduceMul, Int.reduceNeg, Int.reduceToNat, UInt8.reduceToNat, natLit, ty3, ty5, ty9, ty46]
    rw [dig_eq]
    conv => rhs; rw [decT, if_neg (by omega)]
theorem run_spNum (n : Int) (fl : Nat) (H : LH) : run 32 [.int .i64 n] fl H = some (.str (numT n), H) := by
  by_cases a3 : n < 0 ∨ 4294967295 < n
  · unfold run
    rw [Run_z Tryd.func32 rfl (by rfl : ok 32 = true) (by rfl : cfg.keep 32 = [0, 2, 8, 10]) (by rfl : cfg.mode 32 = .pure) (by rfl : cfg.ord 32 = [])]
    simp (config := {contextual := true, maxSteps := 10000000, implicitDefEqProofs := false}) (disch := first | (and_intros <;> omega -splitDisjunctions) | (simp only [List.length_set, List.length_append, List.length_cons, List.length_nil]; and_intros <;> omega -splitDisjunctions) | fail) only [a3, Tryd.f32, go_sem, ↓reduceIte, Nat.reduceEqDiff, Nat.reduceAdd, Nat.reduceMul, Nat.reduceLT, Nat.reduceLeDiff, reduceCtorEq, Int.reduceNe, Int.reduceEq, Int.reduceLT, Int.reduceLE, Int.reduceAdd, Int.reduceSub, Int.reduceMul, Int.reduceNeg, Int.reduceToNat, UInt8.reduceToNat, natLit, ty3, ty5, ty9, ty46]
    rw [numT, if_pos a3]
  · have := run_spNumN n.toNat n.toNat (Nat.le_refl _) (by omega) fl H
    rw [show ((n.toNat : Nat) : Int) = n by omega] at this
    rw [this, numT, if_neg a3]
theorem run_decimal (k : Nat) (h : k ≤ 4611686018427387904) (fl : Nat) (H : LH) : run 84 [.int .i64 (k : Int)] fl H = some (.str (decT k), H) := by
  have hz : ∀ x y : ByteArray, (x ++ y).size = x.size + y.size := fun x y => ByteArray.size_append
  have hd : ∀ n, (dig n).size = 1 := fun n => rfl
  unfold run
  rw [Run_z Tryd.func84 rfl (by rfl : ok 84 = true) (by rfl : cfg.keep 84 = [0, 2, 3, 9]) (by rfl : cfg.mode 84 = .pure) (by rfl : cfg.ord 84 = [])]
  simp (config := {contextual := true, maxSteps := 10000000, implicitDefEqProofs := false}) (disch := first | (and_intros <;> omega -splitDisjunctions) | (simp only [List.length_set, List.length_append, List.length_cons, List.length_nil]; and_intros <;> omega -splitDisjunctions) | fail) only [Tryd.f84, go_sem, ↓reduceIte, Nat.reduceEqDiff, Nat.reduceAdd, Nat.reduceMul, Nat.reduceLT, Nat.reduceLeDiff, reduceCtorEq, Int.reduceNe, Int.reduceEq, Int.reduceLT, Int.reduceLE, Int.reduceAdd, Int.reduceSub, Int.reduceMul, Int.reduceNeg, Int.reduceToNat, UInt8.reduceToNat, natLit, ty3, ty5, ty9, ty46]
  generalize hL : K.code (Code.loop _) = L
  generalize hR : (K.blk _ :: _ : List K) = R
  have key : ∀ (m k : Nat) (out : ByteArray) (x2 x9 : Option V) (H1 : LH), k ≤ m → k ≤ 4611686018427387904 → 0 < out.size → out.size + m ≤ 4611686018427388000 → H.length ≤ H1.length →
      zEv (leaveX (mkR Tryd.prog cfg ok [0, 2, 3, 9] H.length) .pure H [ResultVar.tmp 2]) (mkR Tryd.prog cfg ok [0, 2, 3, 9] H.length) (L :: R) .nrm [some (.int .i64 (k : Int)), x2, some (.str out), x9] H1 =
        some (.str (if k = 0 then out else decT k ++ out), H) := by
    intro m
    induction m using Nat.strongRecOn with
    | _ m ih =>
    intro k out x2 x9 H1 hk h4 ho hs hH
    have hq : ((k : Int)).tdiv 10 = ((k / 10 : Nat) : Int) := (Int.ofNat_tdiv k 10).symm
    have hr : ((k : Int)).tmod 10 = ((k % 10 : Nat) : Int) := (Int.ofNat_tmod k 10).symm
    have a1 : ¬ out = ⟨#[]⟩ := fun e => by rw [e] at ho; exact absurd ho (by decide)
    rw [← hL, ← hR, zEv_loop]
    simp (config := {contextual := true, maxSteps := 10000000, implicitDefEqProofs := false}) (disch := first | (and_intros <;> omega -splitDisjunctions) | (simp only [List.length_set, List.length_append, List.length_cons, List.length_nil]; and_intros <;> omega -splitDisjunctions) | fail) only [hq, hr, dig_eq, hd, a1, Tryd.f84, go_sem, ↓reduceIte, Nat.reduceEqDiff, Nat.reduceAdd, Nat.reduceMul, Nat.reduceLT, Nat.reduceLeDiff, reduceCtorEq, Int.reduceNe, Int.reduceEq, Int.reduceLT, Int.reduceLE, Int.reduceAdd, Int.reduceSub, Int.reduceMul, Int.reduceNeg, Int.reduceToNat, UInt8.reduceToNat, natLit, ty3, ty5, ty9, ty46]
    rw [hL, hR]
    split
    · rename_i hc
      rw [ih (k / 10) (by omega) (k / 10) (dig (k % 10) ++ out) _ _ _ (Nat.le_refl _) (by omega) (by rw [hz, hd]; omega) (by rw [hz, hd]; omega) (by simp only [List.length_append]; omega), dec_step k out (by omega), if_neg (by omega)]
    · rename_i hc
      rw [if_pos (by omega)]
  have hq : ((k : Int)).tdiv 10 = ((k / 10 : Nat) : Int) := (Int.ofNat_tdiv k 10).symm
  have hr : ((k : Int)).tmod 10 = ((k % 10 : Nat) : Int) := (Int.ofNat_tmod k 10).symm
  have go := fun x2 x9 H1 hH => key k (k / 10) (dig (k % 10) ++ ⟨#[]⟩) x2 x9 H1 (by omega) (by omega) (by rw [hz, hd]; omega) (by rw [hz, hd]; have : ByteArray.size ⟨#[]⟩ = 0 := rfl; omega) hH
  rw [← hL, ← hR, zEv_loop]
  simp (config := {contextual := true, maxSteps := 10000000, implicitDefEqProofs := false}) (disch := first | (and_intros <;> omega -splitDisjunctions) | (simp only [List.length_set, List.length_append, List.length_cons, List.length_nil]; and_intros <;> omega -splitDisjunctions) | fail) only [hq, hr, dig_eq, hd, Tryd.f84, go_sem, ↓reduceIte, Nat.reduceEqDiff, Nat.reduceAdd, Nat.reduceMul, Nat.reduceLT, Nat.reduceLeDiff, reduceCtorEq, Int.reduceNe, Int.reduceEq, Int.reduceLT, Int.reduceLE, Int.reduceAdd, Int.reduceSub, Int.reduceMul, Int.reduceNeg, Int.reduceToNat, UInt8.reduceToNat, natLit, ty3, ty5, ty9, ty46]
  rw [hL, hR, go _ _ _ (by simp only [List.length_append]; omega)]
  by_cases k0 : k = 0
  · subst k0
    rw [if_pos (by decide), app_nil, show decT 0 = dig (0 % 10) from by rw [decT, if_pos (by decide)]]
  · rw [dec_step k _ k0, app_nil]
theorem run_imNum (n : Int) (fl : Nat) (H : LH) : run 37 [.int .i64 n] fl H = some (.str (numT n), H) := by
  have e1 := fun fl H => run_within n 0 4294967295 fl H
  have e2 := fun (h : n ≤ 4294967295) fl H => run_decimal n.toNat (by omega) fl H
  unfold run at e1 e2 ⊢
  rw [Run_z Tryd.func37 rfl (by rfl : ok 37 = true) (by rfl : cfg.keep 37 = [0, 2, 5]) (by rfl : cfg.mode 37 = .pure) (by rfl : cfg.ord 37 = [])]
  by_cases a3 : n < 0 ∨ 4294967295 < n
  · have c : ¬ (0 ≤ n ∧ n ≤ 4294967295) := by omega
    simp (config := {contextual := true, maxSteps := 10000000, implicitDefEqProofs := false}) (disch := first | (and_intros <;> omega -splitDisjunctions) | (simp only [List.length_set, List.length_append, List.length_cons, List.length_nil]; and_intros <;> omega -splitDisjunctions) | fail) only [c, e1, Tryd.f37, go_sem, ↓reduceIte, Nat.reduceEqDiff, Nat.reduceAdd, Nat.reduceMul, Nat.reduceLT, Nat.reduceLeDiff, reduceCtorEq, Int.reduceNe, Int.reduceEq, Int.reduceLT, Int.reduceLE, Int.reduceAdd, Int.reduceSub, Int.reduceMul, Int.reduceNeg, Int.reduceToNat, UInt8.reduceToNat, natLit, ty4]
    rw [numT, if_pos a3]
  · have c1 : 0 ≤ n := by omega
    have c2 : n ≤ 4294967295 := by omega
    have e2' := e2 c2
    rw [show ((n.toNat : Nat) : Int) = n by omega] at e2'
    simp (config := {contextual := true, maxSteps := 10000000, implicitDefEqProofs := false}) (disch := first | (and_intros <;> omega -splitDisjunctions) | (simp only [List.length_set, List.length_append, List.length_cons, List.length_nil]; and_intros <;> omega -splitDisjunctions) | fail) only [c1, c2, e1, e2', Tryd.f37, go_sem, ↓reduceIte, Nat.reduceEqDiff, Nat.reduceAdd, Nat.reduceMul, Nat.reduceLT, Nat.reduceLeDiff, reduceCtorEq, Int.reduceNe, Int.reduceEq, Int.reduceLT, Int.reduceLE, Int.reduceAdd, Int.reduceSub, Int.reduceMul, Int.reduceNeg, Int.reduceToNat, UInt8.reduceToNat, natLit, ty4]
    rw [numT, if_neg a3]
end Go.Proofs.YtcbjmggbbnpbpaaDoor.Lg
