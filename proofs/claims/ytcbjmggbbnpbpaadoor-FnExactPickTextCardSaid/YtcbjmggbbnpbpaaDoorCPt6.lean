/- Texts of values. No condition. -/
import Derived.Test.YtcbjmggbbnpbpaaDoorCTVal
import Derived.Test.YtcbjmggbbnpbpaaDoorCNum
import Derived.Test.YtcbjmggbbnpbpaaDoorCPtM
namespace Go.Proofs.YtcbjmggbbnpbpaaDoor.Lg
set_option linter.unusedSimpArgs false
set_option linter.unusedVariables false
set_option maxRecDepth 100000
set_option maxHeartbeats 40000000
open Go.Proofs.YtcbjmggbbnpbpaaDoor
set_option linter.unusedSectionVars false
variable [ML]

def intT (n : Int) : ByteArray := if n < 0 then ⟨#[45]⟩ ++ decT (-n).toNat else decT n.toNat
/-- what a value writes -/
def valT (v : Val) : ByteArray :=
  if v.kind = 1 then ⟨#[110, 117, 108, 108]⟩ else if v.kind = 2 then (if v.b = true then ⟨#[116, 114, 117, 101]⟩ else ⟨#[102, 97, 108, 115, 101]⟩)
  else if v.kind = 3 then (if -9007199254740991 ≤ v.n ∧ v.n ≤ 9007199254740991 then ⟨#[105, 110, 116, 32]⟩ ++ intT v.n else ⟨#[]⟩)
  else if v.kind = 4 then ⟨#[116, 101, 120, 116, 32]⟩ ++ v.s else if v.kind = 7 then ⟨#[111, 116, 104, 101, 114, 32]⟩ ++ v.s else if v.kind = 8 then ⟨#[97, 108, 105, 97, 115, 32]⟩ ++ v.s
  else if v.kind = 5 then ⟨#[108, 105, 115, 116]⟩ else if v.kind = 6 then ⟨#[109, 97, 112]⟩ else ⟨#[]⟩
theorem intT_sz (n : Int) (h : -9007199254740991 ≤ n ∧ n ≤ 9007199254740991) : (intT n).size ≤ 18 := by
  unfold intT
  have h4 : (⟨#[45]⟩ : ByteArray).size = 1 := rfl
  by_cases h0 : n < 0
  · rw [if_pos h0, ByteArray.size_append]
    have := decT_few 16 (-n).toNat (by omega)
    omega
  · rw [if_neg h0]
    have := decT_few 16 n.toNat (by omega)
    omega
theorem valT_sz (v : Val) : (valT v).size ≤ v.s.size + 22 := by
  have h1 : (⟨#[110, 117, 108, 108]⟩ : ByteArray).size = 4 := rfl
  have h2 : (⟨#[116, 114, 117, 101]⟩ : ByteArray).size = 4 := rfl
  have h3 : (⟨#[102, 97, 108, 115, 101]⟩ : ByteArray).size = 5 := rfl
  have h4 : (⟨#[105, 110, 116, 32]⟩ : ByteArray).size = 4 := rfl
  have h5 : (⟨#[116, 101, 120, 116, 32]⟩ : ByteArray).size = 5 := rfl
  have h6 : (⟨#[111, 116, 104, 101, 114, 32]⟩ : ByteArray).size = 6 := rfl
  have h7 : (⟨#[97, 108, 105, 97, 115, 32]⟩ : ByteArray).size = 6 := rfl
  have h8 : (⟨#[108, 105, 115, 116]⟩ : ByteArray).size = 4 := rfl
  have h9 : (⟨#[109, 97, 112]⟩ : ByteArray).size = 3 := rfl
  have h0 : (⟨#[]⟩ : ByteArray).size = 0 := rfl
  have hi := intT_sz v.n
  have hap : ∀ a b : ByteArray, (a ++ b).size = a.size + b.size := fun a b => ByteArray.size_append
  unfold valT
  generalize intT v.n = D at *
  grind
theorem run_l14IntN : ∀ (m k : Nat), k ≤ m → k ≤ 9007199254740991 → ∀ (fl : Nat) (H : LH), run 82 [.int .i64 (k : Int)] fl H = some (.str (decT k), H) := by
  intro m
  induction m using Nat.strongRecOn with
  | _ m ih =>
  intro k hk h2 fl H
  have e := fun (h : 10 ≤ k) fl H => ih (k / 10) (by omega) (k / 10) (Nat.le_refl _) (by omega) fl H
  have hq : ((k : Int)).tdiv 10 = ((k / 10 : Nat) : Int) := (Int.ofNat_tdiv k 10).symm
  have hr : ((k : Int)).tmod 10 = ((k % 10 : Nat) : Int) := (Int.ofNat_tmod k 10).symm
  have hs := decT_few 17 (k / 10) (by omega)
  unfold run at e ⊢
  rw [Run_z Tryd.func82 rfl (by rfl : ok 82 = true) (by rfl : cfg.keep 82 = [0, 2, 4, 10]) (by rfl : cfg.mode 82 = .pure) (by rfl : cfg.ord 82 = [])]
  by_cases a2 : k < 10
  · simp (config := {contextual := true, maxSteps := 10000000, implicitDefEqProofs := false}) (disch := first | (and_intros <;> omega -splitDisjunctions) | (simp only [List.length_set, List.length_append, List.length_cons, List.length_nil]; and_intros <;> omega -splitDisjunctions) | fail) only [hq, hr, show ¬ (k : Int) < 0 by omega, show (k : Int) < 10 by omega, Tryd.f82, go_sem, ↓reduceIte, Nat.reduceEqDiff, Nat.reduceAdd, Nat.reduceMul, Nat.reduceLT, Nat.reduceLeDiff, reduceCtorEq, Int.reduceNe, Int.reduceEq, Int.reduceLT, Int.reduceLE, Int.reduceAdd, Int.reduceSub, Int.reduceMul, Int.reduceNeg, Int.reduceToNat, UInt8.reduceToNat, natLit, ty3, ty5, ty9, ty46]
    rw [dig_eq, decT, if_pos (by omega)]
  · have e' := e (by omega)
    simp (config := {contextual := true, maxSteps := 10000000, implicitDefEqProofs := false}) (disch := first | (and_intros <;> omega -splitDisjunctions) | (simp only [List.length_set, List.length_append, List.length_cons, List.length_nil]; and_intros <;> omega -splitDisjunctions) | fail) only [hq, hr, e', show ¬ (k : Int) < 0 by omega, show ¬ (k : Int) < 10 by omega, Tryd.f82, go_sem, ↓reduceIte, Nat.reduceEqDiff, Nat.reduceAdd, Nat.reduceMul, Nat.reduceLT, Nat.reduceLeDiff, reduceCtorEq, Int.reduceNe, Int.reduceEq, Int.reduceLT, Int.reduceLE, Int.reduceAdd, Int.reduceSub, Int.reduceMul, Int.reduceNeg, Int.reduceToNat, UInt8.reduceToNat, natLit, ty3, ty5, ty9, ty46]
    rw [dig_eq]
    conv => rhs; rw [decT, if_neg (by omega)]
theorem run_l14Int (n : Int) (fl : Nat) (H : LH) (h : -9007199254740991 ≤ n ∧ n ≤ 9007199254740991) : run 82 [.int .i64 n] fl H = some (.str (intT n), H) := by
  unfold intT
  by_cases a : n < 0
  · rw [if_pos a]
    have e := fun fl H => run_l14IntN (-n).toNat (-n).toNat (Nat.le_refl _) (by omega) fl H
    rw [show (((-n).toNat : Nat) : Int) = 0 - n by omega] at e
    have hs := decT_few 17 (-n).toNat (by omega)
    generalize decT (-n).toNat = D at *
    unfold run at e ⊢
    rw [Run_z Tryd.func82 rfl (by rfl : ok 82 = true) (by rfl : cfg.keep 82 = [0, 2, 4, 10]) (by rfl : cfg.mode 82 = .pure) (by rfl : cfg.ord 82 = [])]
    simp (config := {contextual := true, maxSteps := 10000000, implicitDefEqProofs := false}) (disch := first | (and_intros <;> omega -splitDisjunctions) | (simp only [List.length_set, List.length_append, List.length_cons, List.length_nil]; and_intros <;> omega -splitDisjunctions) | fail) only [a, e, hs, Tryd.f82, go_sem, ↓reduceIte, Nat.reduceEqDiff, Nat.reduceAdd, Nat.reduceMul, Nat.reduceLT, Nat.reduceLeDiff, reduceCtorEq, Int.reduceNe, Int.reduceEq, Int.reduceLT, Int.reduceLE, Int.reduceAdd, Int.reduceSub, Int.reduceMul, Int.reduceNeg, Int.reduceToNat, UInt8.reduceToNat, natLit, ty3, ty5, ty9, ty46]
  · have e := run_l14IntN n.toNat n.toNat (Nat.le_refl _) (by omega) fl H
    rw [show ((n.toNat : Nat) : Int) = n by omega] at e
    rw [if_neg a, e]
theorem run_imValueText (v : Val) (fl : Nat) (H : LH) (hs : v.s.size ≤ 1048576) : run 39 [.agg (vaC v)] fl H = some (.str (valT v), H) := by
  have e1 := fun fl H => run_within v.n (-9007199254740991) 9007199254740991 fl H
  have e2 := fun (h : 0 ≤ v.n ∧ v.n ≤ 9007199254740991) fl H => run_decimal v.n.toNat (by omega) fl H
  have e3 := fun (h : v.n < 0 ∧ -9007199254740991 ≤ v.n) fl H => run_decimal (-v.n).toNat (by omega) fl H
  have hd : ∀ n : Nat, n ≤ 9007199254740991 → (decT n).size ≤ 17 := fun n h => decT_few 16 n (by omega)
  have h45 : ∀ D : ByteArray, (⟨#[105, 110, 116, 32, 45]⟩ : ByteArray) ++ D = ⟨#[105, 110, 116, 32]⟩ ++ (⟨#[45]⟩ ++ D) := fun D => by rw [← ba_assoc]; rfl
  obtain ⟨k, n, b, s⟩ := v
  dsimp only at *
  unfold vaC valT intT
  dsimp only
  by_cases hin : -9007199254740991 ≤ n ∧ n ≤ 9007199254740991
  · have t0 : (-9007199254740991 ≤ n) = True := eq_true hin.1
    have t1 : (n ≤ 9007199254740991) = True := eq_true hin.2
    by_cases hn : n < 0
    · have e3 := e3 ⟨hn, hin.1⟩
      have hd := hd (-n).toNat (by omega)
      rw [show (((-n).toNat : Nat) : Int) = 0 - n by omega] at e3
      generalize decT (-n).toNat = D at *
      unfold run at *
      rw [Run_z Tryd.func39 rfl (by rfl : ok 39 = true) (by rfl : cfg.keep 39 = [0, 1, 2, 4, 5, 7, 10, 11, 13, 18, 31, 36, 41, 46, 48]) (by rfl : cfg.mode 39 = .pure) (by rfl : cfg.ord 39 = [])]
      simp (config := {contextual := true, maxSteps := 10000000, implicitDefEqProofs := false}) (disch := first | (and_intros <;> omega -splitDisjunctions) | (simp only [List.length_set, List.length_append, List.length_cons, List.length_nil]; and_intros <;> omega -splitDisjunctions) | fail) only [e1, e3, hd, hn, t0, t1, Tryd.f39, go_sem, ↓reduceIte, Nat.reduceEqDiff, Nat.reduceAdd, Nat.reduceMul, Nat.reduceLT, Nat.reduceLeDiff, reduceCtorEq, Int.reduceNe, Int.reduceEq, Int.reduceLT, Int.reduceLE, Int.reduceAdd, Int.reduceSub, Int.reduceMul, Int.reduceNeg, Int.reduceToNat, UInt8.reduceToNat, natLit, ty3, ty4, ty9, ty30]
      rw [h45]
      grind
    · have e2 := e2 ⟨by omega, hin.2⟩
      have hd := hd n.toNat (by omega)
      rw [show ((n.toNat : Nat) : Int) = n by omega] at e2
      generalize decT n.toNat = D at *
      unfold run at *
      rw [Run_z Tryd.func39 rfl (by rfl : ok 39 = true) (by rfl : cfg.keep 39 = [0, 1, 2, 4, 5, 7, 10, 11, 13, 18, 31, 36, 41, 46, 48]) (by rfl : cfg.mode 39 = .pure) (by rfl : cfg.ord 39 = [])]
      simp (config := {contextual := true, maxSteps := 10000000, implicitDefEqProofs := false}) (disch := first | (and_intros <;> omega -splitDisjunctions) | (simp only [List.length_set, List.length_append, List.length_cons, List.length_nil]; and_intros <;> omega -splitDisjunctions) | fail) only [e1, e2, hd, hn, t0, t1, Tryd.f39, go_sem, ↓reduceIte, Nat.reduceEqDiff, Nat.reduceAdd, Nat.reduceMul, Nat.reduceLT, Nat.reduceLeDiff, reduceCtorEq, Int.reduceNe, Int.reduceEq, Int.reduceLT, Int.reduceLE, Int.reduceAdd, Int.reduceSub, Int.reduceMul, Int.reduceNeg, Int.reduceToNat, UInt8.reduceToNat, natLit, ty3, ty4, ty9, ty30]
      grind
  · have t0 : (decide (-9007199254740991 ≤ n ∧ n ≤ 9007199254740991)) = false := decide_eq_false hin
    rw [t0] at e1
    rw [if_neg hin]
    unfold run at *
    rw [Run_z Tryd.func39 rfl (by rfl : ok 39 = true) (by rfl : cfg.keep 39 = [0, 1, 2, 4, 5, 7, 10, 11, 13, 18, 31, 36, 41, 46, 48]) (by rfl : cfg.mode 39 = .pure) (by rfl : cfg.ord 39 = [])]
    simp (config := {contextual := true, maxSteps := 10000000, implicitDefEqProofs := false}) (disch := first | (and_intros <;> omega -splitDisjunctions) | (simp only [List.length_set, List.length_append, List.length_cons, List.length_nil]; and_intros <;> omega -splitDisjunctions) | fail) only [e1, Tryd.f39, go_sem, ↓reduceIte, Nat.reduceEqDiff, Nat.reduceAdd, Nat.reduceMul, Nat.reduceLT, Nat.reduceLeDiff, reduceCtorEq, Int.reduceNe, Int.reduceEq, Int.reduceLT, Int.reduceLE, Int.reduceAdd, Int.reduceSub, Int.reduceMul, Int.reduceNeg, Int.reduceToNat, UInt8.reduceToNat, natLit, ty3, ty4, ty9, ty30]
    grind
theorem run_spValueText (v : Val) (fl : Nat) (H : LH) (hs : v.s.size ≤ 1048576) : run 34 [.agg (vaC v)] fl H = some (.str (valT v), H) := by
  have e1 := fun h fl H => run_l14Int v.n fl H h
  have hi := intT_sz v.n
  obtain ⟨k, n, b, s⟩ := v
  dsimp only at *
  unfold vaC valT
  dsimp only
  by_cases hin : -9007199254740991 ≤ n ∧ n ≤ 9007199254740991
  · have t0 : (-9007199254740991 ≤ n) = True := eq_true hin.1
    have t1 : (n ≤ 9007199254740991) = True := eq_true hin.2
    have e1 := e1 hin
    have hi := hi hin
    rw [if_pos hin]
    generalize intT n = D at *
    unfold run at *
    rw [Run_z Tryd.func34 rfl (by rfl : ok 34 = true) (by rfl : cfg.keep 34 = [0, 1, 2, 4, 5, 7, 10, 11, 20, 25, 30, 32, 34, 39]) (by rfl : cfg.mode 34 = .pure) (by rfl : cfg.ord 34 = [])]
    simp (config := {contextual := true, maxSteps := 10000000, implicitDefEqProofs := false}) (disch := first | (and_intros <;> omega -splitDisjunctions) | (simp only [List.length_set, List.length_append, List.length_cons, List.length_nil]; and_intros <;> omega -splitDisjunctions) | fail) only [e1, hi, t0, t1, Tryd.f34, go_sem, ↓reduceIte, Nat.reduceEqDiff, Nat.reduceAdd, Nat.reduceMul, Nat.reduceLT, Nat.reduceLeDiff, reduceCtorEq, Int.reduceNe, Int.reduceEq, Int.reduceLT, Int.reduceLE, Int.reduceAdd, Int.reduceSub, Int.reduceMul, Int.reduceNeg, Int.reduceToNat, UInt8.reduceToNat, natLit, ty3, ty4, ty9, ty30]
    grind
  · rw [if_neg hin]
    have t0 : (-9007199254740991 ≤ n → 9007199254740991 < n) := by omega
    clear e1 hi
    unfold run at *
    rw [Run_z Tryd.func34 rfl (by rfl : ok 34 = true) (by rfl : cfg.keep 34 = [0, 1, 2, 4, 5, 7, 10, 11, 20, 25, 30, 32, 34, 39]) (by rfl : cfg.mode 34 = .pure) (by rfl : cfg.ord 34 = [])]
    simp (config := {contextual := true, maxSteps := 10000000, implicitDefEqProofs := false}) (disch := first | (and_intros <;> omega -splitDisjunctions) | (simp only [List.length_set, List.length_append, List.length_cons, List.length_nil]; and_intros <;> omega -splitDisjunctions) | fail) only [Tryd.f34, go_sem, ↓reduceIte, Nat.reduceEqDiff, Nat.reduceAdd, Nat.reduceMul, Nat.reduceLT, Nat.reduceLeDiff, reduceCtorEq, Int.reduceNe, Int.reduceEq, Int.reduceLT, Int.reduceLE, Int.reduceAdd, Int.reduceSub, Int.reduceMul, Int.reduceNeg, Int.reduceToNat, UInt8.reduceToNat, natLit, ty3, ty4, ty9, ty30]
    grind
end Go.Proofs.YtcbjmggbbnpbpaaDoor.Lg
