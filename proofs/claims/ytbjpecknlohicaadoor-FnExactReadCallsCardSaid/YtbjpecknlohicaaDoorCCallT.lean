/- CallText, as the program has it twice, over the logical machine: both write the same text. No condition. -/
import Derived.Test.YtbjpecknlohicaaDoorCNum
import Derived.Test.YtbjpecknlohicaaDoorCTCall
namespace Go.Proofs.YtbjpecknlohicaaDoor.Lg
set_option linter.unusedSimpArgs false
set_option linter.unusedVariables false
set_option maxRecDepth 100000
set_option maxHeartbeats 40000000
open Go.Proofs.YtbjpecknlohicaaDoor

def wordsL : List ByteArray := [⟨#[110, 101, 120, 116]⟩, ⟨#[101, 118, 101, 110, 116]⟩, ⟨#[101, 110, 116, 101, 114]⟩, ⟨#[108, 101, 97, 118, 101]⟩, ⟨#[115, 107, 105, 112]⟩, ⟨#[112, 97, 116, 104]⟩, ⟨#[118, 97, 108, 117, 101]⟩, ⟨#[100, 101, 112, 116, 104]⟩, ⟨#[115, 105, 122, 101]⟩, ⟨#[109, 97, 114, 107]⟩, ⟨#[114, 101, 119, 105, 110, 100]⟩, ⟨#[100, 114, 111, 112]⟩]
def wordsV : List V := [.str ⟨#[110, 101, 120, 116]⟩, .str ⟨#[101, 118, 101, 110, 116]⟩, .str ⟨#[101, 110, 116, 101, 114]⟩, .str ⟨#[108, 101, 97, 118, 101]⟩, .str ⟨#[115, 107, 105, 112]⟩, .str ⟨#[112, 97, 116, 104]⟩, .str ⟨#[118, 97, 108, 117, 101]⟩, .str ⟨#[100, 101, 112, 116, 104]⟩, .str ⟨#[115, 105, 122, 101]⟩, .str ⟨#[109, 97, 114, 107]⟩, .str ⟨#[114, 101, 119, 105, 110, 100]⟩, .str ⟨#[100, 114, 111, 112]⟩]
theorem run_words (fl : Nat) (H : LH) : run 26 [] fl H = some (.sl H.length 0 1 12 12, H ++ [.cells wordsV]) := by
  unfold run wordsV
  rw [Run_z Tryd.func26 rfl (by rfl : ok 26 = true) (by rfl : cfg.keep 26 = [0]) (by rfl : cfg.mode 26 = .fresh)]
  simp (config := {contextual := true, maxSteps := 10000000, implicitDefEqProofs := false}) (disch := first | (and_intros <;> omega -splitDisjunctions) | (simp only [List.length_set, List.length_append, List.length_cons, List.length_nil]; and_intros <;> omega -splitDisjunctions) | fail) only [Tryd.f26, go_sem, ↓reduceIte, Nat.reduceEqDiff, Nat.reduceAdd, Nat.reduceMul, Nat.reduceLT, Nat.reduceLeDiff, reduceCtorEq, Int.reduceNe, Int.reduceEq, Int.reduceLT, Int.reduceLE, Int.reduceAdd, Int.reduceSub, Int.reduceMul, Int.reduceNeg, Int.reduceToNat, UInt8.reduceToNat, natLit, ty9, ty39]
/-- what both write -/
def callT (k n : Int) : ByteArray :=
  if k < 1 ∨ 12 < k then ⟨#[]⟩ else if k < 11 then (if n = 0 then wordsL.getD (k - 1).toNat ⟨#[]⟩ else ⟨#[]⟩)
  else if numT n = ⟨#[]⟩ then ⟨#[]⟩ else wordsL.getD (k - 1).toNat ⟨#[]⟩ ++ ⟨#[32]⟩ ++ numT n
theorem numT_sz (n : Int) : (numT n).size ≤ 4294967300 := by
  unfold numT
  split
  · simp [size_lit]
  · have := decT_size n.toNat
    omega
theorem twelve {k : Int} (h1 : 1 ≤ k) (h2 : k ≤ 12) : k = 1 ∨ k = 2 ∨ k = 3 ∨ k = 4 ∨ k = 5 ∨ k = 6 ∨ k = 7 ∨ k = 8 ∨ k = 9 ∨ k = 10 ∨ k = 11 ∨ k = 12 := by omega
theorem run_imCallText (k n : Int) (fl : Nat) (H : LH) : run 32 [.agg (caC ⟨k, n⟩)] fl H = some (.str (callT k n), H) := by
  have e1 := fun a b c fl H => run_within a b c fl H
  have e2 := fun n fl H => run_imNum n fl H
  have hs := numT_sz n
  unfold run caC at *
  rw [Run_z Tryd.func32 rfl (by rfl : ok 32 = true) (by rfl : cfg.keep 32 = [0, 1, 2, 3, 5, 19]) (by rfl : cfg.mode 32 = .pure)]
  by_cases h0 : 1 ≤ k ∧ k ≤ 12
  · obtain ⟨h1, h2⟩ := h0
    rcases twelve h1 h2 with rfl | rfl | rfl | rfl | rfl | rfl | rfl | rfl | rfl | rfl | rfl | rfl
    all_goals
      simp (config := {contextual := true, maxSteps := 10000000, implicitDefEqProofs := false}) (disch := first | (and_intros <;> omega -splitDisjunctions) | (simp only [List.length_set, List.length_append, List.length_cons, List.length_nil]; and_intros <;> omega -splitDisjunctions) | fail) only [e1, e2, Tryd.f32, go_sem, ↓reduceIte, Nat.reduceEqDiff, Nat.reduceAdd, Nat.reduceMul, Nat.reduceLT, Nat.reduceLeDiff, reduceCtorEq, Int.reduceNe, Int.reduceEq, Int.reduceLT, Int.reduceLE, Int.reduceAdd, Int.reduceSub, Int.reduceMul, Int.reduceNeg, Int.reduceToNat, UInt8.reduceToNat, natLit, ty3, ty9, ty36, ty39]
      simp only [callT, Int.reduceLT, or_self, if_false, if_true, wordsL]
      (repeat' (refine ite_E (fun _ => ?_) (fun _ => ?_))) <;> (try simp only [*, if_true, if_false]) <;> rfl
  · have h0' : k < 1 ∨ 12 < k := by omega
    simp (config := {contextual := true, maxSteps := 10000000, implicitDefEqProofs := false}) (disch := first | (and_intros <;> omega -splitDisjunctions) | (simp only [List.length_set, List.length_append, List.length_cons, List.length_nil]; and_intros <;> omega -splitDisjunctions) | fail) only [e1, e2, show ¬ (1 ≤ k ∧ k ≤ 10) by omega, show ¬ (11 ≤ k ∧ k ≤ 12) by omega, h0', Tryd.f32, go_sem, ↓reduceIte, Nat.reduceEqDiff, Nat.reduceAdd, Nat.reduceMul, Nat.reduceLT, Nat.reduceLeDiff, reduceCtorEq, Int.reduceNe, Int.reduceEq, Int.reduceLT, Int.reduceLE, Int.reduceAdd, Int.reduceSub, Int.reduceMul, Int.reduceNeg, Int.reduceToNat, UInt8.reduceToNat, natLit, ty3, ty9, ty36, ty39]
    simp only [callT, h0', if_true]
theorem run_spCallText (k n : Int) (fl : Nat) (H : LH) : run 28 [.agg (caC ⟨k, n⟩)] fl H = some (.str (callT k n), H) := by
  have e1 := fun fl H => run_words fl H
  have e2 := fun n fl H => run_spNum n fl H
  unfold wordsV at e1
  have hs := numT_sz n
  unfold run caC at *
  rw [Run_z Tryd.func28 rfl (by rfl : ok 28 = true) (by rfl : cfg.keep 28 = [0, 1, 2, 3, 11, 20, 23, 28]) (by rfl : cfg.mode 28 = .pure)]
  by_cases h0 : 1 ≤ k ∧ k ≤ 12
  · obtain ⟨h1, h2⟩ := h0
    rcases twelve h1 h2 with rfl | rfl | rfl | rfl | rfl | rfl | rfl | rfl | rfl | rfl | rfl | rfl
    all_goals
      simp (config := {contextual := true, maxSteps := 10000000, implicitDefEqProofs := false}) (disch := first | (and_intros <;> omega -splitDisjunctions) | (simp only [List.length_set, List.length_append, List.length_cons, List.length_nil]; and_intros <;> omega -splitDisjunctions) | fail) only [e1, e2, Tryd.f28, go_sem, ↓reduceIte, Nat.reduceEqDiff, Nat.reduceAdd, Nat.reduceMul, Nat.reduceLT, Nat.reduceLeDiff, reduceCtorEq, Int.reduceNe, Int.reduceEq, Int.reduceLT, Int.reduceLE, Int.reduceAdd, Int.reduceSub, Int.reduceMul, Int.reduceNeg, Int.reduceToNat, UInt8.reduceToNat, natLit, ty3, ty9, ty36, ty39]
      simp only [callT, Int.reduceLT, or_self, if_false, if_true, wordsL]
      (repeat' (refine ite_E (fun _ => ?_) (fun _ => ?_))) <;> (try simp only [*, if_true, if_false]) <;> rfl
  · have h0' : k < 1 ∨ 12 < k := by omega
    simp (config := {contextual := true, maxSteps := 10000000, implicitDefEqProofs := false}) (disch := first | (and_intros <;> omega -splitDisjunctions) | (simp only [List.length_set, List.length_append, List.length_cons, List.length_nil]; and_intros <;> omega -splitDisjunctions) | fail) only [e1, e2, show ¬ (1 ≤ k ∧ k ≤ 10) by omega, show ¬ (11 ≤ k ∧ k ≤ 12) by omega, h0', Tryd.f28, go_sem, ↓reduceIte, Nat.reduceEqDiff, Nat.reduceAdd, Nat.reduceMul, Nat.reduceLT, Nat.reduceLeDiff, reduceCtorEq, Int.reduceNe, Int.reduceEq, Int.reduceLT, Int.reduceLE, Int.reduceAdd, Int.reduceSub, Int.reduceMul, Int.reduceNeg, Int.reduceToNat, UInt8.reduceToNat, natLit, ty3, ty9, ty36, ty39]
    simp only [callT, h0', if_true]
end Go.Proofs.YtbjpecknlohicaaDoor.Lg
