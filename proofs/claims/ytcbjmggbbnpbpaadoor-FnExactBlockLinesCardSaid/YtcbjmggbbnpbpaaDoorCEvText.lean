/- EventOk and EventText, as the program has them twice, over the logical machine. No condition. -/
import Derived.Test.YtcbjmggbbnpbpaaDoorCWord
import Derived.Test.YtcbjmggbbnpbpaaDoorCTEvent
import Derived.Test.YtcbjmggbbnpbpaaDoorCNum
namespace Go.Proofs.YtcbjmggbbnpbpaaDoor.Lg
set_option linter.unusedSimpArgs false
set_option linter.unusedVariables false
set_option maxRecDepth 100000
set_option maxHeartbeats 40000000
open Go.Proofs.YtcbjmggbbnpbpaaDoor

/-- is an event right? -/
def EvOk (e : Ev) : Prop :=
  (1 ≤ e.kind ∧ e.kind ≤ 10) ∧
  (e.kind = 10 → 1 ≤ e.code ∧ e.code ≤ 99 ∧ 0 ≤ e.place) ∧ (e.kind ≠ 10 → e.code = 0 ∧ e.place = 0) ∧
  (e.kind = 3 ∨ e.kind = 4 → 6 ≤ e.style ∧ e.style ≤ 7) ∧ (e.kind = 5 → 1 ≤ e.style ∧ e.style ≤ 5) ∧ (¬ (e.kind = 3 ∨ e.kind = 4 ∨ e.kind = 5) → e.style = 0) ∧
  (¬ (e.kind = 2 ∨ e.kind = 8) → e.flag = false) ∧ (¬ (e.kind = 5 ∨ e.kind = 6) → e.text = ⟨#[]⟩) ∧
  (¬ (e.kind = 3 ∨ e.kind = 4 ∨ e.kind = 5) → e.anchor = ⟨#[]⟩ ∧ e.tag = ⟨#[]⟩) ∧
  (e.kind = 6 → e.text ≠ ⟨#[]⟩ ∧ nmOk e.text = true) ∧ nmOk e.anchor = true ∧ e.tag.size ≤ 120
instance (e : Ev) : Decidable (EvOk e) := by unfold EvOk; infer_instance
theorem ten {k : Int} (h1 : 1 ≤ k) (h2 : k ≤ 10) : k = 1 ∨ k = 2 ∨ k = 3 ∨ k = 4 ∨ k = 5 ∨ k = 6 ∨ k = 7 ∨ k = 8 ∨ k = 9 ∨ k = 10 := by omega
theorem nm0e : nmOk ByteArray.empty = true := by decide
theorem nm0 : nmOk ⟨#[]⟩ = true := by decide
theorem run_imEventOk (e : Ev) (fl : Nat) (H : LH) (h3 : evCFit e) : run 138 [.agg (evC e)] fl H = some (.bool (decide (EvOk e)), H) := by
  unfold evCFit at h3
  have e1 := fun a b c fl H => run_within a b c fl H
  have e2 := fun fl H => run_isName e.anchor fl H h3.2.1
  have e3 := fun fl H => run_isName e.text fl H h3.1
  have e4 := fun fl H => run_isName ⟨#[]⟩ fl H (by decide)
  unfold run evC at *
  rw [Run_z Tryd.func138 rfl (by rfl : ok 138 = true) (by rfl : cfg.keep 138 = [0, 1, 2, 3, 8, 9, 13, 19, 34, 35, 52, 53, 66, 67, 83]) (by rfl : cfg.mode 138 = .pure) (by rfl : cfg.ord 138 = [])]
  have hsz : ByteArray.size ⟨#[]⟩ = 0 := rfl
  by_cases hk : 1 ≤ e.kind ∧ e.kind ≤ 10
  · rcases ten hk.1 hk.2 with h | h | h | h | h | h | h | h | h | h
    all_goals
      simp (config := {contextual := true, maxSteps := 10000000, implicitDefEqProofs := false}) (disch := first | (and_intros <;> omega -splitDisjunctions) | (simp only [List.length_set, List.length_append, List.length_cons, List.length_nil]; and_intros <;> omega -splitDisjunctions) | fail) only [h, nm0, e1, e2, e3, e4, eqL, eqS, andO, yesO, kindV, Tryd.f138, go_sem, ↓reduceIte, Nat.reduceEqDiff, Nat.reduceAdd, Nat.reduceMul, Nat.reduceLT, Nat.reduceLeDiff, reduceCtorEq, Int.reduceNe, Int.reduceEq, Int.reduceLT, Int.reduceLE, Int.reduceAdd, Int.reduceSub, Int.reduceMul, Int.reduceNeg, Int.reduceToNat, UInt8.reduceToNat, natLit, ty3, ty4, ty9, ty65]
      clear e1 e2 e3 e4
      simp only [EvOk, h, nm0, Int.reduceEq, Int.reduceLT, Int.reduceLE, or_false, false_or, or_true, true_or, and_true, true_and, and_false, false_and, not_true_eq_false, not_false_eq_true, forall_const, false_implies, true_implies, ne_eq]
      have n0 := nm0
      (repeat' (refine ite_E (fun _ => ?_) (fun _ => ?_))) <;> (refine congrArg (fun b => some (V.bool b, H)) ?_; rw [Bool.eq_iff_iff]; simp only [decide_eq_true_eq]; grind)
  · have hk2 : e.kind < 1 ∨ 10 < e.kind := by omega
    have c1 : ¬ e.kind = 1 := by omega
    have c2 : ¬ e.kind = 2 := by omega
    have c3 : ¬ e.kind = 3 := by omega
    have c4 : ¬ e.kind = 4 := by omega
    have c5 : ¬ e.kind = 5 := by omega
    have c6 : ¬ e.kind = 6 := by omega
    have c7 : ¬ e.kind = 7 := by omega
    have c8 : ¬ e.kind = 8 := by omega
    have c9 : ¬ e.kind = 9 := by omega
    have c10 : ¬ e.kind = 10 := by omega
    have hf : ¬ EvOk e := fun h => hk h.1
    simp (config := {contextual := true, maxSteps := 10000000, implicitDefEqProofs := false}) (disch := first | (and_intros <;> omega -splitDisjunctions) | (simp only [List.length_set, List.length_append, List.length_cons, List.length_nil]; and_intros <;> omega -splitDisjunctions) | fail) only [c1, c2, c3, c4, c5, c6, c7, c8, c9, c10, hk2, nm0, hf, e1, e2, e3, e4, eqL, eqS, andO, yesO, kindV, Tryd.f138, go_sem, ↓reduceIte, Nat.reduceEqDiff, Nat.reduceAdd, Nat.reduceMul, Nat.reduceLT, Nat.reduceLeDiff, reduceCtorEq, Int.reduceNe, Int.reduceEq, Int.reduceLT, Int.reduceLE, Int.reduceAdd, Int.reduceSub, Int.reduceMul, Int.reduceNeg, Int.reduceToNat, UInt8.reduceToNat, natLit, ty3, ty4, ty9, ty65]
theorem run_spEventOk (e : Ev) (fl : Nat) (H : LH) (h3 : evCFit e) : run 125 [.agg (evC e)] fl H = some (.bool (decide (EvOk e)), H) := by
  unfold evCFit at h3
  have e2 := fun fl H => run_l09Name e.anchor fl H h3.2.1
  have e3 := fun fl H => run_l09Name e.text fl H h3.1
  have e4 := fun fl H => run_l09Name ⟨#[]⟩ fl H (by decide)
  unfold run evC at *
  rw [Run_z Tryd.func125 rfl (by rfl : ok 125 = true) (by rfl : cfg.keep 125 = [0, 1, 2, 3, 4, 5, 19, 22, 42, 83, 86, 125]) (by rfl : cfg.mode 125 = .pure) (by rfl : cfg.ord 125 = [])]
  have hsz : ByteArray.size ⟨#[]⟩ = 0 := rfl
  by_cases hk : 1 ≤ e.kind ∧ e.kind ≤ 10
  · rcases ten hk.1 hk.2 with h | h | h | h | h | h | h | h | h | h
    all_goals
      simp (config := {contextual := true, maxSteps := 10000000, implicitDefEqProofs := false}) (disch := first | (and_intros <;> omega -splitDisjunctions) | (simp only [List.length_set, List.length_append, List.length_cons, List.length_nil]; and_intros <;> omega -splitDisjunctions) | fail) only [h, nm0, e2, e3, e4, Tryd.f125, go_sem, ↓reduceIte, Nat.reduceEqDiff, Nat.reduceAdd, Nat.reduceMul, Nat.reduceLT, Nat.reduceLeDiff, reduceCtorEq, Int.reduceNe, Int.reduceEq, Int.reduceLT, Int.reduceLE, Int.reduceAdd, Int.reduceSub, Int.reduceMul, Int.reduceNeg, Int.reduceToNat, UInt8.reduceToNat, natLit, ty3, ty4, ty9, ty65]
      clear e2 e3 e4
      simp only [EvOk, h, nm0, Int.reduceEq, Int.reduceLT, Int.reduceLE, or_false, false_or, or_true, true_or, and_true, true_and, and_false, false_and, not_true_eq_false, not_false_eq_true, forall_const, false_implies, true_implies, ne_eq]
      have n0 := nm0
      (repeat' (refine ite_E (fun _ => ?_) (fun _ => ?_))) <;> (refine congrArg (fun b => some (V.bool b, H)) ?_; rw [Bool.eq_iff_iff]; simp only [decide_eq_true_eq]; grind)
  · have hk2 : e.kind < 1 ∨ 10 < e.kind := by omega
    have c1 : ¬ e.kind = 1 := by omega
    have c2 : ¬ e.kind = 2 := by omega
    have c3 : ¬ e.kind = 3 := by omega
    have c4 : ¬ e.kind = 4 := by omega
    have c5 : ¬ e.kind = 5 := by omega
    have c6 : ¬ e.kind = 6 := by omega
    have c7 : ¬ e.kind = 7 := by omega
    have c8 : ¬ e.kind = 8 := by omega
    have c9 : ¬ e.kind = 9 := by omega
    have c10 : ¬ e.kind = 10 := by omega
    have hf : ¬ EvOk e := fun h => hk h.1
    simp (config := {contextual := true, maxSteps := 10000000, implicitDefEqProofs := false}) (disch := first | (and_intros <;> omega -splitDisjunctions) | (simp only [List.length_set, List.length_append, List.length_cons, List.length_nil]; and_intros <;> omega -splitDisjunctions) | fail) only [c1, c2, c3, c4, c5, c6, c7, c8, c9, c10, hk2, nm0, hf, e2, e3, e4, Tryd.f125, go_sem, ↓reduceIte, Nat.reduceEqDiff, Nat.reduceAdd, Nat.reduceMul, Nat.reduceLT, Nat.reduceLeDiff, reduceCtorEq, Int.reduceNe, Int.reduceEq, Int.reduceLT, Int.reduceLE, Int.reduceAdd, Int.reduceSub, Int.reduceMul, Int.reduceNeg, Int.reduceToNat, UInt8.reduceToNat, natLit, ty3, ty4, ty9, ty65]
end Go.Proofs.YtcbjmggbbnpbpaaDoor.Lg
