/- Right steps, in the program and in the reference. No condition. -/
import Derived.Test.YtcbjmggbbnpbpaaDoorCTSeg
import Derived.Test.YtcbjmggbbnpbpaaDoorCNum
namespace Go.Proofs.YtcbjmggbbnpbpaaDoor.Lg
set_option linter.unusedSimpArgs false
set_option linter.unusedVariables false
set_option maxRecDepth 100000
set_option maxHeartbeats 40000000
open Go.Proofs.YtcbjmggbbnpbpaaDoor
set_option linter.unusedSectionVars false
variable [ML]

def sgOk (s : Sg) : Bool := decide ((s.kind = 1 ∨ s.kind = 3) ∧ 0 ≤ s.n ∧ s.n ≤ 4294967295 ∧ s.text = ⟨#[]⟩ ∨ s.kind = 2 ∧ s.n = 0 ∨ (s.kind = 4 ∨ s.kind = 5) ∧ s.n = 0 ∧ s.text = ⟨#[]⟩)
theorem run_imSegOk (s : Sg) (fl : Nat) (H : LH) : run 111 [.agg (sgC s)] fl H = some (.bool (sgOk s), H) := by
  have e1 := fun a b c fl H => run_within a b c fl H
  unfold sgOk
  unfold run sgC at *
  rw [Run_z Tryd.func111 rfl (by rfl : ok 111 = true) (by rfl : cfg.keep 111 = [0, 1, 2, 4, 5, 16, 21]) (by rfl : cfg.mode 111 = .pure) (by rfl : cfg.ord 111 = [])]
  simp (config := {contextual := true, maxSteps := 10000000, implicitDefEqProofs := false}) (disch := first | (and_intros <;> omega -splitDisjunctions) | (simp only [List.length_set, List.length_append, List.length_cons, List.length_nil]; and_intros <;> omega -splitDisjunctions) | fail) only [e1, Tryd.f111, go_sem, ↓reduceIte, Nat.reduceEqDiff, Nat.reduceAdd, Nat.reduceMul, Nat.reduceLT, Nat.reduceLeDiff, reduceCtorEq, Int.reduceNe, Int.reduceEq, Int.reduceLT, Int.reduceLE, Int.reduceAdd, Int.reduceSub, Int.reduceMul, Int.reduceNeg, Int.reduceToNat, UInt8.reduceToNat, natLit, ty3, ty9, ty102]
  clear e1
  (repeat' (refine ite_E (fun _ => ?_) (fun _ => ?_))) <;> (refine congrArg (fun b => some (V.bool b, H)) ?_; grind)
theorem run_spSegOk (s : Sg) (fl : Nat) (H : LH) : run 79 [.agg (sgC s)] fl H = some (.bool (sgOk s), H) := by
  unfold sgOk
  unfold run sgC at *
  rw [Run_z Tryd.func79 rfl (by rfl : ok 79 = true) (by rfl : cfg.keep 79 = [0, 1, 2, 3]) (by rfl : cfg.mode 79 = .pure) (by rfl : cfg.ord 79 = [])]
  simp (config := {contextual := true, maxSteps := 10000000, implicitDefEqProofs := false}) (disch := first | (and_intros <;> omega -splitDisjunctions) | (simp only [List.length_set, List.length_append, List.length_cons, List.length_nil]; and_intros <;> omega -splitDisjunctions) | fail) only [Tryd.f79, go_sem, ↓reduceIte, Nat.reduceEqDiff, Nat.reduceAdd, Nat.reduceMul, Nat.reduceLT, Nat.reduceLeDiff, reduceCtorEq, Int.reduceNe, Int.reduceEq, Int.reduceLT, Int.reduceLE, Int.reduceAdd, Int.reduceSub, Int.reduceMul, Int.reduceNeg, Int.reduceToNat, UInt8.reduceToNat, natLit, ty3, ty9, ty102]
  (repeat' (refine ite_E (fun _ => ?_) (fun _ => ?_))) <;> (refine congrArg (fun b => some (V.bool b, H)) ?_; grind)
theorem all_drop {α : Type} {p : α → Bool} {xs : List α} {i : Nat} (hi : i < xs.length) (d : α) : (xs.drop i).all p = (p (xs.getD i d) && (xs.drop (i + 1)).all p) := by
  rw [List.drop_eq_getElem_cons hi, List.all_cons, getD_of hi]
theorem run_segsOk (v : V) (xs : List Sg) (fl : Nat) (H : LH) (h : At H sgC 3 v xs) (hl : xs.length ≤ 1048576) : run 85 [v] fl H = some (.bool (xs.all sgOk), H) := by
  have e1 := fun s fl H => run_imSegOk s fl H
  have f1 := h.isTup; have f2 := h.len; have f3 := h.lenOk ty29; have f0 := h.one
  have f4 := fun hp => h.con hp
  have f5 := h.idx (T := ty Tryd.prog) (t := 29) (by simp only [elemI, sizeO, ty3, ty9, ty29, ty102])
  have f6 := h.loadD sgC_len sg0
  unfold run at *
  rw [Run_z Tryd.func85 rfl (by rfl : ok 85 = true) (by rfl : cfg.keep 85 = [0, 2, 4, 5, 6, 7, 8, 13]) (by rfl : cfg.mode 85 = .pure) (by rfl : cfg.ord 85 = [])]
  simp (config := {contextual := true, maxSteps := 10000000, implicitDefEqProofs := false}) (disch := first | (and_intros <;> omega -splitDisjunctions) | (simp only [List.length_set, List.length_append, List.length_cons, List.length_nil]; and_intros <;> omega -splitDisjunctions) | fail) only [f0, f1, f2, f3, f4, f5, f6, Tryd.f85, go_sem, ↓reduceIte, Nat.reduceEqDiff, Nat.reduceAdd, Nat.reduceMul, Nat.reduceLT, Nat.reduceLeDiff, reduceCtorEq, Int.reduceNe, Int.reduceEq, Int.reduceLT, Int.reduceLE, Int.reduceAdd, Int.reduceSub, Int.reduceMul, Int.reduceNeg, Int.reduceToNat, UInt8.reduceToNat, natLit, ty3, ty4, ty9, ty29, ty102]
  refine at_loopE fun c R hc hR => ?_
  have key : ∀ (m : Nat) (i : Nat) (j : Int) (A : LH) (x4 x8 x13 : Option V), xs.length - i < m → j = (i : Int) → i ≤ xs.length → Hx H A → (xs.drop i).all sgOk = xs.all sgOk →
      zEv (leaveX (mkR Tryd.prog cfg ok [0, 2, 4, 5, 6, 7, 8, 13] H.length) .pure H [ResultVar.tmp 2]) (mkR Tryd.prog cfg ok [0, 2, 4, 5, 6, 7, 8, 13] H.length) (K.code (Code.loop c) :: K.blk 0 :: R) .nrm [some v, some (.bool false), x4, some v, some (.int .i64 xs.length), some (.int .i64 j), x8, x13] (A) = some (.bool (xs.all sgOk), H) := by
    intro m
    induction m with
    | zero => intro i j A x4 x8 x13 hm; omega
    | succ m ih =>
      intro i j A x4 x8 x13 hm hj hi hA hf
      subst hj
      have hB := h.ext hA
      have hle := hA.len
      have g1 := hB.isTup; have g2 := hB.len; have g3 := hB.lenOk ty29; have g0 := hB.one
      have g4 := fun hp => hB.con hp
      have g5 := hB.idx (T := ty Tryd.prog) (t := 29) (by simp only [elemI, sizeO, ty3, ty9, ty29, ty102])
      have g6 := hB.loadD sgC_len sg0
      rcases Nat.lt_or_ge i xs.length with hlt | hge
      · have g7 := fun K => g6 i hlt K
        generalize hs : xs.getD i sg0 = s at *
        have e2 := fun fl H => e1 s fl H
        rw [all_drop hlt sg0, hs] at hf
        unfold sgC at g7 e2
        have g6 := g7
        have t0 : ((i : Int) < xs.length) = True := eq_true (by omega)
        rw [zEv_round hc, ← hR]
        simp (config := {contextual := true, maxSteps := 10000000, implicitDefEqProofs := false}) (disch := first | (and_intros <;> omega -splitDisjunctions) | (simp only [List.length_set, List.length_append, List.length_cons, List.length_nil]; and_intros <;> omega -splitDisjunctions) | fail) only [g0, g1, g2, g3, g4, g5, g6, e2, t0, hle, Tryd.f85, go_sem, ↓reduceIte, Nat.reduceEqDiff, Nat.reduceAdd, Nat.reduceMul, Nat.reduceLT, Nat.reduceLeDiff, reduceCtorEq, Int.reduceNe, Int.reduceEq, Int.reduceLT, Int.reduceLE, Int.reduceAdd, Int.reduceSub, Int.reduceMul, Int.reduceNeg, Int.reduceToNat, UInt8.reduceToNat, natLit, ty3, ty4, ty9, ty29, ty102]
        try rw [hR]
        refine ite_E2 (fun h1 => ?_) (fun h1 => ?_)
        · rw [eq_true_of_ne_false h1, Bool.true_and] at hf
          exact ih (i + 1) _ _ _ _ _ (by omega) (by omega) (by omega) (hA.trans Hx.app) hf
        · rw [h1, Bool.false_and] at hf
          rw [← hf]
      · rw [List.drop_of_length_le (by omega)] at hf
        have t0 : ((i : Int) < xs.length) = False := eq_false (by omega)
        rw [zEv_round hc, ← hR]
        simp (config := {contextual := true, maxSteps := 10000000, implicitDefEqProofs := false}) (disch := first | (and_intros <;> omega -splitDisjunctions) | (simp only [List.length_set, List.length_append, List.length_cons, List.length_nil]; and_intros <;> omega -splitDisjunctions) | fail) only [g0, g1, g2, g3, g4, g5, g6, t0, Tryd.f85, go_sem, ↓reduceIte, Nat.reduceEqDiff, Nat.reduceAdd, Nat.reduceMul, Nat.reduceLT, Nat.reduceLeDiff, reduceCtorEq, Int.reduceNe, Int.reduceEq, Int.reduceLT, Int.reduceLE, Int.reduceAdd, Int.reduceSub, Int.reduceMul, Int.reduceNeg, Int.reduceToNat, UInt8.reduceToNat, natLit, ty3, ty4, ty9, ty29, ty102]
        rw [← hf]; rfl
  exact key (xs.length + 1) 0 _ H _ _ _ (by omega) rfl (by omega) (Hx.refl H) (by simp)
end Go.Proofs.YtcbjmggbbnpbpaaDoor.Lg
