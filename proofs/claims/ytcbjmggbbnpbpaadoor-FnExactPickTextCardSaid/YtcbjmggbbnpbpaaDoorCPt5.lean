/- Texts of paths, in the reference. No condition. -/
import Derived.Test.YtcbjmggbbnpbpaaDoorCPt4
namespace Go.Proofs.YtcbjmggbbnpbpaaDoor.Lg
set_option linter.unusedSimpArgs false
set_option linter.unusedVariables false
set_option maxRecDepth 100000
set_option maxHeartbeats 40000000
open Go.Proofs.YtcbjmggbbnpbpaaDoor
set_option linter.unusedSectionVars false
variable [ML]

theorem s47 : (⟨#[47]⟩ : ByteArray).size = 1 := rfl
theorem s64 : (⟨#[64]⟩ : ByteArray).size = 1 := rfl
theorem s42 : (⟨#[42]⟩ : ByteArray).size = 1 := rfl
theorem s422 : (⟨#[42, 42]⟩ : ByteArray).size = 2 := rfl
theorem run_spPathText (v : V) (xs : List Sg) (fl : Nat) (H : LH) (h : At H sgC 3 v xs) (hl : xs.length ≤ 1048576) (hz : ∀ s ∈ xs, s.text.size ≤ 1048576) : run 33 [v] fl H = some (.str (pathT xs), H) := by
  have e1 := fun s fl H => run_spSegOk s fl H
  have e2 := fun n fl H => run_spNum n fl H
  have e3 := fun (e : Sg) (he : e ∈ xs) fl H => run_l17Word e.text fl H (by have := hz e he; omega)
  have e4 := fun (e : Sg) (he : e ∈ xs) fl H => run_l17Quote e.text fl H (by have := hz e he; omega)
  have hsz := pathB_sz
  have f1 := h.isTup; have f2 := h.len; have f3 := h.lenOk ty29; have f0 := h.one
  have f4 := fun hp => h.con hp
  have f5 := h.idx (T := ty Tryd.prog) (t := 29) (by simp only [elemI, sizeO, ty3, ty9, ty29, ty102])
  have f6 := h.loadD sgC_len sg0
  unfold run at *
  rw [Run_z Tryd.func33 rfl (by rfl : ok 33 = true) (by rfl : cfg.keep 33 = [0, 2, 3, 5, 8, 9, 10, 11, 12, 17, 25, 34, 44, 50, 56, 66]) (by rfl : cfg.mode 33 = .pure) (by rfl : cfg.ord 33 = [])]
  by_cases h60 : xs.length ≤ 60
  rotate_left
  · have t1 : (60 < (xs.length : Int)) = True := eq_true (by omega)
    unfold pathT
    rw [if_neg (fun h => h60 h.1)]
    simp (config := {contextual := true, maxSteps := 10000000, implicitDefEqProofs := false}) (disch := first | (and_intros <;> omega -splitDisjunctions) | (simp only [List.length_set, List.length_append, List.length_cons, List.length_nil]; and_intros <;> omega -splitDisjunctions) | fail) only [f0, f1, f2, f3, f4, f5, f6, t1, Tryd.f33, go_sem, ↓reduceIte, Nat.reduceEqDiff, Nat.reduceAdd, Nat.reduceMul, Nat.reduceLT, Nat.reduceLeDiff, reduceCtorEq, Int.reduceNe, Int.reduceEq, Int.reduceLT, Int.reduceLE, Int.reduceAdd, Int.reduceSub, Int.reduceMul, Int.reduceNeg, Int.reduceToNat, UInt8.reduceToNat, natLit, ty3, ty4, ty9, ty29, ty102]
  have t1 : (60 < (xs.length : Int)) = False := eq_false (by omega)
  generalize hres : pathT xs = res
  simp (config := {contextual := true, maxSteps := 10000000, implicitDefEqProofs := false}) (disch := first | (and_intros <;> omega -splitDisjunctions) | (simp only [List.length_set, List.length_append, List.length_cons, List.length_nil]; and_intros <;> omega -splitDisjunctions) | fail) only [f0, f1, f2, f3, f4, f5, f6, t1, Tryd.f33, go_sem, ↓reduceIte, Nat.reduceEqDiff, Nat.reduceAdd, Nat.reduceMul, Nat.reduceLT, Nat.reduceLeDiff, reduceCtorEq, Int.reduceNe, Int.reduceEq, Int.reduceLT, Int.reduceLE, Int.reduceAdd, Int.reduceSub, Int.reduceMul, Int.reduceNeg, Int.reduceToNat, UInt8.reduceToNat, natLit, ty3, ty4, ty9, ty29, ty102]
  refine at_loopE fun c R hc hR => ?_
  have key : ∀ (m : Nat) (i : Nat) (j : Int) (S : ByteArray) (B : LH) (x2 x5 x8 x12 x17 x25 x34 x44 x50 x56 x66 : Option V), xs.length - i < m → j = i → i ≤ xs.length → S = pathB (xs.take i) → res = (if (xs.drop i).all sgOk = true then (if xs = [] then ⟨#[47]⟩ else pathB xs) else ⟨#[]⟩) → Hx H B →
      zEv (leaveX (mkR Tryd.prog cfg ok [0, 2, 3, 5, 8, 9, 10, 11, 12, 17, 25, 34, 44, 50, 56, 66] H.length) .pure H [ResultVar.tmp 2]) (mkR Tryd.prog cfg ok [0, 2, 3, 5, 8, 9, 10, 11, 12, 17, 25, 34, 44, 50, 56, 66] H.length) (K.code (Code.loop c) :: K.blk 0 :: R) .nrm [some v, x2, some (.str S), x5, x8, some v, some (.int .i64 xs.length), some (.int .i64 j), x12, x17, x25, x34, x44, x50, x56, x66] (B) = some (.str res, H) := by
    intro m
    induction m with
    | zero => intro i j S B x2 x5 x8 x12 x17 x25 x34 x44 x50 x56 x66 hm; omega
    | succ m ih =>
      intro i j S B x2 x5 x8 x12 x17 x25 x34 x44 x50 x56 x66 hm hj hi hS hf hx
      subst hj
      have hB := h.ext hx
      have hle := hx.len
      have hSz : S.size ≤ 125829840 := by
        have := pathB_sz (xs.take i) (fun s hs => hz s (List.mem_of_mem_take hs))
        rw [List.length_take] at this
        rw [hS]; omega
      have g1 := hB.isTup; have g2 := hB.len; have g3 := hB.lenOk ty29; have g0 := hB.one
      have g4 := fun hp => hB.con hp
      have g5 := hB.idx (T := ty Tryd.prog) (t := 29) (by simp only [elemI, sizeO, ty3, ty9, ty29, ty102])
      have g6 := hB.loadD sgC_len sg0
      by_cases hlt : i < xs.length
      rotate_left
      · have t0 : ((i : Int) < xs.length) = False := eq_false (by omega)
        rw [List.take_of_length_le (by omega)] at hS
        rw [List.drop_of_length_le (by omega), if_pos (by rfl)] at hf
        rw [zEv_round hc, ← hR]
        by_cases hem : xs = []
        · rw [if_pos hem] at hf
          have hS : S = ⟨#[]⟩ := by rw [hS, hem]; rfl
          simp (config := {contextual := true, maxSteps := 10000000, implicitDefEqProofs := false}) (disch := first | (and_intros <;> omega -splitDisjunctions) | (simp only [List.length_set, List.length_append, List.length_cons, List.length_nil]; and_intros <;> omega -splitDisjunctions) | fail) only [t0, hS, Tryd.f33, go_sem, ↓reduceIte, Nat.reduceEqDiff, Nat.reduceAdd, Nat.reduceMul, Nat.reduceLT, Nat.reduceLeDiff, reduceCtorEq, Int.reduceNe, Int.reduceEq, Int.reduceLT, Int.reduceLE, Int.reduceAdd, Int.reduceSub, Int.reduceMul, Int.reduceNeg, Int.reduceToNat, UInt8.reduceToNat, natLit, ty3, ty4, ty9, ty29, ty102]
          rw [hf]
        · rw [if_neg hem] at hf
          have hS2 : (S = ⟨#[]⟩) = False := eq_false (fun e => pathB_ne hem (hS ▸ e))
          simp (config := {contextual := true, maxSteps := 10000000, implicitDefEqProofs := false}) (disch := first | (and_intros <;> omega -splitDisjunctions) | (simp only [List.length_set, List.length_append, List.length_cons, List.length_nil]; and_intros <;> omega -splitDisjunctions) | fail) only [t0, hS2, Tryd.f33, go_sem, ↓reduceIte, Nat.reduceEqDiff, Nat.reduceAdd, Nat.reduceMul, Nat.reduceLT, Nat.reduceLeDiff, reduceCtorEq, Int.reduceNe, Int.reduceEq, Int.reduceLT, Int.reduceLE, Int.reduceAdd, Int.reduceSub, Int.reduceMul, Int.reduceNeg, Int.reduceToNat, UInt8.reduceToNat, natLit, ty3, ty4, ty9, ty29, ty102]
          rw [hf, hS]
      have g7 := fun K => g6 i hlt K
      have hin : xs.getD i sg0 ∈ xs := by rw [getD_of hlt]; exact List.getElem_mem _
      have e5 := e1 (xs.getD i sg0)
      have e6 := e2 (xs.getD i sg0).n
      have e7 := e3 (xs.getD i sg0) hin
      have e8 := e4 (xs.getD i sg0) hin
      have hst := pathB_take hlt
      have hz1 := hz _ hin
      have hqz := qtT_sz (xs.getD i sg0).text
      have hnz := numT_few (xs.getD i sg0).n
      rw [all_drop hlt sg0] at hf
      rw [← hS] at hst
      have t0 : ((i : Int) < xs.length) = True := eq_true (by omega)
      clear e1 e2 e3 e4 g6
      generalize xs.getD i sg0 = s at *
      by_cases hok : sgOk s = true
      rotate_left
      · have hok : sgOk s = false := by simpa using hok
        rw [hok, Bool.false_and, if_neg (by decide)] at hf
        rw [hok] at e5
        unfold sgC at g7 e5
        have g6 := g7
        rw [zEv_round hc, ← hR]
        simp (config := {contextual := true, maxSteps := 10000000, implicitDefEqProofs := false}) (disch := first | (and_intros <;> omega -splitDisjunctions) | (simp only [List.length_set, List.length_append, List.length_cons, List.length_nil]; and_intros <;> omega -splitDisjunctions) | fail) only [g0, g1, g2, g3, g4, g5, g6, e5, t0, hle, Tryd.f33, go_sem, ↓reduceIte, Nat.reduceEqDiff, Nat.reduceAdd, Nat.reduceMul, Nat.reduceLT, Nat.reduceLeDiff, reduceCtorEq, Int.reduceNe, Int.reduceEq, Int.reduceLT, Int.reduceLE, Int.reduceAdd, Int.reduceSub, Int.reduceMul, Int.reduceNeg, Int.reduceToNat, UInt8.reduceToNat, natLit, ty3, ty4, ty9, ty29, ty102]
        rw [hf]
      rw [hok, Bool.true_and] at hf
      rw [hok] at e5
      obtain ⟨k, n, t⟩ := s
      dsimp only at e5 e6 e7 e8 hz1 hqz hnz
      generalize hN : numT n = N at *
      generalize hQ : qtT t = Q at *
      generalize hW : bareB t = W at *
      unfold sgC at g7 e5
      dsimp only at g7 e5
      have g6 := g7
      have hgo : ∀ S' : ByteArray, S' = S ++ ⟨#[47]⟩ ++ segT ⟨k, n, t⟩ → S' = pathB (xs.take (i + 1)) := fun S' h => h.trans hst.symm
      unfold segT at hgo
      dsimp only at hgo
      rw [hN, hQ, hW] at hgo
      have k0 := s47; have k1 := s64; have k2 := s42; have k3 := s422
      have hz0 : ∀ x y : ByteArray, (x ++ y).size = x.size + y.size := fun x y => ByteArray.size_append
      rw [zEv_round hc, ← hR]
      by_cases h1 : k = 1
      · subst h1
        simp (config := {contextual := true, maxSteps := 10000000, implicitDefEqProofs := false}) (disch := first | (and_intros <;> omega -splitDisjunctions) | (simp only [List.length_set, List.length_append, List.length_cons, List.length_nil]; and_intros <;> omega -splitDisjunctions) | fail) only [g0, g1, g2, g3, g4, g5, g6, e5, e6, t0, hle, Tryd.f33, go_sem, ↓reduceIte, Nat.reduceEqDiff, Nat.reduceAdd, Nat.reduceMul, Nat.reduceLT, Nat.reduceLeDiff, reduceCtorEq, Int.reduceNe, Int.reduceEq, Int.reduceLT, Int.reduceLE, Int.reduceAdd, Int.reduceSub, Int.reduceMul, Int.reduceNeg, Int.reduceToNat, UInt8.reduceToNat, natLit, ty3, ty4, ty9, ty29, ty102]
        rw [hR]
        exact ih (i + 1) ((i : Int) + 1) _ _ _ _ _ _ _ _ _ _ _ _ _ (by omega) (by omega) (by omega) (hgo _ (by rw [if_pos rfl])) hf (hx.trans Hx.app)
      by_cases h3 : k = 3
      · subst h3
        simp (config := {contextual := true, maxSteps := 10000000, implicitDefEqProofs := false}) (disch := first | (and_intros <;> omega -splitDisjunctions) | (simp only [List.length_set, List.length_append, List.length_cons, List.length_nil]; and_intros <;> omega -splitDisjunctions) | fail) only [g0, g1, g2, g3, g4, g5, g6, e5, e6, t0, hle, Tryd.f33, go_sem, ↓reduceIte, Nat.reduceEqDiff, Nat.reduceAdd, Nat.reduceMul, Nat.reduceLT, Nat.reduceLeDiff, reduceCtorEq, Int.reduceNe, Int.reduceEq, Int.reduceLT, Int.reduceLE, Int.reduceAdd, Int.reduceSub, Int.reduceMul, Int.reduceNeg, Int.reduceToNat, UInt8.reduceToNat, natLit, ty3, ty4, ty9, ty29, ty102]
        rw [hR]
        exact ih (i + 1) ((i : Int) + 1) _ _ _ _ _ _ _ _ _ _ _ _ _ (by omega) (by omega) (by omega) (hgo _ (by rw [if_neg (by decide), if_pos rfl, ← ba_assoc])) hf (hx.trans Hx.app)
      by_cases h4 : k = 4
      · subst h4
        simp (config := {contextual := true, maxSteps := 10000000, implicitDefEqProofs := false}) (disch := first | (and_intros <;> omega -splitDisjunctions) | (simp only [List.length_set, List.length_append, List.length_cons, List.length_nil]; and_intros <;> omega -splitDisjunctions) | fail) only [g0, g1, g2, g3, g4, g5, g6, e5, e6, t0, hle, Tryd.f33, go_sem, ↓reduceIte, Nat.reduceEqDiff, Nat.reduceAdd, Nat.reduceMul, Nat.reduceLT, Nat.reduceLeDiff, reduceCtorEq, Int.reduceNe, Int.reduceEq, Int.reduceLT, Int.reduceLE, Int.reduceAdd, Int.reduceSub, Int.reduceMul, Int.reduceNeg, Int.reduceToNat, UInt8.reduceToNat, natLit, ty3, ty4, ty9, ty29, ty102]
        rw [hR]
        exact ih (i + 1) ((i : Int) + 1) _ _ _ _ _ _ _ _ _ _ _ _ _ (by omega) (by omega) (by omega) (hgo _ (by rw [if_neg (by decide), if_neg (by decide), if_pos rfl])) hf (hx.trans Hx.app)
      by_cases h5 : k = 5
      · subst h5
        simp (config := {contextual := true, maxSteps := 10000000, implicitDefEqProofs := false}) (disch := first | (and_intros <;> omega -splitDisjunctions) | (simp only [List.length_set, List.length_append, List.length_cons, List.length_nil]; and_intros <;> omega -splitDisjunctions) | fail) only [g0, g1, g2, g3, g4, g5, g6, e5, e6, t0, hle, Tryd.f33, go_sem, ↓reduceIte, Nat.reduceEqDiff, Nat.reduceAdd, Nat.reduceMul, Nat.reduceLT, Nat.reduceLeDiff, reduceCtorEq, Int.reduceNe, Int.reduceEq, Int.reduceLT, Int.reduceLE, Int.reduceAdd, Int.reduceSub, Int.reduceMul, Int.reduceNeg, Int.reduceToNat, UInt8.reduceToNat, natLit, ty3, ty4, ty9, ty29, ty102]
        rw [hR]
        exact ih (i + 1) ((i : Int) + 1) _ _ _ _ _ _ _ _ _ _ _ _ _ (by omega) (by omega) (by omega) (hgo _ (by rw [if_neg (by decide), if_neg (by decide), if_neg (by decide), if_pos rfl])) hf (hx.trans Hx.app)
      have n1 : (k = 1) = False := eq_false h1
      have n3 : (k = 3) = False := eq_false h3
      have n4 : (k = 4) = False := eq_false h4
      have n5 : (k = 5) = False := eq_false h5
      cases W with
      | true =>
        simp (config := {contextual := true, maxSteps := 10000000, implicitDefEqProofs := false}) (disch := first | (and_intros <;> omega -splitDisjunctions) | (simp only [List.length_set, List.length_append, List.length_cons, List.length_nil]; and_intros <;> omega -splitDisjunctions) | fail) only [g0, g1, g2, g3, g4, g5, g6, e5, e6, e7, n1, n3, n4, n5, t0, hle, Tryd.f33, go_sem, ↓reduceIte, Nat.reduceEqDiff, Nat.reduceAdd, Nat.reduceMul, Nat.reduceLT, Nat.reduceLeDiff, reduceCtorEq, Int.reduceNe, Int.reduceEq, Int.reduceLT, Int.reduceLE, Int.reduceAdd, Int.reduceSub, Int.reduceMul, Int.reduceNeg, Int.reduceToNat, UInt8.reduceToNat, natLit, ty3, ty4, ty9, ty29, ty102]
        rw [hR]
        exact ih (i + 1) ((i : Int) + 1) _ _ _ _ _ _ _ _ _ _ _ _ _ (by omega) (by omega) (by omega) (hgo _ (by rw [if_neg h1, if_neg h3, if_neg h4, if_neg h5, if_pos rfl])) hf (hx.trans Hx.app)
      | false =>
        simp (config := {contextual := true, maxSteps := 10000000, implicitDefEqProofs := false}) (disch := first | (and_intros <;> omega -splitDisjunctions) | (simp only [List.length_set, List.length_append, List.length_cons, List.length_nil]; and_intros <;> omega -splitDisjunctions) | fail) only [g0, g1, g2, g3, g4, g5, g6, e5, e6, e7, e8, n1, n3, n4, n5, t0, hle, Tryd.f33, go_sem, ↓reduceIte, Nat.reduceEqDiff, Nat.reduceAdd, Nat.reduceMul, Nat.reduceLT, Nat.reduceLeDiff, reduceCtorEq, Int.reduceNe, Int.reduceEq, Int.reduceLT, Int.reduceLE, Int.reduceAdd, Int.reduceSub, Int.reduceMul, Int.reduceNeg, Int.reduceToNat, UInt8.reduceToNat, natLit, ty3, ty4, ty9, ty29, ty102]
        rw [hR]
        exact ih (i + 1) ((i : Int) + 1) _ _ _ _ _ _ _ _ _ _ _ _ _ (by omega) (by omega) (by omega) (hgo _ (by rw [if_neg h1, if_neg h3, if_neg h4, if_neg h5, if_neg (by decide)])) hf (hx.trans Hx.app)
  refine key (xs.length + 1) 0 0 _ _ _ _ _ _ _ _ _ _ _ _ _ (by omega) rfl (Nat.zero_le _) rfl ?_ (Hx.refl H)
  rw [← hres]
  unfold pathT
  rw [List.drop_zero]
  by_cases hok : xs.all sgOk = true
  · rw [if_pos ⟨h60, hok⟩, if_pos hok]
  · rw [if_neg (fun h => hok h.2), if_neg hok]
end Go.Proofs.YtcbjmggbbnpbpaaDoor.Lg
