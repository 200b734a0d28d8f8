/- Texts of paths, in the program. No condition. -/
import Derived.Test.YtcbjmggbbnpbpaaDoorCPt3
namespace Go.Proofs.YtcbjmggbbnpbpaaDoor.Lg
set_option linter.unusedSimpArgs false
set_option linter.unusedVariables false
set_option maxRecDepth 100000
set_option maxHeartbeats 40000000
open Go.Proofs.YtcbjmggbbnpbpaaDoor
set_option linter.unusedSectionVars false
variable [ML]

/-- one text more -/
theorem app_st {G B : LH} {v : V} {xs : List ByteArray} (hx : Hx G B) (ho : Own G.length B strC 1 v xs) (hn : xs.length + 1 ≤ 1099511627) (L : LH) (x : ByteArray) :
    ∃ b W, appendV G.length 1 16 (B ++ L) 1 [V.str x] v = some (.sl b 0 1 (xs.length + 1) (xs.length + 1), W) ∧ Own G.length W strC 1 (.sl b 0 1 (xs.length + 1) (xs.length + 1)) (xs ++ [x]) ∧ Hx G W := by
  have ap := app_own1 (fl := G.length) (ho.ext (Hx.app (L := L))) strC_len (Nat.le_refl _) 16 (by unfold mostCells; omega) x
  have an := app_new (enc := strC) (z := 1) (v := v) (H := B ++ L) (f0 := G.length) (by have := hx.len; rw [List.length_append]; omega) (xs ++ [x])
  have e : (xs ++ [x]).length = xs.length + 1 := by rw [List.length_append]; rfl
  rw [e] at an
  exact ⟨_, _, ap, an, app_hx (hx.trans Hx.app) (ho.ext Hx.app) (Nat.le_refl _)⟩
theorem run_imPathText (v : V) (xs : List Sg) (fl : Nat) (H : LH) (h : At H sgC 3 v xs) (hl : xs.length ≤ 1048576) (hz : ∀ s ∈ xs, s.text.size ≤ 1048576) : run 38 [v] fl H = some (.str (pathT xs), H) := by
  have e1 := fun fl H2 (hA : At H2 sgC 3 v xs) => run_segsOk v xs fl H2 hA hl
  have e2 := fun (e : Sg) (he : e ∈ xs) fl H => run_segText e fl H (hz e he)
  have e3 := e1 H.length H h
  have f1 := h.isTup; have f2 := h.len; have f3 := h.lenOk ty29; have f0 := h.one
  have f4 := fun hp => h.con hp
  have f5 := h.idx (T := ty Tryd.prog) (t := 29) (by simp only [elemI, sizeO, ty3, ty9, ty29, ty102])
  have f6 := h.loadD sgC_len sg0
  unfold pathT
  unfold run at *
  rw [Run_z Tryd.func38 rfl (by rfl : ok 38 = true) (by rfl : cfg.keep 38 = [0, 2, 3, 5, 13, 15, 16, 17, 18]) (by rfl : cfg.mode 38 = .pure) (by rfl : cfg.ord 38 = [])]
  by_cases h60 : xs.length ≤ 60
  rotate_left
  · have t1 : (60 < (xs.length : Int)) = True := eq_true (by omega)
    rw [if_neg (fun h => h60 h.1)]
    simp (config := {contextual := true, maxSteps := 10000000, implicitDefEqProofs := false}) (disch := first | (and_intros <;> omega -splitDisjunctions) | (simp only [List.length_set, List.length_append, List.length_cons, List.length_nil]; and_intros <;> omega -splitDisjunctions) | fail) only [f0, f1, f2, f3, f4, f5, f6, t1, Tryd.f38, go_sem, ↓reduceIte, Nat.reduceEqDiff, Nat.reduceAdd, Nat.reduceMul, Nat.reduceLT, Nat.reduceLeDiff, reduceCtorEq, Int.reduceNe, Int.reduceEq, Int.reduceLT, Int.reduceLE, Int.reduceAdd, Int.reduceSub, Int.reduceMul, Int.reduceNeg, Int.reduceToNat, UInt8.reduceToNat, natLit, ty3, ty4, ty9, ty29, ty85, ty102]
  have t1 : (60 < (xs.length : Int)) = False := eq_false (by omega)
  by_cases hok : xs.all sgOk = true
  rotate_left
  · have hok2 : xs.all sgOk = false := by simpa using hok
    rw [if_neg (fun h => hok h.2)]
    rw [hok2] at e3
    simp (config := {contextual := true, maxSteps := 10000000, implicitDefEqProofs := false}) (disch := first | (and_intros <;> omega -splitDisjunctions) | (simp only [List.length_set, List.length_append, List.length_cons, List.length_nil]; and_intros <;> omega -splitDisjunctions) | fail) only [f0, f1, f2, f3, f4, f5, f6, t1, e3, Tryd.f38, go_sem, ↓reduceIte, Nat.reduceEqDiff, Nat.reduceAdd, Nat.reduceMul, Nat.reduceLT, Nat.reduceLeDiff, reduceCtorEq, Int.reduceNe, Int.reduceEq, Int.reduceLT, Int.reduceLE, Int.reduceAdd, Int.reduceSub, Int.reduceMul, Int.reduceNeg, Int.reduceToNat, UInt8.reduceToNat, natLit, ty3, ty4, ty9, ty29, ty85, ty102]
  rw [if_pos ⟨h60, hok⟩, ← path_join]
  rw [hok] at e3
  have hjl : (Lib.join ((xs.map segT).map (·.data.toList)) [47]).length ≤ 2097164 * 60 := by
    have h1 := path_len xs
    have h2 := pathB_sz xs hz
    omega
  simp (config := {contextual := true, maxSteps := 10000000, implicitDefEqProofs := false}) (disch := first | (and_intros <;> omega -splitDisjunctions) | (simp only [List.length_set, List.length_append, List.length_cons, List.length_nil]; and_intros <;> omega -splitDisjunctions) | fail) only [f0, f1, f2, f3, f4, f5, f6, t1, e3, Tryd.f38, go_sem, ↓reduceIte, Nat.reduceEqDiff, Nat.reduceAdd, Nat.reduceMul, Nat.reduceLT, Nat.reduceLeDiff, reduceCtorEq, Int.reduceNe, Int.reduceEq, Int.reduceLT, Int.reduceLE, Int.reduceAdd, Int.reduceSub, Int.reduceMul, Int.reduceNeg, Int.reduceToNat, UInt8.reduceToNat, natLit, ty3, ty4, ty9, ty29, ty85, ty102]
  refine at_loopE fun c R hc hR => ?_
  have key : ∀ (m : Nat) (i : Nat) (j : Int) (q : V) (B : LH) (ps : List ByteArray) (x2 x5 x13 x18 : Option V), xs.length - i < m → j = i → i ≤ xs.length → ps = (xs.take i).map segT → ps.length = i → Hx H B → Own H.length B strC 1 q ps →
      zEv (leaveX (mkR Tryd.prog cfg ok [0, 2, 3, 5, 13, 15, 16, 17, 18] H.length) .pure H [ResultVar.tmp 2]) (mkR Tryd.prog cfg ok [0, 2, 3, 5, 13, 15, 16, 17, 18] H.length) (K.code (Code.loop c) :: K.blk 0 :: R) .nrm [some v, x2, some q, x5, x13, some v, some (.int .i64 xs.length), some (.int .i64 j), x18] (B) = some (.str (⟨#[47]⟩ ++ ⟨(Lib.join ((xs.map segT).map (·.data.toList)) [47]).toArray⟩), H) := by
    intro m
    induction m with
    | zero => intro i j q B ps x2 x5 x13 x18 hm; omega
    | succ m ih =>
      intro i j q B ps x2 x5 x13 x18 hm hj hi hp hpl hx ho
      subst hj
      have hB := h.ext hx
      have hle := hx.len
      have o1 := (ho.at strC_len).isTup; have o2 := (ho.at strC_len).one
      have g1 := hB.isTup; have g2 := hB.len; have g3 := hB.lenOk ty29; have g0 := hB.one
      have g4 := fun hp => hB.con hp
      have g5 := hB.idx (T := ty Tryd.prog) (t := 29) (by simp only [elemI, sizeO, ty3, ty9, ty29, ty102])
      have g6 := hB.loadD sgC_len sg0
      by_cases hlt : i < xs.length
      · have g7 := fun K => g6 i hlt K
        have e4 := e2 (xs.getD i sg0) (by rw [getD_of hlt]; exact List.getElem_mem _)
        have hst : (xs.take (i + 1)).map segT = ps ++ [segT (xs.getD i sg0)] := by
          rw [List.take_add_one, List.getElem?_eq_getElem hlt, List.map_append, hp, getD_of hlt]; rfl
        generalize segT (xs.getD i sg0) = T at *
        generalize xs.getD i sg0 = s at *
        obtain ⟨b1, W1, a1, p1, q1⟩ := app_st (hx.trans (Hx.app (L := [.cells (sgC s)]))) (ho.ext (Hx.app (L := [.cells (sgC s)]))) (by omega) [.cells [.str T]] T
        simp only [List.append_assoc, List.cons_append, List.nil_append] at a1
        unfold sgC at g7 e4 a1
        have g6 := g7
        have t0 : ((i : Int) < xs.length) = True := eq_true (by omega)
        rw [zEv_round hc, ← hR]
        simp (config := {contextual := true, maxSteps := 10000000, implicitDefEqProofs := false}) (disch := first | (and_intros <;> omega -splitDisjunctions) | (simp only [List.length_set, List.length_append, List.length_cons, List.length_nil]; and_intros <;> omega -splitDisjunctions) | fail) only [g0, g1, g2, g3, g4, g5, g6, e4, a1, o1, o2, t0, hle, Tryd.f38, go_sem, ↓reduceIte, Nat.reduceEqDiff, Nat.reduceAdd, Nat.reduceMul, Nat.reduceLT, Nat.reduceLeDiff, reduceCtorEq, Int.reduceNe, Int.reduceEq, Int.reduceLT, Int.reduceLE, Int.reduceAdd, Int.reduceSub, Int.reduceMul, Int.reduceNeg, Int.reduceToNat, UInt8.reduceToNat, natLit, ty3, ty4, ty9, ty29, ty85, ty102]
        rw [hR]
        exact ih (i + 1) ((i : Int) + 1) _ W1 _ _ _ _ _ (by omega) (by omega) (by omega) hst.symm (by rw [List.length_append, hpl]; rfl) q1 p1
      · have t0 : ((i : Int) < xs.length) = False := eq_false (by omega)
        rw [List.take_of_length_le (by omega)] at hp
        have hjn := run_join ho ⟨#[47]⟩ (by omega) (by rw [hp]; exact Nat.le_trans hjl (by decide)) H.length
        rw [hp] at hjn
        have hjl2 : (⟨(Lib.join ((xs.map segT).map (·.data.toList)) [47]).toArray⟩ : ByteArray).size ≤ 2097164 * 60 := hjl
        have hjn : run 87 [q, .str ⟨#[47]⟩] H.length B = some (.str ⟨(Lib.join ((xs.map segT).map (·.data.toList)) [47]).toArray⟩, B) := hjn
        generalize (⟨(Lib.join ((xs.map segT).map (·.data.toList)) [47]).toArray⟩ : ByteArray) = J at *
        unfold run at hjn
        rw [zEv_round hc, ← hR]
        simp (config := {contextual := true, maxSteps := 10000000, implicitDefEqProofs := false}) (disch := first | (and_intros <;> omega -splitDisjunctions) | (simp only [List.length_set, List.length_append, List.length_cons, List.length_nil]; and_intros <;> omega -splitDisjunctions) | fail) only [t0, hjn, hjl2, o1, o2, Tryd.f38, go_sem, ↓reduceIte, Nat.reduceEqDiff, Nat.reduceAdd, Nat.reduceMul, Nat.reduceLT, Nat.reduceLeDiff, reduceCtorEq, Int.reduceNe, Int.reduceEq, Int.reduceLT, Int.reduceLE, Int.reduceAdd, Int.reduceSub, Int.reduceMul, Int.reduceNeg, Int.reduceToNat, UInt8.reduceToNat, natLit, ty3, ty4, ty9, ty29, ty85, ty102]
  have ho0 : Own H.length (H ++ [.cells []]) strC 1 (.sl H.length 0 1 0 0) ([] : List ByteArray) := .inr ⟨H.length, rfl, cellsAt_app0 _ _, Nat.le_refl _⟩
  exact key (xs.length + 1) 0 0 _ _ [] _ _ _ _ (by omega) rfl (Nat.zero_le _) rfl rfl Hx.app ho0
end Go.Proofs.YtcbjmggbbnpbpaaDoor.Lg
