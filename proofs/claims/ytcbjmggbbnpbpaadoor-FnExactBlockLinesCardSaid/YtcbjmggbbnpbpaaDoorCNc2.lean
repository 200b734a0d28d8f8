/- Nested events: what is in a collection, what an alias is, the roots, in the reference. No condition. -/
import Derived.Test.YtcbjmggbbnpbpaaDoorCNc1
namespace Go.Proofs.YtcbjmggbbnpbpaaDoor.Lg
set_option linter.unusedSimpArgs false
set_option linter.unusedVariables false
set_option maxRecDepth 100000
set_option maxHeartbeats 40000000
open Go.Proofs.YtcbjmggbbnpbpaaDoor

def inN (x : Nat) : List V := [.int .i64 x]
theorem inN_len (x : Nat) : (inN x).length = 1 := rfl
theorem run_l13Kids {v : V} {es : List Ev} {H : LH} (h : At H evC 8 v es) (hl : es.length ≤ 1048576) {i : Nat} (hi : i < es.length) (fl : Nat) :
    Ret (fun w H' => Hx H H' ∧ Own H.length H' inN 1 w (kidsF es i)) (run 46 [v, .int .i64 i] fl H) := by
  have n2 := fun e fl H => run_l13Coll e fl H
  rw [kidsF_A es i hi]
  have f1 := h.isTup; have f2 := h.len; have f3 := h.lenOk ty39; have f0 := h.one
  have f4 := fun L hp => (h.left (L := L)).con hp
  have f5 := h.idx (T := ty Tryd.prog) (t := 39) (by simp only [elemI, sizeO, ty3, ty4, ty9, ty39, ty65])
  have f6 := fun L => (h.left (L := L)).loadD evC_len evZ
  have f4 := fun L => h.ext (Hx.app (L := L)) |>.con (List.length_pos_iff.2 (by intro e; subst e; cases hi))
  have g6 := fun L K => f6 L i hi K
  unfold run at *
  rw [Run_z Tryd.func46 rfl (by rfl : ok 46 = true) (by rfl : cfg.keep 46 = [0, 1, 4, 5, 6, 7, 14, 28, 39]) (by rfl : cfg.mode 46 = .fresh) (by rfl : cfg.ord 46 = [])]
  by_cases hC : isC (evA es i)
  rotate_left
  · have d1 : decide (isC (es.getD i evZ)) = false := decide_eq_false hC
    simp (config := {contextual := true, maxSteps := 10000000, implicitDefEqProofs := false}) (disch := first | (and_intros <;> omega -splitDisjunctions) | (simp only [List.length_set, List.length_append, List.length_cons, List.length_nil]; and_intros <;> omega -splitDisjunctions) | fail) only [f0, f1, f2, f3, f4, f5, f6, g6, n2, d1, Tryd.f46, go_sem, ↓reduceIte, Nat.reduceEqDiff, Nat.reduceAdd, Nat.reduceMul, Nat.reduceLT, Nat.reduceLeDiff, reduceCtorEq, Int.reduceNe, Int.reduceEq, Int.reduceLT, Int.reduceLE, Int.reduceAdd, Int.reduceSub, Int.reduceMul, Int.reduceNeg, Int.reduceToNat, UInt8.reduceToNat, natLit, ty3, ty4, ty9, ty39, ty65, ty67]
    rw [if_neg hC]
    exact ⟨Hx.app, .inr ⟨H.length, rfl, by rw [cellsAt_app0]; rfl, Nat.le_refl _⟩⟩
  have d1 : decide (isC (es.getD i evZ)) = true := decide_eq_true hC
  simp (config := {contextual := true, maxSteps := 10000000, implicitDefEqProofs := false}) (disch := first | (and_intros <;> omega -splitDisjunctions) | (simp only [List.length_set, List.length_append, List.length_cons, List.length_nil]; and_intros <;> omega -splitDisjunctions) | fail) only [f0, f1, f2, f3, f4, f5, f6, g6, n2, d1, Tryd.f46, go_sem, ↓reduceIte, Nat.reduceEqDiff, Nat.reduceAdd, Nat.reduceMul, Nat.reduceLT, Nat.reduceLeDiff, reduceCtorEq, Int.reduceNe, Int.reduceEq, Int.reduceLT, Int.reduceLE, Int.reduceAdd, Int.reduceSub, Int.reduceMul, Int.reduceNeg, Int.reduceToNat, UInt8.reduceToNat, natLit, ty3, ty4, ty9, ty39, ty65, ty67]
  rw [if_pos hC]
  clear g6 f0 f1 f2 f3 f4 f5 f6
  refine at_loopR fun c R hc hR => ?_
  have key : ∀ (m : Nat) (k : Nat) (kk : Int) (o : V) (xs : List Nat) (B : LH) (x1 x4 x7 x14 x28 x39 : Option V), es.length + 1 - k < m → kk = k → k ≤ es.length → Hx H B → Own H.length B inN 1 o xs → xs.length ≤ k → xs ++ kidsA es k = kidsA es (i + 1) →
      Ret (fun w H' => Hx H H' ∧ Own H.length H' inN 1 w (kidsA es (i + 1))) (zEv (leaveX (mkR Tryd.prog cfg ok [0, 1, 4, 5, 6, 7, 14, 28, 39] H.length) .fresh H [ResultVar.tmp 4]) (mkR Tryd.prog cfg ok [0, 1, 4, 5, 6, 7, 14, 28, 39] H.length) (K.code (Code.loop c) :: K.blk 0 :: R) .nrm [some v, x1, x4, some o, some (.int .i64 kk), x7, x14, x28, x39] (B)) := by
    intro m
    induction m with
    | zero => intro k kk o xs B x1 x4 x7 x14 x28 x39 hm; omega
    | succ m ih =>
      intro k kk o xs B x1 x4 x7 x14 x28 x39 hm hk hkl hx ho hlx hfin
      subst hk
      have hlB := hx.len
      have o1 := (ho.at inN_len).isTup; have o2 := (ho.at inN_len).one
      have rB := h.ext hx
      have f1 := rB.isTup; have f2 := rB.len; have f3 := rB.lenOk ty39; have f0 := rB.one
      have f4 := fun hp => rB.con hp
      have f5 := rB.idx (T := ty Tryd.prog) (t := 39) (by simp only [elemI, sizeO, ty3, ty4, ty9, ty39, ty65])
      have f6 := rB.loadD evC_len evZ
      by_cases hlt : k < es.length
      rotate_left
      · have t1 : ((k : Int) < es.length) = False := eq_false (by omega)
        rw [kidsA_end es (by omega), List.append_nil] at hfin
        rw [zEv_round hc, ← hR]
        simp (config := {contextual := true, maxSteps := 10000000, implicitDefEqProofs := false}) (disch := first | (and_intros <;> omega -splitDisjunctions) | (simp only [List.length_set, List.length_append, List.length_cons, List.length_nil]; and_intros <;> omega -splitDisjunctions) | fail) only [t1, o1, o2, f0, f1, f2, f3, f4, f5, f6, Tryd.f46, go_sem, ↓reduceIte, Nat.reduceEqDiff, Nat.reduceAdd, Nat.reduceMul, Nat.reduceLT, Nat.reduceLeDiff, reduceCtorEq, Int.reduceNe, Int.reduceEq, Int.reduceLT, Int.reduceLE, Int.reduceAdd, Int.reduceSub, Int.reduceMul, Int.reduceNeg, Int.reduceToNat, UInt8.reduceToNat, natLit, ty3, ty4, ty9, ty39, ty65, ty67]
        rw [← hfin]
        exact ⟨hx, ho⟩
      have t1 : ((k : Int) < es.length) = True := eq_true (by omega)
      have g6 := f6 k hlt
      have n1 := fun fl H => run_l13Node (es.getD k evZ) fl H
      rw [kidsA_eq es hlt] at hfin
      by_cases hn : isN (evA es k)
      rotate_left
      · rw [decide_eq_false hn] at n1
        rw [if_neg hn, List.append_nil] at hfin
        unfold run at n1
        rw [zEv_round hc, ← hR]
        simp (config := {contextual := true, maxSteps := 10000000, implicitDefEqProofs := false}) (disch := first | (and_intros <;> omega -splitDisjunctions) | (simp only [List.length_set, List.length_append, List.length_cons, List.length_nil]; and_intros <;> omega -splitDisjunctions) | fail) only [t1, g6, n1, o1, o2, f0, f1, f2, f3, f4, f5, f6, Tryd.f46, go_sem, ↓reduceIte, Nat.reduceEqDiff, Nat.reduceAdd, Nat.reduceMul, Nat.reduceLT, Nat.reduceLeDiff, reduceCtorEq, Int.reduceNe, Int.reduceEq, Int.reduceLT, Int.reduceLE, Int.reduceAdd, Int.reduceSub, Int.reduceMul, Int.reduceNeg, Int.reduceToNat, UInt8.reduceToNat, natLit, ty3, ty4, ty9, ty39, ty65, ty67]
        rw [← hfin]
        exact ⟨hx, ho⟩
      rw [decide_eq_true hn] at n1
      rw [if_pos hn] at hfin
      have ap := fun L => app_own1 (fl := H.length) (ho.ext (Hx.app (L := L))) inN_len (Nat.le_refl _) 8 (by unfold mostCells; omega) k
      simp only [inN] at ap
      have hx2 : Hx H (killV (B ++ [Blk.cells [V.int .i64 (k : Int)]]) o ++ [.cells (rows inN (xs ++ [k]))]) := app_hx (hx.trans Hx.app) (ho.ext Hx.app) (Nat.le_refl _)
      have an := app_new (enc := inN) (z := 1) (v := o) (show H.length ≤ (B ++ [Blk.cells [V.int .i64 (k : Int)]]).length by rw [List.length_append]; omega) (xs ++ [k])
      have e1 := fun fl => run_l13End (h.ext hx2) hl hlt fl
      have hE := endF_rng es hlt
      have hE1 : -1 ≤ endF es k := by omega
      have hE2 : endF es k < es.length := by omega
      simp only [List.length_append, List.length_cons, List.length_nil, Nat.zero_add] at an
      unfold run at n1 e1
      rw [zEv_round hc, ← hR]
      simp (config := {contextual := true, maxSteps := 10000000, implicitDefEqProofs := false}) (disch := first | (and_intros <;> omega -splitDisjunctions) | (simp only [List.length_set, List.length_append, List.length_cons, List.length_nil]; and_intros <;> omega -splitDisjunctions) | fail) only [t1, g6, n1, o1, o2, ap, e1, f0, f1, f2, f3, f4, f5, f6, Tryd.f46, go_sem, ↓reduceIte, Nat.reduceEqDiff, Nat.reduceAdd, Nat.reduceMul, Nat.reduceLT, Nat.reduceLeDiff, reduceCtorEq, Int.reduceNe, Int.reduceEq, Int.reduceLT, Int.reduceLE, Int.reduceAdd, Int.reduceSub, Int.reduceMul, Int.reduceNeg, Int.reduceToNat, UInt8.reduceToNat, natLit, ty3, ty4, ty9, ty39, ty65, ty67]
      rw [hR]
      refine Ret_ite (fun hw => ?_) (fun hw => ?_)
      · rw [if_pos hw] at hfin
        rw [Ret_some, ← hfin]
        exact ⟨hx2, an⟩
      · rw [if_neg hw] at hfin
        exact ih (endF es k + 1).toNat (endF es k + 1) _ (xs ++ [k]) _ _ _ _ _ _ _ (by omega) (by omega) (by omega) hx2 an (by simp; omega) (by rw [List.append_assoc]; exact hfin)
  exact key (es.length + 1) (i + 1) ((i : Int) + 1) (.sl H.length 0 1 0 0) [] _ _ _ _ _ _ _ (by omega) (by omega) (by omega) Hx.app (.inr ⟨H.length, rfl, by rw [cellsAt_app0]; rfl, Nat.le_refl _⟩) (by simp) (by rw [List.nil_append])
theorem run_l13Def {v : V} {es : List Ev} {H : LH} (h : At H evC 8 v es) (hl : es.length ≤ 1048576) {i : Nat} (hi : i < es.length) (fl : Nat) :
    run 117 [v, .int .i64 i] fl H = some (.int .i64 (defF es i), H) := by
  have f1 := h.isTup; have f2 := h.len; have f3 := h.lenOk ty39; have f0 := h.one
  have f4 := fun hp => h.con hp
  have f5 := h.idx (T := ty Tryd.prog) (t := 39) (by simp only [elemI, sizeO, ty3, ty4, ty9, ty39, ty65])
  have f6 := h.loadD evC_len evZ
  have g3 := fun n K => h.loadDF evC_len evZ (fun e => .str e.text) (j := 3) (fun _ => rfl) i hi n K
  unfold defF
  generalize hT : (evA es i).text = T
  have g3 : ∀ n K, cellO K false (offV v + i * 8 + 3) n (some (conV H v)) = some (.str T, K) := fun n K => by rw [g3, ← hT]
  unfold run at *
  rw [Run_z Tryd.func117 rfl (by rfl : ok 117 = true) (by rfl : cfg.keep 117 = [0, 1, 4, 5, 6, 18, 46, 56]) (by rfl : cfg.mode 117 = .pure) (by rfl : cfg.ord 117 = [])]
  simp (config := {contextual := true, maxSteps := 10000000, implicitDefEqProofs := false}) (disch := first | (and_intros <;> omega -splitDisjunctions) | (simp only [List.length_set, List.length_append, List.length_cons, List.length_nil]; and_intros <;> omega -splitDisjunctions) | fail) only [f0, f1, f2, f3, f4, f5, f6, Tryd.f117, go_sem, ↓reduceIte, Nat.reduceEqDiff, Nat.reduceAdd, Nat.reduceMul, Nat.reduceLT, Nat.reduceLeDiff, reduceCtorEq, Int.reduceNe, Int.reduceEq, Int.reduceLT, Int.reduceLE, Int.reduceAdd, Int.reduceSub, Int.reduceMul, Int.reduceNeg, Int.reduceToNat, UInt8.reduceToNat, natLit, ty3, ty4, ty9, ty39, ty65]
  refine at_loopE fun c R hc hR => ?_
  have key : ∀ (m : Nat) (q : Nat) (kk : Int) (x4 x6 x18 x46 x56 : Option V), q < m → kk = q - 1 → q ≤ i →
      zEv (leaveX (mkR Tryd.prog cfg ok [0, 1, 4, 5, 6, 18, 46, 56] H.length) .pure H [ResultVar.tmp 4]) (mkR Tryd.prog cfg ok [0, 1, 4, 5, 6, 18, 46, 56] H.length) (K.code (Code.loop c) :: K.blk 0 :: R) .nrm [some v, some (.int .i64 i), x4, some (.int .i64 kk), x6, x18, x46, x56] (H) = some (.int .i64 (defGo es T i q), H) := by
    intro m
    induction m with
    | zero => intro q kk x4 x6 x18 x46 x56 hm; omega
    | succ m ih =>
      intro q kk x4 x6 x18 x46 x56 hm hk hq
      subst hk
      cases q with
      | zero =>
        rw [show (((0 : Nat) : Int) - 1) = -1 from rfl, zEv_round hc, ← hR]
        simp (config := {contextual := true, maxSteps := 10000000, implicitDefEqProofs := false}) (disch := first | (and_intros <;> omega -splitDisjunctions) | (simp only [List.length_set, List.length_append, List.length_cons, List.length_nil]; and_intros <;> omega -splitDisjunctions) | fail) only [f0, f1, f2, f3, f4, f5, f6, Tryd.f117, go_sem, ↓reduceIte, Nat.reduceEqDiff, Nat.reduceAdd, Nat.reduceMul, Nat.reduceLT, Nat.reduceLeDiff, reduceCtorEq, Int.reduceNe, Int.reduceEq, Int.reduceLT, Int.reduceLE, Int.reduceAdd, Int.reduceSub, Int.reduceMul, Int.reduceNeg, Int.reduceToNat, UInt8.reduceToNat, natLit, ty3, ty4, ty9, ty39, ty65]
        rfl
      | succ k =>
        have hlt : k < es.length := by omega
        have g0 := fun n K => h.loadD0 evC_len evZ (fun e => .int .i64 e.kind) (fun _ => rfl) k hlt n K
        have g4 := fun n K => h.loadDF evC_len evZ (fun e => .str e.anchor) (j := 4) (fun _ => rfl) k hlt n K
        have g6 := f6 k hlt
        have n1 := fun fl H => run_l13Node (es.getD k evZ) fl H
        have e1 := fun fl => run_l13End h hl hlt fl
        rw [show (((k + 1 : Nat) : Int) - 1) = (k : Int) by omega]
        have t1 : ((k : Int) ≥ 0) = True := eq_true (by omega)
        unfold run at n1 e1
        rw [zEv_round hc, ← hR]
        simp (config := {contextual := true, maxSteps := 10000000, implicitDefEqProofs := false}) (disch := first | (and_intros <;> omega -splitDisjunctions) | (simp only [List.length_set, List.length_append, List.length_cons, List.length_nil]; and_intros <;> omega -splitDisjunctions) | fail) only [t1, g0, g3, g4, g6, n1, e1, f0, f1, f2, f3, f4, f5, f6, Tryd.f117, go_sem, ↓reduceIte, Nat.reduceEqDiff, Nat.reduceAdd, Nat.reduceMul, Nat.reduceLT, Nat.reduceLeDiff, reduceCtorEq, Int.reduceNe, Int.reduceEq, Int.reduceLT, Int.reduceLE, Int.reduceAdd, Int.reduceSub, Int.reduceMul, Int.reduceNeg, Int.reduceToNat, UInt8.reduceToNat, natLit, ty3, ty4, ty9, ty39, ty65]
        rw [hR]
        unfold defGo
        refine ite_E (fun w => ?_) (fun w => ?_)
        · rw [if_pos w]
        rw [if_neg w]
        refine ite_E (fun w => ?_) (fun w => ?_)
        · rw [if_pos w]
          refine ite_E (fun w => ?_) (fun w => ?_)
          · rw [if_pos w]
          · rw [if_neg w]
        rw [if_neg (show ¬ (isN (evA es k) ∧ (evA es k).anchor ≠ ⟨#[]⟩ ∧ (evA es k).anchor = T) from w)]
        exact ih k ((k : Int) - 1) _ _ _ _ _ (by omega) rfl (by omega)
  exact key (i + 1) i ((i : Int) - 1) _ _ _ _ _ (by omega) rfl (Nat.le_refl _)
end Go.Proofs.YtcbjmggbbnpbpaaDoor.Lg
