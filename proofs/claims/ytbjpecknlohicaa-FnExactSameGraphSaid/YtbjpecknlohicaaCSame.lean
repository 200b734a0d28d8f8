/- SameGraph, both sides. No condition. -/
import Derived.Test.YtbjpecknlohicaaCGokLaw
namespace Go.Proofs.Ytbjpecknlohicaa.Lg
set_option linter.unusedSimpArgs false
set_option linter.unusedVariables false
set_option maxRecDepth 100000
set_option maxHeartbeats 40000000
open Go.Proofs.Ytbjpecknlohicaa

theorem run_eqInts (v w : V) (xs ys : List Int) (fl : Nat) (H : LH) (h : At H inC 1 v xs) (h' : At H inC 1 w ys) (hx : xs.length ≤ 1099511627776) (hy : ys.length ≤ 1099511627776) :
    run 83 [v, w] fl H = some (.bool (decide (xs = ys)), H) := by
  have f1 := h.isTup; have f2 := h.len; have f3 := h.lenOk ty55; have f0 := h.one
  have f4 := fun hp => h.con hp
  have f5 := h.idx (T := ty Try.prog) (t := 55) (by simp only [elemI, sizeO, ty3, ty55])
  have f6 := h.load1 0 (fun x => .int .i64 x) (fun _ => rfl)
  have g1 := h'.isTup; have g2 := h'.len; have g3 := h'.lenOk ty55; have g0 := h'.one
  have g4 := fun hp => h'.con hp
  have g5 := h'.idx (T := ty Try.prog) (t := 55) (by simp only [elemI, sizeO, ty3, ty55])
  have g6 := h'.load1 0 (fun x => .int .i64 x) (fun _ => rfl)
  unfold run at *
  rw [Run_z Try.func83 rfl (by rfl : ok 83 = true) (by rfl : cfg.keep 83 = [0, 1, 4, 5, 10, 12, 13, 14, 24]) (by rfl : cfg.mode 83 = .pure)]
  by_cases hl : xs.length = ys.length
  · simp (config := {contextual := true, maxSteps := 10000000, implicitDefEqProofs := false}) (disch := first | (and_intros <;> omega -splitDisjunctions) | (simp only [List.length_set, List.length_append, List.length_cons, List.length_nil]; and_intros <;> omega -splitDisjunctions) | fail) only [hl, f0, f1, f2, f3, f4, f5, f6, g0, g1, g2, g3, g4, g5, g6, Try.f83, go_sem, ↓reduceIte, Nat.reduceEqDiff, Nat.reduceAdd, Nat.reduceMul, Nat.reduceLT, Nat.reduceLeDiff, reduceCtorEq, Int.reduceNe, Int.reduceEq, Int.reduceLT, Int.reduceLE, Int.reduceAdd, Int.reduceSub, Int.reduceMul, Int.reduceNeg, Int.reduceToNat, UInt8.reduceToNat, natLit, ty3, ty55]
    refine at_loopE fun c R hc hR => ?_
    have key : ∀ (m : Nat) (j : Nat) (jj : Int) (x4 x5 x10 x14 x24 : Option V), xs.length - j < m → jj = j → j ≤ xs.length →
        zEv (leaveX (mkR Try.prog cfg ok [0, 1, 4, 5, 10, 12, 13, 14, 24] H.length) .pure H [ResultVar.tmp 4]) (mkR Try.prog cfg ok [0, 1, 4, 5, 10, 12, 13, 14, 24] H.length) (K.code (Code.loop c) :: K.blk 0 :: R) .nrm [some v, some w, x4, x5, x10, some (.int .i64 xs.length), some (.int .i64 jj), x14, x24] (H) = some (.bool (decide (xs.drop j = ys.drop j)), H) := by
      intro m
      induction m with
      | zero => intro j jj x4 x5 x10 x14 x24 hm; omega
      | succ m ih =>
        intro j jj x4 x5 x10 x14 x24 hm hj hle
        subst hj
        rw [zEv_round hc, ← hR]
        simp (config := {contextual := true, maxSteps := 10000000, implicitDefEqProofs := false}) (disch := first | (and_intros <;> omega -splitDisjunctions) | (simp only [List.length_set, List.length_append, List.length_cons, List.length_nil]; and_intros <;> omega -splitDisjunctions) | fail) only [f0, f1, f2, f3, f4, f5, f6, g0, g1, g2, g3, g4, g5, g6, Try.f83, go_sem, ↓reduceIte, Nat.reduceEqDiff, Nat.reduceAdd, Nat.reduceMul, Nat.reduceLT, Nat.reduceLeDiff, reduceCtorEq, Int.reduceNe, Int.reduceEq, Int.reduceLT, Int.reduceLE, Int.reduceAdd, Int.reduceSub, Int.reduceMul, Int.reduceNeg, Int.reduceToNat, UInt8.reduceToNat, natLit, ty3, ty55]
        rw [hR]
        refine ite_E (fun hlt => ?_) (fun hge => ?_)
        · have hlt : j < xs.length := by omega
          have hlt' : j < ys.length := by omega
          rw [List.drop_eq_getElem_cons hlt, List.drop_eq_getElem_cons hlt', ← getD_of hlt 0, ← getD_of hlt' 0]
          refine ite_E2 (fun hne => ?_) (fun he => ?_)
          · rw [decide_eq_false (fun e => hne (List.cons.inj e).1)]
          · refine (ih (j + 1) ((j : Int) + 1) _ _ _ _ _ (by omega) rfl (by omega)).trans ?_
            simp only [he, List.cons.injEq, true_and]
        · rw [List.drop_of_length_le (by omega), List.drop_of_length_le (by omega)]; rfl
    have := fun x4 x5 x10 x14 x24 => key (xs.length + 1) 0 0 x4 x5 x10 x14 x24 (by omega) rfl (by omega)
    simp only [List.drop_zero, hl] at this ⊢
    exact this _ _ _ _ _
  · have h2 : ¬ xs = ys := fun e => hl (by rw [e])
    have h3 : ¬ (xs.length : Int) = (ys.length : Int) := by omega
    simp (config := {contextual := true, maxSteps := 10000000, implicitDefEqProofs := false}) (disch := first | (and_intros <;> omega -splitDisjunctions) | (simp only [List.length_set, List.length_append, List.length_cons, List.length_nil]; and_intros <;> omega -splitDisjunctions) | fail) only [h2, h3, f0, f1, f2, f3, f4, f5, f6, g0, g1, g2, g3, g4, g5, g6, Try.f83, go_sem, ↓reduceIte, Nat.reduceEqDiff, Nat.reduceAdd, Nat.reduceMul, Nat.reduceLT, Nat.reduceLeDiff, reduceCtorEq, Int.reduceNe, Int.reduceEq, Int.reduceLT, Int.reduceLE, Int.reduceAdd, Int.reduceSub, Int.reduceMul, Int.reduceNeg, Int.reduceToNat, UInt8.reduceToNat, natLit, ty3, ty55]
theorem run_l15Ints (v w : V) (xs ys : List Int) (fl : Nat) (H : LH) (h : At H inC 1 v xs) (h' : At H inC 1 w ys) (hx : xs.length ≤ 1099511627776) (hy : ys.length ≤ 1099511627776) :
    run 80 [v, w] fl H = some (.bool (decide (xs = ys)), H) := by
  have f1 := h.isTup; have f2 := h.len; have f3 := h.lenOk ty55; have f0 := h.one
  have f4 := fun hp => h.con hp
  have f5 := h.idx (T := ty Try.prog) (t := 55) (by simp only [elemI, sizeO, ty3, ty55])
  have f6 := h.load1 0 (fun x => .int .i64 x) (fun _ => rfl)
  have g1 := h'.isTup; have g2 := h'.len; have g3 := h'.lenOk ty55; have g0 := h'.one
  have g4 := fun hp => h'.con hp
  have g5 := h'.idx (T := ty Try.prog) (t := 55) (by simp only [elemI, sizeO, ty3, ty55])
  have g6 := h'.load1 0 (fun x => .int .i64 x) (fun _ => rfl)
  unfold run at *
  rw [Run_z Try.func80 rfl (by rfl : ok 80 = true) (by rfl : cfg.keep 80 = [0, 1, 4, 5, 10, 12, 13, 14, 24]) (by rfl : cfg.mode 80 = .pure)]
  by_cases hl : xs.length = ys.length
  · simp (config := {contextual := true, maxSteps := 10000000, implicitDefEqProofs := false}) (disch := first | (and_intros <;> omega -splitDisjunctions) | (simp only [List.length_set, List.length_append, List.length_cons, List.length_nil]; and_intros <;> omega -splitDisjunctions) | fail) only [hl, f0, f1, f2, f3, f4, f5, f6, g0, g1, g2, g3, g4, g5, g6, Try.f80, go_sem, ↓reduceIte, Nat.reduceEqDiff, Nat.reduceAdd, Nat.reduceMul, Nat.reduceLT, Nat.reduceLeDiff, reduceCtorEq, Int.reduceNe, Int.reduceEq, Int.reduceLT, Int.reduceLE, Int.reduceAdd, Int.reduceSub, Int.reduceMul, Int.reduceNeg, Int.reduceToNat, UInt8.reduceToNat, natLit, ty3, ty55]
    refine at_loopE fun c R hc hR => ?_
    have key : ∀ (m : Nat) (j : Nat) (jj : Int) (x4 x5 x10 x14 x24 : Option V), xs.length - j < m → jj = j → j ≤ xs.length →
        zEv (leaveX (mkR Try.prog cfg ok [0, 1, 4, 5, 10, 12, 13, 14, 24] H.length) .pure H [ResultVar.tmp 4]) (mkR Try.prog cfg ok [0, 1, 4, 5, 10, 12, 13, 14, 24] H.length) (K.code (Code.loop c) :: K.blk 0 :: R) .nrm [some v, some w, x4, x5, x10, some (.int .i64 xs.length), some (.int .i64 jj), x14, x24] (H) = some (.bool (decide (xs.drop j = ys.drop j)), H) := by
      intro m
      induction m with
      | zero => intro j jj x4 x5 x10 x14 x24 hm; omega
      | succ m ih =>
        intro j jj x4 x5 x10 x14 x24 hm hj hle
        subst hj
        rw [zEv_round hc, ← hR]
        simp (config := {contextual := true, maxSteps := 10000000, implicitDefEqProofs := false}) (disch := first | (and_intros <;> omega -splitDisjunctions) | (simp only [List.length_set, List.length_append, List.length_cons, List.length_nil]; and_intros <;> omega -splitDisjunctions) | fail) only [f0, f1, f2, f3, f4, f5, f6, g0, g1, g2, g3, g4, g5, g6, Try.f80, go_sem, ↓reduceIte, Nat.reduceEqDiff, Nat.reduceAdd, Nat.reduceMul, Nat.reduceLT, Nat.reduceLeDiff, reduceCtorEq, Int.reduceNe, Int.reduceEq, Int.reduceLT, Int.reduceLE, Int.reduceAdd, Int.reduceSub, Int.reduceMul, Int.reduceNeg, Int.reduceToNat, UInt8.reduceToNat, natLit, ty3, ty55]
        rw [hR]
        refine ite_E (fun hlt => ?_) (fun hge => ?_)
        · have hlt : j < xs.length := by omega
          have hlt' : j < ys.length := by omega
          rw [List.drop_eq_getElem_cons hlt, List.drop_eq_getElem_cons hlt', ← getD_of hlt 0, ← getD_of hlt' 0]
          refine ite_E2 (fun hne => ?_) (fun he => ?_)
          · rw [decide_eq_false (fun e => hne (List.cons.inj e).1)]
          · refine (ih (j + 1) ((j : Int) + 1) _ _ _ _ _ (by omega) rfl (by omega)).trans ?_
            simp only [he, List.cons.injEq, true_and]
        · rw [List.drop_of_length_le (by omega), List.drop_of_length_le (by omega)]; rfl
    have := fun x4 x5 x10 x14 x24 => key (xs.length + 1) 0 0 x4 x5 x10 x14 x24 (by omega) rfl (by omega)
    simp only [List.drop_zero, hl] at this ⊢
    exact this _ _ _ _ _
  · have h2 : ¬ xs = ys := fun e => hl (by rw [e])
    have h3 : ¬ (xs.length : Int) = (ys.length : Int) := by omega
    simp (config := {contextual := true, maxSteps := 10000000, implicitDefEqProofs := false}) (disch := first | (and_intros <;> omega -splitDisjunctions) | (simp only [List.length_set, List.length_append, List.length_cons, List.length_nil]; and_intros <;> omega -splitDisjunctions) | fail) only [h2, h3, f0, f1, f2, f3, f4, f5, f6, g0, g1, g2, g3, g4, g5, g6, Try.f80, go_sem, ↓reduceIte, Nat.reduceEqDiff, Nat.reduceAdd, Nat.reduceMul, Nat.reduceLT, Nat.reduceLeDiff, reduceCtorEq, Int.reduceNe, Int.reduceEq, Int.reduceLT, Int.reduceLE, Int.reduceAdd, Int.reduceSub, Int.reduceMul, Int.reduceNeg, Int.reduceToNat, UInt8.reduceToNat, natLit, ty3, ty55]
theorem run_same1 (a b : NC) (n m : Nd) (fl : Nat) (H : LH) (ha : Rel1 H a n) (hb : Rel1 H b m) (h1 : n.kids.length ≤ 1099511627776) (h2 : m.kids.length ≤ 1099511627776) :
    run 82 [.agg (ncC a), .agg (ncC b)] fl H = some (.bool (decide (n = m)), H) := by
  have e1 := fun L fl => run_eqInts a.kv b.kv n.kids m.kids fl (H ++ L) ha.kids.left hb.kids.left h1 h2
  have k1 := ha.kind; have k2 := ha.tag; have k3 := ha.text
  have j1 := hb.kind; have j2 := hb.tag; have j3 := hb.text
  have f1 := ha.kids.isTup; have f2 := hb.kids.isTup
  obtain ⟨ck, ct, cx, kv⟩ := a
  obtain ⟨dk, dt, dx, dv⟩ := b
  dsimp only [ncC] at *
  subst k1; subst k2; subst k3; subst j1; subst j2; subst j3
  unfold run at *
  rw [Run_z Try.func82 rfl (by rfl : ok 82 = true) (by rfl : cfg.keep 82 = [0, 1, 2, 3, 4]) (by rfl : cfg.mode 82 = .pure)]
  simp (config := {contextual := true, maxSteps := 10000000, implicitDefEqProofs := false}) (disch := first | (and_intros <;> omega -splitDisjunctions) | (simp only [List.length_set, List.length_append, List.length_cons, List.length_nil]; and_intros <;> omega -splitDisjunctions) | fail) only [e1, f1, f2, Try.f82, go_sem, ↓reduceIte, Nat.reduceEqDiff, Nat.reduceAdd, Nat.reduceMul, Nat.reduceLT, Nat.reduceLeDiff, reduceCtorEq, Int.reduceNe, Int.reduceEq, Int.reduceLT, Int.reduceLE, Int.reduceAdd, Int.reduceSub, Int.reduceMul, Int.reduceNeg, Int.reduceToNat, UInt8.reduceToNat, natLit, ty3, ty9, ty55, ty100]
  obtain ⟨nk, nt, nx, nl⟩ := n
  obtain ⟨mk, mt, mx, ml⟩ := m
  simp only [Nd.mk.injEq]
  grind
theorem run_eqNds (v w : V) (ns ms : List Nd) (fl : Nat) (H : LH) (h : NAt H v ns) (h' : NAt H w ms) (hx : ns.length ≤ 1099511627776) (hy : ms.length ≤ 1099511627776)
    (kx : ∀ n ∈ ns, n.kids.length ≤ 1099511627776) (ky : ∀ n ∈ ms, n.kids.length ≤ 1099511627776) :
    run 81 [v, w, .fn 82 []] fl H = some (.bool (decide (ns = ms)), H) := by
  obtain ⟨cs, hA, hlen, hR⟩ := h
  obtain ⟨ds, hB, hlen', hR'⟩ := h'
  have e1 := fun i (hi : i < cs.length ∧ i < ds.length) fl L => run_same1 (cs.getD i nc0) (ds.getD i nc0) (ns.getD i nd0) (ms.getD i nd0) fl (H ++ L) ((hR i (by omega)).ext Hx.app) ((hR' i (by omega)).ext Hx.app) (by rw [getD_of (by omega)]; exact kx _ (List.getElem_mem _)) (by rw [getD_of (by omega)]; exact ky _ (List.getElem_mem _))
  have f1 := hA.isTup; have f2 := hA.len; have f3 := hA.lenOk ty60; have f0 := hA.one
  have f4 := fun L hp => (hA.left (L := L)).con hp
  have f5 := hA.idx (T := ty Try.prog) (t := 60) (by simp only [elemI, sizeO, ty3, ty9, ty55, ty60, ty100])
  have f6 := fun L => (hA.left (L := L)).loadD ncC_len nc0
  have g1 := hB.isTup; have g2 := hB.len; have g3 := hB.lenOk ty60; have g0 := hB.one
  have g4 := fun L hp => (hB.left (L := L)).con hp
  have g5 := hB.idx (T := ty Try.prog) (t := 60) (by simp only [elemI, sizeO, ty3, ty9, ty55, ty60, ty100])
  have g6 := fun L => (hB.left (L := L)).loadD ncC_len nc0
  unfold run at *
  simp only [ncC] at e1 f6 g6
  rw [Run_z Try.func81 rfl (by rfl : ok 81 = true) (by rfl : cfg.keep 81 = [0, 1, 2, 6, 7, 8, 9, 14, 15, 16, 17, 18, 30]) (by rfl : cfg.mode 81 = .pure)]
  by_cases hl : cs.length = ds.length
  · simp (config := {contextual := true, maxSteps := 10000000, implicitDefEqProofs := false}) (disch := first | (and_intros <;> omega -splitDisjunctions) | (simp only [List.length_set, List.length_append, List.length_cons, List.length_nil]; and_intros <;> omega -splitDisjunctions) | fail) only [hl, f0, f1, f2, f3, f4, f5, f6, g0, g1, g2, g3, g4, g5, g6, Try.f81, go_sem, ↓reduceIte, Nat.reduceEqDiff, Nat.reduceAdd, Nat.reduceMul, Nat.reduceLT, Nat.reduceLeDiff, reduceCtorEq, Int.reduceNe, Int.reduceEq, Int.reduceLT, Int.reduceLE, Int.reduceAdd, Int.reduceSub, Int.reduceMul, Int.reduceNeg, Int.reduceToNat, UInt8.reduceToNat, natLit, ty3, ty4, ty9, ty55, ty60, ty100]
    refine at_loopE fun c R hc hR => ?_
    have key : ∀ (m : Nat) (j : Nat) (jj : Int) (L : LH) (x6 x7 x8 x9 x14 x18 x30 : Option V), ns.length - j < m → jj = j → j ≤ ns.length →
        zEv (leaveX (mkR Try.prog cfg ok [0, 1, 2, 6, 7, 8, 9, 14, 15, 16, 17, 18, 30] H.length) .pure H [ResultVar.tmp 6]) (mkR Try.prog cfg ok [0, 1, 2, 6, 7, 8, 9, 14, 15, 16, 17, 18, 30] H.length) (K.code (Code.loop c) :: K.blk 0 :: R) .nrm [some v, some w, some (.fn 82 []), x6, x7, x8, x9, x14, some v, some (.int .i64 ns.length), some (.int .i64 jj), x18, x30] (H ++ L) = some (.bool (decide (ns.drop j = ms.drop j)), H) := by
      intro m
      induction m with
      | zero => intro j jj L x6 x7 x8 x9 x14 x18 x30 hm; omega
      | succ m ih =>
        intro j jj L x6 x7 x8 x9 x14 x18 x30 hm hj hle
        subst hj
        rw [zEv_round hc, ← hR]
        simp (config := {contextual := true, maxSteps := 10000000, implicitDefEqProofs := false}) (disch := first | (and_intros <;> omega -splitDisjunctions) | (simp only [List.length_set, List.length_append, List.length_cons, List.length_nil]; and_intros <;> omega -splitDisjunctions) | fail) only [e1, callV_fn, List.cons_append, List.nil_append, f0, f1, f2, f3, f4, f5, f6, g0, g1, g2, g3, g4, g5, g6, Try.f81, go_sem, ↓reduceIte, Nat.reduceEqDiff, Nat.reduceAdd, Nat.reduceMul, Nat.reduceLT, Nat.reduceLeDiff, reduceCtorEq, Int.reduceNe, Int.reduceEq, Int.reduceLT, Int.reduceLE, Int.reduceAdd, Int.reduceSub, Int.reduceMul, Int.reduceNeg, Int.reduceToNat, UInt8.reduceToNat, natLit, ty3, ty4, ty9, ty55, ty60, ty100]
        rw [hR]
        refine ite_E (fun hlt => ?_) (fun hge => ?_)
        · have hlt : j < ns.length := by omega
          have hlt' : j < ms.length := by omega
          rw [List.drop_eq_getElem_cons hlt, List.drop_eq_getElem_cons hlt', ← getD_of hlt nd0, ← getD_of hlt' nd0]
          refine ite_E2 (fun hne => ?_) (fun he => ?_)
          · rw [decide_eq_false (fun e => hne (List.cons.inj e).1)]
          · refine (ih (j + 1) ((j : Int) + 1) _ _ _ _ _ _ _ _ (by omega) rfl (by omega)).trans ?_
            simp only [he, List.cons.injEq, true_and]
        · rw [List.drop_of_length_le (by omega), List.drop_of_length_le (by omega)]; rfl
    have := fun x6 x7 x8 x9 x14 x18 x30 => key (ns.length + 1) 0 0 [] x6 x7 x8 x9 x14 x18 x30 (by omega) rfl (by omega)
    simp only [List.drop_zero, List.append_nil, ← hlen, hl] at this ⊢
    exact this _ _ _ _ _ _ _
  · have h2 : ¬ ns = ms := fun e => hl (by rw [hlen, hlen', e])
    have h3 : ¬ (cs.length : Int) = (ds.length : Int) := by omega
    simp (config := {contextual := true, maxSteps := 10000000, implicitDefEqProofs := false}) (disch := first | (and_intros <;> omega -splitDisjunctions) | (simp only [List.length_set, List.length_append, List.length_cons, List.length_nil]; and_intros <;> omega -splitDisjunctions) | fail) only [h2, h3, f0, f1, f2, f3, f4, f5, f6, g0, g1, g2, g3, g4, g5, g6, Try.f81, go_sem, ↓reduceIte, Nat.reduceEqDiff, Nat.reduceAdd, Nat.reduceMul, Nat.reduceLT, Nat.reduceLeDiff, reduceCtorEq, Int.reduceNe, Int.reduceEq, Int.reduceLT, Int.reduceLE, Int.reduceAdd, Int.reduceSub, Int.reduceMul, Int.reduceNeg, Int.reduceToNat, UInt8.reduceToNat, natLit, ty3, ty4, ty9, ty55, ty60, ty100]
end Go.Proofs.Ytbjpecknlohicaa.Lg
