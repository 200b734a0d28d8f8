/- Nested events: what is in a collection, the roots, whether all aliases are tied, in the program. No condition. -/
import Derived.Test.YtcbjmggbbnpbpaaDoorCNc3
import Derived.Test.YtcbjmggbbnpbpaaDoorCNc4
namespace Go.Proofs.YtcbjmggbbnpbpaaDoor.Lg
set_option linter.unusedSimpArgs false
set_option linter.unusedVariables false
set_option maxRecDepth 100000
set_option maxHeartbeats 40000000
open Go.Proofs.YtcbjmggbbnpbpaaDoor

/-- the tables of nested events -/
structure NsAt (H : LH) (v ve vu vd : V) (es : List Ev) : Prop where
  l : At H evC 8 v es
  e : At H inI 1 ve ((List.range es.length).map (endF es))
  u : At H inI 1 vu ((List.range es.length).map (upF es))
  d : At H inI 1 vd ((List.range es.length).map (fun i => (docGo es (i + 1) : Int)))
theorem NsAt.ext {H B : LH} {v ve vu vd : V} {es : List Ev} (h : NsAt H v ve vu vd es) (hx : Hx H B) : NsAt B v ve vu vd es := ⟨h.l.ext hx, h.e.ext hx, h.u.ext hx, h.d.ext hx⟩
theorem rangeD {n k : Nat} {f : Nat → Int} (h : k < n) : ((List.range n).map f).getD k 0 = f k := by
  rw [getD_of (by simpa using h)]; simp
theorem NsAt.endL {H : LH} {v ve vu vd : V} {es : List Ev} (h : NsAt H v ve vu vd es) {k : Nat} (hk : k < es.length) (n : Nat) (K : LH) : cellO K false (offV ve + k) n (some (conV H ve)) = some (.int .i64 (endF es k), K) := by
  have := h.e.load1 0 (fun x => .int .i64 x) (fun _ => rfl) k (by simpa using hk) n K
  rwa [rangeD hk] at this
theorem run_has {H : LH} {v ve vu vd : V} {es : List Ev} (h : NsAt H v ve vu vd es) (hl : es.length ≤ 1048576) (i : Int) (fl : Nat) :
    run 97 [.agg [v, ve, vu, vd], .int .i64 i] fl H = some (.bool (decide (0 ≤ i) && decide (i ≤ (es.length : Int) - 1)), H) := by
  have e1 := fun x lo hi fl H => run_within x lo hi fl H
  have i1 := h.l.isTup; have i2 := h.l.len; have i3 := h.l.lenOk ty39; have i4 := h.l.one
  have j1 := h.e.one; have j2 := h.u.one; have j3 := h.d.one
  have j4 := h.e.isTup; have j5 := h.u.isTup; have j6 := h.d.isTup
  unfold run at *
  rw [Run_z Tryd.func97 rfl (by rfl : ok 97 = true) (by rfl : cfg.keep 97 = [0, 1, 2, 4]) (by rfl : cfg.mode 97 = .pure) (by rfl : cfg.ord 97 = [])]
  simp (config := {contextual := true, maxSteps := 10000000, implicitDefEqProofs := false}) (disch := first | (and_intros <;> omega -splitDisjunctions) | (simp only [List.length_set, List.length_append, List.length_cons, List.length_nil]; and_intros <;> omega -splitDisjunctions) | fail) only [i1, i2, i3, i4, j1, j2, j3, j4, j5, j6, e1, Tryd.f97, go_sem, ↓reduceIte, Nat.reduceEqDiff, Nat.reduceAdd, Nat.reduceMul, Nat.reduceLT, Nat.reduceLeDiff, reduceCtorEq, Int.reduceNe, Int.reduceEq, Int.reduceLT, Int.reduceLE, Int.reduceAdd, Int.reduceSub, Int.reduceMul, Int.reduceNeg, Int.reduceToNat, UInt8.reduceToNat, natLit, ty3, ty4, ty9, ty39, ty65, ty67, ty71]
theorem run_kidsOf {H : LH} {v ve vu vd : V} {es : List Ev} (h : NsAt H v ve vu vd es) (hl : es.length ≤ 1048576) {i : Nat} (hi : i < es.length) (fl : Nat) :
    Ret (fun w H' => Hx H H' ∧ Own H.length H' inN 1 w (kidsF es i)) (run 51 [.agg [v, ve, vu, vd], .int .i64 i] fl H) := by
  have n2 := fun e fl H => run_isColl e fl H
  rw [kidsF_A es i hi]
  have e1 := fun L fl => run_has (h.ext (Hx.app (L := L))) hl i fl
  have j1 := h.e.one; have j2 := h.u.one; have j3 := h.d.one
  have j4 := h.e.isTup; have j5 := h.u.isTup; have j6 := h.d.isTup
  have hv := h.l
  have f1 := hv.isTup; have f2 := hv.len; have f3 := hv.lenOk ty39; have f0 := hv.one
  have f4 := fun L hp => (hv.left (L := L)).con hp
  have f5 := hv.idx (T := ty Tryd.prog) (t := 39) (by simp only [elemI, sizeO, ty3, ty4, ty9, ty39, ty65])
  have f6 := fun L => (hv.left (L := L)).loadD evC_len evZ
  have f4 := fun L => (h.ext (Hx.app (L := L))).l.con (List.length_pos_iff.2 (by intro e; subst e; cases hi))
  have g6 := fun L K => f6 L i hi K
  have t1 : ((i : Int) ≥ 0) = True := eq_true (by omega)
  have t2 : (0 ≤ (i : Int)) = True := eq_true (by omega)
  have t3 : ((i : Int) ≤ (es.length : Int) - 1) = True := eq_true (by omega)
  unfold run at *
  rw [Run_z Tryd.func51 rfl (by rfl : ok 51 = true) (by rfl : cfg.keep 51 = [0, 1, 2, 4, 5, 6, 20, 36, 48]) (by rfl : cfg.mode 51 = .fresh) (by rfl : cfg.ord 51 = [])]
  by_cases hC : isC (evA es i)
  rotate_left
  · have d1 : decide (isC (es.getD i evZ)) = false := decide_eq_false hC
    simp (config := {contextual := true, maxSteps := 10000000, implicitDefEqProofs := false}) (disch := first | (and_intros <;> omega -splitDisjunctions) | (simp only [List.length_set, List.length_append, List.length_cons, List.length_nil]; and_intros <;> omega -splitDisjunctions) | fail) only [f0, f1, f2, f3, f4, f5, f6, g6, n2, d1, e1, t2, t3, j1, j2, j3, j4, j5, j6, Tryd.f51, go_sem, ↓reduceIte, Nat.reduceEqDiff, Nat.reduceAdd, Nat.reduceMul, Nat.reduceLT, Nat.reduceLeDiff, reduceCtorEq, Int.reduceNe, Int.reduceEq, Int.reduceLT, Int.reduceLE, Int.reduceAdd, Int.reduceSub, Int.reduceMul, Int.reduceNeg, Int.reduceToNat, UInt8.reduceToNat, natLit, ty3, ty4, ty9, ty39, ty65, ty67, ty71]
    rw [if_neg hC]
    exact ⟨Hx.app, .inr ⟨H.length + 1, rfl, by rw [cellsAt_app]; rfl, by omega⟩⟩
  have d1 : decide (isC (es.getD i evZ)) = true := decide_eq_true hC
  simp (config := {contextual := true, maxSteps := 10000000, implicitDefEqProofs := false}) (disch := first | (and_intros <;> omega -splitDisjunctions) | (simp only [List.length_set, List.length_append, List.length_cons, List.length_nil]; and_intros <;> omega -splitDisjunctions) | fail) only [f0, f1, f2, f3, f4, f5, f6, g6, n2, d1, e1, t2, t3, j1, j2, j3, j4, j5, j6, Tryd.f51, go_sem, ↓reduceIte, Nat.reduceEqDiff, Nat.reduceAdd, Nat.reduceMul, Nat.reduceLT, Nat.reduceLeDiff, reduceCtorEq, Int.reduceNe, Int.reduceEq, Int.reduceLT, Int.reduceLE, Int.reduceAdd, Int.reduceSub, Int.reduceMul, Int.reduceNeg, Int.reduceToNat, UInt8.reduceToNat, natLit, ty3, ty4, ty9, ty39, ty65, ty67, ty71]
  rw [if_pos hC]
  clear g6 f0 f1 f2 f3 f4 f5 f6 e1 j1 j2 j3 hv
  refine at_loopR fun c R hc hR => ?_
  have key : ∀ (m : Nat) (k : Nat) (kk : Int) (o : V) (xs : List Nat) (B : LH) (x0 x1 x4 x20 x36 x48 : Option V), es.length + 1 - k < m → kk = k → k ≤ es.length → Hx H B → B.cellsAt H.length = some [v, ve, vu, vd] → Own (H.length + 1) B inN 1 o xs → xs.length ≤ k → xs ++ kidsA es k = kidsA es (i + 1) →
      Ret (fun w H' => Hx H H' ∧ Own H.length H' inN 1 w (kidsA es (i + 1))) (zEv (leaveX (mkR Tryd.prog cfg ok [0, 1, 2, 4, 5, 6, 20, 36, 48] H.length) .fresh H [ResultVar.tmp 4]) (mkR Tryd.prog cfg ok [0, 1, 2, 4, 5, 6, 20, 36, 48] H.length) (K.code (Code.loop c) :: K.blk 0 :: R) .nrm [x0, x1, some (.ptr H.length 0), x4, some o, some (.int .i64 kk), x20, x36, x48] (B)) := by
    intro m
    induction m with
    | zero => intro k kk o xs B x0 x1 x4 x20 x36 x48 hm; omega
    | succ m ih =>
      intro k kk o xs B x0 x1 x4 x20 x36 x48 hm hk hkl hx c2 ho hlx hfin
      subst hk
      have hlB := hx.len
      have o1 := (ho.at inN_len).isTup; have o2 := (ho.at inN_len).one
      have rN := h.ext hx
      have rB := rN.l
      have f1 := rB.isTup; have f2 := rB.len; have f3 := rB.lenOk ty39; have f0 := rB.one
      have f4 := fun hp => rB.con hp
      have f5 := rB.idx (T := ty Tryd.prog) (t := 39) (by simp only [elemI, sizeO, ty3, ty4, ty9, ty39, ty65])
      have f6 := rB.loadD evC_len evZ
      by_cases hlt : k < es.length
      rotate_left
      · have t1 : ((k : Int) < es.length) = False := eq_false (by omega)
        rw [kidsA_end es (by omega), List.append_nil] at hfin
        rw [zEv_round hc, ← hR]
        simp (config := {contextual := true, maxSteps := 10000000, implicitDefEqProofs := false}) (disch := first | (and_intros <;> omega -splitDisjunctions) | (simp only [List.length_set, List.length_append, List.length_cons, List.length_nil]; and_intros <;> omega -splitDisjunctions) | fail) only [t1, c2, o1, o2, f0, f1, f2, f3, f4, f5, f6, Tryd.f51, go_sem, ↓reduceIte, Nat.reduceEqDiff, Nat.reduceAdd, Nat.reduceMul, Nat.reduceLT, Nat.reduceLeDiff, reduceCtorEq, Int.reduceNe, Int.reduceEq, Int.reduceLT, Int.reduceLE, Int.reduceAdd, Int.reduceSub, Int.reduceMul, Int.reduceNeg, Int.reduceToNat, UInt8.reduceToNat, natLit, ty3, ty4, ty9, ty39, ty65, ty67, ty71]
        rw [← hfin]
        exact ⟨hx, ho.down (by omega)⟩
      have t1 : ((k : Int) < es.length) = True := eq_true (by omega)
      have g6 := f6 k hlt
      have n1 := fun fl H => run_isNode (es.getD k evZ) fl H
      rw [kidsA_eq es hlt] at hfin
      by_cases hn : isN (evA es k)
      rotate_left
      · rw [decide_eq_false hn] at n1
        rw [if_neg hn, List.append_nil] at hfin
        unfold run at n1
        rw [zEv_round hc, ← hR]
        simp (config := {contextual := true, maxSteps := 10000000, implicitDefEqProofs := false}) (disch := first | (and_intros <;> omega -splitDisjunctions) | (simp only [List.length_set, List.length_append, List.length_cons, List.length_nil]; and_intros <;> omega -splitDisjunctions) | fail) only [t1, c2, g6, n1, o1, o2, f0, f1, f2, f3, f4, f5, f6, Tryd.f51, go_sem, ↓reduceIte, Nat.reduceEqDiff, Nat.reduceAdd, Nat.reduceMul, Nat.reduceLT, Nat.reduceLeDiff, reduceCtorEq, Int.reduceNe, Int.reduceEq, Int.reduceLT, Int.reduceLE, Int.reduceAdd, Int.reduceSub, Int.reduceMul, Int.reduceNeg, Int.reduceToNat, UInt8.reduceToNat, natLit, ty3, ty4, ty9, ty39, ty65, ty67, ty71]
        rw [← hfin]
        exact ⟨hx, ho.down (by omega)⟩
      rw [decide_eq_true hn] at n1
      rw [if_pos hn] at hfin
      have ap := fun L => app_own1 (fl := H.length) (ho.ext (Hx.app (L := L))) inN_len (by omega) 8 (by unfold mostCells; omega) k
      simp only [inN] at ap
      have hx2 : Hx H (killV (B ++ [Blk.cells [V.int .i64 (k : Int)]]) o ++ [.cells (rows inN (xs ++ [k]))]) := app_hx (hx.trans Hx.app) (ho.ext Hx.app) (by omega)
      have c3 : LH.cellsAt (killV (B ++ [Blk.cells [V.int .i64 (k : Int)]]) o ++ [.cells (rows inN (xs ++ [k]))]) H.length = some [v, ve, vu, vd] := app_old (cellsAt_left c2) (ho.ext Hx.app) (by omega) _
      have an := app_new (enc := inN) (z := 1) (v := o) (show H.length + 1 ≤ (B ++ [Blk.cells [V.int .i64 (k : Int)]]).length by rw [List.length_append, List.length_singleton]; omega) (xs ++ [k])
      have hE := endF_rng es hlt
      have hE1 : -1 ≤ endF es k := by omega
      have hE2 : endF es k < es.length := by omega
      have rM := h.ext hx2
      have s1 := fun n K => rM.endL hlt n K
      have s2 := rM.e.isTup; have s3 := rM.e.len; have s4 := rM.e.one; have s5 := rM.e.con (by simp; omega); have s6 := rM.e.idx (T := ty Tryd.prog) (t := 67) (by simp only [elemI, sizeO, ty3, ty67])
      simp only [List.length_map, List.length_range] at s3 s6
      simp only [List.length_append, List.length_cons, List.length_nil, Nat.zero_add] at an
      unfold run at n1
      rw [zEv_round hc, ← hR]
      simp (config := {contextual := true, maxSteps := 10000000, implicitDefEqProofs := false}) (disch := first | (and_intros <;> omega -splitDisjunctions) | (simp only [List.length_set, List.length_append, List.length_cons, List.length_nil]; and_intros <;> omega -splitDisjunctions) | fail) only [t1, c2, c3, g6, n1, o1, o2, ap, s1, s2, s3, s4, s5, s6, f0, f1, f2, f3, f4, f5, f6, Tryd.f51, go_sem, ↓reduceIte, Nat.reduceEqDiff, Nat.reduceAdd, Nat.reduceMul, Nat.reduceLT, Nat.reduceLeDiff, reduceCtorEq, Int.reduceNe, Int.reduceEq, Int.reduceLT, Int.reduceLE, Int.reduceAdd, Int.reduceSub, Int.reduceMul, Int.reduceNeg, Int.reduceToNat, UInt8.reduceToNat, natLit, ty3, ty4, ty9, ty39, ty65, ty67, ty71]
      rw [hR]
      refine Ret_ite (fun hw => ?_) (fun hw => ?_)
      · rw [if_pos hw] at hfin
        rw [← hfin]
        exact Ret_some ▸ ⟨hx2, an.down (by omega)⟩
      · rw [if_neg hw] at hfin
        exact ih (endF es k + 1).toNat (endF es k + 1) _ (xs ++ [k]) _ _ _ _ _ _ _ (by omega) (by omega) (by omega) hx2 c3 an (by simp; omega) (by rw [List.append_assoc]; exact hfin)
  exact key (es.length + 1) (i + 1) ((i : Int) + 1) (.sl (H.length + 1) 0 1 0 0) [] _ _ _ _ _ _ _ (by omega) (by omega) (by omega) Hx.app (by rw [cellsAt_app0]; rfl) (.inr ⟨H.length + 1, rfl, by rw [cellsAt_app]; rfl, Nat.le_refl _⟩) (by simp) (by rw [List.nil_append])
theorem run_roots {H : LH} {v ve vu vd : V} {es : List Ev} (h : NsAt H v ve vu vd es) (hl : es.length ≤ 1048576) (hn : nestedM es = true) (fl : Nat) :
    Ret (fun w H' => Hx H H' ∧ Own H.length H' inN 1 w (rootsF es)) (run 56 [.agg [v, ve, vu, vd]] fl H) := by
  have j1 := h.e.one; have j2 := h.u.one; have j3 := h.d.one; have j0 := h.l.one
  have j4 := h.e.isTup; have j5 := h.u.isTup; have j6 := h.d.isTup
  have i1 := h.l.isTup; have i2 := h.l.len; have i3 := h.l.lenOk ty39
  unfold run
  rw [Run_z Tryd.func56 rfl (by rfl : ok 56 = true) (by rfl : cfg.keep 56 = [0, 1, 2, 3, 4, 5, 8, 9, 10, 11, 26]) (by rfl : cfg.mode 56 = .fresh) (by rfl : cfg.ord 56 = [])]
  simp (config := {contextual := true, maxSteps := 10000000, implicitDefEqProofs := false}) (disch := first | (and_intros <;> omega -splitDisjunctions) | (simp only [List.length_set, List.length_append, List.length_cons, List.length_nil]; and_intros <;> omega -splitDisjunctions) | fail) only [i1, i2, i3, j0, j1, j2, j3, j4, j5, j6, Tryd.f56, go_sem, ↓reduceIte, Nat.reduceEqDiff, Nat.reduceAdd, Nat.reduceMul, Nat.reduceLT, Nat.reduceLeDiff, reduceCtorEq, Int.reduceNe, Int.reduceEq, Int.reduceLT, Int.reduceLE, Int.reduceAdd, Int.reduceSub, Int.reduceMul, Int.reduceNeg, Int.reduceToNat, UInt8.reduceToNat, natLit, ty3, ty4, ty9, ty39, ty65, ty67, ty71]
  refine at_loopR fun c R hc hR => ?_
  have key : ∀ (m : Nat) (k : Nat) (kk : Int) (o : V) (xs : List Nat) (B : LH) (x0 x2 x4 x5 x11 x26 : Option V), es.length - k < m → kk = k → k ≤ es.length → Hx H B → B.cellsAt H.length = some [v, ve, vu, vd] → Own (H.length + 1) B inN 1 o xs → xs.length ≤ k → xs ++ ((List.range es.length).drop k).filter (rootB es) = rootsF es →
      Ret (fun w H' => Hx H H' ∧ Own H.length H' inN 1 w (rootsF es)) (zEv (leaveX (mkR Tryd.prog cfg ok [0, 1, 2, 3, 4, 5, 8, 9, 10, 11, 26] H.length) .fresh H [ResultVar.tmp 2]) (mkR Tryd.prog cfg ok [0, 1, 2, 3, 4, 5, 8, 9, 10, 11, 26] H.length) (K.code (Code.loop c) :: K.blk 0 :: R) .nrm [x0, some (.ptr H.length 0), x2, some o, x4, x5, some v, some (.int .i64 es.length), some (.int .i64 kk), x11, x26] (B)) := by
    intro m
    induction m with
    | zero => intro k kk o xs B x0 x2 x4 x5 x11 x26 hm; omega
    | succ m ih =>
      intro k kk o xs B x0 x2 x4 x5 x11 x26 hm hk hkl hx c2 ho hlx hfin
      subst hk
      have hlB := hx.len
      have o1 := (ho.at inN_len).isTup; have o2 := (ho.at inN_len).one
      by_cases hlt : k < es.length
      rotate_left
      · have t1 : ((k : Int) < es.length) = False := eq_false (by omega)
        rw [range_end (by omega), List.filter_nil, List.append_nil] at hfin
        rw [zEv_round hc, ← hR]
        simp (config := {contextual := true, maxSteps := 10000000, implicitDefEqProofs := false}) (disch := first | (and_intros <;> omega -splitDisjunctions) | (simp only [List.length_set, List.length_append, List.length_cons, List.length_nil]; and_intros <;> omega -splitDisjunctions) | fail) only [t1, o1, o2, Tryd.f56, go_sem, ↓reduceIte, Nat.reduceEqDiff, Nat.reduceAdd, Nat.reduceMul, Nat.reduceLT, Nat.reduceLeDiff, reduceCtorEq, Int.reduceNe, Int.reduceEq, Int.reduceLT, Int.reduceLE, Int.reduceAdd, Int.reduceSub, Int.reduceMul, Int.reduceNeg, Int.reduceToNat, UInt8.reduceToNat, natLit, ty3, ty4, ty9, ty39, ty65, ty67, ty71]
        rw [← hfin]
        exact ⟨hx, ho.down (by omega)⟩
      have t1 : ((k : Int) < es.length) = True := eq_true (by omega)
      have rB := (h.ext hx).l
      have f1 := rB.isTup; have f2 := rB.len; have f3 := rB.lenOk ty39; have f0 := rB.one
      have f4 := fun hp => rB.con hp
      have f5 := rB.idx (T := ty Tryd.prog) (t := 39) (by simp only [elemI, sizeO, ty3, ty4, ty9, ty39, ty65])
      have f6 := rB.loadD evC_len evZ
      have g6 := f6 k hlt
      have n1 := fun fl H => run_isNode (es.getD k evZ) fl H
      have hcl := cellsAt_lt c2
      rw [range_drop hlt, List.filter_cons] at hfin
      have hfin : xs ++ (if rootB es k = true then k :: ((List.range es.length).drop (k + 1)).filter (rootB es) else ((List.range es.length).drop (k + 1)).filter (rootB es)) = rootsF es := hfin
      have c2E : ∀ L, LH.cellsAt (B ++ L) H.length = some [v, ve, vu, vd] := fun L => cellsAt_left c2
      cases k with
      | zero =>
        have hb : ¬ (rootB es 0 = true) := by simp [rootB]
        have t1 : ((0 : Int) < es.length) = True := eq_true (by omega)
        rw [if_neg hb] at hfin
        have h1 := (nestedM_ok hn).2.1
        have h0 : decide (isN (es.getD 0 evZ)) = false := decide_eq_false (by unfold isN; have : (es.getD 0 evZ).kind = 1 := h1; omega)
        rw [h0] at n1
        simp only [Nat.zero_mul, Nat.add_zero] at g6
        unfold run evC at *
        rw [zEv_round hc, ← hR]
        simp (config := {contextual := true, maxSteps := 10000000, implicitDefEqProofs := false}) (disch := first | (and_intros <;> omega -splitDisjunctions) | (simp only [List.length_set, List.length_append, List.length_cons, List.length_nil]; and_intros <;> omega -splitDisjunctions) | fail) only [t1, g6, n1, o1, o2, c2E, f0, f1, f2, f3, f4, f5, f6, Tryd.f56, go_sem, ↓reduceIte, Nat.reduceEqDiff, Nat.reduceAdd, Nat.reduceMul, Nat.reduceLT, Nat.reduceLeDiff, reduceCtorEq, Int.reduceNe, Int.reduceEq, Int.reduceLT, Int.reduceLE, Int.reduceAdd, Int.reduceSub, Int.reduceMul, Int.reduceNeg, Int.reduceToNat, UInt8.reduceToNat, natLit, ty3, ty4, ty9, ty39, ty65, ty67, ty71]
        rw [hR]
        exact ih 1 1 o xs _ _ _ _ _ _ _ (by omega) rfl (by omega) (hx.trans Hx.app) (c2E _) (ho.ext Hx.app) (by omega) hfin
      | succ k =>
        have t2 : (((k + 1 : Nat) : Int) - 1) = (k : Int) := by omega
        have t4 : (((k + 1 : Nat) : Int) - 1).toNat = k := by omega
        have g0 := fun L n K => (rB.ext (Hx.app (L := L))).loadD0 evC_len evZ (fun e => .int .i64 e.kind) (fun _ => rfl) k (by omega) n K
        have f4L := fun L => (rB.ext (Hx.app (L := L))).con (List.length_pos_iff.2 (by intro e; subst e; cases hlt))
        have ap := fun L => app_own1 (fl := H.length) (ho.ext (Hx.app (L := L))) inN_len (by omega) 8 (by unfold mostCells; omega) (k + 1)
        simp only [inN] at ap
        have hx2 : ∀ L M, Hx H (killV (B ++ L) o ++ M) := fun L M => app_hx (hx.trans Hx.app) (ho.ext Hx.app) (by omega)
        have c3 : ∀ L M, LH.cellsAt (killV (B ++ L) o ++ M) H.length = some [v, ve, vu, vd] := fun L M => app_old (cellsAt_left c2) (ho.ext Hx.app) (by omega) _
        have an := fun L : LH => app_new (H := B ++ L) (enc := inN) (z := 1) (v := o) (show H.length + 1 ≤ (B ++ L).length by rw [List.length_append]; omega) (xs ++ [k + 1])
        simp only [List.length_append, List.length_cons, List.length_nil, Nat.zero_add] at an
        unfold run evC at *
        rw [zEv_round hc, ← hR]
        simp (config := {contextual := true, maxSteps := 10000000, implicitDefEqProofs := false}) (disch := first | (and_intros <;> omega -splitDisjunctions) | (simp only [List.length_set, List.length_append, List.length_cons, List.length_nil]; and_intros <;> omega -splitDisjunctions) | fail) only [t1, t2, t4, g0, g6, f4L, n1, ap, o1, o2, c2E, f0, f1, f2, f3, f4, f5, f6, Tryd.f56, go_sem, ↓reduceIte, Nat.reduceEqDiff, Nat.reduceAdd, Nat.reduceMul, Nat.reduceLT, Nat.reduceLeDiff, reduceCtorEq, Int.reduceNe, Int.reduceEq, Int.reduceLT, Int.reduceLE, Int.reduceAdd, Int.reduceSub, Int.reduceMul, Int.reduceNeg, Int.reduceToNat, UInt8.reduceToNat, natLit, ty3, ty4, ty9, ty39, ty65, ty67, ty71]
        rw [hR]
        refine Ret_ite (fun w => ?_) (fun w => ?_)
        · have hb : rootB es (k + 1) = true := decide_eq_true ⟨Nat.succ_pos _, w.2, w.1⟩
          rw [if_pos hb] at hfin
          exact ih (k + 1 + 1) (((k + 1 : Nat) : Int) + 1) _ (xs ++ [k + 1]) _ _ _ _ _ _ _ (by omega) (by omega) (by omega) (hx2 _ _) (c3 _ _) (an _) (by simp; omega) (by rw [List.append_assoc]; exact hfin)
        · have hb : ¬ (rootB es (k + 1) = true) := fun h => w ⟨(of_decide_eq_true h).2.2, (of_decide_eq_true h).2.1⟩
          rw [if_neg hb] at hfin
          exact ih (k + 1 + 1) (((k + 1 : Nat) : Int) + 1) o xs _ _ _ _ _ _ _ (by omega) (by omega) (by omega) (hx.trans Hx.app) (c2E _) (ho.ext Hx.app) (by omega) hfin
  exact key (es.length + 1) 0 0 (.sl (H.length + 1) 0 1 0 0) [] _ _ _ _ _ _ _ (by omega) rfl (by omega) Hx.app (by rw [cellsAt_app0]; rfl) (.inr ⟨H.length + 1, rfl, by rw [cellsAt_app]; rfl, Nat.le_refl _⟩) (by simp) (by rw [List.nil_append, List.drop_zero]; rfl)
end Go.Proofs.YtcbjmggbbnpbpaaDoor.Lg
