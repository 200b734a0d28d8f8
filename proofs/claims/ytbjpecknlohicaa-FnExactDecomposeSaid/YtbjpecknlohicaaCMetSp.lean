/- Shared, both sides. No condition. -/
import Derived.Test.YtbjpecknlohicaaCMet
namespace Go.Proofs.Ytbjpecknlohicaa.Lg
set_option linter.unusedSimpArgs false
set_option linter.unusedVariables false
set_option maxRecDepth 100000
set_option maxHeartbeats 40000000
open Go.Proofs.Ytbjpecknlohicaa

theorem run_imShared (nv rv : V) (g : Gr) (fl : Nat) (H : LH) (h : GAt H nv rv g) (hw : grW g ≤ 1048576) :
    Ret (fun w H' => Hx H H' ∧ Own H.length H' inC 1 w (shG g)) (run 47 [.agg [nv, rv]] fl H) := by
  have hbd := grW_bnd hw
  have e0 := fun L fl => run_imOk nv rv g fl (H ++ L) (h.ext Hx.app) hw
  have f1 := h.1.isTup; have f2 := h.2.isTup; have f3 := h.1.one; have f4 := h.2.one
  unfold run at *
  rw [Run_z Try.func47 rfl (by rfl : ok 47 = true) (by rfl : cfg.keep 47 = [0, 1, 2, 3, 4, 5, 9, 12, 13, 14, 15, 20]) (by rfl : cfg.mode 47 = .fresh)]
  simp (config := {contextual := true, maxSteps := 10000000, implicitDefEqProofs := false}) (disch := first | (and_intros <;> omega -splitDisjunctions) | (simp only [List.length_set, List.length_append, List.length_cons, List.length_nil]; and_intros <;> omega -splitDisjunctions) | fail) only [e0, f1, f2, f3, f4, Try.f47, go_sem, ↓reduceIte, Nat.reduceEqDiff, Nat.reduceAdd, Nat.reduceMul, Nat.reduceLT, Nat.reduceLeDiff, reduceCtorEq, Int.reduceNe, Int.reduceEq, Int.reduceLT, Int.reduceLE, Int.reduceAdd, Int.reduceSub, Int.reduceMul, Int.reduceNeg, Int.reduceToNat, UInt8.reduceToNat, natLit, ty3, ty4, ty9, ty55, ty60, ty62, ty100]
  unfold shG
  refine Ret_ite (fun w => ?_) (fun w => ?_)
  · rw [if_neg (by rw [w]; simp), Ret_some]
    exact ⟨Hx.app, .inr ⟨H.length + 1, rfl, by rw [cellsAt_app]; rfl, by omega⟩⟩
  have w : imOk g = true := by simpa using w
  rw [if_pos w]
  have hg := grOk w (fun n hn => by have := hbd.2.2 n hn; omega)
  have hN := hg.few
  clear e0
  have e1 := fun fl => run_timesMet nv rv g fl (H ++ [.cells [nv, rv], .cells []]) (h.ext Hx.app) hg (by omega)
  unfold run at e1
  refine zS_call (e1 _) ?_
  rintro v G ⟨rfl, L, hGe⟩
  have hG : LH.cellsAt G (H.length + 3) = some (rows inC (tm g)) := by rw [hGe, List.append_assoc, cellsAt_app]; rfl
  have hO : LH.cellsAt G (H.length + 1) = some [] := by rw [hGe, List.append_assoc, cellsAt_app]; rfl
  have hGx : Hx H G := by rw [hGe, List.append_assoc]; exact Hx.app
  have ltm := tm_len g
  simp (config := {contextual := true, maxSteps := 10000000, implicitDefEqProofs := false}) (disch := first | (and_intros <;> omega -splitDisjunctions) | (simp only [List.length_set, List.length_append, List.length_cons, List.length_nil]; and_intros <;> omega -splitDisjunctions) | fail) only [Try.f47, go_sem, ↓reduceIte, Nat.reduceEqDiff, Nat.reduceAdd, Nat.reduceMul, Nat.reduceLT, Nat.reduceLeDiff, reduceCtorEq, Int.reduceNe, Int.reduceEq, Int.reduceLT, Int.reduceLE, Int.reduceAdd, Int.reduceSub, Int.reduceMul, Int.reduceNeg, Int.reduceToNat, UInt8.reduceToNat, natLit, ty3, ty4, ty9, ty55, ty60, ty62, ty100]
  refine at_loopR fun c5 R5 hc5 hR5 => ?_
  have key5 : ∀ (m : Nat) (j : Nat) (jj : Int) (o : V) (xs : List Int) (A : LH) (x0 x1 x2 x4 x5 x9 x15 x20 : Option V), g.nodes.length - j < m → jj = j → j ≤ g.nodes.length → Hx H A → Own (H.length + 1) A inC 1 o xs → blkV o ≠ (H.length + 3) → LH.cellsAt A (H.length + 3) = some (rows inC (tm g)) → xs.length ≤ j → xs ++ shIdx ((tm g).drop j) j = shIdx (tm g) 0 →
      Ret (fun w H' => Hx H H' ∧ Own H.length H' inC 1 w (shIdx (tm g) 0)) (zEv (leaveX (mkR Try.prog cfg ok [0, 1, 2, 3, 4, 5, 9, 12, 13, 14, 15, 20] H.length) .fresh H [ResultVar.tmp 2]) (mkR Try.prog cfg ok [0, 1, 2, 3, 4, 5, 9, 12, 13, 14, 15, 20] H.length) (K.code (Code.loop c5) :: K.blk 0 :: R5) .nrm [x0, x1, x2, some o, x4, x5, x9, some (.sl (H.length + 3) 0 1 g.nodes.length g.nodes.length), some (.int .i64 g.nodes.length), some (.int .i64 jj), x15, x20] (A)) := by
    intro m
    induction m with
    | zero => intro j jj o xs A x0 x1 x2 x4 x5 x9 x15 x20 hm; omega
    | succ m ih5 =>
      intro j jj o xs A x0 x1 x2 x4 x5 x9 x15 x20 hm hj hle hx ho hne c4 hlx hfin
      subst hj
      have c5 := cellsAt_lt c4
      have c6 : (rows inC (tm g)).length = g.nodes.length := by rw [rows_len inC_len]; have := tm_len g; omega
      have ltm := tm_len g
      have o1 := (ho.at inC_len).isTup; have o2 := (ho.at inC_len).one
      have ap := fun x L => app_own1 (fl := H.length) (ho.ext (Hx.app (L := L))) inC_len (by omega) 8 (by unfold mostCells; omega) x
      simp only [inC] at ap
      by_cases hlt : j < g.nodes.length
      · have t1 : ((j : Int) < g.nodes.length) = True := eq_true (by omega)
        have hlt2 : j < (tm g).length := by omega
        have q1 := fun n K => cell_inC hlt2 n K
        rw [List.drop_eq_getElem_cons hlt2, ← getD_of hlt2 0] at hfin
        simp only [shIdx] at hfin
        rw [zEv_round hc5]
        simp (config := {contextual := true, maxSteps := 10000000, implicitDefEqProofs := false}) (disch := first | (and_intros <;> omega -splitDisjunctions) | (simp only [List.length_set, List.length_append, List.length_cons, List.length_nil]; and_intros <;> omega -splitDisjunctions) | fail) only [t1, c4, c6, q1, ap, o1, o2, Try.f47, go_sem, ↓reduceIte, Nat.reduceEqDiff, Nat.reduceAdd, Nat.reduceMul, Nat.reduceLT, Nat.reduceLeDiff, reduceCtorEq, Int.reduceNe, Int.reduceEq, Int.reduceLT, Int.reduceLE, Int.reduceAdd, Int.reduceSub, Int.reduceMul, Int.reduceNeg, Int.reduceToNat, UInt8.reduceToNat, natLit, ty3, ty4, ty9, ty55, ty60, ty62, ty100]
        refine Ret_ite (fun hw => ?_) (fun hw => ?_)
        · rw [if_pos hw] at hfin
          have hA2 : (A ++ [Blk.cells [V.int .i64 (j : Int)]]).length = A.length + 1 := by simp
          have an := app_new (enc := inC) (z := 1) (v := o) (show H.length + 1 ≤ (A ++ [Blk.cells [V.int .i64 (j : Int)]]).length by omega) (xs ++ [(j : Int)])
          simp only [List.length_append, List.length_cons, List.length_nil, Nat.zero_add] at an
          exact ih5 (j + 1) ((j : Int) + 1) (.sl (A.length + 1) 0 1 (xs.length + 1) (xs.length + 1)) (xs ++ [(j : Int)]) (killV (A ++ [.cells [.int .i64 (j : Int)]]) o ++ [.cells (rows inC (xs ++ [(j : Int)]))]) _ _ _ _ _ _ _ _ (by omega) rfl (by omega) (app_hx (hx.trans Hx.app) (ho.ext Hx.app) (by omega)) an (by simp only [blkV]; omega) (app_ne (cellsAt_left c4) hne _) (by rw [List.length_append]; simp; omega) (by rw [List.append_assoc]; exact hfin)
        · rw [if_neg hw] at hfin
          exact ih5 (j + 1) ((j : Int) + 1) o xs A _ _ _ _ _ _ _ _ (by omega) rfl (by omega) hx ho hne c4 (by omega) hfin
      · have t1 : ((j : Int) < g.nodes.length) = False := eq_false (by omega)
        rw [zEv_round hc5, ← hR5]
        simp (config := {contextual := true, maxSteps := 10000000, implicitDefEqProofs := false}) (disch := first | (and_intros <;> omega -splitDisjunctions) | (simp only [List.length_set, List.length_append, List.length_cons, List.length_nil]; and_intros <;> omega -splitDisjunctions) | fail) only [t1, o1, o2, Try.f47, go_sem, ↓reduceIte, Nat.reduceEqDiff, Nat.reduceAdd, Nat.reduceMul, Nat.reduceLT, Nat.reduceLeDiff, reduceCtorEq, Int.reduceNe, Int.reduceEq, Int.reduceLT, Int.reduceLE, Int.reduceAdd, Int.reduceSub, Int.reduceMul, Int.reduceNeg, Int.reduceToNat, UInt8.reduceToNat, natLit, ty3, ty4, ty9, ty55, ty60, ty62, ty100]
        rw [List.drop_of_length_le (by omega)] at hfin
        simp only [shIdx, List.append_nil] at hfin
        rw [← hfin]
        exact ⟨hx, ho.down (by omega)⟩
  exact key5 (g.nodes.length + 1) 0 0 (.sl (H.length + 1) 0 1 0 0) [] G _ _ _ _ _ _ _ _ (by omega) rfl (by omega) hGx (.inr ⟨H.length + 1, rfl, hO, by omega⟩) (by simp only [blkV]; omega) hG (by simp) (by rw [List.drop_zero, List.nil_append]; rfl)
theorem run_spShared (nv rv : V) (g : Gr) (fl : Nat) (H : LH) (h : GAt H nv rv g) (hw : grW g ≤ 1048576) :
    Ret (fun w H' => Hx H H' ∧ Own H.length H' inC 1 w (shG g)) (run 46 [.agg [nv, rv]] fl H) := by
  have hbd := grW_bnd hw
  have hr : g.roots.length ≤ 1048576 := by omega
  have e0 := fun L fl => run_spOk nv rv g fl (H ++ L) (h.ext Hx.app) hw
  obtain ⟨⟨cs, hA, hlen, hRl⟩, hB⟩ := h
  have f1 := hA.isTup; have f2 := hA.len; have f3 := hA.lenOk ty60; have f0 := hA.one
  have f4 := fun L hp => (hA.left (L := L)).con hp
  have f5 := hA.idx (T := ty Try.prog) (t := 60) (by simp only [elemI, sizeO, ty3, ty9, ty55, ty60, ty100])
  have f6 := fun L => (hA.left (L := L)).loadD ncC_len nc0
  have r1 := hB.isTup; have r2 := hB.len; have r3 := hB.lenOk ty55; have r0 := hB.one
  have r4 := fun L hp => (hB.left (L := L)).con hp
  have r5 := hB.idx (T := ty Try.prog) (t := 55) (by simp only [elemI, sizeO, ty3, ty55])
  have r6 := fun L => (hB.left (L := L)).load1 0 (fun x => .int .i64 x) (fun _ => rfl)
  rw [hlen] at f2
  unfold run at *
  rw [Run_z Try.func46 rfl (by rfl : ok 46 = true) (by rfl : cfg.keep 46 = [0, 1, 2, 3, 4, 6, 8, 10, 11, 15, 22, 23, 24, 25, 36, 37, 38, 39, 43, 44, 45, 46, 58, 59, 60, 66]) (by rfl : cfg.mode 46 = .fresh)]
  simp (config := {contextual := true, maxSteps := 10000000, implicitDefEqProofs := false}) (disch := first | (and_intros <;> omega -splitDisjunctions) | (simp only [List.length_set, List.length_append, List.length_cons, List.length_nil]; and_intros <;> omega -splitDisjunctions) | fail) only [e0, f0, f1, f2, f3, f4, f5, f6, r0, r1, r2, r3, r4, r5, r6, Try.f46, go_sem, ↓reduceIte, Nat.reduceEqDiff, Nat.reduceAdd, Nat.reduceMul, Nat.reduceLT, Nat.reduceLeDiff, reduceCtorEq, Int.reduceNe, Int.reduceEq, Int.reduceLT, Int.reduceLE, Int.reduceAdd, Int.reduceSub, Int.reduceMul, Int.reduceNeg, Int.reduceToNat, UInt8.reduceToNat, natLit, ty3, ty4, ty9, ty55, ty60, ty62, ty100]
  unfold shG
  refine Ret_ite (fun w => ?_) (fun w => ?_)
  · rw [if_neg (by rw [w]; simp), Ret_some]
    exact ⟨Hx.app, .inr ⟨H.length + 1, rfl, by rw [cellsAt_app]; rfl, by omega⟩⟩
  have w : imOk g = true := by simpa using w
  rw [if_pos w]
  have hg := grOk w (fun n hn => by have := hbd.2.2 n hn; omega)
  have hN := hg.few
  clear e0
  rw [show (List.replicate g.nodes.length [V.int IntKind.i64 0]).flatten = rows inC (List.replicate g.nodes.length 0) from (rows_replicate (enc := inC)).symm]
  refine at_loopR fun c R hc hR => ?_
  have key : ∀ (P : Option (V × LH) → Prop) (hk : ∀  (x0 x2 x6 x8 x10 x11 x15 x22 x23 x24 x25 x36 x37 x38 x39 x43 x44 x45 x46 x58 x59 x60 x66 : Option V), P (zEv (leaveX (mkR Try.prog cfg ok [0, 1, 2, 3, 4, 6, 8, 10, 11, 15, 22, 23, 24, 25, 36, 37, 38, 39, 43, 44, 45, 46, 58, 59, 60, 66] H.length) .fresh H [ResultVar.tmp 2]) (mkR Try.prog cfg ok [0, 1, 2, 3, 4, 6, 8, 10, 11, 15, 22, 23, 24, 25, 36, 37, 38, 39, 43, 44, 45, 46, 58, 59, 60, 66] H.length) R .nrm [x0, some (.ptr H.length 0), x2, some (.sl (H.length + 1) 0 1 0 0), some (.sl (H.length + 2) 0 1 g.nodes.length g.nodes.length), x6, x8, x10, x11, x15, x22, x23, x24, x25, x36, x37, x38, x39, x43, x44, x45, x46, x58, x59, x60, x66] (H ++ [.cells [nv, rv], .cells [], .cells (rows inC (g.roots.foldl bump (List.replicate g.nodes.length 0)))])))
      (m : Nat) (j : Nat) (jj : Int) (ts : List Int) (x0 x2 x6 x8 x10 x11 x15 x25 x36 x37 x38 x39 x43 x44 x45 x46 x58 x59 x60 x66 : Option V), g.roots.length - j < m → jj = j → j ≤ g.roots.length → Cnt g.nodes.length j ts → (g.roots.drop j).foldl bump ts = g.roots.foldl bump (List.replicate g.nodes.length 0) →
      P (zEv (leaveX (mkR Try.prog cfg ok [0, 1, 2, 3, 4, 6, 8, 10, 11, 15, 22, 23, 24, 25, 36, 37, 38, 39, 43, 44, 45, 46, 58, 59, 60, 66] H.length) .fresh H [ResultVar.tmp 2]) (mkR Try.prog cfg ok [0, 1, 2, 3, 4, 6, 8, 10, 11, 15, 22, 23, 24, 25, 36, 37, 38, 39, 43, 44, 45, 46, 58, 59, 60, 66] H.length) (K.code (Code.loop c) :: K.blk 0 :: R) .nrm [x0, some (.ptr H.length 0), x2, some (.sl (H.length + 1) 0 1 0 0), some (.sl (H.length + 2) 0 1 g.nodes.length g.nodes.length), x6, x8, x10, x11, x15, some rv, some (.int .i64 g.roots.length), some (.int .i64 jj), x25, x36, x37, x38, x39, x43, x44, x45, x46, x58, x59, x60, x66] (H ++ [.cells [nv, rv], .cells [], .cells (rows inC ts)])) := by
    intro P hk m
    induction m with
    | zero => intro j jj ts x0 x2 x6 x8 x10 x11 x15 x25 x36 x37 x38 x39 x43 x44 x45 x46 x58 x59 x60 x66 hm; omega
    | succ m ih =>
      intro j jj ts x0 x2 x6 x8 x10 x11 x15 x25 x36 x37 x38 x39 x43 x44 x45 x46 x58 x59 x60 x66 hm hj hle hcn hfin
      subst hj
      by_cases hlt : j < g.roots.length
      · have t1 : ((j : Int) < g.roots.length) = True := eq_true (by omega)
        have hk0 := hg.roots _ (List.getElem_mem hlt)
        rw [← getD_of hlt 0] at hk0
        have hl2 := hcn.len
        have hkn : (g.roots.getD j 0).toNat < ts.length := by have := hcn.len; omega
        have q1 : (rows inC ts).length = g.nodes.length := by rw [rows_len inC_len]; have := hcn.len; omega
        have q2 := fun w => set_inC hkn w
        have q3 := fun n K => cell_inC hkn n K
        have q4 := hcn.lo (g.roots.getD j 0).toNat
        have q5 := hcn.hi (g.roots.getD j 0).toNat
        rw [zEv_round hc]
        simp (config := {contextual := true, maxSteps := 10000000, implicitDefEqProofs := false}) (disch := first | (and_intros <;> omega -splitDisjunctions) | (simp only [List.length_set, List.length_append, List.length_cons, List.length_nil]; and_intros <;> omega -splitDisjunctions) | fail) only [t1, q1, q2, q3, f0, f1, f2, f3, f4, f5, f6, r0, r1, r2, r3, r4, r5, r6, Try.f46, go_sem, ↓reduceIte, Nat.reduceEqDiff, Nat.reduceAdd, Nat.reduceMul, Nat.reduceLT, Nat.reduceLeDiff, reduceCtorEq, Int.reduceNe, Int.reduceEq, Int.reduceLT, Int.reduceLE, Int.reduceAdd, Int.reduceSub, Int.reduceMul, Int.reduceNeg, Int.reduceToNat, UInt8.reduceToNat, natLit, ty3, ty4, ty9, ty55, ty60, ty62, ty100]
        refine ih (j + 1) ((j : Int) + 1) (bump ts (g.roots.getD j 0)) _ _ _ _ _ _ _ _ _ _ _ _ _ _ _ _ _ _ _ _ (by omega) rfl (by omega) (by rw [show ((j + 1 : Nat) : Int) = (j : Int) + 1 by omega]; exact hcn.bump _) ?_
        rw [← hfin, List.drop_eq_getElem_cons hlt, getD_of hlt, List.foldl_cons]
      · have t1 : ((j : Int) < g.roots.length) = False := eq_false (by omega)
        rw [zEv_round hc]
        simp (config := {contextual := true, maxSteps := 10000000, implicitDefEqProofs := false}) (disch := first | (and_intros <;> omega -splitDisjunctions) | (simp only [List.length_set, List.length_append, List.length_cons, List.length_nil]; and_intros <;> omega -splitDisjunctions) | fail) only [t1, f0, f1, f2, f3, f4, f5, f6, r0, r1, r2, r3, r4, r5, r6, Try.f46, go_sem, ↓reduceIte, Nat.reduceEqDiff, Nat.reduceAdd, Nat.reduceMul, Nat.reduceLT, Nat.reduceLeDiff, reduceCtorEq, Int.reduceNe, Int.reduceEq, Int.reduceLT, Int.reduceLE, Int.reduceAdd, Int.reduceSub, Int.reduceMul, Int.reduceNeg, Int.reduceToNat, UInt8.reduceToNat, natLit, ty3, ty4, ty9, ty55, ty60, ty62, ty100]
        rw [List.drop_of_length_le (by omega), List.foldl_nil] at hfin
        rw [hfin]
        exact hk _ _ _ _ _ _ _ _ _ _ _ _ _ _ _ _ _ _ _ _ _ _ _
  refine key (Ret _) (fun x0 x2 x6 x8 x10 x11 x15 x22 x23 x24 x25 x36 x37 x38 x39 x43 x44 x45 x46 x58 x59 x60 x66 => ?_) (g.roots.length + 1) 0 0 (List.replicate g.nodes.length 0) _ _ _ _ _ _ _ _ _ _ _ _ _ _ _ _ _ _ _ _ (by omega) rfl (by omega) Cnt.zero (by rw [List.drop_zero])
  clear key
  rw [← hR]
  have hT0 : Cnt g.nodes.length 1048576 (g.roots.foldl bump (List.replicate g.nodes.length 0)) := (Cnt.fold g.roots Cnt.zero).mono (by omega)
  have htm : tm g = tmN (g.roots.foldl bump (List.replicate g.nodes.length 0)) g.nodes := rfl
  generalize g.roots.foldl bump (List.replicate g.nodes.length 0) = T0 at *
  simp (config := {contextual := true, maxSteps := 10000000, implicitDefEqProofs := false}) (disch := first | (and_intros <;> omega -splitDisjunctions) | (simp only [List.length_set, List.length_append, List.length_cons, List.length_nil]; and_intros <;> omega -splitDisjunctions) | fail) only [f0, f1, f2, f3, f4, f5, f6, r0, r1, r2, r3, r4, r5, r6, Try.f46, go_sem, ↓reduceIte, Nat.reduceEqDiff, Nat.reduceAdd, Nat.reduceMul, Nat.reduceLT, Nat.reduceLeDiff, reduceCtorEq, Int.reduceNe, Int.reduceEq, Int.reduceLT, Int.reduceLE, Int.reduceAdd, Int.reduceSub, Int.reduceMul, Int.reduceNeg, Int.reduceToNat, UInt8.reduceToNat, natLit, ty3, ty4, ty9, ty55, ty60, ty62, ty100]
  clear hR hc
  refine at_loopR fun c2 R2 hc2 hR2 => ?_
  have key2 : ∀ (P : Option (V × LH) → Prop) (hk2 : ∀ (L : LH) (x0 x2 x6 x8 x10 x11 x15 x22 x23 x24 x25 x36 x37 x38 x39 x43 x44 x45 x46 x58 x59 x60 x66 : Option V), P (zEv (leaveX (mkR Try.prog cfg ok [0, 1, 2, 3, 4, 6, 8, 10, 11, 15, 22, 23, 24, 25, 36, 37, 38, 39, 43, 44, 45, 46, 58, 59, 60, 66] H.length) .fresh H [ResultVar.tmp 2]) (mkR Try.prog cfg ok [0, 1, 2, 3, 4, 6, 8, 10, 11, 15, 22, 23, 24, 25, 36, 37, 38, 39, 43, 44, 45, 46, 58, 59, 60, 66] H.length) R2 .nrm [x0, some (.ptr H.length 0), x2, some (.sl (H.length + 1) 0 1 0 0), some (.sl (H.length + 2) 0 1 g.nodes.length g.nodes.length), x6, x8, x10, x11, x15, x22, x23, x24, x25, x36, x37, x38, x39, x43, x44, x45, x46, x58, x59, x60, x66] (H ++ .cells [nv, rv] :: .cells [] :: .cells (rows inC (tmN T0 g.nodes)) :: L)))
      (m : Nat) (j : Nat) (jj : Int) (ts : List Int) (L : LH) (x0 x2 x6 x8 x10 x11 x15 x22 x23 x24 x25 x39 x43 x44 x45 x46 x58 x59 x60 x66 : Option V), g.nodes.length - j < m → jj = j → j ≤ g.nodes.length → Cnt g.nodes.length (1048576 + 1048576 * j) ts → tmN ts (g.nodes.drop j) = tmN T0 g.nodes →
      P (zEv (leaveX (mkR Try.prog cfg ok [0, 1, 2, 3, 4, 6, 8, 10, 11, 15, 22, 23, 24, 25, 36, 37, 38, 39, 43, 44, 45, 46, 58, 59, 60, 66] H.length) .fresh H [ResultVar.tmp 2]) (mkR Try.prog cfg ok [0, 1, 2, 3, 4, 6, 8, 10, 11, 15, 22, 23, 24, 25, 36, 37, 38, 39, 43, 44, 45, 46, 58, 59, 60, 66] H.length) (K.code (Code.loop c2) :: K.blk 2 :: R2) .nrm [x0, some (.ptr H.length 0), x2, some (.sl (H.length + 1) 0 1 0 0), some (.sl (H.length + 2) 0 1 g.nodes.length g.nodes.length), x6, x8, x10, x11, x15, x22, x23, x24, x25, some nv, some (.int .i64 g.nodes.length), some (.int .i64 jj), x39, x43, x44, x45, x46, x58, x59, x60, x66] (H ++ .cells [nv, rv] :: .cells [] :: .cells (rows inC ts) :: L)) := by
    intro P hk2 m
    induction m with
    | zero => intro j jj ts L x0 x2 x6 x8 x10 x11 x15 x22 x23 x24 x25 x39 x43 x44 x45 x46 x58 x59 x60 x66 hm; omega
    | succ m ih2 =>
      intro j jj ts L x0 x2 x6 x8 x10 x11 x15 x22 x23 x24 x25 x39 x43 x44 x45 x46 x58 x59 x60 x66 hm hj hle hcn hfin
      subst hj
      by_cases hlt : j < g.nodes.length
      · have t1 : ((j : Int) < g.nodes.length) = True := eq_true (by omega)
        have hk0 := hg.kids _ (List.getElem_mem hlt)
        rw [← getD_of hlt nd0] at hk0
        have hl2 := hcn.len
        have hB2 := (hRl j hlt).kids
        have hfin2 : tmN ((g.nodes.getD j nd0).kids.foldl bump ts) (g.nodes.drop (j + 1)) = tmN T0 g.nodes := by
          rw [← hfin, List.drop_eq_getElem_cons hlt, getD_of hlt]; rfl
        generalize hkv : (cs.getD j nc0).kv = kv at hB2
        generalize (g.nodes.getD j nd0).kids = ks at *
        have k1 := hB2.isTup; have k2 := hB2.len; have k3 := hB2.lenOk ty55; have k0 := hB2.one
        have k4 := fun L hp => (hB2.left (L := L)).con hp
        have k5 := hB2.idx (T := ty Try.prog) (t := 55) (by simp only [elemI, sizeO, ty3, ty55])
        have k6 := fun L => (hB2.left (L := L)).load1 0 (fun x => .int .i64 x) (fun _ => rfl)
        simp only [ncC] at f6
        rw [zEv_round hc2]
        simp (config := {contextual := true, maxSteps := 10000000, implicitDefEqProofs := false}) (disch := first | (and_intros <;> omega -splitDisjunctions) | (simp only [List.length_set, List.length_append, List.length_cons, List.length_nil]; and_intros <;> omega -splitDisjunctions) | fail) only [t1, hkv, f0, f1, f2, f3, f4, f5, f6, r0, r1, r2, r3, r4, r5, r6, k0, k1, k2, k3, k4, k5, k6, Try.f46, go_sem, ↓reduceIte, Nat.reduceEqDiff, Nat.reduceAdd, Nat.reduceMul, Nat.reduceLT, Nat.reduceLeDiff, reduceCtorEq, Int.reduceNe, Int.reduceEq, Int.reduceLT, Int.reduceLE, Int.reduceAdd, Int.reduceSub, Int.reduceMul, Int.reduceNeg, Int.reduceToNat, UInt8.reduceToNat, natLit, ty3, ty4, ty9, ty55, ty60, ty62, ty100]
        refine at_loopP fun c3 R3 hc3 hR3 => ?_
        have key3 : ∀ (P : Option (V × LH) → Prop) (hk3 : ∀ (M : LH) (x0 x2 x6 x8 x10 x11 x15 x22 x23 x24 x25 x39 x43 x44 x45 x46 x58 x59 x60 x66 : Option V), P (zEv (leaveX (mkR Try.prog cfg ok [0, 1, 2, 3, 4, 6, 8, 10, 11, 15, 22, 23, 24, 25, 36, 37, 38, 39, 43, 44, 45, 46, 58, 59, 60, 66] H.length) .fresh H [ResultVar.tmp 2]) (mkR Try.prog cfg ok [0, 1, 2, 3, 4, 6, 8, 10, 11, 15, 22, 23, 24, 25, 36, 37, 38, 39, 43, 44, 45, 46, 58, 59, 60, 66] H.length) R3 .nrm [x0, some (.ptr H.length 0), x2, some (.sl (H.length + 1) 0 1 0 0), some (.sl (H.length + 2) 0 1 g.nodes.length g.nodes.length), x6, x8, x10, x11, x15, x22, x23, x24, x25, some nv, some (.int .i64 g.nodes.length), some (.int .i64 (j : Int)), x39, x43, x44, x45, x46, x58, x59, x60, x66] (H ++ .cells [nv, rv] :: .cells [] :: .cells (rows inC (ks.foldl bump ts)) :: M)))
            (m : Nat) (i : Nat) (ii : Int) (us : List Int) (M : LH) (x0 x2 x6 x8 x10 x11 x15 x22 x23 x24 x25 x39 x46 x58 x59 x60 x66 : Option V), ks.length - i < m → ii = i → i ≤ ks.length → Cnt g.nodes.length (1048576 + 1048576 * j + i) us → (ks.drop i).foldl bump us = ks.foldl bump ts →
            P (zEv (leaveX (mkR Try.prog cfg ok [0, 1, 2, 3, 4, 6, 8, 10, 11, 15, 22, 23, 24, 25, 36, 37, 38, 39, 43, 44, 45, 46, 58, 59, 60, 66] H.length) .fresh H [ResultVar.tmp 2]) (mkR Try.prog cfg ok [0, 1, 2, 3, 4, 6, 8, 10, 11, 15, 22, 23, 24, 25, 36, 37, 38, 39, 43, 44, 45, 46, 58, 59, 60, 66] H.length) (K.code (Code.loop c3) :: K.blk 4 :: R3) .nrm [x0, some (.ptr H.length 0), x2, some (.sl (H.length + 1) 0 1 0 0), some (.sl (H.length + 2) 0 1 g.nodes.length g.nodes.length), x6, x8, x10, x11, x15, x22, x23, x24, x25, some nv, some (.int .i64 g.nodes.length), some (.int .i64 (j : Int)), x39, some kv, some (.int .i64 ks.length), some (.int .i64 ii), x46, x58, x59, x60, x66] (H ++ .cells [nv, rv] :: .cells [] :: .cells (rows inC us) :: M)) := by
          intro P hk3 m
          induction m with
          | zero => intro i ii us M x0 x2 x6 x8 x10 x11 x15 x22 x23 x24 x25 x39 x46 x58 x59 x60 x66 hm; omega
          | succ m ih3 =>
            intro i ii us M x0 x2 x6 x8 x10 x11 x15 x22 x23 x24 x25 x39 x46 x58 x59 x60 x66 hm hi hie hcm hfi
            subst hi
            by_cases hlt2 : i < ks.length
            · have t2 : ((i : Int) < ks.length) = True := eq_true (by omega)
              have hk1 := hk0.2 _ (List.getElem_mem hlt2)
              rw [← getD_of hlt2 0] at hk1
              have hl3 := hcm.len
              have hkn : (ks.getD i 0).toNat < us.length := by omega
              have q1 : (rows inC us).length = g.nodes.length := by rw [rows_len inC_len]; omega
              have q2 := fun w => set_inC hkn w
              have q3 := fun n K => cell_inC hkn n K
              have q4 := hcm.lo (ks.getD i 0).toNat
              have q5 := hcm.hi (ks.getD i 0).toNat
              rw [zEv_round hc3]
              simp (config := {contextual := true, maxSteps := 10000000, implicitDefEqProofs := false}) (disch := first | (and_intros <;> omega -splitDisjunctions) | (simp only [List.length_set, List.length_append, List.length_cons, List.length_nil]; and_intros <;> omega -splitDisjunctions) | fail) only [t2, q1, q2, q3, k0, k1, k2, k3, k4, k5, k6, Try.f46, go_sem, ↓reduceIte, Nat.reduceEqDiff, Nat.reduceAdd, Nat.reduceMul, Nat.reduceLT, Nat.reduceLeDiff, reduceCtorEq, Int.reduceNe, Int.reduceEq, Int.reduceLT, Int.reduceLE, Int.reduceAdd, Int.reduceSub, Int.reduceMul, Int.reduceNeg, Int.reduceToNat, UInt8.reduceToNat, natLit, ty3, ty4, ty9, ty55, ty60, ty62, ty100]
              refine ih3 (i + 1) ((i : Int) + 1) (bump us (ks.getD i 0)) _ _ _ _ _ _ _ _ _ _ _ _ _ _ _ _ _ _ (by omega) rfl (by omega) (by rw [show (1048576 : Int) + 1048576 * j + ((i + 1 : Nat) : Int) = 1048576 + 1048576 * j + i + 1 by omega]; exact hcm.bump _) ?_
              rw [← hfi, List.drop_eq_getElem_cons hlt2, getD_of hlt2, List.foldl_cons]
            · have t2 : ((i : Int) < ks.length) = False := eq_false (by omega)
              rw [zEv_round hc3]
              simp (config := {contextual := true, maxSteps := 10000000, implicitDefEqProofs := false}) (disch := first | (and_intros <;> omega -splitDisjunctions) | (simp only [List.length_set, List.length_append, List.length_cons, List.length_nil]; and_intros <;> omega -splitDisjunctions) | fail) only [t2, k0, k1, k2, k3, k4, k5, k6, Try.f46, go_sem, ↓reduceIte, Nat.reduceEqDiff, Nat.reduceAdd, Nat.reduceMul, Nat.reduceLT, Nat.reduceLeDiff, reduceCtorEq, Int.reduceNe, Int.reduceEq, Int.reduceLT, Int.reduceLE, Int.reduceAdd, Int.reduceSub, Int.reduceMul, Int.reduceNeg, Int.reduceToNat, UInt8.reduceToNat, natLit, ty3, ty4, ty9, ty55, ty60, ty62, ty100]
              rw [List.drop_of_length_le (by omega), List.foldl_nil] at hfi
              rw [hfi]
              exact hk3 _ _ _ _ _ _ _ _ _ _ _ _ _ _ _ _ _ _ _ _ _
        refine key3 P (fun M x0 x2 x6 x8 x10 x11 x15 x22 x23 x24 x25 x39 x43 x44 x45 x46 x58 x59 x60 x66 => ?_) (ks.length + 1) 0 0 ts _ _ _ _ _ _ _ _ _ _ _ _ _ _ _ _ _ _ (by omega) rfl (by omega) (hcn.mono (by omega)) (by rw [List.drop_zero])
        rw [← hR3]
        simp (config := {contextual := true, maxSteps := 10000000, implicitDefEqProofs := false}) (disch := first | (and_intros <;> omega -splitDisjunctions) | (simp only [List.length_set, List.length_append, List.length_cons, List.length_nil]; and_intros <;> omega -splitDisjunctions) | fail) only [Try.f46, go_sem, ↓reduceIte, Nat.reduceEqDiff, Nat.reduceAdd, Nat.reduceMul, Nat.reduceLT, Nat.reduceLeDiff, reduceCtorEq, Int.reduceNe, Int.reduceEq, Int.reduceLT, Int.reduceLE, Int.reduceAdd, Int.reduceSub, Int.reduceMul, Int.reduceNeg, Int.reduceToNat, UInt8.reduceToNat, natLit, ty3, ty4, ty9, ty55, ty60, ty62, ty100]
        exact ih2 (j + 1) ((j : Int) + 1) _ _ _ _ _ _ _ _ _ _ _ _ _ _ _ _ _ _ _ _ _ _ (by omega) rfl (by omega) ((Cnt.fold ks hcn).mono (by omega)) hfin2
      · have t1 : ((j : Int) < g.nodes.length) = False := eq_false (by omega)
        rw [zEv_round hc2]
        simp (config := {contextual := true, maxSteps := 10000000, implicitDefEqProofs := false}) (disch := first | (and_intros <;> omega -splitDisjunctions) | (simp only [List.length_set, List.length_append, List.length_cons, List.length_nil]; and_intros <;> omega -splitDisjunctions) | fail) only [t1, f0, f1, f2, f3, f4, f5, f6, r0, r1, r2, r3, r4, r5, r6, Try.f46, go_sem, ↓reduceIte, Nat.reduceEqDiff, Nat.reduceAdd, Nat.reduceMul, Nat.reduceLT, Nat.reduceLeDiff, reduceCtorEq, Int.reduceNe, Int.reduceEq, Int.reduceLT, Int.reduceLE, Int.reduceAdd, Int.reduceSub, Int.reduceMul, Int.reduceNeg, Int.reduceToNat, UInt8.reduceToNat, natLit, ty3, ty4, ty9, ty55, ty60, ty62, ty100]
        rw [List.drop_of_length_le (by omega)] at hfin
        have hfin : ts = tmN T0 g.nodes := hfin
        rw [hfin]
        exact hk2 _ _ _ _ _ _ _ _ _ _ _ _ _ _ _ _ _ _ _ _ _ _ _ _
  refine key2 (Ret _) (fun L x0 x2 x6 x8 x10 x11 x15 x22 x23 x24 x25 x36 x37 x38 x39 x43 x44 x45 x46 x58 x59 x60 x66 => ?_) (g.nodes.length + 1) 0 0 T0 [] _ _ _ _ _ _ _ _ _ _ _ _ _ _ _ _ _ _ _ _ (by omega) rfl (by omega) (hT0.mono (by omega)) (by rw [List.drop_zero])
  rw [← hR2]
  simp (config := {contextual := true, maxSteps := 10000000, implicitDefEqProofs := false}) (disch := first | (and_intros <;> omega -splitDisjunctions) | (simp only [List.length_set, List.length_append, List.length_cons, List.length_nil]; and_intros <;> omega -splitDisjunctions) | fail) only [Try.f46, go_sem, ↓reduceIte, Nat.reduceEqDiff, Nat.reduceAdd, Nat.reduceMul, Nat.reduceLT, Nat.reduceLeDiff, reduceCtorEq, Int.reduceNe, Int.reduceEq, Int.reduceLT, Int.reduceLE, Int.reduceAdd, Int.reduceSub, Int.reduceMul, Int.reduceNeg, Int.reduceToNat, UInt8.reduceToNat, natLit, ty3, ty4, ty9, ty55, ty60, ty62, ty100]
  rw [← htm]
  have ltm := tm_len g
  simp (config := {contextual := true, maxSteps := 10000000, implicitDefEqProofs := false}) (disch := first | (and_intros <;> omega -splitDisjunctions) | (simp only [List.length_set, List.length_append, List.length_cons, List.length_nil]; and_intros <;> omega -splitDisjunctions) | fail) only [Try.f46, go_sem, ↓reduceIte, Nat.reduceEqDiff, Nat.reduceAdd, Nat.reduceMul, Nat.reduceLT, Nat.reduceLeDiff, reduceCtorEq, Int.reduceNe, Int.reduceEq, Int.reduceLT, Int.reduceLE, Int.reduceAdd, Int.reduceSub, Int.reduceMul, Int.reduceNeg, Int.reduceToNat, UInt8.reduceToNat, natLit, ty3, ty4, ty9, ty55, ty60, ty62, ty100]
  have hG : LH.cellsAt (H ++ Blk.cells [nv, rv] :: Blk.cells [] :: Blk.cells (rows inC (tm g)) :: L) (H.length + 2) = some (rows inC (tm g)) := by rw [cellsAt_app]; rfl
  have hO : LH.cellsAt (H ++ Blk.cells [nv, rv] :: Blk.cells [] :: Blk.cells (rows inC (tm g)) :: L) (H.length + 1) = some [] := by rw [cellsAt_app]; rfl
  have hGx : Hx H (H ++ Blk.cells [nv, rv] :: Blk.cells [] :: Blk.cells (rows inC (tm g)) :: L) := Hx.app
  generalize H ++ Blk.cells [nv, rv] :: Blk.cells [] :: Blk.cells (rows inC (tm g)) :: L = G at *
  refine at_loopR fun c5 R5 hc5 hR5 => ?_
  have key5 : ∀ (m : Nat) (j : Nat) (jj : Int) (o : V) (xs : List Int) (A : LH) (x0 x1 x2 x6 x8 x10 x11 x15 x22 x23 x24 x25 x36 x37 x38 x39 x43 x44 x45 x46 x60 x66 : Option V), g.nodes.length - j < m → jj = j → j ≤ g.nodes.length → Hx H A → Own (H.length + 1) A inC 1 o xs → blkV o ≠ (H.length + 2) → LH.cellsAt A (H.length + 2) = some (rows inC (tm g)) → xs.length ≤ j → xs ++ shIdx ((tm g).drop j) j = shIdx (tm g) 0 →
      Ret (fun w H' => Hx H H' ∧ Own H.length H' inC 1 w (shIdx (tm g) 0)) (zEv (leaveX (mkR Try.prog cfg ok [0, 1, 2, 3, 4, 6, 8, 10, 11, 15, 22, 23, 24, 25, 36, 37, 38, 39, 43, 44, 45, 46, 58, 59, 60, 66] H.length) .fresh H [ResultVar.tmp 2]) (mkR Try.prog cfg ok [0, 1, 2, 3, 4, 6, 8, 10, 11, 15, 22, 23, 24, 25, 36, 37, 38, 39, 43, 44, 45, 46, 58, 59, 60, 66] H.length) (K.code (Code.loop c5) :: K.blk 6 :: R5) .nrm [x0, x1, x2, some o, some (.sl (H.length + 2) 0 1 g.nodes.length g.nodes.length), x6, x8, x10, x11, x15, x22, x23, x24, x25, x36, x37, x38, x39, x43, x44, x45, x46, some (.int .i64 g.nodes.length), some (.int .i64 jj), x60, x66] (A)) := by
    intro m
    induction m with
    | zero => intro j jj o xs A x0 x1 x2 x6 x8 x10 x11 x15 x22 x23 x24 x25 x36 x37 x38 x39 x43 x44 x45 x46 x60 x66 hm; omega
    | succ m ih5 =>
      intro j jj o xs A x0 x1 x2 x6 x8 x10 x11 x15 x22 x23 x24 x25 x36 x37 x38 x39 x43 x44 x45 x46 x60 x66 hm hj hle hx ho hne c4 hlx hfin
      subst hj
      have c5 := cellsAt_lt c4
      have c6 : (rows inC (tm g)).length = g.nodes.length := by rw [rows_len inC_len]; omega
      have ltm := tm_len g
      have o1 := (ho.at inC_len).isTup; have o2 := (ho.at inC_len).one
      have ap := fun x L => app_own1 (fl := H.length) (ho.ext (Hx.app (L := L))) inC_len (by omega) 8 (by unfold mostCells; omega) x
      simp only [inC] at ap
      by_cases hlt : j < g.nodes.length
      · have t1 : ((j : Int) < g.nodes.length) = True := eq_true (by omega)
        have hlt2 : j < (tm g).length := by omega
        have q1 := fun n K => cell_inC hlt2 n K
        rw [List.drop_eq_getElem_cons hlt2, ← getD_of hlt2 0] at hfin
        simp only [shIdx] at hfin
        rw [zEv_round hc5]
        simp (config := {contextual := true, maxSteps := 10000000, implicitDefEqProofs := false}) (disch := first | (and_intros <;> omega -splitDisjunctions) | (simp only [List.length_set, List.length_append, List.length_cons, List.length_nil]; and_intros <;> omega -splitDisjunctions) | fail) only [t1, c4, c6, q1, ap, o1, o2, Try.f46, go_sem, ↓reduceIte, Nat.reduceEqDiff, Nat.reduceAdd, Nat.reduceMul, Nat.reduceLT, Nat.reduceLeDiff, reduceCtorEq, Int.reduceNe, Int.reduceEq, Int.reduceLT, Int.reduceLE, Int.reduceAdd, Int.reduceSub, Int.reduceMul, Int.reduceNeg, Int.reduceToNat, UInt8.reduceToNat, natLit, ty3, ty4, ty9, ty55, ty60, ty62, ty100]
        refine Ret_ite (fun hw => ?_) (fun hw => ?_)
        · rw [if_pos hw] at hfin
          have hA2 : (A ++ [Blk.cells [V.int .i64 (j : Int)]]).length = A.length + 1 := by simp
          have an := app_new (enc := inC) (z := 1) (v := o) (show H.length + 1 ≤ (A ++ [Blk.cells [V.int .i64 (j : Int)]]).length by omega) (xs ++ [(j : Int)])
          simp only [List.length_append, List.length_cons, List.length_nil, Nat.zero_add] at an
          exact ih5 (j + 1) ((j : Int) + 1) (.sl (A.length + 1) 0 1 (xs.length + 1) (xs.length + 1)) (xs ++ [(j : Int)]) (killV (A ++ [.cells [.int .i64 (j : Int)]]) o ++ [.cells (rows inC (xs ++ [(j : Int)]))]) _ _ _ _ _ _ _ _ _ _ _ _ _ _ _ _ _ _ _ _ _ _ (by omega) rfl (by omega) (app_hx (hx.trans Hx.app) (ho.ext Hx.app) (by omega)) an (by simp only [blkV]; omega) (app_ne (cellsAt_left c4) hne _) (by rw [List.length_append]; simp; omega) (by rw [List.append_assoc]; exact hfin)
        · rw [if_neg hw] at hfin
          exact ih5 (j + 1) ((j : Int) + 1) o xs A _ _ _ _ _ _ _ _ _ _ _ _ _ _ _ _ _ _ _ _ _ _ (by omega) rfl (by omega) hx ho hne c4 (by omega) hfin
      · have t1 : ((j : Int) < g.nodes.length) = False := eq_false (by omega)
        rw [zEv_round hc5, ← hR5]
        simp (config := {contextual := true, maxSteps := 10000000, implicitDefEqProofs := false}) (disch := first | (and_intros <;> omega -splitDisjunctions) | (simp only [List.length_set, List.length_append, List.length_cons, List.length_nil]; and_intros <;> omega -splitDisjunctions) | fail) only [t1, o1, o2, Try.f46, go_sem, ↓reduceIte, Nat.reduceEqDiff, Nat.reduceAdd, Nat.reduceMul, Nat.reduceLT, Nat.reduceLeDiff, reduceCtorEq, Int.reduceNe, Int.reduceEq, Int.reduceLT, Int.reduceLE, Int.reduceAdd, Int.reduceSub, Int.reduceMul, Int.reduceNeg, Int.reduceToNat, UInt8.reduceToNat, natLit, ty3, ty4, ty9, ty55, ty60, ty62, ty100]
        rw [List.drop_of_length_le (by omega)] at hfin
        simp only [shIdx, List.append_nil] at hfin
        rw [← hfin]
        exact ⟨hx, ho.down (by omega)⟩
  exact key5 (g.nodes.length + 1) 0 0 (.sl (H.length + 1) 0 1 0 0) [] G _ _ _ _ _ _ _ _ _ _ _ _ _ _ _ _ _ _ _ _ _ _ (by omega) rfl (by omega) hGx (.inr ⟨H.length + 1, rfl, hO, by omega⟩) (by simp only [blkV]; omega) hG (by simp) (by rw [List.drop_zero, List.nil_append]; rfl)
end Go.Proofs.Ytbjpecknlohicaa.Lg

