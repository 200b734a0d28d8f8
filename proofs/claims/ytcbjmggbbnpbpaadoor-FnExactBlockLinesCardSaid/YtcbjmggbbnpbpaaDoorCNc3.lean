/- Nested events: the roots, and whether all aliases are tied, in the reference. No condition. -/
import Derived.Test.YtcbjmggbbnpbpaaDoorCNc2
import Derived.Test.YtcbjmggbbnpbpaaDoorCNst8
namespace Go.Proofs.YtcbjmggbbnpbpaaDoor.Lg
set_option linter.unusedSimpArgs false
set_option linter.unusedVariables false
set_option maxRecDepth 100000
set_option maxHeartbeats 40000000
open Go.Proofs.YtcbjmggbbnpbpaaDoor

theorem range_drop {n k : Nat} (h : k < n) : (List.range n).drop k = k :: (List.range n).drop (k + 1) := by
  rw [List.drop_eq_getElem_cons (by simpa using h)]
  simp
theorem range_end {n k : Nat} (h : n ≤ k) : (List.range n).drop k = [] := List.drop_of_length_le (by simpa using h)
def okAl (es : List Ev) (i : Nat) : Bool := !(decide (kd es i = 6) && decide (defF es i < 0))
theorem tiedM_al (es : List Ev) : tiedM es = (nestedM es && (List.range es.length).all (okAl es)) := rfl
theorem run_spRootsOf {v : V} {es : List Ev} {H : LH} (h : At H evC 8 v es) (hes : ∀ e ∈ es, evCFit e) (hl : es.length ≤ 1048576) (hn : nestedM es = true) (fl : Nat) :
    Ret (fun w H' => Hx H H' ∧ Own H.length H' inN 1 w (rootsF es)) (run 54 [v] fl H) := by
  have i1 := h.isTup; have i2 := h.len; have i3 := h.lenOk ty39
  unfold run
  rw [Run_z Tryd.func54 rfl (by rfl : ok 54 = true) (by rfl : cfg.keep 54 = [0, 2, 3, 4, 7, 8, 9, 32]) (by rfl : cfg.mode 54 = .fresh) (by rfl : cfg.ord 54 = [])]
  simp (config := {contextual := true, maxSteps := 10000000, implicitDefEqProofs := false}) (disch := first | (and_intros <;> omega -splitDisjunctions) | (simp only [List.length_set, List.length_append, List.length_cons, List.length_nil]; and_intros <;> omega -splitDisjunctions) | fail) only [i1, i2, i3, Tryd.f54, go_sem, ↓reduceIte, Nat.reduceEqDiff, Nat.reduceAdd, Nat.reduceMul, Nat.reduceLT, Nat.reduceLeDiff, reduceCtorEq, Int.reduceNe, Int.reduceEq, Int.reduceLT, Int.reduceLE, Int.reduceAdd, Int.reduceSub, Int.reduceMul, Int.reduceNeg, Int.reduceToNat, UInt8.reduceToNat, natLit, ty3, ty4, ty9, ty39, ty65, ty67]
  refine at_loopR fun c R hc hR => ?_
  have key : ∀ (m : Nat) (k : Nat) (kk : Int) (o : V) (xs : List Nat) (B : LH) (x2 x4 x9 x32 : Option V), es.length - k < m → kk = k → k ≤ es.length → Hx H B → Own H.length B inN 1 o xs → xs.length ≤ k → xs ++ ((List.range es.length).drop k).filter (rootB es) = rootsF es →
      Ret (fun w H' => Hx H H' ∧ Own H.length H' inN 1 w (rootsF es)) (zEv (leaveX (mkR Tryd.prog cfg ok [0, 2, 3, 4, 7, 8, 9, 32] H.length) .fresh H [ResultVar.tmp 2]) (mkR Tryd.prog cfg ok [0, 2, 3, 4, 7, 8, 9, 32] H.length) (K.code (Code.loop c) :: K.blk 0 :: R) .nrm [some v, x2, some o, x4, some (.int .i64 es.length), some (.int .i64 kk), x9, x32] (B)) := by
    intro m
    induction m with
    | zero => intro k kk o xs B x2 x4 x9 x32 hm; omega
    | succ m ih =>
      intro k kk o xs B x2 x4 x9 x32 hm hk hkl hx ho hlx hfin
      subst hk
      have hlB := hx.len
      have o1 := (ho.at inN_len).isTup; have o2 := (ho.at inN_len).one
      by_cases hlt : k < es.length
      rotate_left
      · have t1 : ((k : Int) < es.length) = False := eq_false (by omega)
        rw [range_end (by omega), List.filter_nil, List.append_nil] at hfin
        rw [zEv_round hc, ← hR]
        simp (config := {contextual := true, maxSteps := 10000000, implicitDefEqProofs := false}) (disch := first | (and_intros <;> omega -splitDisjunctions) | (simp only [List.length_set, List.length_append, List.length_cons, List.length_nil]; and_intros <;> omega -splitDisjunctions) | fail) only [t1, o1, o2, Tryd.f54, go_sem, ↓reduceIte, Nat.reduceEqDiff, Nat.reduceAdd, Nat.reduceMul, Nat.reduceLT, Nat.reduceLeDiff, reduceCtorEq, Int.reduceNe, Int.reduceEq, Int.reduceLT, Int.reduceLE, Int.reduceAdd, Int.reduceSub, Int.reduceMul, Int.reduceNeg, Int.reduceToNat, UInt8.reduceToNat, natLit, ty3, ty4, ty9, ty39, ty65, ty67]
        rw [← hfin]
        exact ⟨hx, ho⟩
      have t1 : ((k : Int) < es.length) = True := eq_true (by omega)
      have rB := h.ext hx
      have f1 := rB.isTup; have f2 := rB.len; have f3 := rB.lenOk ty39; have f0 := rB.one
      have f4 := fun hp => rB.con hp
      have f5 := rB.idx (T := ty Tryd.prog) (t := 39) (by simp only [elemI, sizeO, ty3, ty4, ty9, ty39, ty65])
      have f6 := rB.loadD evC_len evZ
      have g6 := f6 k hlt
      have n1 := fun fl H => run_l13Node (es.getD k evZ) fl H
      have n2 := fun fl => run_spNested v es fl B rB hes hl
      rw [hn] at n2
      rw [range_drop hlt, List.filter_cons] at hfin
      have hfin : xs ++ (if rootB es k = true then k :: ((List.range es.length).drop (k + 1)).filter (rootB es) else ((List.range es.length).drop (k + 1)).filter (rootB es)) = rootsF es := hfin
      cases k with
      | zero =>
        have hb : ¬ (rootB es 0 = true) := by simp [rootB]
        have t1 : ((0 : Int) < es.length) = True := eq_true (by omega)
        rw [if_neg hb] at hfin
        unfold run at n1 n2
        rw [zEv_round hc, ← hR]
        simp (config := {contextual := true, maxSteps := 10000000, implicitDefEqProofs := false}) (disch := first | (and_intros <;> omega -splitDisjunctions) | (simp only [List.length_set, List.length_append, List.length_cons, List.length_nil]; and_intros <;> omega -splitDisjunctions) | fail) only [t1, g6, n1, n2, o1, o2, f0, f1, f2, f3, f4, f5, f6, Tryd.f54, go_sem, ↓reduceIte, Nat.reduceEqDiff, Nat.reduceAdd, Nat.reduceMul, Nat.reduceLT, Nat.reduceLeDiff, reduceCtorEq, Int.reduceNe, Int.reduceEq, Int.reduceLT, Int.reduceLE, Int.reduceAdd, Int.reduceSub, Int.reduceMul, Int.reduceNeg, Int.reduceToNat, UInt8.reduceToNat, natLit, ty3, ty4, ty9, ty39, ty65, ty67]
        rw [hR]
        exact ih 1 1 o xs B _ _ _ _ (by omega) rfl (by omega) hx ho (by omega) hfin
      | succ k =>
        have t2 : (((k + 1 : Nat) : Int) - 1) = (k : Int) := by omega
        have t3 : (((k + 1 : Nat) : Int) > 0) = True := eq_true (by omega)
        have t4 : (((k + 1 : Nat) : Int) - 1).toNat = k := by omega
        have g0 := fun n K => rB.loadD0 evC_len evZ (fun e => .int .i64 e.kind) (fun _ => rfl) k (by omega) n K
        have ap := fun L => app_own1 (fl := H.length) (ho.ext (Hx.app (L := L))) inN_len (Nat.le_refl _) 8 (by unfold mostCells; omega) (k + 1)
        simp only [inN] at ap
        have hx2 : Hx H (killV (B ++ [Blk.cells [V.int .i64 ((k + 1 : Nat) : Int)]]) o ++ [.cells (rows inN (xs ++ [k + 1]))]) := app_hx (hx.trans Hx.app) (ho.ext Hx.app) (Nat.le_refl _)
        have an := app_new (enc := inN) (z := 1) (v := o) (show H.length ≤ (B ++ [Blk.cells [V.int .i64 ((k + 1 : Nat) : Int)]]).length by rw [List.length_append]; omega) (xs ++ [k + 1])
        simp only [List.length_append, List.length_cons, List.length_nil, Nat.zero_add] at an
        unfold run at n1 n2
        rw [zEv_round hc, ← hR]
        simp (config := {contextual := true, maxSteps := 10000000, implicitDefEqProofs := false}) (disch := first | (and_intros <;> omega -splitDisjunctions) | (simp only [List.length_set, List.length_append, List.length_cons, List.length_nil]; and_intros <;> omega -splitDisjunctions) | fail) only [t1, t2, t3, t4, g0, g6, n1, n2, ap, o1, o2, f0, f1, f2, f3, f4, f5, f6, Tryd.f54, go_sem, ↓reduceIte, Nat.reduceEqDiff, Nat.reduceAdd, Nat.reduceMul, Nat.reduceLT, Nat.reduceLeDiff, reduceCtorEq, Int.reduceNe, Int.reduceEq, Int.reduceLT, Int.reduceLE, Int.reduceAdd, Int.reduceSub, Int.reduceMul, Int.reduceNeg, Int.reduceToNat, UInt8.reduceToNat, natLit, ty3, ty4, ty9, ty39, ty65, ty67]
        rw [hR]
        refine Ret_ite (fun w => ?_) (fun w => ?_)
        · have hb : rootB es (k + 1) = true := decide_eq_true ⟨Nat.succ_pos _, w.1, w.2⟩
          rw [if_pos hb] at hfin
          exact ih (k + 1 + 1) (((k + 1 : Nat) : Int) + 1) _ (xs ++ [k + 1]) _ _ _ _ _ (by omega) (by omega) (by omega) hx2 an (by simp; omega) (by rw [List.append_assoc]; exact hfin)
        · have hb : ¬ (rootB es (k + 1) = true) := fun h => w ⟨(of_decide_eq_true h).2.1, (of_decide_eq_true h).2.2⟩
          rw [if_neg hb] at hfin
          exact ih (k + 1 + 1) (((k + 1 : Nat) : Int) + 1) o xs B _ _ _ _ (by omega) (by omega) (by omega) hx ho (by omega) hfin
  exact key (es.length + 1) 0 0 (.sl H.length 0 1 0 0) [] _ _ _ _ _ (by omega) rfl (by omega) Hx.app (.inr ⟨H.length, rfl, by rw [cellsAt_app0]; rfl, Nat.le_refl _⟩) (by simp) (by rw [List.nil_append, List.drop_zero]; rfl)
theorem run_spTied {v : V} {es : List Ev} {H : LH} (h : At H evC 8 v es) (hes : ∀ e ∈ es, evCFit e) (hl : es.length ≤ 1048576) (fl : Nat) :
    run 89 [v] fl H = some (.bool (tiedM es), H) := by
  have i1 := h.isTup; have i2 := h.len; have i3 := h.lenOk ty39
  have n2 := fun fl => run_spNested v es fl H h hes hl
  rw [tiedM_al]
  unfold run at *
  rw [Run_z Tryd.func89 rfl (by rfl : ok 89 = true) (by rfl : cfg.keep 89 = [0, 2, 3, 4, 7, 8, 9, 10, 11, 23]) (by rfl : cfg.mode 89 = .pure) (by rfl : cfg.ord 89 = [])]
  by_cases hn : nestedM es = true
  rotate_left
  · have hn : nestedM es = false := by simpa using hn
    rw [hn] at n2 ⊢
    simp (config := {contextual := true, maxSteps := 10000000, implicitDefEqProofs := false}) (disch := first | (and_intros <;> omega -splitDisjunctions) | (simp only [List.length_set, List.length_append, List.length_cons, List.length_nil]; and_intros <;> omega -splitDisjunctions) | fail) only [i1, i2, i3, n2, Tryd.f89, go_sem, ↓reduceIte, Nat.reduceEqDiff, Nat.reduceAdd, Nat.reduceMul, Nat.reduceLT, Nat.reduceLeDiff, reduceCtorEq, Int.reduceNe, Int.reduceEq, Int.reduceLT, Int.reduceLE, Int.reduceAdd, Int.reduceSub, Int.reduceMul, Int.reduceNeg, Int.reduceToNat, UInt8.reduceToNat, natLit, ty3, ty4, ty9, ty39, ty65]
  rw [hn] at n2 ⊢
  simp (config := {contextual := true, maxSteps := 10000000, implicitDefEqProofs := false}) (disch := first | (and_intros <;> omega -splitDisjunctions) | (simp only [List.length_set, List.length_append, List.length_cons, List.length_nil]; and_intros <;> omega -splitDisjunctions) | fail) only [i1, i2, i3, n2, Tryd.f89, go_sem, ↓reduceIte, Nat.reduceEqDiff, Nat.reduceAdd, Nat.reduceMul, Nat.reduceLT, Nat.reduceLeDiff, reduceCtorEq, Int.reduceNe, Int.reduceEq, Int.reduceLT, Int.reduceLE, Int.reduceAdd, Int.reduceSub, Int.reduceMul, Int.reduceNeg, Int.reduceToNat, UInt8.reduceToNat, natLit, ty3, ty4, ty9, ty39, ty65]
  refine at_loopE fun c R hc hR => ?_
  have key : ∀ (m : Nat) (k : Nat) (kk : Int) (B : LH) (x2 x3 x4 x7 x11 x23 : Option V), es.length - k < m → kk = k → k ≤ es.length → Hx H B →
      zEv (leaveX (mkR Tryd.prog cfg ok [0, 2, 3, 4, 7, 8, 9, 10, 11, 23] H.length) .pure H [ResultVar.tmp 2]) (mkR Tryd.prog cfg ok [0, 2, 3, 4, 7, 8, 9, 10, 11, 23] H.length) (K.code (Code.loop c) :: K.blk 0 :: R) .nrm [some v, x2, x3, x4, x7, some v, some (.int .i64 es.length), some (.int .i64 kk), x11, x23] (B) = some (.bool (((List.range es.length).drop k).all (okAl es)), H) := by
    intro m
    induction m with
    | zero => intro k kk B x2 x3 x4 x7 x11 x23 hm; omega
    | succ m ih =>
      intro k kk B x2 x3 x4 x7 x11 x23 hm hk hkl hx
      subst hk
      by_cases hlt : k < es.length
      rotate_left
      · have t1 : ((k : Int) < es.length) = False := eq_false (by omega)
        rw [range_end (by omega)]
        rw [zEv_round hc, ← hR]
        simp (config := {contextual := true, maxSteps := 10000000, implicitDefEqProofs := false}) (disch := first | (and_intros <;> omega -splitDisjunctions) | (simp only [List.length_set, List.length_append, List.length_cons, List.length_nil]; and_intros <;> omega -splitDisjunctions) | fail) only [t1, Tryd.f89, go_sem, ↓reduceIte, Nat.reduceEqDiff, Nat.reduceAdd, Nat.reduceMul, Nat.reduceLT, Nat.reduceLeDiff, reduceCtorEq, Int.reduceNe, Int.reduceEq, Int.reduceLT, Int.reduceLE, Int.reduceAdd, Int.reduceSub, Int.reduceMul, Int.reduceNeg, Int.reduceToNat, UInt8.reduceToNat, natLit, ty3, ty4, ty9, ty39, ty65]
        rfl
      have t1 : ((k : Int) < es.length) = True := eq_true (by omega)
      have rB := h.ext hx
      have f1 := rB.isTup; have f2 := rB.len; have f3 := rB.lenOk ty39; have f0 := rB.one
      have f4 := fun hp => rB.con hp
      have f5 := rB.idx (T := ty Tryd.prog) (t := 39) (by simp only [elemI, sizeO, ty3, ty4, ty9, ty39, ty65])
      have f6 := rB.loadD evC_len evZ
      have g6 := f6 k hlt
      have hlB := hx.len
      have e1 := fun L fl => run_l13Def (rB.ext (Hx.app (L := L))) hl hlt fl
      rw [range_drop hlt, List.all_cons]
      unfold run evC at *
      rw [zEv_round hc, ← hR]
      simp (config := {contextual := true, maxSteps := 10000000, implicitDefEqProofs := false}) (disch := first | (and_intros <;> omega -splitDisjunctions) | (simp only [List.length_set, List.length_append, List.length_cons, List.length_nil]; and_intros <;> omega -splitDisjunctions) | fail) only [t1, g6, e1, f0, f1, f2, f3, f4, f5, f6, Tryd.f89, go_sem, ↓reduceIte, Nat.reduceEqDiff, Nat.reduceAdd, Nat.reduceMul, Nat.reduceLT, Nat.reduceLeDiff, reduceCtorEq, Int.reduceNe, Int.reduceEq, Int.reduceLT, Int.reduceLE, Int.reduceAdd, Int.reduceSub, Int.reduceMul, Int.reduceNeg, Int.reduceToNat, UInt8.reduceToNat, natLit, ty3, ty4, ty9, ty39, ty65]
      rw [hR]
      have yes : ¬ (kd es k = 6 ∧ defF es k < 0) → okAl es k = true := fun w => by
        unfold okAl
        by_cases h6 : kd es k = 6
        · rw [decide_eq_false (fun h => w ⟨h6, h⟩), Bool.and_false]; rfl
        · rw [decide_eq_false h6, Bool.false_and]; rfl
      refine ite_E (fun w6 => ?_) (fun w6 => ?_)
      · refine ite_E (fun w => ?_) (fun w => ?_)
        · have : okAl es k = false := by unfold okAl; rw [decide_eq_true (show kd es k = 6 from w6), decide_eq_true w]; rfl
          rw [this, Bool.false_and]
        · rw [yes (fun h => w h.2), Bool.true_and]
          exact ih (k + 1) ((k : Int) + 1) _ _ _ _ _ _ _ (by omega) (by omega) (by omega) (hx.trans Hx.app)
      · rw [yes (fun h => w6 h.1), Bool.true_and]
        exact ih (k + 1) ((k : Int) + 1) _ _ _ _ _ _ _ (by omega) (by omega) (by omega) (hx.trans Hx.app)
  exact key (es.length + 1) 0 0 H _ _ _ _ _ _ (by omega) rfl (by omega) (Hx.refl _)
theorem run_spWhole {v : V} {es : List Ev} {H : LH} (h : At H evC 8 v es) (hes : ∀ e ∈ es, evCFit e) (hl : es.length ≤ 1048576) (fl : Nat) :
    run 43 [v] fl H = some (.bool (wholeM es), H) := by
  have n2 := fun fl => run_spTied h hes hl fl
  have f1 := h.isTup; have f2 := h.len; have f3 := h.lenOk ty39; have f0 := h.one
  have f4 := fun hp => h.con hp
  have f5 := h.idx (T := ty Tryd.prog) (t := 39) (by simp only [elemI, sizeO, ty3, ty4, ty9, ty39, ty65])
  have f6 := h.loadD evC_len evZ
  unfold wholeM
  unfold run at *
  rw [Run_z Tryd.func43 rfl (by rfl : ok 43 = true) (by rfl : cfg.keep 43 = [0, 2]) (by rfl : cfg.mode 43 = .pure) (by rfl : cfg.ord 43 = [])]
  by_cases hn : tiedM es = true
  rotate_left
  · have hn : tiedM es = false := by simpa using hn
    rw [hn] at n2 ⊢
    simp (config := {contextual := true, maxSteps := 10000000, implicitDefEqProofs := false}) (disch := first | (and_intros <;> omega -splitDisjunctions) | (simp only [List.length_set, List.length_append, List.length_cons, List.length_nil]; and_intros <;> omega -splitDisjunctions) | fail) only [f0, f1, f2, f3, f4, f5, f6, n2, Tryd.f43, go_sem, ↓reduceIte, Nat.reduceEqDiff, Nat.reduceAdd, Nat.reduceMul, Nat.reduceLT, Nat.reduceLeDiff, reduceCtorEq, Int.reduceNe, Int.reduceEq, Int.reduceLT, Int.reduceLE, Int.reduceAdd, Int.reduceSub, Int.reduceMul, Int.reduceNeg, Int.reduceToNat, UInt8.reduceToNat, natLit, ty3, ty4, ty9, ty39, ty65]
  rw [hn] at n2 ⊢
  have hn2 : nestedM es = true := by unfold tiedM at hn; rw [Bool.and_eq_true] at hn; exact hn.1
  have hlen := (nestedM_ok hn2).1
  have g0 := fun n K => h.loadD0 evC_len evZ (fun e => .int .i64 e.kind) (fun _ => rfl) (es.length - 1) (by omega) n K
  have t2 : ((es.length : Int) - 1).toNat = es.length - 1 := by omega
  simp (config := {contextual := true, maxSteps := 10000000, implicitDefEqProofs := false}) (disch := first | (and_intros <;> omega -splitDisjunctions) | (simp only [List.length_set, List.length_append, List.length_cons, List.length_nil]; and_intros <;> omega -splitDisjunctions) | fail) only [f0, f1, f2, f3, f4, f5, f6, g0, t2, n2, Tryd.f43, go_sem, ↓reduceIte, Nat.reduceEqDiff, Nat.reduceAdd, Nat.reduceMul, Nat.reduceLT, Nat.reduceLeDiff, reduceCtorEq, Int.reduceNe, Int.reduceEq, Int.reduceLT, Int.reduceLE, Int.reduceAdd, Int.reduceSub, Int.reduceMul, Int.reduceNeg, Int.reduceToNat, UInt8.reduceToNat, natLit, ty3, ty4, ty9, ty39, ty65]
end Go.Proofs.YtcbjmggbbnpbpaaDoor.Lg
