/- Nested events: Tied and Whole in the program. No condition. -/
import Derived.Test.YtcbjmggbbnpbpaaDoorCNc6
namespace Go.Proofs.YtcbjmggbbnpbpaaDoor.Lg
set_option linter.unusedSimpArgs false
set_option linter.unusedVariables false
set_option maxRecDepth 100000
set_option maxHeartbeats 40000000
open Go.Proofs.YtcbjmggbbnpbpaaDoor

theorem okAl_I {es : List Ev} (i : Nat) : okAl es i = !(decide (kd es i = 6) && decide (dfI es i < 0)) := by
  unfold okAl dfI
  by_cases h : kd es i = 6
  · rw [if_pos h]
  · rw [decide_eq_false h, Bool.false_and, Bool.false_and]
theorem run_tied {H : LH} {v ve vu vd : V} {es : List Ev} (h : NsAt H v ve vu vd es) (hl : es.length ≤ 1048576) (hok : ∀ i, i < es.length → EvOk (evA es i)) (fl : Nat) :
    run 121 [.agg [v, ve, vu, vd]] fl H = some (.bool ((List.range es.length).all (okAl es)), H) := by
  have j1 := h.e.one; have j2 := h.u.one; have j3 := h.d.one; have j0 := h.l.one
  have j4 := h.e.isTup; have j5 := h.u.isTup; have j6 := h.d.isTup
  have i1 := h.l.isTup; have i2 := h.l.len; have i3 := h.l.lenOk ty39
  obtain ⟨w, G, e1, hxG, hw⟩ := run_defs (h.ext (Hx.app (L := [.cells [v, ve, vu, vd]]))) hl hok H.length
  have c2 : LH.cellsAt G H.length = some [v, ve, vu, vd] := by
    obtain ⟨L, rfl⟩ := hxG
    exact cellsAt_left (by rw [cellsAt_app0]; rfl)
  have hlG := hxG.len
  rw [List.length_append, List.length_singleton] at hlG
  have w1 := hw.isTup; have w2 := hw.one
  unfold run at *
  rw [Run_z Tryd.func121 rfl (by rfl : ok 121 = true) (by rfl : cfg.keep 121 = [0, 1, 2, 3, 4, 5, 9, 10, 11, 12, 25]) (by rfl : cfg.mode 121 = .pure) (by rfl : cfg.ord 121 = [])]
  simp (config := {contextual := true, maxSteps := 10000000, implicitDefEqProofs := false}) (disch := first | (and_intros <;> omega -splitDisjunctions) | (simp only [List.length_set, List.length_append, List.length_cons, List.length_nil]; and_intros <;> omega -splitDisjunctions) | fail) only [i1, i2, i3, j0, j1, j2, j3, j4, j5, j6, e1, c2, w1, w2, Tryd.f121, go_sem, ↓reduceIte, Nat.reduceEqDiff, Nat.reduceAdd, Nat.reduceMul, Nat.reduceLT, Nat.reduceLeDiff, reduceCtorEq, Int.reduceNe, Int.reduceEq, Int.reduceLT, Int.reduceLE, Int.reduceAdd, Int.reduceSub, Int.reduceMul, Int.reduceNeg, Int.reduceToNat, UInt8.reduceToNat, natLit, ty3, ty4, ty9, ty39, ty65, ty67, ty71]
  refine at_loopE fun c R hc hR => ?_
  have key : ∀ (m : Nat) (k : Nat) (kk : Int) (B : LH) (x0 x1 x2 x4 x5 x12 x25 : Option V), es.length - k < m → kk = k → k ≤ es.length → Hx G B →
      zEv (leaveX (mkR Tryd.prog cfg ok [0, 1, 2, 3, 4, 5, 9, 10, 11, 12, 25] H.length) .pure H [ResultVar.tmp 2]) (mkR Tryd.prog cfg ok [0, 1, 2, 3, 4, 5, 9, 10, 11, 12, 25] H.length) (K.code (Code.loop c) :: K.blk 0 :: R) .nrm [x0, x1, x2, some w, x4, x5, some v, some (.int .i64 es.length), some (.int .i64 kk), x12, x25] (B) = some (.bool (((List.range es.length).drop k).all (okAl es)), H) := by
    intro m
    induction m with
    | zero => intro k kk B x0 x1 x2 x4 x5 x12 x25 hm; omega
    | succ m ih =>
      intro k kk B x0 x1 x2 x4 x5 x12 x25 hm hk hkl hx
      subst hk
      by_cases hlt : k < es.length
      rotate_left
      · have t1 : ((k : Int) < es.length) = False := eq_false (by omega)
        rw [range_end (by omega)]
        rw [zEv_round hc, ← hR]
        simp (config := {contextual := true, maxSteps := 10000000, implicitDefEqProofs := false}) (disch := first | (and_intros <;> omega -splitDisjunctions) | (simp only [List.length_set, List.length_append, List.length_cons, List.length_nil]; and_intros <;> omega -splitDisjunctions) | fail) only [t1, Tryd.f121, go_sem, ↓reduceIte, Nat.reduceEqDiff, Nat.reduceAdd, Nat.reduceMul, Nat.reduceLT, Nat.reduceLeDiff, reduceCtorEq, Int.reduceNe, Int.reduceEq, Int.reduceLT, Int.reduceLE, Int.reduceAdd, Int.reduceSub, Int.reduceMul, Int.reduceNeg, Int.reduceToNat, UInt8.reduceToNat, natLit, ty3, ty4, ty9, ty39, ty65, ty67, ty71]
        rfl
      have t1 : ((k : Int) < es.length) = True := eq_true (by omega)
      have hlB := hx.len
      have rB := (h.ext ((Hx.app.trans hxG).trans hx)).l
      have f1 := rB.isTup; have f2 := rB.len; have f3 := rB.lenOk ty39; have f0 := rB.one
      have f4 := fun hp => rB.con hp
      have f5 := rB.idx (T := ty Tryd.prog) (t := 39) (by simp only [elemI, sizeO, ty3, ty4, ty9, ty39, ty65])
      have f6 := rB.loadD evC_len evZ
      have g6 := f6 k hlt
      have rW := hw.ext hx
      have s1 := fun L n K => (rW.ext (Hx.app (L := L))).load1 0 (fun x => .int .i64 x) (fun _ => rfl) k (by simpa using hlt) n K
      have s2 := fun L => (rW.ext (Hx.app (L := L))).con (by simp; omega)
      have s3 := rW.isTup; have s4 := rW.len; have s5 := rW.one; have s6 := rW.idx (T := ty Tryd.prog) (t := 67) (by simp only [elemI, sizeO, ty3, ty67])
      simp only [List.length_map, List.length_range] at s4 s6
      rw [rangeD hlt] at s1
      rw [range_drop hlt, List.all_cons]
      unfold run evC at *
      rw [zEv_round hc, ← hR]
      simp (config := {contextual := true, maxSteps := 10000000, implicitDefEqProofs := false}) (disch := first | (and_intros <;> omega -splitDisjunctions) | (simp only [List.length_set, List.length_append, List.length_cons, List.length_nil]; and_intros <;> omega -splitDisjunctions) | fail) only [t1, g6, s1, s2, s3, s4, s5, s6, f0, f1, f2, f3, f4, f5, f6, Tryd.f121, go_sem, ↓reduceIte, Nat.reduceEqDiff, Nat.reduceAdd, Nat.reduceMul, Nat.reduceLT, Nat.reduceLeDiff, reduceCtorEq, Int.reduceNe, Int.reduceEq, Int.reduceLT, Int.reduceLE, Int.reduceAdd, Int.reduceSub, Int.reduceMul, Int.reduceNeg, Int.reduceToNat, UInt8.reduceToNat, natLit, ty3, ty4, ty9, ty39, ty65, ty67, ty71]
      rw [hR]
      refine ite_E (fun w6 => ?_) (fun w6 => ?_)
      · refine ite_E (fun w => ?_) (fun w => ?_)
        · have : okAl es k = false := by rw [okAl_I, decide_eq_true (show kd es k = 6 from w6), decide_eq_true w]; rfl
          rw [this, Bool.false_and]
        · have : okAl es k = true := by rw [okAl_I, decide_eq_false w, Bool.and_false]; rfl
          rw [this, Bool.true_and]
          exact ih (k + 1) ((k : Int) + 1) _ _ _ _ _ _ _ _ (by omega) (by omega) (by omega) (hx.trans Hx.app)
      · have : okAl es k = true := by rw [okAl_I, decide_eq_false (show ¬ kd es k = 6 from w6), Bool.false_and]; rfl
        rw [this, Bool.true_and]
        exact ih (k + 1) ((k : Int) + 1) _ _ _ _ _ _ _ _ (by omega) (by omega) (by omega) (hx.trans Hx.app)
  exact key (es.length + 1) 0 0 G _ _ _ _ _ _ _ (by omega) rfl (by omega) (Hx.refl _)
theorem run_imTied {v : V} {es : List Ev} {H : LH} (h : At H evC 8 v es) (hes : ∀ e ∈ es, evCFit e) (hl : es.length ≤ 1048576) (hcap : capOk v) (fl : Nat) :
    run 93 [v] fl H = some (.bool (tiedM es), H) := by
  have n2 := fun fl => run_imNested v es fl H h hes hl hcap
  have i1 := h.isTup
  rw [tiedM_al]
  by_cases hn : nestedM es = true
  rotate_left
  · have hn : nestedM es = false := by simpa using hn
    rw [hn] at n2 ⊢
    unfold run at *
    rw [Run_z Tryd.func93 rfl (by rfl : ok 93 = true) (by rfl : cfg.keep 93 = [0, 2]) (by rfl : cfg.mode 93 = .pure) (by rfl : cfg.ord 93 = [])]
    simp (config := {contextual := true, maxSteps := 10000000, implicitDefEqProofs := false}) (disch := first | (and_intros <;> omega -splitDisjunctions) | (simp only [List.length_set, List.length_append, List.length_cons, List.length_nil]; and_intros <;> omega -splitDisjunctions) | fail) only [n2, i1, Tryd.f93, go_sem, ↓reduceIte, Nat.reduceEqDiff, Nat.reduceAdd, Nat.reduceMul, Nat.reduceLT, Nat.reduceLeDiff, reduceCtorEq, Int.reduceNe, Int.reduceEq, Int.reduceLT, Int.reduceLE, Int.reduceAdd, Int.reduceSub, Int.reduceMul, Int.reduceNeg, Int.reduceToNat, UInt8.reduceToNat, natLit]
  rw [hn] at n2 ⊢
  obtain ⟨w, G, e1, hx, ve, vu, vd, rfl, hE, hU, hD⟩ := run_nestOf h hl (nestedM_bal hn) H.length
  have hN : NsAt G v ve vu vd es := ⟨h.ext hx, hE.at (fun x => rfl), hU.at (fun x => rfl), hD.at (fun x => rfl)⟩
  have e2 := fun fl => run_tied hN hl (nestedM_ok hn).2.2.1 fl
  unfold run at *
  rw [Run_z Tryd.func93 rfl (by rfl : ok 93 = true) (by rfl : cfg.keep 93 = [0, 2]) (by rfl : cfg.mode 93 = .pure) (by rfl : cfg.ord 93 = [])]
  simp (config := {contextual := true, maxSteps := 10000000, implicitDefEqProofs := false}) (disch := first | (and_intros <;> omega -splitDisjunctions) | (simp only [List.length_set, List.length_append, List.length_cons, List.length_nil]; and_intros <;> omega -splitDisjunctions) | fail) only [n2, i1, e1, e2, Tryd.f93, go_sem, ↓reduceIte, Nat.reduceEqDiff, Nat.reduceAdd, Nat.reduceMul, Nat.reduceLT, Nat.reduceLeDiff, reduceCtorEq, Int.reduceNe, Int.reduceEq, Int.reduceLT, Int.reduceLE, Int.reduceAdd, Int.reduceSub, Int.reduceMul, Int.reduceNeg, Int.reduceToNat, UInt8.reduceToNat, natLit]
theorem run_hasFault {v : V} {es : List Ev} {H : LH} (h : At H evC 8 v es) (hl : es.length ≤ 1048576) (fl : Nat) :
    run 94 [v] fl H = some (.bool (es.any (fun e => decide (e.kind = 10))), H) := by
  have e1 : ∀ (e : Ev) fl H, run 123 [.agg (evC e)] fl H = some (.bool (decide (e.kind = 10)), H) := by
    intro e fl H
    unfold run evC
    rw [Run_z Tryd.func123 rfl (by rfl : ok 123 = true) (by rfl : cfg.keep 123 = [0, 1, 2]) (by rfl : cfg.mode 123 = .pure) (by rfl : cfg.ord 123 = [])]
    simp (config := {contextual := true, maxSteps := 10000000, implicitDefEqProofs := false}) (disch := first | (and_intros <;> omega -splitDisjunctions) | (simp only [List.length_set, List.length_append, List.length_cons, List.length_nil]; and_intros <;> omega -splitDisjunctions) | fail) only [Tryd.f123, go_sem, ↓reduceIte, Nat.reduceEqDiff, Nat.reduceAdd, Nat.reduceMul, Nat.reduceLT, Nat.reduceLeDiff, reduceCtorEq, Int.reduceNe, Int.reduceEq, Int.reduceLT, Int.reduceLE, Int.reduceAdd, Int.reduceSub, Int.reduceMul, Int.reduceNeg, Int.reduceToNat, UInt8.reduceToNat, natLit, ty3, ty4, ty9, ty65]
  have i1 := h.isTup; have i2 := h.len; have i3 := h.lenOk ty39
  have key0 : ∀ fl, run 141 [v, .fn 123 []] fl H = some (.int .i64 (match es.findIdx? (fun e => decide (e.kind = 10)) with | some i => (i : Int) | none => -1), H) := by
    intro fl
    unfold run at *
    rw [Run_z Tryd.func141 rfl (by rfl : ok 141 = true) (by rfl : cfg.keep 141 = [0, 1, 4, 5, 7, 8, 9, 16]) (by rfl : cfg.mode 141 = .pure) (by rfl : cfg.ord 141 = [])]
    simp (config := {contextual := true, maxSteps := 10000000, implicitDefEqProofs := false}) (disch := first | (and_intros <;> omega -splitDisjunctions) | (simp only [List.length_set, List.length_append, List.length_cons, List.length_nil]; and_intros <;> omega -splitDisjunctions) | fail) only [i1, i2, i3, Tryd.f141, go_sem, ↓reduceIte, Nat.reduceEqDiff, Nat.reduceAdd, Nat.reduceMul, Nat.reduceLT, Nat.reduceLeDiff, reduceCtorEq, Int.reduceNe, Int.reduceEq, Int.reduceLT, Int.reduceLE, Int.reduceAdd, Int.reduceSub, Int.reduceMul, Int.reduceNeg, Int.reduceToNat, UInt8.reduceToNat, natLit, ty3, ty4, ty9, ty39, ty65]
    refine at_loopE fun c R hc hR => ?_
    have key : ∀ (m : Nat) (k : Nat) (kk : Int) (x4 x5 x9 x16 : Option V), es.length - k < m → kk = k → k ≤ es.length →
        zEv (leaveX (mkR Tryd.prog cfg ok [0, 1, 4, 5, 7, 8, 9, 16] H.length) .pure H [ResultVar.tmp 4]) (mkR Tryd.prog cfg ok [0, 1, 4, 5, 7, 8, 9, 16] H.length) (K.code (Code.loop c) :: K.blk 0 :: R) .nrm [some v, some (.fn 123 []), x4, x5, some (.int .i64 es.length), some (.int .i64 kk), x9, x16] (H) = some (.int .i64 (match (es.drop k).findIdx? (fun e => decide (e.kind = 10)) with | some i => ((i + k : Nat) : Int) | none => -1), H) := by
      intro m
      induction m with
      | zero => intro k kk x4 x5 x9 x16 hm; omega
      | succ m ih =>
        intro k kk x4 x5 x9 x16 hm hk hkl
        subst hk
        by_cases hlt : k < es.length
        rotate_left
        · have t1 : ((k : Int) < es.length) = False := eq_false (by omega)
          rw [List.drop_of_length_le (by omega)]
          rw [zEv_round hc, ← hR]
          simp (config := {contextual := true, maxSteps := 10000000, implicitDefEqProofs := false}) (disch := first | (and_intros <;> omega -splitDisjunctions) | (simp only [List.length_set, List.length_append, List.length_cons, List.length_nil]; and_intros <;> omega -splitDisjunctions) | fail) only [t1, Tryd.f141, go_sem, ↓reduceIte, Nat.reduceEqDiff, Nat.reduceAdd, Nat.reduceMul, Nat.reduceLT, Nat.reduceLeDiff, reduceCtorEq, Int.reduceNe, Int.reduceEq, Int.reduceLT, Int.reduceLE, Int.reduceAdd, Int.reduceSub, Int.reduceMul, Int.reduceNeg, Int.reduceToNat, UInt8.reduceToNat, natLit, ty3, ty4, ty9, ty39, ty65]
          rfl
        have t1 : ((k : Int) < es.length) = True := eq_true (by omega)
        have f1 := h.isTup; have f2 := h.len; have f3 := h.lenOk ty39; have f0 := h.one
        have f4 := fun hp => h.con hp
        have f5 := h.idx (T := ty Tryd.prog) (t := 39) (by simp only [elemI, sizeO, ty3, ty4, ty9, ty39, ty65])
        have f6 := h.loadD evC_len evZ
        have g6 := f6 k hlt
        have hd := List.drop_eq_getElem_cons hlt
        rw [← getD_of hlt evZ] at hd
        rw [hd, List.findIdx?_cons]
        rw [zEv_round hc, ← hR]
        simp (config := {contextual := true, maxSteps := 10000000, implicitDefEqProofs := false}) (disch := first | (and_intros <;> omega -splitDisjunctions) | (simp only [List.length_set, List.length_append, List.length_cons, List.length_nil]; and_intros <;> omega -splitDisjunctions) | fail) only [t1, g6, e1, f0, f1, f2, f3, f4, f5, f6, Tryd.f141, go_sem, ↓reduceIte, Nat.reduceEqDiff, Nat.reduceAdd, Nat.reduceMul, Nat.reduceLT, Nat.reduceLeDiff, reduceCtorEq, Int.reduceNe, Int.reduceEq, Int.reduceLT, Int.reduceLE, Int.reduceAdd, Int.reduceSub, Int.reduceMul, Int.reduceNeg, Int.reduceToNat, UInt8.reduceToNat, natLit, ty3, ty4, ty9, ty39, ty65]
        rw [hR]
        refine ite_E (fun w => ?_) (fun w => ?_)
        · rw [if_pos w]; simp
        · rw [if_neg w]
          rw [ih (k + 1) ((k : Int) + 1) _ _ _ _ (by omega) (by omega) (by omega)]
          cases (es.drop (k + 1)).findIdx? (fun e => decide (e.kind = 10)) with
          | none => rfl
          | some i => simp only [Option.map_some, show i + (k + 1) = i + 1 + k by omega]
    rw [key (es.length + 1) 0 0 _ _ _ _ (by omega) rfl (by omega), List.drop_zero]
    rfl
  have key1 : ∀ fl, run 122 [v, .fn 123 []] fl H = some (.bool (es.any (fun e => decide (e.kind = 10))), H) := by
    intro fl
    have hany : es.any (fun e => decide (e.kind = 10)) = decide (0 ≤ (match es.findIdx? (fun e => decide (e.kind = 10)) with | some i => (i : Int) | none => -1)) := by
      cases hf : es.findIdx? (fun e => decide (e.kind = 10)) with
      | none =>
        have := List.findIdx?_eq_none_iff.1 hf
        simp only [show ¬ ((0 : Int) ≤ -1) by decide, decide_false]
        rw [List.any_eq_false]; intro x hx; simp [this x hx]
      | some i =>
        simp only [Int.natCast_nonneg, decide_true]
        rw [List.any_eq_true]
        have := List.findIdx?_eq_some_iff_getElem.1 hf
        obtain ⟨hi, h1, _⟩ := this
        exact ⟨_, List.getElem_mem hi, h1⟩
    rw [hany]
    generalize (match es.findIdx? (fun e => decide (e.kind = 10)) with | some i => (i : Int) | none => -1) = n at *
    unfold run at *
    rw [Run_z Tryd.func122 rfl (by rfl : ok 122 = true) (by rfl : cfg.keep 122 = [0, 1, 4]) (by rfl : cfg.mode 122 = .pure) (by rfl : cfg.ord 122 = [])]
    simp (config := {contextual := true, maxSteps := 10000000, implicitDefEqProofs := false}) (disch := first | (and_intros <;> omega -splitDisjunctions) | (simp only [List.length_set, List.length_append, List.length_cons, List.length_nil]; and_intros <;> omega -splitDisjunctions) | fail) only [i1, key0, Tryd.f122, go_sem, ↓reduceIte, Nat.reduceEqDiff, Nat.reduceAdd, Nat.reduceMul, Nat.reduceLT, Nat.reduceLeDiff, reduceCtorEq, Int.reduceNe, Int.reduceEq, Int.reduceLT, Int.reduceLE, Int.reduceAdd, Int.reduceSub, Int.reduceMul, Int.reduceNeg, Int.reduceToNat, UInt8.reduceToNat, natLit, ty3]
  unfold run at *
  rw [Run_z Tryd.func94 rfl (by rfl : ok 94 = true) (by rfl : cfg.keep 94 = [0, 2]) (by rfl : cfg.mode 94 = .pure) (by rfl : cfg.ord 94 = [])]
  simp (config := {contextual := true, maxSteps := 10000000, implicitDefEqProofs := false}) (disch := first | (and_intros <;> omega -splitDisjunctions) | (simp only [List.length_set, List.length_append, List.length_cons, List.length_nil]; and_intros <;> omega -splitDisjunctions) | fail) only [i1, key1, Tryd.f94, go_sem, ↓reduceIte, Nat.reduceEqDiff, Nat.reduceAdd, Nat.reduceMul, Nat.reduceLT, Nat.reduceLeDiff, reduceCtorEq, Int.reduceNe, Int.reduceEq, Int.reduceLT, Int.reduceLE, Int.reduceAdd, Int.reduceSub, Int.reduceMul, Int.reduceNeg, Int.reduceToNat, UInt8.reduceToNat, natLit]
theorem any_fault {es : List Ev} (hn : nestedM es = true) : es.any (fun e => decide (e.kind = 10)) = decide (kd es (es.length - 1) = 10) := by
  have hk := nestedM_ok hn
  rw [Bool.eq_iff_iff, List.any_eq_true, decide_eq_true_iff]
  constructor
  · rintro ⟨x, hx, h10⟩
    obtain ⟨i, hi, rfl⟩ := List.getElem_of_mem hx
    have : ¬ i + 1 < es.length := fun h => hk.2.2.2 i h (by rw [kd, getD_of hi]; simpa using h10)
    rw [show es.length - 1 = i by omega, kd, getD_of hi]; simpa using h10
  · intro h
    refine ⟨es.getD (es.length - 1) evZ, by rw [getD_of (show es.length - 1 < es.length by omega)]; exact List.getElem_mem _, decide_eq_true h⟩
theorem run_imWhole {v : V} {es : List Ev} {H : LH} (h : At H evC 8 v es) (hes : ∀ e ∈ es, evCFit e) (hl : es.length ≤ 1048576) (hcap : capOk v) (fl : Nat) :
    run 48 [v] fl H = some (.bool (wholeM es), H) := by
  have n2 := fun fl => run_imTied h hes hl hcap fl
  have e1 := fun fl => run_hasFault h hl fl
  have i1 := h.isTup
  unfold wholeM
  unfold run at *
  rw [Run_z Tryd.func48 rfl (by rfl : ok 48 = true) (by rfl : cfg.keep 48 = [0, 2]) (by rfl : cfg.mode 48 = .pure) (by rfl : cfg.ord 48 = [])]
  by_cases hn : tiedM es = true
  rotate_left
  · have hn : tiedM es = false := by simpa using hn
    rw [hn] at n2 ⊢
    simp (config := {contextual := true, maxSteps := 10000000, implicitDefEqProofs := false}) (disch := first | (and_intros <;> omega -splitDisjunctions) | (simp only [List.length_set, List.length_append, List.length_cons, List.length_nil]; and_intros <;> omega -splitDisjunctions) | fail) only [n2, i1, Tryd.f48, go_sem, ↓reduceIte, Nat.reduceEqDiff, Nat.reduceAdd, Nat.reduceMul, Nat.reduceLT, Nat.reduceLeDiff, reduceCtorEq, Int.reduceNe, Int.reduceEq, Int.reduceLT, Int.reduceLE, Int.reduceAdd, Int.reduceSub, Int.reduceMul, Int.reduceNeg, Int.reduceToNat, UInt8.reduceToNat, natLit, ty4]
  rw [hn] at n2 ⊢
  have hn2 : nestedM es = true := by unfold tiedM at hn; rw [Bool.and_eq_true] at hn; exact hn.1
  rw [any_fault hn2] at e1
  simp (config := {contextual := true, maxSteps := 10000000, implicitDefEqProofs := false}) (disch := first | (and_intros <;> omega -splitDisjunctions) | (simp only [List.length_set, List.length_append, List.length_cons, List.length_nil]; and_intros <;> omega -splitDisjunctions) | fail) only [n2, e1, i1, Tryd.f48, go_sem, ↓reduceIte, Nat.reduceEqDiff, Nat.reduceAdd, Nat.reduceMul, Nat.reduceLT, Nat.reduceLeDiff, reduceCtorEq, Int.reduceNe, Int.reduceEq, Int.reduceLT, Int.reduceLE, Int.reduceAdd, Int.reduceSub, Int.reduceMul, Int.reduceNeg, Int.reduceToNat, UInt8.reduceToNat, natLit, ty4]
end Go.Proofs.YtcbjmggbbnpbpaaDoor.Lg
