/- Contracts over the logical machine (Nc7 Mt1 Mt2 Mt3 Mt4 Lines TxL0 Spot Hex Hex2 TString). No condition. -/
import Derived.Test.YtcbjmggbbnpbpaaM3
import Derived.Test.YtcbjmggbbnpbpaaLc
import Derived.Test.YtcbjmggbbnpbpaaLgE
namespace Go.Proofs.Ytcbjmggbbnpbpaa.Lg
set_option linter.unusedSimpArgs false
set_option linter.unusedVariables false
set_option maxRecDepth 100000
set_option maxHeartbeats 40000000
open Go.Proofs.Ytcbjmggbbnpbpaa

theorem okAl_I {es : List Ev} (i : Nat) : okAl es i = !(decide (kd es i = 6) && decide (dfI es i < 0)) := by
  unfold okAl dfI
  by_cases h : kd es i = 6
  · rw [if_pos h]
  · rw [decide_eq_false h, Bool.false_and, Bool.false_and]
theorem run_tied {H : LH} {v ve vu vd : V} {es : List Ev} (h : NsAt H v ve vu vd es) (hl : es.length ≤ 1048576) (hok : ∀ i, i < es.length → EvOk (evA es i)) (fl : Nat) :
    run 53 [.agg [v, ve, vu, vd]] fl H = some (.bool ((List.range es.length).all (okAl es)), H) := by
  have j1 := h.e.one; have j2 := h.u.one; have j3 := h.d.one; have j0 := h.l.one
  have j4 := h.e.isTup; have j5 := h.u.isTup; have j6 := h.d.isTup
  have i1 := h.l.isTup; have i2 := h.l.len; have i3 := h.l.lenOk ty29
  obtain ⟨w, G, e1, hxG, hw⟩ := run_defs (h.ext (Hx.app (L := [.cells [v, ve, vu, vd]]))) hl hok H.length
  have c2 : LH.cellsAt G H.length = some [v, ve, vu, vd] := by
    obtain ⟨L, rfl⟩ := hxG
    exact cellsAt_left (by rw [cellsAt_app0]; rfl)
  have hlG := hxG.len
  rw [List.length_append, List.length_singleton] at hlG
  have w1 := hw.isTup; have w2 := hw.one
  unfold run at *
  rw [Run_z Try.func53 rfl (by rfl : ok 53 = true) (by rfl : cfg.keep 53 = [0, 1, 2, 3, 4, 5, 9, 10, 11, 12, 25]) (by rfl : cfg.mode 53 = .pure) (by rfl : cfg.ord 53 = [])]
  simp (config := {contextual := true, maxSteps := 10000000, implicitDefEqProofs := false}) (disch := first | (and_intros <;> omega -splitDisjunctions) | (simp only [List.length_set, List.length_append, List.length_cons, List.length_nil]; and_intros <;> omega -splitDisjunctions) | fail) only [i1, i2, i3, j0, j1, j2, j3, j4, j5, j6, e1, c2, w1, w2, Try.f53, go_sem, ↓reduceIte, Nat.reduceEqDiff, Nat.reduceAdd, Nat.reduceMul, Nat.reduceLT, Nat.reduceLeDiff, reduceCtorEq, Int.reduceNe, Int.reduceEq, Int.reduceLT, Int.reduceLE, Int.reduceAdd, Int.reduceSub, Int.reduceMul, Int.reduceNeg, Int.reduceToNat, UInt8.reduceToNat, natLit, ty3, ty4, ty9, ty29, ty55, ty58, ty64]
  refine at_loopE fun c R hc hR => ?_
  have key : ∀ (m : Nat) (k : Nat) (kk : Int) (B : LH) (x0 x1 x2 x4 x5 x12 x25 : Option V), es.length - k < m → kk = k → k ≤ es.length → Hx G B →
      zEv (leaveX (mkR Try.prog cfg ok [0, 1, 2, 3, 4, 5, 9, 10, 11, 12, 25] H.length) .pure H [ResultVar.tmp 2]) (mkR Try.prog cfg ok [0, 1, 2, 3, 4, 5, 9, 10, 11, 12, 25] H.length) (K.code (Code.loop c) :: K.blk 0 :: R) .nrm [x0, x1, x2, some w, x4, x5, some v, some (.int .i64 es.length), some (.int .i64 kk), x12, x25] (B) = some (.bool (((List.range es.length).drop k).all (okAl es)), H) := by
    intro m
    induction m with
    | zero => intro k kk B x0 x1 x2 x4 x5 x12 x25 hm; omega
    | succ m ih =>
      intro k kk B x0 x1 x2 x4 x5 x12 x25 hm hk hkl hx
      subst hk
      by_cases hlt : k < es.length
      rotate_left
      · have t1 : ((k : Int) < es.length) = False := eq_false (by omega)
        rw [range_end (by omega)]
        rw [zEv_round hc, ← hR]
        simp (config := {contextual := true, maxSteps := 10000000, implicitDefEqProofs := false}) (disch := first | (and_intros <;> omega -splitDisjunctions) | (simp only [List.length_set, List.length_append, List.length_cons, List.length_nil]; and_intros <;> omega -splitDisjunctions) | fail) only [t1, Try.f53, go_sem, ↓reduceIte, Nat.reduceEqDiff, Nat.reduceAdd, Nat.reduceMul, Nat.reduceLT, Nat.reduceLeDiff, reduceCtorEq, Int.reduceNe, Int.reduceEq, Int.reduceLT, Int.reduceLE, Int.reduceAdd, Int.reduceSub, Int.reduceMul, Int.reduceNeg, Int.reduceToNat, UInt8.reduceToNat, natLit, ty3, ty4, ty9, ty29, ty55, ty58, ty64]
        rfl
      have t1 : ((k : Int) < es.length) = True := eq_true (by omega)
      have hlB := hx.len
      have rB := (h.ext ((Hx.app.trans hxG).trans hx)).l
      have f1 := rB.isTup; have f2 := rB.len; have f3 := rB.lenOk ty29; have f0 := rB.one
      have f4 := fun hp => rB.con hp
      have f5 := rB.idx (T := ty Try.prog) (t := 29) (by simp only [elemI, sizeO, ty3, ty4, ty9, ty29, ty58])
      have f6 := rB.loadD evC_len evZ
      have g6 := f6 k hlt
      have rW := hw.ext hx
      have s1 := fun L n K => (rW.ext (Hx.app (L := L))).load1 0 (fun x => .int .i64 x) (fun _ => rfl) k (by simpa using hlt) n K
      have s2 := fun L => (rW.ext (Hx.app (L := L))).con (by simp; omega)
      have s3 := rW.isTup; have s4 := rW.len; have s5 := rW.one; have s6 := rW.idx (T := ty Try.prog) (t := 55) (by simp only [elemI, sizeO, ty3, ty55])
      simp only [List.length_map, List.length_range] at s4 s6
      rw [rangeD hlt] at s1
      rw [range_drop hlt, List.all_cons]
      unfold run evC at *
      rw [zEv_round hc, ← hR]
      simp (config := {contextual := true, maxSteps := 10000000, implicitDefEqProofs := false}) (disch := first | (and_intros <;> omega -splitDisjunctions) | (simp only [List.length_set, List.length_append, List.length_cons, List.length_nil]; and_intros <;> omega -splitDisjunctions) | fail) only [t1, g6, s1, s2, s3, s4, s5, s6, f0, f1, f2, f3, f4, f5, f6, Try.f53, go_sem, ↓reduceIte, Nat.reduceEqDiff, Nat.reduceAdd, Nat.reduceMul, Nat.reduceLT, Nat.reduceLeDiff, reduceCtorEq, Int.reduceNe, Int.reduceEq, Int.reduceLT, Int.reduceLE, Int.reduceAdd, Int.reduceSub, Int.reduceMul, Int.reduceNeg, Int.reduceToNat, UInt8.reduceToNat, natLit, ty3, ty4, ty9, ty29, ty55, ty58, ty64]
      rw [hR]
      refine ite_E (fun w6 => ?_) (fun w6 => ?_)
      · refine ite_E (fun w => ?_) (fun w => ?_)
        · have : okAl es k = false := by rw [okAl_I, decide_eq_true (show kd es k = 6 from w6), decide_eq_true w]; rfl
          rw [this, Bool.false_and]
        · have : okAl es k = true := by rw [okAl_I, decide_eq_false w, Bool.and_false]; rfl
          rw [this, Bool.true_and]
          exact ih (k + 1) ((k : Int) + 1) _ _ _ _ _ _ _ _ (by omega) (by omega) (by omega) (hx.trans Hx.app)
      · have : okAl es k = true := by rw [okAl_I, decide_eq_false (show ¬ kd es k = 6 from w6), Bool.false_and]; rfl
        rw [this, Bool.true_and]
        exact ih (k + 1) ((k : Int) + 1) _ _ _ _ _ _ _ _ (by omega) (by omega) (by omega) (hx.trans Hx.app)
  exact key (es.length + 1) 0 0 G _ _ _ _ _ _ _ (by omega) rfl (by omega) (Hx.refl _)
theorem run_imTied {v : V} {es : List Ev} {H : LH} (h : At H evC 8 v es) (hes : ∀ e ∈ es, evCFit e) (hl : es.length ≤ 1048576) (hcap : capOk v) (fl : Nat) :
    run 29 [v] fl H = some (.bool (tiedM es), H) := by
  have n2 := fun fl => run_imNested v es fl H h hes hl hcap
  have i1 := h.isTup
  rw [tiedM_al]
  by_cases hn : nestedM es = true
  rotate_left
  · have hn : nestedM es = false := by simpa using hn
    rw [hn] at n2 ⊢
    unfold run at *
    rw [Run_z Try.func29 rfl (by rfl : ok 29 = true) (by rfl : cfg.keep 29 = [0, 2]) (by rfl : cfg.mode 29 = .pure) (by rfl : cfg.ord 29 = [])]
    simp (config := {contextual := true, maxSteps := 10000000, implicitDefEqProofs := false}) (disch := first | (and_intros <;> omega -splitDisjunctions) | (simp only [List.length_set, List.length_append, List.length_cons, List.length_nil]; and_intros <;> omega -splitDisjunctions) | fail) only [n2, i1, Try.f29, go_sem, ↓reduceIte, Nat.reduceEqDiff, Nat.reduceAdd, Nat.reduceMul, Nat.reduceLT, Nat.reduceLeDiff, reduceCtorEq, Int.reduceNe, Int.reduceEq, Int.reduceLT, Int.reduceLE, Int.reduceAdd, Int.reduceSub, Int.reduceMul, Int.reduceNeg, Int.reduceToNat, UInt8.reduceToNat, natLit]
  rw [hn] at n2 ⊢
  obtain ⟨w, G, e1, hx, ve, vu, vd, rfl, hE, hU, hD⟩ := run_nestOf h hl (nestedM_bal hn) H.length
  have hN : NsAt G v ve vu vd es := ⟨h.ext hx, hE.at (fun x => rfl), hU.at (fun x => rfl), hD.at (fun x => rfl)⟩
  have e2 := fun fl => run_tied hN hl (nestedM_ok hn).2.2.1 fl
  unfold run at *
  rw [Run_z Try.func29 rfl (by rfl : ok 29 = true) (by rfl : cfg.keep 29 = [0, 2]) (by rfl : cfg.mode 29 = .pure) (by rfl : cfg.ord 29 = [])]
  simp (config := {contextual := true, maxSteps := 10000000, implicitDefEqProofs := false}) (disch := first | (and_intros <;> omega -splitDisjunctions) | (simp only [List.length_set, List.length_append, List.length_cons, List.length_nil]; and_intros <;> omega -splitDisjunctions) | fail) only [n2, i1, e1, e2, Try.f29, go_sem, ↓reduceIte, Nat.reduceEqDiff, Nat.reduceAdd, Nat.reduceMul, Nat.reduceLT, Nat.reduceLeDiff, reduceCtorEq, Int.reduceNe, Int.reduceEq, Int.reduceLT, Int.reduceLE, Int.reduceAdd, Int.reduceSub, Int.reduceMul, Int.reduceNeg, Int.reduceToNat, UInt8.reduceToNat, natLit]
theorem run_hasFault {v : V} {es : List Ev} {H : LH} (h : At H evC 8 v es) (hl : es.length ≤ 1048576) (fl : Nat) :
    run 33 [v] fl H = some (.bool (es.any (fun e => decide (e.kind = 10))), H) := by
  have e1 : ∀ (e : Ev) fl H, run 64 [.agg (evC e)] fl H = some (.bool (decide (e.kind = 10)), H) := by
    intro e fl H
    unfold run evC
    rw [Run_z Try.func64 rfl (by rfl : ok 64 = true) (by rfl : cfg.keep 64 = [0, 1, 2]) (by rfl : cfg.mode 64 = .pure) (by rfl : cfg.ord 64 = [])]
    simp (config := {contextual := true, maxSteps := 10000000, implicitDefEqProofs := false}) (disch := first | (and_intros <;> omega -splitDisjunctions) | (simp only [List.length_set, List.length_append, List.length_cons, List.length_nil]; and_intros <;> omega -splitDisjunctions) | fail) only [Try.f64, go_sem, ↓reduceIte, Nat.reduceEqDiff, Nat.reduceAdd, Nat.reduceMul, Nat.reduceLT, Nat.reduceLeDiff, reduceCtorEq, Int.reduceNe, Int.reduceEq, Int.reduceLT, Int.reduceLE, Int.reduceAdd, Int.reduceSub, Int.reduceMul, Int.reduceNeg, Int.reduceToNat, UInt8.reduceToNat, natLit, ty3, ty4, ty9, ty58]
  have i1 := h.isTup; have i2 := h.len; have i3 := h.lenOk ty29
  have key0 : ∀ fl, run 81 [v, .fn 64 []] fl H = some (.int .i64 (match es.findIdx? (fun e => decide (e.kind = 10)) with | some i => (i : Int) | none => -1), H) := by
    intro fl
    unfold run at *
    rw [Run_z Try.func81 rfl (by rfl : ok 81 = true) (by rfl : cfg.keep 81 = [0, 1, 4, 5, 7, 8, 9, 16]) (by rfl : cfg.mode 81 = .pure) (by rfl : cfg.ord 81 = [])]
    simp (config := {contextual := true, maxSteps := 10000000, implicitDefEqProofs := false}) (disch := first | (and_intros <;> omega -splitDisjunctions) | (simp only [List.length_set, List.length_append, List.length_cons, List.length_nil]; and_intros <;> omega -splitDisjunctions) | fail) only [i1, i2, i3, Try.f81, go_sem, ↓reduceIte, Nat.reduceEqDiff, Nat.reduceAdd, Nat.reduceMul, Nat.reduceLT, Nat.reduceLeDiff, reduceCtorEq, Int.reduceNe, Int.reduceEq, Int.reduceLT, Int.reduceLE, Int.reduceAdd, Int.reduceSub, Int.reduceMul, Int.reduceNeg, Int.reduceToNat, UInt8.reduceToNat, natLit, ty3, ty4, ty9, ty29, ty58]
    refine at_loopE fun c R hc hR => ?_
    have key : ∀ (m : Nat) (k : Nat) (kk : Int) (x4 x5 x9 x16 : Option V), es.length - k < m → kk = k → k ≤ es.length →
        zEv (leaveX (mkR Try.prog cfg ok [0, 1, 4, 5, 7, 8, 9, 16] H.length) .pure H [ResultVar.tmp 4]) (mkR Try.prog cfg ok [0, 1, 4, 5, 7, 8, 9, 16] H.length) (K.code (Code.loop c) :: K.blk 0 :: R) .nrm [some v, some (.fn 64 []), x4, x5, some (.int .i64 es.length), some (.int .i64 kk), x9, x16] (H) = some (.int .i64 (match (es.drop k).findIdx? (fun e => decide (e.kind = 10)) with | some i => ((i + k : Nat) : Int) | none => -1), H) := by
      intro m
      induction m with
      | zero => intro k kk x4 x5 x9 x16 hm; omega
      | succ m ih =>
        intro k kk x4 x5 x9 x16 hm hk hkl
        subst hk
        by_cases hlt : k < es.length
        rotate_left
        · have t1 : ((k : Int) < es.length) = False := eq_false (by omega)
          rw [List.drop_of_length_le (by omega)]
          rw [zEv_round hc, ← hR]
          simp (config := {contextual := true, maxSteps := 10000000, implicitDefEqProofs := false}) (disch := first | (and_intros <;> omega -splitDisjunctions) | (simp only [List.length_set, List.length_append, List.length_cons, List.length_nil]; and_intros <;> omega -splitDisjunctions) | fail) only [t1, Try.f81, go_sem, ↓reduceIte, Nat.reduceEqDiff, Nat.reduceAdd, Nat.reduceMul, Nat.reduceLT, Nat.reduceLeDiff, reduceCtorEq, Int.reduceNe, Int.reduceEq, Int.reduceLT, Int.reduceLE, Int.reduceAdd, Int.reduceSub, Int.reduceMul, Int.reduceNeg, Int.reduceToNat, UInt8.reduceToNat, natLit, ty3, ty4, ty9, ty29, ty58]
          rfl
        have t1 : ((k : Int) < es.length) = True := eq_true (by omega)
        have f1 := h.isTup; have f2 := h.len; have f3 := h.lenOk ty29; have f0 := h.one
        have f4 := fun hp => h.con hp
        have f5 := h.idx (T := ty Try.prog) (t := 29) (by simp only [elemI, sizeO, ty3, ty4, ty9, ty29, ty58])
        have f6 := h.loadD evC_len evZ
        have g6 := f6 k hlt
        have hd := List.drop_eq_getElem_cons hlt
        rw [← getD_of hlt evZ] at hd
        rw [hd, List.findIdx?_cons]
        rw [zEv_round hc, ← hR]
        simp (config := {contextual := true, maxSteps := 10000000, implicitDefEqProofs := false}) (disch := first | (and_intros <;> omega -splitDisjunctions) | (simp only [List.length_set, List.length_append, List.length_cons, List.length_nil]; and_intros <;> omega -splitDisjunctions) | fail) only [t1, g6, e1, f0, f1, f2, f3, f4, f5, f6, Try.f81, go_sem, ↓reduceIte, Nat.reduceEqDiff, Nat.reduceAdd, Nat.reduceMul, Nat.reduceLT, Nat.reduceLeDiff, reduceCtorEq, Int.reduceNe, Int.reduceEq, Int.reduceLT, Int.reduceLE, Int.reduceAdd, Int.reduceSub, Int.reduceMul, Int.reduceNeg, Int.reduceToNat, UInt8.reduceToNat, natLit, ty3, ty4, ty9, ty29, ty58]
        rw [hR]
        refine ite_E (fun w => ?_) (fun w => ?_)
        · rw [if_pos w]; simp
        · rw [if_neg w]
          rw [ih (k + 1) ((k : Int) + 1) _ _ _ _ (by omega) (by omega) (by omega)]
          cases (es.drop (k + 1)).findIdx? (fun e => decide (e.kind = 10)) with
          | none => rfl
          | some i => simp only [Option.map_some, show i + (k + 1) = i + 1 + k by omega]
    rw [key (es.length + 1) 0 0 _ _ _ _ (by omega) rfl (by omega), List.drop_zero]
    rfl
  have key1 : ∀ fl, run 63 [v, .fn 64 []] fl H = some (.bool (es.any (fun e => decide (e.kind = 10))), H) := by
    intro fl
    have hany : es.any (fun e => decide (e.kind = 10)) = decide (0 ≤ (match es.findIdx? (fun e => decide (e.kind = 10)) with | some i => (i : Int) | none => -1)) := by
      cases hf : es.findIdx? (fun e => decide (e.kind = 10)) with
      | none =>
        have := List.findIdx?_eq_none_iff.1 hf
        simp only [show ¬ ((0 : Int) ≤ -1) by decide, decide_false]
        rw [List.any_eq_false]; intro x hx; simp [this x hx]
      | some i =>
        simp only [Int.natCast_nonneg, decide_true]
        rw [List.any_eq_true]
        have := List.findIdx?_eq_some_iff_getElem.1 hf
        obtain ⟨hi, h1, _⟩ := this
        exact ⟨_, List.getElem_mem hi, h1⟩
    rw [hany]
    generalize (match es.findIdx? (fun e => decide (e.kind = 10)) with | some i => (i : Int) | none => -1) = n at *
    unfold run at *
    rw [Run_z Try.func63 rfl (by rfl : ok 63 = true) (by rfl : cfg.keep 63 = [0, 1, 4]) (by rfl : cfg.mode 63 = .pure) (by rfl : cfg.ord 63 = [])]
    simp (config := {contextual := true, maxSteps := 10000000, implicitDefEqProofs := false}) (disch := first | (and_intros <;> omega -splitDisjunctions) | (simp only [List.length_set, List.length_append, List.length_cons, List.length_nil]; and_intros <;> omega -splitDisjunctions) | fail) only [i1, key0, Try.f63, go_sem, ↓reduceIte, Nat.reduceEqDiff, Nat.reduceAdd, Nat.reduceMul, Nat.reduceLT, Nat.reduceLeDiff, reduceCtorEq, Int.reduceNe, Int.reduceEq, Int.reduceLT, Int.reduceLE, Int.reduceAdd, Int.reduceSub, Int.reduceMul, Int.reduceNeg, Int.reduceToNat, UInt8.reduceToNat, natLit, ty3]
  unfold run at *
  rw [Run_z Try.func33 rfl (by rfl : ok 33 = true) (by rfl : cfg.keep 33 = [0, 2]) (by rfl : cfg.mode 33 = .pure) (by rfl : cfg.ord 33 = [])]
  simp (config := {contextual := true, maxSteps := 10000000, implicitDefEqProofs := false}) (disch := first | (and_intros <;> omega -splitDisjunctions) | (simp only [List.length_set, List.length_append, List.length_cons, List.length_nil]; and_intros <;> omega -splitDisjunctions) | fail) only [i1, key1, Try.f33, go_sem, ↓reduceIte, Nat.reduceEqDiff, Nat.reduceAdd, Nat.reduceMul, Nat.reduceLT, Nat.reduceLeDiff, reduceCtorEq, Int.reduceNe, Int.reduceEq, Int.reduceLT, Int.reduceLE, Int.reduceAdd, Int.reduceSub, Int.reduceMul, Int.reduceNeg, Int.reduceToNat, UInt8.reduceToNat, natLit]
theorem any_fault {es : List Ev} (hn : nestedM es = true) : es.any (fun e => decide (e.kind = 10)) = decide (kd es (es.length - 1) = 10) := by
  have hk := nestedM_ok hn
  rw [Bool.eq_iff_iff, List.any_eq_true, decide_eq_true_iff]
  constructor
  · rintro ⟨x, hx, h10⟩
    obtain ⟨i, hi, rfl⟩ := List.getElem_of_mem hx
    have : ¬ i + 1 < es.length := fun h => hk.2.2.2 i h (by rw [kd, getD_of hi]; simpa using h10)
    rw [show es.length - 1 = i by omega, kd, getD_of hi]; simpa using h10
  · intro h
    refine ⟨es.getD (es.length - 1) evZ, by rw [getD_of (show es.length - 1 < es.length by omega)]; exact List.getElem_mem _, decide_eq_true h⟩
end Go.Proofs.Ytcbjmggbbnpbpaa.Lg
namespace Go.Proofs.Ytcbjmggbbnpbpaa.Lg
set_option linter.unusedSimpArgs false
set_option linter.unusedVariables false
set_option maxRecDepth 100000
set_option maxHeartbeats 40000000
open Go.Proofs.Ytcbjmggbbnpbpaa

theorem At.tl {α : Type} {enc : α → List V} {z : Nat} {H : LH} {v : V} {x : α} {xs : List α} (h : At H enc z v (x :: xs)) (hz : ∀ x, (enc x).length = z) (hc : capOk v) :
    ∃ w, sliceV v (some (.int .i64 1)) none = some w ∧ At H enc z w xs ∧ capOk w ∧ w.isTup = false ∧ w.cells = [w] := by
  rcases h with h | ⟨b, o, c, l, rfl, h1, h2, h3⟩
  · cases h.1
  · have hc : (x :: xs).length ≤ c := hc
    rw [List.length_cons] at *
    refine ⟨.sl b (o + 1 * z) z (xs.length + 1 - 1) (c - 1), ?_, ?_, ?_, rfl, rfl⟩
    · rw [sliceV_sl]
      simp only [hiV, boundV, grd]
      rw [if_pos (by omega)]
      simp only [cutL, grd]
      have : (1 : Int).toNat = 1 := rfl
      rw [this, if_pos (by omega)]
    · refine .inr ⟨b, o + 1 * z, c - 1, l, rfl, h1, ?_, ?_⟩
      · rw [Nat.add_mul] at h2; omega
      · have := congrArg (List.drop z) h3
        have hr : List.drop z (rows enc (x :: xs)) = rows enc xs := by
          have := rows_drop (enc := enc) hz (x :: xs) 1
          rw [Nat.one_mul] at this
          exact this
        rw [hr, List.drop_take, List.drop_drop] at this
        rw [← this]
        congr 1
        · rw [Nat.add_mul]; omega
        · congr 1; omega
    · show xs.length + 1 - 1 ≤ c - 1
      omega
theorem At.slOk {α : Type} {enc : α → List V} {z : Nat} {H : LH} {v : V} {xs : List α} (h : At H enc z v xs) {T : TypeId → Option TI} {t : TypeId} (hT : sizeO (elemI T t) = some z) (hE : (elemI T t).isSome = true) : sliceOk T t v = true := by
  rcases h with ⟨rfl, rfl | rfl⟩ | ⟨b, o, c, l, rfl, h1, h2, h3⟩
  · exact hE
  · exact hE
  · rw [sliceOk_sl, hT]; simp
theorem run_imSegOk (s : Sg) (fl : Nat) (H : LH) : run 75 [.agg (sgC s)] fl H = some (.bool (sgOk s), H) := by
  have e1 := fun a b c fl H => run_within a b c fl H
  unfold sgOk
  unfold run sgC at *
  rw [Run_z Try.func75 rfl (by rfl : ok 75 = true) (by rfl : cfg.keep 75 = [0, 1, 2, 4, 5, 16, 21]) (by rfl : cfg.mode 75 = .pure) (by rfl : cfg.ord 75 = [])]
  simp (config := {contextual := true, maxSteps := 10000000, implicitDefEqProofs := false}) (disch := first | (and_intros <;> omega -splitDisjunctions) | (simp only [List.length_set, List.length_append, List.length_cons, List.length_nil]; and_intros <;> omega -splitDisjunctions) | fail) only [e1, Try.f75, go_sem, ↓reduceIte, Nat.reduceEqDiff, Nat.reduceAdd, Nat.reduceMul, Nat.reduceLT, Nat.reduceLeDiff, reduceCtorEq, Int.reduceNe, Int.reduceEq, Int.reduceLT, Int.reduceLE, Int.reduceAdd, Int.reduceSub, Int.reduceMul, Int.reduceNeg, Int.reduceToNat, UInt8.reduceToNat, natLit, ty3, ty9, ty81]
  clear e1
  (repeat' (refine ite_E (fun _ => ?_) (fun _ => ?_))) <;> (refine congrArg (fun b => some (V.bool b, H)) ?_; grind)
theorem run_spSegOk (s : Sg) (fl : Nat) (H : LH) : run 41 [.agg (sgC s)] fl H = some (.bool (sgOk s), H) := by
  unfold sgOk
  unfold run sgC at *
  rw [Run_z Try.func41 rfl (by rfl : ok 41 = true) (by rfl : cfg.keep 41 = [0, 1, 2, 3]) (by rfl : cfg.mode 41 = .pure) (by rfl : cfg.ord 41 = [])]
  simp (config := {contextual := true, maxSteps := 10000000, implicitDefEqProofs := false}) (disch := first | (and_intros <;> omega -splitDisjunctions) | (simp only [List.length_set, List.length_append, List.length_cons, List.length_nil]; and_intros <;> omega -splitDisjunctions) | fail) only [Try.f41, go_sem, ↓reduceIte, Nat.reduceEqDiff, Nat.reduceAdd, Nat.reduceMul, Nat.reduceLT, Nat.reduceLeDiff, reduceCtorEq, Int.reduceNe, Int.reduceEq, Int.reduceLT, Int.reduceLE, Int.reduceAdd, Int.reduceSub, Int.reduceMul, Int.reduceNeg, Int.reduceToNat, UInt8.reduceToNat, natLit, ty3, ty9, ty81]
  (repeat' (refine ite_E (fun _ => ?_) (fun _ => ?_))) <;> (refine congrArg (fun b => some (V.bool b, H)) ?_; grind)
theorem all_drop {α : Type} {p : α → Bool} {xs : List α} {i : Nat} (hi : i < xs.length) (d : α) : (xs.drop i).all p = (p (xs.getD i d) && (xs.drop (i + 1)).all p) := by
  rw [List.drop_eq_getElem_cons hi, List.all_cons, getD_of hi]
theorem run_segsOk (v : V) (xs : List Sg) (fl : Nat) (H : LH) (h : At H sgC 3 v xs) (hl : xs.length ≤ 1048576) : run 51 [v] fl H = some (.bool (xs.all sgOk), H) := by
  have e1 := fun s fl H => run_imSegOk s fl H
  have f1 := h.isTup; have f2 := h.len; have f3 := h.lenOk ty47; have f0 := h.one
  have f4 := fun hp => h.con hp
  have f5 := h.idx (T := ty Try.prog) (t := 47) (by simp only [elemI, sizeO, ty3, ty9, ty47, ty81])
  have f6 := h.loadD sgC_len sg0
  unfold run at *
  rw [Run_z Try.func51 rfl (by rfl : ok 51 = true) (by rfl : cfg.keep 51 = [0, 2, 4, 5, 6, 7, 8, 13]) (by rfl : cfg.mode 51 = .pure) (by rfl : cfg.ord 51 = [])]
  simp (config := {contextual := true, maxSteps := 10000000, implicitDefEqProofs := false}) (disch := first | (and_intros <;> omega -splitDisjunctions) | (simp only [List.length_set, List.length_append, List.length_cons, List.length_nil]; and_intros <;> omega -splitDisjunctions) | fail) only [f0, f1, f2, f3, f4, f5, f6, Try.f51, go_sem, ↓reduceIte, Nat.reduceEqDiff, Nat.reduceAdd, Nat.reduceMul, Nat.reduceLT, Nat.reduceLeDiff, reduceCtorEq, Int.reduceNe, Int.reduceEq, Int.reduceLT, Int.reduceLE, Int.reduceAdd, Int.reduceSub, Int.reduceMul, Int.reduceNeg, Int.reduceToNat, UInt8.reduceToNat, natLit, ty3, ty4, ty9, ty47, ty81]
  refine at_loopE fun c R hc hR => ?_
  have key : ∀ (m : Nat) (i : Nat) (j : Int) (A : LH) (x4 x8 x13 : Option V), xs.length - i < m → j = (i : Int) → i ≤ xs.length → Hx H A → (xs.drop i).all sgOk = xs.all sgOk →
      zEv (leaveX (mkR Try.prog cfg ok [0, 2, 4, 5, 6, 7, 8, 13] H.length) .pure H [ResultVar.tmp 2]) (mkR Try.prog cfg ok [0, 2, 4, 5, 6, 7, 8, 13] H.length) (K.code (Code.loop c) :: K.blk 0 :: R) .nrm [some v, some (.bool false), x4, some v, some (.int .i64 xs.length), some (.int .i64 j), x8, x13] (A) = some (.bool (xs.all sgOk), H) := by
    intro m
    induction m with
    | zero => intro i j A x4 x8 x13 hm; omega
    | succ m ih =>
      intro i j A x4 x8 x13 hm hj hi hA hf
      subst hj
      have hB := h.ext hA
      have hle := hA.len
      have g1 := hB.isTup; have g2 := hB.len; have g3 := hB.lenOk ty47; have g0 := hB.one
      have g4 := fun hp => hB.con hp
      have g5 := hB.idx (T := ty Try.prog) (t := 47) (by simp only [elemI, sizeO, ty3, ty9, ty47, ty81])
      have g6 := hB.loadD sgC_len sg0
      rcases Nat.lt_or_ge i xs.length with hlt | hge
      · have g7 := fun K => g6 i hlt K
        generalize hs : xs.getD i sg0 = s at *
        have e2 := fun fl H => e1 s fl H
        rw [all_drop hlt sg0, hs] at hf
        unfold sgC at g7 e2
        have g6 := g7
        have t0 : ((i : Int) < xs.length) = True := eq_true (by omega)
        rw [zEv_round hc, ← hR]
        simp (config := {contextual := true, maxSteps := 10000000, implicitDefEqProofs := false}) (disch := first | (and_intros <;> omega -splitDisjunctions) | (simp only [List.length_set, List.length_append, List.length_cons, List.length_nil]; and_intros <;> omega -splitDisjunctions) | fail) only [g0, g1, g2, g3, g4, g5, g6, e2, t0, hle, Try.f51, go_sem, ↓reduceIte, Nat.reduceEqDiff, Nat.reduceAdd, Nat.reduceMul, Nat.reduceLT, Nat.reduceLeDiff, reduceCtorEq, Int.reduceNe, Int.reduceEq, Int.reduceLT, Int.reduceLE, Int.reduceAdd, Int.reduceSub, Int.reduceMul, Int.reduceNeg, Int.reduceToNat, UInt8.reduceToNat, natLit, ty3, ty4, ty9, ty47, ty81]
        try rw [hR]
        refine ite_E2 (fun h1 => ?_) (fun h1 => ?_)
        · rw [eq_true_of_ne_false h1, Bool.true_and] at hf
          exact ih (i + 1) _ _ _ _ _ (by omega) (by omega) (by omega) (hA.trans Hx.app) hf
        · rw [h1, Bool.false_and] at hf
          rw [← hf]
      · rw [List.drop_of_length_le (by omega)] at hf
        have t0 : ((i : Int) < xs.length) = False := eq_false (by omega)
        rw [zEv_round hc, ← hR]
        simp (config := {contextual := true, maxSteps := 10000000, implicitDefEqProofs := false}) (disch := first | (and_intros <;> omega -splitDisjunctions) | (simp only [List.length_set, List.length_append, List.length_cons, List.length_nil]; and_intros <;> omega -splitDisjunctions) | fail) only [g0, g1, g2, g3, g4, g5, g6, t0, Try.f51, go_sem, ↓reduceIte, Nat.reduceEqDiff, Nat.reduceAdd, Nat.reduceMul, Nat.reduceLT, Nat.reduceLeDiff, reduceCtorEq, Int.reduceNe, Int.reduceEq, Int.reduceLT, Int.reduceLE, Int.reduceAdd, Int.reduceSub, Int.reduceMul, Int.reduceNeg, Int.reduceToNat, UInt8.reduceToNat, natLit, ty3, ty4, ty9, ty47, ty81]
        rw [← hf]; rfl
  exact key (xs.length + 1) 0 _ H _ _ _ (by omega) rfl (by omega) (Hx.refl H) (by simp)
end Go.Proofs.Ytcbjmggbbnpbpaa.Lg
namespace Go.Proofs.Ytcbjmggbbnpbpaa.Lg
set_option linter.unusedSimpArgs false
set_option linter.unusedVariables false
set_option maxRecDepth 100000
set_option maxHeartbeats 40000000
open Go.Proofs.Ytcbjmggbbnpbpaa

def prevB (ps : List Sg) : Nat → Bool
  | 0 => false
  | k + 1 => decide ((ps.getD k sg0).kind = 5)
theorem once_drop {ps : List Sg} {k : Nat} (hk : k < ps.length) (b : Bool) : onceT b (ps.drop k) = if (ps.getD k sg0).kind = 5 ∧ b = true then onceT true (ps.drop (k + 1)) else ps.getD k sg0 :: onceT (prevB ps (k + 1)) (ps.drop (k + 1)) := by
  rw [List.drop_eq_getElem_cons hk, onceT, getD_of hk, prevB, getD_of hk]
theorem run_l17Once {v : V} {ps : List Sg} {H : LH} (h : At H sgC 3 v ps) (hl : ps.length ≤ 1048576) (fl : Nat) :
    Ret (fun w H' => Hx H H' ∧ Own H.length H' sgC 3 w (onceT false ps)) (run 71 [v] fl H) := by
  have i1 := h.isTup; have i2 := h.len; have i3 := h.lenOk ty47
  unfold run
  rw [Run_z Try.func71 rfl (by rfl : ok 71 = true) (by rfl : cfg.keep 71 = [0, 2, 3, 4, 5, 7, 8, 9, 10, 29]) (by rfl : cfg.mode 71 = .fresh) (by rfl : cfg.ord 71 = [])]
  simp (config := {contextual := true, maxSteps := 10000000, implicitDefEqProofs := false}) (disch := first | (and_intros <;> omega -splitDisjunctions) | (simp only [List.length_set, List.length_append, List.length_cons, List.length_nil]; and_intros <;> omega -splitDisjunctions) | fail) only [i1, i2, i3, Try.f71, go_sem, ↓reduceIte, Nat.reduceEqDiff, Nat.reduceAdd, Nat.reduceMul, Nat.reduceLT, Nat.reduceLeDiff, reduceCtorEq, Int.reduceNe, Int.reduceEq, Int.reduceLT, Int.reduceLE, Int.reduceAdd, Int.reduceSub, Int.reduceMul, Int.reduceNeg, Int.reduceToNat, UInt8.reduceToNat, natLit, ty3, ty9, ty47, ty81]
  refine at_loopR fun c R hc hR => ?_
  have key : ∀ (m : Nat) (k : Nat) (kk : Int) (o : V) (xs : List Sg) (B : LH) (x2 x4 x5 x10 x29 : Option V), ps.length - k < m → kk = k → k ≤ ps.length → Hx H B → Own H.length B sgC 3 o xs → xs.length ≤ k → xs ++ onceT (prevB ps k) (ps.drop k) = onceT false ps →
      Ret (fun w H' => Hx H H' ∧ Own H.length H' sgC 3 w (onceT false ps)) (zEv (leaveX (mkR Try.prog cfg ok [0, 2, 3, 4, 5, 7, 8, 9, 10, 29] H.length) .fresh H [ResultVar.tmp 2]) (mkR Try.prog cfg ok [0, 2, 3, 4, 5, 7, 8, 9, 10, 29] H.length) (K.code (Code.loop c) :: K.blk 0 :: R) .nrm [some v, x2, some o, x4, x5, some v, some (.int .i64 ps.length), some (.int .i64 kk), x10, x29] (B)) := by
    intro m
    induction m with
    | zero => intro k kk o xs B x2 x4 x5 x10 x29 hm; omega
    | succ m ih =>
      intro k kk o xs B x2 x4 x5 x10 x29 hm hk hkl hx ho hlx hfin
      subst hk
      have hlB := hx.len
      have o1 := (ho.at sgC_len).isTup; have o2 := (ho.at sgC_len).one
      by_cases hlt : k < ps.length
      rotate_left
      · have t1 : ((k : Int) < ps.length) = False := eq_false (by omega)
        rw [List.drop_of_length_le (by omega), onceT, List.append_nil] at hfin
        rw [zEv_round hc, ← hR]
        simp (config := {contextual := true, maxSteps := 10000000, implicitDefEqProofs := false}) (disch := first | (and_intros <;> omega -splitDisjunctions) | (simp only [List.length_set, List.length_append, List.length_cons, List.length_nil]; and_intros <;> omega -splitDisjunctions) | fail) only [t1, o1, o2, Try.f71, go_sem, ↓reduceIte, Nat.reduceEqDiff, Nat.reduceAdd, Nat.reduceMul, Nat.reduceLT, Nat.reduceLeDiff, reduceCtorEq, Int.reduceNe, Int.reduceEq, Int.reduceLT, Int.reduceLE, Int.reduceAdd, Int.reduceSub, Int.reduceMul, Int.reduceNeg, Int.reduceToNat, UInt8.reduceToNat, natLit, ty3, ty9, ty47, ty81]
        rw [← hfin]
        exact ⟨hx, ho⟩
      have t1 : ((k : Int) < ps.length) = True := eq_true (by omega)
      have rB := h.ext hx
      have f1 := rB.isTup; have f2 := rB.len; have f3 := rB.lenOk ty47; have f0 := rB.one
      have f4 := fun hp => rB.con hp
      have f5 := rB.idx (T := ty Try.prog) (t := 47) (by simp only [elemI, sizeO, ty3, ty9, ty47, ty81])
      have f6 := rB.loadD sgC_len sg0
      have g6 := f6 k hlt
      rw [once_drop hlt] at hfin
      obtain ⟨s, hs⟩ : ∃ s, ps.getD k sg0 = s := ⟨_, rfl⟩
      rw [hs] at hfin g6
      have ap := fun L => app_own1 (fl := H.length) (ho.ext (Hx.app (L := L))) sgC_len (Nat.le_refl _) 32 (by unfold mostCells; omega) s
      simp only [sgC] at ap g6
      have hx2 : Hx H (killV (B ++ [Blk.cells (sgC s), Blk.cells (sgC s)]) o ++ [.cells (rows sgC (xs ++ [s]))]) := app_hx (hx.trans Hx.app) (ho.ext Hx.app) (Nat.le_refl _)
      have an := app_new (enc := sgC) (z := 3) (v := o) (show H.length ≤ (B ++ [Blk.cells (sgC s), Blk.cells (sgC s)]).length by rw [List.length_append]; omega) (xs ++ [s])
      simp only [List.length_append, List.length_cons, List.length_nil, Nat.zero_add] at an
      have f4L := fun L => (rB.left (L := L)).con (by omega)
      by_cases hk0 : k = 0
      · have hp : prevB ps k = false := by rw [hk0]; rfl
        rw [hp, if_neg (by simp)] at hfin
        have t3 : ((k : Int) = 0) = True := eq_true (by omega)
        rw [zEv_round hc, ← hR]
        simp (config := {contextual := true, maxSteps := 10000000, implicitDefEqProofs := false}) (disch := first | (and_intros <;> omega -splitDisjunctions) | (simp only [List.length_set, List.length_append, List.length_cons, List.length_nil]; and_intros <;> omega -splitDisjunctions) | fail) only [t1, t3, g6, ap, o1, o2, f0, f1, f2, f3, f4, f5, f6, Try.f71, go_sem, ↓reduceIte, Nat.reduceEqDiff, Nat.reduceAdd, Nat.reduceMul, Nat.reduceLT, Nat.reduceLeDiff, reduceCtorEq, Int.reduceNe, Int.reduceEq, Int.reduceLT, Int.reduceLE, Int.reduceAdd, Int.reduceSub, Int.reduceMul, Int.reduceNeg, Int.reduceToNat, UInt8.reduceToNat, natLit, ty3, ty9, ty47, ty81]
        try rw [hR]
        exact ih (k + 1) ((k : Int) + 1) _ (xs ++ [s]) _ _ _ _ _ _ (by omega) (by omega) (by omega) hx2 an (by simp; omega) (by rw [List.append_assoc]; exact hfin)
      · have t2 : ((k : Int) - 1).toNat = k - 1 := by omega
        have t3 : ((k : Int) = 0) = False := eq_false (by omega)
        have i5 := f5 .i64 ((k : Int) - 1) (by omega) (by omega)
        rw [t2] at i5
        have g0 := fun n K L => (rB.left (L := L)).loadD0 sgC_len sg0 (fun e => .int .i64 e.kind) (fun _ => rfl) (k - 1) (by omega) n K
        have hp : prevB ps k = decide ((ps.getD (k - 1) sg0).kind = 5) := by
          have : k = (k - 1) + 1 := by omega
          rw [this, prevB]
          rfl
        rw [hp] at hfin
        have hgo := ih (k + 1) ((k : Int) + 1) (.sl (B.length + 2) 0 3 (xs.length + 1) (xs.length + 1)) (xs ++ [s])
        by_cases h5 : s.kind = 5
        · have hpk : prevB ps (k + 1) = true := by rw [prevB, hs]; exact decide_eq_true h5
          obtain ⟨sk, sn, st⟩ := s
          have h5 : sk = 5 := h5
          subst h5
          dsimp only at ap g6
          by_cases h6 : (ps.getD (k - 1) sg0).kind = 5
          · rw [if_pos ⟨rfl, decide_eq_true h6⟩, ← hpk] at hfin
            have t6 : ((ps.getD (k - 1) sg0).kind = 5) = True := eq_true h6
            rw [zEv_round hc, ← hR]
            simp (config := {contextual := true, maxSteps := 10000000, implicitDefEqProofs := false}) (disch := first | (and_intros <;> omega -splitDisjunctions) | (simp only [List.length_set, List.length_append, List.length_cons, List.length_nil]; and_intros <;> omega -splitDisjunctions) | fail) only [t1, t2, t3, t6, i5, g0, g6, ap, o1, o2, f4L, f0, f1, f2, f3, f4, f5, f6, Try.f71, go_sem, ↓reduceIte, Nat.reduceEqDiff, Nat.reduceAdd, Nat.reduceMul, Nat.reduceLT, Nat.reduceLeDiff, reduceCtorEq, Int.reduceNe, Int.reduceEq, Int.reduceLT, Int.reduceLE, Int.reduceAdd, Int.reduceSub, Int.reduceMul, Int.reduceNeg, Int.reduceToNat, UInt8.reduceToNat, natLit, ty3, ty9, ty47, ty81]
            try rw [hR]
            exact ih (k + 1) ((k : Int) + 1) o xs _ _ _ _ _ _ (by omega) (by omega) (by omega) (hx.trans Hx.app) (ho.ext Hx.app) (by omega) hfin
          · rw [if_neg (fun h => h6 (of_decide_eq_true h.2))] at hfin
            have t6 : ((ps.getD (k - 1) sg0).kind = 5) = False := eq_false h6
            rw [zEv_round hc, ← hR]
            simp (config := {contextual := true, maxSteps := 10000000, implicitDefEqProofs := false}) (disch := first | (and_intros <;> omega -splitDisjunctions) | (simp only [List.length_set, List.length_append, List.length_cons, List.length_nil]; and_intros <;> omega -splitDisjunctions) | fail) only [t1, t2, t3, t6, i5, g0, g6, ap, o1, o2, f4L, f0, f1, f2, f3, f4, f5, f6, Try.f71, go_sem, ↓reduceIte, Nat.reduceEqDiff, Nat.reduceAdd, Nat.reduceMul, Nat.reduceLT, Nat.reduceLeDiff, reduceCtorEq, Int.reduceNe, Int.reduceEq, Int.reduceLT, Int.reduceLE, Int.reduceAdd, Int.reduceSub, Int.reduceMul, Int.reduceNeg, Int.reduceToNat, UInt8.reduceToNat, natLit, ty3, ty9, ty47, ty81]
            try rw [hR]
            exact hgo _ _ _ _ _ _ (by omega) (by omega) (by omega) hx2 an (by simp; omega) (by rw [List.append_assoc]; exact hfin)
        · rw [if_neg (fun h => h5 h.1)] at hfin
          have t5 : (s.kind = 5) = False := eq_false h5
          rw [zEv_round hc, ← hR]
          simp (config := {contextual := true, maxSteps := 10000000, implicitDefEqProofs := false}) (disch := first | (and_intros <;> omega -splitDisjunctions) | (simp only [List.length_set, List.length_append, List.length_cons, List.length_nil]; and_intros <;> omega -splitDisjunctions) | fail) only [t1, t2, t3, t5, i5, g0, g6, ap, o1, o2, f4L, f0, f1, f2, f3, f4, f5, f6, Try.f71, go_sem, ↓reduceIte, Nat.reduceEqDiff, Nat.reduceAdd, Nat.reduceMul, Nat.reduceLT, Nat.reduceLeDiff, reduceCtorEq, Int.reduceNe, Int.reduceEq, Int.reduceLT, Int.reduceLE, Int.reduceAdd, Int.reduceSub, Int.reduceMul, Int.reduceNeg, Int.reduceToNat, UInt8.reduceToNat, natLit, ty3, ty9, ty47, ty81]
          try rw [hR]
          exact hgo _ _ _ _ _ _ (by omega) (by omega) (by omega) hx2 an (by simp; omega) (by rw [List.append_assoc]; exact hfin)
  exact key (ps.length + 1) 0 0 (.sl H.length 0 3 0 0) [] _ _ _ _ _ _ (by omega) rfl (by omega) Hx.app (.inr ⟨H.length, rfl, by rw [cellsAt_app0]; rfl, Nat.le_refl _⟩) (by simp) (by rw [List.nil_append, List.drop_zero]; rfl)
theorem run_l17Match : ∀ (d : Nat) (ps ls : List Sg) (v w : V) (fl : Nat) (H : LH), ps.length + ls.length ≤ d → At H sgC 3 v ps → At H sgC 3 w ls → capOk v → capOk w → ps.length ≤ 1048576 → ls.length ≤ 1048576 →
    run 70 [v, w] fl H = some (.bool (mt ps ls), H)
  | d, [], ls, v, w, fl, H, hd, h, hw, hcv, hcw, hp, hl => by
    have f1 := h.isTup; have f2 := h.len; have f3 := h.lenOk ty47; have f0 := h.one
    have f4 := fun hp => h.con hp
    have f5 := h.idx (T := ty Try.prog) (t := 47) (by simp only [elemI, sizeO, ty3, ty9, ty47, ty81])
    have f6 := h.loadD sgC_len sg0
    have g1 := hw.isTup; have g2 := hw.len; have g3 := hw.lenOk ty47; have g0 := hw.one
    have g4 := fun hp => hw.con hp
    have g5 := hw.idx (T := ty Try.prog) (t := 47) (by simp only [elemI, sizeO, ty3, ty9, ty47, ty81])
    have g6 := hw.loadD sgC_len sg0
    unfold run
    rw [Run_z Try.func70 rfl (by rfl : ok 70 = true) (by rfl : cfg.keep 70 = [0, 1, 4, 7, 15]) (by rfl : cfg.mode 70 = .pure) (by rfl : cfg.ord 70 = [])]
    simp (config := {contextual := true, maxSteps := 10000000, implicitDefEqProofs := false}) (disch := first | (and_intros <;> omega -splitDisjunctions) | (simp only [List.length_set, List.length_append, List.length_cons, List.length_nil]; and_intros <;> omega -splitDisjunctions) | fail) only [f0, f1, f2, f3, f4, f5, f6, g0, g1, g2, g3, g4, g5, g6, List.length_nil, Try.f70, go_sem, ↓reduceIte, Nat.reduceEqDiff, Nat.reduceAdd, Nat.reduceMul, Nat.reduceLT, Nat.reduceLeDiff, reduceCtorEq, Int.reduceNe, Int.reduceEq, Int.reduceLT, Int.reduceLE, Int.reduceAdd, Int.reduceSub, Int.reduceMul, Int.reduceNeg, Int.reduceToNat, UInt8.reduceToNat, natLit, ty3, ty9, ty47, ty81]
    cases ls with
    | nil => rfl
    | cons x xs => simp [mt]; omega
  | 0, p :: ps, ls, v, w, fl, H, hd, h, hw, hcv, hcw, hp, hl => by simp at hd
  | d + 1, p :: ps, ls, v, w, fl, H, hd, h, hw, hcv, hcw, hp, hl => by
    simp only [List.length_cons] at hd hp
    have f1 := h.isTup; have f2 := h.len; have f3 := h.lenOk ty47; have f0 := h.one
    have f4 := fun hp => h.con hp
    have f5 := h.idx (T := ty Try.prog) (t := 47) (by simp only [elemI, sizeO, ty3, ty9, ty47, ty81])
    have f6 := h.loadD sgC_len sg0
    have g1 := hw.isTup; have g2 := hw.len; have g3 := hw.lenOk ty47; have g0 := hw.one
    have g4 := fun hp => hw.con hp
    have g5 := hw.idx (T := ty Try.prog) (t := 47) (by simp only [elemI, sizeO, ty3, ty9, ty47, ty81])
    have g6 := hw.loadD sgC_len sg0
    obtain ⟨v1, s1, h1, c1, k1, k2⟩ := h.tl sgC_len hcv
    have s0 := h.slOk (T := ty Try.prog) (t := 47) (by simp only [elemI, sizeO, ty3, ty9, ty47, ty81]) (by simp only [elemI, ty3, ty9, ty47, ty81]; rfl)
    have r0 := hw.slOk (T := ty Try.prog) (t := 47) (by simp only [elemI, sizeO, ty3, ty9, ty47, ty81]) (by simp only [elemI, ty3, ty9, ty47, ty81]; rfl)
    have q0 := fun n K => h.loadD0 sgC_len sg0 (fun e => .int .i64 e.kind) (fun _ => rfl) 0 (by simp) n K
    have q6 := f6 0 (by simp)
    have q4 := f4 (by simp)
    have qd : (p :: ps).getD 0 sg0 = p := rfl
    simp only [Nat.zero_mul, Nat.add_zero, qd] at q0 q6
    have lp : ((p :: ps).length : Int) = ps.length + 1 := by simp
    have tp : (((ps.length + 1 : Nat) : Int) = 0) = False := eq_false (by omega)
    have tp2 : (0 < ((ps.length + 1 : Nat) : Int)) = True := eq_true (by omega)
    have e1 := fun fl => run_l17Match d ps ls v1 w fl H (by omega) h1 hw c1 hcw (by omega) hl
    match ls, hw, hl, hd, e1, g0, g1, g2, g3, g4, g5, g6 with
    | [], hw, hl, hd, e1, g0, g1, g2, g3, g4, g5, g6 =>
      unfold mt
      have tl : (0 < ((([] : List Sg).length : Nat) : Int)) = False := eq_false (by simp)
      by_cases h5 : p.kind = 5
      · unfold run at *
        rw [Run_z Try.func70 rfl (by rfl : ok 70 = true) (by rfl : cfg.keep 70 = [0, 1, 4, 7, 15]) (by rfl : cfg.mode 70 = .pure) (by rfl : cfg.ord 70 = [])]
        simp (config := {contextual := true, maxSteps := 10000000, implicitDefEqProofs := false}) (disch := first | (and_intros <;> omega -splitDisjunctions) | (simp only [List.length_set, List.length_append, List.length_cons, List.length_nil]; and_intros <;> omega -splitDisjunctions) | fail) only [h5, q0, q4, q6, s0, s1, k1, k2, r0, e1, tp, tp2, tl, f0, f1, f2, f3, f4, f5, f6, g0, g1, g2, g3, g4, g5, g6, Try.f70, go_sem, ↓reduceIte, Nat.reduceEqDiff, Nat.reduceAdd, Nat.reduceMul, Nat.reduceLT, Nat.reduceLeDiff, reduceCtorEq, Int.reduceNe, Int.reduceEq, Int.reduceLT, Int.reduceLE, Int.reduceAdd, Int.reduceSub, Int.reduceMul, Int.reduceNeg, Int.reduceToNat, UInt8.reduceToNat, natLit, ty3, ty9, ty47, ty81]
        simp [mtD]
      · unfold run at *
        rw [Run_z Try.func70 rfl (by rfl : ok 70 = true) (by rfl : cfg.keep 70 = [0, 1, 4, 7, 15]) (by rfl : cfg.mode 70 = .pure) (by rfl : cfg.ord 70 = [])]
        simp (config := {contextual := true, maxSteps := 10000000, implicitDefEqProofs := false}) (disch := first | (and_intros <;> omega -splitDisjunctions) | (simp only [List.length_set, List.length_append, List.length_cons, List.length_nil]; and_intros <;> omega -splitDisjunctions) | fail) only [h5, q0, q4, q6, s0, s1, k1, k2, r0, e1, tp, tp2, tl, f0, f1, f2, f3, f4, f5, f6, g0, g1, g2, g3, g4, g5, g6, Try.f70, go_sem, ↓reduceIte, Nat.reduceEqDiff, Nat.reduceAdd, Nat.reduceMul, Nat.reduceLT, Nat.reduceLeDiff, reduceCtorEq, Int.reduceNe, Int.reduceEq, Int.reduceLT, Int.reduceLE, Int.reduceAdd, Int.reduceSub, Int.reduceMul, Int.reduceNeg, Int.reduceToNat, UInt8.reduceToNat, natLit, ty3, ty9, ty47, ty81]
        simp [mtH]
    | x :: xs, hw, hl, hd, e1, g0, g1, g2, g3, g4, g5, g6 =>
      simp only [List.length_cons] at hd hl
      obtain ⟨w1, u1, hw1, d1, l1, l2⟩ := hw.tl sgC_len hcw
      have p6 := g6 0 (by simp)
      have p4 := g4 (by simp)
      have pd : (x :: xs).getD 0 sg0 = x := rfl
      simp only [Nat.zero_mul, Nat.add_zero, pd] at p6
      have tl : (0 < ((xs.length + 1 : Nat) : Int)) = True := eq_true (by omega)
      have e2 := fun fl => run_l17Match d (p :: ps) xs v w1 fl H (by simp; omega) h hw1 hcv d1 (by simp; omega) (by omega)
      have e3 := fun fl => run_l17Match d ps xs v1 w1 fl H (by omega) h1 hw1 c1 d1 (by omega) (by omega)
      unfold mt at e2 ⊢
      by_cases h5 : p.kind = 5
      · rw [if_pos h5] at e2
        unfold run at *
        rw [Run_z Try.func70 rfl (by rfl : ok 70 = true) (by rfl : cfg.keep 70 = [0, 1, 4, 7, 15]) (by rfl : cfg.mode 70 = .pure) (by rfl : cfg.ord 70 = [])]
        simp (config := {contextual := true, maxSteps := 10000000, implicitDefEqProofs := false}) (disch := first | (and_intros <;> omega -splitDisjunctions) | (simp only [List.length_set, List.length_append, List.length_cons, List.length_nil]; and_intros <;> omega -splitDisjunctions) | fail) only [h5, q0, q4, q6, p4, p6, s0, s1, u1, k1, k2, l1, l2, r0, e1, e2, e3, tp, tp2, tl, f0, f1, f2, f3, f4, f5, f6, g0, g1, g2, g3, g4, g5, g6, Try.f70, go_sem, ↓reduceIte, Nat.reduceEqDiff, Nat.reduceAdd, Nat.reduceMul, Nat.reduceLT, Nat.reduceLeDiff, reduceCtorEq, Int.reduceNe, Int.reduceEq, Int.reduceLT, Int.reduceLE, Int.reduceAdd, Int.reduceSub, Int.reduceMul, Int.reduceNeg, Int.reduceToNat, UInt8.reduceToNat, natLit, ty3, ty9, ty47, ty81]
        simp [mtD]
      · unfold sgC at q6 p6
        have f6 := q6
        have g6 := p6
        unfold run at *
        rw [Run_z Try.func70 rfl (by rfl : ok 70 = true) (by rfl : cfg.keep 70 = [0, 1, 4, 7, 15]) (by rfl : cfg.mode 70 = .pure) (by rfl : cfg.ord 70 = [])]
        simp (config := {contextual := true, maxSteps := 10000000, implicitDefEqProofs := false}) (disch := first | (and_intros <;> omega -splitDisjunctions) | (simp only [List.length_set, List.length_append, List.length_cons, List.length_nil]; and_intros <;> omega -splitDisjunctions) | fail) only [h5, sgC, eqL, eqS, andO, yesO, kindV, q0, q4, q6, p4, p6, s0, s1, u1, k1, k2, l1, l2, r0, e1, e2, e3, tp, tp2, tl, f0, f1, f2, f3, f4, f5, f6, g0, g1, g2, g3, g4, g5, g6, Try.f70, go_sem, ↓reduceIte, Nat.reduceEqDiff, Nat.reduceAdd, Nat.reduceMul, Nat.reduceLT, Nat.reduceLeDiff, reduceCtorEq, Int.reduceNe, Int.reduceEq, Int.reduceLT, Int.reduceLE, Int.reduceAdd, Int.reduceSub, Int.reduceMul, Int.reduceNeg, Int.reduceToNat, UInt8.reduceToNat, natLit, ty3, ty9, ty47, ty81]
        have hpx : (p = x) = (p.kind = x.kind ∧ p.n = x.n ∧ p.text = x.text) := by cases p; cases x; simp
        unfold mtH
        simp only [hpx]
end Go.Proofs.Ytcbjmggbbnpbpaa.Lg
namespace Go.Proofs.Ytcbjmggbbnpbpaa.Lg
set_option linter.unusedSimpArgs false
set_option linter.unusedVariables false
set_option maxRecDepth 100000
set_option maxHeartbeats 40000000
open Go.Proofs.Ytcbjmggbbnpbpaa

theorem own_cap {fl : Nat} {H : LH} {v : V} {xs : List Sg} (h : Own fl H sgC 3 v xs) : capOk v := by
  rcases h with ⟨_, rfl | rfl⟩ | ⟨b, rfl, _⟩
  · trivial
  · trivial
  · exact Nat.le_refl _
theorem once_len : ∀ (b : Bool) (ps : List Sg), (onceT b ps).length ≤ ps.length
  | _, [] => Nat.le_refl _
  | b, s :: l => by
    unfold onceT
    by_cases h : s.kind = 5 ∧ b = true
    · rw [if_pos h]; have := once_len true l; simp; omega
    · rw [if_neg h]; have := once_len (decide (s.kind = 5)) l; simp; omega
theorem run_spMatch {v w : V} {ps ls : List Sg} {H : LH} (h : At H sgC 3 v ps) (hw : At H sgC 3 w ls) (hcw : capOk w) (hp : ps.length ≤ 1048576) (hl : ls.length ≤ 1048576) (fl : Nat) :
    run 45 [v, w] fl H = some (.bool (matchB ps ls), H) := by
  have e1 := fun s fl H => run_spSegOk s fl H
  have f1 := h.isTup; have f2 := h.len; have f3 := h.lenOk ty47; have f0 := h.one
  have f4 := fun hp => h.con hp
  have f5 := h.idx (T := ty Try.prog) (t := 47) (by simp only [elemI, sizeO, ty3, ty9, ty47, ty81])
  have f6 := h.loadD sgC_len sg0
  unfold run at *
  rw [Run_z Try.func45 rfl (by rfl : ok 45 = true) (by rfl : cfg.keep 45 = [0, 1, 4, 6, 8, 9, 10, 11, 12, 17, 19, 20, 21, 22, 27]) (by rfl : cfg.mode 45 = .pure) (by rfl : cfg.ord 45 = [])]
  simp (config := {contextual := true, maxSteps := 10000000, implicitDefEqProofs := false}) (disch := first | (and_intros <;> omega -splitDisjunctions) | (simp only [List.length_set, List.length_append, List.length_cons, List.length_nil]; and_intros <;> omega -splitDisjunctions) | fail) only [f0, f1, f2, f3, f4, f5, f6, Try.f45, go_sem, ↓reduceIte, Nat.reduceEqDiff, Nat.reduceAdd, Nat.reduceMul, Nat.reduceLT, Nat.reduceLeDiff, reduceCtorEq, Int.reduceNe, Int.reduceEq, Int.reduceLT, Int.reduceLE, Int.reduceAdd, Int.reduceSub, Int.reduceMul, Int.reduceNeg, Int.reduceToNat, UInt8.reduceToNat, natLit, ty3, ty4, ty9, ty47, ty81]
  refine at_loopE fun c R hc hR => ?_
  have key : ∀ (m : Nat) (i : Nat) (j : Int) (A : LH) (x6 x8 x12 x17 x19 x20 x21 x22 x27 : Option V), ps.length - i < m → j = (i : Int) → i ≤ ps.length → Hx H A → ((ps.drop i).all sgOk && (ls.all sgOk && mt ps ls)) = matchB ps ls →
      zEv (leaveX (mkR Try.prog cfg ok [0, 1, 4, 6, 8, 9, 10, 11, 12, 17, 19, 20, 21, 22, 27] H.length) .pure H [ResultVar.tmp 4]) (mkR Try.prog cfg ok [0, 1, 4, 6, 8, 9, 10, 11, 12, 17, 19, 20, 21, 22, 27] H.length) (K.code (Code.loop c) :: K.blk 0 :: R) .nrm [some v, some w, some (.bool false), x6, x8, some v, some (.int .i64 ps.length), some (.int .i64 j), x12, x17, x19, x20, x21, x22, x27] (A) = some (.bool (matchB ps ls), H) := by
    intro m
    induction m with
    | zero => intro i j A x6 x8 x12 x17 x19 x20 x21 x22 x27 hm; omega
    | succ m ih =>
      intro i j A x6 x8 x12 x17 x19 x20 x21 x22 x27 hm hj hi hA hf
      subst hj
      have hB := h.ext hA
      have hle := hA.len
      have g1 := hB.isTup; have g2 := hB.len; have g3 := hB.lenOk ty47; have g0 := hB.one
      have g4 := fun hp => hB.con hp
      have g5 := hB.idx (T := ty Try.prog) (t := 47) (by simp only [elemI, sizeO, ty3, ty9, ty47, ty81])
      have g6 := hB.loadD sgC_len sg0
      rcases Nat.lt_or_ge i ps.length with hlt | hge
      · have g7 := fun K => g6 i hlt K
        generalize hs : ps.getD i sg0 = s at *
        have e2 := fun fl H => e1 s fl H
        rw [all_drop hlt sg0, hs] at hf
        unfold sgC at g7 e2
        have g6 := g7
        have t0 : ((i : Int) < ps.length) = True := eq_true (by omega)
        rw [zEv_round hc, ← hR]
        simp (config := {contextual := true, maxSteps := 10000000, implicitDefEqProofs := false}) (disch := first | (and_intros <;> omega -splitDisjunctions) | (simp only [List.length_set, List.length_append, List.length_cons, List.length_nil]; and_intros <;> omega -splitDisjunctions) | fail) only [g0, g1, g2, g3, g4, g5, g6, e2, t0, hle, Try.f45, go_sem, ↓reduceIte, Nat.reduceEqDiff, Nat.reduceAdd, Nat.reduceMul, Nat.reduceLT, Nat.reduceLeDiff, reduceCtorEq, Int.reduceNe, Int.reduceEq, Int.reduceLT, Int.reduceLE, Int.reduceAdd, Int.reduceSub, Int.reduceMul, Int.reduceNeg, Int.reduceToNat, UInt8.reduceToNat, natLit, ty3, ty4, ty9, ty47, ty81]
        try rw [hR]
        refine ite_E2 (fun h1 => ?_) (fun h1 => ?_)
        · rw [eq_true_of_ne_false h1, Bool.true_and] at hf
          exact ih (i + 1) _ _ _ _ _ _ _ _ _ _ _ (by omega) (by omega) (by omega) (hA.trans Hx.app) hf
        · rw [h1, Bool.false_and, Bool.false_and] at hf
          rw [← hf]
      · rw [List.drop_of_length_le (by omega), List.all_nil, Bool.true_and] at hf
        rw [← hf]
        clear ih hf
        have hwB := hw.ext hA
        have t0 : ((i : Int) < ps.length) = False := eq_false (by omega)
        have v1 := hwB.isTup; have v2 := hwB.len; have v3 := hwB.lenOk ty47; have v0 := hwB.one
        rw [zEv_round hc, ← hR]
        simp (config := {contextual := true, maxSteps := 10000000, implicitDefEqProofs := false}) (disch := first | (and_intros <;> omega -splitDisjunctions) | (simp only [List.length_set, List.length_append, List.length_cons, List.length_nil]; and_intros <;> omega -splitDisjunctions) | fail) only [g0, g1, g2, g3, g4, g5, g6, v0, v1, v2, v3, t0, Try.f45, go_sem, ↓reduceIte, Nat.reduceEqDiff, Nat.reduceAdd, Nat.reduceMul, Nat.reduceLT, Nat.reduceLeDiff, reduceCtorEq, Int.reduceNe, Int.reduceEq, Int.reduceLT, Int.reduceLE, Int.reduceAdd, Int.reduceSub, Int.reduceMul, Int.reduceNeg, Int.reduceToNat, UInt8.reduceToNat, natLit, ty3, ty4, ty9, ty47, ty81]
        refine at_loopE fun c2 R2 hc2 hR2 => ?_
        have key2 : ∀ (m : Nat) (i : Nat) (j : Int) (B : LH) (x6 x8 x9 x10 x11 x12 x17 x22 x27 : Option V), ls.length - i < m → j = (i : Int) → i ≤ ls.length → Hx H B → ((ls.drop i).all sgOk && mt ps ls) = (ls.all sgOk && mt ps ls) →
            zEv (leaveX (mkR Try.prog cfg ok [0, 1, 4, 6, 8, 9, 10, 11, 12, 17, 19, 20, 21, 22, 27] H.length) .pure H [ResultVar.tmp 4]) (mkR Try.prog cfg ok [0, 1, 4, 6, 8, 9, 10, 11, 12, 17, 19, 20, 21, 22, 27] H.length) (K.code (Code.loop c2) :: K.blk 2 :: R2) .nrm [some v, some w, some (.bool false), x6, x8, x9, x10, x11, x12, x17, some w, some (.int .i64 ls.length), some (.int .i64 j), x22, x27] (B) = some (.bool (ls.all sgOk && mt ps ls), H) := by
          intro m
          induction m with
          | zero => intro i j B x6 x8 x9 x10 x11 x12 x17 x22 x27 hm; omega
          | succ m ih2 =>
            intro i j B x6 x8 x9 x10 x11 x12 x17 x22 x27 hm hj hi hB hf
            subst hj
            have hwB := hw.ext hB
            have hle := hB.len
            have g1 := hwB.isTup; have g2 := hwB.len; have g3 := hwB.lenOk ty47; have g0 := hwB.one
            have g4 := fun hp => hwB.con hp
            have g5 := hwB.idx (T := ty Try.prog) (t := 47) (by simp only [elemI, sizeO, ty3, ty9, ty47, ty81])
            have g6 := hwB.loadD sgC_len sg0
            rcases Nat.lt_or_ge i ls.length with hlt | hge
            · have g7 := fun K => g6 i hlt K
              generalize hs : ls.getD i sg0 = s at *
              have e2 := fun fl H => e1 s fl H
              rw [all_drop hlt sg0, hs] at hf
              unfold sgC at g7 e2
              have g6 := g7
              have t0 : ((i : Int) < ls.length) = True := eq_true (by omega)
              rw [zEv_round hc2, ← hR2]
              simp (config := {contextual := true, maxSteps := 10000000, implicitDefEqProofs := false}) (disch := first | (and_intros <;> omega -splitDisjunctions) | (simp only [List.length_set, List.length_append, List.length_cons, List.length_nil]; and_intros <;> omega -splitDisjunctions) | fail) only [g0, g1, g2, g3, g4, g5, g6, e2, t0, hle, Try.f45, go_sem, ↓reduceIte, Nat.reduceEqDiff, Nat.reduceAdd, Nat.reduceMul, Nat.reduceLT, Nat.reduceLeDiff, reduceCtorEq, Int.reduceNe, Int.reduceEq, Int.reduceLT, Int.reduceLE, Int.reduceAdd, Int.reduceSub, Int.reduceMul, Int.reduceNeg, Int.reduceToNat, UInt8.reduceToNat, natLit, ty3, ty4, ty9, ty47, ty81]
              try rw [hR2]
              refine ite_E2 (fun h1 => ?_) (fun h1 => ?_)
              · rw [eq_true_of_ne_false h1, Bool.true_and] at hf
                exact ih2 (i + 1) _ _ _ _ _ _ _ _ _ _ _ (by omega) (by omega) (by omega) (hB.trans Hx.app) hf
              · rw [h1, Bool.false_and, Bool.false_and] at hf
                rw [← hf]
            · rw [List.drop_of_length_le (by omega), List.all_nil, Bool.true_and] at hf
              rw [← hf]
              have hvB := h.ext hB
              have t0 : ((i : Int) < ls.length) = False := eq_false (by omega)
              obtain ⟨o, C, e3, xC, oC⟩ := run_l17Once hvB hp H.length
              have o1 := (oC.at sgC_len).one; have o2 := (oC.at sgC_len).isTup
              have e4 := fun fl => run_l17Match _ (onceT false ps) ls o w fl C (Nat.le_refl _) (oC.at sgC_len) (hwB.ext xC) (own_cap oC) hcw (by have := once_len false ps; omega) hl
              rw [(mt_once ps).1 ls] at e4
              unfold run at e3 e4
              rw [zEv_round hc2, ← hR2]
              simp (config := {contextual := true, maxSteps := 10000000, implicitDefEqProofs := false}) (disch := first | (and_intros <;> omega -splitDisjunctions) | (simp only [List.length_set, List.length_append, List.length_cons, List.length_nil]; and_intros <;> omega -splitDisjunctions) | fail) only [g0, g1, g2, g3, g4, g5, g6, t0, e3, e4, o1, o2, Try.f45, go_sem, ↓reduceIte, Nat.reduceEqDiff, Nat.reduceAdd, Nat.reduceMul, Nat.reduceLT, Nat.reduceLeDiff, reduceCtorEq, Int.reduceNe, Int.reduceEq, Int.reduceLT, Int.reduceLE, Int.reduceAdd, Int.reduceSub, Int.reduceMul, Int.reduceNeg, Int.reduceToNat, UInt8.reduceToNat, natLit, ty3, ty4, ty9, ty47, ty81]
              done
        exact key2 (ls.length + 1) 0 _ _ _ _ _ _ _ _ _ _ _ (by omega) rfl (by omega) hA (by rw [List.drop_zero])
  exact key (ps.length + 1) 0 _ H _ _ _ _ _ _ _ _ _ (by omega) rfl (by omega) (Hx.refl H) (by rw [List.drop_zero]; rfl)
end Go.Proofs.Ytcbjmggbbnpbpaa.Lg
namespace Go.Proofs.Ytcbjmggbbnpbpaa.Lg
set_option linter.unusedSimpArgs false
set_option linter.unusedVariables false
set_option maxRecDepth 100000
set_option maxHeartbeats 40000000
open Go.Proofs.Ytcbjmggbbnpbpaa

def boC (b : Bool) : List V := [.bool b]
theorem boC_len (b : Bool) : (boC b).length = 1 := rfl
theorem rep_bo (n : Nat) : rows boC (List.replicate n false) = List.replicate n (.bool false) := by
  induction n with
  | zero => rfl
  | succ n ih => rw [List.replicate_succ, rows_cons, ih, List.replicate_succ]; rfl
theorem nx_start {s : Sg} {ls : List Sg} {fits : List Bool} : (List.range 0).map (nx s ls fits) ++ List.replicate (ls.length + 1 - 0) false = List.replicate (ls.length + 1) false := by simp
theorem nx_put {s : Sg} {ls : List Sg} {fits : List Bool} {i n : Nat} (hi : i < n) (b : Bool) (hb : b = nx s ls fits i) :
    ((List.range i).map (nx s ls fits) ++ List.replicate (n - i) false).set i b = (List.range (i + 1)).map (nx s ls fits) ++ List.replicate (n - (i + 1)) false := by
  subst hb
  rw [List.set_append_right _ _ (by simp), List.range_succ, List.map_append, List.append_assoc]
  congr 1
  have : n - i = (n - (i + 1)) + 1 := by omega
  simp only [List.length_map, List.length_range, Nat.sub_self]
  rw [this, List.replicate_succ, List.set_cons_zero]
  rfl
theorem nx_keep {s : Sg} {ls : List Sg} {fits : List Bool} {i n : Nat} (hi : i < n) (hb : nx s ls fits i = false) :
    (List.range i).map (nx s ls fits) ++ List.replicate (n - i) false = (List.range (i + 1)).map (nx s ls fits) ++ List.replicate (n - (i + 1)) false := by
  rw [← nx_put hi false hb.symm, List.set_append_right _ _ (by simp)]
  congr 1
  have : n - i = (n - (i + 1)) + 1 := by omega
  simp only [List.length_map, List.length_range, Nat.sub_self]
  rw [this, List.replicate_succ, List.set_cons_zero]
theorem nx_at {s : Sg} {ls : List Sg} {fits : List Bool} {i n : Nat} (hi : 1 ≤ i) : ((List.range i).map (nx s ls fits) ++ List.replicate (n - i) false).getD (i - 1) false = nx s ls fits (i - 1) := by
  rw [List.getD_eq_getElem?_getD, List.getElem?_append_left (by simp; omega), List.getElem?_map, List.getElem?_range (by omega)]
  rfl
theorem rows_bo (ys : List Bool) : rows boC ys = ys.map V.bool := by
  induction ys with
  | nil => rfl
  | cons y ys ih => rw [rows_cons, ih]; rfl
theorem bo_set (ys : List Bool) (i : Nat) (x : Bool) : (rows boC ys).set i (.bool x) = rows boC (ys.set i x) := by
  rw [rows_bo, rows_bo, List.map_set]
theorem bo_get {ys : List Bool} {i : Nat} (h : i < ys.length) : (rows boC ys)[i]? = some (.bool (ys.getD i false)) := by
  rw [rows_bo, List.getElem?_map, List.getD_eq_getElem?_getD, List.getElem?_eq_getElem h]; rfl
theorem nx_pos {s : Sg} {ls : List Sg} {fits : List Bool} {i : Nat} (h : 1 ≤ i) : nx s ls fits i = if s.kind = 5 then fits.getD i false || nx s ls fits (i - 1) else fits.getD (i - 1) false && decide (s.kind = 4 ∨ s = ls.getD (i - 1) sg0) := by
  cases i with
  | zero => omega
  | succ i => rfl
theorem sg_eq {s x : Sg} : decide (s.kind = 4 ∨ s.kind = x.kind ∧ s.n = x.n ∧ s.text = x.text) = decide (s.kind = 4 ∨ s = x) := by
  have : (s = x) = (s.kind = x.kind ∧ s.n = x.n ∧ s.text = x.text) := by cases s; cases x; simp
  simp only [this]
theorem run_imMatch {v w : V} {ps ls : List Sg} {H : LH} (h : At H sgC 3 v ps) (hw : At H sgC 3 w ls) (hp : ps.length ≤ 1048576) (hl : ls.length ≤ 1048576) (fl : Nat) :
    run 57 [v, w] fl H = some (.bool (matchB ps ls), H) := by
  have e1 := fun fl => run_segsOk v ps fl H h hp
  have e2 := fun fl => run_segsOk w ls fl H hw hl
  have f1 := h.isTup; have f2 := h.len; have f3 := h.lenOk ty47; have f0 := h.one
  have f4 := fun hp => h.con hp
  have f5 := h.idx (T := ty Try.prog) (t := 47) (by simp only [elemI, sizeO, ty3, ty9, ty47, ty81])
  have f6 := h.loadD sgC_len sg0
  have g1 := hw.isTup; have g2 := hw.len; have g3 := hw.lenOk ty47; have g0 := hw.one
  have g4 := fun hp => hw.con hp
  have g5 := hw.idx (T := ty Try.prog) (t := 47) (by simp only [elemI, sizeO, ty3, ty9, ty47, ty81])
  have g6 := hw.loadD sgC_len sg0
  have tn : ((ls.length : Int) + 1).toNat = ls.length + 1 := by omega
  unfold matchB
  unfold run at *
  rw [Run_z Try.func57 rfl (by rfl : ok 57 = true) (by rfl : cfg.keep 57 = [0, 1, 4, 5, 7, 8, 9, 17, 24, 25, 26, 27, 35, 36, 37, 39, 61]) (by rfl : cfg.mode 57 = .pure) (by rfl : cfg.ord 57 = [])]
  by_cases hok : ps.all sgOk = true
  rotate_left
  · have hok : ps.all sgOk = false := by simpa using hok
    rw [hok] at e1 ⊢
    simp (config := {contextual := true, maxSteps := 10000000, implicitDefEqProofs := false}) (disch := first | (and_intros <;> omega -splitDisjunctions) | (simp only [List.length_set, List.length_append, List.length_cons, List.length_nil]; and_intros <;> omega -splitDisjunctions) | fail) only [e1, e2, f0, f1, f2, f3, f4, f5, f6, g0, g1, g2, g3, g4, g5, g6, Try.f57, go_sem, ↓reduceIte, Nat.reduceEqDiff, Nat.reduceAdd, Nat.reduceMul, Nat.reduceLT, Nat.reduceLeDiff, reduceCtorEq, Int.reduceNe, Int.reduceEq, Int.reduceLT, Int.reduceLE, Int.reduceAdd, Int.reduceSub, Int.reduceMul, Int.reduceNeg, Int.reduceToNat, UInt8.reduceToNat, natLit, ty3, ty4, ty9, ty47, ty81, ty107]
  by_cases hok2 : ls.all sgOk = true
  rotate_left
  · have hok2 : ls.all sgOk = false := by simpa using hok2
    rw [hok] at e1 ⊢
    rw [hok2] at e2 ⊢
    simp (config := {contextual := true, maxSteps := 10000000, implicitDefEqProofs := false}) (disch := first | (and_intros <;> omega -splitDisjunctions) | (simp only [List.length_set, List.length_append, List.length_cons, List.length_nil]; and_intros <;> omega -splitDisjunctions) | fail) only [e1, e2, f0, f1, f2, f3, f4, f5, f6, g0, g1, g2, g3, g4, g5, g6, Try.f57, go_sem, ↓reduceIte, Nat.reduceEqDiff, Nat.reduceAdd, Nat.reduceMul, Nat.reduceLT, Nat.reduceLeDiff, reduceCtorEq, Int.reduceNe, Int.reduceEq, Int.reduceLT, Int.reduceLE, Int.reduceAdd, Int.reduceSub, Int.reduceMul, Int.reduceNeg, Int.reduceToNat, UInt8.reduceToNat, natLit, ty3, ty4, ty9, ty47, ty81, ty107]
  rw [hok] at e1; rw [hok2] at e2
  rw [hok, hok2, Bool.true_and, Bool.true_and, ← dp_mt]
  simp (config := {contextual := true, maxSteps := 10000000, implicitDefEqProofs := false}) (disch := first | (and_intros <;> omega -splitDisjunctions) | (simp only [List.length_set, List.length_append, List.length_cons, List.length_nil]; and_intros <;> omega -splitDisjunctions) | fail) only [e1, e2, tn, f0, f1, f2, f3, f4, f5, f6, g0, g1, g2, g3, g4, g5, g6, Try.f57, go_sem, ↓reduceIte, Nat.reduceEqDiff, Nat.reduceAdd, Nat.reduceMul, Nat.reduceLT, Nat.reduceLeDiff, reduceCtorEq, Int.reduceNe, Int.reduceEq, Int.reduceLT, Int.reduceLE, Int.reduceAdd, Int.reduceSub, Int.reduceMul, Int.reduceNeg, Int.reduceToNat, UInt8.reduceToNat, natLit, ty3, ty4, ty9, ty47, ty81, ty107]
  clear e1 e2 hok hok2
  refine at_loopE fun c R hc hR => ?_
  have key : ∀ (m : Nat) (k : Nat) (kk : Int) (o : V) (fits : List Bool) (A : LH) (x7 x8 x9 x17 x27 x35 x36 x37 x39 x61 : Option V), ps.length - k < m → kk = (k : Int) → k ≤ ps.length → Hx H A → At A boC 1 o fits → fits.length = ls.length + 1 → dp ls (ps.drop k) fits = dp ls ps (fits0 ls.length) →
      zEv (leaveX (mkR Try.prog cfg ok [0, 1, 4, 5, 7, 8, 9, 17, 24, 25, 26, 27, 35, 36, 37, 39, 61] H.length) .pure H [ResultVar.tmp 4]) (mkR Try.prog cfg ok [0, 1, 4, 5, 7, 8, 9, 17, 24, 25, 26, 27, 35, 36, 37, 39, 61] H.length) (K.code (Code.loop c) :: K.blk 0 :: R) .nrm [some v, some w, some (.bool false), some o, x7, x8, x9, x17, some v, some (.int .i64 ps.length), some (.int .i64 kk), x27, x35, x36, x37, x39, x61] (A) = some (.bool ((dp ls ps (fits0 ls.length)).getD ls.length false), H) := by
    intro m
    induction m with
    | zero => intro k kk o fits A x7 x8 x9 x17 x27 x35 x36 x37 x39 x61 hm; omega
    | succ m ih =>
      intro k kk o fits A x7 x8 x9 x17 x27 x35 x36 x37 x39 x61 hm hj hk hA ho hfl hf
      subst hj
      have hle := hA.len
      have rv := h.ext hA
      have rw0 := hw.ext hA
      have o1 := ho.isTup; have o2 := ho.one
      have oc := fun L => (ho.left (L := L)).con (by omega)
      have ol := fun L => (ho.left (L := L)).load1 false (fun b => .bool b) (fun _ => rfl)
      have oi := ho.idx (T := ty Try.prog) (t := 107) (by simp only [elemI, sizeO, ty4, ty107])
      have f1 := rv.isTup; have f2 := rv.len; have f3 := rv.lenOk ty47; have f0 := rv.one
      have f4 := fun hp => rv.con hp
      have f5 := rv.idx (T := ty Try.prog) (t := 47) (by simp only [elemI, sizeO, ty3, ty9, ty47, ty81])
      have f6 := rv.loadD sgC_len sg0
      have g1 := rw0.isTup; have g2 := rw0.len; have g3 := rw0.lenOk ty47; have g0 := rw0.one
      have g4 := fun hp => rw0.con hp
      have g5 := rw0.idx (T := ty Try.prog) (t := 47) (by simp only [elemI, sizeO, ty3, ty9, ty47, ty81])
      have g6 := rw0.loadD sgC_len sg0
      rcases Nat.lt_or_ge k ps.length with hlt | hge
      rotate_left
      · have t0 : ((k : Int) < ps.length) = False := eq_false (by omega)
        have oi2 := oi .i64 ls.length (by omega) (by omega)
        rw [Int.toNat_natCast] at oi2
        have ol2 := fun L => ol L ls.length (by omega)
        rw [List.drop_of_length_le (by omega), dp] at hf
        rw [← hf, zEv_round hc, ← hR]
        have oc0 := ho.con (by omega)
        have ol0 := ho.load1 false (fun b => .bool b) (fun _ => rfl) ls.length (by omega)
        simp (config := {contextual := true, maxSteps := 10000000, implicitDefEqProofs := false}) (disch := first | (and_intros <;> omega -splitDisjunctions) | (simp only [List.length_set, List.length_append, List.length_cons, List.length_nil]; and_intros <;> omega -splitDisjunctions) | fail) only [t0, o1, o2, oi2, oc0, ol0, f0, f1, f2, f3, f4, f5, f6, g0, g1, g2, g3, g4, g5, g6, Try.f57, go_sem, ↓reduceIte, Nat.reduceEqDiff, Nat.reduceAdd, Nat.reduceMul, Nat.reduceLT, Nat.reduceLeDiff, reduceCtorEq, Int.reduceNe, Int.reduceEq, Int.reduceLT, Int.reduceLE, Int.reduceAdd, Int.reduceSub, Int.reduceMul, Int.reduceNeg, Int.reduceToNat, UInt8.reduceToNat, natLit, ty3, ty4, ty9, ty47, ty81, ty107]
        done
      have t0 : ((k : Int) < ps.length) = True := eq_true (by omega)
      have f6 := fun K => f6 k hlt K
      rw [List.drop_eq_getElem_cons hlt, ← getD_of hlt sg0, dp] at hf
      generalize hs : ps.getD k sg0 = s at *
      unfold sgC at f6
      rw [zEv_round hc, ← hR]
      simp (config := {contextual := true, maxSteps := 10000000, implicitDefEqProofs := false}) (disch := first | (and_intros <;> omega -splitDisjunctions) | (simp only [List.length_set, List.length_append, List.length_cons, List.length_nil]; and_intros <;> omega -splitDisjunctions) | fail) only [t0, tn, o1, o2, hle, f0, f1, f2, f3, f4, f5, f6, g0, g1, g2, g3, g4, g5, g6, Try.f57, go_sem, ↓reduceIte, Nat.reduceEqDiff, Nat.reduceAdd, Nat.reduceMul, Nat.reduceLT, Nat.reduceLeDiff, reduceCtorEq, Int.reduceNe, Int.reduceEq, Int.reduceLT, Int.reduceLE, Int.reduceAdd, Int.reduceSub, Int.reduceMul, Int.reduceNeg, Int.reduceToNat, UInt8.reduceToNat, natLit, ty3, ty4, ty9, ty47, ty81, ty107]
      rw [hR]
      have hst : V.bool false :: (List.replicate ls.length [V.bool false]).flatten = rows boC ((List.range 0).map (nx s ls fits) ++ List.replicate (ls.length + 1 - 0) false) := by
        rw [nx_start, rows_replicate, List.replicate_succ, List.flatten_cons]; rfl
      rw [hst]
      refine at_loopE fun c2 R2 hc2 hR2 => ?_
      have key2 : ∀ (m : Nat) (i : Nat) (j : Int) (ys : List Bool) (x9 x17 x37 x39 x61 : Option V), ls.length + 1 - i < m → j = (i : Int) → i ≤ ls.length + 1 → ys = (List.range i).map (nx s ls fits) ++ List.replicate (ls.length + 1 - i) false →
          zEv (leaveX (mkR Try.prog cfg ok [0, 1, 4, 5, 7, 8, 9, 17, 24, 25, 26, 27, 35, 36, 37, 39, 61] H.length) .pure H [ResultVar.tmp 4]) (mkR Try.prog cfg ok [0, 1, 4, 5, 7, 8, 9, 17, 24, 25, 26, 27, 35, 36, 37, 39, 61] H.length) (K.code (Code.loop c2) :: K.blk 2 :: R2) .nrm [some v, some w, some (.bool false), some o, some (.ptr A.length 0), some (.sl (A.length + 1) 0 1 (ls.length + 1) (ls.length + 1)), x9, x17, some v, some (.int .i64 ps.length), some (.int .i64 (k : Int)), some (.bool true), some (.int .i64 ((ls.length + 1 : Nat) : Int)), some (.int .i64 j), x37, x39, x61] (A ++ [Blk.cells [V.int .i64 s.kind, V.int .i64 s.n, V.str s.text], Blk.cells (rows boC ys)]) = some (.bool ((dp ls ps (fits0 ls.length)).getD ls.length false), H) := by
        intro m
        induction m with
        | zero => intro i j ys x9 x17 x37 x39 x61 hm; omega
        | succ m ih2 =>
          intro i j ys x9 x17 x37 x39 x61 hm hj2 hi hys
          subst hj2
          have hyl : ys.length = ls.length + 1 := by rw [hys]; simp; omega
          have hrl : (rows boC ys).length = ls.length + 1 := by rw [rows_bo, List.length_map, hyl]
          rcases Nat.lt_or_ge i (ls.length + 1) with hi2 | hi2
          rotate_left
          · have t5 : ((i : Int) < ((ls.length + 1 : Nat) : Int)) = False := eq_false (by omega)
            have hin : i = ls.length + 1 := by omega
            rw [hin, Nat.sub_self, List.replicate_zero, List.append_nil] at hys
            rw [zEv_round hc2, ← hR2]
            simp (config := {contextual := true, maxSteps := 10000000, implicitDefEqProofs := false}) (disch := first | (and_intros <;> omega -splitDisjunctions) | (simp only [List.length_set, List.length_append, List.length_cons, List.length_nil]; and_intros <;> omega -splitDisjunctions) | fail) only [t5, hrl, o1, o2, hle, Try.f57, go_sem, ↓reduceIte, Nat.reduceEqDiff, Nat.reduceAdd, Nat.reduceMul, Nat.reduceLT, Nat.reduceLeDiff, reduceCtorEq, Int.reduceNe, Int.reduceEq, Int.reduceLT, Int.reduceLE, Int.reduceAdd, Int.reduceSub, Int.reduceMul, Int.reduceNeg, Int.reduceToNat, UInt8.reduceToNat, natLit, ty3, ty4, ty9, ty47, ty81, ty107]
            try rw [hR]
            have hat : At ((A ++ [Blk.cells (sgC s)]) ++ .cells (rows boC ys) :: []) boC 1 (.sl (A ++ [Blk.cells (sgC s)]).length 0 1 ys.length ys.length) ys := At.new boC_len
            rw [List.length_append, hyl, List.append_assoc] at hat
            exact ih (k + 1) ((k : Int) + 1) _ ys _ _ _ _ _ _ _ _ _ _ _ (by omega) (by omega) (by omega) (hA.trans Hx.app) hat hyl (by rw [hys]; exact hf)
          have t5 : ((i : Int) < ((ls.length + 1 : Nat) : Int)) = True := eq_true (by omega)
          have b1 := fun x => bo_set ys i x
          have b2 : 1 ≤ i → (rows boC ys)[i - 1]? = some (.bool (nx s ls fits (i - 1))) := fun h1 => by rw [bo_get (by omega), hys, nx_at h1]
          have oc1 := fun L => (ho.left (L := L)).con (by omega)
          have oiI := oi .i64 (i : Int) (by omega) (by omega)
          rw [Int.toNat_natCast] at oiI
          have olI := fun L => ol L i (by omega)
          by_cases h5 : s.kind = 5
          · have t6 : (s.kind = 5) = True := eq_true h5
            by_cases hi0 : i = 0
            · have t7 : ((i : Int) > 0) = False := eq_false (by omega)
              rw [zEv_round hc2, ← hR2]
              simp (config := {contextual := true, maxSteps := 10000000, implicitDefEqProofs := false}) (disch := first | (and_intros <;> omega -splitDisjunctions) | (simp only [List.length_set, List.length_append, List.length_cons, List.length_nil]; and_intros <;> omega -splitDisjunctions) | fail) only [t5, t6, t7, hrl, b1, o1, o2, oc1, oiI, olI, hle, Try.f57, go_sem, ↓reduceIte, Nat.reduceEqDiff, Nat.reduceAdd, Nat.reduceMul, Nat.reduceLT, Nat.reduceLeDiff, reduceCtorEq, Int.reduceNe, Int.reduceEq, Int.reduceLT, Int.reduceLE, Int.reduceAdd, Int.reduceSub, Int.reduceMul, Int.reduceNeg, Int.reduceToNat, UInt8.reduceToNat, natLit, ty3, ty4, ty9, ty47, ty81, ty107]
              try rw [hR2]
              exact ih2 (i + 1) ((i : Int) + 1) _ _ _ _ _ _ (by omega) (by omega) (by omega) (by rw [hys]; exact nx_put hi2 _ (by rw [hi0, nx, if_pos h5]; simp))
            · have hi1 : 1 ≤ i := by omega
              have t7 : ((i : Int) > 0) = True := eq_true (by omega)
              have b2 := b2 hi1
              have t8 : ((i : Int) - 1).toNat = i - 1 := by omega
              rw [zEv_round hc2, ← hR2]
              simp (config := {contextual := true, maxSteps := 10000000, implicitDefEqProofs := false}) (disch := first | (and_intros <;> omega -splitDisjunctions) | (simp only [List.length_set, List.length_append, List.length_cons, List.length_nil]; and_intros <;> omega -splitDisjunctions) | fail) only [t5, t6, t7, t8, hrl, b1, b2, o1, o2, oc1, oiI, olI, hle, Try.f57, go_sem, ↓reduceIte, Nat.reduceEqDiff, Nat.reduceAdd, Nat.reduceMul, Nat.reduceLT, Nat.reduceLeDiff, reduceCtorEq, Int.reduceNe, Int.reduceEq, Int.reduceLT, Int.reduceLE, Int.reduceAdd, Int.reduceSub, Int.reduceMul, Int.reduceNeg, Int.reduceToNat, UInt8.reduceToNat, natLit, ty3, ty4, ty9, ty47, ty81, ty107]
              try rw [hR2]
              exact ih2 (i + 1) ((i : Int) + 1) _ _ _ _ _ _ (by omega) (by omega) (by omega) (by rw [hys]; exact nx_put hi2 _ (by rw [nx_pos hi1, if_pos h5]; simp))
          · have t6 : (s.kind = 5) = False := eq_false h5
            by_cases hi0 : i = 0
            · have t7 : ((i : Int) > 0) = False := eq_false (by omega)
              rw [zEv_round hc2, ← hR2]
              simp (config := {contextual := true, maxSteps := 10000000, implicitDefEqProofs := false}) (disch := first | (and_intros <;> omega -splitDisjunctions) | (simp only [List.length_set, List.length_append, List.length_cons, List.length_nil]; and_intros <;> omega -splitDisjunctions) | fail) only [t5, t6, t7, hrl, b1, o1, o2, oc1, oiI, olI, hle, Try.f57, go_sem, ↓reduceIte, Nat.reduceEqDiff, Nat.reduceAdd, Nat.reduceMul, Nat.reduceLT, Nat.reduceLeDiff, reduceCtorEq, Int.reduceNe, Int.reduceEq, Int.reduceLT, Int.reduceLE, Int.reduceAdd, Int.reduceSub, Int.reduceMul, Int.reduceNeg, Int.reduceToNat, UInt8.reduceToNat, natLit, ty3, ty4, ty9, ty47, ty81, ty107]
              try rw [hR2]
              exact ih2 (i + 1) ((i : Int) + 1) _ _ _ _ _ _ (by omega) (by omega) (by omega) (by rw [hys]; exact nx_keep hi2 (by rw [hi0, nx, if_neg h5]))
            · have hi1 : 1 ≤ i := by omega
              have t7 : ((i : Int) > 0) = True := eq_true (by omega)
              have t8 : ((i : Int) - 1).toNat = i - 1 := by omega
              have oiJ := oi .i64 ((i : Int) - 1) (by omega) (by omega)
              rw [t8] at oiJ
              have olJ := fun L => ol L (i - 1) (by omega)
              have wi := g5 .i64 ((i : Int) - 1) (by omega) (by omega)
              rw [t8] at wi
              have wc := fun L => (rw0.left (L := L)).con (by omega)
              have wl := fun L => (rw0.left (L := L)).loadD sgC_len sg0 (i - 1) (by omega)
              generalize hx : ls.getD (i - 1) sg0 = x at *
              unfold sgC at wl
              rw [zEv_round hc2, ← hR2]
              simp (config := {contextual := true, maxSteps := 10000000, implicitDefEqProofs := false}) (disch := first | (and_intros <;> omega -splitDisjunctions) | (simp only [List.length_set, List.length_append, List.length_cons, List.length_nil]; and_intros <;> omega -splitDisjunctions) | fail) only [t5, t6, t7, t8, hrl, b1, o1, o2, oc1, oiJ, olJ, wi, wc, wl, eqL, eqS, andO, yesO, kindV, hle, Try.f57, go_sem, ↓reduceIte, Nat.reduceEqDiff, Nat.reduceAdd, Nat.reduceMul, Nat.reduceLT, Nat.reduceLeDiff, reduceCtorEq, Int.reduceNe, Int.reduceEq, Int.reduceLT, Int.reduceLE, Int.reduceAdd, Int.reduceSub, Int.reduceMul, Int.reduceNeg, Int.reduceToNat, UInt8.reduceToNat, natLit, ty3, ty4, ty9, ty47, ty81, ty107]
              try rw [hR2]
              refine ite_E (fun h9 => ?_) (fun h9 => ?_)
              · exact ih2 (i + 1) ((i : Int) + 1) _ _ _ _ _ _ (by omega) (by omega) (by omega) (by rw [hys]; exact nx_put hi2 _ (by rw [nx_pos hi1, if_neg h5, h9, Bool.true_and, hx, sg_eq]))
              · exact ih2 (i + 1) ((i : Int) + 1) _ _ _ _ _ _ (by omega) (by omega) (by omega) (by rw [hys]; exact nx_keep hi2 (by rw [nx_pos hi1, if_neg h5, eq_false_of_ne_true h9, Bool.false_and]))
      exact key2 (ls.length + 2) 0 0 _ _ _ _ _ _ (by omega) rfl (by omega) rfl
  have hst : V.bool true :: (List.replicate ls.length [V.bool false]).flatten = rows boC (fits0 ls.length) := by
    unfold fits0; rw [rows_cons, rows_replicate]; rfl
  rw [hst]
  refine key (ps.length + 1) 0 0 _ (fits0 ls.length) _ _ _ _ _ _ _ _ _ _ _ (by omega) rfl (by omega) Hx.app ?_ (by simp [fits0]) (by rw [List.drop_zero])
  have := At.new (H := H) (L := []) (xs := fits0 ls.length) boC_len
  have hl0 : (fits0 ls.length).length = ls.length + 1 := by simp [fits0]
  rw [hl0] at this
  exact this
end Go.Proofs.Ytcbjmggbbnpbpaa.Lg
namespace Go.Proofs.Ytcbjmggbbnpbpaa.Lg
set_option linter.unusedSimpArgs false
set_option linter.unusedVariables false
set_option maxRecDepth 100000

/-- the end of the line: the first break from a place on, or the end -/
def endN (s : ByteArray) (p : Nat) : Nat := if p < s.size ∧ bA s p ≠ 10 then endN s (p + 1) else p
termination_by s.size - p
theorem endN_go {s : ByteArray} {p : Nat} (h : p < s.size) (h2 : bA s p ≠ 10) : endN s p = endN s (p + 1) := by rw [endN, if_pos ⟨h, h2⟩]
theorem endN_here {s : ByteArray} {p : Nat} (h : ¬ (p < s.size ∧ bA s p ≠ 10)) : endN s p = p := by rw [endN, if_neg h]
theorem endN_spec (s : ByteArray) : ∀ (d p : Nat), s.size - p ≤ d → p ≤ s.size → p ≤ endN s p ∧ endN s p ≤ s.size ∧ (∀ j : Nat, p ≤ j → j < endN s p → bA s j ≠ 10) ∧ (endN s p < s.size → bA s (endN s p) = 10) := by
  intro d
  induction d with
  | zero =>
    intro p hd hp
    rw [endN_here (by omega)]
    exact ⟨Nat.le_refl _, hp, fun j h1 h2 => by omega, fun h => by omega⟩
  | succ d ih =>
    intro p hd hp
    by_cases h : p < s.size ∧ bA s p ≠ 10
    · rw [endN_go h.1 h.2]
      obtain ⟨h1, h2, h3, h4⟩ := ih (p + 1) (by omega) (by omega)
      refine ⟨by omega, h2, fun j hj1 hj2 => ?_, h4⟩
      by_cases hj : j = p
      · rw [hj]; exact h.2
      · exact h3 j (by omega) hj2
    · rw [endN_here h]
      refine ⟨Nat.le_refl _, hp, fun j h1 h2 => by omega, fun hlt => ?_⟩
      by_cases h10 : bA s p = 10
      · exact h10
      · exact absurd ⟨hlt, h10⟩ h
theorem endN_lo {s : ByteArray} {p : Nat} (h : p ≤ s.size) : p ≤ endN s p := (endN_spec s _ p (Nat.le_refl _) h).1
theorem endN_hi {s : ByteArray} {p : Nat} (h : p ≤ s.size) : endN s p ≤ s.size := (endN_spec s _ p (Nat.le_refl _) h).2.1
theorem endN_ne {s : ByteArray} {p : Nat} (h : p ≤ s.size) : ∀ j : Nat, p ≤ j → j < endN s p → bA s j ≠ 10 := (endN_spec s _ p (Nat.le_refl _) h).2.2.1
theorem endN_at {s : ByteArray} {p : Nat} (h : p ≤ s.size) : endN s p < s.size → bA s (endN s p) = 10 := (endN_spec s _ p (Nat.le_refl _) h).2.2.2
/-- how many bytes 'c' there are -/
def cnL (c : UInt8) : List UInt8 → Nat
  | [] => 0
  | b :: l => (if b == c then 1 else 0) + cnL c l
theorem cnt_loop (s : ByteArray) (c : UInt8) : ∀ (i j : Nat) (b : Int), j + i = s.size →
    _root_.Id.run (ByteArray.foldlM.loop (m := _root_.Id) (fun (n : Int) x => pure (if x == c then n + 1 else n)) s s.size (Nat.le_refl _) i j b) = b + (cnL c ((bs s).drop j) : Nat) := by
  intro i
  induction i with
  | zero =>
    intro j b hj
    unfold ByteArray.foldlM.loop
    rw [dif_neg (by omega), List.drop_of_length_le (by rw [bs_len]; omega)]
    simp [cnL]
  | succ i ih =>
    intro j b hj
    have hlt : j < (bs s).length := by rw [bs_len]; omega
    unfold ByteArray.foldlM.loop
    rw [dif_pos (show j < s.size by omega), List.drop_eq_getElem_cons hlt, cnL]
    have := ih (j + 1) (if s[j] == c then b + 1 else b) (by omega)
    have e : (s[j] : UInt8) = (bs s)[j] := rfl
    refine Eq.trans this ?_
    rw [e]
    by_cases hc : ((bs s)[j] == c) = true
    · simp only [hc, if_true]; omega
    · simp only [hc, if_false]; simp
theorem cntB_eq (s : ByteArray) (c : UInt8) : cntB s c = (cnL c (bs s) : Nat) := by
  have h := cnt_loop s c s.size 0 0 (by omega)
  rw [List.drop_zero, Int.zero_add] at h
  rw [← h]
  unfold cntB ByteArray.foldl ByteArray.foldlM
  rw [dif_pos (Nat.le_refl _)]
  rfl
/-- the lines from a place on -/
def lnF (s : ByteArray) : Nat → Nat → List ByteArray
  | 0, p => [s.extract p (endN s p)]
  | d + 1, p => s.extract p (endN s p) :: (if endN s p < s.size then lnF s d (endN s p + 1) else [])
theorem cn_none {l : List UInt8} (h : ∀ b ∈ l, b ≠ 10) : cnL 10 l = 0 := by
  induction l with
  | nil => rfl
  | cons b l ih =>
    rw [cnL, ih (fun x hx => h x (List.mem_cons_of_mem _ hx)), if_neg (by simpa using h b (by simp))]
theorem cn_app : ∀ (a b : List UInt8), cnL 10 (a ++ b) = cnL 10 a + cnL 10 b
  | [], b => by simp [cnL]
  | x :: a, b => by simp only [List.cons_append, cnL, cn_app a b]; omega
theorem cn_step {s : ByteArray} {p : Nat} (h : p ≤ s.size) : cnL 10 ((bs s).drop p) = if endN s p < s.size then 1 + cnL 10 ((bs s).drop (endN s p + 1)) else 0 := by
  have h1 := endN_lo h
  have h2 := endN_hi h
  have h3 := endN_ne h
  have h4 := endN_at h
  generalize endN s p = e at *
  have hsplit : (bs s).drop p = ((bs s).drop p).take (e - p) ++ (bs s).drop e := by
    have := List.take_append_drop (e - p) ((bs s).drop p)
    rw [List.drop_drop, show p + (e - p) = e by omega] at this
    exact this.symm
  have hno : cnL 10 (((bs s).drop p).take (e - p)) = 0 := by
    refine cn_none fun b hb => ?_
    obtain ⟨j, hj, rfl⟩ := List.mem_iff_getElem.1 hb
    rw [List.getElem_take, List.getElem_drop]
    have hjl : j < e - p := by
      rw [List.length_take] at hj; omega
    have := h3 (p + j) (by omega) (by omega)
    rw [bA_nat (by omega)] at this
    intro hc
    rw [hc] at this
    exact this rfl
  rw [hsplit, cn_app, hno, Nat.zero_add]
  by_cases hlt : e < s.size
  · rw [if_pos hlt, List.drop_eq_getElem_cons (show e < (bs s).length from hlt), cnL]
    have := h4 hlt
    rw [bA_nat hlt] at this
    have hb : (bs s)[e] = 10 := UInt8.toNat_inj.1 (by
      have h10 : (10 : UInt8).toNat = 10 := rfl
      rw [h10]; omega)
    rw [hb]
    simp
  · rw [if_neg hlt, List.drop_of_length_le (by rw [bs_len]; omega)]
    rfl
theorem bs_exts (s : ByteArray) (q e : Nat) : bs (s.extract q e) = ((bs s).drop q).take (e - q) := by
  simp [bs, ByteArray.data_extract, List.extract_eq_take_drop]
theorem exts_size {s : ByteArray} {q e : Nat} (h : e ≤ s.size) : (s.extract q e).size = e - q := by
  rw [ByteArray.size_extract, Nat.min_eq_left h]
theorem bsinj {a b : ByteArray} (h : bs a = bs b) : a = b := by
  rw [← mk_bs a, ← mk_bs b, h]
theorem ext_ext {s : ByteArray} {p q e : Nat} (h : p + e ≤ s.size) : (s.extract p s.size).extract q e = s.extract (p + q) (p + e) := by
  apply bsinj
  rw [bs_exts, bs_exts, bs_exts, List.take_of_length_le (show ((bs s).drop p).length ≤ s.size - p by rw [List.length_drop, bs_len]; exact Nat.le_refl _), List.drop_drop, show p + e - (p + q) = e - q by omega]
theorem bA_suf {s : ByteArray} {p : Nat} (hp : p ≤ s.size) (i : Nat) : bA (s.extract p s.size) i = bA s ((p + i : Nat) : Int) := by
  by_cases h : p + i < s.size
  · have h1 : i < (s.extract p s.size).size := by rw [exts_size (Nat.le_refl _)]; omega
    rw [bA_nat h1, bA_nat h]
    simp only [bs_exts]
    rw [List.getElem_take, List.getElem_drop]
  · rw [bA_out (by rw [exts_size (Nat.le_refl _)]; omega), bA_out (by omega)]
theorem idx_suf {s : ByteArray} {p : Nat} (hp : p ≤ s.size) : idxB (s.extract p s.size) 10 = if endN s p < s.size then ((endN s p - p : Nat) : Int) else -1 := by
  have h1 := endN_lo hp
  have h2 := endN_hi hp
  have h3 := endN_ne hp
  have h4 := endN_at hp
  have hz : (s.extract p s.size).size = s.size - p := exts_size (Nat.le_refl _)
  rcases idxB_or (s.extract p s.size) 10 with ⟨e, h⟩ | ⟨i, e, hi, ha, hb⟩
  · rw [e]
    by_cases hlt : endN s p < s.size
    · exfalso
      have := h (endN s p - p) (by omega)
      rw [bA_suf hp, show p + (endN s p - p) = endN s p by omega] at this
      exact this (h4 hlt)
    · rw [if_neg hlt]
  · rw [e]
    rw [bA_suf hp] at ha
    have hge : endN s p ≤ p + i := by
      rcases Nat.lt_or_ge (p + i) (endN s p) with hl | hl
      · exact absurd ha (h3 (p + i) (by omega) hl)
      · exact hl
    have hlt : endN s p < s.size := by omega
    rw [if_pos hlt]
    have hle : p + i ≤ endN s p := by
      rcases Nat.lt_or_ge (endN s p) (p + i) with hl | hl
      · exfalso
        have := hb (endN s p - p) (by omega)
        rw [bA_suf hp, show p + (endN s p - p) = endN s p by omega] at this
        exact this (h4 hlt)
      · exact hl
    omega
theorem cntB_suf {s : ByteArray} {p : Nat} (hp : p ≤ s.size) : cntB (s.extract p s.size) 10 = (cnL 10 ((bs s).drop p) : Nat) := by
  rw [cntB_eq, bs_exts, List.take_of_length_le (show ((bs s).drop p).length ≤ s.size - p by rw [List.length_drop, bs_len]; exact Nat.le_refl _)]
theorem cn_le (l : List UInt8) : cnL 10 l ≤ l.length := by
  induction l with
  | nil => exact Nat.le_refl _
  | cons b l ih =>
    rw [cnL, List.length_cons]
    split <;> omega
end Go.Proofs.Ytcbjmggbbnpbpaa.Lg
namespace Go.Proofs.Ytcbjmggbbnpbpaa.Lg
set_option linter.unusedSimpArgs false
set_option linter.unusedVariables false
set_option maxRecDepth 100000

/-- a place brought into a text -/
def spt (s : ByteArray) (p : Int) : Nat := if p < 0 then 0 else if (s.size : Int) < p then s.size else p.toNat
theorem spt_le (s : ByteArray) (p : Int) : spt s p ≤ s.size := by
  unfold spt
  by_cases h : p < 0
  · rw [if_pos h]; omega
  · rw [if_neg h]
    by_cases h2 : (s.size : Int) < p
    · rw [if_pos h2]; exact Nat.le_refl _
    · rw [if_neg h2]; omega
theorem spt_in {s : ByteArray} {p : Nat} (h : p ≤ s.size) : spt s p = p := by
  unfold spt
  rw [if_neg (by omega), if_neg (by omega), Int.toNat_natCast]
theorem spt_z {s : ByteArray} {p : Int} (h0 : 0 ≤ p) (h : p ≤ s.size) : (spt s p : Int) = p := by
  unfold spt
  rw [if_neg (by omega), if_neg (by omega)]
  omega
theorem bA_spt {s : ByteArray} {p : Int} (h : 0 ≤ p) : bA s (spt s p : Int) = bA s p := by
  unfold spt
  rw [if_neg (by omega)]
  by_cases h2 : (s.size : Int) < p
  · rw [if_pos h2, bA_out (Int.le_refl _), bA_out (by omega)]
  · rw [if_neg h2]; congr 1; omega
theorem bA_neg {s : ByteArray} {p : Int} : bA s p < 0 ↔ p < 0 ∨ (s.size : Int) ≤ p := by
  unfold bA
  by_cases h : 0 ≤ p ∧ p < (s.size : Int)
  · rw [if_pos h]; omega
  · rw [if_neg h]; omega
/-- the beginning of the line -/
def lnN (s : ByteArray) : Nat → Nat
  | 0 => 0
  | p + 1 => if bA s p = 10 then p + 1 else lnN s p
theorem lnN_le (s : ByteArray) : ∀ p, lnN s p ≤ p
  | 0 => Nat.le_refl _
  | p + 1 => by
    unfold lnN
    have := lnN_le s p
    by_cases h : bA s p = 10
    · rw [if_pos h]; exact Nat.le_refl _
    · rw [if_neg h]; omega
theorem lnN_s {s : ByteArray} {p : Nat} : lnN s (p + 1) = if bA s p = 10 then p + 1 else lnN s p := rfl
theorem lnN_idem (s : ByteArray) : ∀ p, lnN s (lnN s p) = lnN s p
  | 0 => rfl
  | p + 1 => by
    rw [lnN_s]
    by_cases h : bA s p = 10
    · rw [if_pos h, lnN_s, if_pos h]
    · rw [if_neg h]; exact lnN_idem s p
/-- the last place of a byte ahead of a place; -1: none -/
def lastF (s : ByteArray) (c : Int) : Nat → Int
  | 0 => -1
  | p + 1 => if bA s p = c then p else lastF s c p
theorem lastF_ln {s : ByteArray} {q : Nat} (hq : q ≤ s.size) : ∀ p, p ≤ q → lastF (s.extract 0 q) 10 p + 1 = (lnN s p : Nat)
  | 0, _ => rfl
  | p + 1, h => by
    have e : bA (s.extract 0 q) p = bA s p := by
      have hz : (s.extract 0 q).size = q := by rw [exts_size hq]; omega
      rw [bA_nat (by omega), bA_nat (by omega)]
      simp only [bs_exts]
      rw [List.getElem_take, List.getElem_drop]
      congr 3; omega
    unfold lastF lnN
    rw [e]
    by_cases h2 : bA s p = 10
    · rw [if_pos h2, if_pos h2]; omega
    · rw [if_neg h2, if_neg h2]; exact lastF_ln hq p (by omega)
/-- behind white -/
def wtN (s : ByteArray) (p : Nat) : Nat := if p < s.size ∧ (bA s p = 32 ∨ bA s p = 9) then wtN s (p + 1) else p
termination_by s.size - p
theorem wtN_go {s : ByteArray} {p : Nat} (h : bA s p = 32 ∨ bA s p = 9) : wtN s p = wtN s (p + 1) := by
  have : p < s.size := by
    by_cases h2 : p < s.size
    · exact h2
    · rw [bA_out (by omega)] at h; omega
  rw [wtN, if_pos ⟨this, h⟩]
theorem wtN_here {s : ByteArray} {p : Nat} (h : ¬ (bA s p = 32 ∨ bA s p = 9)) : wtN s p = p := by rw [wtN, if_neg (fun h2 => h h2.2)]
theorem bA_in' {s : ByteArray} {p : Nat} {c : Int} (h : bA s p = c) (hc : 0 ≤ c) : p < s.size := by
  by_cases h2 : p < s.size
  · exact h2
  · rw [bA_out (by omega)] at h; omega
theorem wtN_spec (s : ByteArray) : ∀ (d p : Nat), s.size - p ≤ d → p ≤ wtN s p ∧ (p ≤ s.size → wtN s p ≤ s.size) ∧ ¬ (bA s (wtN s p) = 32 ∨ bA s (wtN s p) = 9) ∧ ∀ j : Nat, p ≤ j → j < wtN s p → bA s j = 32 ∨ bA s j = 9 := by
  intro d
  induction d with
  | zero =>
    intro p hd
    have h : ¬ (bA s p = 32 ∨ bA s p = 9) := by rw [bA_out (by omega)]; omega
    rw [wtN_here h]
    exact ⟨Nat.le_refl _, fun h => h, h, fun j h1 h2 => by omega⟩
  | succ d ih =>
    intro p hd
    by_cases h : bA s p = 32 ∨ bA s p = 9
    · have hlt : p < s.size := by
        rcases h with h | h <;> exact bA_in' h (by omega)
      rw [wtN_go h]
      obtain ⟨h1, h2, h3, h4⟩ := ih (p + 1) (by omega)
      refine ⟨by omega, fun _ => h2 (by omega), h3, fun j hj1 hj2 => ?_⟩
      by_cases e : j = p
      · rw [e]; exact h
      · exact h4 j (by omega) hj2
    · rw [wtN_here h]
      exact ⟨Nat.le_refl _, fun h => h, h, fun j h1 h2 => by omega⟩
theorem wtN_lo (s : ByteArray) (p : Nat) : p ≤ wtN s p := (wtN_spec s _ p (Nat.le_refl _)).1
theorem wtN_hi {s : ByteArray} {p : Nat} (h : p ≤ s.size) : wtN s p ≤ s.size := (wtN_spec s _ p (Nat.le_refl _)).2.1 h
theorem wtN_no (s : ByteArray) (p : Nat) : ¬ (bA s (wtN s p) = 32 ∨ bA s (wtN s p) = 9) := (wtN_spec s _ p (Nat.le_refl _)).2.2.1
theorem wtN_yes {s : ByteArray} {p j : Nat} (h1 : p ≤ j) (h2 : j < wtN s p) : bA s j = 32 ∨ bA s j = 9 := (wtN_spec s _ p (Nat.le_refl _)).2.2.2 j h1 h2
/-- behind blanks -/
def blN (s : ByteArray) (p : Nat) : Nat := if p < s.size ∧ bA s p = 32 then blN s (p + 1) else p
termination_by s.size - p
theorem blN_go {s : ByteArray} {p : Nat} (h : bA s p = 32) : blN s p = blN s (p + 1) := by rw [blN, if_pos ⟨bA_in' h (by omega), h⟩]
theorem blN_here {s : ByteArray} {p : Nat} (h : ¬ bA s p = 32) : blN s p = p := by rw [blN, if_neg (fun h2 => h h2.2)]
theorem blN_bnd (s : ByteArray) : ∀ (d p : Nat), s.size - p ≤ d → p ≤ blN s p ∧ (p ≤ s.size → blN s p ≤ s.size) := by
  intro d
  induction d with
  | zero =>
    intro p hd
    rw [blN_here (by rw [bA_out (by omega)]; omega)]
    exact ⟨Nat.le_refl _, fun h => h⟩
  | succ d ih =>
    intro p hd
    by_cases h : bA s p = 32
    · have hlt := bA_in' h (by omega)
      rw [blN_go h]
      have := ih (p + 1) (by omega)
      exact ⟨by omega, fun _ => this.2 (by omega)⟩
    · rw [blN_here h]; exact ⟨Nat.le_refl _, fun h => h⟩
theorem blN_lo (s : ByteArray) (p : Nat) : p ≤ blN s p := (blN_bnd s _ p (Nat.le_refl _)).1
theorem blN_hi {s : ByteArray} {p : Nat} (h : p ≤ s.size) : blN s p ≤ s.size := (blN_bnd s _ p (Nat.le_refl _)).2 h
def indN (s : ByteArray) (p : Nat) : Nat := blN s (lnN s p) - lnN s p
/-- is there a gap at a place? -/
def gapP (s : ByteArray) (p : Int) : Prop := (bA s p = 32 ∨ bA s p = 9) ∨ bA s p = 10 ∨ bA s p < 0
instance (s : ByteArray) (p : Int) : Decidable (gapP s p) := by unfold gapP; infer_instance
def markN (s : ByteArray) (p : Nat) : Int :=
  if (lnN s p ≠ p ∨ s.size < p + 3) ∨ ¬ gapP s (p + 3 : Nat) then 0
  else if s.extract p (p + 3) = ⟨#[45, 45, 45]⟩ then 1 else if s.extract p (p + 3) = ⟨#[46, 46, 46]⟩ then 2 else 0
/-- is nothing behind a place on its line? -/
def rsB (s : ByteArray) (p : Nat) : Bool := decide ((bA s (wtN s p) = 10 ∨ bA s (wtN s p) < 0) ∨ bA s (wtN s p) = 35 ∧ (wtN s p ≠ p ∨ lnN s p = p))
def rsN (s : ByteArray) (p : Nat) : Nat := if rsB s p = true then endN s (wtN s p) else wtN s p
def lonB (s : ByteArray) (p : Nat) : Bool := decide (bA s (wtN s (lnN s p)) = 10 ∨ bA s (wtN s (lnN s p)) < 0)
theorem endN_gt {s : ByteArray} {p : Nat} (h : p < s.size) (h2 : bA s p = 35) : p < endN s p := by
  rw [endN_go h (by omega)]
  have := endN_lo (s := s) (p := p + 1) (by omega)
  omega
/-- behind a gap -/
def gpN (s : ByteArray) (p : Nat) : Nat :=
  if h : p < s.size then
    if (bA s p = 32 ∨ bA s p = 9) ∨ bA s p = 10 then gpN s (p + 1)
    else if h2 : bA s p = 35 ∧ (lnN s p = p ∨ bA s ((p : Int) - 1) = 32 ∨ bA s ((p : Int) - 1) = 9) then gpN s (endN s p) else p
  else p
termination_by s.size - p
decreasing_by
  · omega
  · have := endN_gt h h2.1; omega
theorem gpN_out {s : ByteArray} {p : Nat} (h : s.size ≤ p) : gpN s p = p := by rw [gpN, dif_neg (by omega)]
theorem gpN_go {s : ByteArray} {p : Nat} (h : (bA s p = 32 ∨ bA s p = 9) ∨ bA s p = 10) : gpN s p = gpN s (p + 1) := by
  have : p < s.size := by rcases h with (h | h) | h <;> exact bA_in' h (by omega)
  rw [gpN, dif_pos this, if_pos h]
theorem gpN_rem {s : ByteArray} {p : Nat} (h : bA s p = 35) (h2 : lnN s p = p ∨ bA s ((p : Int) - 1) = 32 ∨ bA s ((p : Int) - 1) = 9) : gpN s p = gpN s (endN s p) := by
  rw [gpN, dif_pos (bA_in' h (by omega)), if_neg (by omega), dif_pos ⟨h, h2⟩]
theorem gpN_here {s : ByteArray} {p : Nat} (h : ¬ ((bA s p = 32 ∨ bA s p = 9) ∨ bA s p = 10)) (h2 : ¬ (bA s p = 35 ∧ (lnN s p = p ∨ bA s ((p : Int) - 1) = 32 ∨ bA s ((p : Int) - 1) = 9))) : gpN s p = p := by
  rw [gpN]
  by_cases h3 : p < s.size
  · rw [dif_pos h3, if_neg h, dif_neg h2]
  · rw [dif_neg h3]
theorem gpN_wt (s : ByteArray) : ∀ (d p : Nat), s.size - p ≤ d → gpN s (wtN s p) = gpN s p := by
  intro d
  induction d with
  | zero => intro p hd; rw [wtN_here (by rw [bA_out (by omega)]; omega)]
  | succ d ih =>
    intro p hd
    by_cases h : bA s p = 32 ∨ bA s p = 9
    · rw [wtN_go h, ih (p + 1) (by omega), gpN_go (.inl h)]
    · rw [wtN_here h]
theorem gpN_bnd (s : ByteArray) : ∀ (d p : Nat), s.size - p ≤ d → p ≤ gpN s p ∧ (p ≤ s.size → gpN s p ≤ s.size) := by
  intro d
  induction d with
  | zero => intro p hd; rw [gpN_out (by omega)]; exact ⟨Nat.le_refl _, fun h => h⟩
  | succ d ih =>
    intro p hd
    by_cases h : (bA s p = 32 ∨ bA s p = 9) ∨ bA s p = 10
    · have hlt : p < s.size := by rcases h with (h | h) | h <;> exact bA_in' h (by omega)
      rw [gpN_go h]
      have := ih (p + 1) (by omega)
      exact ⟨by omega, fun _ => this.2 (by omega)⟩
    · by_cases h2 : bA s p = 35 ∧ (lnN s p = p ∨ bA s ((p : Int) - 1) = 32 ∨ bA s ((p : Int) - 1) = 9)
      · have hlt := bA_in' h2.1 (by omega)
        have h3 := endN_gt hlt h2.1
        have h4 := endN_hi (s := s) (p := p) (by omega)
        rw [gpN_rem h2.1 h2.2]
        have := ih (endN s p) (by omega)
        exact ⟨by omega, fun _ => this.2 h4⟩
      · rw [gpN_here h h2]; exact ⟨Nat.le_refl _, fun h => h⟩
theorem gpN_lo (s : ByteArray) (p : Nat) : p ≤ gpN s p := (gpN_bnd s _ p (Nat.le_refl _)).1
theorem gpN_hi {s : ByteArray} {p : Nat} (h : p ≤ s.size) : gpN s p ≤ s.size := (gpN_bnd s _ p (Nat.le_refl _)).2 h
theorem lonB_end (s : ByteArray) (p : Nat) : lonB s p = lonB s p := rfl
end Go.Proofs.Ytcbjmggbbnpbpaa.Lg
namespace Go.Proofs.Ytcbjmggbbnpbpaa.Lg
set_option linter.unusedSimpArgs false
set_option linter.unusedVariables false
set_option maxRecDepth 100000
set_option maxHeartbeats 40000000
open Go.Proofs.Ytcbjmggbbnpbpaa

theorem run_spot (s : ByteArray) (p : Int) (fl : Nat) (H : LH) (hs : s.size ≤ 1099511627776) : run 103 [.str s, .int .i64 p] fl H = some (.int .i64 (spt s p), H) := by
  unfold run
  rw [Run_z Try.func103 rfl (by rfl : ok 103 = true) (by rfl : cfg.keep 103 = [0, 1, 4]) (by rfl : cfg.mode 103 = .pure) (by rfl : cfg.ord 103 = [])]
  simp (config := {contextual := true, maxSteps := 10000000, implicitDefEqProofs := false}) (disch := first | (and_intros <;> omega -splitDisjunctions) | (simp only [List.length_set, List.length_append, List.length_cons, List.length_nil]; and_intros <;> omega -splitDisjunctions) | fail) only [maxV, minV, Try.f103, go_sem, ↓reduceIte, Nat.reduceEqDiff, Nat.reduceAdd, Nat.reduceMul, Nat.reduceLT, Nat.reduceLeDiff, reduceCtorEq, Int.reduceNe, Int.reduceEq, Int.reduceLT, Int.reduceLE, Int.reduceAdd, Int.reduceSub, Int.reduceMul, Int.reduceNeg, Int.reduceToNat, UInt8.reduceToNat, natLit, ty3, ty9]
  congr 3
  unfold spt
  grind
theorem run_byteAt0 (s : ByteArray) (p : Int) (fl : Nat) (H : LH) (hs : s.size ≤ 1099511627776) : run 102 [.str s, .int .i64 p] fl H = some (.int .i64 (bA s (spt s p)), H) := by
  have e1 := fun fl H => run_spot s p fl H hs
  have h1 := spt_le s p
  unfold run at *
  rw [Run_z Try.func102 rfl (by rfl : ok 102 = true) (by rfl : cfg.keep 102 = [0, 1, 4, 11]) (by rfl : cfg.mode 102 = .pure) (by rfl : cfg.ord 102 = [])]
  rcases Nat.lt_or_ge (spt s p) s.size with h | h
  · have t1 : ((spt s p : Int) = s.size) = False := eq_false (by omega)
    simp (config := {contextual := true, maxSteps := 10000000, implicitDefEqProofs := false}) (disch := first | (and_intros <;> omega -splitDisjunctions) | (simp only [List.length_set, List.length_append, List.length_cons, List.length_nil]; and_intros <;> omega -splitDisjunctions) | fail) only [e1, t1, Try.f102, go_sem, ↓reduceIte, Nat.reduceEqDiff, Nat.reduceAdd, Nat.reduceMul, Nat.reduceLT, Nat.reduceLeDiff, reduceCtorEq, Int.reduceNe, Int.reduceEq, Int.reduceLT, Int.reduceLE, Int.reduceAdd, Int.reduceSub, Int.reduceMul, Int.reduceNeg, Int.reduceToNat, UInt8.reduceToNat, natLit, ty3, ty5, ty9]
  · have t1 : ((spt s p : Int) = s.size) = True := eq_true (by omega)
    simp (config := {contextual := true, maxSteps := 10000000, implicitDefEqProofs := false}) (disch := first | (and_intros <;> omega -splitDisjunctions) | (simp only [List.length_set, List.length_append, List.length_cons, List.length_nil]; and_intros <;> omega -splitDisjunctions) | fail) only [e1, t1, Try.f102, go_sem, ↓reduceIte, Nat.reduceEqDiff, Nat.reduceAdd, Nat.reduceMul, Nat.reduceLT, Nat.reduceLeDiff, reduceCtorEq, Int.reduceNe, Int.reduceEq, Int.reduceLT, Int.reduceLE, Int.reduceAdd, Int.reduceSub, Int.reduceMul, Int.reduceNeg, Int.reduceToNat, UInt8.reduceToNat, natLit, ty3, ty5, ty9]
    rw [bA_out (by omega)]
theorem run_byteAt (s : ByteArray) (p : Int) (fl : Nat) (H : LH) (h0 : 0 ≤ p) (hs : s.size ≤ 1099511627776) : run 102 [.str s, .int .i64 p] fl H = some (.int .i64 (bA s p), H) := by
  rw [run_byteAt0 s p fl H hs, bA_spt h0]
end Go.Proofs.Ytcbjmggbbnpbpaa.Lg
namespace Go.Proofs.Ytcbjmggbbnpbpaa.Lg
set_option linter.unusedSimpArgs false
set_option linter.unusedVariables false
set_option maxRecDepth 100000
set_option maxHeartbeats 40000000
open Go.Proofs.Ytcbjmggbbnpbpaa

/-- the worth of a digit; 99: none -/
def hexD (b : Int) : Int := if 48 ≤ b ∧ b ≤ 57 then b - 48 else if 97 ≤ b ∧ b ≤ 102 then b - 87 else if 65 ≤ b ∧ b ≤ 70 then b - 55 else 99
def hexP (s : ByteArray) : Nat → Nat → Int → Option Int
  | _, 0, n => some n
  | p, k + 1, n => if hexD (bA s p) = 99 then none else hexP s (p + 1) k (16 * n + hexD (bA s p))
def hexF : Option Int → V
  | none => .tup [.int .i64 0, .bool false]
  | some n => .tup [.int .i64 n, .bool true]
theorem hexD_lo (b : Int) : 0 ≤ hexD b := by unfold hexD; grind
theorem hexD_hi (b : Int) : hexD b ≤ 15 ∨ hexD b = 99 := by unfold hexD; grind
def pw16 (i : Nat) : Int := 16 ^ i
theorem pw16_succ (i : Nat) : pw16 (i + 1) = 16 * pw16 i := by unfold pw16; rw [Int.pow_succ]; omega
theorem pw16_le {i : Nat} (h : i ≤ 8) : pw16 i ≤ 4294967296 := by
  have : ∀ k, k < 9 → pw16 k ≤ 4294967296 := by decide
  exact this i (by omega)
theorem sz0 (s : ByteArray) : s.size = 0 ↔ s = ⟨#[]⟩ := by
  constructor
  · intro h
    apply ByteArray.ext
    exact Array.size_eq_zero_iff.mp h
  · rintro rfl; rfl
theorem run_hexValue (s : ByteArray) (p many : Nat) (fl : Nat) (H : LH) (hs : s.size ≤ 1099511627776) (hp : p ≤ 1099511627776) (hm : many ≤ 8) :
    run 101 [.str s, .int .i64 p, .int .i64 many] fl H = some (hexF (hexP s p many 0), H) := by
  have e1 := fun q (h : (0 : Int) ≤ q) fl H => run_byteAt s q fl H h hs
  have e2 := fun a b c fl H => run_within a b c fl H
  unfold run at *
  rw [Run_z Try.func101 rfl (by rfl : ok 101 = true) (by rfl : cfg.keep 101 = [0, 1, 2, 6, 7, 8, 9, 10, 11, 12, 13, 20, 28, 37]) (by rfl : cfg.mode 101 = .pure) (by rfl : cfg.ord 101 = [])]
  simp (config := {contextual := true, maxSteps := 10000000, implicitDefEqProofs := false}) (disch := first | (and_intros <;> omega -splitDisjunctions) | (simp only [List.length_set, List.length_append, List.length_cons, List.length_nil]; and_intros <;> omega -splitDisjunctions) | fail) only [Try.f101, go_sem, ↓reduceIte, Nat.reduceEqDiff, Nat.reduceAdd, Nat.reduceMul, Nat.reduceLT, Nat.reduceLeDiff, reduceCtorEq, Int.reduceNe, Int.reduceEq, Int.reduceLT, Int.reduceLE, Int.reduceAdd, Int.reduceSub, Int.reduceMul, Int.reduceNeg, Int.reduceToNat, UInt8.reduceToNat, natLit, ty3]
  refine at_loopE fun c R hc hR => ?_
  have key : ∀ (m : Nat) (i : Nat) (n j : Int) (x9 x10 x13 x20 x28 x37 : Option V), many - i < m → j = (i : Int) → i ≤ many → 0 ≤ n → n < pw16 i → hexP s (p + i) (many - i) n = hexP s p many 0 →
      zEv (leaveX (mkR Try.prog cfg ok [0, 1, 2, 6, 7, 8, 9, 10, 11, 12, 13, 20, 28, 37] H.length) .pure H [ResultVar.tmp 6, ResultVar.tmp 7]) (mkR Try.prog cfg ok [0, 1, 2, 6, 7, 8, 9, 10, 11, 12, 13, 20, 28, 37] H.length) (K.code (Code.loop c) :: K.blk 0 :: R) .nrm [some (.str s), some (.int .i64 p), some (.int .i64 many), some (.int .i64 0), some (.bool false), some (.int .i64 n), x9, x10, some (.int .i64 many), some (.int .i64 j), x13, x20, x28, x37] (H) = some (hexF (hexP s p many 0), H) := by
    intro m
    induction m with
    | zero => intro i n j x9 x10 x13 x20 x28 x37 hm; omega
    | succ m ih =>
      intro i n j x9 x10 x13 x20 x28 x37 hm hj hi h0 hn hf
      subst hj
      have p1 := pw16_le (i := i) (by omega)
      have p2 := pw16_succ i
      rw [zEv_round hc, ← hR]
      simp (config := {contextual := true, maxSteps := 10000000, implicitDefEqProofs := false}) (disch := first | (and_intros <;> omega -splitDisjunctions) | (simp only [List.length_set, List.length_append, List.length_cons, List.length_nil]; and_intros <;> omega -splitDisjunctions) | fail) only [e1, e2, Try.f101, go_sem, ↓reduceIte, Nat.reduceEqDiff, Nat.reduceAdd, Nat.reduceMul, Nat.reduceLT, Nat.reduceLeDiff, reduceCtorEq, Int.reduceNe, Int.reduceEq, Int.reduceLT, Int.reduceLE, Int.reduceAdd, Int.reduceSub, Int.reduceMul, Int.reduceNeg, Int.reduceToNat, UInt8.reduceToNat, natLit, ty3]
      try rw [hR]
      refine ite_E (fun h => ?_) (fun h => ?_)
      · have e : many - i = (many - (i + 1)) + 1 := by omega
        rw [e, hexP] at hf
        have hb : ((p : Int) + (i : Int)) = ((p + i : Nat) : Int) := by omega
        rw [hb]
        have d0 : hexD (bA s ((p + i : Nat) : Int)) = hexD (bA s ((p + i : Nat) : Int)) := rfl
        conv at d0 => rhs; unfold hexD
        generalize bA s ((p + i : Nat) : Int) = b at *
        refine ite_E (fun h1 => ?_) (fun h1 => ?_)
        · rw [if_pos h1] at d0
          rw [if_neg (by omega), d0] at hf
          exact ih (i + 1) _ _ _ _ _ _ _ _ (by omega) (by omega) (by omega) (by omega) (by omega) (by rw [← hf]; congr 1; omega)
        refine ite_E (fun h2 => ?_) (fun h2 => ?_)
        · rw [if_neg h1, if_pos h2] at d0
          rw [if_neg (by omega), d0] at hf
          exact ih (i + 1) _ _ _ _ _ _ _ _ (by omega) (by omega) (by omega) (by omega) (by omega) (by rw [← hf]; congr 1; omega)
        refine ite_E (fun h3 => ?_) (fun h3 => ?_)
        · rw [if_neg h1, if_neg h2, if_pos h3] at d0
          rw [if_neg (by omega), d0] at hf
          exact ih (i + 1) _ _ _ _ _ _ _ _ (by omega) (by omega) (by omega) (by omega) (by omega) (by rw [← hf]; congr 1; omega)
        · rw [if_neg h1, if_neg h2, if_neg h3] at d0
          rw [if_pos d0] at hf
          rw [← hf]; rfl
      · have e : many - i = 0 := by omega
        rw [e, hexP] at hf
        rw [← hf]; rfl
  exact key (many + 1) 0 0 _ _ _ _ _ _ _ (by omega) rfl (by omega) (by decide) (by decide) (by simp)
/-- what digits of a base write -/
def digB (base : Int) : List UInt8 → Int → Option Int
  | [], n => some n
  | b :: l, n => if base ≤ hexD b.toNat then none else if 9007199254740991 < n * base + hexD b.toNat then none else digB base l (n * base + hexD b.toNat)
def digV (base : Int) (s : ByteArray) : Option Int := if s.size = 0 then none else digB base (bs s) 0
def optF (s : ByteArray) : Option Int → V
  | none => .tup [.int .i64 0, .bool false]
  | some n => if s.size = 0 then .tup [.int .i64 0, .bool false] else .tup [.int .i64 n, .bool true]
theorem optF_V (base : Int) (s : ByteArray) : optF s (digB base (bs s) 0) = hexF (digV base s) := by
  unfold digV optF
  by_cases h : s.size = 0
  · rw [if_pos h]; cases digB base (bs s) 0 with
    | none => rfl
    | some n => simp only [h, if_true]; rfl
  · rw [if_neg h]; cases digB base (bs s) 0 with
    | none => rfl
    | some n => simp only [h, if_false]; rfl
theorem run_digitsOf (s : ByteArray) (base : Int) (fl : Nat) (H : LH) (hb : base = 8 ∨ base = 10 ∨ base = 16) (hs : s.size ≤ 1099511627776) :
    run 100 [.str s, .int .i64 base] fl H = some (hexF (digV base s), H) := by
  have e1 : ∀ (q : Int) (h0 : 0 ≤ q) (h : q < s.size) (fl : Nat) (H : LH), run 101 [.str s, .int .i64 q, .int .i64 1] fl H = some (.tup [.int .i64 (if hexD (bA s q) = 99 then 0 else hexD (bA s q)), .bool (!(decide (hexD (bA s q) = 99)))], H) := by
    intro q h0 h fl H
    have := run_hexValue s q.toNat 1 fl H hs (by omega) (by omega)
    have e : ((q.toNat : Nat) : Int) = q := by omega
    rw [e] at this
    refine this.trans ?_
    simp only [hexP, e]
    by_cases h9 : hexD (bA s q) = 99
    · simp only [h9, if_true, decide_true, Bool.not_true]; rfl
    · simp only [h9, if_false, decide_false, Bool.not_false]; show some (V.tup [.int .i64 (16 * 0 + hexD (bA s q)), _], H) = _; congr 4; simp
  rw [← optF_V]
  have hb2 : 8 ≤ base ∧ base ≤ 16 := by omega
  unfold run at *
  rw [Run_z Try.func100 rfl (by rfl : ok 100 = true) (by rfl : cfg.keep 100 = [0, 1, 4, 5, 6, 7, 8, 9, 11, 12, 13, 27, 34]) (by rfl : cfg.mode 100 = .pure) (by rfl : cfg.ord 100 = [])]
  simp (config := {contextual := true, maxSteps := 10000000, implicitDefEqProofs := false}) (disch := first | (and_intros <;> omega -splitDisjunctions) | (simp only [List.length_set, List.length_append, List.length_cons, List.length_nil]; and_intros <;> omega -splitDisjunctions) | fail) only [Try.f100, go_sem, ↓reduceIte, Nat.reduceEqDiff, Nat.reduceAdd, Nat.reduceMul, Nat.reduceLT, Nat.reduceLeDiff, reduceCtorEq, Int.reduceNe, Int.reduceEq, Int.reduceLT, Int.reduceLE, Int.reduceAdd, Int.reduceSub, Int.reduceMul, Int.reduceNeg, Int.reduceToNat, UInt8.reduceToNat, natLit, ty3, ty4, ty9]
  refine at_loopE fun c R hc hR => ?_
  have key : ∀ (m : Nat) (i : Nat) (n j : Int) (x7 x8 x9 x13 x27 x34 : Option V), s.size - i < m → j = (i : Int) → i ≤ s.size → 0 ≤ n → n ≤ 9007199254740991 → digB base ((bs s).drop i) n = digB base (bs s) 0 →
      zEv (leaveX (mkR Try.prog cfg ok [0, 1, 4, 5, 6, 7, 8, 9, 11, 12, 13, 27, 34] H.length) .pure H [ResultVar.tmp 4, ResultVar.tmp 5]) (mkR Try.prog cfg ok [0, 1, 4, 5, 6, 7, 8, 9, 11, 12, 13, 27, 34] H.length) (K.code (Code.loop c) :: K.blk 0 :: R) .nrm [some (.str s), some (.int .i64 base), some (.int .i64 0), some (.bool false), some (.int .i64 n), x7, x8, x9, some (.int .i64 s.size), some (.int .i64 j), x13, x27, x34] (H) = some (optF s (digB base (bs s) 0), H) := by
    intro m
    induction m with
    | zero => intro i n j x7 x8 x9 x13 x27 x34 hm; omega
    | succ m ih =>
      intro i n j x7 x8 x9 x13 x27 x34 hm hj hi h0 hn hf
      subst hj
      have b1 := hexD_lo (bA s i)
      have b2 := hexD_hi (bA s i)
      rw [zEv_round hc, ← hR]
      rcases hb with rfl | rfl | rfl
      all_goals
        rcases b2 with b2 | b2
        · simp (config := {contextual := true, maxSteps := 10000000, implicitDefEqProofs := false}) (disch := first | (and_intros <;> omega -splitDisjunctions) | (simp only [List.length_set, List.length_append, List.length_cons, List.length_nil]; and_intros <;> omega -splitDisjunctions) | fail) only [e1, Try.f100, go_sem, ↓reduceIte, Nat.reduceEqDiff, Nat.reduceAdd, Nat.reduceMul, Nat.reduceLT, Nat.reduceLeDiff, reduceCtorEq, Int.reduceNe, Int.reduceEq, Int.reduceLT, Int.reduceLE, Int.reduceAdd, Int.reduceSub, Int.reduceMul, Int.reduceNeg, Int.reduceToNat, UInt8.reduceToNat, natLit, ty3, ty4, ty9]
          try rw [hR]
          refine ite_E (fun h => ?_) (fun h => ?_)
          · have hlt : i < (bs s).length := by rw [bs_len]; omega
            rw [List.drop_eq_getElem_cons hlt, digB, ← bA_nat (by omega)] at hf
            refine ite_E (fun h2 => ?_) (fun h2 => ?_)
            · rw [if_pos (by omega)] at hf
              rw [← hf]; rfl
            refine ite_E (fun h3 => ?_) (fun h3 => ?_)
            · rw [if_neg (by omega), if_pos h3] at hf
              rw [← hf]; rfl
            · rw [if_neg (by omega), if_neg h3] at hf
              exact ih (i + 1) _ _ _ _ _ _ _ _ (by omega) (by omega) (by omega) (by omega) (by omega) hf
          · have : i = s.size := by omega
            subst this
            rw [List.drop_of_length_le (by rw [bs_len]; omega), digB] at hf
            rw [← hf]
            simp only [optF]
            by_cases h5 : s.size = 0
            · have h6 : s = ⟨#[]⟩ := (sz0 s).1 h5
              have := h0
              have h7 : n = 0 := by
                subst h6
                have : ∀ q, digB q (bs ⟨#[]⟩) 0 = some 0 := fun q => rfl
                rw [this] at hf
                exact Option.some.inj hf
              subst h7
              rw [if_pos h5]
              simp only [h6, not_true_eq_false, decide_false]
            · have h6 : ¬ s = ⟨#[]⟩ := fun h => h5 ((sz0 s).2 h)
              rw [if_neg h5]
              simp only [h6, not_false_eq_true, decide_true]
        · simp (config := {contextual := true, maxSteps := 10000000, implicitDefEqProofs := false}) (disch := first | (and_intros <;> omega -splitDisjunctions) | (simp only [List.length_set, List.length_append, List.length_cons, List.length_nil]; and_intros <;> omega -splitDisjunctions) | fail) only [e1, b2, Try.f100, go_sem, ↓reduceIte, Nat.reduceEqDiff, Nat.reduceAdd, Nat.reduceMul, Nat.reduceLT, Nat.reduceLeDiff, reduceCtorEq, Int.reduceNe, Int.reduceEq, Int.reduceLT, Int.reduceLE, Int.reduceAdd, Int.reduceSub, Int.reduceMul, Int.reduceNeg, Int.reduceToNat, UInt8.reduceToNat, natLit, ty3, ty4, ty9]
          try rw [hR]
          refine ite_E (fun h => ?_) (fun h => ?_)
          · have hlt : i < (bs s).length := by rw [bs_len]; omega
            rw [List.drop_eq_getElem_cons hlt, digB, ← bA_nat (by omega), if_pos (by omega)] at hf
            rw [← hf]; rfl
          · have : i = s.size := by omega
            subst this
            rw [List.drop_of_length_le (by rw [bs_len]; omega), digB] at hf
            rw [← hf]
            simp only [optF]
            by_cases h5 : s.size = 0
            · have h6 : s = ⟨#[]⟩ := (sz0 s).1 h5
              have h7 : n = 0 := by
                subst h6
                have : ∀ q, digB q (bs ⟨#[]⟩) 0 = some 0 := fun q => rfl
                rw [this] at hf
                exact Option.some.inj hf
              subst h7
              rw [if_pos h5]
              simp only [h6, not_true_eq_false, decide_false]
            · have h6 : ¬ s = ⟨#[]⟩ := fun h => h5 ((sz0 s).2 h)
              rw [if_neg h5]
              simp only [h6, not_false_eq_true, decide_true]
  exact key (s.size + 1) 0 0 _ _ _ _ _ _ _ (by omega) rfl (by omega) (by decide) (by decide) (by simp)
theorem dcl (b : Int) : (48 ≤ b ∧ b ≤ 57) ∨ (97 ≤ b ∧ b ≤ 102) ∨ (65 ≤ b ∧ b ≤ 70) ∨ (¬ (48 ≤ b ∧ b ≤ 57) ∧ ¬ (97 ≤ b ∧ b ≤ 102) ∧ ¬ (65 ≤ b ∧ b ≤ 70)) := by omega
theorem run_l14Digits (s : ByteArray) (base : Int) (fl : Nat) (H : LH) (hb : base = 8 ∨ base = 10 ∨ base = 16) (hs : s.size ≤ 1099511627776) :
    run 93 [.str s, .int .i64 base] fl H = some (.int .i64 ((digV base s).getD (-1)), H) := by
  have hV : ∀ o, (if s.size = 0 then (-1 : Int) else o) = (if s.size = 0 then -1 else o) := fun _ => rfl
  have hW : (digV base s).getD (-1) = if s.size = 0 then -1 else (digB base (bs s) 0).getD (-1) := by
    unfold digV
    by_cases h : s.size = 0
    · rw [if_pos h, if_pos h]; rfl
    · rw [if_neg h, if_neg h]
  rw [hW]
  unfold run at *
  rw [Run_z Try.func93 rfl (by rfl : ok 93 = true) (by rfl : cfg.keep 93 = [0, 1, 4, 5, 6, 7, 8, 12, 18, 28, 39, 52, 59, 61]) (by rfl : cfg.mode 93 = .pure) (by rfl : cfg.ord 93 = [])]
  simp (config := {contextual := true, maxSteps := 10000000, implicitDefEqProofs := false}) (disch := first | (and_intros <;> omega -splitDisjunctions) | (simp only [List.length_set, List.length_append, List.length_cons, List.length_nil]; and_intros <;> omega -splitDisjunctions) | fail) only [Try.f93, go_sem, ↓reduceIte, Nat.reduceEqDiff, Nat.reduceAdd, Nat.reduceMul, Nat.reduceLT, Nat.reduceLeDiff, reduceCtorEq, Int.reduceNe, Int.reduceEq, Int.reduceLT, Int.reduceLE, Int.reduceAdd, Int.reduceSub, Int.reduceMul, Int.reduceNeg, Int.reduceToNat, UInt8.reduceToNat, natLit, ty3, ty5, ty9]
  refine at_loopE fun c R hc hR => ?_
  have key : ∀ (m : Nat) (i : Nat) (n j : Int) (x4 x7 x8 x12 x18 x28 x39 x52 x59 x61 : Option V), s.size - i < m → j = (i : Int) → i ≤ s.size → 0 ≤ n → n ≤ 9007199254740991 → digB base ((bs s).drop i) n = digB base (bs s) 0 →
      zEv (leaveX (mkR Try.prog cfg ok [0, 1, 4, 5, 6, 7, 8, 12, 18, 28, 39, 52, 59, 61] H.length) .pure H [ResultVar.tmp 4]) (mkR Try.prog cfg ok [0, 1, 4, 5, 6, 7, 8, 12, 18, 28, 39, 52, 59, 61] H.length) (K.code (Code.loop c) :: K.blk 0 :: R) .nrm [some (.str s), some (.int .i64 base), x4, some (.int .i64 n), some (.int .i64 j), x7, x8, x12, x18, x28, x39, x52, x59, x61] (H) = some (.int .i64 (if s.size = 0 then -1 else (digB base (bs s) 0).getD (-1)), H) := by
    intro m
    induction m with
    | zero => intro i n j x4 x7 x8 x12 x18 x28 x39 x52 x59 x61 hm; omega
    | succ m ih =>
      intro i n j x4 x7 x8 x12 x18 x28 x39 x52 x59 x61 hm hj hi h0 hn hf
      subst hj
      rcases Nat.lt_or_ge i s.size with h | h
      · have b1 := bA_hi s i
        have b0 : 0 ≤ bA s (i : Int) := bA_in (by omega) (by omega)
        have t0 : ((i : Int) < s.size) = True := eq_true (by omega)
        have hlt : i < (bs s).length := by rw [bs_len]; omega
        rw [List.drop_eq_getElem_cons hlt, digB, ← bA_nat (by omega)] at hf
        have d0 : hexD (bA s i) = hexD (bA s i) := rfl
        conv at d0 => rhs; unfold hexD
        have e5 : s.size ≠ 0 := by omega
        rw [if_neg e5]
        rcases dcl (bA s i) with h1 | h1 | h1 | h1
        · have t1 : (48 ≤ bA s i ∧ bA s i ≤ 57) = True := eq_true (by omega)
          have d1 : hexD (bA s i) = bA s i - 48 := by rw [d0]; grind
          rw [d1] at hf
          rcases hb with rfl | rfl | rfl
          · have hge : bA s i - 48 < 8 ∨ 8 ≤ bA s i - 48 := by omega
            rcases hge with hge | hge
            · have t5 : (8 ≤ bA s i - 48) = False := eq_false (by omega)
              rw [if_neg (by omega)] at hf
              rw [zEv_round hc, ← hR]
              simp (config := {contextual := true, maxSteps := 10000000, implicitDefEqProofs := false}) (disch := first | (and_intros <;> omega -splitDisjunctions) | (simp only [List.length_set, List.length_append, List.length_cons, List.length_nil]; and_intros <;> omega -splitDisjunctions) | fail) only [t0, t1, t5, Try.f93, go_sem, ↓reduceIte, Nat.reduceEqDiff, Nat.reduceAdd, Nat.reduceMul, Nat.reduceLT, Nat.reduceLeDiff, reduceCtorEq, Int.reduceNe, Int.reduceEq, Int.reduceLT, Int.reduceLE, Int.reduceAdd, Int.reduceSub, Int.reduceMul, Int.reduceNeg, Int.reduceToNat, UInt8.reduceToNat, natLit, ty3, ty5, ty9]
              try rw [hR]
              refine ite_E (fun h3 => ?_) (fun h3 => ?_)
              · rw [if_pos (by omega)] at hf; rw [← hf]; rfl
              · rw [if_neg (by omega)] at hf
                rw [← if_neg (c := s.size = 0) (t := (-1 : Int)) (e := (digB 8 (bs s) 0).getD (-1)) e5]
                exact ih (i + 1) _ _ _ _ _ _ _ _ _ _ _ _ (by omega) (by omega) (by omega) (by omega) (by omega) hf
            · have t5 : (8 ≤ bA s i - 48) = True := eq_true (by omega)
              rw [if_pos (by omega)] at hf
              rw [zEv_round hc, ← hR]
              simp (config := {contextual := true, maxSteps := 10000000, implicitDefEqProofs := false}) (disch := first | (and_intros <;> omega -splitDisjunctions) | (simp only [List.length_set, List.length_append, List.length_cons, List.length_nil]; and_intros <;> omega -splitDisjunctions) | fail) only [t0, t1, t5, Try.f93, go_sem, ↓reduceIte, Nat.reduceEqDiff, Nat.reduceAdd, Nat.reduceMul, Nat.reduceLT, Nat.reduceLeDiff, reduceCtorEq, Int.reduceNe, Int.reduceEq, Int.reduceLT, Int.reduceLE, Int.reduceAdd, Int.reduceSub, Int.reduceMul, Int.reduceNeg, Int.reduceToNat, UInt8.reduceToNat, natLit, ty3, ty5, ty9]
              rw [← hf]; rfl
          · have hge : bA s i - 48 < 10 ∨ 10 ≤ bA s i - 48 := by omega
            rcases hge with hge | hge
            · have t5 : (10 ≤ bA s i - 48) = False := eq_false (by omega)
              rw [if_neg (by omega)] at hf
              rw [zEv_round hc, ← hR]
              simp (config := {contextual := true, maxSteps := 10000000, implicitDefEqProofs := false}) (disch := first | (and_intros <;> omega -splitDisjunctions) | (simp only [List.length_set, List.length_append, List.length_cons, List.length_nil]; and_intros <;> omega -splitDisjunctions) | fail) only [t0, t1, t5, Try.f93, go_sem, ↓reduceIte, Nat.reduceEqDiff, Nat.reduceAdd, Nat.reduceMul, Nat.reduceLT, Nat.reduceLeDiff, reduceCtorEq, Int.reduceNe, Int.reduceEq, Int.reduceLT, Int.reduceLE, Int.reduceAdd, Int.reduceSub, Int.reduceMul, Int.reduceNeg, Int.reduceToNat, UInt8.reduceToNat, natLit, ty3, ty5, ty9]
              try rw [hR]
              refine ite_E (fun h3 => ?_) (fun h3 => ?_)
              · rw [if_pos (by omega)] at hf; rw [← hf]; rfl
              · rw [if_neg (by omega)] at hf
                rw [← if_neg (c := s.size = 0) (t := (-1 : Int)) (e := (digB 10 (bs s) 0).getD (-1)) e5]
                exact ih (i + 1) _ _ _ _ _ _ _ _ _ _ _ _ (by omega) (by omega) (by omega) (by omega) (by omega) hf
            · exfalso; omega
          · have hge : bA s i - 48 < 16 ∨ 16 ≤ bA s i - 48 := by omega
            rcases hge with hge | hge
            · have t5 : (16 ≤ bA s i - 48) = False := eq_false (by omega)
              rw [if_neg (by omega)] at hf
              rw [zEv_round hc, ← hR]
              simp (config := {contextual := true, maxSteps := 10000000, implicitDefEqProofs := false}) (disch := first | (and_intros <;> omega -splitDisjunctions) | (simp only [List.length_set, List.length_append, List.length_cons, List.length_nil]; and_intros <;> omega -splitDisjunctions) | fail) only [t0, t1, t5, Try.f93, go_sem, ↓reduceIte, Nat.reduceEqDiff, Nat.reduceAdd, Nat.reduceMul, Nat.reduceLT, Nat.reduceLeDiff, reduceCtorEq, Int.reduceNe, Int.reduceEq, Int.reduceLT, Int.reduceLE, Int.reduceAdd, Int.reduceSub, Int.reduceMul, Int.reduceNeg, Int.reduceToNat, UInt8.reduceToNat, natLit, ty3, ty5, ty9]
              try rw [hR]
              refine ite_E (fun h3 => ?_) (fun h3 => ?_)
              · rw [if_pos (by omega)] at hf; rw [← hf]; rfl
              · rw [if_neg (by omega)] at hf
                rw [← if_neg (c := s.size = 0) (t := (-1 : Int)) (e := (digB 16 (bs s) 0).getD (-1)) e5]
                exact ih (i + 1) _ _ _ _ _ _ _ _ _ _ _ _ (by omega) (by omega) (by omega) (by omega) (by omega) hf
            · exfalso; omega
        · have t1 : (48 ≤ bA s i ∧ bA s i ≤ 57) = False := eq_false (by omega)
          have t2 : (97 ≤ bA s i ∧ bA s i ≤ 102) = True := eq_true (by omega)
          have d1 : hexD (bA s i) = bA s i - 97 + 10 := by rw [d0]; grind
          rw [d1] at hf
          rcases hb with rfl | rfl | rfl
          · have hge : bA s i - 97 + 10 < 8 ∨ 8 ≤ bA s i - 97 + 10 := by omega
            rcases hge with hge | hge
            · exfalso; omega
            · have t5 : (8 ≤ bA s i - 97 + 10) = True := eq_true (by omega)
              rw [if_pos (by omega)] at hf
              rw [zEv_round hc, ← hR]
              simp (config := {contextual := true, maxSteps := 10000000, implicitDefEqProofs := false}) (disch := first | (and_intros <;> omega -splitDisjunctions) | (simp only [List.length_set, List.length_append, List.length_cons, List.length_nil]; and_intros <;> omega -splitDisjunctions) | fail) only [t0, t1, t2, t5, Try.f93, go_sem, ↓reduceIte, Nat.reduceEqDiff, Nat.reduceAdd, Nat.reduceMul, Nat.reduceLT, Nat.reduceLeDiff, reduceCtorEq, Int.reduceNe, Int.reduceEq, Int.reduceLT, Int.reduceLE, Int.reduceAdd, Int.reduceSub, Int.reduceMul, Int.reduceNeg, Int.reduceToNat, UInt8.reduceToNat, natLit, ty3, ty5, ty9]
              rw [← hf]; rfl
          · have hge : bA s i - 97 + 10 < 10 ∨ 10 ≤ bA s i - 97 + 10 := by omega
            rcases hge with hge | hge
            · exfalso; omega
            · have t5 : (10 ≤ bA s i - 97 + 10) = True := eq_true (by omega)
              rw [if_pos (by omega)] at hf
              rw [zEv_round hc, ← hR]
              simp (config := {contextual := true, maxSteps := 10000000, implicitDefEqProofs := false}) (disch := first | (and_intros <;> omega -splitDisjunctions) | (simp only [List.length_set, List.length_append, List.length_cons, List.length_nil]; and_intros <;> omega -splitDisjunctions) | fail) only [t0, t1, t2, t5, Try.f93, go_sem, ↓reduceIte, Nat.reduceEqDiff, Nat.reduceAdd, Nat.reduceMul, Nat.reduceLT, Nat.reduceLeDiff, reduceCtorEq, Int.reduceNe, Int.reduceEq, Int.reduceLT, Int.reduceLE, Int.reduceAdd, Int.reduceSub, Int.reduceMul, Int.reduceNeg, Int.reduceToNat, UInt8.reduceToNat, natLit, ty3, ty5, ty9]
              rw [← hf]; rfl
          · have hge : bA s i - 97 + 10 < 16 ∨ 16 ≤ bA s i - 97 + 10 := by omega
            rcases hge with hge | hge
            · have t5 : (16 ≤ bA s i - 97 + 10) = False := eq_false (by omega)
              rw [if_neg (by omega)] at hf
              rw [zEv_round hc, ← hR]
              simp (config := {contextual := true, maxSteps := 10000000, implicitDefEqProofs := false}) (disch := first | (and_intros <;> omega -splitDisjunctions) | (simp only [List.length_set, List.length_append, List.length_cons, List.length_nil]; and_intros <;> omega -splitDisjunctions) | fail) only [t0, t1, t2, t5, Try.f93, go_sem, ↓reduceIte, Nat.reduceEqDiff, Nat.reduceAdd, Nat.reduceMul, Nat.reduceLT, Nat.reduceLeDiff, reduceCtorEq, Int.reduceNe, Int.reduceEq, Int.reduceLT, Int.reduceLE, Int.reduceAdd, Int.reduceSub, Int.reduceMul, Int.reduceNeg, Int.reduceToNat, UInt8.reduceToNat, natLit, ty3, ty5, ty9]
              try rw [hR]
              refine ite_E (fun h3 => ?_) (fun h3 => ?_)
              · rw [if_pos (by omega)] at hf; rw [← hf]; rfl
              · rw [if_neg (by omega)] at hf
                rw [← if_neg (c := s.size = 0) (t := (-1 : Int)) (e := (digB 16 (bs s) 0).getD (-1)) e5]
                exact ih (i + 1) _ _ _ _ _ _ _ _ _ _ _ _ (by omega) (by omega) (by omega) (by omega) (by omega) hf
            · exfalso; omega
        · have t1 : (48 ≤ bA s i ∧ bA s i ≤ 57) = False := eq_false (by omega)
          have t2 : (97 ≤ bA s i ∧ bA s i ≤ 102) = False := eq_false (by omega)
          have t3 : (65 ≤ bA s i ∧ bA s i ≤ 70) = True := eq_true (by omega)
          have d1 : hexD (bA s i) = bA s i - 65 + 10 := by rw [d0]; grind
          rw [d1] at hf
          rcases hb with rfl | rfl | rfl
          · have hge : bA s i - 65 + 10 < 8 ∨ 8 ≤ bA s i - 65 + 10 := by omega
            rcases hge with hge | hge
            · exfalso; omega
            · have t5 : (8 ≤ bA s i - 65 + 10) = True := eq_true (by omega)
              rw [if_pos (by omega)] at hf
              rw [zEv_round hc, ← hR]
              simp (config := {contextual := true, maxSteps := 10000000, implicitDefEqProofs := false}) (disch := first | (and_intros <;> omega -splitDisjunctions) | (simp only [List.length_set, List.length_append, List.length_cons, List.length_nil]; and_intros <;> omega -splitDisjunctions) | fail) only [t0, t1, t2, t3, t5, Try.f93, go_sem, ↓reduceIte, Nat.reduceEqDiff, Nat.reduceAdd, Nat.reduceMul, Nat.reduceLT, Nat.reduceLeDiff, reduceCtorEq, Int.reduceNe, Int.reduceEq, Int.reduceLT, Int.reduceLE, Int.reduceAdd, Int.reduceSub, Int.reduceMul, Int.reduceNeg, Int.reduceToNat, UInt8.reduceToNat, natLit, ty3, ty5, ty9]
              rw [← hf]; rfl
          · have hge : bA s i - 65 + 10 < 10 ∨ 10 ≤ bA s i - 65 + 10 := by omega
            rcases hge with hge | hge
            · exfalso; omega
            · have t5 : (10 ≤ bA s i - 65 + 10) = True := eq_true (by omega)
              rw [if_pos (by omega)] at hf
              rw [zEv_round hc, ← hR]
              simp (config := {contextual := true, maxSteps := 10000000, implicitDefEqProofs := false}) (disch := first | (and_intros <;> omega -splitDisjunctions) | (simp only [List.length_set, List.length_append, List.length_cons, List.length_nil]; and_intros <;> omega -splitDisjunctions) | fail) only [t0, t1, t2, t3, t5, Try.f93, go_sem, ↓reduceIte, Nat.reduceEqDiff, Nat.reduceAdd, Nat.reduceMul, Nat.reduceLT, Nat.reduceLeDiff, reduceCtorEq, Int.reduceNe, Int.reduceEq, Int.reduceLT, Int.reduceLE, Int.reduceAdd, Int.reduceSub, Int.reduceMul, Int.reduceNeg, Int.reduceToNat, UInt8.reduceToNat, natLit, ty3, ty5, ty9]
              rw [← hf]; rfl
          · have hge : bA s i - 65 + 10 < 16 ∨ 16 ≤ bA s i - 65 + 10 := by omega
            rcases hge with hge | hge
            · have t5 : (16 ≤ bA s i - 65 + 10) = False := eq_false (by omega)
              rw [if_neg (by omega)] at hf
              rw [zEv_round hc, ← hR]
              simp (config := {contextual := true, maxSteps := 10000000, implicitDefEqProofs := false}) (disch := first | (and_intros <;> omega -splitDisjunctions) | (simp only [List.length_set, List.length_append, List.length_cons, List.length_nil]; and_intros <;> omega -splitDisjunctions) | fail) only [t0, t1, t2, t3, t5, Try.f93, go_sem, ↓reduceIte, Nat.reduceEqDiff, Nat.reduceAdd, Nat.reduceMul, Nat.reduceLT, Nat.reduceLeDiff, reduceCtorEq, Int.reduceNe, Int.reduceEq, Int.reduceLT, Int.reduceLE, Int.reduceAdd, Int.reduceSub, Int.reduceMul, Int.reduceNeg, Int.reduceToNat, UInt8.reduceToNat, natLit, ty3, ty5, ty9]
              try rw [hR]
              refine ite_E (fun h3 => ?_) (fun h3 => ?_)
              · rw [if_pos (by omega)] at hf; rw [← hf]; rfl
              · rw [if_neg (by omega)] at hf
                rw [← if_neg (c := s.size = 0) (t := (-1 : Int)) (e := (digB 16 (bs s) 0).getD (-1)) e5]
                exact ih (i + 1) _ _ _ _ _ _ _ _ _ _ _ _ (by omega) (by omega) (by omega) (by omega) (by omega) hf
            · exfalso; omega
        · have d1 : hexD (bA s i) = 99 := by rw [d0]; grind
          rw [d1, if_pos (by omega)] at hf
          have t1 : (48 ≤ bA s i ∧ bA s i ≤ 57) = False := eq_false (by omega)
          have t2 : (97 ≤ bA s i ∧ bA s i ≤ 102) = False := eq_false (by omega)
          have t3 : (65 ≤ bA s i ∧ bA s i ≤ 70) = False := eq_false (by omega)
          have t5 : (base ≤ 99) = True := eq_true (by omega)
          rw [zEv_round hc, ← hR]
          simp (config := {contextual := true, maxSteps := 10000000, implicitDefEqProofs := false}) (disch := first | (and_intros <;> omega -splitDisjunctions) | (simp only [List.length_set, List.length_append, List.length_cons, List.length_nil]; and_intros <;> omega -splitDisjunctions) | fail) only [t0, t1, t2, t3, t5, Try.f93, go_sem, ↓reduceIte, Nat.reduceEqDiff, Nat.reduceAdd, Nat.reduceMul, Nat.reduceLT, Nat.reduceLeDiff, reduceCtorEq, Int.reduceNe, Int.reduceEq, Int.reduceLT, Int.reduceLE, Int.reduceAdd, Int.reduceSub, Int.reduceMul, Int.reduceNeg, Int.reduceToNat, UInt8.reduceToNat, natLit, ty3, ty5, ty9]
          rw [← hf]; rfl
      · have : i = s.size := by omega
        subst this
        rw [List.drop_of_length_le (by rw [bs_len]; omega), digB] at hf
        rw [← hf]
        have t0 : ((s.size : Int) < s.size) = False := eq_false (by omega)
        rw [zEv_round hc, ← hR]
        simp (config := {contextual := true, maxSteps := 10000000, implicitDefEqProofs := false}) (disch := first | (and_intros <;> omega -splitDisjunctions) | (simp only [List.length_set, List.length_append, List.length_cons, List.length_nil]; and_intros <;> omega -splitDisjunctions) | fail) only [t0, Try.f93, go_sem, ↓reduceIte, Nat.reduceEqDiff, Nat.reduceAdd, Nat.reduceMul, Nat.reduceLT, Nat.reduceLeDiff, reduceCtorEq, Int.reduceNe, Int.reduceEq, Int.reduceLT, Int.reduceLE, Int.reduceAdd, Int.reduceSub, Int.reduceMul, Int.reduceNeg, Int.reduceToNat, UInt8.reduceToNat, natLit, ty3, ty5, ty9]
        by_cases h5 : s.size = 0
        · have h6 : s = ⟨#[]⟩ := (sz0 s).1 h5
          rw [if_pos h6, if_pos h5]
        · have h6 : ¬ s = ⟨#[]⟩ := fun h => h5 ((sz0 s).2 h)
          rw [if_neg h6, if_neg h5]; rfl
  exact key (s.size + 1) 0 0 _ _ _ _ _ _ _ _ _ _ _ (by omega) rfl (by omega) (by decide) (by decide) (by simp)
end Go.Proofs.Ytcbjmggbbnpbpaa.Lg
namespace Go.Proofs.Ytcbjmggbbnpbpaa.Lg
set_option linter.unusedSimpArgs false
set_option linter.unusedVariables false
set_option maxRecDepth 100000
set_option maxHeartbeats 40000000
open Go.Proofs.Ytcbjmggbbnpbpaa

theorem hexF_eq (o : Option Int) : hexF o = .tup [.int .i64 (o.getD 0), .bool o.isSome] := by cases o <;> rfl
theorem digB_bd {base : Int} (hb : 0 ≤ base) : ∀ (l : List UInt8) (n m : Int), 0 ≤ n → n ≤ 9007199254740991 → digB base l n = some m → 0 ≤ m ∧ m ≤ 9007199254740991
  | [], n, m, h0, h1, h => by
    injection h with h; subst h; exact ⟨h0, h1⟩
  | b :: l, n, m, h0, h1, h => by
    have p := hexD_lo b.toNat
    have q : 0 ≤ n * base := Int.mul_nonneg h0 hb
    rw [digB] at h
    by_cases c1 : base ≤ hexD b.toNat
    · rw [if_pos c1] at h; cases h
    rw [if_neg c1] at h
    by_cases c2 : 9007199254740991 < n * base + hexD b.toNat
    · rw [if_pos c2] at h; cases h
    rw [if_neg c2] at h
    exact digB_bd hb l _ m (by omega) (by omega) h
theorem digV_bd {base : Int} (hb : 0 ≤ base) (s : ByteArray) : 0 ≤ (digV base s).getD 0 ∧ (digV base s).getD 0 ≤ 9007199254740991 := by
  cases h : digV base s with
  | none => exact ⟨by decide, by decide⟩
  | some n =>
    unfold digV at h
    by_cases h0 : s.size = 0
    · rw [if_pos h0] at h; cases h
    · rw [if_neg h0] at h
      exact digB_bd hb _ _ _ (by decide) (by decide) h
theorem bA_of_bs {s : ByteArray} {a : UInt8} {l : List UInt8} (h : bs s = a :: l) : bA s 0 = a.toNat := by
  have h1 : 0 < s.size := by rw [← bs_len, h]; simp
  have := bA_nat (s := s) (i := 0) h1
  simp only [h] at this
  exact this
theorem sz2 {s : ByteArray} (h : 2 ≤ s.size) : ∃ a b l, bs s = a :: b :: l ∧ bA s 0 = a.toNat ∧ bA s 1 = b.toNat := by
  have hl := bs_len s
  have h1 := bA_nat (s := s) (i := 0) (by omega)
  have h2 := bA_nat (s := s) (i := 1) (by omega)
  match hb : bs s with
  | [] => rw [hb] at hl; simp at hl; omega
  | [a] => rw [hb] at hl; simp at hl; omega
  | a :: b :: l =>
    simp only [hb] at h1 h2
    exact ⟨a, b, l, rfl, h1, h2⟩
theorem pre2 {s : ByteArray} (h : 2 ≤ s.size) (x y : UInt8) : (s.extract 0 2 = ⟨#[x, y]⟩) = (bA s 0 = x.toNat ∧ bA s 1 = y.toNat) := by
  obtain ⟨a, b, l, hs, ha, hb⟩ := sz2 h
  have e : (s.extract 0 2).data.toList = [a, b] := by
    rw [ByteArray.data_extract, Array.toList_extract]
    have : s.data.toList = a :: b :: l := hs
    rw [this]
    rfl
  apply propext
  rw [ha, hb]
  constructor
  · intro h1
    rw [h1] at e
    injection e with e1 e2
    injection e2 with e2 e3
    subst e1; subst e2
    exact ⟨rfl, rfl⟩
  · rintro ⟨h1, h2⟩
    have h1 : a = x := UInt8.toNat_inj.mp (by omega)
    have h2 : b = y := UInt8.toNat_inj.mp (by omega)
    subst h1; subst h2
    apply ByteArray.ext
    apply Array.toList_inj.mp
    exact e
/-- what a plain text writes as a number -/
def intV (s : ByteArray) : Option Int :=
  if 1 < s.size ∧ bA s 0 = 48 ∧ bA s 1 = 111 then digV 8 (s.extract 2 s.size)
  else if 1 < s.size ∧ bA s 0 = 48 ∧ bA s 1 = 120 then digV 16 (s.extract 2 s.size)
  else if 0 < s.size ∧ bA s 0 = 45 then (digV 10 (s.extract 1 s.size)).map (fun n => -n)
  else if 0 < s.size ∧ bA s 0 = 43 then digV 10 (s.extract 1 s.size)
  else digV 10 s
theorem digV_bad2 {s : ByteArray} {base : Int} (hb : base ≤ 16) (h : s.size = 2) (h0 : bA s 0 = 48) (h1 : hexD (bA s 1) = 99) : digV base s = none := by
  obtain ⟨a, b, l, hs, ha, hb2⟩ := sz2 (s := s) (by omega)
  have hl : l = [] := by
    have := bs_len s
    rw [hs] at this
    simp at this
    exact List.length_eq_zero_iff.mp (by omega)
  subst hl
  rw [hb2] at h1
  unfold digV
  rw [hs, if_neg (by omega), digB, digB, h1]
  by_cases c1 : base ≤ hexD a.toNat
  · rw [if_pos c1]
  · rw [if_neg c1]
    by_cases c2 : 9007199254740991 < 0 * base + hexD a.toNat
    · rw [if_pos c2]
    · rw [if_neg c2, if_pos (by omega)]
theorem digV_bad1 {s : ByteArray} {base : Int} (hb : base ≤ 16) (h : 0 < s.size) (h1 : hexD (bA s 0) = 99) : digV base s = none := by
  match hs : bs s with
  | [] => have := bs_len s; rw [hs] at this; simp at this; omega
  | a :: l =>
    rw [bA_of_bs hs] at h1
    unfold digV
    rw [hs, if_neg (by omega), digB, h1, if_pos (by omega)]
theorem digV_0 {s : ByteArray} {base : Int} (h : s.size = 0) : digV base s = none := by unfold digV; rw [if_pos h]
theorem exts0 (s : ByteArray) (k : Nat) : (s.extract k s.size).size = s.size - k := by
  rw [ByteArray.size_extract]; omega
theorem hexF_neg (o : Option Int) : hexF (o.map (fun n => -n)) = .tup [.int .i64 (-1 * o.getD 0), .bool o.isSome] := by
  cases o with
  | none => rfl
  | some n => show V.tup [V.int .i64 (-n), _] = V.tup [V.int .i64 (-1 * n), _]; congr 3; omega
def okI (o : Option Int) : Prop := match o with | none => True | some n => 0 ≤ n ∧ n ≤ 9007199254740991
theorem digV_bd2 {base : Int} (hb : 0 ≤ base) (s : ByteArray) : okI (digV base s) := by
  have := digV_bd hb s
  cases h : digV base s with
  | none => trivial
  | some n => rw [h] at this; exact this
theorem spI {o : Option Int} (h : okI o) (H : LH) : (if o.getD (-1) < 0 then some (V.tup [V.int .i64 0, V.bool false], H) else some (V.tup [V.int .i64 (o.getD (-1)), V.bool true], H)) = some (hexF o, H) := by
  cases o with
  | none => rw [if_pos (by simp)]; rfl
  | some n =>
    have h : 0 ≤ n ∧ n ≤ 9007199254740991 := h
    have hx : (some n).getD (-1) = n := rfl
    rw [hx, if_neg (by omega)]; rfl
theorem run_imIntOf (s : ByteArray) (fl : Nat) (H : LH) (hs : s.size ≤ 1099511627776) : run 97 [.str s] fl H = some (hexF (intV s), H) := by
  have z1 := exts0 s 1
  have z2 := exts0 s 2
  have e8 := fun fl H => (run_digitsOf (s.extract 2 s.size) 8 fl H (by omega) (by omega)).trans (by rw [hexF_eq])
  have e16 := fun fl H => (run_digitsOf (s.extract 2 s.size) 16 fl H (by omega) (by omega)).trans (by rw [hexF_eq])
  have e1 := fun fl H => (run_digitsOf (s.extract 1 s.size) 10 fl H (by omega) (by omega)).trans (by rw [hexF_eq])
  have e0 := fun fl H => (run_digitsOf s 10 fl H (by omega) (by omega)).trans (by rw [hexF_eq])
  have b1 := digV_bd (base := 10) (by omega) (s.extract 1 s.size)
  have b0 := digV_bd (base := 10) (by omega) s
  have q0 := sz0 s
  unfold run at *
  rw [Run_z Try.func97 rfl (by rfl : ok 97 = true) (by rfl : cfg.keep 97 = [0, 2, 3, 4, 5, 6, 7, 25, 28, 46, 49]) (by rfl : cfg.mode 97 = .pure) (by rfl : cfg.ord 97 = [])]
  by_cases h0 : s = ⟨#[]⟩
  · have h1 : s.size = 0 := q0.2 h0
    subst h0
    simp (config := {contextual := true, maxSteps := 10000000, implicitDefEqProofs := false}) (disch := first | (and_intros <;> omega -splitDisjunctions) | (simp only [List.length_set, List.length_append, List.length_cons, List.length_nil]; and_intros <;> omega -splitDisjunctions) | fail) only [e8, e16, e1, e0, Try.f97, go_sem, ↓reduceIte, Nat.reduceEqDiff, Nat.reduceAdd, Nat.reduceMul, Nat.reduceLT, Nat.reduceLeDiff, reduceCtorEq, Int.reduceNe, Int.reduceEq, Int.reduceLT, Int.reduceLE, Int.reduceAdd, Int.reduceSub, Int.reduceMul, Int.reduceNeg, Int.reduceToNat, UInt8.reduceToNat, natLit, ty3, ty5, ty9]
    rfl
  · have h1 : 1 ≤ s.size := by
      have : s.size ≠ 0 := fun h => h0 (q0.1 h)
      omega
    simp (config := {contextual := true, maxSteps := 10000000, implicitDefEqProofs := false}) (disch := first | (and_intros <;> omega -splitDisjunctions) | (simp only [List.length_set, List.length_append, List.length_cons, List.length_nil]; and_intros <;> omega -splitDisjunctions) | fail) only [e8, e16, e1, e0, h0, Try.f97, go_sem, ↓reduceIte, Nat.reduceEqDiff, Nat.reduceAdd, Nat.reduceMul, Nat.reduceLT, Nat.reduceLeDiff, reduceCtorEq, Int.reduceNe, Int.reduceEq, Int.reduceLT, Int.reduceLE, Int.reduceAdd, Int.reduceSub, Int.reduceMul, Int.reduceNeg, Int.reduceToNat, UInt8.reduceToNat, natLit, ty3, ty5, ty9]
    refine ite_E (fun ha => ?_) (fun ha => ?_)
    · refine ite_E (fun hb => ?_) (fun hb => ?_)
      · have hv : intV s = digV 8 (s.extract 2 s.size) := by unfold intV; grind
        rw [hv, hexF_eq]
      · have hv : intV s = digV 16 (s.extract 2 s.size) := by unfold intV; grind
        rw [hv, hexF_eq]
    · refine ite_E (fun hb => ?_) (fun hb => ?_)
      · refine ite_E (fun hc => ?_) (fun hc => ?_)
        · have hv : intV s = (digV 10 (s.extract 1 s.size)).map (fun n => -n) := by unfold intV; grind
          rw [hv, hexF_neg]
        · have hv : intV s = digV 10 (s.extract 1 s.size) := by unfold intV; grind
          rw [hv, hexF_eq, Int.one_mul]
      · have hv : intV s = digV 10 s := by unfold intV; grind
        rw [hv, hexF_eq, Int.one_mul]
theorem run_spIntOf (s : ByteArray) (fl : Nat) (H : LH) (hs : s.size ≤ 1099511627776) : run 84 [.str s] fl H = some (hexF (intV s), H) := by
  have z1 := exts0 s 1
  have z2 := exts0 s 2
  have e8 := fun fl H => run_l14Digits (s.extract 2 s.size) 8 fl H (by omega) (by omega)
  have e16 := fun fl H => run_l14Digits (s.extract 2 s.size) 16 fl H (by omega) (by omega)
  have e1 := fun fl H => run_l14Digits (s.extract 1 s.size) 10 fl H (by omega) (by omega)
  have e0 := fun fl H => run_l14Digits s 10 fl H (by omega) (by omega)
  have b1 := digV_bd (base := 10) (by omega) (s.extract 1 s.size)
  have b0 := digV_bd (base := 10) (by omega) s
  have c8 := digV_bd2 (base := 8) (by omega) (s.extract 2 s.size)
  have c16 := digV_bd2 (base := 16) (by omega) (s.extract 2 s.size)
  have c1 := digV_bd2 (base := 10) (by omega) (s.extract 1 s.size)
  have c0 := digV_bd2 (base := 10) (by omega) s
  have tail1 : (1 < (s.size : Int) ∧ (bA s 0 = 45 ∨ bA s 0 = 43)) → (¬ (1 < s.size ∧ bA s 0 = 48)) →
      (if 0 ≤ (digV 10 (s.extract 1 s.size)).getD (-1) ∧ bA s 0 = 45 then some (V.tup [V.int IntKind.i64 (IntKind.i64.wrap (0 - (digV 10 (s.extract 1 s.size)).getD (-1))), V.bool true], H)
        else if (digV 10 (s.extract 1 s.size)).getD (-1) < 0 then some (V.tup [V.int IntKind.i64 0, V.bool false], H)
        else some (V.tup [V.int IntKind.i64 ((digV 10 (s.extract 1 s.size)).getD (-1)), V.bool true], H)) = some (hexF (intV s), H) := by
    intro hc hd
    by_cases h45 : bA s 0 = 45
    · have hv : intV s = (digV 10 (s.extract 1 s.size)).map (fun n => -n) := by unfold intV; grind
      rw [hv]
      cases hd : digV 10 (s.extract 1 s.size) with
      | none => rw [if_neg (by simp), if_pos (by simp)]; rfl
      | some n =>
        rw [hd] at c1
        have c1 : 0 ≤ n ∧ n ≤ 9007199254740991 := c1
        have hx : (some n).getD (-1) = n := rfl
        rw [hx, if_pos ⟨by omega, h45⟩]
        have hwr : IntKind.wrap .i64 (0 - n) = -n := by
          have : (0 - n) = -n := by omega
          rw [this]
          exact IntWalk.i64_in _ (by omega)
        rw [hwr]; rfl
    · have hv : intV s = digV 10 (s.extract 1 s.size) := by unfold intV; grind
      rw [hv, if_neg (fun h => h45 h.2)]; exact spI c1 H
  unfold run at *
  rw [Run_z Try.func84 rfl (by rfl : ok 84 = true) (by rfl : cfg.keep 84 = [0, 2, 3, 4, 7, 19, 31, 54, 58]) (by rfl : cfg.mode 84 = .pure) (by rfl : cfg.ord 84 = [])]
  rcases Nat.lt_or_ge 2 s.size with h2 | h2
  · have p1 := pre2 (s := s) (by omega) 48 111
    have p2 := pre2 (s := s) (by omega) 48 120
    simp (config := {contextual := true, maxSteps := 10000000, implicitDefEqProofs := false}) (disch := first | (and_intros <;> omega -splitDisjunctions) | (simp only [List.length_set, List.length_append, List.length_cons, List.length_nil]; and_intros <;> omega -splitDisjunctions) | fail) only [e8, e16, e1, e0, p1, p2, Try.f84, go_sem, ↓reduceIte, Nat.reduceEqDiff, Nat.reduceAdd, Nat.reduceMul, Nat.reduceLT, Nat.reduceLeDiff, reduceCtorEq, Int.reduceNe, Int.reduceEq, Int.reduceLT, Int.reduceLE, Int.reduceAdd, Int.reduceSub, Int.reduceMul, Int.reduceNeg, Int.reduceToNat, UInt8.reduceToNat, natLit, ty3, ty5, ty9]
    refine ite_E (fun ha => ?_) (fun ha => ?_)
    · have hv : intV s = digV 8 (s.extract 2 s.size) := by unfold intV; grind
      rw [hv]; exact spI c8 H
    refine ite_E (fun hb => ?_) (fun hb => ?_)
    · have hv : intV s = digV 16 (s.extract 2 s.size) := by unfold intV; grind
      rw [hv]; exact spI c16 H
    refine ite_E (fun hc => ?_) (fun hc => ?_)
    · exact tail1 hc (by grind)
    · have hv : intV s = digV 10 s := by unfold intV; grind
      rw [hv]; exact spI c0 H
  · have t1 : (2 < (s.size : Int)) = False := eq_false (by omega)
    simp (config := {contextual := true, maxSteps := 10000000, implicitDefEqProofs := false}) (disch := first | (and_intros <;> omega -splitDisjunctions) | (simp only [List.length_set, List.length_append, List.length_cons, List.length_nil]; and_intros <;> omega -splitDisjunctions) | fail) only [e8, e16, e1, e0, t1, Try.f84, go_sem, ↓reduceIte, Nat.reduceEqDiff, Nat.reduceAdd, Nat.reduceMul, Nat.reduceLT, Nat.reduceLeDiff, reduceCtorEq, Int.reduceNe, Int.reduceEq, Int.reduceLT, Int.reduceLE, Int.reduceAdd, Int.reduceSub, Int.reduceMul, Int.reduceNeg, Int.reduceToNat, UInt8.reduceToNat, natLit, ty3, ty5, ty9]
    have hw : ¬ (1 < s.size ∧ (bA s 0 = 45 ∨ bA s 0 = 43)) → intV s = digV 10 s := by
      intro hn
      unfold intV
      by_cases g1 : 1 < s.size ∧ bA s 0 = 48 ∧ bA s 1 = 111
      · rw [if_pos g1, digV_bad2 (by omega) (by omega) g1.2.1 (by rw [g1.2.2]; decide)]
        exact digV_0 (by omega)
      rw [if_neg g1]
      by_cases g2 : 1 < s.size ∧ bA s 0 = 48 ∧ bA s 1 = 120
      · rw [if_pos g2, digV_bad2 (by omega) (by omega) g2.2.1 (by rw [g2.2.2]; decide)]
        exact digV_0 (by omega)
      rw [if_neg g2]
      by_cases g3 : 0 < s.size ∧ bA s 0 = 45
      · rw [if_pos g3, digV_bad1 (base := 10) (by omega) g3.1 (by rw [g3.2]; decide), digV_0 (by omega)]
        rfl
      rw [if_neg g3]
      by_cases g4 : 0 < s.size ∧ bA s 0 = 43
      · rw [if_pos g4, digV_bad1 (base := 10) (by omega) g4.1 (by rw [g4.2]; decide), digV_0 (by omega)]
      rw [if_neg g4]
    refine ite_E (fun hc => ?_) (fun hc => ?_)
    · exact tail1 hc (by grind)
    · rw [hw (by grind)]; exact spI c0 H
end Go.Proofs.Ytcbjmggbbnpbpaa.Lg
namespace Go.Proofs.Ytcbjmggbbnpbpaa.Lg
set_option linter.unusedSimpArgs false
set_option linter.unusedVariables false
set_option maxRecDepth 100000
set_option maxHeartbeats 40000000
open Go.Proofs.Ytcbjmggbbnpbpaa

def stC (x : ByteArray) : List V := [.str x]
theorem stC_len (x : ByteArray) : (stC x).length = 1 := rfl
def stCW (x : ByteArray) : Int := x.size
def stCFit (x : ByteArray) : Prop := x.size ≤ 9223372036854775807

end Go.Proofs.Ytcbjmggbbnpbpaa.Lg
