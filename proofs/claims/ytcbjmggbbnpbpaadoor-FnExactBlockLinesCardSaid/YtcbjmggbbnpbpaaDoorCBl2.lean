/- What is written in the block style, in the program. No condition. -/
import Derived.Test.YtcbjmggbbnpbpaaDoorCBl1
namespace Go.Proofs.YtcbjmggbbnpbpaaDoor.Lg
set_option linter.unusedSimpArgs false
set_option linter.unusedVariables false
set_option maxRecDepth 100000
set_option maxHeartbeats 40000000
open Go.Proofs.YtcbjmggbbnpbpaaDoor

theorem run_blockLines {es : List Ev} (hcw : cwM es = true) (hsh : ∀ e ∈ es, Short e) (hl : es.length ≤ 1048576) : ∀ (d i col : Nat) (v ve vu vd : V) (H : LH) (fl : Nat), NsAt H v ve vu vd es → i < es.length → es.length - i ≤ d → isN (evA es i) → col ≤ 1000 + 2 * i →
    run 63 [.agg [v, ve, vu, vd], .int .i64 i, .int .i64 col] fl H = some (.str (blkT es d i col), H)
  | 0, i, col, v, ve, vu, vd, H, fl, h, hi, hd, hn, hcol => by omega
  | d + 1, i, col, v, ve, vu, vd, H, fl, h, hi, hd, hn, hcol => by
    have hw := cw_whole hcw
    have hc : CostOk es := fun e he => (hsh e he).cost
    have hse := hsh _ (show es.getD i evZ ∈ es by rw [getD_of hi]; exact List.getElem_mem _)
    have hIH := fun (x : Nat) (B : LH) (fl : Nat) (hB : NsAt B v ve vu vd es) (hx : x < es.length) (h2 : i < x) (h3 : isN (evA es x)) => run_blockLines hcw hsh hl d x (col + 2) v ve vu vd B fl hB hx (by omega) h3 (by omega)
    have e3 := fun fl H => run_imProps (es.getD i evZ) fl H hse
    have e4 := fun fl H => run_repeat ⟨#[32]⟩ col (by simp [ByteArray.size]; omega) (by omega) fl H
    rw [padT_rep] at e4
    have lP := propT_size (es.getD i evZ)
    have hsz : (es.getD i evZ).anchor.size + (es.getD i evZ).tag.size ≤ 1048576 := by unfold Short at hse; omega
    have j1 := h.e.one; have j2 := h.u.one; have j3 := h.d.one; have j0 := h.l.one
    have j4 := h.e.isTup; have j5 := h.u.isTup; have j6 := h.d.isTup
    have hL := h.l
    have f1 := hL.isTup; have f2 := hL.len; have f3 := hL.lenOk ty39; have f0 := hL.one
    have f4 := fun L hp => (hL.left (L := L)).con hp
    have f5 := hL.idx (T := ty Tryd.prog) (t := 39) (by simp only [elemI, sizeO, ty3, ty4, ty9, ty39, ty65])
    have f6 := fun L => (hL.left (L := L)).loadD evC_len evZ
    have f4 := fun L => (h.ext (Hx.app (L := L))).l.con (List.length_pos_iff.2 (by intro e; subst e; cases hi))
    have g6 := fun L => f6 L i hi
    obtain ⟨Z, hZ⟩ : ∃ Z, blkT es (d + 1) i col = Z := ⟨_, rfl⟩
    rw [hZ]
    unfold blkT at hZ
    obtain ⟨w0, C, e7, xC, oC⟩ := run_kidsOf (h.ext (Hx.app (L := [.cells [v, ve, vu, vd], .cells (evC (es.getD i evZ))]))) hl hi H.length
    have hxC : Hx H C := Hx.app.trans xC
    have cN : LH.cellsAt C H.length = some [v, ve, vu, vd] := xC.cells (by rw [cellsAt_app0]; rfl)
    have cE : LH.cellsAt C (H.length + 1) = some (evC (es.getD i evZ)) := xC.cells (by rw [cellsAt_app]; rfl)
    have rC := h.ext hxC
    have hki := kidsF_in es hi
    have hkl2 := kidsF_len es hi
    have aC := oC.at inN_len
    have w1 := aC.isTup; have w2 := aC.len; have w3 := aC.lenOk ty67; have w4 := aC.one
    have w6 := aC.idx (T := ty Tryd.prog) (t := 67) (by simp only [elemI, sizeO, ty3, ty67])
    by_cases hk0 : kidsF es i = []
    · rw [if_pos hk0] at hZ
      have e8 := fun fl => run_flowText hw hsh hl es.length i v ve vu vd C fl rC hi (by omega) hn
      have hfb := flow_bound hw hc hl (d := es.length) hi (by omega) hn
      generalize flowT es es.length i = T at *
      rw [hk0] at w2 w6
      unfold run evC at *
      rw [Run_z Tryd.func63 rfl (by rfl : ok 63 = true) (by rfl : cfg.keep 63 = [0, 1, 2, 3, 6, 7, 8, 9, 10, 11, 12, 13, 24, 33, 43, 44, 45, 46, 50, 64]) (by rfl : cfg.mode 63 = .pure) (by rfl : cfg.ord 63 = [])]
      simp (config := {contextual := true, maxSteps := 10000000, implicitDefEqProofs := false}) (disch := first | (and_intros <;> omega -splitDisjunctions) | (simp only [List.length_set, List.length_append, List.length_cons, List.length_nil]; and_intros <;> omega -splitDisjunctions) | fail) only [g6, e7, e8, cN, w1, w2, w3, w4, j0, j1, j2, j3, j4, j5, j6, List.length_nil, f0, f1, f2, f3, f4, f5, f6, Tryd.f63, go_sem, ↓reduceIte, Nat.reduceEqDiff, Nat.reduceAdd, Nat.reduceMul, Nat.reduceLT, Nat.reduceLeDiff, reduceCtorEq, Int.reduceNe, Int.reduceEq, Int.reduceLT, Int.reduceLE, Int.reduceAdd, Int.reduceSub, Int.reduceMul, Int.reduceNeg, Int.reduceToNat, UInt8.reduceToNat, natLit, ty3, ty4, ty9, ty39, ty65, ty67, ty71]
      rw [← hZ]
    rw [if_neg hk0] at hZ
    have hC : isC (evA es i) := by
      apply Classical.byContradiction
      intro h
      exact hk0 (by rw [kidsF_A es i hi, if_neg h])
    have hC2 : (es.getD i evZ).kind = 3 ∨ (es.getD i evZ).kind = 4 := hC
    have hkpos := List.length_pos_iff.2 hk0
    have hbb := blkL_bound hw hc hl hi hd hC hcol
    have hbd := fun x (hx : x ∈ kidsF es i) => blk_bound hw hc hl (d := d) (col := col + 2) (hki x hx).2.1 (by have := hki x hx; omega) (hki x hx).2.2 (by have := hki x hx; omega)
    have hbf := fun x (hx : x ∈ kidsF es i) => flow_bound hw hc hl (d := es.length) (hki x hx).2.1 (by omega) (hki x hx).2.2
    have hev : kd es i = 4 → (kidsF es i).length % 2 = 0 := kids_even hw hi
    have lpad := padT_size col
    have t9 : (((kidsF es i).length : Nat) : Int) ≠ 0 := by omega
    have t9 : ((((kidsF es i).length : Nat) : Int) = 0) = False := eq_false t9
    have hP0 : propT (es.getD i evZ) ≠ ⟨#[]⟩ → 0 < (propT (es.getD i evZ)).size := sizeP
    generalize hPg : propT (evA es i) = P at *
    have hPg2 : propT (es.getD i evZ) = P := hPg
    try rw [hPg2] at e3
    try rw [hPg2] at hP0
    try rw [hPg2] at lP
    have hhd : headT P = (if P = ⟨#[]⟩ then ⟨#[10]⟩ else ⟨#[32]⟩ ++ P.extract 0 (P.size - 1) ++ ⟨#[10]⟩) := rfl
    have hHs := headT_size P
    generalize kidsF es i = xs at *
    have tP : ((P.size : Int) - 1).toNat = P.size - 1 := by omega
    have hPe : (P.extract 0 (P.size - 1)).size ≤ 4194304 := by rw [ByteArray.size_extract]; omega
    by_cases h4 : (es.getD i evZ).kind = 4
    · have hZ : blkL (fun x => blkT es d x (col + 2)) (flowT es es.length) true (padT col) 0 xs (headT P) = Z := by
        rw [← hZ]; congr 1; exact (decide_eq_true (show kd es i ≠ 3 by rw [show kd es i = 4 from h4]; omega)).symm
      by_cases hP : P = ⟨#[]⟩
      · subst hP
        unfold run evC at *
        simp only [h4] at g6 e3 e7 cE
        rw [Run_z Tryd.func63 rfl (by rfl : ok 63 = true) (by rfl : cfg.keep 63 = [0, 1, 2, 3, 6, 7, 8, 9, 10, 11, 12, 13, 24, 33, 43, 44, 45, 46, 50, 64]) (by rfl : cfg.mode 63 = .pure) (by rfl : cfg.ord 63 = [])]
        simp (config := {contextual := true, maxSteps := 10000000, implicitDefEqProofs := false}) (disch := first | (and_intros <;> omega -splitDisjunctions) | (simp only [List.length_set, List.length_append, List.length_cons, List.length_nil]; and_intros <;> omega -splitDisjunctions) | fail) only [g6, e3, e4, e7, cE, cN, t9, tP, w1, w2, w3, w4, j0, j1, j2, j3, j4, j5, j6, f0, f1, f2, f3, f4, f5, f6, Tryd.f63, go_sem, ↓reduceIte, Nat.reduceEqDiff, Nat.reduceAdd, Nat.reduceMul, Nat.reduceLT, Nat.reduceLeDiff, reduceCtorEq, Int.reduceNe, Int.reduceEq, Int.reduceLT, Int.reduceLE, Int.reduceAdd, Int.reduceSub, Int.reduceMul, Int.reduceNeg, Int.reduceToNat, UInt8.reduceToNat, natLit, ty3, ty4, ty9, ty39, ty65, ty67, ty71]
        refine at_loopE fun c R hc hR => ?_
        have key : ∀ (m : Nat) (j : Nat) (jj : Int) (s : ByteArray) (x0 x1 x6 x10 x12 x13 x24 x33 x46 x50 x64 : Option V), xs.length - j < m → jj = j → j ≤ xs.length → ((j % 2 = 0 → s = blkL (fun x => blkT es d x (col + 2)) (flowT es es.length) true (padT col) 0 (xs.take j) (headT ⟨#[]⟩)) ∧ (j % 2 = 1 → s = blkL (fun x => blkT es d x (col + 2)) (flowT es es.length) true (padT col) 0 (xs.take (j + 1)) (headT ⟨#[]⟩))) →
            zEv (leaveX (mkR Tryd.prog cfg ok [0, 1, 2, 3, 6, 7, 8, 9, 10, 11, 12, 13, 24, 33, 43, 44, 45, 46, 50, 64] H.length) .pure H [ResultVar.tmp 6]) (mkR Tryd.prog cfg ok [0, 1, 2, 3, 6, 7, 8, 9, 10, 11, 12, 13, 24, 33, 43, 44, 45, 46, 50, 64] H.length) (K.code (Code.loop c) :: K.blk 0 :: R) .nrm [x0, x1, some (.int .i64 col), some (.ptr H.length 0), x6, some (.ptr (H.length + 1) 0), some w0, some (.str s), x10, some (.str (padT col)), x12, x13, x24, x33, some w0, some (.int .i64 xs.length), some (.int .i64 jj), x46, x50, x64] (C) = some (.str Z, H) := by
          intro m
          induction m with
          | zero => intro j jj s x0 x1 x6 x10 x12 x13 x24 x33 x46 x50 x64 hm; omega
          | succ m ih =>
            intro j jj s x0 x1 x6 x10 x12 x13 x24 x33 x46 x50 x64 hm hj hjl hs
            subst hj
            have hsb : s.size ≤ 13212057600000 := by
              by_cases e : j % 2 = 0
              · rw [hs.1 e]; exact hbb _ _
              · rw [hs.2 (by omega)]; exact hbb _ _
            by_cases hlj : j < xs.length
            rotate_left
            · have t5 : ((j : Int) < xs.length) = False := eq_false (by omega)
              have hs := hs.1 (by have := hev h4; omega)
              rw [List.take_of_length_le (by omega)] at hs
              rw [← hs] at hZ
              rw [zEv_round hc, ← hR]
              simp (config := {contextual := true, maxSteps := 10000000, implicitDefEqProofs := false}) (disch := first | (and_intros <;> omega -splitDisjunctions) | (simp only [List.length_set, List.length_append, List.length_cons, List.length_nil]; and_intros <;> omega -splitDisjunctions) | fail) only [t5, Tryd.f63, go_sem, ↓reduceIte, Nat.reduceEqDiff, Nat.reduceAdd, Nat.reduceMul, Nat.reduceLT, Nat.reduceLeDiff, reduceCtorEq, Int.reduceNe, Int.reduceEq, Int.reduceLT, Int.reduceLE, Int.reduceAdd, Int.reduceSub, Int.reduceMul, Int.reduceNeg, Int.reduceToNat, UInt8.reduceToNat, natLit, ty3, ty4, ty9, ty39, ty65, ty67, ty71]
              rw [← hZ]
            have t5 : ((j : Int) < xs.length) = True := eq_true (by omega)
            have hxi := hki (xs.getD j 0) (by rw [getD_of hlj]; exact List.getElem_mem _)
            have s1 := fun n K => aC.load1 0 (fun x => .int .i64 (x : Nat)) (fun _ => rfl) j hlj n K
            have s2 := aC.con (by omega)
            have hc2 : ((col + 2 : Nat) : Int) = (col : Int) + 2 := by omega
            have t6 := tmod2 j
            by_cases hp : j % 2 = 0
            · rw [eq_true hp] at t6
              have hev := hev h4
              have hlj1 : j + 1 < xs.length := by omega
              have hs := hs.1 hp
              have hn3 := blkL_take (fun x => blkT es d x (col + 2)) (flowT es es.length) true (padT col) xs 0 j (headT ⟨#[]⟩) hlj
              have hn4 := blkL_take (fun x => blkT es d x (col + 2)) (flowT es es.length) true (padT col) xs 0 (j + 1) (headT ⟨#[]⟩) hlj1
              simp only [if_true] at hn3 hn4
              rw [Nat.zero_add, if_pos hp, ← hs] at hn3
              rw [Nat.zero_add, if_neg (by omega), hn3] at hn4
              have hsb1 := hbb true (j + 1 + 1)
              rw [hn4] at hsb1
              simp only [ByteArray.size_append, show (⟨#[32, 58]⟩ : ByteArray).size = 2 from rfl] at hsb1
              have s1b := fun n K => aC.load1 0 (fun x => .int .i64 (x : Nat)) (fun _ => rfl) (j + 1) hlj1 n K
              have hxi1 := hki (xs.getD (j + 1) 0) (by rw [getD_of hlj1]; exact List.getElem_mem _)
              have n4 := fun fl => hIH (xs.getD (j + 1) 0) C fl rC hxi1.2.1 hxi1.1 hxi1.2.2
              have n3 := fun fl => run_flowText hw hsh hl es.length (xs.getD j 0) v ve vu vd C fl rC hxi.2.1 (by omega) hxi.2.2
              rw [hc2] at n4
              have t8 : (((j : Int) + 1)).toNat = j + 1 := by omega
              generalize flowT es es.length (xs.getD j 0) = T at *
              generalize blkT es d (xs.getD (j + 1) 0) (col + 2) = T2 at *
              generalize padT col = Pd at *
              try unfold run at n3
              try unfold run at n4
              rw [zEv_round hc, ← hR]
              simp (config := {contextual := true, maxSteps := 10000000, implicitDefEqProofs := false}) (disch := first | (and_intros <;> omega -splitDisjunctions) | (simp only [List.length_set, List.length_append, List.length_cons, List.length_nil]; and_intros <;> omega -splitDisjunctions) | fail) only [t5, t6, t8, s1, s1b, s2, cE, cN, n3, n4, w1, w2, w3, w4, w6, j0, j1, j2, j3, j4, j5, j6, Tryd.f63, go_sem, ↓reduceIte, Nat.reduceEqDiff, Nat.reduceAdd, Nat.reduceMul, Nat.reduceLT, Nat.reduceLeDiff, reduceCtorEq, Int.reduceNe, Int.reduceEq, Int.reduceLT, Int.reduceLE, Int.reduceAdd, Int.reduceSub, Int.reduceMul, Int.reduceNeg, Int.reduceToNat, UInt8.reduceToNat, natLit, ty3, ty4, ty9, ty39, ty65, ty67, ty71]
              rw [hR]
              exact ih (j + 1) ((j : Int) + 1) _ _ _ _ _ _ _ _ _ _ _ _ (by omega) (by omega) (by omega) ⟨fun e => by omega, fun _ => hn4.symm⟩
            · rw [eq_false hp] at t6
              rw [zEv_round hc, ← hR]
              simp (config := {contextual := true, maxSteps := 10000000, implicitDefEqProofs := false}) (disch := first | (and_intros <;> omega -splitDisjunctions) | (simp only [List.length_set, List.length_append, List.length_cons, List.length_nil]; and_intros <;> omega -splitDisjunctions) | fail) only [t5, t6, s1, s2, cE, cN, w1, w2, w3, w4, w6, Tryd.f63, go_sem, ↓reduceIte, Nat.reduceEqDiff, Nat.reduceAdd, Nat.reduceMul, Nat.reduceLT, Nat.reduceLeDiff, reduceCtorEq, Int.reduceNe, Int.reduceEq, Int.reduceLT, Int.reduceLE, Int.reduceAdd, Int.reduceSub, Int.reduceMul, Int.reduceNeg, Int.reduceToNat, UInt8.reduceToNat, natLit, ty3, ty4, ty9, ty39, ty65, ty67, ty71]
              rw [hR]
              exact ih (j + 1) ((j : Int) + 1) s _ _ _ _ _ _ _ _ _ _ _ (by omega) (by omega) (by omega) ⟨fun _ => hs.2 (by omega), fun e => by omega⟩
        exact key (xs.length + 1) 0 0 _ _ _ _ _ _ _ _ _ _ _ _ (by omega) rfl (by omega) ⟨fun _ => (by rw [List.take_zero]; show _ = headT ⟨#[]⟩; rw [hhd]; rw [if_pos rfl] <;> try rfl), fun e => by omega⟩
      · have hPs := hP0 hP
        unfold run evC at *
        simp only [h4] at g6 e3 e7 cE
        rw [Run_z Tryd.func63 rfl (by rfl : ok 63 = true) (by rfl : cfg.keep 63 = [0, 1, 2, 3, 6, 7, 8, 9, 10, 11, 12, 13, 24, 33, 43, 44, 45, 46, 50, 64]) (by rfl : cfg.mode 63 = .pure) (by rfl : cfg.ord 63 = [])]
        simp (config := {contextual := true, maxSteps := 10000000, implicitDefEqProofs := false}) (disch := first | (and_intros <;> omega -splitDisjunctions) | (simp only [List.length_set, List.length_append, List.length_cons, List.length_nil]; and_intros <;> omega -splitDisjunctions) | fail) only [g6, e3, e4, e7, cE, cN, t9, hP, hPs, tP, w1, w2, w3, w4, j0, j1, j2, j3, j4, j5, j6, f0, f1, f2, f3, f4, f5, f6, Tryd.f63, go_sem, ↓reduceIte, Nat.reduceEqDiff, Nat.reduceAdd, Nat.reduceMul, Nat.reduceLT, Nat.reduceLeDiff, reduceCtorEq, Int.reduceNe, Int.reduceEq, Int.reduceLT, Int.reduceLE, Int.reduceAdd, Int.reduceSub, Int.reduceMul, Int.reduceNeg, Int.reduceToNat, UInt8.reduceToNat, natLit, ty3, ty4, ty9, ty39, ty65, ty67, ty71]
        refine at_loopE fun c R hc hR => ?_
        have key : ∀ (m : Nat) (j : Nat) (jj : Int) (s : ByteArray) (x0 x1 x6 x10 x12 x13 x24 x33 x46 x50 x64 : Option V), xs.length - j < m → jj = j → j ≤ xs.length → ((j % 2 = 0 → s = blkL (fun x => blkT es d x (col + 2)) (flowT es es.length) true (padT col) 0 (xs.take j) (headT P)) ∧ (j % 2 = 1 → s = blkL (fun x => blkT es d x (col + 2)) (flowT es es.length) true (padT col) 0 (xs.take (j + 1)) (headT P))) →
            zEv (leaveX (mkR Tryd.prog cfg ok [0, 1, 2, 3, 6, 7, 8, 9, 10, 11, 12, 13, 24, 33, 43, 44, 45, 46, 50, 64] H.length) .pure H [ResultVar.tmp 6]) (mkR Tryd.prog cfg ok [0, 1, 2, 3, 6, 7, 8, 9, 10, 11, 12, 13, 24, 33, 43, 44, 45, 46, 50, 64] H.length) (K.code (Code.loop c) :: K.blk 0 :: R) .nrm [x0, x1, some (.int .i64 col), some (.ptr H.length 0), x6, some (.ptr (H.length + 1) 0), some w0, some (.str s), x10, some (.str (padT col)), x12, x13, x24, x33, some w0, some (.int .i64 xs.length), some (.int .i64 jj), x46, x50, x64] (C) = some (.str Z, H) := by
          intro m
          induction m with
          | zero => intro j jj s x0 x1 x6 x10 x12 x13 x24 x33 x46 x50 x64 hm; omega
          | succ m ih =>
            intro j jj s x0 x1 x6 x10 x12 x13 x24 x33 x46 x50 x64 hm hj hjl hs
            subst hj
            have hsb : s.size ≤ 13212057600000 := by
              by_cases e : j % 2 = 0
              · rw [hs.1 e]; exact hbb _ _
              · rw [hs.2 (by omega)]; exact hbb _ _
            by_cases hlj : j < xs.length
            rotate_left
            · have t5 : ((j : Int) < xs.length) = False := eq_false (by omega)
              have hs := hs.1 (by have := hev h4; omega)
              rw [List.take_of_length_le (by omega)] at hs
              rw [← hs] at hZ
              rw [zEv_round hc, ← hR]
              simp (config := {contextual := true, maxSteps := 10000000, implicitDefEqProofs := false}) (disch := first | (and_intros <;> omega -splitDisjunctions) | (simp only [List.length_set, List.length_append, List.length_cons, List.length_nil]; and_intros <;> omega -splitDisjunctions) | fail) only [t5, Tryd.f63, go_sem, ↓reduceIte, Nat.reduceEqDiff, Nat.reduceAdd, Nat.reduceMul, Nat.reduceLT, Nat.reduceLeDiff, reduceCtorEq, Int.reduceNe, Int.reduceEq, Int.reduceLT, Int.reduceLE, Int.reduceAdd, Int.reduceSub, Int.reduceMul, Int.reduceNeg, Int.reduceToNat, UInt8.reduceToNat, natLit, ty3, ty4, ty9, ty39, ty65, ty67, ty71]
              rw [← hZ]
            have t5 : ((j : Int) < xs.length) = True := eq_true (by omega)
            have hxi := hki (xs.getD j 0) (by rw [getD_of hlj]; exact List.getElem_mem _)
            have s1 := fun n K => aC.load1 0 (fun x => .int .i64 (x : Nat)) (fun _ => rfl) j hlj n K
            have s2 := aC.con (by omega)
            have hc2 : ((col + 2 : Nat) : Int) = (col : Int) + 2 := by omega
            have t6 := tmod2 j
            by_cases hp : j % 2 = 0
            · rw [eq_true hp] at t6
              have hev := hev h4
              have hlj1 : j + 1 < xs.length := by omega
              have hs := hs.1 hp
              have hn3 := blkL_take (fun x => blkT es d x (col + 2)) (flowT es es.length) true (padT col) xs 0 j (headT P) hlj
              have hn4 := blkL_take (fun x => blkT es d x (col + 2)) (flowT es es.length) true (padT col) xs 0 (j + 1) (headT P) hlj1
              simp only [if_true] at hn3 hn4
              rw [Nat.zero_add, if_pos hp, ← hs] at hn3
              rw [Nat.zero_add, if_neg (by omega), hn3] at hn4
              have hsb1 := hbb true (j + 1 + 1)
              rw [hn4] at hsb1
              simp only [ByteArray.size_append, show (⟨#[32, 58]⟩ : ByteArray).size = 2 from rfl] at hsb1
              have s1b := fun n K => aC.load1 0 (fun x => .int .i64 (x : Nat)) (fun _ => rfl) (j + 1) hlj1 n K
              have hxi1 := hki (xs.getD (j + 1) 0) (by rw [getD_of hlj1]; exact List.getElem_mem _)
              have n4 := fun fl => hIH (xs.getD (j + 1) 0) C fl rC hxi1.2.1 hxi1.1 hxi1.2.2
              have n3 := fun fl => run_flowText hw hsh hl es.length (xs.getD j 0) v ve vu vd C fl rC hxi.2.1 (by omega) hxi.2.2
              rw [hc2] at n4
              have t8 : (((j : Int) + 1)).toNat = j + 1 := by omega
              generalize flowT es es.length (xs.getD j 0) = T at *
              generalize blkT es d (xs.getD (j + 1) 0) (col + 2) = T2 at *
              generalize padT col = Pd at *
              try unfold run at n3
              try unfold run at n4
              rw [zEv_round hc, ← hR]
              simp (config := {contextual := true, maxSteps := 10000000, implicitDefEqProofs := false}) (disch := first | (and_intros <;> omega -splitDisjunctions) | (simp only [List.length_set, List.length_append, List.length_cons, List.length_nil]; and_intros <;> omega -splitDisjunctions) | fail) only [t5, t6, t8, s1, s1b, s2, cE, cN, n3, n4, w1, w2, w3, w4, w6, j0, j1, j2, j3, j4, j5, j6, Tryd.f63, go_sem, ↓reduceIte, Nat.reduceEqDiff, Nat.reduceAdd, Nat.reduceMul, Nat.reduceLT, Nat.reduceLeDiff, reduceCtorEq, Int.reduceNe, Int.reduceEq, Int.reduceLT, Int.reduceLE, Int.reduceAdd, Int.reduceSub, Int.reduceMul, Int.reduceNeg, Int.reduceToNat, UInt8.reduceToNat, natLit, ty3, ty4, ty9, ty39, ty65, ty67, ty71]
              rw [hR]
              exact ih (j + 1) ((j : Int) + 1) _ _ _ _ _ _ _ _ _ _ _ _ (by omega) (by omega) (by omega) ⟨fun e => by omega, fun _ => hn4.symm⟩
            · rw [eq_false hp] at t6
              rw [zEv_round hc, ← hR]
              simp (config := {contextual := true, maxSteps := 10000000, implicitDefEqProofs := false}) (disch := first | (and_intros <;> omega -splitDisjunctions) | (simp only [List.length_set, List.length_append, List.length_cons, List.length_nil]; and_intros <;> omega -splitDisjunctions) | fail) only [t5, t6, s1, s2, cE, cN, w1, w2, w3, w4, w6, Tryd.f63, go_sem, ↓reduceIte, Nat.reduceEqDiff, Nat.reduceAdd, Nat.reduceMul, Nat.reduceLT, Nat.reduceLeDiff, reduceCtorEq, Int.reduceNe, Int.reduceEq, Int.reduceLT, Int.reduceLE, Int.reduceAdd, Int.reduceSub, Int.reduceMul, Int.reduceNeg, Int.reduceToNat, UInt8.reduceToNat, natLit, ty3, ty4, ty9, ty39, ty65, ty67, ty71]
              rw [hR]
              exact ih (j + 1) ((j : Int) + 1) s _ _ _ _ _ _ _ _ _ _ _ (by omega) (by omega) (by omega) ⟨fun _ => hs.2 (by omega), fun e => by omega⟩
        exact key (xs.length + 1) 0 0 _ _ _ _ _ _ _ _ _ _ _ _ (by omega) rfl (by omega) ⟨fun _ => (by rw [List.take_zero]; show _ = headT P; rw [hhd]; rw [if_neg hP]), fun e => by omega⟩
    · have h3 : (es.getD i evZ).kind = 3 := by omega
      have hZ : blkL (fun x => blkT es d x (col + 2)) (flowT es es.length) false (padT col) 0 xs (headT P) = Z := by
        rw [← hZ]; congr 1; exact (decide_eq_false (show ¬ kd es i ≠ 3 by rw [show kd es i = 3 from h3]; omega)).symm
      by_cases hP : P = ⟨#[]⟩
      · subst hP
        unfold run evC at *
        simp only [h3] at g6 e3 e7 cE
        rw [Run_z Tryd.func63 rfl (by rfl : ok 63 = true) (by rfl : cfg.keep 63 = [0, 1, 2, 3, 6, 7, 8, 9, 10, 11, 12, 13, 24, 33, 43, 44, 45, 46, 50, 64]) (by rfl : cfg.mode 63 = .pure) (by rfl : cfg.ord 63 = [])]
        simp (config := {contextual := true, maxSteps := 10000000, implicitDefEqProofs := false}) (disch := first | (and_intros <;> omega -splitDisjunctions) | (simp only [List.length_set, List.length_append, List.length_cons, List.length_nil]; and_intros <;> omega -splitDisjunctions) | fail) only [g6, e3, e4, e7, cE, cN, t9, tP, w1, w2, w3, w4, j0, j1, j2, j3, j4, j5, j6, f0, f1, f2, f3, f4, f5, f6, Tryd.f63, go_sem, ↓reduceIte, Nat.reduceEqDiff, Nat.reduceAdd, Nat.reduceMul, Nat.reduceLT, Nat.reduceLeDiff, reduceCtorEq, Int.reduceNe, Int.reduceEq, Int.reduceLT, Int.reduceLE, Int.reduceAdd, Int.reduceSub, Int.reduceMul, Int.reduceNeg, Int.reduceToNat, UInt8.reduceToNat, natLit, ty3, ty4, ty9, ty39, ty65, ty67, ty71]
        refine at_loopE fun c R hc hR => ?_
        have key : ∀ (m : Nat) (j : Nat) (jj : Int) (s : ByteArray) (x0 x1 x6 x10 x12 x13 x24 x33 x46 x50 x64 : Option V), xs.length - j < m → jj = j → j ≤ xs.length → s = blkL (fun x => blkT es d x (col + 2)) (flowT es es.length) false (padT col) 0 (xs.take j) (headT ⟨#[]⟩) →
            zEv (leaveX (mkR Tryd.prog cfg ok [0, 1, 2, 3, 6, 7, 8, 9, 10, 11, 12, 13, 24, 33, 43, 44, 45, 46, 50, 64] H.length) .pure H [ResultVar.tmp 6]) (mkR Tryd.prog cfg ok [0, 1, 2, 3, 6, 7, 8, 9, 10, 11, 12, 13, 24, 33, 43, 44, 45, 46, 50, 64] H.length) (K.code (Code.loop c) :: K.blk 0 :: R) .nrm [x0, x1, some (.int .i64 col), some (.ptr H.length 0), x6, some (.ptr (H.length + 1) 0), some w0, some (.str s), x10, some (.str (padT col)), x12, x13, x24, x33, some w0, some (.int .i64 xs.length), some (.int .i64 jj), x46, x50, x64] (C) = some (.str Z, H) := by
          intro m
          induction m with
          | zero => intro j jj s x0 x1 x6 x10 x12 x13 x24 x33 x46 x50 x64 hm; omega
          | succ m ih =>
            intro j jj s x0 x1 x6 x10 x12 x13 x24 x33 x46 x50 x64 hm hj hjl hs
            subst hj
            have hsb : s.size ≤ 13212057600000 := by
              rw [hs]; exact hbb _ _
            by_cases hlj : j < xs.length
            rotate_left
            · have t5 : ((j : Int) < xs.length) = False := eq_false (by omega)
              rw [List.take_of_length_le (by omega)] at hs
              rw [← hs] at hZ
              rw [zEv_round hc, ← hR]
              simp (config := {contextual := true, maxSteps := 10000000, implicitDefEqProofs := false}) (disch := first | (and_intros <;> omega -splitDisjunctions) | (simp only [List.length_set, List.length_append, List.length_cons, List.length_nil]; and_intros <;> omega -splitDisjunctions) | fail) only [t5, Tryd.f63, go_sem, ↓reduceIte, Nat.reduceEqDiff, Nat.reduceAdd, Nat.reduceMul, Nat.reduceLT, Nat.reduceLeDiff, reduceCtorEq, Int.reduceNe, Int.reduceEq, Int.reduceLT, Int.reduceLE, Int.reduceAdd, Int.reduceSub, Int.reduceMul, Int.reduceNeg, Int.reduceToNat, UInt8.reduceToNat, natLit, ty3, ty4, ty9, ty39, ty65, ty67, ty71]
              rw [← hZ]
            have t5 : ((j : Int) < xs.length) = True := eq_true (by omega)
            have hxi := hki (xs.getD j 0) (by rw [getD_of hlj]; exact List.getElem_mem _)
            have s1 := fun n K => aC.load1 0 (fun x => .int .i64 (x : Nat)) (fun _ => rfl) j hlj n K
            have s2 := aC.con (by omega)
            have hc2 : ((col + 2 : Nat) : Int) = (col : Int) + 2 := by omega
            have hn3 := blkL_take (fun x => blkT es d x (col + 2)) (flowT es es.length) false (padT col) xs 0 j (headT ⟨#[]⟩) hlj
            simp only [Bool.false_eq_true, if_false] at hn3
            rw [← hs] at hn3
            have hsb1 := hbb false (j + 1)
            rw [hn3] at hsb1
            simp only [ByteArray.size_append, show (⟨#[45]⟩ : ByteArray).size = 1 from rfl] at hsb1
            have n3 := fun fl => hIH (xs.getD j 0) C fl rC hxi.2.1 hxi.1 hxi.2.2
            rw [hc2] at n3
            generalize blkT es d (xs.getD j 0) (col + 2) = T at *
            generalize padT col = Pd at *
            try unfold run at n3
            rw [zEv_round hc, ← hR]
            simp (config := {contextual := true, maxSteps := 10000000, implicitDefEqProofs := false}) (disch := first | (and_intros <;> omega -splitDisjunctions) | (simp only [List.length_set, List.length_append, List.length_cons, List.length_nil]; and_intros <;> omega -splitDisjunctions) | fail) only [t5, s1, s2, cE, cN, n3, w1, w2, w3, w4, w6, j0, j1, j2, j3, j4, j5, j6, Tryd.f63, go_sem, ↓reduceIte, Nat.reduceEqDiff, Nat.reduceAdd, Nat.reduceMul, Nat.reduceLT, Nat.reduceLeDiff, reduceCtorEq, Int.reduceNe, Int.reduceEq, Int.reduceLT, Int.reduceLE, Int.reduceAdd, Int.reduceSub, Int.reduceMul, Int.reduceNeg, Int.reduceToNat, UInt8.reduceToNat, natLit, ty3, ty4, ty9, ty39, ty65, ty67, ty71]
            rw [hR]
            exact ih (j + 1) ((j : Int) + 1) _ _ _ _ _ _ _ _ _ _ _ _ (by omega) (by omega) (by omega) hn3.symm
        exact key (xs.length + 1) 0 0 _ _ _ _ _ _ _ _ _ _ _ _ (by omega) rfl (by omega) (by rw [List.take_zero]; show _ = headT ⟨#[]⟩; rw [hhd]; rw [if_pos rfl] <;> try rfl)
      · have hPs := hP0 hP
        unfold run evC at *
        simp only [h3] at g6 e3 e7 cE
        rw [Run_z Tryd.func63 rfl (by rfl : ok 63 = true) (by rfl : cfg.keep 63 = [0, 1, 2, 3, 6, 7, 8, 9, 10, 11, 12, 13, 24, 33, 43, 44, 45, 46, 50, 64]) (by rfl : cfg.mode 63 = .pure) (by rfl : cfg.ord 63 = [])]
        simp (config := {contextual := true, maxSteps := 10000000, implicitDefEqProofs := false}) (disch := first | (and_intros <;> omega -splitDisjunctions) | (simp only [List.length_set, List.length_append, List.length_cons, List.length_nil]; and_intros <;> omega -splitDisjunctions) | fail) only [g6, e3, e4, e7, cE, cN, t9, hP, hPs, tP, w1, w2, w3, w4, j0, j1, j2, j3, j4, j5, j6, f0, f1, f2, f3, f4, f5, f6, Tryd.f63, go_sem, ↓reduceIte, Nat.reduceEqDiff, Nat.reduceAdd, Nat.reduceMul, Nat.reduceLT, Nat.reduceLeDiff, reduceCtorEq, Int.reduceNe, Int.reduceEq, Int.reduceLT, Int.reduceLE, Int.reduceAdd, Int.reduceSub, Int.reduceMul, Int.reduceNeg, Int.reduceToNat, UInt8.reduceToNat, natLit, ty3, ty4, ty9, ty39, ty65, ty67, ty71]
        refine at_loopE fun c R hc hR => ?_
        have key : ∀ (m : Nat) (j : Nat) (jj : Int) (s : ByteArray) (x0 x1 x6 x10 x12 x13 x24 x33 x46 x50 x64 : Option V), xs.length - j < m → jj = j → j ≤ xs.length → s = blkL (fun x => blkT es d x (col + 2)) (flowT es es.length) false (padT col) 0 (xs.take j) (headT P) →
            zEv (leaveX (mkR Tryd.prog cfg ok [0, 1, 2, 3, 6, 7, 8, 9, 10, 11, 12, 13, 24, 33, 43, 44, 45, 46, 50, 64] H.length) .pure H [ResultVar.tmp 6]) (mkR Tryd.prog cfg ok [0, 1, 2, 3, 6, 7, 8, 9, 10, 11, 12, 13, 24, 33, 43, 44, 45, 46, 50, 64] H.length) (K.code (Code.loop c) :: K.blk 0 :: R) .nrm [x0, x1, some (.int .i64 col), some (.ptr H.length 0), x6, some (.ptr (H.length + 1) 0), some w0, some (.str s), x10, some (.str (padT col)), x12, x13, x24, x33, some w0, some (.int .i64 xs.length), some (.int .i64 jj), x46, x50, x64] (C) = some (.str Z, H) := by
          intro m
          induction m with
          | zero => intro j jj s x0 x1 x6 x10 x12 x13 x24 x33 x46 x50 x64 hm; omega
          | succ m ih =>
            intro j jj s x0 x1 x6 x10 x12 x13 x24 x33 x46 x50 x64 hm hj hjl hs
            subst hj
            have hsb : s.size ≤ 13212057600000 := by
              rw [hs]; exact hbb _ _
            by_cases hlj : j < xs.length
            rotate_left
            · have t5 : ((j : Int) < xs.length) = False := eq_false (by omega)
              rw [List.take_of_length_le (by omega)] at hs
              rw [← hs] at hZ
              rw [zEv_round hc, ← hR]
              simp (config := {contextual := true, maxSteps := 10000000, implicitDefEqProofs := false}) (disch := first | (and_intros <;> omega -splitDisjunctions) | (simp only [List.length_set, List.length_append, List.length_cons, List.length_nil]; and_intros <;> omega -splitDisjunctions) | fail) only [t5, Tryd.f63, go_sem, ↓reduceIte, Nat.reduceEqDiff, Nat.reduceAdd, Nat.reduceMul, Nat.reduceLT, Nat.reduceLeDiff, reduceCtorEq, Int.reduceNe, Int.reduceEq, Int.reduceLT, Int.reduceLE, Int.reduceAdd, Int.reduceSub, Int.reduceMul, Int.reduceNeg, Int.reduceToNat, UInt8.reduceToNat, natLit, ty3, ty4, ty9, ty39, ty65, ty67, ty71]
              rw [← hZ]
            have t5 : ((j : Int) < xs.length) = True := eq_true (by omega)
            have hxi := hki (xs.getD j 0) (by rw [getD_of hlj]; exact List.getElem_mem _)
            have s1 := fun n K => aC.load1 0 (fun x => .int .i64 (x : Nat)) (fun _ => rfl) j hlj n K
            have s2 := aC.con (by omega)
            have hc2 : ((col + 2 : Nat) : Int) = (col : Int) + 2 := by omega
            have hn3 := blkL_take (fun x => blkT es d x (col + 2)) (flowT es es.length) false (padT col) xs 0 j (headT P) hlj
            simp only [Bool.false_eq_true, if_false] at hn3
            rw [← hs] at hn3
            have hsb1 := hbb false (j + 1)
            rw [hn3] at hsb1
            simp only [ByteArray.size_append, show (⟨#[45]⟩ : ByteArray).size = 1 from rfl] at hsb1
            have n3 := fun fl => hIH (xs.getD j 0) C fl rC hxi.2.1 hxi.1 hxi.2.2
            rw [hc2] at n3
            generalize blkT es d (xs.getD j 0) (col + 2) = T at *
            generalize padT col = Pd at *
            try unfold run at n3
            rw [zEv_round hc, ← hR]
            simp (config := {contextual := true, maxSteps := 10000000, implicitDefEqProofs := false}) (disch := first | (and_intros <;> omega -splitDisjunctions) | (simp only [List.length_set, List.length_append, List.length_cons, List.length_nil]; and_intros <;> omega -splitDisjunctions) | fail) only [t5, s1, s2, cE, cN, n3, w1, w2, w3, w4, w6, j0, j1, j2, j3, j4, j5, j6, Tryd.f63, go_sem, ↓reduceIte, Nat.reduceEqDiff, Nat.reduceAdd, Nat.reduceMul, Nat.reduceLT, Nat.reduceLeDiff, reduceCtorEq, Int.reduceNe, Int.reduceEq, Int.reduceLT, Int.reduceLE, Int.reduceAdd, Int.reduceSub, Int.reduceMul, Int.reduceNeg, Int.reduceToNat, UInt8.reduceToNat, natLit, ty3, ty4, ty9, ty39, ty65, ty67, ty71]
            rw [hR]
            exact ih (j + 1) ((j : Int) + 1) _ _ _ _ _ _ _ _ _ _ _ _ (by omega) (by omega) (by omega) hn3.symm
        exact key (xs.length + 1) 0 0 _ _ _ _ _ _ _ _ _ _ _ _ (by omega) rfl (by omega) (by rw [List.take_zero]; show _ = headT P; rw [hhd]; rw [if_neg hP])
end Go.Proofs.YtcbjmggbbnpbpaaDoor.Lg
