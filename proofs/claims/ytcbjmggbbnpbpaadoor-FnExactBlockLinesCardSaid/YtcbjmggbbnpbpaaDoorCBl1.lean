/- What is written in the block style, in the reference. No condition. -/
import Derived.Test.YtcbjmggbbnpbpaaDoorCBlM
namespace Go.Proofs.YtcbjmggbbnpbpaaDoor.Lg
set_option linter.unusedSimpArgs false
set_option linter.unusedVariables false
set_option maxRecDepth 100000
set_option maxHeartbeats 40000000
open Go.Proofs.YtcbjmggbbnpbpaaDoor

theorem run_l21Pad (n : Nat) (hn : n ≤ 1099511627776) (fl : Nat) (H : LH) : run 101 [.int .i64 n] fl H = some (.str (padT n), H) := by
  unfold run
  rw [Run_z Tryd.func101 rfl (by rfl : ok 101 = true) (by rfl : cfg.keep 101 = [0, 2, 3, 5]) (by rfl : cfg.mode 101 = .pure) (by rfl : cfg.ord 101 = [])]
  simp (config := {contextual := true, maxSteps := 10000000, implicitDefEqProofs := false}) (disch := first | (and_intros <;> omega -splitDisjunctions) | (simp only [List.length_set, List.length_append, List.length_cons, List.length_nil]; and_intros <;> omega -splitDisjunctions) | fail) only [Tryd.f101, go_sem, ↓reduceIte, Nat.reduceEqDiff, Nat.reduceAdd, Nat.reduceMul, Nat.reduceLT, Nat.reduceLeDiff, reduceCtorEq, Int.reduceNe, Int.reduceEq, Int.reduceLT, Int.reduceLE, Int.reduceAdd, Int.reduceSub, Int.reduceMul, Int.reduceNeg, Int.reduceToNat, UInt8.reduceToNat, natLit, ty3, ty9]
  refine at_loopE fun c R hc hR => ?_
  have key : ∀ (m : Nat) (q : Nat) (qq : Int) (s : ByteArray) (x2 x5 : Option V), q < m → qq = q → q ≤ n → s = padT (n - q) →
      zEv (leaveX (mkR Tryd.prog cfg ok [0, 2, 3, 5] H.length) .pure H [ResultVar.tmp 2]) (mkR Tryd.prog cfg ok [0, 2, 3, 5] H.length) (K.code (Code.loop c) :: K.blk 0 :: R) .nrm [some (.int .i64 qq), x2, some (.str s), x5] (H) = some (.str (padT n), H) := by
    intro m
    induction m with
    | zero => intro q qq s x2 x5 hm; omega
    | succ m ih =>
      intro q qq s x2 x5 hm hq hqn hs
      subst hq
      have hsz : s.size = n - q := by rw [hs, padT_size]
      have hsz2 : s.size ≤ 1099511627776 := by omega
      by_cases h0 : q = 0
      · subst h0
        rw [zEv_round hc, ← hR]
        simp (config := {contextual := true, maxSteps := 10000000, implicitDefEqProofs := false}) (disch := first | (and_intros <;> omega -splitDisjunctions) | (simp only [List.length_set, List.length_append, List.length_cons, List.length_nil]; and_intros <;> omega -splitDisjunctions) | fail) only [Tryd.f101, go_sem, ↓reduceIte, Nat.reduceEqDiff, Nat.reduceAdd, Nat.reduceMul, Nat.reduceLT, Nat.reduceLeDiff, reduceCtorEq, Int.reduceNe, Int.reduceEq, Int.reduceLT, Int.reduceLE, Int.reduceAdd, Int.reduceSub, Int.reduceMul, Int.reduceNeg, Int.reduceToNat, UInt8.reduceToNat, natLit, ty3, ty9]
        rw [hs]; rfl
      · have t1 : ((q : Int) > 0) = True := eq_true (by omega)
        rw [zEv_round hc, ← hR]
        simp (config := {contextual := true, maxSteps := 10000000, implicitDefEqProofs := false}) (disch := first | (and_intros <;> omega -splitDisjunctions) | (simp only [List.length_set, List.length_append, List.length_cons, List.length_nil]; and_intros <;> omega -splitDisjunctions) | fail) only [t1, Tryd.f101, go_sem, ↓reduceIte, Nat.reduceEqDiff, Nat.reduceAdd, Nat.reduceMul, Nat.reduceLT, Nat.reduceLeDiff, reduceCtorEq, Int.reduceNe, Int.reduceEq, Int.reduceLT, Int.reduceLE, Int.reduceAdd, Int.reduceSub, Int.reduceMul, Int.reduceNeg, Int.reduceToNat, UInt8.reduceToNat, natLit, ty3, ty9]
        rw [hR]
        refine ih (q - 1) ((q : Int) - 1) _ _ _ (by omega) (by omega) (by omega) ?_
        rw [hs, padT_succ]; congr 1; omega
  exact key (n + 1) n n ⟨#[]⟩ _ _ (by omega) rfl (Nat.le_refl _) (by rw [Nat.sub_self]; rfl)
theorem sizeP {P : ByteArray} (h : P ≠ ⟨#[]⟩) : 0 < P.size := by
  apply Nat.pos_of_ne_zero
  intro e
  apply h
  apply ByteArray.ext
  exact Array.eq_empty_of_size_eq_zero e
theorem run_l21Lines {es : List Ev} (hcw : cwM es = true) (hsh : ∀ e ∈ es, Short e) (hl : es.length ≤ 1048576) : ∀ (d i col : Nat) (v : V) (H : LH) (fl : Nat), At H evC 8 v es → i < es.length → es.length - i ≤ d → isN (evA es i) → col ≤ 1000 + 2 * i →
    run 60 [v, .int .i64 i, .int .i64 col] fl H = some (.str (blkT es d i col), H)
  | 0, i, col, v, H, fl, h, hi, hd, hn, hcol => by omega
  | d + 1, i, col, v, H, fl, h, hi, hd, hn, hcol => by
    have hw := cw_whole hcw
    have hc : CostOk es := fun e he => (hsh e he).cost
    have hse := hsh _ (show es.getD i evZ ∈ es by rw [getD_of hi]; exact List.getElem_mem _)
    have hIH := fun (x : Nat) (B : LH) (fl : Nat) (hB : At B evC 8 v es) (hx : x < es.length) (h2 : i < x) (h3 : isN (evA es x)) => run_l21Lines hcw hsh hl d x (col + 2) v B fl hB hx (by omega) h3 (by omega)
    have e3 := fun fl H => run_spProps (es.getD i evZ) fl H hse
    have e4 := fun fl H => run_l21Pad col (by omega) fl H
    have lP := propT_size (es.getD i evZ)
    have hsz : (es.getD i evZ).anchor.size + (es.getD i evZ).tag.size ≤ 1048576 := by unfold Short at hse; omega
    have f1 := h.isTup; have f2 := h.len; have f3 := h.lenOk ty39; have f0 := h.one
    have f4 := fun hp => h.con hp
    have f5 := h.idx (T := ty Tryd.prog) (t := 39) (by simp only [elemI, sizeO, ty3, ty4, ty9, ty39, ty65])
    have f6 := h.loadD evC_len evZ
    have g6 := f6 i hi
    obtain ⟨Z, hZ⟩ : ∃ Z, blkT es (d + 1) i col = Z := ⟨_, rfl⟩
    rw [hZ]
    unfold blkT at hZ
    obtain ⟨w0, C, e7, xC, oC⟩ := run_l13Kids (h.ext (Hx.app (L := [.cells (evC (es.getD i evZ))]))) hl hi H.length
    have hxC : Hx H C := Hx.app.trans xC
    have cE : LH.cellsAt C H.length = some (evC (es.getD i evZ)) := xC.cells (by rw [cellsAt_app0]; rfl)
    have rC := h.ext hxC
    have hki := kidsF_in es hi
    have hkl2 := kidsF_len es hi
    have aC := oC.at inN_len
    have w1 := aC.isTup; have w2 := aC.len; have w3 := aC.lenOk ty67; have w4 := aC.one
    have w6 := aC.idx (T := ty Tryd.prog) (t := 67) (by simp only [elemI, sizeO, ty3, ty67])
    by_cases hk0 : kidsF es i = []
    · rw [if_pos hk0] at hZ
      have e8 := fun fl => run_l20Node hw hsh hl es.length i v C fl rC hi (by omega) hn
      have hfb := flow_bound hw hc hl (d := es.length) hi (by omega) hn
      generalize flowT es es.length i = T at *
      rw [hk0] at w2 w6
      unfold run evC at *
      rw [Run_z Tryd.func60 rfl (by rfl : ok 60 = true) (by rfl : cfg.keep 60 = [0, 1, 2, 6, 7, 8, 9, 10, 11, 21, 30, 39, 40, 41, 42, 53, 68]) (by rfl : cfg.mode 60 = .pure) (by rfl : cfg.ord 60 = [])]
      simp (config := {contextual := true, maxSteps := 10000000, implicitDefEqProofs := false}) (disch := first | (and_intros <;> omega -splitDisjunctions) | (simp only [List.length_set, List.length_append, List.length_cons, List.length_nil]; and_intros <;> omega -splitDisjunctions) | fail) only [g6, e7, e8, w1, w2, w3, w4, List.length_nil, f0, f1, f2, f3, f4, f5, f6, Tryd.f60, go_sem, ↓reduceIte, Nat.reduceEqDiff, Nat.reduceAdd, Nat.reduceMul, Nat.reduceLT, Nat.reduceLeDiff, reduceCtorEq, Int.reduceNe, Int.reduceEq, Int.reduceLT, Int.reduceLE, Int.reduceAdd, Int.reduceSub, Int.reduceMul, Int.reduceNeg, Int.reduceToNat, UInt8.reduceToNat, natLit, ty3, ty4, ty9, ty39, ty65, ty67]
      rw [← hZ]
    rw [if_neg hk0] at hZ
    have hC : isC (evA es i) := by
      apply Classical.byContradiction
      intro h
      exact hk0 (by rw [kidsF_A es i hi, if_neg h])
    have hC2 : (es.getD i evZ).kind = 3 ∨ (es.getD i evZ).kind = 4 := hC
    have hkpos := List.length_pos_iff.2 hk0
    have hbb := blkL_bound hw hc hl hi hd hC hcol
    have hbd := fun x (hx : x ∈ kidsF es i) => blk_bound hw hc hl (d := d) (col := col + 2) (hki x hx).2.1 (by have := hki x hx; omega) (hki x hx).2.2 (by have := hki x hx; omega)
    have hkey := key_leaf hcw hi
    have lpad := padT_size col
    have t9 : (((kidsF es i).length : Nat) : Int) ≠ 0 := by omega
    have t9 : ((((kidsF es i).length : Nat) : Int) = 0) = False := eq_false t9
    have hP0 : propT (es.getD i evZ) ≠ ⟨#[]⟩ → 0 < (propT (es.getD i evZ)).size := sizeP
    generalize hPg : propT (evA es i) = P at *
    have hPg2 : propT (es.getD i evZ) = P := hPg
    try rw [hPg2] at e3
    try rw [hPg2] at hP0
    try rw [hPg2] at lP
    have hhd : headT P = (if P = ⟨#[]⟩ then ⟨#[10]⟩ else ⟨#[32]⟩ ++ P.extract 0 (P.size - 1) ++ ⟨#[10]⟩) := rfl
    have hHs := headT_size P
    generalize kidsF es i = xs at *
    have tP : ((P.size : Int) - 1).toNat = P.size - 1 := by omega
    have hPe : (P.extract 0 (P.size - 1)).size ≤ 4194304 := by rw [ByteArray.size_extract]; omega
    by_cases h4 : (es.getD i evZ).kind = 4
    · have hZ : blkL (fun x => blkT es d x (col + 2)) (flowT es es.length) true (padT col) 0 xs (headT P) = Z := by
        rw [← hZ]; congr 1; exact (decide_eq_true (show kd es i ≠ 3 by rw [show kd es i = 4 from h4]; omega)).symm
      have hkey := hkey h4
      by_cases hP : P = ⟨#[]⟩
      · subst hP
        unfold run evC at *
        simp only [h4] at g6 e3 e7 cE
        rw [Run_z Tryd.func60 rfl (by rfl : ok 60 = true) (by rfl : cfg.keep 60 = [0, 1, 2, 6, 7, 8, 9, 10, 11, 21, 30, 39, 40, 41, 42, 53, 68]) (by rfl : cfg.mode 60 = .pure) (by rfl : cfg.ord 60 = [])]
        simp (config := {contextual := true, maxSteps := 10000000, implicitDefEqProofs := false}) (disch := first | (and_intros <;> omega -splitDisjunctions) | (simp only [List.length_set, List.length_append, List.length_cons, List.length_nil]; and_intros <;> omega -splitDisjunctions) | fail) only [g6, e3, e7, cE, t9, tP, w1, w2, w3, w4, f0, f1, f2, f3, f4, f5, f6, Tryd.f60, go_sem, ↓reduceIte, Nat.reduceEqDiff, Nat.reduceAdd, Nat.reduceMul, Nat.reduceLT, Nat.reduceLeDiff, reduceCtorEq, Int.reduceNe, Int.reduceEq, Int.reduceLT, Int.reduceLE, Int.reduceAdd, Int.reduceSub, Int.reduceMul, Int.reduceNeg, Int.reduceToNat, UInt8.reduceToNat, natLit, ty3, ty4, ty9, ty39, ty65, ty67]
        refine at_loopE fun c R hc hR => ?_
        have key : ∀ (m : Nat) (j : Nat) (jj : Int) (s : ByteArray) (x1 x6 x10 x11 x21 x30 x42 x53 x68 : Option V), xs.length - j < m → jj = j → j ≤ xs.length → s = blkL (fun x => blkT es d x (col + 2)) (flowT es es.length) true (padT col) 0 (xs.take j) (headT ⟨#[]⟩) →
            zEv (leaveX (mkR Tryd.prog cfg ok [0, 1, 2, 6, 7, 8, 9, 10, 11, 21, 30, 39, 40, 41, 42, 53, 68] H.length) .pure H [ResultVar.tmp 6]) (mkR Tryd.prog cfg ok [0, 1, 2, 6, 7, 8, 9, 10, 11, 21, 30, 39, 40, 41, 42, 53, 68] H.length) (K.code (Code.loop c) :: K.blk 0 :: R) .nrm [some v, x1, some (.int .i64 col), x6, some (.ptr H.length 0), some w0, some (.str s), x10, x11, x21, x30, some w0, some (.int .i64 xs.length), some (.int .i64 jj), x42, x53, x68] (C) = some (.str Z, H) := by
          intro m
          induction m with
          | zero => intro j jj s x1 x6 x10 x11 x21 x30 x42 x53 x68 hm; omega
          | succ m ih =>
            intro j jj s x1 x6 x10 x11 x21 x30 x42 x53 x68 hm hj hjl hs
            subst hj
            have hsb := hbb true j
            rw [← hs] at hsb
            by_cases hlj : j < xs.length
            rotate_left
            · have t5 : ((j : Int) < xs.length) = False := eq_false (by omega)
              rw [List.take_of_length_le (by omega)] at hs
              rw [← hs] at hZ
              rw [zEv_round hc, ← hR]
              simp (config := {contextual := true, maxSteps := 10000000, implicitDefEqProofs := false}) (disch := first | (and_intros <;> omega -splitDisjunctions) | (simp only [List.length_set, List.length_append, List.length_cons, List.length_nil]; and_intros <;> omega -splitDisjunctions) | fail) only [t5, Tryd.f60, go_sem, ↓reduceIte, Nat.reduceEqDiff, Nat.reduceAdd, Nat.reduceMul, Nat.reduceLT, Nat.reduceLeDiff, reduceCtorEq, Int.reduceNe, Int.reduceEq, Int.reduceLT, Int.reduceLE, Int.reduceAdd, Int.reduceSub, Int.reduceMul, Int.reduceNeg, Int.reduceToNat, UInt8.reduceToNat, natLit, ty3, ty4, ty9, ty39, ty65, ty67]
              rw [← hZ]
            have t5 : ((j : Int) < xs.length) = True := eq_true (by omega)
            have hxi := hki (xs.getD j 0) (by rw [getD_of hlj]; exact List.getElem_mem _)
            have hxb := hbd (xs.getD j 0) (by rw [getD_of hlj]; exact List.getElem_mem _)
            have s1 := fun n K => aC.load1 0 (fun x => .int .i64 (x : Nat)) (fun _ => rfl) j hlj n K
            have s2 := aC.con (by omega)
            have n3 := fun fl => hIH (xs.getD j 0) C fl rC hxi.2.1 hxi.1 hxi.2.2
            have hn3 := blkL_take (fun x => blkT es d x (col + 2)) (flowT es es.length) true (padT col) xs 0 j (headT ⟨#[]⟩) hlj
            rw [← hs, Nat.zero_add] at hn3
            have hsb1 := hbb true (j + 1)
            have hc2 : ((col + 2 : Nat) : Int) = (col : Int) + 2 := by omega
            rw [hc2] at n3
            simp only [if_true] at hn3
            have t6 := tmod2 j
            by_cases hp : j % 2 = 0
            · rw [if_pos hp] at hn3
              rw [hn3] at hsb1
              simp only [ByteArray.size_append] at hsb1
              rw [eq_true hp] at t6
              have hkl := hkey j hlj hp
              obtain ⟨en, hen⟩ : ∃ en, es.length = en + 1 := ⟨es.length - 1, by omega⟩
              have hfl : flowT es es.length (xs.getD j 0) = leafT (evA es (xs.getD j 0)) := by rw [hen]; exact flowT_leaf hkl
              rw [hfl] at hn3 hsb1
              have hxl := hxi.2.1
              have y1 := rC.isTup; have y2 := rC.len; have y3 := rC.lenOk ty39; have y0 := rC.one
              have y4 := fun hp => rC.con hp
              have y5 := rC.idx (T := ty Tryd.prog) (t := 39) (by simp only [elemI, sizeO, ty3, ty4, ty9, ty39, ty65])
              have y6 := rC.loadD evC_len evZ
              have y6 := y6 (xs.getD j 0) hxl
              have n4 := fun fl H => run_l20Leaf (es.getD (xs.getD j 0) evZ) fl H (hsh _ (by rw [getD_of hxl]; exact List.getElem_mem _))
              have hn3 : _ = s ++ padT col ++ leafT (es.getD (xs.getD j 0) evZ) ++ ⟨#[32, 58]⟩ := hn3
              have hsb1 : s.size + (padT col).size + (leafT (es.getD (xs.getD j 0) evZ)).size + (⟨#[32, 58]⟩ : ByteArray).size ≤ 13212057600000 := hsb1
              simp only [show (⟨#[32, 58]⟩ : ByteArray).size = 2 from rfl] at hsb1
              generalize leafT (es.getD (xs.getD j 0) evZ) = T at *
              generalize padT col = Pd at *
              unfold run evC at n4
              rw [zEv_round hc, ← hR]
              simp (config := {contextual := true, maxSteps := 10000000, implicitDefEqProofs := false}) (disch := first | (and_intros <;> omega -splitDisjunctions) | (simp only [List.length_set, List.length_append, List.length_cons, List.length_nil]; and_intros <;> omega -splitDisjunctions) | fail) only [t5, t6, s1, s2, cE, e4, n4, y6, hxl, w1, w2, w3, w4, w6, y0, y1, y2, y3, y4, y5, y6, Tryd.f60, go_sem, ↓reduceIte, Nat.reduceEqDiff, Nat.reduceAdd, Nat.reduceMul, Nat.reduceLT, Nat.reduceLeDiff, reduceCtorEq, Int.reduceNe, Int.reduceEq, Int.reduceLT, Int.reduceLE, Int.reduceAdd, Int.reduceSub, Int.reduceMul, Int.reduceNeg, Int.reduceToNat, UInt8.reduceToNat, natLit, ty3, ty4, ty9, ty39, ty65, ty67]
              rw [hR]
              exact ih (j + 1) ((j : Int) + 1) _ _ _ _ _ _ _ _ _ _ (by omega) (by omega) (by omega) hn3.symm
            · rw [if_neg hp] at hn3
              rw [hn3] at hsb1
              simp only [ByteArray.size_append] at hsb1
              rw [eq_false hp] at t6
              generalize blkT es d (xs.getD j 0) (col + 2) = T at *
              try unfold run at n3
              rw [zEv_round hc, ← hR]
              simp (config := {contextual := true, maxSteps := 10000000, implicitDefEqProofs := false}) (disch := first | (and_intros <;> omega -splitDisjunctions) | (simp only [List.length_set, List.length_append, List.length_cons, List.length_nil]; and_intros <;> omega -splitDisjunctions) | fail) only [t5, t6, s1, s2, cE, n3, w1, w2, w3, w4, w6, Tryd.f60, go_sem, ↓reduceIte, Nat.reduceEqDiff, Nat.reduceAdd, Nat.reduceMul, Nat.reduceLT, Nat.reduceLeDiff, reduceCtorEq, Int.reduceNe, Int.reduceEq, Int.reduceLT, Int.reduceLE, Int.reduceAdd, Int.reduceSub, Int.reduceMul, Int.reduceNeg, Int.reduceToNat, UInt8.reduceToNat, natLit, ty3, ty4, ty9, ty39, ty65, ty67]
              rw [hR]
              exact ih (j + 1) ((j : Int) + 1) _ _ _ _ _ _ _ _ _ _ (by omega) (by omega) (by omega) hn3.symm
        exact key (xs.length + 1) 0 0 _ _ _ _ _ _ _ _ _ _ (by omega) rfl (by omega) (by rw [List.take_zero]; show _ = headT ⟨#[]⟩; rw [hhd]; rw [if_pos rfl] <;> try rfl)
      · have hPs := hP0 hP
        unfold run evC at *
        simp only [h4] at g6 e3 e7 cE
        rw [Run_z Tryd.func60 rfl (by rfl : ok 60 = true) (by rfl : cfg.keep 60 = [0, 1, 2, 6, 7, 8, 9, 10, 11, 21, 30, 39, 40, 41, 42, 53, 68]) (by rfl : cfg.mode 60 = .pure) (by rfl : cfg.ord 60 = [])]
        simp (config := {contextual := true, maxSteps := 10000000, implicitDefEqProofs := false}) (disch := first | (and_intros <;> omega -splitDisjunctions) | (simp only [List.length_set, List.length_append, List.length_cons, List.length_nil]; and_intros <;> omega -splitDisjunctions) | fail) only [g6, e3, e7, cE, t9, hP, hPs, tP, w1, w2, w3, w4, f0, f1, f2, f3, f4, f5, f6, Tryd.f60, go_sem, ↓reduceIte, Nat.reduceEqDiff, Nat.reduceAdd, Nat.reduceMul, Nat.reduceLT, Nat.reduceLeDiff, reduceCtorEq, Int.reduceNe, Int.reduceEq, Int.reduceLT, Int.reduceLE, Int.reduceAdd, Int.reduceSub, Int.reduceMul, Int.reduceNeg, Int.reduceToNat, UInt8.reduceToNat, natLit, ty3, ty4, ty9, ty39, ty65, ty67]
        refine at_loopE fun c R hc hR => ?_
        have key : ∀ (m : Nat) (j : Nat) (jj : Int) (s : ByteArray) (x1 x6 x10 x11 x21 x30 x42 x53 x68 : Option V), xs.length - j < m → jj = j → j ≤ xs.length → s = blkL (fun x => blkT es d x (col + 2)) (flowT es es.length) true (padT col) 0 (xs.take j) (headT P) →
            zEv (leaveX (mkR Tryd.prog cfg ok [0, 1, 2, 6, 7, 8, 9, 10, 11, 21, 30, 39, 40, 41, 42, 53, 68] H.length) .pure H [ResultVar.tmp 6]) (mkR Tryd.prog cfg ok [0, 1, 2, 6, 7, 8, 9, 10, 11, 21, 30, 39, 40, 41, 42, 53, 68] H.length) (K.code (Code.loop c) :: K.blk 0 :: R) .nrm [some v, x1, some (.int .i64 col), x6, some (.ptr H.length 0), some w0, some (.str s), x10, x11, x21, x30, some w0, some (.int .i64 xs.length), some (.int .i64 jj), x42, x53, x68] (C) = some (.str Z, H) := by
          intro m
          induction m with
          | zero => intro j jj s x1 x6 x10 x11 x21 x30 x42 x53 x68 hm; omega
          | succ m ih =>
            intro j jj s x1 x6 x10 x11 x21 x30 x42 x53 x68 hm hj hjl hs
            subst hj
            have hsb := hbb true j
            rw [← hs] at hsb
            by_cases hlj : j < xs.length
            rotate_left
            · have t5 : ((j : Int) < xs.length) = False := eq_false (by omega)
              rw [List.take_of_length_le (by omega)] at hs
              rw [← hs] at hZ
              rw [zEv_round hc, ← hR]
              simp (config := {contextual := true, maxSteps := 10000000, implicitDefEqProofs := false}) (disch := first | (and_intros <;> omega -splitDisjunctions) | (simp only [List.length_set, List.length_append, List.length_cons, List.length_nil]; and_intros <;> omega -splitDisjunctions) | fail) only [t5, Tryd.f60, go_sem, ↓reduceIte, Nat.reduceEqDiff, Nat.reduceAdd, Nat.reduceMul, Nat.reduceLT, Nat.reduceLeDiff, reduceCtorEq, Int.reduceNe, Int.reduceEq, Int.reduceLT, Int.reduceLE, Int.reduceAdd, Int.reduceSub, Int.reduceMul, Int.reduceNeg, Int.reduceToNat, UInt8.reduceToNat, natLit, ty3, ty4, ty9, ty39, ty65, ty67]
              rw [← hZ]
            have t5 : ((j : Int) < xs.length) = True := eq_true (by omega)
            have hxi := hki (xs.getD j 0) (by rw [getD_of hlj]; exact List.getElem_mem _)
            have hxb := hbd (xs.getD j 0) (by rw [getD_of hlj]; exact List.getElem_mem _)
            have s1 := fun n K => aC.load1 0 (fun x => .int .i64 (x : Nat)) (fun _ => rfl) j hlj n K
            have s2 := aC.con (by omega)
            have n3 := fun fl => hIH (xs.getD j 0) C fl rC hxi.2.1 hxi.1 hxi.2.2
            have hn3 := blkL_take (fun x => blkT es d x (col + 2)) (flowT es es.length) true (padT col) xs 0 j (headT P) hlj
            rw [← hs, Nat.zero_add] at hn3
            have hsb1 := hbb true (j + 1)
            have hc2 : ((col + 2 : Nat) : Int) = (col : Int) + 2 := by omega
            rw [hc2] at n3
            simp only [if_true] at hn3
            have t6 := tmod2 j
            by_cases hp : j % 2 = 0
            · rw [if_pos hp] at hn3
              rw [hn3] at hsb1
              simp only [ByteArray.size_append] at hsb1
              rw [eq_true hp] at t6
              have hkl := hkey j hlj hp
              obtain ⟨en, hen⟩ : ∃ en, es.length = en + 1 := ⟨es.length - 1, by omega⟩
              have hfl : flowT es es.length (xs.getD j 0) = leafT (evA es (xs.getD j 0)) := by rw [hen]; exact flowT_leaf hkl
              rw [hfl] at hn3 hsb1
              have hxl := hxi.2.1
              have y1 := rC.isTup; have y2 := rC.len; have y3 := rC.lenOk ty39; have y0 := rC.one
              have y4 := fun hp => rC.con hp
              have y5 := rC.idx (T := ty Tryd.prog) (t := 39) (by simp only [elemI, sizeO, ty3, ty4, ty9, ty39, ty65])
              have y6 := rC.loadD evC_len evZ
              have y6 := y6 (xs.getD j 0) hxl
              have n4 := fun fl H => run_l20Leaf (es.getD (xs.getD j 0) evZ) fl H (hsh _ (by rw [getD_of hxl]; exact List.getElem_mem _))
              have hn3 : _ = s ++ padT col ++ leafT (es.getD (xs.getD j 0) evZ) ++ ⟨#[32, 58]⟩ := hn3
              have hsb1 : s.size + (padT col).size + (leafT (es.getD (xs.getD j 0) evZ)).size + (⟨#[32, 58]⟩ : ByteArray).size ≤ 13212057600000 := hsb1
              simp only [show (⟨#[32, 58]⟩ : ByteArray).size = 2 from rfl] at hsb1
              generalize leafT (es.getD (xs.getD j 0) evZ) = T at *
              generalize padT col = Pd at *
              unfold run evC at n4
              rw [zEv_round hc, ← hR]
              simp (config := {contextual := true, maxSteps := 10000000, implicitDefEqProofs := false}) (disch := first | (and_intros <;> omega -splitDisjunctions) | (simp only [List.length_set, List.length_append, List.length_cons, List.length_nil]; and_intros <;> omega -splitDisjunctions) | fail) only [t5, t6, s1, s2, cE, e4, n4, y6, hxl, w1, w2, w3, w4, w6, y0, y1, y2, y3, y4, y5, y6, Tryd.f60, go_sem, ↓reduceIte, Nat.reduceEqDiff, Nat.reduceAdd, Nat.reduceMul, Nat.reduceLT, Nat.reduceLeDiff, reduceCtorEq, Int.reduceNe, Int.reduceEq, Int.reduceLT, Int.reduceLE, Int.reduceAdd, Int.reduceSub, Int.reduceMul, Int.reduceNeg, Int.reduceToNat, UInt8.reduceToNat, natLit, ty3, ty4, ty9, ty39, ty65, ty67]
              rw [hR]
              exact ih (j + 1) ((j : Int) + 1) _ _ _ _ _ _ _ _ _ _ (by omega) (by omega) (by omega) hn3.symm
            · rw [if_neg hp] at hn3
              rw [hn3] at hsb1
              simp only [ByteArray.size_append] at hsb1
              rw [eq_false hp] at t6
              generalize blkT es d (xs.getD j 0) (col + 2) = T at *
              try unfold run at n3
              rw [zEv_round hc, ← hR]
              simp (config := {contextual := true, maxSteps := 10000000, implicitDefEqProofs := false}) (disch := first | (and_intros <;> omega -splitDisjunctions) | (simp only [List.length_set, List.length_append, List.length_cons, List.length_nil]; and_intros <;> omega -splitDisjunctions) | fail) only [t5, t6, s1, s2, cE, n3, w1, w2, w3, w4, w6, Tryd.f60, go_sem, ↓reduceIte, Nat.reduceEqDiff, Nat.reduceAdd, Nat.reduceMul, Nat.reduceLT, Nat.reduceLeDiff, reduceCtorEq, Int.reduceNe, Int.reduceEq, Int.reduceLT, Int.reduceLE, Int.reduceAdd, Int.reduceSub, Int.reduceMul, Int.reduceNeg, Int.reduceToNat, UInt8.reduceToNat, natLit, ty3, ty4, ty9, ty39, ty65, ty67]
              rw [hR]
              exact ih (j + 1) ((j : Int) + 1) _ _ _ _ _ _ _ _ _ _ (by omega) (by omega) (by omega) hn3.symm
        exact key (xs.length + 1) 0 0 _ _ _ _ _ _ _ _ _ _ (by omega) rfl (by omega) (by rw [List.take_zero]; show _ = headT P; rw [hhd]; rw [if_neg hP])
    · have h3 : (es.getD i evZ).kind = 3 := by omega
      have hZ : blkL (fun x => blkT es d x (col + 2)) (flowT es es.length) false (padT col) 0 xs (headT P) = Z := by
        rw [← hZ]; congr 1; exact (decide_eq_false (show ¬ kd es i ≠ 3 by rw [show kd es i = 3 from h3]; omega)).symm
      by_cases hP : P = ⟨#[]⟩
      · subst hP
        unfold run evC at *
        simp only [h3] at g6 e3 e7 cE
        rw [Run_z Tryd.func60 rfl (by rfl : ok 60 = true) (by rfl : cfg.keep 60 = [0, 1, 2, 6, 7, 8, 9, 10, 11, 21, 30, 39, 40, 41, 42, 53, 68]) (by rfl : cfg.mode 60 = .pure) (by rfl : cfg.ord 60 = [])]
        simp (config := {contextual := true, maxSteps := 10000000, implicitDefEqProofs := false}) (disch := first | (and_intros <;> omega -splitDisjunctions) | (simp only [List.length_set, List.length_append, List.length_cons, List.length_nil]; and_intros <;> omega -splitDisjunctions) | fail) only [g6, e3, e7, cE, t9, tP, w1, w2, w3, w4, f0, f1, f2, f3, f4, f5, f6, Tryd.f60, go_sem, ↓reduceIte, Nat.reduceEqDiff, Nat.reduceAdd, Nat.reduceMul, Nat.reduceLT, Nat.reduceLeDiff, reduceCtorEq, Int.reduceNe, Int.reduceEq, Int.reduceLT, Int.reduceLE, Int.reduceAdd, Int.reduceSub, Int.reduceMul, Int.reduceNeg, Int.reduceToNat, UInt8.reduceToNat, natLit, ty3, ty4, ty9, ty39, ty65, ty67]
        refine at_loopE fun c R hc hR => ?_
        have key : ∀ (m : Nat) (j : Nat) (jj : Int) (s : ByteArray) (x1 x6 x10 x11 x21 x30 x42 x53 x68 : Option V), xs.length - j < m → jj = j → j ≤ xs.length → s = blkL (fun x => blkT es d x (col + 2)) (flowT es es.length) false (padT col) 0 (xs.take j) (headT ⟨#[]⟩) →
            zEv (leaveX (mkR Tryd.prog cfg ok [0, 1, 2, 6, 7, 8, 9, 10, 11, 21, 30, 39, 40, 41, 42, 53, 68] H.length) .pure H [ResultVar.tmp 6]) (mkR Tryd.prog cfg ok [0, 1, 2, 6, 7, 8, 9, 10, 11, 21, 30, 39, 40, 41, 42, 53, 68] H.length) (K.code (Code.loop c) :: K.blk 0 :: R) .nrm [some v, x1, some (.int .i64 col), x6, some (.ptr H.length 0), some w0, some (.str s), x10, x11, x21, x30, some w0, some (.int .i64 xs.length), some (.int .i64 jj), x42, x53, x68] (C) = some (.str Z, H) := by
          intro m
          induction m with
          | zero => intro j jj s x1 x6 x10 x11 x21 x30 x42 x53 x68 hm; omega
          | succ m ih =>
            intro j jj s x1 x6 x10 x11 x21 x30 x42 x53 x68 hm hj hjl hs
            subst hj
            have hsb := hbb false j
            rw [← hs] at hsb
            by_cases hlj : j < xs.length
            rotate_left
            · have t5 : ((j : Int) < xs.length) = False := eq_false (by omega)
              rw [List.take_of_length_le (by omega)] at hs
              rw [← hs] at hZ
              rw [zEv_round hc, ← hR]
              simp (config := {contextual := true, maxSteps := 10000000, implicitDefEqProofs := false}) (disch := first | (and_intros <;> omega -splitDisjunctions) | (simp only [List.length_set, List.length_append, List.length_cons, List.length_nil]; and_intros <;> omega -splitDisjunctions) | fail) only [t5, Tryd.f60, go_sem, ↓reduceIte, Nat.reduceEqDiff, Nat.reduceAdd, Nat.reduceMul, Nat.reduceLT, Nat.reduceLeDiff, reduceCtorEq, Int.reduceNe, Int.reduceEq, Int.reduceLT, Int.reduceLE, Int.reduceAdd, Int.reduceSub, Int.reduceMul, Int.reduceNeg, Int.reduceToNat, UInt8.reduceToNat, natLit, ty3, ty4, ty9, ty39, ty65, ty67]
              rw [← hZ]
            have t5 : ((j : Int) < xs.length) = True := eq_true (by omega)
            have hxi := hki (xs.getD j 0) (by rw [getD_of hlj]; exact List.getElem_mem _)
            have hxb := hbd (xs.getD j 0) (by rw [getD_of hlj]; exact List.getElem_mem _)
            have s1 := fun n K => aC.load1 0 (fun x => .int .i64 (x : Nat)) (fun _ => rfl) j hlj n K
            have s2 := aC.con (by omega)
            have n3 := fun fl => hIH (xs.getD j 0) C fl rC hxi.2.1 hxi.1 hxi.2.2
            have hn3 := blkL_take (fun x => blkT es d x (col + 2)) (flowT es es.length) false (padT col) xs 0 j (headT ⟨#[]⟩) hlj
            rw [← hs, Nat.zero_add] at hn3
            have hsb1 := hbb false (j + 1)
            have hc2 : ((col + 2 : Nat) : Int) = (col : Int) + 2 := by omega
            rw [hc2] at n3
            simp only [Bool.false_eq_true, if_false] at hn3
            rw [hn3] at hsb1
            simp only [ByteArray.size_append, show (⟨#[45]⟩ : ByteArray).size = 1 from rfl] at hsb1
            generalize blkT es d (xs.getD j 0) (col + 2) = T at *
            generalize padT col = Pd at *
            try unfold run at n3
            rw [zEv_round hc, ← hR]
            simp (config := {contextual := true, maxSteps := 10000000, implicitDefEqProofs := false}) (disch := first | (and_intros <;> omega -splitDisjunctions) | (simp only [List.length_set, List.length_append, List.length_cons, List.length_nil]; and_intros <;> omega -splitDisjunctions) | fail) only [t5, s1, s2, cE, e4, n3, w1, w2, w3, w4, w6, Tryd.f60, go_sem, ↓reduceIte, Nat.reduceEqDiff, Nat.reduceAdd, Nat.reduceMul, Nat.reduceLT, Nat.reduceLeDiff, reduceCtorEq, Int.reduceNe, Int.reduceEq, Int.reduceLT, Int.reduceLE, Int.reduceAdd, Int.reduceSub, Int.reduceMul, Int.reduceNeg, Int.reduceToNat, UInt8.reduceToNat, natLit, ty3, ty4, ty9, ty39, ty65, ty67]
            rw [hR]
            exact ih (j + 1) ((j : Int) + 1) _ _ _ _ _ _ _ _ _ _ (by omega) (by omega) (by omega) hn3.symm
        exact key (xs.length + 1) 0 0 _ _ _ _ _ _ _ _ _ _ (by omega) rfl (by omega) (by rw [List.take_zero]; show _ = headT ⟨#[]⟩; rw [hhd]; rw [if_pos rfl] <;> try rfl)
      · have hPs := hP0 hP
        unfold run evC at *
        simp only [h3] at g6 e3 e7 cE
        rw [Run_z Tryd.func60 rfl (by rfl : ok 60 = true) (by rfl : cfg.keep 60 = [0, 1, 2, 6, 7, 8, 9, 10, 11, 21, 30, 39, 40, 41, 42, 53, 68]) (by rfl : cfg.mode 60 = .pure) (by rfl : cfg.ord 60 = [])]
        simp (config := {contextual := true, maxSteps := 10000000, implicitDefEqProofs := false}) (disch := first | (and_intros <;> omega -splitDisjunctions) | (simp only [List.length_set, List.length_append, List.length_cons, List.length_nil]; and_intros <;> omega -splitDisjunctions) | fail) only [g6, e3, e7, cE, t9, hP, hPs, tP, w1, w2, w3, w4, f0, f1, f2, f3, f4, f5, f6, Tryd.f60, go_sem, ↓reduceIte, Nat.reduceEqDiff, Nat.reduceAdd, Nat.reduceMul, Nat.reduceLT, Nat.reduceLeDiff, reduceCtorEq, Int.reduceNe, Int.reduceEq, Int.reduceLT, Int.reduceLE, Int.reduceAdd, Int.reduceSub, Int.reduceMul, Int.reduceNeg, Int.reduceToNat, UInt8.reduceToNat, natLit, ty3, ty4, ty9, ty39, ty65, ty67]
        refine at_loopE fun c R hc hR => ?_
        have key : ∀ (m : Nat) (j : Nat) (jj : Int) (s : ByteArray) (x1 x6 x10 x11 x21 x30 x42 x53 x68 : Option V), xs.length - j < m → jj = j → j ≤ xs.length → s = blkL (fun x => blkT es d x (col + 2)) (flowT es es.length) false (padT col) 0 (xs.take j) (headT P) →
            zEv (leaveX (mkR Tryd.prog cfg ok [0, 1, 2, 6, 7, 8, 9, 10, 11, 21, 30, 39, 40, 41, 42, 53, 68] H.length) .pure H [ResultVar.tmp 6]) (mkR Tryd.prog cfg ok [0, 1, 2, 6, 7, 8, 9, 10, 11, 21, 30, 39, 40, 41, 42, 53, 68] H.length) (K.code (Code.loop c) :: K.blk 0 :: R) .nrm [some v, x1, some (.int .i64 col), x6, some (.ptr H.length 0), some w0, some (.str s), x10, x11, x21, x30, some w0, some (.int .i64 xs.length), some (.int .i64 jj), x42, x53, x68] (C) = some (.str Z, H) := by
          intro m
          induction m with
          | zero => intro j jj s x1 x6 x10 x11 x21 x30 x42 x53 x68 hm; omega
          | succ m ih =>
            intro j jj s x1 x6 x10 x11 x21 x30 x42 x53 x68 hm hj hjl hs
            subst hj
            have hsb := hbb false j
            rw [← hs] at hsb
            by_cases hlj : j < xs.length
            rotate_left
            · have t5 : ((j : Int) < xs.length) = False := eq_false (by omega)
              rw [List.take_of_length_le (by omega)] at hs
              rw [← hs] at hZ
              rw [zEv_round hc, ← hR]
              simp (config := {contextual := true, maxSteps := 10000000, implicitDefEqProofs := false}) (disch := first | (and_intros <;> omega -splitDisjunctions) | (simp only [List.length_set, List.length_append, List.length_cons, List.length_nil]; and_intros <;> omega -splitDisjunctions) | fail) only [t5, Tryd.f60, go_sem, ↓reduceIte, Nat.reduceEqDiff, Nat.reduceAdd, Nat.reduceMul, Nat.reduceLT, Nat.reduceLeDiff, reduceCtorEq, Int.reduceNe, Int.reduceEq, Int.reduceLT, Int.reduceLE, Int.reduceAdd, Int.reduceSub, Int.reduceMul, Int.reduceNeg, Int.reduceToNat, UInt8.reduceToNat, natLit, ty3, ty4, ty9, ty39, ty65, ty67]
              rw [← hZ]
            have t5 : ((j : Int) < xs.length) = True := eq_true (by omega)
            have hxi := hki (xs.getD j 0) (by rw [getD_of hlj]; exact List.getElem_mem _)
            have hxb := hbd (xs.getD j 0) (by rw [getD_of hlj]; exact List.getElem_mem _)
            have s1 := fun n K => aC.load1 0 (fun x => .int .i64 (x : Nat)) (fun _ => rfl) j hlj n K
            have s2 := aC.con (by omega)
            have n3 := fun fl => hIH (xs.getD j 0) C fl rC hxi.2.1 hxi.1 hxi.2.2
            have hn3 := blkL_take (fun x => blkT es d x (col + 2)) (flowT es es.length) false (padT col) xs 0 j (headT P) hlj
            rw [← hs, Nat.zero_add] at hn3
            have hsb1 := hbb false (j + 1)
            have hc2 : ((col + 2 : Nat) : Int) = (col : Int) + 2 := by omega
            rw [hc2] at n3
            simp only [Bool.false_eq_true, if_false] at hn3
            rw [hn3] at hsb1
            simp only [ByteArray.size_append, show (⟨#[45]⟩ : ByteArray).size = 1 from rfl] at hsb1
            generalize blkT es d (xs.getD j 0) (col + 2) = T at *
            generalize padT col = Pd at *
            try unfold run at n3
            rw [zEv_round hc, ← hR]
            simp (config := {contextual := true, maxSteps := 10000000, implicitDefEqProofs := false}) (disch := first | (and_intros <;> omega -splitDisjunctions) | (simp only [List.length_set, List.length_append, List.length_cons, List.length_nil]; and_intros <;> omega -splitDisjunctions) | fail) only [t5, s1, s2, cE, e4, n3, w1, w2, w3, w4, w6, Tryd.f60, go_sem, ↓reduceIte, Nat.reduceEqDiff, Nat.reduceAdd, Nat.reduceMul, Nat.reduceLT, Nat.reduceLeDiff, reduceCtorEq, Int.reduceNe, Int.reduceEq, Int.reduceLT, Int.reduceLE, Int.reduceAdd, Int.reduceSub, Int.reduceMul, Int.reduceNeg, Int.reduceToNat, UInt8.reduceToNat, natLit, ty3, ty4, ty9, ty39, ty65, ty67]
            rw [hR]
            exact ih (j + 1) ((j : Int) + 1) _ _ _ _ _ _ _ _ _ _ (by omega) (by omega) (by omega) hn3.symm
        exact key (xs.length + 1) 0 0 _ _ _ _ _ _ _ _ _ _ (by omega) rfl (by omega) (by rw [List.take_zero]; show _ = headT P; rw [hhd]; rw [if_neg hP])
end Go.Proofs.YtcbjmggbbnpbpaaDoor.Lg
