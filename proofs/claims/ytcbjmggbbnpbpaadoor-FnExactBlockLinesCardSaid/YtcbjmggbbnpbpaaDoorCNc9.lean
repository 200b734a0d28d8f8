/- CanWrite in the program. No condition. -/
import Derived.Test.YtcbjmggbbnpbpaaDoorCNcC
namespace Go.Proofs.YtcbjmggbbnpbpaaDoor.Lg
set_option linter.unusedSimpArgs false
set_option linter.unusedVariables false
set_option maxRecDepth 100000
set_option maxHeartbeats 40000000
open Go.Proofs.YtcbjmggbbnpbpaaDoor

theorem tmod2 (j : Nat) : ((j : Int).tmod 2 = 0) = (j % 2 = 0) := by
  rw [Int.tmod_eq_emod_of_nonneg (by omega)]
  apply propext; omega
theorem run_imCanWrite {v : V} {es : List Ev} {H : LH} (h : At H evC 8 v es) (hes : ∀ e ∈ es, evCFit e) (hl : es.length ≤ 1048576) (hcap : capOk v) (ht : ∀ e ∈ es, e.text.size ≤ 16777216) (fl : Nat) :
    run 17 [v] fl H = some (.bool (cwM es), H) := by
  have n2 := fun fl => run_imWhole h hes hl hcap fl
  have i1 := h.isTup; have i2 := h.len; have i3 := h.lenOk ty39; have i4 := h.one
  obtain ⟨Z, hZ⟩ : ∃ Z, cwM es = Z := ⟨_, rfl⟩
  rw [hZ]
  unfold cwM at hZ
  by_cases hn : wholeM es = true
  rotate_left
  · have hn : wholeM es = false := by simpa using hn
    rw [hn] at n2 hZ
    unfold run at *
    rw [Run_z Tryd.func17 rfl (by rfl : ok 17 = true) (by rfl : cfg.keep 17 = [0, 2, 3, 4, 5, 6, 7, 8, 9, 12, 18, 19, 20, 21, 31, 49, 52, 55, 56, 57, 58, 71]) (by rfl : cfg.mode 17 = .pure) (by rfl : cfg.ord 17 = [])]
    simp (config := {contextual := true, maxSteps := 10000000, implicitDefEqProofs := false}) (disch := first | (and_intros <;> omega -splitDisjunctions) | (simp only [List.length_set, List.length_append, List.length_cons, List.length_nil]; and_intros <;> omega -splitDisjunctions) | fail) only [n2, i1, Tryd.f17, go_sem, ↓reduceIte, Nat.reduceEqDiff, Nat.reduceAdd, Nat.reduceMul, Nat.reduceLT, Nat.reduceLeDiff, reduceCtorEq, Int.reduceNe, Int.reduceEq, Int.reduceLT, Int.reduceLE, Int.reduceAdd, Int.reduceSub, Int.reduceMul, Int.reduceNeg, Int.reduceToNat, UInt8.reduceToNat, natLit, ty3, ty4, ty9, ty39, ty65, ty67, ty71]
    rw [← hZ]; rfl
  rw [hn, Bool.true_and] at hZ
  rw [hn] at n2
  have hn2 : nestedM es = true := by
    unfold wholeM tiedM at hn
    simp only [Bool.and_eq_true] at hn
    exact hn.1.1
  have hB := nestedM_bal hn2
  obtain ⟨w, G, e1, hxG, ve, vu, vd, rfl, hE, hU, hD⟩ := run_nestOf h hl hB H.length
  have hN : NsAt G v ve vu vd es := ⟨h.ext hxG, hE.at (fun x => rfl), hU.at (fun x => rfl), hD.at (fun x => rfl)⟩
  have j1 := hN.e.one; have j2 := hN.u.one; have j3 := hN.d.one
  have j4 := hN.e.isTup; have j5 := hN.u.isTup; have j6 := hN.d.isTup
  have hlG := hxG.len
  unfold run at *
  rw [Run_z Tryd.func17 rfl (by rfl : ok 17 = true) (by rfl : cfg.keep 17 = [0, 2, 3, 4, 5, 6, 7, 8, 9, 12, 18, 19, 20, 21, 31, 49, 52, 55, 56, 57, 58, 71]) (by rfl : cfg.mode 17 = .pure) (by rfl : cfg.ord 17 = [])]
  simp (config := {contextual := true, maxSteps := 10000000, implicitDefEqProofs := false}) (disch := first | (and_intros <;> omega -splitDisjunctions) | (simp only [List.length_set, List.length_append, List.length_cons, List.length_nil]; and_intros <;> omega -splitDisjunctions) | fail) only [n2, i1, i2, i3, i4, e1, j1, j2, j3, j4, j5, j6, Tryd.f17, go_sem, ↓reduceIte, Nat.reduceEqDiff, Nat.reduceAdd, Nat.reduceMul, Nat.reduceLT, Nat.reduceLeDiff, reduceCtorEq, Int.reduceNe, Int.reduceEq, Int.reduceLT, Int.reduceLE, Int.reduceAdd, Int.reduceSub, Int.reduceMul, Int.reduceNeg, Int.reduceToNat, UInt8.reduceToNat, natLit, ty3, ty4, ty9, ty39, ty65, ty67, ty71]
  rw [ints_rep]
  refine at_loopE fun c R hc hR => ?_
  have key : ∀ (m : Nat) (k : Nat) (kk : Int) (B : LH) (D : List Int) (x2 x5 x6 x7 x8 x9 x12 x21 x31 x49 x52 x55 x56 x57 x58 x71 : Option V), es.length - k < m → kk = k → k ≤ es.length → Hx G B → B.cellsAt G.length = some [v, ve, vu, vd] → B.cellsAt (G.length + 1) = some (ints D) → Upto D es.length k (fun i => ((stk es i).length : Int)) → (∀ m, k ≤ m → m < es.length → D.getD m 0 = 0) → ((List.range es.length).drop k).all (cwI es) = Z →
      zEv (leaveX (mkR Tryd.prog cfg ok [0, 2, 3, 4, 5, 6, 7, 8, 9, 12, 18, 19, 20, 21, 31, 49, 52, 55, 56, 57, 58, 71] H.length) .pure H [ResultVar.tmp 2]) (mkR Tryd.prog cfg ok [0, 2, 3, 4, 5, 6, 7, 8, 9, 12, 18, 19, 20, 21, 31, 49, 52, 55, 56, 57, 58, 71] H.length) (K.code (Code.loop c) :: K.blk 0 :: R) .nrm [some v, x2, some (.ptr G.length 0), some (.sl (G.length + 1) 0 1 es.length es.length), x5, x6, x7, x8, x9, x12, some v, some (.int .i64 es.length), some (.int .i64 kk), x21, x31, x49, x52, x55, x56, x57, x58, x71] (B) = some (.bool Z, H) := by
    intro m
    induction m with
    | zero => intro k kk B D x2 x5 x6 x7 x8 x9 x12 x21 x31 x49 x52 x55 x56 x57 x58 x71 hm; omega
    | succ m ih =>
      intro k kk B D x2 x5 x6 x7 x8 x9 x12 x21 x31 x49 x52 x55 x56 x57 x58 x71 hm hk hkl hx c3 cD hDu hd0 hz
      subst hk
      have hlB := hx.len
      by_cases hlt : k < es.length
      rotate_left
      · have t1 : ((k : Int) < es.length) = False := eq_false (by omega)
        rw [range_end (by omega)] at hz
        rw [zEv_round hc, ← hR]
        simp (config := {contextual := true, maxSteps := 10000000, implicitDefEqProofs := false}) (disch := first | (and_intros <;> omega -splitDisjunctions) | (simp only [List.length_set, List.length_append, List.length_cons, List.length_nil]; and_intros <;> omega -splitDisjunctions) | fail) only [t1, Tryd.f17, go_sem, ↓reduceIte, Nat.reduceEqDiff, Nat.reduceAdd, Nat.reduceMul, Nat.reduceLT, Nat.reduceLeDiff, reduceCtorEq, Int.reduceNe, Int.reduceEq, Int.reduceLT, Int.reduceLE, Int.reduceAdd, Int.reduceSub, Int.reduceMul, Int.reduceNeg, Int.reduceToNat, UInt8.reduceToNat, natLit, ty3, ty4, ty9, ty39, ty65, ty67, ty71]
        rw [← hz]; rfl
      have t1 : ((k : Int) < es.length) = True := eq_true (by omega)
      have rN := hN.ext hx
      have rB := rN.l
      have f1 := rB.isTup; have f2 := rB.len; have f3 := rB.lenOk ty39; have f0 := rB.one
      have f4 := fun hp => rB.con hp
      have f5 := rB.idx (T := ty Tryd.prog) (t := 39) (by simp only [elemI, sizeO, ty3, ty4, ty9, ty39, ty65])
      have f6 := rB.loadD evC_len evZ
      have g6 := f6 k hlt
      have hfe := hes _ (show es.getD k evZ ∈ es by rw [getD_of hlt]; exact List.getElem_mem _)
      have hft := ht _ (show es.getD k evZ ∈ es by rw [getD_of hlt]; exact List.getElem_mem _)
      have n1 := fun fl H => run_writable (es.getD k evZ) fl H hfe hft
      have hDl := cellsAt_lt cD
      have lD2 : ∀ i x, (ints (D.set i x)).length = es.length := fun i x => by rw [ints_len, List.length_set, hDu.1]
      have lD : (ints D).length = es.length := by rw [ints_len, hDu.1]
      have u1 : ∀ n L K, cellO K false (offV vu + k) n (some (conV (B ++ L) vu)) = some (.int .i64 (upF es k), K) := fun n L K => by
        have := (rN.ext (Hx.app (L := L))).u.load1 0 (fun x => .int .i64 x) (fun _ => rfl) k (by simpa using hlt) n K
        rwa [rangeD hlt] at this
      have u2 := fun L => (rN.ext (Hx.app (L := L))).u.con (by simp; omega)
      have u3 := rN.u.isTup; have u4 := rN.u.len; have u5 := rN.u.one; have u6 := rN.u.idx (T := ty Tryd.prog) (t := 67) (by simp only [elemI, sizeO, ty3, ty67])
      simp only [List.length_map, List.length_range] at u4 u6
      have c3E : ∀ L, LH.cellsAt (B ++ L) G.length = some [v, ve, vu, vd] := fun L => cellsAt_left c3
      have cDE : ∀ L, LH.cellsAt (B ++ L) (G.length + 1) = some (ints D) := fun L => cellsAt_left cD
      have c3S : ∀ x L, LH.cellsAt (B.set (G.length + 1) x ++ L) G.length = some [v, ve, vu, vd] := fun x L => cellsAt_left (by rw [cellsAt_set_ne (by omega)]; exact c3)
      have cDS : ∀ x L, LH.cellsAt (B.set (G.length + 1) (.cells x) ++ L) (G.length + 1) = some x := fun x L => cellsAt_left (cellsAt_set hDl)
      have q2 : ∀ x L, LH.cellsAt (B.set (G.length + 1) x ++ L) B.length = LH.cellsAt L 0 := fun x L => cellsAt_at (by simp only [List.length_set])
      have hxS : ∀ x L, Hx G (B.set (G.length + 1) x ++ L) := fun x L => (hx.set (by omega)).trans Hx.app
      have dk : ∀ m, m < es.length → (ints D)[m]? = some (.int .i64 (D.getD m 0)) := fun m hm => by
        have := ints_get (l := D) (i := m) (by rw [hDu.1]; exact hm) []
        rwa [List.append_nil] at this
      rw [range_drop hlt, List.all_cons] at hz
      have hup : upF es k = if stk es k = [] then -1 else (((stk es k).getD ((stk es k).length - 1) 0 : Nat) : Int) := upF_stk es hB (by omega)
      have hkey : ∀ x, x = (((stk es k).length : Nat) : Int) → Upto (D.set k x) es.length (k + 1) (fun i => ((stk es i).length : Int)) := fun x hx => hDu.set hlt hlt hx.symm (fun m h1 h2 => ⟨by omega, rfl⟩)
      have hkey0 : ∀ x m, k + 1 ≤ m → m < es.length → (D.set k x).getD m 0 = 0 := fun x m h1 h2 => by
        rw [List.getD_eq_getElem?_getD, List.getElem?_set_ne (by omega), ← List.getD_eq_getElem?_getD]; exact hd0 m (by omega) h2
      have hslen := stk_len es k
      by_cases hne : stk es k = []
      · rw [if_pos hne] at hup
        rw [hup] at u1
        have hD0 := hd0 k (Nat.le_refl _) hlt
        have hDs : D.set k 0 = D := by
          apply List.ext_getElem?
          intro i
          rw [List.getElem?_set]
          by_cases e : k = i
          · subst e
            have hl1 : k < D.length := by rw [hDu.1]; exact hlt
            rw [if_pos rfl, if_pos hl1, List.getElem?_eq_getElem hl1]
            rw [getD_of hl1] at hD0
            rw [hD0]
          · rw [if_neg e]
        have nD := hkey 0 (by rw [hne]; rfl)
        have nD0 := hkey0 0
        rw [hDs] at nD nD0
        have dk := dk k hlt
        rw [hD0] at dk
        have hlen0 : (stk es k).length = 0 := by rw [hne]; rfl
        by_cases hw : wrE (es.getD k evZ) = true
        rotate_left
        · have hw : wrE (es.getD k evZ) = false := by simpa using hw
          have hcw : cwI es k = false := by unfold cwI; rw [show wrE (evA es k) = false from hw]; rfl
          rw [hcw, Bool.false_and] at hz
          rw [hw] at n1
          unfold run evC at *
          rw [zEv_round hc, ← hR]
          simp (config := {contextual := true, maxSteps := 10000000, implicitDefEqProofs := false}) (disch := first | (and_intros <;> omega -splitDisjunctions) | (simp only [List.length_set, List.length_append, List.length_cons, List.length_nil]; and_intros <;> omega -splitDisjunctions) | fail) only [t1, g6, n1, u1, u2, u3, u4, u5, u6, c3E, cDE, dk, lD, f0, f1, f2, f3, f4, f5, f6, Tryd.f17, go_sem, ↓reduceIte, Nat.reduceEqDiff, Nat.reduceAdd, Nat.reduceMul, Nat.reduceLT, Nat.reduceLeDiff, reduceCtorEq, Int.reduceNe, Int.reduceEq, Int.reduceLT, Int.reduceLE, Int.reduceAdd, Int.reduceSub, Int.reduceMul, Int.reduceNeg, Int.reduceToNat, UInt8.reduceToNat, natLit, ty3, ty4, ty9, ty39, ty65, ty67, ty71]
          rw [← hz]
        rw [hw] at n1
        by_cases h4 : (es.getD k evZ).kind = 4
        rotate_left
        · have hcw : cwI es k = true := by
            unfold cwI keysB
            rw [show wrE (evA es k) = true from hw, decide_eq_false (show ¬ kd es k = 4 from h4), hlen0]; rfl
          rw [hcw, Bool.true_and] at hz
          unfold run evC at *
          rw [zEv_round hc, ← hR]
          simp (config := {contextual := true, maxSteps := 10000000, implicitDefEqProofs := false}) (disch := first | (and_intros <;> omega -splitDisjunctions) | (simp only [List.length_set, List.length_append, List.length_cons, List.length_nil]; and_intros <;> omega -splitDisjunctions) | fail) only [t1, h4, g6, n1, u1, u2, u3, u4, u5, u6, c3E, cDE, dk, lD, f0, f1, f2, f3, f4, f5, f6, Tryd.f17, go_sem, ↓reduceIte, Nat.reduceEqDiff, Nat.reduceAdd, Nat.reduceMul, Nat.reduceLT, Nat.reduceLeDiff, reduceCtorEq, Int.reduceNe, Int.reduceEq, Int.reduceLT, Int.reduceLE, Int.reduceAdd, Int.reduceSub, Int.reduceMul, Int.reduceNeg, Int.reduceToNat, UInt8.reduceToNat, natLit, ty3, ty4, ty9, ty39, ty65, ty67, ty71]
          rw [hR]
          exact ih (k + 1) ((k : Int) + 1) _ D _ _ _ _ _ _ _ _ _ _ _ _ _ _ _ _ (by omega) (by omega) (by omega) (hx.trans Hx.app) (c3E _) (cDE _) nD nD0 hz
        have hxX : Hx G (B ++ [.cells (evC (es.getD k evZ))]) := hx.trans Hx.app
        obtain ⟨w0, C, e7, xC, oC⟩ := run_kidsOf (hN.ext hxX) hl hlt H.length
        have hxC : Hx G C := hxX.trans xC
        have c3C : LH.cellsAt C G.length = some [v, ve, vu, vd] := xC.cells (c3E _)
        have cDC : LH.cellsAt C (G.length + 1) = some (ints D) := xC.cells (cDE _)
        have hki := kidsF_in es hlt
        have hkl2 := kidsF_len es hlt
        have hkz : (keyG es 0 (kidsF es k) && ((List.range es.length).drop (k + 1)).all (cwI es)) = Z := by
          rw [← hz]
          unfold cwI keysB
          rw [show wrE (evA es k) = true from hw, decide_eq_true (show kd es k = 4 from h4), hlen0]; rfl
        generalize kidsF es k = xs at *
        have aC := oC.at inN_len
        have w1 := aC.isTup; have w2 := aC.len; have w3 := aC.lenOk ty67; have w4 := aC.one
        have w6 := aC.idx (T := ty Tryd.prog) (t := 67) (by simp only [elemI, sizeO, ty3, ty67])
        unfold run evC at *
        simp only [h4] at n1 g6 e7
        rw [zEv_round hc, ← hR]
        simp (config := {contextual := true, maxSteps := 10000000, implicitDefEqProofs := false}) (disch := first | (and_intros <;> omega -splitDisjunctions) | (simp only [List.length_set, List.length_append, List.length_cons, List.length_nil]; and_intros <;> omega -splitDisjunctions) | fail) only [t1, g6, n1, e7, w1, w2, w3, w4, u1, u2, u3, u4, u5, u6, c3E, cDE, dk, lD, f0, f1, f2, f3, f4, f5, f6, Tryd.f17, go_sem, ↓reduceIte, Nat.reduceEqDiff, Nat.reduceAdd, Nat.reduceMul, Nat.reduceLT, Nat.reduceLeDiff, reduceCtorEq, Int.reduceNe, Int.reduceEq, Int.reduceLT, Int.reduceLE, Int.reduceAdd, Int.reduceSub, Int.reduceMul, Int.reduceNeg, Int.reduceToNat, UInt8.reduceToNat, natLit, ty3, ty4, ty9, ty39, ty65, ty67, ty71]
        rw [hR]
        refine at_loopE fun c5 R5 hc5 hR5 => ?_
        have key5 : ∀ (m : Nat) (j : Nat) (jj : Int) (x2 x5 x6 x7 x8 x9 x12 x21 x31 x49 x52 x58 x71 : Option V), xs.length - j < m → jj = j → j ≤ xs.length → (keyG es j (xs.drop j) && ((List.range es.length).drop (k + 1)).all (cwI es)) = Z →
            zEv (leaveX (mkR Tryd.prog cfg ok [0, 2, 3, 4, 5, 6, 7, 8, 9, 12, 18, 19, 20, 21, 31, 49, 52, 55, 56, 57, 58, 71] H.length) .pure H [ResultVar.tmp 2]) (mkR Tryd.prog cfg ok [0, 2, 3, 4, 5, 6, 7, 8, 9, 12, 18, 19, 20, 21, 31, 49, 52, 55, 56, 57, 58, 71] H.length) (K.code (Code.loop c5) :: K.blk 2 :: R5) .nrm [some v, x2, some (.ptr G.length 0), some (.sl (G.length + 1) 0 1 es.length es.length), x5, x6, x7, x8, x9, x12, some v, some (.int .i64 es.length), some (.int .i64 k), x21, x31, x49, x52, some w0, some (.int .i64 xs.length), some (.int .i64 jj), x58, x71] (C) = some (.bool Z, H) := by
          intro m
          induction m with
          | zero => intro j jj x2 x5 x6 x7 x8 x9 x12 x21 x31 x49 x52 x58 x71 hm; omega
          | succ m ih5 =>
            intro j jj x2 x5 x6 x7 x8 x9 x12 x21 x31 x49 x52 x58 x71 hm hj hjl hzz
            subst hj
            by_cases hlj : j < xs.length
            rotate_left
            · have t5 : ((j : Int) < xs.length) = False := eq_false (by omega)
              rw [keyG_end (by omega), Bool.true_and] at hzz
              rw [zEv_round hc5, ← hR5]
              simp (config := {contextual := true, maxSteps := 10000000, implicitDefEqProofs := false}) (disch := first | (and_intros <;> omega -splitDisjunctions) | (simp only [List.length_set, List.length_append, List.length_cons, List.length_nil]; and_intros <;> omega -splitDisjunctions) | fail) only [t5, Tryd.f17, go_sem, ↓reduceIte, Nat.reduceEqDiff, Nat.reduceAdd, Nat.reduceMul, Nat.reduceLT, Nat.reduceLeDiff, reduceCtorEq, Int.reduceNe, Int.reduceEq, Int.reduceLT, Int.reduceLE, Int.reduceAdd, Int.reduceSub, Int.reduceMul, Int.reduceNeg, Int.reduceToNat, UInt8.reduceToNat, natLit, ty3, ty4, ty9, ty39, ty65, ty67, ty71]
              exact ih (k + 1) ((k : Int) + 1) C D _ _ _ _ _ _ _ _ _ _ _ _ _ _ _ _ (by omega) (by omega) (by omega) hxC c3C cDC nD nD0 hzz
            have t5 : ((j : Int) < xs.length) = True := eq_true (by omega)
            have hxi := hki (xs.getD j 0) (by rw [getD_of hlj]; exact List.getElem_mem _)
            have rC := hN.ext hxC
            have rBC := rC.l
            have y1 := rBC.isTup; have y2 := rBC.len; have y3 := rBC.lenOk ty39; have y0 := rBC.one
            have y4 := fun hp => rBC.con hp
            have y5 := rBC.idx (T := ty Tryd.prog) (t := 39) (by simp only [elemI, sizeO, ty3, ty4, ty9, ty39, ty65])
            have y6 := rBC.loadD evC_len evZ
            have y6 := y6 (xs.getD j 0) hxi.2.1
            have s1 := fun n K => aC.load1 0 (fun x => .int .i64 (x : Nat)) (fun _ => rfl) j hlj n K
            have s2 := aC.con (by omega)
            have n3 := fun fl H => run_isColl (es.getD (xs.getD j 0) evZ) fl H
            have hxl := hxi.2.1
            rw [keyG_drop hlj] at hzz
            have t6 := tmod2 j
            by_cases hp : j % 2 = 0
            · rw [eq_true hp] at t6
              rw [decide_eq_true hp, Bool.true_and] at hzz
              unfold run at n3
              rw [zEv_round hc5, ← hR5]
              simp (config := {contextual := true, maxSteps := 10000000, implicitDefEqProofs := false}) (disch := first | (and_intros <;> omega -splitDisjunctions) | (simp only [List.length_set, List.length_append, List.length_cons, List.length_nil]; and_intros <;> omega -splitDisjunctions) | fail) only [t5, t6, s1, s2, y6, n3, w1, w2, w3, w4, w6, hxl, y0, y1, y2, y3, y4, y5, y6, Tryd.f17, go_sem, ↓reduceIte, Nat.reduceEqDiff, Nat.reduceAdd, Nat.reduceMul, Nat.reduceLT, Nat.reduceLeDiff, reduceCtorEq, Int.reduceNe, Int.reduceEq, Int.reduceLT, Int.reduceLE, Int.reduceAdd, Int.reduceSub, Int.reduceMul, Int.reduceNeg, Int.reduceToNat, UInt8.reduceToNat, natLit, ty3, ty4, ty9, ty39, ty65, ty67, ty71]
              rw [hR5]
              refine ite_E (fun w => ?_) (fun w => ?_)
              · rw [decide_eq_true (show isC (evA es (xs.getD j 0)) from w)] at hzz
                rw [← hR]
                simp (config := {contextual := true, maxSteps := 10000000, implicitDefEqProofs := false}) (disch := first | (and_intros <;> omega -splitDisjunctions) | (simp only [List.length_set, List.length_append, List.length_cons, List.length_nil]; and_intros <;> omega -splitDisjunctions) | fail) only [Tryd.f17, go_sem, ↓reduceIte, Nat.reduceEqDiff, Nat.reduceAdd, Nat.reduceMul, Nat.reduceLT, Nat.reduceLeDiff, reduceCtorEq, Int.reduceNe, Int.reduceEq, Int.reduceLT, Int.reduceLE, Int.reduceAdd, Int.reduceSub, Int.reduceMul, Int.reduceNeg, Int.reduceToNat, UInt8.reduceToNat, natLit, ty3, ty4, ty9, ty39, ty65, ty67, ty71]
                rw [← hzz]; rfl
              · rw [decide_eq_false (show ¬ isC (evA es (xs.getD j 0)) from w)] at hzz
                exact ih5 (j + 1) ((j : Int) + 1) _ _ _ _ _ _ _ _ _ _ _ _ _ (by omega) (by omega) (by omega) hzz
            · rw [eq_false hp] at t6
              rw [decide_eq_false hp, Bool.false_and] at hzz
              rw [zEv_round hc5, ← hR5]
              simp (config := {contextual := true, maxSteps := 10000000, implicitDefEqProofs := false}) (disch := first | (and_intros <;> omega -splitDisjunctions) | (simp only [List.length_set, List.length_append, List.length_cons, List.length_nil]; and_intros <;> omega -splitDisjunctions) | fail) only [t5, t6, s1, s2, y6, w1, w2, w3, w4, w6, hxl, y0, y1, y2, y3, y4, y5, y6, Tryd.f17, go_sem, ↓reduceIte, Nat.reduceEqDiff, Nat.reduceAdd, Nat.reduceMul, Nat.reduceLT, Nat.reduceLeDiff, reduceCtorEq, Int.reduceNe, Int.reduceEq, Int.reduceLT, Int.reduceLE, Int.reduceAdd, Int.reduceSub, Int.reduceMul, Int.reduceNeg, Int.reduceToNat, UInt8.reduceToNat, natLit, ty3, ty4, ty9, ty39, ty65, ty67, ty71]
              rw [hR5]
              exact ih5 (j + 1) ((j : Int) + 1) _ _ _ _ _ _ _ _ _ _ _ _ _ (by omega) (by omega) (by omega) hzz
        exact key5 (xs.length + 1) 0 0 _ _ _ _ _ _ _ _ _ _ _ _ _ (by omega) rfl (by omega) (by rw [List.drop_zero]; exact hkz)
      · rw [if_neg hne] at hup
        have hp := List.length_pos_iff.2 hne
        have hT := stk_lt es k ((stk es k).getD ((stk es k).length - 1) 0) (by rw [getD_of (by omega)]; exact List.getElem_mem _)
        have hTl := stk_top es k ((stk es k).length - 1) (by omega)
        generalize (stk es k).getD ((stk es k).length - 1) 0 = T at *
        rw [hup] at u1
        have hDT := hDu.2 T hT
        simp only [hTl] at hDT
        have dk := dk T (by omega)
        rw [hDT] at dk
        have hTn : (T : Int) < es.length := by omega
        have hz1 : ((((stk es k).length - 1 : Nat) : Int) + 1) = ((stk es k).length : Int) := by omega
        have hkn : k + 1 ≤ es.length := by omega
        have nD := hkey ((stk es k).length : Int) rfl
        have nD0 := hkey0 ((stk es k).length : Int)
        have dk2 : (ints (D.set k ((stk es k).length : Int)))[k]? = some (.int .i64 ((stk es k).length : Int)) := by
          have hl1 : k < (D.set k ((stk es k).length : Int)).length := by rw [List.length_set, hDu.1]; exact hlt
          have := ints_get hl1 []
          rw [List.append_nil] at this
          rw [this, List.getD_eq_getElem?_getD, List.getElem?_set_self (by rw [hDu.1]; exact hlt)]; rfl
        have hsl2 : (stk es k).length ≤ 1048576 := by omega
        generalize hlS : (stk es k).length = sl at *
        have tT : ((T : Int) ≥ 0) = True := eq_true (by omega)
        by_cases hw : wrE (es.getD k evZ) = true
        rotate_left
        · have hw : wrE (es.getD k evZ) = false := by simpa using hw
          have hcw : cwI es k = false := by unfold cwI; rw [show wrE (evA es k) = false from hw]; rfl
          rw [hcw, Bool.false_and] at hz
          rw [hw] at n1
          unfold run evC at *
          rw [zEv_round hc, ← hR]
          simp (config := {contextual := true, maxSteps := 10000000, implicitDefEqProofs := false}) (disch := first | (and_intros <;> omega -splitDisjunctions) | (simp only [List.length_set, List.length_append, List.length_cons, List.length_nil]; and_intros <;> omega -splitDisjunctions) | fail) only [t1, g6, n1, u1, u2, u3, u4, u5, u6, c3E, cDE, c3S, cDS, q2, dk, dk2, lD, lD2, hz1, hTn, tT, ints_set, List.set_set, f0, f1, f2, f3, f4, f5, f6, cellsAt_set, cellsAt_set_ne, cellsAt_old, set_old, Tryd.f17, go_sem, ↓reduceIte, Nat.reduceEqDiff, Nat.reduceAdd, Nat.reduceMul, Nat.reduceLT, Nat.reduceLeDiff, reduceCtorEq, Int.reduceNe, Int.reduceEq, Int.reduceLT, Int.reduceLE, Int.reduceAdd, Int.reduceSub, Int.reduceMul, Int.reduceNeg, Int.reduceToNat, UInt8.reduceToNat, natLit, ty3, ty4, ty9, ty39, ty65, ty67, ty71]
          rw [← hz]
        rw [hw] at n1
        by_cases hd40 : sl ≤ 40
        rotate_left
        · have hcw : cwI es k = false := by unfold cwI; rw [hlS, decide_eq_false hd40, Bool.and_false, Bool.false_and]
          rw [hcw, Bool.false_and] at hz
          have t7 : ((sl : Int) > 40) = True := eq_true (by omega)
          unfold run evC at *
          rw [zEv_round hc, ← hR]
          simp (config := {contextual := true, maxSteps := 10000000, implicitDefEqProofs := false}) (disch := first | (and_intros <;> omega -splitDisjunctions) | (simp only [List.length_set, List.length_append, List.length_cons, List.length_nil]; and_intros <;> omega -splitDisjunctions) | fail) only [t1, t7, g6, n1, u1, u2, u3, u4, u5, u6, c3E, cDE, c3S, cDS, q2, dk, dk2, lD, lD2, hz1, hTn, tT, ints_set, List.set_set, f0, f1, f2, f3, f4, f5, f6, cellsAt_set, cellsAt_set_ne, cellsAt_old, set_old, Tryd.f17, go_sem, ↓reduceIte, Nat.reduceEqDiff, Nat.reduceAdd, Nat.reduceMul, Nat.reduceLT, Nat.reduceLeDiff, reduceCtorEq, Int.reduceNe, Int.reduceEq, Int.reduceLT, Int.reduceLE, Int.reduceAdd, Int.reduceSub, Int.reduceMul, Int.reduceNeg, Int.reduceToNat, UInt8.reduceToNat, natLit, ty3, ty4, ty9, ty39, ty65, ty67, ty71]
          rw [← hz]
        have t7 : ((sl : Int) > 40) = False := eq_false (by omega)
        by_cases h4 : (es.getD k evZ).kind = 4
        rotate_left
        · have hcw : cwI es k = true := by
            unfold cwI keysB
            rw [show wrE (evA es k) = true from hw, decide_eq_false (show ¬ kd es k = 4 from h4), hlS, decide_eq_true hd40]; rfl
          rw [hcw, Bool.true_and] at hz
          unfold run evC at *
          rw [zEv_round hc, ← hR]
          simp (config := {contextual := true, maxSteps := 10000000, implicitDefEqProofs := false}) (disch := first | (and_intros <;> omega -splitDisjunctions) | (simp only [List.length_set, List.length_append, List.length_cons, List.length_nil]; and_intros <;> omega -splitDisjunctions) | fail) only [t1, t7, h4, g6, n1, u1, u2, u3, u4, u5, u6, c3E, cDE, c3S, cDS, q2, dk, dk2, lD, lD2, hz1, hTn, tT, ints_set, List.set_set, f0, f1, f2, f3, f4, f5, f6, cellsAt_set, cellsAt_set_ne, cellsAt_old, set_old, Tryd.f17, go_sem, ↓reduceIte, Nat.reduceEqDiff, Nat.reduceAdd, Nat.reduceMul, Nat.reduceLT, Nat.reduceLeDiff, reduceCtorEq, Int.reduceNe, Int.reduceEq, Int.reduceLT, Int.reduceLE, Int.reduceAdd, Int.reduceSub, Int.reduceMul, Int.reduceNeg, Int.reduceToNat, UInt8.reduceToNat, natLit, ty3, ty4, ty9, ty39, ty65, ty67, ty71]
          rw [hR]
          exact ih (k + 1) ((k : Int) + 1) _ (D.set k (sl : Int)) _ _ _ _ _ _ _ _ _ _ _ _ _ _ _ _ (by omega) (by omega) (by omega) (hxS _ _) (c3S _ _) (cDS _ _) nD nD0 hz
        have hxX : Hx G ((B.set (G.length + 1) (.cells (ints (D.set k (sl : Int))))) ++ [.cells (evC (es.getD k evZ))]) := hxS _ _
        obtain ⟨w0, C, e7, xC, oC⟩ := run_kidsOf (hN.ext hxX) hl hlt H.length
        have hxC : Hx G C := hxX.trans xC
        have c3C : LH.cellsAt C G.length = some [v, ve, vu, vd] := xC.cells (c3S _ _)
        have cDC : LH.cellsAt C (G.length + 1) = some (ints (D.set k (sl : Int))) := xC.cells (cDS _ _)
        have hki := kidsF_in es hlt
        have hkl2 := kidsF_len es hlt
        have hkz : (keyG es 0 (kidsF es k) && ((List.range es.length).drop (k + 1)).all (cwI es)) = Z := by
          rw [← hz]
          unfold cwI keysB
          rw [show wrE (evA es k) = true from hw, decide_eq_true (show kd es k = 4 from h4), hlS, decide_eq_true hd40]; rfl
        generalize kidsF es k = xs at *
        have aC := oC.at inN_len
        have w1 := aC.isTup; have w2 := aC.len; have w3 := aC.lenOk ty67; have w4 := aC.one
        have w6 := aC.idx (T := ty Tryd.prog) (t := 67) (by simp only [elemI, sizeO, ty3, ty67])
        unfold run evC at *
        simp only [h4] at n1 g6 e7
        rw [zEv_round hc, ← hR]
        simp (config := {contextual := true, maxSteps := 10000000, implicitDefEqProofs := false}) (disch := first | (and_intros <;> omega -splitDisjunctions) | (simp only [List.length_set, List.length_append, List.length_cons, List.length_nil]; and_intros <;> omega -splitDisjunctions) | fail) only [t1, g6, n1, e7, w1, w2, w3, w4, t7, u1, u2, u3, u4, u5, u6, c3E, cDE, c3S, cDS, q2, dk, dk2, lD, lD2, hz1, hTn, tT, ints_set, List.set_set, cellsAt_set, cellsAt_set_ne, cellsAt_old, set_old, f0, f1, f2, f3, f4, f5, f6, Tryd.f17, go_sem, ↓reduceIte, Nat.reduceEqDiff, Nat.reduceAdd, Nat.reduceMul, Nat.reduceLT, Nat.reduceLeDiff, reduceCtorEq, Int.reduceNe, Int.reduceEq, Int.reduceLT, Int.reduceLE, Int.reduceAdd, Int.reduceSub, Int.reduceMul, Int.reduceNeg, Int.reduceToNat, UInt8.reduceToNat, natLit, ty3, ty4, ty9, ty39, ty65, ty67, ty71]
        rw [hR]
        refine at_loopE fun c5 R5 hc5 hR5 => ?_
        have key5 : ∀ (m : Nat) (j : Nat) (jj : Int) (x2 x5 x6 x7 x8 x9 x12 x21 x31 x49 x52 x58 x71 : Option V), xs.length - j < m → jj = j → j ≤ xs.length → (keyG es j (xs.drop j) && ((List.range es.length).drop (k + 1)).all (cwI es)) = Z →
            zEv (leaveX (mkR Tryd.prog cfg ok [0, 2, 3, 4, 5, 6, 7, 8, 9, 12, 18, 19, 20, 21, 31, 49, 52, 55, 56, 57, 58, 71] H.length) .pure H [ResultVar.tmp 2]) (mkR Tryd.prog cfg ok [0, 2, 3, 4, 5, 6, 7, 8, 9, 12, 18, 19, 20, 21, 31, 49, 52, 55, 56, 57, 58, 71] H.length) (K.code (Code.loop c5) :: K.blk 2 :: R5) .nrm [some v, x2, some (.ptr G.length 0), some (.sl (G.length + 1) 0 1 es.length es.length), x5, x6, x7, x8, x9, x12, some v, some (.int .i64 es.length), some (.int .i64 k), x21, x31, x49, x52, some w0, some (.int .i64 xs.length), some (.int .i64 jj), x58, x71] (C) = some (.bool Z, H) := by
          intro m
          induction m with
          | zero => intro j jj x2 x5 x6 x7 x8 x9 x12 x21 x31 x49 x52 x58 x71 hm; omega
          | succ m ih5 =>
            intro j jj x2 x5 x6 x7 x8 x9 x12 x21 x31 x49 x52 x58 x71 hm hj hjl hzz
            subst hj
            by_cases hlj : j < xs.length
            rotate_left
            · have t5 : ((j : Int) < xs.length) = False := eq_false (by omega)
              rw [keyG_end (by omega), Bool.true_and] at hzz
              rw [zEv_round hc5, ← hR5]
              simp (config := {contextual := true, maxSteps := 10000000, implicitDefEqProofs := false}) (disch := first | (and_intros <;> omega -splitDisjunctions) | (simp only [List.length_set, List.length_append, List.length_cons, List.length_nil]; and_intros <;> omega -splitDisjunctions) | fail) only [t5, Tryd.f17, go_sem, ↓reduceIte, Nat.reduceEqDiff, Nat.reduceAdd, Nat.reduceMul, Nat.reduceLT, Nat.reduceLeDiff, reduceCtorEq, Int.reduceNe, Int.reduceEq, Int.reduceLT, Int.reduceLE, Int.reduceAdd, Int.reduceSub, Int.reduceMul, Int.reduceNeg, Int.reduceToNat, UInt8.reduceToNat, natLit, ty3, ty4, ty9, ty39, ty65, ty67, ty71]
              exact ih (k + 1) ((k : Int) + 1) C (D.set k (sl : Int)) _ _ _ _ _ _ _ _ _ _ _ _ _ _ _ _ (by omega) (by omega) (by omega) hxC c3C cDC nD nD0 hzz
            have t5 : ((j : Int) < xs.length) = True := eq_true (by omega)
            have hxi := hki (xs.getD j 0) (by rw [getD_of hlj]; exact List.getElem_mem _)
            have rC := hN.ext hxC
            have rBC := rC.l
            have y1 := rBC.isTup; have y2 := rBC.len; have y3 := rBC.lenOk ty39; have y0 := rBC.one
            have y4 := fun hp => rBC.con hp
            have y5 := rBC.idx (T := ty Tryd.prog) (t := 39) (by simp only [elemI, sizeO, ty3, ty4, ty9, ty39, ty65])
            have y6 := rBC.loadD evC_len evZ
            have y6 := y6 (xs.getD j 0) hxi.2.1
            have s1 := fun n K => aC.load1 0 (fun x => .int .i64 (x : Nat)) (fun _ => rfl) j hlj n K
            have s2 := aC.con (by omega)
            have n3 := fun fl H => run_isColl (es.getD (xs.getD j 0) evZ) fl H
            have hxl := hxi.2.1
            rw [keyG_drop hlj] at hzz
            have t6 := tmod2 j
            by_cases hp : j % 2 = 0
            · rw [eq_true hp] at t6
              rw [decide_eq_true hp, Bool.true_and] at hzz
              unfold run at n3
              rw [zEv_round hc5, ← hR5]
              simp (config := {contextual := true, maxSteps := 10000000, implicitDefEqProofs := false}) (disch := first | (and_intros <;> omega -splitDisjunctions) | (simp only [List.length_set, List.length_append, List.length_cons, List.length_nil]; and_intros <;> omega -splitDisjunctions) | fail) only [t5, t6, s1, s2, y6, n3, w1, w2, w3, w4, w6, hxl, y0, y1, y2, y3, y4, y5, y6, Tryd.f17, go_sem, ↓reduceIte, Nat.reduceEqDiff, Nat.reduceAdd, Nat.reduceMul, Nat.reduceLT, Nat.reduceLeDiff, reduceCtorEq, Int.reduceNe, Int.reduceEq, Int.reduceLT, Int.reduceLE, Int.reduceAdd, Int.reduceSub, Int.reduceMul, Int.reduceNeg, Int.reduceToNat, UInt8.reduceToNat, natLit, ty3, ty4, ty9, ty39, ty65, ty67, ty71]
              rw [hR5]
              refine ite_E (fun w => ?_) (fun w => ?_)
              · rw [decide_eq_true (show isC (evA es (xs.getD j 0)) from w)] at hzz
                rw [← hR]
                simp (config := {contextual := true, maxSteps := 10000000, implicitDefEqProofs := false}) (disch := first | (and_intros <;> omega -splitDisjunctions) | (simp only [List.length_set, List.length_append, List.length_cons, List.length_nil]; and_intros <;> omega -splitDisjunctions) | fail) only [Tryd.f17, go_sem, ↓reduceIte, Nat.reduceEqDiff, Nat.reduceAdd, Nat.reduceMul, Nat.reduceLT, Nat.reduceLeDiff, reduceCtorEq, Int.reduceNe, Int.reduceEq, Int.reduceLT, Int.reduceLE, Int.reduceAdd, Int.reduceSub, Int.reduceMul, Int.reduceNeg, Int.reduceToNat, UInt8.reduceToNat, natLit, ty3, ty4, ty9, ty39, ty65, ty67, ty71]
                rw [← hzz]; rfl
              · rw [decide_eq_false (show ¬ isC (evA es (xs.getD j 0)) from w)] at hzz
                exact ih5 (j + 1) ((j : Int) + 1) _ _ _ _ _ _ _ _ _ _ _ _ _ (by omega) (by omega) (by omega) hzz
            · rw [eq_false hp] at t6
              rw [decide_eq_false hp, Bool.false_and] at hzz
              rw [zEv_round hc5, ← hR5]
              simp (config := {contextual := true, maxSteps := 10000000, implicitDefEqProofs := false}) (disch := first | (and_intros <;> omega -splitDisjunctions) | (simp only [List.length_set, List.length_append, List.length_cons, List.length_nil]; and_intros <;> omega -splitDisjunctions) | fail) only [t5, t6, s1, s2, y6, w1, w2, w3, w4, w6, hxl, y0, y1, y2, y3, y4, y5, y6, Tryd.f17, go_sem, ↓reduceIte, Nat.reduceEqDiff, Nat.reduceAdd, Nat.reduceMul, Nat.reduceLT, Nat.reduceLeDiff, reduceCtorEq, Int.reduceNe, Int.reduceEq, Int.reduceLT, Int.reduceLE, Int.reduceAdd, Int.reduceSub, Int.reduceMul, Int.reduceNeg, Int.reduceToNat, UInt8.reduceToNat, natLit, ty3, ty4, ty9, ty39, ty65, ty67, ty71]
              rw [hR5]
              exact ih5 (j + 1) ((j : Int) + 1) _ _ _ _ _ _ _ _ _ _ _ _ _ (by omega) (by omega) (by omega) hzz
        exact key5 (xs.length + 1) 0 0 _ _ _ _ _ _ _ _ _ _ _ _ _ (by omega) rfl (by omega) (by rw [List.drop_zero]; exact hkz)
  exact key (es.length + 1) 0 0 _ (List.replicate es.length 0) _ _ _ _ _ _ _ _ _ _ _ _ _ _ _ _ (by omega) rfl (by omega) Hx.app (by rw [cellsAt_app0]; rfl) (by rw [cellsAt_app]; rfl) ⟨List.length_replicate, fun m h => absurd h (Nat.not_lt_zero _)⟩ (fun m h1 h2 => by rw [getD_of (by simpa using h2)]; simp) (by rw [List.drop_zero]; exact hZ)
end Go.Proofs.YtcbjmggbbnpbpaaDoor.Lg
