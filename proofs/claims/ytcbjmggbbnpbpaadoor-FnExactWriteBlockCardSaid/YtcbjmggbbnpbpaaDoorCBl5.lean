/- WriteBlock in the program, and the law. No condition. -/
import Derived.Test.YtcbjmggbbnpbpaaDoorCBl4
namespace Go.Proofs.YtcbjmggbbnpbpaaDoor.Lg
set_option linter.unusedSimpArgs false
set_option linter.unusedVariables false
set_option maxRecDepth 100000
set_option maxHeartbeats 40000000
open Go.Proofs.YtcbjmggbbnpbpaaDoor

theorem run_imWriteBlock {v : V} {es : List Ev} {H : LH} (h : At H evC 8 v es) (hes : ∀ e ∈ es, evCFit e) (hl : es.length ≤ 1048576) (hcap : capOk v) (hsh : ∀ e ∈ es, Short e) (fl : Nat) :
    run 24 [v] fl H = some (.str (blkB es), H) := by
  have ht : ∀ e ∈ es, e.text.size ≤ 16777216 := fun e he => by have := hsh e he; unfold Short at this; omega
  have n2 := fun fl => run_imCanWrite h hes hl hcap ht fl
  have i1 := h.isTup; have i4 := h.one; have i2 := h.len; have i3 := h.lenOk ty39
  have hco : CostOk es := fun e he => (hsh e he).cost
  obtain ⟨Z, hZ⟩ : ∃ Z, blkB es = Z := ⟨_, rfl⟩
  rw [hZ]
  unfold blkB at hZ
  by_cases hn : cwM es = true
  rotate_left
  · rw [if_neg (fun h => hn h.1)] at hZ
    have hn : cwM es = false := by simpa using hn
    rw [hn] at n2
    unfold run at *
    rw [Run_z Tryd.func24 rfl (by rfl : ok 24 = true) (by rfl : cfg.keep 24 = [0, 2, 3, 4, 5, 6, 7, 8, 10, 13, 16, 17, 18, 19, 25, 28, 29, 30, 31, 55, 59, 60, 61, 62, 73]) (by rfl : cfg.mode 24 = .pure) (by rfl : cfg.ord 24 = [])]
    simp (config := {contextual := true, maxSteps := 10000000, implicitDefEqProofs := false}) (disch := first | (and_intros <;> omega -splitDisjunctions) | (simp only [List.length_set, List.length_append, List.length_cons, List.length_nil]; and_intros <;> omega -splitDisjunctions) | fail) only [n2, i1, Tryd.f24, go_sem, ↓reduceIte, Nat.reduceEqDiff, Nat.reduceAdd, Nat.reduceMul, Nat.reduceLT, Nat.reduceLeDiff, reduceCtorEq, Int.reduceNe, Int.reduceEq, Int.reduceLT, Int.reduceLE, Int.reduceAdd, Int.reduceSub, Int.reduceMul, Int.reduceNeg, Int.reduceToNat, UInt8.reduceToNat, natLit, ty3, ty4, ty9, ty39, ty65, ty67, ty71]
    rw [← hZ]
  have hcw := hn
  rw [hn] at n2
  have hw := cw_whole hn
  have hn2 := whole_nested hw
  obtain ⟨Zb, hZb⟩ : ∃ Zb, shM es = Zb := ⟨_, rfl⟩
  rw [hZb] at hZ
  unfold shM at hZb
  have hZs : (if Zb = true then wOut ((rootsF es).foldl (catB (fun r => blkT es es.length r 0)) ⟨#[]⟩) else ⟨#[]⟩) = Z := by
    rw [← hZ]
    by_cases e : Zb = true
    · rw [if_pos e, if_pos ⟨hcw, e⟩]
    · rw [if_neg e, if_neg (fun h => e h.2)]
  obtain ⟨w, G, e1, hxG, ve, vu, vd, rfl, hE, hU, hD⟩ := run_nestOf h hl (nestedM_bal hn2) H.length
  have hN : NsAt G v ve vu vd es := ⟨h.ext hxG, hE.at (fun x => rfl), hU.at (fun x => rfl), hD.at (fun x => rfl)⟩
  have j1 := hN.e.one; have j2 := hN.u.one; have j3 := hN.d.one
  have j4 := hN.e.isTup; have j5 := hN.u.isTup; have j6 := hN.d.isTup
  have hlG := hxG.len
  unfold run at *
  rw [Run_z Tryd.func24 rfl (by rfl : ok 24 = true) (by rfl : cfg.keep 24 = [0, 2, 3, 4, 5, 6, 7, 8, 10, 13, 16, 17, 18, 19, 25, 28, 29, 30, 31, 55, 59, 60, 61, 62, 73]) (by rfl : cfg.mode 24 = .pure) (by rfl : cfg.ord 24 = [])]
  simp (config := {contextual := true, maxSteps := 10000000, implicitDefEqProofs := false}) (disch := first | (and_intros <;> omega -splitDisjunctions) | (simp only [List.length_set, List.length_append, List.length_cons, List.length_nil]; and_intros <;> omega -splitDisjunctions) | fail) only [n2, i1, i2, i3, i4, e1, j1, j2, j3, j4, j5, j6, Tryd.f24, go_sem, ↓reduceIte, Nat.reduceEqDiff, Nat.reduceAdd, Nat.reduceMul, Nat.reduceLT, Nat.reduceLeDiff, reduceCtorEq, Int.reduceNe, Int.reduceEq, Int.reduceLT, Int.reduceLE, Int.reduceAdd, Int.reduceSub, Int.reduceMul, Int.reduceNeg, Int.reduceToNat, UInt8.reduceToNat, natLit, ty3, ty4, ty9, ty39, ty65, ty67, ty71]
  refine at_loopE fun c R hc hR => ?_
  have key : ∀ (m : Nat) (k : Nat) (kk : Int) (B : LH) (x2 x4 x5 x6 x7 x8 x10 x13 x19 x25 x28 x29 x30 x31 x55 x59 x60 x61 x62 x73 : Option V), es.length - k < m → kk = k → k ≤ es.length → Hx G B → B.cellsAt G.length = some [v, ve, vu, vd] → ((List.range es.length).drop k).all (shB es) = Zb →
      zEv (leaveX (mkR Tryd.prog cfg ok [0, 2, 3, 4, 5, 6, 7, 8, 10, 13, 16, 17, 18, 19, 25, 28, 29, 30, 31, 55, 59, 60, 61, 62, 73] H.length) .pure H [ResultVar.tmp 2]) (mkR Tryd.prog cfg ok [0, 2, 3, 4, 5, 6, 7, 8, 10, 13, 16, 17, 18, 19, 25, 28, 29, 30, 31, 55, 59, 60, 61, 62, 73] H.length) (K.code (Code.loop c) :: K.blk 0 :: R) .nrm [some v, x2, some (.ptr G.length 0), x4, x5, x6, x7, x8, x10, x13, some v, some (.int .i64 es.length), some (.int .i64 kk), x19, x25, x28, x29, x30, x31, x55, x59, x60, x61, x62, x73] (B) = some (.str Z, H) := by
    intro m
    induction m with
    | zero => intro k kk B x2 x4 x5 x6 x7 x8 x10 x13 x19 x25 x28 x29 x30 x31 x55 x59 x60 x61 x62 x73 hm; omega
    | succ m ih =>
      intro k kk B x2 x4 x5 x6 x7 x8 x10 x13 x19 x25 x28 x29 x30 x31 x55 x59 x60 x61 x62 x73 hm hk hkl hx cN hz
      subst hk
      have hlB := hx.len
      by_cases hlt : k < es.length
      rotate_left
      · have t1 : ((k : Int) < es.length) = False := eq_false (by omega)
        rw [range_end (by omega)] at hz
        have hz : true = Zb := hz
        rw [if_pos hz.symm] at hZs
        obtain ⟨w0, C, e7, xC, oC⟩ := run_roots (hN.ext hx) hl hn2 H.length
        have hxC : Hx G C := hx.trans xC
        have cNC : LH.cellsAt C G.length = some [v, ve, vu, vd] := xC.cells cN
        have aC := oC.at inN_len
        have w1 := aC.isTup; have w2 := aC.len; have w3 := aC.lenOk ty67; have w4 := aC.one
        have w6 := aC.idx (T := ty Tryd.prog) (t := 67) (by simp only [elemI, sizeO, ty3, ty67])
        have hrin := rootsF_in es
        have hfew := rootsF_few es
        generalize rootsF es = rs at *
        have hIH := fun (x : Nat) fl (hx : x < es.length) (h3 : isN (evA es x)) => run_blockLines hcw hsh hl es.length x 0 v ve vu vd C fl (hN.ext hxC) hx (by omega) h3 (by omega)
        have hbd := fun (x : Nat) (hx : x < es.length) (h3 : isN (evA es x)) => blk_bound hw hco hl (d := es.length) (col := 0) hx (by omega) h3 (by omega)
        unfold run at *
        rw [zEv_round hc, ← hR]
        simp (config := {contextual := true, maxSteps := 10000000, implicitDefEqProofs := false}) (disch := first | (and_intros <;> omega -splitDisjunctions) | (simp only [List.length_set, List.length_append, List.length_cons, List.length_nil]; and_intros <;> omega -splitDisjunctions) | fail) only [t1, cN, e7, j1, j2, j3, j4, j5, j6, i1, w1, w2, w3, w4, Tryd.f24, go_sem, ↓reduceIte, Nat.reduceEqDiff, Nat.reduceAdd, Nat.reduceMul, Nat.reduceLT, Nat.reduceLeDiff, reduceCtorEq, Int.reduceNe, Int.reduceEq, Int.reduceLT, Int.reduceLE, Int.reduceAdd, Int.reduceSub, Int.reduceMul, Int.reduceNeg, Int.reduceToNat, UInt8.reduceToNat, natLit, ty3, ty4, ty9, ty39, ty65, ty67, ty71]
        refine at_loopE fun c9 R9 hc9 hR9 => ?_
        have key9 : ∀ (m : Nat) (j : Nat) (jj : Int) (s : ByteArray) (x2 x4 x5 x6 x7 x10 x13 x16 x17 x18 x19 x25 x28 x29 x30 x31 x55 x62 x73 : Option V), rs.length - j < m → jj = j → j ≤ rs.length → s.size ≤ 60000 → wOut ((rs.drop j).foldl (catB (fun r => blkT es es.length r 0)) s) = Z →
            zEv (leaveX (mkR Tryd.prog cfg ok [0, 2, 3, 4, 5, 6, 7, 8, 10, 13, 16, 17, 18, 19, 25, 28, 29, 30, 31, 55, 59, 60, 61, 62, 73] H.length) .pure H [ResultVar.tmp 2]) (mkR Tryd.prog cfg ok [0, 2, 3, 4, 5, 6, 7, 8, 10, 13, 16, 17, 18, 19, 25, 28, 29, 30, 31, 55, 59, 60, 61, 62, 73] H.length) (K.code (Code.loop c9) :: K.blk 4 :: R9) .nrm [some v, x2, some (.ptr G.length 0), x4, x5, x6, x7, some (.str s), x10, x13, x16, x17, x18, x19, x25, x28, x29, x30, x31, x55, some w0, some (.int .i64 rs.length), some (.int .i64 jj), x62, x73] (C) = some (.str Z, H) := by
          intro m
          induction m with
          | zero => intro j jj s x2 x4 x5 x6 x7 x10 x13 x16 x17 x18 x19 x25 x28 x29 x30 x31 x55 x62 x73 hm; omega
          | succ m ih9 =>
            intro j jj s x2 x4 x5 x6 x7 x10 x13 x16 x17 x18 x19 x25 x28 x29 x30 x31 x55 x62 x73 hm hj hjl hs hy
            subst hj
            by_cases hlj : j < rs.length
            rotate_left
            · have t5 : ((j : Int) < rs.length) = False := eq_false (by omega)
              rw [List.drop_of_length_le (by omega), List.foldl_nil] at hy
              rw [zEv_round hc9, ← hR9]
              simp (config := {contextual := true, maxSteps := 10000000, implicitDefEqProofs := false}) (disch := first | (and_intros <;> omega -splitDisjunctions) | (simp only [List.length_set, List.length_append, List.length_cons, List.length_nil]; and_intros <;> omega -splitDisjunctions) | fail) only [t5, Tryd.f24, go_sem, ↓reduceIte, Nat.reduceEqDiff, Nat.reduceAdd, Nat.reduceMul, Nat.reduceLT, Nat.reduceLeDiff, reduceCtorEq, Int.reduceNe, Int.reduceEq, Int.reduceLT, Int.reduceLE, Int.reduceAdd, Int.reduceSub, Int.reduceMul, Int.reduceNeg, Int.reduceToNat, UInt8.reduceToNat, natLit, ty3, ty4, ty9, ty39, ty65, ty67, ty71]
              unfold wOut at hy
              rw [if_neg (by omega)] at hy; rw [← hy]
            have t5 : ((j : Int) < rs.length) = True := eq_true (by omega)
            have s1 := fun n K => aC.load1 0 (fun x => .int .i64 (x : Nat)) (fun _ => rfl) j hlj n K
            have s2 := aC.con (by omega)
            have hxi := hrin (rs.getD j 0) (by rw [getD_of hlj]; exact List.getElem_mem _)
            have n3 := fun fl => hIH (rs.getD j 0) fl hxi.1 hxi.2
            have hxb := hbd (rs.getD j 0) hxi.1 hxi.2
            rw [List.drop_eq_getElem_cons hlj, ← getD_of hlj 0, List.foldl_cons] at hy
            have hy : wOut ((rs.drop (j + 1)).foldl (catB (fun r => blkT es es.length r 0)) (s ++ ⟨#[45, 45, 45]⟩ ++ blkT es es.length (rs.getD j 0) 0)) = Z := hy
            obtain ⟨T, hT⟩ : ∃ T, T = blkT es es.length (rs.getD j 0) 0 := ⟨_, rfl⟩
            rw [← hT] at hy n3 hxb
            have n3 : ∀ fl, Run Tryd.prog cfg ok 63 [.agg [v, ve, vu, vd], .int .i64 (rs.getD j 0 : Nat), .int .i64 0] fl C = some (.str T, C) := n3
            rw [zEv_round hc9, ← hR9]
            simp (config := {contextual := true, maxSteps := 10000000, implicitDefEqProofs := false}) (disch := first | (and_intros <;> omega -splitDisjunctions) | (simp only [List.length_set, List.length_append, List.length_cons, List.length_nil]; and_intros <;> omega -splitDisjunctions) | fail) only [t5, s1, s2, cNC, n3, w1, w2, w3, w4, w6, j1, j2, j3, j4, j5, j6, i1, Tryd.f24, go_sem, ↓reduceIte, Nat.reduceEqDiff, Nat.reduceAdd, Nat.reduceMul, Nat.reduceLT, Nat.reduceLeDiff, reduceCtorEq, Int.reduceNe, Int.reduceEq, Int.reduceLT, Int.reduceLE, Int.reduceAdd, Int.reduceSub, Int.reduceMul, Int.reduceNeg, Int.reduceToNat, UInt8.reduceToNat, natLit, ty3, ty4, ty9, ty39, ty65, ty67, ty71]
            rw [hR9]
            refine ite_E (fun w => ?_) (fun w => ?_)
            · rw [wOut_big (catB_ge _) (by simp only [ByteArray.size_append, sz3]; omega)] at hy
              rw [← hy]
            · exact ih9 (j + 1) ((j : Int) + 1) _ _ _ _ _ _ _ _ _ _ _ _ _ _ _ _ _ _ _ _ (by omega) (by omega) (by omega) (by simp only [ByteArray.size_append, sz3]; omega) hy
        exact key9 (rs.length + 1) 0 0 ⟨#[]⟩ _ _ _ _ _ _ _ _ _ _ _ _ _ _ _ _ _ _ _ (by omega) rfl (by omega) (by simp [ByteArray.size]) (by rw [List.drop_zero]; exact hZs)
      have t1 : ((k : Int) < es.length) = True := eq_true (by omega)
      have rN := hN.ext hx
      have rB := rN.l
      have f1 := rB.isTup; have f2 := rB.len; have f3 := rB.lenOk ty39; have f0 := rB.one
      have f4 := fun hp => rB.con hp
      have f5 := rB.idx (T := ty Tryd.prog) (t := 39) (by simp only [elemI, sizeO, ty3, ty4, ty9, ty39, ty65])
      have f6 := rB.loadD evC_len evZ
      have g6 := f6 k hlt
      have cNE : ∀ L, LH.cellsAt (B ++ L) G.length = some [v, ve, vu, vd] := fun L => cellsAt_left cN
      rw [range_drop hlt, List.all_cons] at hz
      by_cases h4 : (es.getD k evZ).kind = 4
      rotate_left
      · have hsb : shB es k = true := by unfold shB; rw [decide_eq_false (show ¬ kd es k = 4 from h4)]; rfl
        rw [hsb, Bool.true_and] at hz
        unfold run evC at *
        rw [zEv_round hc, ← hR]
        simp (config := {contextual := true, maxSteps := 10000000, implicitDefEqProofs := false}) (disch := first | (and_intros <;> omega -splitDisjunctions) | (simp only [List.length_set, List.length_append, List.length_cons, List.length_nil]; and_intros <;> omega -splitDisjunctions) | fail) only [t1, h4, g6, f0, f1, f2, f3, f4, f5, f6, Tryd.f24, go_sem, ↓reduceIte, Nat.reduceEqDiff, Nat.reduceAdd, Nat.reduceMul, Nat.reduceLT, Nat.reduceLeDiff, reduceCtorEq, Int.reduceNe, Int.reduceEq, Int.reduceLT, Int.reduceLE, Int.reduceAdd, Int.reduceSub, Int.reduceMul, Int.reduceNeg, Int.reduceToNat, UInt8.reduceToNat, natLit, ty3, ty4, ty9, ty39, ty65, ty67, ty71]
        rw [hR]
        exact ih (k + 1) ((k : Int) + 1) _ _ _ _ _ _ _ _ _ _ _ _ _ _ _ _ _ _ _ _ _ (by omega) (by omega) (by omega) (hx.trans Hx.app) (cNE _) hz
      have hxX : Hx G (B ++ [.cells (evC (es.getD k evZ))]) := hx.trans Hx.app
      obtain ⟨w0, C, e7, xC, oC⟩ := run_kidsOf (hN.ext hxX) hl hlt H.length
      have hxC : Hx G C := hxX.trans xC
      have hki := kidsF_in es hlt
      have hkl2 := kidsF_len es hlt
      have hkz : (shG es 0 (kidsF es k) && ((List.range es.length).drop (k + 1)).all (shB es)) = Zb := by
        rw [← hz]
        unfold shB
        rw [decide_eq_true (show kd es k = 4 from h4)]; rfl
      generalize kidsF es k = xs at *
      have aC := oC.at inN_len
      have w1 := aC.isTup; have w2 := aC.len; have w3 := aC.lenOk ty67; have w4 := aC.one
      have w6 := aC.idx (T := ty Tryd.prog) (t := 67) (by simp only [elemI, sizeO, ty3, ty67])
      have cNC : LH.cellsAt C G.length = some [v, ve, vu, vd] := xC.cells (cNE _)
      unfold run evC at *
      simp only [h4] at g6 e7
      rw [zEv_round hc, ← hR]
      simp (config := {contextual := true, maxSteps := 10000000, implicitDefEqProofs := false}) (disch := first | (and_intros <;> omega -splitDisjunctions) | (simp only [List.length_set, List.length_append, List.length_cons, List.length_nil]; and_intros <;> omega -splitDisjunctions) | fail) only [t1, g6, e7, cNE, j1, j2, j3, j4, j5, j6, i1, w1, w2, w3, w4, f0, f1, f2, f3, f4, f5, f6, Tryd.f24, go_sem, ↓reduceIte, Nat.reduceEqDiff, Nat.reduceAdd, Nat.reduceMul, Nat.reduceLT, Nat.reduceLeDiff, reduceCtorEq, Int.reduceNe, Int.reduceEq, Int.reduceLT, Int.reduceLE, Int.reduceAdd, Int.reduceSub, Int.reduceMul, Int.reduceNeg, Int.reduceToNat, UInt8.reduceToNat, natLit, ty3, ty4, ty9, ty39, ty65, ty67, ty71]
      rw [hR]
      refine at_loopE fun c5 R5 hc5 hR5 => ?_
      have key5 : ∀ (m : Nat) (j : Nat) (jj : Int) (x2 x4 x5 x6 x7 x8 x10 x13 x19 x25 x31 x55 x59 x60 x61 x62 x73 : Option V), xs.length - j < m → jj = j → j ≤ xs.length → (shG es j (xs.drop j) && ((List.range es.length).drop (k + 1)).all (shB es)) = Zb →
          zEv (leaveX (mkR Tryd.prog cfg ok [0, 2, 3, 4, 5, 6, 7, 8, 10, 13, 16, 17, 18, 19, 25, 28, 29, 30, 31, 55, 59, 60, 61, 62, 73] H.length) .pure H [ResultVar.tmp 2]) (mkR Tryd.prog cfg ok [0, 2, 3, 4, 5, 6, 7, 8, 10, 13, 16, 17, 18, 19, 25, 28, 29, 30, 31, 55, 59, 60, 61, 62, 73] H.length) (K.code (Code.loop c5) :: K.blk 2 :: R5) .nrm [some v, x2, some (.ptr G.length 0), x4, x5, x6, x7, x8, x10, x13, some v, some (.int .i64 es.length), some (.int .i64 k), x19, x25, some w0, some (.int .i64 xs.length), some (.int .i64 jj), x31, x55, x59, x60, x61, x62, x73] (C) = some (.str Z, H) := by
        intro m
        induction m with
        | zero => intro j jj x2 x4 x5 x6 x7 x8 x10 x13 x19 x25 x31 x55 x59 x60 x61 x62 x73 hm; omega
        | succ m ih5 =>
          intro j jj x2 x4 x5 x6 x7 x8 x10 x13 x19 x25 x31 x55 x59 x60 x61 x62 x73 hm hj hjl hzz
          subst hj
          by_cases hlj : j < xs.length
          rotate_left
          · have t5 : ((j : Int) < xs.length) = False := eq_false (by omega)
            rw [shG_end (by omega), Bool.true_and] at hzz
            rw [zEv_round hc5, ← hR5]
            simp (config := {contextual := true, maxSteps := 10000000, implicitDefEqProofs := false}) (disch := first | (and_intros <;> omega -splitDisjunctions) | (simp only [List.length_set, List.length_append, List.length_cons, List.length_nil]; and_intros <;> omega -splitDisjunctions) | fail) only [t5, Tryd.f24, go_sem, ↓reduceIte, Nat.reduceEqDiff, Nat.reduceAdd, Nat.reduceMul, Nat.reduceLT, Nat.reduceLeDiff, reduceCtorEq, Int.reduceNe, Int.reduceEq, Int.reduceLT, Int.reduceLE, Int.reduceAdd, Int.reduceSub, Int.reduceMul, Int.reduceNeg, Int.reduceToNat, UInt8.reduceToNat, natLit, ty3, ty4, ty9, ty39, ty65, ty67, ty71]
            exact ih (k + 1) ((k : Int) + 1) C _ _ _ _ _ _ _ _ _ _ _ _ _ _ _ _ _ _ _ _ (by omega) (by omega) (by omega) hxC cNC hzz
          have t5 : ((j : Int) < xs.length) = True := eq_true (by omega)
          have hxi := hki (xs.getD j 0) (by rw [getD_of hlj]; exact List.getElem_mem _)
          have hxl := hxi.2.1
          have rBC := (hN.ext hxC).l
          have y1 := rBC.isTup; have y2 := rBC.len; have y3 := rBC.lenOk ty39; have y0 := rBC.one
          have y4 := fun hp => rBC.con hp
          have y5 := rBC.idx (T := ty Tryd.prog) (t := 39) (by simp only [elemI, sizeO, ty3, ty4, ty9, ty39, ty65])
          have y6 := rBC.loadD evC_len evZ
          have y0k := fun n K => rBC.loadD0 evC_len evZ (fun e => .int .i64 e.kind) (fun _ => rfl) (xs.getD j 0) hxl n K
          have y3k := fun n K => rBC.loadDF evC_len evZ (fun e => .str e.text) (j := 3) (fun _ => rfl) (xs.getD j 0) hxl n K
          have s1 := fun n K => aC.load1 0 (fun x => .int .i64 (x : Nat)) (fun _ => rfl) j hlj n K
          have s2 := aC.con (by omega)
          have hse := hsh _ (show es.getD (xs.getD j 0) evZ ∈ es by rw [getD_of hxl]; exact List.getElem_mem _)
          have n3 := fun fl H => run_imQuote (es.getD (xs.getD j 0) evZ).text fl H (by unfold Short at hse; omega)
          rw [shG_drop hlj] at hzz
          have t6 := tmod2 j
          by_cases hp : j % 2 = 0
          · rw [eq_true hp] at t6
            rw [decide_eq_true hp, Bool.true_and] at hzz
            unfold run at n3
            rw [zEv_round hc5, ← hR5]
            simp (config := {contextual := true, maxSteps := 10000000, implicitDefEqProofs := false}) (disch := first | (and_intros <;> omega -splitDisjunctions) | (simp only [List.length_set, List.length_append, List.length_cons, List.length_nil]; and_intros <;> omega -splitDisjunctions) | fail) only [t5, t6, s1, s2, y0k, y3k, n3, w1, w2, w3, w4, w6, hxl, y0, y1, y2, y3, y4, y5, y6, Tryd.f24, go_sem, ↓reduceIte, Nat.reduceEqDiff, Nat.reduceAdd, Nat.reduceMul, Nat.reduceLT, Nat.reduceLeDiff, reduceCtorEq, Int.reduceNe, Int.reduceEq, Int.reduceLT, Int.reduceLE, Int.reduceAdd, Int.reduceSub, Int.reduceMul, Int.reduceNeg, Int.reduceToNat, UInt8.reduceToNat, natLit, ty3, ty4, ty9, ty39, ty65, ty67, ty71]
            rw [hR5]
            have hbK : bigK (evA es (xs.getD j 0)) = (decide ((es.getD (xs.getD j 0) evZ).kind = 5) && decide (1000 < (quoT (es.getD (xs.getD j 0) evZ).text).size)) := rfl
            refine ite_E (fun w => ?_) (fun w => ?_)
            · rw [hbK, decide_eq_true w.1, decide_eq_true (show 1000 < (quoT (es.getD (xs.getD j 0) evZ).text).size by have := w.2; omega)] at hzz
              rw [← hR]
              simp (config := {contextual := true, maxSteps := 10000000, implicitDefEqProofs := false}) (disch := first | (and_intros <;> omega -splitDisjunctions) | (simp only [List.length_set, List.length_append, List.length_cons, List.length_nil]; and_intros <;> omega -splitDisjunctions) | fail) only [Tryd.f24, go_sem, ↓reduceIte, Nat.reduceEqDiff, Nat.reduceAdd, Nat.reduceMul, Nat.reduceLT, Nat.reduceLeDiff, reduceCtorEq, Int.reduceNe, Int.reduceEq, Int.reduceLT, Int.reduceLE, Int.reduceAdd, Int.reduceSub, Int.reduceMul, Int.reduceNeg, Int.reduceToNat, UInt8.reduceToNat, natLit, ty3, ty4, ty9, ty39, ty65, ty67, ty71]
              rw [← hZs, ← hzz]; rfl
            · have hbF : bigK (evA es (xs.getD j 0)) = false := by
                rw [hbK]
                by_cases w5 : (es.getD (xs.getD j 0) evZ).kind = 5
                · rw [decide_eq_true w5, decide_eq_false (fun h => w ⟨w5, by omega⟩)]; rfl
                · rw [decide_eq_false w5]; rfl
              rw [hbF] at hzz
              exact ih5 (j + 1) ((j : Int) + 1) _ _ _ _ _ _ _ _ _ _ _ _ _ _ _ _ _ (by omega) (by omega) (by omega) hzz
          · rw [eq_false hp] at t6
            rw [decide_eq_false hp, Bool.false_and] at hzz
            rw [zEv_round hc5, ← hR5]
            simp (config := {contextual := true, maxSteps := 10000000, implicitDefEqProofs := false}) (disch := first | (and_intros <;> omega -splitDisjunctions) | (simp only [List.length_set, List.length_append, List.length_cons, List.length_nil]; and_intros <;> omega -splitDisjunctions) | fail) only [t5, t6, s1, s2, w1, w2, w3, w4, w6, hxl, y0, y1, y2, y3, y4, y5, y6, Tryd.f24, go_sem, ↓reduceIte, Nat.reduceEqDiff, Nat.reduceAdd, Nat.reduceMul, Nat.reduceLT, Nat.reduceLeDiff, reduceCtorEq, Int.reduceNe, Int.reduceEq, Int.reduceLT, Int.reduceLE, Int.reduceAdd, Int.reduceSub, Int.reduceMul, Int.reduceNeg, Int.reduceToNat, UInt8.reduceToNat, natLit, ty3, ty4, ty9, ty39, ty65, ty67, ty71]
            rw [hR5]
            exact ih5 (j + 1) ((j : Int) + 1) _ _ _ _ _ _ _ _ _ _ _ _ _ _ _ _ _ (by omega) (by omega) (by omega) hzz
      exact key5 (xs.length + 1) 0 0 _ _ _ _ _ _ _ _ _ _ _ _ _ _ _ _ _ (by omega) rfl (by omega) (by rw [List.drop_zero]; exact hkz)
  exact key (es.length + 1) 0 0 _ _ _ _ _ _ _ _ _ _ _ _ _ _ _ _ _ _ _ _ _ (by omega) rfl (by omega) Hx.app (by rw [cellsAt_app0]; rfl) (by rw [List.drop_zero]; exact hZb)
theorem run_FnExactWriteBlock (v : V) (xs : List Ev) (fl : Nat) (H : LH) (h : At H evC 8 v xs) (hl : xs.length ≤ 9223372036854775807) (hf : ∀ x ∈ xs, evCFit x) :
    run 7 [v] fl H = some (.bool true, H) := by
  have f1 := h.isTup
  have e0 := run_szEventS v xs 1048576 H.length H h (by decide) (by decide) hl hf
  by_cases hs : (1048576 : Int) < xs.length + sumZ evCW xs
  · unfold run at *
    rw [if_pos hs] at e0
    rw [Run_z Tryd.func7 rfl (by rfl : ok 7 = true) (by rfl : cfg.keep 7 = [0, 2, 3, 4, 5, 6, 11, 21, 26]) (by rfl : cfg.mode 7 = .pure) (by rfl : cfg.ord 7 = [])]
    simp (config := {contextual := true, maxSteps := 10000000, implicitDefEqProofs := false}) (disch := first | (and_intros <;> omega -splitDisjunctions) | (simp only [List.length_set, List.length_append, List.length_cons, List.length_nil]; and_intros <;> omega -splitDisjunctions) | fail) only [e0, f1, Tryd.f7, go_sem, ↓reduceIte, Nat.reduceEqDiff, Nat.reduceAdd, Nat.reduceMul, Nat.reduceLT, Nat.reduceLeDiff, reduceCtorEq, Int.reduceNe, Int.reduceEq, Int.reduceLT, Int.reduceLE, Int.reduceAdd, Int.reduceSub, Int.reduceMul, Int.reduceNeg, Int.reduceToNat, UInt8.reduceToNat, natLit, ty3, ty4, ty9]
  · rw [if_neg hs] at e0
    have w0 := sumZ_nonneg (w := evCW) (fun x => by unfold evCW; omega) xs
    have hx : xs.length ≤ 1048576 := by omega
    have ht : ∀ e ∈ xs, Short e := fun e he => by
      have := sumZ_mem (w := evCW) (fun x => by unfold evCW; omega) he
      have h2 : ((e.text.size + e.anchor.size + e.tag.size : Nat) : Int) ≤ evCW e := by unfold evCW; omega
      unfold Short
      omega
    have e1 := run_toEventS v xs H.length H h hx
    have x1 : Hx H (H ++ [Blk.cells (rows evC xs)]) := Hx.app
    have e2 := run_spWriteBlock (At.new (H := H) (L := ([] : LH)) evC_len) hf hx ht H.length
    have e3 := run_toEventS v xs H.length (H ++ [Blk.cells (rows evC xs)]) (h.ext x1) hx
    have l1 : (H ++ [Blk.cells (rows evC xs)]).length = H.length + 1 := by simp
    have e4 := run_imWriteBlock (At.new (H := H ++ [Blk.cells (rows evC xs)]) (L := ([] : LH)) evC_len) hf hx (by simp [capOk]) ht H.length
    have x2 : Hx H (H ++ [Blk.cells (rows evC xs)] ++ [Blk.cells (rows evC xs)]) := x1.trans Hx.app
    have e5 := run_toEventS v xs H.length (H ++ [Blk.cells (rows evC xs)] ++ [Blk.cells (rows evC xs)]) (h.ext x2) hx
    have a6 : At (H ++ [Blk.cells (rows evC xs)] ++ [Blk.cells (rows evC xs)]) evC 8 (.sl (H ++ [Blk.cells (rows evC xs)]).length 0 8 xs.length xs.length) xs := At.new evC_len
    have e6 := run_eqEventS (.sl (H ++ [Blk.cells (rows evC xs)]).length 0 8 xs.length xs.length) (.sl (H ++ [Blk.cells (rows evC xs)] ++ [Blk.cells (rows evC xs)]).length 0 8 xs.length xs.length) xs xs H.length (H ++ [Blk.cells (rows evC xs)] ++ [Blk.cells (rows evC xs)] ++ [Blk.cells (rows evC xs)]) a6.left (At.new evC_len) (by omega) (by omega)
    have hb : ¬ (1048576 : Int) - (xs.length + sumZ evCW xs) < 0 := by omega
    simp only [List.append_assoc, List.cons_append, List.nil_append, List.length_append, List.length_cons, List.length_nil, Nat.zero_add] at e1 e2 e3 e4 e5 e6
    unfold run at *
    rw [Run_z Tryd.func7 rfl (by rfl : ok 7 = true) (by rfl : cfg.keep 7 = [0, 2, 3, 4, 5, 6, 11, 21, 26]) (by rfl : cfg.mode 7 = .pure) (by rfl : cfg.ord 7 = [])]
    simp (config := {contextual := true, maxSteps := 10000000, implicitDefEqProofs := false}) (disch := first | (and_intros <;> omega -splitDisjunctions) | (simp only [List.length_set, List.length_append, List.length_cons, List.length_nil]; and_intros <;> omega -splitDisjunctions) | fail) only [e0, e1, e2, e3, e4, e5, e6, hb, f1, Tryd.f7, go_sem, ↓reduceIte, Nat.reduceEqDiff, Nat.reduceAdd, Nat.reduceMul, Nat.reduceLT, Nat.reduceLeDiff, reduceCtorEq, Int.reduceNe, Int.reduceEq, Int.reduceLT, Int.reduceLE, Int.reduceAdd, Int.reduceSub, Int.reduceMul, Int.reduceNeg, Int.reduceToNat, UInt8.reduceToNat, natLit, ty3, ty4, ty9]
end Go.Proofs.YtcbjmggbbnpbpaaDoor.Lg
