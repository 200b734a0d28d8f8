/- WriteBlock, as the program has it twice. No condition. -/
import Derived.Test.YtcbjmggbbnpbpaaDoorCBl3
namespace Go.Proofs.YtcbjmggbbnpbpaaDoor.Lg
set_option linter.unusedSimpArgs false
set_option linter.unusedVariables false
set_option maxRecDepth 100000
set_option maxHeartbeats 40000000
open Go.Proofs.YtcbjmggbbnpbpaaDoor

def bigK (e : Ev) : Bool := decide (e.kind = 5) && decide (1000 < (quoT e.text).size)
/-- no key is too long, from the k-th on -/
def shG (es : List Ev) : Nat → List Nat → Bool
  | _, [] => true
  | k, x :: xs => !(decide (k % 2 = 0) && bigK (evA es x)) && shG es (k + 1) xs
def shB (es : List Ev) (i : Nat) : Bool := !decide (kd es i = 4) || shG es 0 (kidsF es i)
def shM (es : List Ev) : Bool := (List.range es.length).all (shB es)
theorem shG_drop {es : List Ev} {xs : List Nat} {j : Nat} (h : j < xs.length) : shG es j (xs.drop j) = (!(decide (j % 2 = 0) && bigK (evA es (xs.getD j 0))) && shG es (j + 1) (xs.drop (j + 1))) := by
  rw [List.drop_eq_getElem_cons h, getD_of h]; rfl
theorem shG_end {es : List Ev} {xs : List Nat} {j : Nat} (h : xs.length ≤ j) : shG es j (xs.drop j) = true := by
  rw [List.drop_of_length_le h]; cases j <;> rfl
def blkB (es : List Ev) : ByteArray := if cwM es = true ∧ shM es = true then wOut ((rootsF es).foldl (catB (fun r => blkT es es.length r 0)) ⟨#[]⟩) else ⟨#[]⟩
theorem run_l21Keys {v : V} {es : List Ev} {H : LH} (h : At H evC 8 v es) (hl : es.length ≤ 1048576) (hsh : ∀ e ∈ es, Short e) (fl : Nat) :
    run 64 [v] fl H = some (.bool (shM es), H) := by
  have i1 := h.isTup; have i2 := h.len; have i3 := h.lenOk ty39; have i4 := h.one
  obtain ⟨Z, hZ⟩ : ∃ Z, shM es = Z := ⟨_, rfl⟩
  rw [hZ]
  unfold shM at hZ
  unfold run at *
  rw [Run_z Tryd.func64 rfl (by rfl : ok 64 = true) (by rfl : cfg.keep 64 = [0, 2, 3, 4, 5, 6, 7, 8, 9, 10, 16, 19, 20, 21, 22, 46]) (by rfl : cfg.mode 64 = .pure) (by rfl : cfg.ord 64 = [])]
  simp (config := {contextual := true, maxSteps := 10000000, implicitDefEqProofs := false}) (disch := first | (and_intros <;> omega -splitDisjunctions) | (simp only [List.length_set, List.length_append, List.length_cons, List.length_nil]; and_intros <;> omega -splitDisjunctions) | fail) only [i1, i2, i3, i4, Tryd.f64, go_sem, ↓reduceIte, Nat.reduceEqDiff, Nat.reduceAdd, Nat.reduceMul, Nat.reduceLT, Nat.reduceLeDiff, reduceCtorEq, Int.reduceNe, Int.reduceEq, Int.reduceLT, Int.reduceLE, Int.reduceAdd, Int.reduceSub, Int.reduceMul, Int.reduceNeg, Int.reduceToNat, UInt8.reduceToNat, natLit, ty3, ty4, ty9, ty39, ty65, ty67]
  refine at_loopE fun c R hc hR => ?_
  have key : ∀ (m : Nat) (k : Nat) (kk : Int) (B : LH) (x2 x3 x4 x5 x6 x10 x16 x19 x20 x21 x22 x46 : Option V), es.length - k < m → kk = k → k ≤ es.length → Hx H B → ((List.range es.length).drop k).all (shB es) = Z →
      zEv (leaveX (mkR Tryd.prog cfg ok [0, 2, 3, 4, 5, 6, 7, 8, 9, 10, 16, 19, 20, 21, 22, 46] H.length) .pure H [ResultVar.tmp 2]) (mkR Tryd.prog cfg ok [0, 2, 3, 4, 5, 6, 7, 8, 9, 10, 16, 19, 20, 21, 22, 46] H.length) (K.code (Code.loop c) :: K.blk 0 :: R) .nrm [some v, x2, x3, x4, x5, x6, some v, some (.int .i64 es.length), some (.int .i64 kk), x10, x16, x19, x20, x21, x22, x46] (B) = some (.bool Z, H) := by
    intro m
    induction m with
    | zero => intro k kk B x2 x3 x4 x5 x6 x10 x16 x19 x20 x21 x22 x46 hm; omega
    | succ m ih =>
      intro k kk B x2 x3 x4 x5 x6 x10 x16 x19 x20 x21 x22 x46 hm hk hkl hx hz
      subst hk
      have hlB := hx.len
      by_cases hlt : k < es.length
      rotate_left
      · have t1 : ((k : Int) < es.length) = False := eq_false (by omega)
        rw [range_end (by omega)] at hz
        rw [zEv_round hc, ← hR]
        simp (config := {contextual := true, maxSteps := 10000000, implicitDefEqProofs := false}) (disch := first | (and_intros <;> omega -splitDisjunctions) | (simp only [List.length_set, List.length_append, List.length_cons, List.length_nil]; and_intros <;> omega -splitDisjunctions) | fail) only [t1, Tryd.f64, go_sem, ↓reduceIte, Nat.reduceEqDiff, Nat.reduceAdd, Nat.reduceMul, Nat.reduceLT, Nat.reduceLeDiff, reduceCtorEq, Int.reduceNe, Int.reduceEq, Int.reduceLT, Int.reduceLE, Int.reduceAdd, Int.reduceSub, Int.reduceMul, Int.reduceNeg, Int.reduceToNat, UInt8.reduceToNat, natLit, ty3, ty4, ty9, ty39, ty65, ty67]
        rw [← hz]; rfl
      have t1 : ((k : Int) < es.length) = True := eq_true (by omega)
      have rB := h.ext hx
      have f1 := rB.isTup; have f2 := rB.len; have f3 := rB.lenOk ty39; have f0 := rB.one
      have f4 := fun hp => rB.con hp
      have f5 := rB.idx (T := ty Tryd.prog) (t := 39) (by simp only [elemI, sizeO, ty3, ty4, ty9, ty39, ty65])
      have f6 := rB.loadD evC_len evZ
      have g6 := f6 k hlt
      rw [range_drop hlt, List.all_cons] at hz
      by_cases h4 : (es.getD k evZ).kind = 4
      rotate_left
      · have hsb : shB es k = true := by unfold shB; rw [decide_eq_false (show ¬ kd es k = 4 from h4)]; rfl
        rw [hsb, Bool.true_and] at hz
        unfold run evC at *
        rw [zEv_round hc, ← hR]
        simp (config := {contextual := true, maxSteps := 10000000, implicitDefEqProofs := false}) (disch := first | (and_intros <;> omega -splitDisjunctions) | (simp only [List.length_set, List.length_append, List.length_cons, List.length_nil]; and_intros <;> omega -splitDisjunctions) | fail) only [t1, h4, g6, f0, f1, f2, f3, f4, f5, f6, Tryd.f64, go_sem, ↓reduceIte, Nat.reduceEqDiff, Nat.reduceAdd, Nat.reduceMul, Nat.reduceLT, Nat.reduceLeDiff, reduceCtorEq, Int.reduceNe, Int.reduceEq, Int.reduceLT, Int.reduceLE, Int.reduceAdd, Int.reduceSub, Int.reduceMul, Int.reduceNeg, Int.reduceToNat, UInt8.reduceToNat, natLit, ty3, ty4, ty9, ty39, ty65, ty67]
        rw [hR]
        exact ih (k + 1) ((k : Int) + 1) _ _ _ _ _ _ _ _ _ _ _ _ _ (by omega) (by omega) (by omega) (hx.trans Hx.app) hz
      have hxX : Hx H (B ++ [.cells (evC (es.getD k evZ))]) := hx.trans Hx.app
      obtain ⟨w0, C, e7, xC, oC⟩ := run_l13Kids (h.ext hxX) hl hlt H.length
      have hxC : Hx H C := hxX.trans xC
      have hki := kidsF_in es hlt
      have hkl2 := kidsF_len es hlt
      have hkz : (shG es 0 (kidsF es k) && ((List.range es.length).drop (k + 1)).all (shB es)) = Z := by
        rw [← hz]
        unfold shB
        rw [decide_eq_true (show kd es k = 4 from h4)]; rfl
      generalize kidsF es k = xs at *
      have aC := oC.at inN_len
      have w1 := aC.isTup; have w2 := aC.len; have w3 := aC.lenOk ty67; have w4 := aC.one
      have w6 := aC.idx (T := ty Tryd.prog) (t := 67) (by simp only [elemI, sizeO, ty3, ty67])
      unfold run evC at *
      simp only [h4] at g6 e7
      rw [zEv_round hc, ← hR]
      simp (config := {contextual := true, maxSteps := 10000000, implicitDefEqProofs := false}) (disch := first | (and_intros <;> omega -splitDisjunctions) | (simp only [List.length_set, List.length_append, List.length_cons, List.length_nil]; and_intros <;> omega -splitDisjunctions) | fail) only [t1, g6, e7, w1, w2, w3, w4, f0, f1, f2, f3, f4, f5, f6, Tryd.f64, go_sem, ↓reduceIte, Nat.reduceEqDiff, Nat.reduceAdd, Nat.reduceMul, Nat.reduceLT, Nat.reduceLeDiff, reduceCtorEq, Int.reduceNe, Int.reduceEq, Int.reduceLT, Int.reduceLE, Int.reduceAdd, Int.reduceSub, Int.reduceMul, Int.reduceNeg, Int.reduceToNat, UInt8.reduceToNat, natLit, ty3, ty4, ty9, ty39, ty65, ty67]
      rw [hR]
      refine at_loopE fun c5 R5 hc5 hR5 => ?_
      have key5 : ∀ (m : Nat) (j : Nat) (jj : Int) (x2 x3 x4 x5 x6 x10 x16 x22 x46 : Option V), xs.length - j < m → jj = j → j ≤ xs.length → (shG es j (xs.drop j) && ((List.range es.length).drop (k + 1)).all (shB es)) = Z →
          zEv (leaveX (mkR Tryd.prog cfg ok [0, 2, 3, 4, 5, 6, 7, 8, 9, 10, 16, 19, 20, 21, 22, 46] H.length) .pure H [ResultVar.tmp 2]) (mkR Tryd.prog cfg ok [0, 2, 3, 4, 5, 6, 7, 8, 9, 10, 16, 19, 20, 21, 22, 46] H.length) (K.code (Code.loop c5) :: K.blk 2 :: R5) .nrm [some v, x2, x3, x4, x5, x6, some v, some (.int .i64 es.length), some (.int .i64 k), x10, x16, some w0, some (.int .i64 xs.length), some (.int .i64 jj), x22, x46] (C) = some (.bool Z, H) := by
        intro m
        induction m with
        | zero => intro j jj x2 x3 x4 x5 x6 x10 x16 x22 x46 hm; omega
        | succ m ih5 =>
          intro j jj x2 x3 x4 x5 x6 x10 x16 x22 x46 hm hj hjl hzz
          subst hj
          by_cases hlj : j < xs.length
          rotate_left
          · have t5 : ((j : Int) < xs.length) = False := eq_false (by omega)
            rw [shG_end (by omega), Bool.true_and] at hzz
            rw [zEv_round hc5, ← hR5]
            simp (config := {contextual := true, maxSteps := 10000000, implicitDefEqProofs := false}) (disch := first | (and_intros <;> omega -splitDisjunctions) | (simp only [List.length_set, List.length_append, List.length_cons, List.length_nil]; and_intros <;> omega -splitDisjunctions) | fail) only [t5, Tryd.f64, go_sem, ↓reduceIte, Nat.reduceEqDiff, Nat.reduceAdd, Nat.reduceMul, Nat.reduceLT, Nat.reduceLeDiff, reduceCtorEq, Int.reduceNe, Int.reduceEq, Int.reduceLT, Int.reduceLE, Int.reduceAdd, Int.reduceSub, Int.reduceMul, Int.reduceNeg, Int.reduceToNat, UInt8.reduceToNat, natLit, ty3, ty4, ty9, ty39, ty65, ty67]
            exact ih (k + 1) ((k : Int) + 1) C _ _ _ _ _ _ _ _ _ _ _ _ (by omega) (by omega) (by omega) hxC hzz
          have t5 : ((j : Int) < xs.length) = True := eq_true (by omega)
          have hxi := hki (xs.getD j 0) (by rw [getD_of hlj]; exact List.getElem_mem _)
          have hxl := hxi.2.1
          have rBC := h.ext hxC
          have y1 := rBC.isTup; have y2 := rBC.len; have y3 := rBC.lenOk ty39; have y0 := rBC.one
          have y4 := fun hp => rBC.con hp
          have y5 := rBC.idx (T := ty Tryd.prog) (t := 39) (by simp only [elemI, sizeO, ty3, ty4, ty9, ty39, ty65])
          have y6 := rBC.loadD evC_len evZ
          have y0k := fun n K => rBC.loadD0 evC_len evZ (fun e => .int .i64 e.kind) (fun _ => rfl) (xs.getD j 0) hxl n K
          have y3k := fun n K => rBC.loadDF evC_len evZ (fun e => .str e.text) (j := 3) (fun _ => rfl) (xs.getD j 0) hxl n K
          have s1 := fun n K => aC.load1 0 (fun x => .int .i64 (x : Nat)) (fun _ => rfl) j hlj n K
          have s2 := aC.con (by omega)
          have hse := hsh _ (show es.getD (xs.getD j 0) evZ ∈ es by rw [getD_of hxl]; exact List.getElem_mem _)
          have n3 := fun fl H => run_spQuote (es.getD (xs.getD j 0) evZ).text fl H (by unfold Short at hse; omega)
          rw [shG_drop hlj] at hzz
          have t6 := tmod2 j
          by_cases hp : j % 2 = 0
          · rw [eq_true hp] at t6
            rw [decide_eq_true hp, Bool.true_and] at hzz
            unfold run at n3
            rw [zEv_round hc5, ← hR5]
            simp (config := {contextual := true, maxSteps := 10000000, implicitDefEqProofs := false}) (disch := first | (and_intros <;> omega -splitDisjunctions) | (simp only [List.length_set, List.length_append, List.length_cons, List.length_nil]; and_intros <;> omega -splitDisjunctions) | fail) only [t5, t6, s1, s2, y0k, y3k, n3, w1, w2, w3, w4, w6, hxl, y0, y1, y2, y3, y4, y5, y6, Tryd.f64, go_sem, ↓reduceIte, Nat.reduceEqDiff, Nat.reduceAdd, Nat.reduceMul, Nat.reduceLT, Nat.reduceLeDiff, reduceCtorEq, Int.reduceNe, Int.reduceEq, Int.reduceLT, Int.reduceLE, Int.reduceAdd, Int.reduceSub, Int.reduceMul, Int.reduceNeg, Int.reduceToNat, UInt8.reduceToNat, natLit, ty3, ty4, ty9, ty39, ty65, ty67]
            rw [hR5]
            have hbK : bigK (evA es (xs.getD j 0)) = (decide ((es.getD (xs.getD j 0) evZ).kind = 5) && decide (1000 < (quoT (es.getD (xs.getD j 0) evZ).text).size)) := rfl
            refine ite_E (fun w => ?_) (fun w => ?_)
            · rw [hbK, decide_eq_true w.1, decide_eq_true (show 1000 < (quoT (es.getD (xs.getD j 0) evZ).text).size by have := w.2; omega)] at hzz
              rw [← hR]
              simp (config := {contextual := true, maxSteps := 10000000, implicitDefEqProofs := false}) (disch := first | (and_intros <;> omega -splitDisjunctions) | (simp only [List.length_set, List.length_append, List.length_cons, List.length_nil]; and_intros <;> omega -splitDisjunctions) | fail) only [Tryd.f64, go_sem, ↓reduceIte, Nat.reduceEqDiff, Nat.reduceAdd, Nat.reduceMul, Nat.reduceLT, Nat.reduceLeDiff, reduceCtorEq, Int.reduceNe, Int.reduceEq, Int.reduceLT, Int.reduceLE, Int.reduceAdd, Int.reduceSub, Int.reduceMul, Int.reduceNeg, Int.reduceToNat, UInt8.reduceToNat, natLit, ty3, ty4, ty9, ty39, ty65, ty67]
              rw [← hzz]; rfl
            · have hbF : bigK (evA es (xs.getD j 0)) = false := by
                rw [hbK]
                by_cases w5 : (es.getD (xs.getD j 0) evZ).kind = 5
                · rw [decide_eq_true w5, decide_eq_false (fun h => w ⟨w5, by omega⟩)]; rfl
                · rw [decide_eq_false w5]; rfl
              rw [hbF] at hzz
              exact ih5 (j + 1) ((j : Int) + 1) _ _ _ _ _ _ _ _ _ (by omega) (by omega) (by omega) hzz
          · rw [eq_false hp] at t6
            rw [decide_eq_false hp, Bool.false_and] at hzz
            rw [zEv_round hc5, ← hR5]
            simp (config := {contextual := true, maxSteps := 10000000, implicitDefEqProofs := false}) (disch := first | (and_intros <;> omega -splitDisjunctions) | (simp only [List.length_set, List.length_append, List.length_cons, List.length_nil]; and_intros <;> omega -splitDisjunctions) | fail) only [t5, t6, s1, s2, w1, w2, w3, w4, w6, hxl, y0, y1, y2, y3, y4, y5, y6, Tryd.f64, go_sem, ↓reduceIte, Nat.reduceEqDiff, Nat.reduceAdd, Nat.reduceMul, Nat.reduceLT, Nat.reduceLeDiff, reduceCtorEq, Int.reduceNe, Int.reduceEq, Int.reduceLT, Int.reduceLE, Int.reduceAdd, Int.reduceSub, Int.reduceMul, Int.reduceNeg, Int.reduceToNat, UInt8.reduceToNat, natLit, ty3, ty4, ty9, ty39, ty65, ty67]
            rw [hR5]
            exact ih5 (j + 1) ((j : Int) + 1) _ _ _ _ _ _ _ _ _ (by omega) (by omega) (by omega) hzz
      exact key5 (xs.length + 1) 0 0 _ _ _ _ _ _ _ _ _ (by omega) rfl (by omega) (by rw [List.drop_zero]; exact hkz)
  exact key (es.length + 1) 0 0 H _ _ _ _ _ _ _ _ _ _ _ _ (by omega) rfl (by omega) (Hx.refl _) (by rw [List.drop_zero]; exact hZ)
theorem run_spWriteBlock {v : V} {es : List Ev} {H : LH} (h : At H evC 8 v es) (hes : ∀ e ∈ es, evCFit e) (hl : es.length ≤ 1048576) (hsh : ∀ e ∈ es, Short e) (fl : Nat) :
    run 23 [v] fl H = some (.str (blkB es), H) := by
  have ht : ∀ e ∈ es, e.text.size ≤ 16777216 := fun e he => by have := hsh e he; unfold Short at this; omega
  have n2 := fun fl => run_spCanWrite h hes hl ht fl
  have n3 := fun fl => run_l21Keys h hl hsh fl
  have i1 := h.isTup
  have hc : CostOk es := fun e he => (hsh e he).cost
  obtain ⟨Z, hZ⟩ : ∃ Z, blkB es = Z := ⟨_, rfl⟩
  rw [hZ]
  unfold blkB at hZ
  by_cases hn : cwM es = true
  rotate_left
  · rw [if_neg (fun h => hn h.1)] at hZ
    have hn : cwM es = false := by simpa using hn
    rw [hn] at n2
    unfold run at *
    rw [Run_z Tryd.func23 rfl (by rfl : ok 23 = true) (by rfl : cfg.keep 23 = [0, 2, 3, 5, 13, 15, 16, 17, 18, 30]) (by rfl : cfg.mode 23 = .pure) (by rfl : cfg.ord 23 = [])]
    simp (config := {contextual := true, maxSteps := 10000000, implicitDefEqProofs := false}) (disch := first | (and_intros <;> omega -splitDisjunctions) | (simp only [List.length_set, List.length_append, List.length_cons, List.length_nil]; and_intros <;> omega -splitDisjunctions) | fail) only [n2, i1, Tryd.f23, go_sem, ↓reduceIte, Nat.reduceEqDiff, Nat.reduceAdd, Nat.reduceMul, Nat.reduceLT, Nat.reduceLeDiff, reduceCtorEq, Int.reduceNe, Int.reduceEq, Int.reduceLT, Int.reduceLE, Int.reduceAdd, Int.reduceSub, Int.reduceMul, Int.reduceNeg, Int.reduceToNat, UInt8.reduceToNat, natLit, ty3, ty4, ty9, ty67]
    rw [← hZ]
  have hcw := hn
  rw [hn] at n2
  by_cases hs : shM es = true
  rotate_left
  · rw [if_neg (fun h => hs h.2)] at hZ
    have hs : shM es = false := by simpa using hs
    rw [hs] at n3
    unfold run at *
    rw [Run_z Tryd.func23 rfl (by rfl : ok 23 = true) (by rfl : cfg.keep 23 = [0, 2, 3, 5, 13, 15, 16, 17, 18, 30]) (by rfl : cfg.mode 23 = .pure) (by rfl : cfg.ord 23 = [])]
    simp (config := {contextual := true, maxSteps := 10000000, implicitDefEqProofs := false}) (disch := first | (and_intros <;> omega -splitDisjunctions) | (simp only [List.length_set, List.length_append, List.length_cons, List.length_nil]; and_intros <;> omega -splitDisjunctions) | fail) only [n2, n3, i1, Tryd.f23, go_sem, ↓reduceIte, Nat.reduceEqDiff, Nat.reduceAdd, Nat.reduceMul, Nat.reduceLT, Nat.reduceLeDiff, reduceCtorEq, Int.reduceNe, Int.reduceEq, Int.reduceLT, Int.reduceLE, Int.reduceAdd, Int.reduceSub, Int.reduceMul, Int.reduceNeg, Int.reduceToNat, UInt8.reduceToNat, natLit, ty3, ty4, ty9, ty67]
    rw [← hZ]
  rw [if_pos ⟨hn, hs⟩] at hZ
  rw [hs] at n3
  have hw := cw_whole hn
  have hn2 := whole_nested hw
  obtain ⟨w0, C, e7, xC, oC⟩ := run_spRootsOf h hes hl hn2 H.length
  have aC := oC.at inN_len
  have w1 := aC.isTup; have w2 := aC.len; have w3 := aC.lenOk ty67; have w4 := aC.one
  have w6 := aC.idx (T := ty Tryd.prog) (t := 67) (by simp only [elemI, sizeO, ty3, ty67])
  have hfew := rootsF_few es
  have hrin := rootsF_in es
  generalize rootsF es = rs at *
  have hIH := fun (x : Nat) fl (hx : x < es.length) (h3 : isN (evA es x)) => (show run 21 [v, .int .i64 (x : Int), .int .i64 0] fl C = some (.str (blkT es es.length x 0), C) from by
    rw [run_spBlockLines (h.ext xC) hes hl hsh (x : Int) 0 fl]
    unfold blkW
    rw [if_pos ⟨hcw, by omega, by omega, by omega, by omega, h3⟩]
    rfl)
  have hbd := fun (x : Nat) (hx : x < es.length) (h3 : isN (evA es x)) => blk_bound hw hc hl (d := es.length) (col := 0) hx (by omega) h3 (by omega)
  unfold run at *
  rw [Run_z Tryd.func23 rfl (by rfl : ok 23 = true) (by rfl : cfg.keep 23 = [0, 2, 3, 5, 13, 15, 16, 17, 18, 30]) (by rfl : cfg.mode 23 = .pure) (by rfl : cfg.ord 23 = [])]
  simp (config := {contextual := true, maxSteps := 10000000, implicitDefEqProofs := false}) (disch := first | (and_intros <;> omega -splitDisjunctions) | (simp only [List.length_set, List.length_append, List.length_cons, List.length_nil]; and_intros <;> omega -splitDisjunctions) | fail) only [n2, n3, i1, e7, w1, w2, w3, w4, Tryd.f23, go_sem, ↓reduceIte, Nat.reduceEqDiff, Nat.reduceAdd, Nat.reduceMul, Nat.reduceLT, Nat.reduceLeDiff, reduceCtorEq, Int.reduceNe, Int.reduceEq, Int.reduceLT, Int.reduceLE, Int.reduceAdd, Int.reduceSub, Int.reduceMul, Int.reduceNeg, Int.reduceToNat, UInt8.reduceToNat, natLit, ty3, ty4, ty9, ty67]
  refine at_loopE fun c R hc hR => ?_
  have key : ∀ (m : Nat) (j : Nat) (jj : Int) (s : ByteArray) (x2 x5 x13 x18 x30 : Option V), rs.length - j < m → jj = j → j ≤ rs.length → s.size ≤ 13212057600010 * j → wOut ((rs.drop j).foldl (catB (fun r => blkT es es.length r 0)) s) = Z →
      zEv (leaveX (mkR Tryd.prog cfg ok [0, 2, 3, 5, 13, 15, 16, 17, 18, 30] H.length) .pure H [ResultVar.tmp 2]) (mkR Tryd.prog cfg ok [0, 2, 3, 5, 13, 15, 16, 17, 18, 30] H.length) (K.code (Code.loop c) :: K.blk 0 :: R) .nrm [some v, x2, some (.str s), x5, x13, some w0, some (.int .i64 rs.length), some (.int .i64 jj), x18, x30] (C) = some (.str Z, H) := by
    intro m
    induction m with
    | zero => intro j jj s x2 x5 x13 x18 x30 hm; omega
    | succ m ih =>
      intro j jj s x2 x5 x13 x18 x30 hm hj hjl hs hz
      subst hj
      have hs2 : s.size ≤ 13212057600010 * 524288 := Nat.le_trans hs (Nat.mul_le_mul_left _ (by omega))
      by_cases hlj : j < rs.length
      rotate_left
      · have t5 : ((j : Int) < rs.length) = False := eq_false (by omega)
        rw [List.drop_of_length_le (by omega), List.foldl_nil] at hz
        rw [zEv_round hc, ← hR]
        simp (config := {contextual := true, maxSteps := 10000000, implicitDefEqProofs := false}) (disch := first | (and_intros <;> omega -splitDisjunctions) | (simp only [List.length_set, List.length_append, List.length_cons, List.length_nil]; and_intros <;> omega -splitDisjunctions) | fail) only [t5, Tryd.f23, go_sem, ↓reduceIte, Nat.reduceEqDiff, Nat.reduceAdd, Nat.reduceMul, Nat.reduceLT, Nat.reduceLeDiff, reduceCtorEq, Int.reduceNe, Int.reduceEq, Int.reduceLT, Int.reduceLE, Int.reduceAdd, Int.reduceSub, Int.reduceMul, Int.reduceNeg, Int.reduceToNat, UInt8.reduceToNat, natLit, ty3, ty4, ty9, ty67]
        unfold wOut at hz
        refine ite_E (fun w => ?_) (fun w => ?_)
        · rw [if_pos (by omega)] at hz; rw [← hz]
        · rw [if_neg (by omega)] at hz; rw [← hz]
      have t5 : ((j : Int) < rs.length) = True := eq_true (by omega)
      have s1 := fun n K => aC.load1 0 (fun x => .int .i64 (x : Nat)) (fun _ => rfl) j hlj n K
      have s2 := aC.con (by omega)
      have hxi := hrin (rs.getD j 0) (by rw [getD_of hlj]; exact List.getElem_mem _)
      have n3 := fun fl => hIH (rs.getD j 0) fl hxi.1 hxi.2
      have hxb := hbd (rs.getD j 0) hxi.1 hxi.2
      rw [List.drop_eq_getElem_cons hlj, ← getD_of hlj 0, List.foldl_cons] at hz
      have hz : wOut ((rs.drop (j + 1)).foldl (catB (fun r => blkT es es.length r 0)) (s ++ ⟨#[45, 45, 45]⟩ ++ blkT es es.length (rs.getD j 0) 0)) = Z := hz
      obtain ⟨T, hT⟩ : ∃ T, T = blkT es es.length (rs.getD j 0) 0 := ⟨_, rfl⟩
      rw [← hT] at hz n3 hxb
      try unfold run at n3
      rw [zEv_round hc, ← hR]
      simp (config := {contextual := true, maxSteps := 10000000, implicitDefEqProofs := false}) (disch := first | (and_intros <;> omega -splitDisjunctions) | (simp only [List.length_set, List.length_append, List.length_cons, List.length_nil]; and_intros <;> omega -splitDisjunctions) | fail) only [t5, s1, s2, n3, w1, w2, w3, w4, w6, Tryd.f23, go_sem, ↓reduceIte, Nat.reduceEqDiff, Nat.reduceAdd, Nat.reduceMul, Nat.reduceLT, Nat.reduceLeDiff, reduceCtorEq, Int.reduceNe, Int.reduceEq, Int.reduceLT, Int.reduceLE, Int.reduceAdd, Int.reduceSub, Int.reduceMul, Int.reduceNeg, Int.reduceToNat, UInt8.reduceToNat, natLit, ty3, ty4, ty9, ty67]
      rw [hR]
      exact ih (j + 1) ((j : Int) + 1) _ _ _ _ _ _ (by omega) (by omega) (by omega) (by simp only [ByteArray.size_append, sz3]; omega) hz
  exact key (rs.length + 1) 0 0 ⟨#[]⟩ _ _ _ _ _ (by omega) rfl (by omega) (by simp [ByteArray.size]) (by rw [List.drop_zero]; exact hZ)
end Go.Proofs.YtcbjmggbbnpbpaaDoor.Lg
