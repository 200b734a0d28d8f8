/- WriteFlow, as the program has it twice. No condition. -/
import Derived.Test.YtcbjmggbbnpbpaaDoorCFl2
import Derived.Test.YtcbjmggbbnpbpaaDoorCCWLaw
namespace Go.Proofs.YtcbjmggbbnpbpaaDoor.Lg
set_option linter.unusedSimpArgs false
set_option linter.unusedVariables false
set_option maxRecDepth 100000
set_option maxHeartbeats 40000000
open Go.Proofs.YtcbjmggbbnpbpaaDoor

def wOut (x : ByteArray) : ByteArray := if 60000 < x.size then ⟨#[]⟩ else x
def catF (f : Nat → ByteArray) (s : ByteArray) (r : Nat) : ByteArray := s ++ ⟨#[45, 45, 45, 32]⟩ ++ f r ++ ⟨#[10]⟩
def catB (f : Nat → ByteArray) (s : ByteArray) (r : Nat) : ByteArray := s ++ ⟨#[45, 45, 45]⟩ ++ f r
theorem cat_ge {g : ByteArray → Nat → ByteArray} (hg : ∀ s r, s.size ≤ (g s r).size) : ∀ (rs : List Nat) (s : ByteArray), s.size ≤ (rs.foldl g s).size
  | [], s => Nat.le_refl _
  | r :: rs, s => Nat.le_trans (hg s r) (cat_ge hg rs (g s r))
theorem catF_ge (f : Nat → ByteArray) (s : ByteArray) (r : Nat) : s.size ≤ (catF f s r).size := by unfold catF; simp only [ByteArray.size_append]; omega
theorem catB_ge (f : Nat → ByteArray) (s : ByteArray) (r : Nat) : s.size ≤ (catB f s r).size := by unfold catB; simp only [ByteArray.size_append]; omega
theorem wOut_big {g : ByteArray → Nat → ByteArray} (hg : ∀ s r, s.size ≤ (g s r).size) {rs : List Nat} {s : ByteArray} (h : 60000 < s.size) : wOut (rs.foldl g s) = ⟨#[]⟩ := by
  unfold wOut
  rw [if_pos (Nat.lt_of_lt_of_le h (cat_ge hg rs s))]
def flowW (es : List Ev) : ByteArray := if cwM es = true then wOut ((rootsF es).foldl (catF (flowT es es.length)) ⟨#[]⟩) else ⟨#[]⟩
theorem cw_whole {es : List Ev} (h : cwM es = true) : wholeM es = true := by
  unfold cwM at h
  rw [Bool.and_eq_true] at h
  exact h.1
theorem whole_nested {es : List Ev} (hw : wholeM es = true) : nestedM es = true := by
  unfold wholeM tiedM at hw
  simp only [Bool.and_eq_true] at hw
  exact hw.1.1
theorem sz4 : (⟨#[45, 45, 45, 32]⟩ : ByteArray).size = 4 := rfl
theorem sz3 : (⟨#[45, 45, 45]⟩ : ByteArray).size = 3 := rfl
theorem sz1 : (⟨#[10]⟩ : ByteArray).size = 1 := rfl
theorem run_spWriteFlow {v : V} {es : List Ev} {H : LH} (h : At H evC 8 v es) (hes : ∀ e ∈ es, evCFit e) (hl : es.length ≤ 1048576) (hsh : ∀ e ∈ es, Short e) (fl : Nat) :
    run 19 [v] fl H = some (.str (flowW es), H) := by
  have ht : ∀ e ∈ es, e.text.size ≤ 16777216 := fun e he => by have := hsh e he; unfold Short at this; omega
  have n2 := fun fl => run_spCanWrite h hes hl ht fl
  have i1 := h.isTup
  have hc : CostOk es := fun e he => (hsh e he).cost
  obtain ⟨Z, hZ⟩ : ∃ Z, flowW es = Z := ⟨_, rfl⟩
  rw [hZ]
  unfold flowW at hZ
  by_cases hn : cwM es = true
  rotate_left
  · rw [if_neg hn] at hZ
    have hn : cwM es = false := by simpa using hn
    rw [hn] at n2
    unfold run at *
    rw [Run_z Tryd.func19 rfl (by rfl : ok 19 = true) (by rfl : cfg.keep 19 = [0, 2, 3, 5, 8, 10, 11, 12, 13, 26]) (by rfl : cfg.mode 19 = .pure) (by rfl : cfg.ord 19 = [])]
    simp (config := {contextual := true, maxSteps := 10000000, implicitDefEqProofs := false}) (disch := first | (and_intros <;> omega -splitDisjunctions) | (simp only [List.length_set, List.length_append, List.length_cons, List.length_nil]; and_intros <;> omega -splitDisjunctions) | fail) only [n2, i1, Tryd.f19, go_sem, ↓reduceIte, Nat.reduceEqDiff, Nat.reduceAdd, Nat.reduceMul, Nat.reduceLT, Nat.reduceLeDiff, reduceCtorEq, Int.reduceNe, Int.reduceEq, Int.reduceLT, Int.reduceLE, Int.reduceAdd, Int.reduceSub, Int.reduceMul, Int.reduceNeg, Int.reduceToNat, UInt8.reduceToNat, natLit, ty3, ty4, ty9, ty67]
    rw [← hZ]
  rw [if_pos hn] at hZ
  have hw := cw_whole hn
  have hn2 := whole_nested hw
  rw [hn] at n2
  obtain ⟨w0, C, e7, xC, oC⟩ := run_spRootsOf h hes hl hn2 H.length
  have aC := oC.at inN_len
  have w1 := aC.isTup; have w2 := aC.len; have w3 := aC.lenOk ty67; have w4 := aC.one
  have w6 := aC.idx (T := ty Tryd.prog) (t := 67) (by simp only [elemI, sizeO, ty3, ty67])
  have hfew := rootsF_few es
  have hrin := rootsF_in es
  generalize rootsF es = rs at *
  have hIH := fun (x : Nat) fl (hx : x < es.length) (h3 : isN (evA es x)) => run_l20Node hw hsh hl es.length x v C fl (h.ext xC) hx (by omega) h3
  have hbd := fun (x : Nat) (hx : x < es.length) (h3 : isN (evA es x)) => flow_bound hw hc hl (d := es.length) hx (by omega) h3
  unfold run at *
  rw [Run_z Tryd.func19 rfl (by rfl : ok 19 = true) (by rfl : cfg.keep 19 = [0, 2, 3, 5, 8, 10, 11, 12, 13, 26]) (by rfl : cfg.mode 19 = .pure) (by rfl : cfg.ord 19 = [])]
  simp (config := {contextual := true, maxSteps := 10000000, implicitDefEqProofs := false}) (disch := first | (and_intros <;> omega -splitDisjunctions) | (simp only [List.length_set, List.length_append, List.length_cons, List.length_nil]; and_intros <;> omega -splitDisjunctions) | fail) only [n2, i1, e7, w1, w2, w3, w4, Tryd.f19, go_sem, ↓reduceIte, Nat.reduceEqDiff, Nat.reduceAdd, Nat.reduceMul, Nat.reduceLT, Nat.reduceLeDiff, reduceCtorEq, Int.reduceNe, Int.reduceEq, Int.reduceLT, Int.reduceLE, Int.reduceAdd, Int.reduceSub, Int.reduceMul, Int.reduceNeg, Int.reduceToNat, UInt8.reduceToNat, natLit, ty3, ty4, ty9, ty67]
  refine at_loopE fun c R hc hR => ?_
  have key : ∀ (m : Nat) (j : Nat) (jj : Int) (s : ByteArray) (x2 x5 x8 x13 x26 : Option V), rs.length - j < m → jj = j → j ≤ rs.length → s.size ≤ 10995183386630 * j → wOut ((rs.drop j).foldl (catF (flowT es es.length)) s) = Z →
      zEv (leaveX (mkR Tryd.prog cfg ok [0, 2, 3, 5, 8, 10, 11, 12, 13, 26] H.length) .pure H [ResultVar.tmp 2]) (mkR Tryd.prog cfg ok [0, 2, 3, 5, 8, 10, 11, 12, 13, 26] H.length) (K.code (Code.loop c) :: K.blk 0 :: R) .nrm [some v, x2, some (.str s), x5, x8, some w0, some (.int .i64 rs.length), some (.int .i64 jj), x13, x26] (C) = some (.str Z, H) := by
    intro m
    induction m with
    | zero => intro j jj s x2 x5 x8 x13 x26 hm; omega
    | succ m ih =>
      intro j jj s x2 x5 x8 x13 x26 hm hj hjl hs hz
      subst hj
      have hs2 : s.size ≤ 10995183386630 * 524288 := Nat.le_trans hs (Nat.mul_le_mul_left _ (by omega))
      by_cases hlj : j < rs.length
      rotate_left
      · have t5 : ((j : Int) < rs.length) = False := eq_false (by omega)
        rw [List.drop_of_length_le (by omega), List.foldl_nil] at hz
        rw [zEv_round hc, ← hR]
        simp (config := {contextual := true, maxSteps := 10000000, implicitDefEqProofs := false}) (disch := first | (and_intros <;> omega -splitDisjunctions) | (simp only [List.length_set, List.length_append, List.length_cons, List.length_nil]; and_intros <;> omega -splitDisjunctions) | fail) only [t5, Tryd.f19, go_sem, ↓reduceIte, Nat.reduceEqDiff, Nat.reduceAdd, Nat.reduceMul, Nat.reduceLT, Nat.reduceLeDiff, reduceCtorEq, Int.reduceNe, Int.reduceEq, Int.reduceLT, Int.reduceLE, Int.reduceAdd, Int.reduceSub, Int.reduceMul, Int.reduceNeg, Int.reduceToNat, UInt8.reduceToNat, natLit, ty3, ty4, ty9, ty67]
        unfold wOut at hz
        refine ite_E (fun w => ?_) (fun w => ?_)
        · rw [if_pos (by omega)] at hz; rw [← hz]
        · rw [if_neg (by omega)] at hz; rw [← hz]
      have t5 : ((j : Int) < rs.length) = True := eq_true (by omega)
      have s1 := fun n K => aC.load1 0 (fun x => .int .i64 (x : Nat)) (fun _ => rfl) j hlj n K
      have s2 := aC.con (by omega)
      have hxi := hrin (rs.getD j 0) (by rw [getD_of hlj]; exact List.getElem_mem _)
      have n3 := fun fl => hIH (rs.getD j 0) fl hxi.1 hxi.2
      have hxb := hbd (rs.getD j 0) hxi.1 hxi.2
      rw [List.drop_eq_getElem_cons hlj, ← getD_of hlj 0, List.foldl_cons] at hz
      unfold catF at hz
      have hz : wOut ((rs.drop (j + 1)).foldl (catF (flowT es es.length)) (s ++ ⟨#[45, 45, 45, 32]⟩ ++ flowT es es.length (rs.getD j 0) ++ ⟨#[10]⟩)) = Z := hz
      have hF : ∃ F, F = flowT es es.length := ⟨_, rfl⟩
      obtain ⟨F, hF⟩ := hF
      rw [← hF] at hz n3 hxb
      generalize F (rs.getD j 0) = T at *
      rw [zEv_round hc, ← hR]
      simp (config := {contextual := true, maxSteps := 10000000, implicitDefEqProofs := false}) (disch := first | (and_intros <;> omega -splitDisjunctions) | (simp only [List.length_set, List.length_append, List.length_cons, List.length_nil]; and_intros <;> omega -splitDisjunctions) | fail) only [t5, s1, s2, n3, w1, w2, w3, w4, w6, Tryd.f19, go_sem, ↓reduceIte, Nat.reduceEqDiff, Nat.reduceAdd, Nat.reduceMul, Nat.reduceLT, Nat.reduceLeDiff, reduceCtorEq, Int.reduceNe, Int.reduceEq, Int.reduceLT, Int.reduceLE, Int.reduceAdd, Int.reduceSub, Int.reduceMul, Int.reduceNeg, Int.reduceToNat, UInt8.reduceToNat, natLit, ty3, ty4, ty9, ty67]
      rw [hR]
      exact ih (j + 1) ((j : Int) + 1) _ _ _ _ _ _ (by omega) (by omega) (by omega) (by simp only [ByteArray.size_append, sz4, sz1]; omega) (by rw [← hF]; exact hz)
  exact key (rs.length + 1) 0 0 ⟨#[]⟩ _ _ _ _ _ (by omega) rfl (by omega) (by simp [ByteArray.size]) (by rw [List.drop_zero]; exact hZ)
theorem run_imWriteFlow {v : V} {es : List Ev} {H : LH} (h : At H evC 8 v es) (hes : ∀ e ∈ es, evCFit e) (hl : es.length ≤ 1048576) (hcap : capOk v) (hsh : ∀ e ∈ es, Short e) (fl : Nat) :
    run 20 [v] fl H = some (.str (flowW es), H) := by
  have ht : ∀ e ∈ es, e.text.size ≤ 16777216 := fun e he => by have := hsh e he; unfold Short at this; omega
  have n2 := fun fl => run_imCanWrite h hes hl hcap ht fl
  have i1 := h.isTup; have i4 := h.one
  have hc : CostOk es := fun e he => (hsh e he).cost
  obtain ⟨Z, hZ⟩ : ∃ Z, flowW es = Z := ⟨_, rfl⟩
  rw [hZ]
  unfold flowW at hZ
  by_cases hn : cwM es = true
  rotate_left
  · rw [if_neg hn] at hZ
    have hn : cwM es = false := by simpa using hn
    rw [hn] at n2
    unfold run at *
    rw [Run_z Tryd.func20 rfl (by rfl : ok 20 = true) (by rfl : cfg.keep 20 = [0, 2, 3, 4, 6, 9, 13, 14, 15, 16, 28]) (by rfl : cfg.mode 20 = .pure) (by rfl : cfg.ord 20 = [])]
    simp (config := {contextual := true, maxSteps := 10000000, implicitDefEqProofs := false}) (disch := first | (and_intros <;> omega -splitDisjunctions) | (simp only [List.length_set, List.length_append, List.length_cons, List.length_nil]; and_intros <;> omega -splitDisjunctions) | fail) only [n2, i1, Tryd.f20, go_sem, ↓reduceIte, Nat.reduceEqDiff, Nat.reduceAdd, Nat.reduceMul, Nat.reduceLT, Nat.reduceLeDiff, reduceCtorEq, Int.reduceNe, Int.reduceEq, Int.reduceLT, Int.reduceLE, Int.reduceAdd, Int.reduceSub, Int.reduceMul, Int.reduceNeg, Int.reduceToNat, UInt8.reduceToNat, natLit, ty3, ty4, ty9, ty39, ty65, ty67, ty71]
    rw [← hZ]
  rw [if_pos hn] at hZ
  have hw := cw_whole hn
  have hn2 := whole_nested hw
  rw [hn] at n2
  obtain ⟨w, G, e1, hxG, ve, vu, vd, rfl, hE, hU, hD⟩ := run_nestOf h hl (nestedM_bal hn2) H.length
  have hN : NsAt G v ve vu vd es := ⟨h.ext hxG, hE.at (fun x => rfl), hU.at (fun x => rfl), hD.at (fun x => rfl)⟩
  have j1 := hN.e.one; have j2 := hN.u.one; have j3 := hN.d.one
  have j4 := hN.e.isTup; have j5 := hN.u.isTup; have j6 := hN.d.isTup
  obtain ⟨w0, C, e7, xC, oC⟩ := run_roots (hN.ext (Hx.app (L := [.cells [v, ve, vu, vd]]))) hl hn2 H.length
  have hxC : Hx G C := Hx.app.trans xC
  have cN : LH.cellsAt C G.length = some [v, ve, vu, vd] := xC.cells (by rw [cellsAt_app0]; rfl)
  have hlG := hxG.len
  have aC := oC.at inN_len
  have w1 := aC.isTup; have w2 := aC.len; have w3 := aC.lenOk ty67; have w4 := aC.one
  have w6 := aC.idx (T := ty Tryd.prog) (t := 67) (by simp only [elemI, sizeO, ty3, ty67])
  have hfew := rootsF_few es
  have hrin := rootsF_in es
  generalize rootsF es = rs at *
  have hIH := fun (x : Nat) fl (hx : x < es.length) (h3 : isN (evA es x)) => run_flowText hw hsh hl es.length x v ve vu vd C fl (hN.ext hxC) hx (by omega) h3
  have hbd := fun (x : Nat) (hx : x < es.length) (h3 : isN (evA es x)) => flow_bound hw hc hl (d := es.length) hx (by omega) h3
  unfold run at *
  rw [Run_z Tryd.func20 rfl (by rfl : ok 20 = true) (by rfl : cfg.keep 20 = [0, 2, 3, 4, 6, 9, 13, 14, 15, 16, 28]) (by rfl : cfg.mode 20 = .pure) (by rfl : cfg.ord 20 = [])]
  simp (config := {contextual := true, maxSteps := 10000000, implicitDefEqProofs := false}) (disch := first | (and_intros <;> omega -splitDisjunctions) | (simp only [List.length_set, List.length_append, List.length_cons, List.length_nil]; and_intros <;> omega -splitDisjunctions) | fail) only [n2, i1, i4, e1, e7, j1, j2, j3, j4, j5, j6, w1, w2, w3, w4, Tryd.f20, go_sem, ↓reduceIte, Nat.reduceEqDiff, Nat.reduceAdd, Nat.reduceMul, Nat.reduceLT, Nat.reduceLeDiff, reduceCtorEq, Int.reduceNe, Int.reduceEq, Int.reduceLT, Int.reduceLE, Int.reduceAdd, Int.reduceSub, Int.reduceMul, Int.reduceNeg, Int.reduceToNat, UInt8.reduceToNat, natLit, ty3, ty4, ty9, ty39, ty65, ty67, ty71]
  refine at_loopE fun c R hc hR => ?_
  have key : ∀ (m : Nat) (j : Nat) (jj : Int) (s : ByteArray) (x2 x6 x9 x16 x28 : Option V), rs.length - j < m → jj = j → j ≤ rs.length → s.size ≤ 60000 → wOut ((rs.drop j).foldl (catF (flowT es es.length)) s) = Z →
      zEv (leaveX (mkR Tryd.prog cfg ok [0, 2, 3, 4, 6, 9, 13, 14, 15, 16, 28] H.length) .pure H [ResultVar.tmp 2]) (mkR Tryd.prog cfg ok [0, 2, 3, 4, 6, 9, 13, 14, 15, 16, 28] H.length) (K.code (Code.loop c) :: K.blk 0 :: R) .nrm [some v, x2, some (.ptr G.length 0), some (.str s), x6, x9, some w0, some (.int .i64 rs.length), some (.int .i64 jj), x16, x28] (C) = some (.str Z, H) := by
    intro m
    induction m with
    | zero => intro j jj s x2 x6 x9 x16 x28 hm; omega
    | succ m ih =>
      intro j jj s x2 x6 x9 x16 x28 hm hj hjl hs hz
      subst hj
      by_cases hlj : j < rs.length
      rotate_left
      · have t5 : ((j : Int) < rs.length) = False := eq_false (by omega)
        rw [List.drop_of_length_le (by omega), List.foldl_nil] at hz
        rw [zEv_round hc, ← hR]
        simp (config := {contextual := true, maxSteps := 10000000, implicitDefEqProofs := false}) (disch := first | (and_intros <;> omega -splitDisjunctions) | (simp only [List.length_set, List.length_append, List.length_cons, List.length_nil]; and_intros <;> omega -splitDisjunctions) | fail) only [t5, Tryd.f20, go_sem, ↓reduceIte, Nat.reduceEqDiff, Nat.reduceAdd, Nat.reduceMul, Nat.reduceLT, Nat.reduceLeDiff, reduceCtorEq, Int.reduceNe, Int.reduceEq, Int.reduceLT, Int.reduceLE, Int.reduceAdd, Int.reduceSub, Int.reduceMul, Int.reduceNeg, Int.reduceToNat, UInt8.reduceToNat, natLit, ty3, ty4, ty9, ty39, ty65, ty67, ty71]
        unfold wOut at hz
        rw [if_neg (by omega)] at hz; rw [← hz]
      have t5 : ((j : Int) < rs.length) = True := eq_true (by omega)
      have s1 := fun n K => aC.load1 0 (fun x => .int .i64 (x : Nat)) (fun _ => rfl) j hlj n K
      have s2 := aC.con (by omega)
      have hxi := hrin (rs.getD j 0) (by rw [getD_of hlj]; exact List.getElem_mem _)
      have n3 := fun fl => hIH (rs.getD j 0) fl hxi.1 hxi.2
      have hxb := hbd (rs.getD j 0) hxi.1 hxi.2
      rw [List.drop_eq_getElem_cons hlj, ← getD_of hlj 0, List.foldl_cons] at hz
      have hz : wOut ((rs.drop (j + 1)).foldl (catF (flowT es es.length)) (s ++ ⟨#[45, 45, 45, 32]⟩ ++ flowT es es.length (rs.getD j 0) ++ ⟨#[10]⟩)) = Z := hz
      have hF : ∃ F, F = flowT es es.length := ⟨_, rfl⟩
      obtain ⟨F, hF⟩ := hF
      rw [← hF] at hz n3 hxb
      generalize F (rs.getD j 0) = T at *
      rw [zEv_round hc, ← hR]
      simp (config := {contextual := true, maxSteps := 10000000, implicitDefEqProofs := false}) (disch := first | (and_intros <;> omega -splitDisjunctions) | (simp only [List.length_set, List.length_append, List.length_cons, List.length_nil]; and_intros <;> omega -splitDisjunctions) | fail) only [t5, s1, s2, cN, n3, w1, w2, w3, w4, w6, j1, j2, j3, j4, j5, j6, i1, Tryd.f20, go_sem, ↓reduceIte, Nat.reduceEqDiff, Nat.reduceAdd, Nat.reduceMul, Nat.reduceLT, Nat.reduceLeDiff, reduceCtorEq, Int.reduceNe, Int.reduceEq, Int.reduceLT, Int.reduceLE, Int.reduceAdd, Int.reduceSub, Int.reduceMul, Int.reduceNeg, Int.reduceToNat, UInt8.reduceToNat, natLit, ty3, ty4, ty9, ty39, ty65, ty67, ty71]
      rw [hR]
      refine ite_E (fun w => ?_) (fun w => ?_)
      · rw [wOut_big (catF_ge _) (by simp only [ByteArray.size_append, sz4, sz1]; omega)] at hz
        rw [← hz]
      · exact ih (j + 1) ((j : Int) + 1) _ _ _ _ _ _ (by omega) (by omega) (by omega) (by simp only [ByteArray.size_append, sz4, sz1]; omega) (by rw [← hF]; exact hz)
  exact key (rs.length + 1) 0 0 ⟨#[]⟩ _ _ _ _ _ (by omega) rfl (by omega) (by simp [ByteArray.size]) (by rw [List.drop_zero]; exact hZ)
theorem run_FnExactWriteFlow (v : V) (xs : List Ev) (fl : Nat) (H : LH) (h : At H evC 8 v xs) (hl : xs.length ≤ 9223372036854775807) (hf : ∀ x ∈ xs, evCFit x) :
    run 5 [v] fl H = some (.bool true, H) := by
  have f1 := h.isTup
  have e0 := run_szEventS v xs 1048576 H.length H h (by decide) (by decide) hl hf
  by_cases hs : (1048576 : Int) < xs.length + sumZ evCW xs
  · unfold run at *
    rw [if_pos hs] at e0
    rw [Run_z Tryd.func5 rfl (by rfl : ok 5 = true) (by rfl : cfg.keep 5 = [0, 2, 3, 4, 5, 6, 11, 21, 26]) (by rfl : cfg.mode 5 = .pure) (by rfl : cfg.ord 5 = [])]
    simp (config := {contextual := true, maxSteps := 10000000, implicitDefEqProofs := false}) (disch := first | (and_intros <;> omega -splitDisjunctions) | (simp only [List.length_set, List.length_append, List.length_cons, List.length_nil]; and_intros <;> omega -splitDisjunctions) | fail) only [e0, f1, Tryd.f5, go_sem, ↓reduceIte, Nat.reduceEqDiff, Nat.reduceAdd, Nat.reduceMul, Nat.reduceLT, Nat.reduceLeDiff, reduceCtorEq, Int.reduceNe, Int.reduceEq, Int.reduceLT, Int.reduceLE, Int.reduceAdd, Int.reduceSub, Int.reduceMul, Int.reduceNeg, Int.reduceToNat, UInt8.reduceToNat, natLit, ty3, ty4, ty9]
  · rw [if_neg hs] at e0
    have w0 := sumZ_nonneg (w := evCW) (fun x => by unfold evCW; omega) xs
    have hx : xs.length ≤ 1048576 := by omega
    have ht : ∀ e ∈ xs, Short e := fun e he => by
      have := sumZ_mem (w := evCW) (fun x => by unfold evCW; omega) he
      have h2 : ((e.text.size + e.anchor.size + e.tag.size : Nat) : Int) ≤ evCW e := by unfold evCW; omega
      unfold Short
      omega
    have e1 := run_toEventS v xs H.length H h hx
    have x1 : Hx H (H ++ [Blk.cells (rows evC xs)]) := Hx.app
    have e2 := run_spWriteFlow (At.new (H := H) (L := ([] : LH)) evC_len) hf hx ht H.length
    have e3 := run_toEventS v xs H.length (H ++ [Blk.cells (rows evC xs)]) (h.ext x1) hx
    have l1 : (H ++ [Blk.cells (rows evC xs)]).length = H.length + 1 := by simp
    have e4 := run_imWriteFlow (At.new (H := H ++ [Blk.cells (rows evC xs)]) (L := ([] : LH)) evC_len) hf hx (by simp [capOk]) ht H.length
    have x2 : Hx H (H ++ [Blk.cells (rows evC xs)] ++ [Blk.cells (rows evC xs)]) := x1.trans Hx.app
    have e5 := run_toEventS v xs H.length (H ++ [Blk.cells (rows evC xs)] ++ [Blk.cells (rows evC xs)]) (h.ext x2) hx
    have a6 : At (H ++ [Blk.cells (rows evC xs)] ++ [Blk.cells (rows evC xs)]) evC 8 (.sl (H ++ [Blk.cells (rows evC xs)]).length 0 8 xs.length xs.length) xs := At.new evC_len
    have e6 := run_eqEventS (.sl (H ++ [Blk.cells (rows evC xs)]).length 0 8 xs.length xs.length) (.sl (H ++ [Blk.cells (rows evC xs)] ++ [Blk.cells (rows evC xs)]).length 0 8 xs.length xs.length) xs xs H.length (H ++ [Blk.cells (rows evC xs)] ++ [Blk.cells (rows evC xs)] ++ [Blk.cells (rows evC xs)]) a6.left (At.new evC_len) (by omega) (by omega)
    have hb : ¬ (1048576 : Int) - (xs.length + sumZ evCW xs) < 0 := by omega
    simp only [List.append_assoc, List.cons_append, List.nil_append, List.length_append, List.length_cons, List.length_nil, Nat.zero_add] at e1 e2 e3 e4 e5 e6
    unfold run at *
    rw [Run_z Tryd.func5 rfl (by rfl : ok 5 = true) (by rfl : cfg.keep 5 = [0, 2, 3, 4, 5, 6, 11, 21, 26]) (by rfl : cfg.mode 5 = .pure) (by rfl : cfg.ord 5 = [])]
    simp (config := {contextual := true, maxSteps := 10000000, implicitDefEqProofs := false}) (disch := first | (and_intros <;> omega -splitDisjunctions) | (simp only [List.length_set, List.length_append, List.length_cons, List.length_nil]; and_intros <;> omega -splitDisjunctions) | fail) only [e0, e1, e2, e3, e4, e5, e6, hb, f1, Tryd.f5, go_sem, ↓reduceIte, Nat.reduceEqDiff, Nat.reduceAdd, Nat.reduceMul, Nat.reduceLT, Nat.reduceLeDiff, reduceCtorEq, Int.reduceNe, Int.reduceEq, Int.reduceLT, Int.reduceLE, Int.reduceAdd, Int.reduceSub, Int.reduceMul, Int.reduceNeg, Int.reduceToNat, UInt8.reduceToNat, natLit, ty3, ty4, ty9]
end Go.Proofs.YtcbjmggbbnpbpaaDoor.Lg
