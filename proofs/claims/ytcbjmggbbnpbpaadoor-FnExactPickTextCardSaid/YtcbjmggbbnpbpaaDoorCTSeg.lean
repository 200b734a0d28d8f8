/- What the laws do with values of Seg, over the logical machine. No condition. -/
import Derived.Test.YtcbjmggbbnpbpaaDoorLc
import Derived.Test.YtcbjmggbbnpbpaaDoorCMk
namespace Go.Proofs.YtcbjmggbbnpbpaaDoor.Lg
set_option linter.unusedSimpArgs false
set_option linter.unusedVariables false
set_option maxRecDepth 100000
set_option maxHeartbeats 40000000
open Go.Proofs.YtcbjmggbbnpbpaaDoor
set_option linter.unusedSectionVars false
variable [ML]

/-- a value of Seg -/
structure Sg where
  kind : Int
  n : Int
  text : ByteArray
  deriving DecidableEq
def sgC (e : Sg) : List V := [.int .i64 e.kind, .int .i64 e.n, .str e.text]
theorem sgC_len (e : Sg) : (sgC e).length = 3 := rfl
def sg0 : Sg := ⟨0, 0, ⟨#[]⟩⟩
/-- its measure -/
def sgCW (e : Sg) : Int := (e.text.size : Int)
def sgCFit (e : Sg) : Prop := e.text.size ≤ 9223372036854775807
theorem run_toSeg (e : Sg) (fl : Nat) (H : LH) : run 83 [.agg (sgC e)] fl H = some (.agg (sgC e), H) := by
  unfold run sgC
  rw [Run_z Tryd.func83 rfl (by rfl : ok 83 = true) (by rfl : cfg.keep 83 = [0, 1, 2, 3]) (by rfl : cfg.mode 83 = .pure) (by rfl : cfg.ord 83 = [])]
  simp (config := {contextual := true, maxSteps := 10000000, implicitDefEqProofs := false}) (disch := first | (and_intros <;> omega -splitDisjunctions) | (simp only [List.length_set, List.length_append, List.length_cons, List.length_nil]; and_intros <;> omega -splitDisjunctions) | fail) only [Tryd.f83, go_sem, ↓reduceIte, Nat.reduceEqDiff, Nat.reduceAdd, Nat.reduceMul, Nat.reduceLT, Nat.reduceLeDiff, reduceCtorEq, Int.reduceNe, Int.reduceEq, Int.reduceLT, Int.reduceLE, Int.reduceAdd, Int.reduceSub, Int.reduceMul, Int.reduceNeg, Int.reduceToNat, UInt8.reduceToNat, natLit, ty3, ty9, ty101, ty102]
theorem run_eqSeg (a b : Sg) (fl : Nat) (H : LH) : run 88 [.agg (sgC a), .agg (sgC b)] fl H = some (.bool (decide (a = b)), H) := by
  unfold run sgC
  rw [Run_z Tryd.func88 rfl (by rfl : ok 88 = true) (by rfl : cfg.keep 88 = [0, 1, 2, 3, 4, 9, 14, 19]) (by rfl : cfg.mode 88 = .pure) (by rfl : cfg.ord 88 = [])]
  simp (config := {contextual := true, maxSteps := 10000000, implicitDefEqProofs := false}) (disch := first | (and_intros <;> omega -splitDisjunctions) | (simp only [List.length_set, List.length_append, List.length_cons, List.length_nil]; and_intros <;> omega -splitDisjunctions) | fail) only [Tryd.f88, go_sem, ↓reduceIte, Nat.reduceEqDiff, Nat.reduceAdd, Nat.reduceMul, Nat.reduceLT, Nat.reduceLeDiff, reduceCtorEq, Int.reduceNe, Int.reduceEq, Int.reduceLT, Int.reduceLE, Int.reduceAdd, Int.reduceSub, Int.reduceMul, Int.reduceNeg, Int.reduceToNat, UInt8.reduceToNat, natLit, ty3, ty9, ty102]
  cases a; cases b
  simp only [Sg.mk.injEq]
  grind
theorem run_szSeg (e : Sg) (left : Int) (fl : Nat) (H : LH) (h : 0 ≤ left) (h2 : left ≤ 1048576) (h3 : sgCFit e) :
    run 78 [.agg (sgC e), .int .i64 left] fl H = some (.int .i64 (if left < sgCW e then -1 else left - sgCW e), H) := by
  unfold sgCFit at h3
  unfold run sgC
  rw [Run_z Tryd.func78 rfl (by rfl : ok 78 = true) (by rfl : cfg.keep 78 = [0, 1, 2, 4, 11]) (by rfl : cfg.mode 78 = .pure) (by rfl : cfg.ord 78 = [])]
  simp (config := {contextual := true, maxSteps := 10000000, implicitDefEqProofs := false}) (disch := first | (and_intros <;> omega -splitDisjunctions) | (simp only [List.length_set, List.length_append, List.length_cons, List.length_nil]; and_intros <;> omega -splitDisjunctions) | fail) only [Tryd.f78, go_sem, ↓reduceIte, Nat.reduceEqDiff, Nat.reduceAdd, Nat.reduceMul, Nat.reduceLT, Nat.reduceLeDiff, reduceCtorEq, Int.reduceNe, Int.reduceEq, Int.reduceLT, Int.reduceLE, Int.reduceAdd, Int.reduceSub, Int.reduceMul, Int.reduceNeg, Int.reduceToNat, UInt8.reduceToNat, natLit, ty3, ty9, ty101]
  unfold sgCW
  (repeat' split) <;> first | (exfalso; omega) | rfl | (congr 3; omega)
theorem shp_Seg {n : Nat} {H : LH} (cs : List V) (h : Shp (ty Tryd.prog) (n + 2) 101 H cs) : ∃ e : Sg, cs = sgC e ∧ sgCFit e := by
  simp only [Shp, ShpF, ty3, ty9, ty101] at h
  obtain ⟨_, _, rfl, ⟨a0, rfl, _⟩, _, _, rfl, ⟨a1, rfl, _⟩, _, _, rfl, ⟨a2, rfl, z2⟩, rfl⟩ := h
  exact ⟨⟨a0, a1, a2⟩, rfl, z2⟩
theorem opn_Seg {H : LH} {x : V} (h : ShpA (ty Tryd.prog) 12 101 H x) : ∃ e : Sg, x = .agg (sgC e) ∧ sgCFit e := by
  unfold ShpA at h
  rw [ty101] at h
  obtain ⟨cs, rfl, h⟩ := h
  obtain ⟨e, rfl, f⟩ := shp_Seg (n := 10) cs h
  exact ⟨e, rfl, f⟩
theorem opn_SegS {H : LH} {x : V} (h : ShpA (ty Tryd.prog) 12 22 H x) : ∃ xs : List Sg, At H sgC 3 x xs ∧ xs.length ≤ 9223372036854775807 ∧ ∀ e ∈ xs, sgCFit e := by
  unfold ShpA at h
  rw [ty22] at h
  exact shp_slice ty22 (by simp only [sizeO, ty3, ty9, ty22, ty101]) sgC_len (fun cs h => shp_Seg (n := 9) cs h) h
theorem run_toSegS (v : V) (xs : List Sg) (fl : Nat) (H : LH) (h : At H sgC 3 v xs) (hx : xs.length ≤ 1048576) :
    run 35 [v] fl H = some (.sl H.length 0 3 xs.length xs.length, H ++ [.cells (rows sgC xs)]) := by
  have e1 := fun e fl H => run_toSeg e fl H
  have f1 := h.isTup; have f2 := h.len; have f3 := h.lenOk ty22
  have f4 := fun L (hp : 0 < xs.length) => (h.left (L := L)).con hp
  have f5 := h.idx (T := ty Tryd.prog) (t := 22) (by simp only [elemI, sizeO, ty3, ty9, ty22, ty101])
  unfold run at *
  rw [Run_z Tryd.func35 rfl (by rfl : ok 35 = true) (by rfl : cfg.keep 35 = [0, 2, 3, 4, 11]) (by rfl : cfg.mode 35 = .fresh) (by rfl : cfg.ord 35 = [])]
  simp (config := {contextual := true, maxSteps := 10000000, implicitDefEqProofs := false}) (disch := first | (and_intros <;> omega -splitDisjunctions) | (simp only [List.length_set, List.length_append, List.length_cons, List.length_nil]; and_intros <;> omega -splitDisjunctions) | fail) only [e1, f1, f2, f3, Tryd.f35, go_sem, ↓reduceIte, Nat.reduceEqDiff, Nat.reduceAdd, Nat.reduceMul, Nat.reduceLT, Nat.reduceLeDiff, reduceCtorEq, Int.reduceNe, Int.reduceEq, Int.reduceLT, Int.reduceLE, Int.reduceAdd, Int.reduceSub, Int.reduceMul, Int.reduceNeg, Int.reduceToNat, UInt8.reduceToNat, natLit, ty3, ty9, ty22, ty29, ty101, ty102]
  generalize hL : K.code (Code.loop _) = L
  generalize hR : (K.blk _ :: _ : List K) = R
  have key : ∀ (d i : Nat) (x11 : Option V) (ys : List Sg), xs.length - i = d → i ≤ xs.length → ys = xs.take i ++ List.replicate (xs.length - i) sg0 →
      zEv (leaveX (mkR Tryd.prog cfg ok [0, 2, 3, 4, 11] H.length) .fresh H [ResultVar.tmp 2]) (mkR Tryd.prog cfg ok [0, 2, 3, 4, 11] H.length) (L :: R) .nrm [some v, some .nilsl, some (.sl H.length 0 3 xs.length xs.length), some (.int .i64 i), x11] (H ++ [.cells (rows sgC ys)]) =
      some (.sl H.length 0 3 xs.length xs.length, H ++ [.cells (rows sgC xs)]) := by
    intro d
    induction d using Nat.strongRecOn with
    | _ d ih =>
    intro i x11 ys hd hi hys
    have hyl : ys.length = xs.length := by rw [hys]; simp; omega
    have g1 := rows_len sgC_len ys
    rw [hyl] at g1
    have g2 : i < xs.length → putAt (rows sgC ys) (i * 3) (sgC (xs.getD i sg0)) = rows sgC (ys.set i (xs.getD i sg0)) := fun hi => by
      have := rows_putD (enc := sgC) (j := 0) (xs := ys) sgC_len sg0 i (by omega) (ws := sgC (xs.getD i sg0)) (by simp [sgC_len]) _ rfl
      simpa using this
    have g3 := fun L => (h.left (L := L)).loadD sgC_len sg0
    have g4 : ∀ x : Sg, (sgC x).length = 3 := sgC_len
    skip
    rw [← hL, ← hR, zEv_loop]
    simp (config := {contextual := true, maxSteps := 10000000, implicitDefEqProofs := false}) (disch := first | (and_intros <;> omega -splitDisjunctions) | (simp only [List.length_set, List.length_append, List.length_cons, List.length_nil]; and_intros <;> omega -splitDisjunctions) | fail) only [e1, f1, f2, f3, f4, f5, g1, g2, g3, g4, Tryd.f35, go_sem, ↓reduceIte, Nat.reduceEqDiff, Nat.reduceAdd, Nat.reduceMul, Nat.reduceLT, Nat.reduceLeDiff, reduceCtorEq, Int.reduceNe, Int.reduceEq, Int.reduceLT, Int.reduceLE, Int.reduceAdd, Int.reduceSub, Int.reduceMul, Int.reduceNeg, Int.reduceToNat, UInt8.reduceToNat, natLit, ty3, ty9, ty22, ty29, ty101, ty102]
    rw [hL, hR]
    split
    · rename_i hlt
      have hlt : i < xs.length := by omega
      rw [show (i : Int) + 1 = ((i + 1 : Nat) : Int) by omega]
      refine ih (xs.length - (i + 1)) (by omega) (i + 1) _ _ rfl (by omega) ?_
      rw [hys, copy_step hlt]
    · rename_i hge
      have : i = xs.length := by omega
      subst this
      rw [hys, List.take_of_length_le (Nat.le_refl _), Nat.sub_self]
      simp
  have := fun x11 => key xs.length 0 x11 (List.replicate xs.length sg0) (by simp) (by simp) (by simp)
  simp only [rows_replicate] at this
  exact this _
theorem run_eqSegS (v w : V) (xs ys : List Sg) (fl : Nat) (H : LH) (h : At H sgC 3 v xs) (h' : At H sgC 3 w ys) (hx : xs.length ≤ 1099511627776) (hy : ys.length ≤ 1099511627776) :
    run 40 [v, w] fl H = some (.bool (decide (xs = ys)), H) := by
  have e1 := fun a b fl H => run_eqSeg a b fl H
  have f1 := h.isTup; have f2 := h.len; have f3 := h.lenOk ty29
  have f4 := fun L (hp : 0 < xs.length) => (h.left (L := L)).con hp
  have f5 := h.idx (T := ty Tryd.prog) (t := 29) (by simp only [elemI, sizeO, ty3, ty9, ty29, ty102])
  have g1 := h'.isTup; have g2 := h'.len; have g3 := h'.lenOk ty29
  have g4 := fun L (hp : 0 < ys.length) => (h'.left (L := L)).con hp
  have g5 := h'.idx (T := ty Tryd.prog) (t := 29) (by simp only [elemI, sizeO, ty3, ty9, ty29, ty102])
  have f4' := fun (hp : 0 < xs.length) => h.con hp
  have g4' := fun (hp : 0 < ys.length) => h'.con hp
  have f6 := fun L => (h.left (L := L)).loadD sgC_len sg0
  have g6 := fun L => (h'.left (L := L)).loadD sgC_len sg0
  have f6' := h.loadD sgC_len sg0
  have g6' := h'.loadD sgC_len sg0
  unfold run at *
  rw [Run_z Tryd.func40 rfl (by rfl : ok 40 = true) (by rfl : cfg.keep 40 = [0, 1, 4, 5, 10, 14, 26]) (by rfl : cfg.mode 40 = .pure) (by rfl : cfg.ord 40 = [])]
  by_cases hl : xs.length = ys.length
  · simp (config := {contextual := true, maxSteps := 10000000, implicitDefEqProofs := false}) (disch := first | (and_intros <;> omega -splitDisjunctions) | (simp only [List.length_set, List.length_append, List.length_cons, List.length_nil]; and_intros <;> omega -splitDisjunctions) | fail) only [hl, e1, f1, f2, f3, g1, g2, g3, Tryd.f40, go_sem, ↓reduceIte, Nat.reduceEqDiff, Nat.reduceAdd, Nat.reduceMul, Nat.reduceLT, Nat.reduceLeDiff, reduceCtorEq, Int.reduceNe, Int.reduceEq, Int.reduceLT, Int.reduceLE, Int.reduceAdd, Int.reduceSub, Int.reduceMul, Int.reduceNeg, Int.reduceToNat, UInt8.reduceToNat, natLit, ty3, ty4, ty9, ty29, ty102]
    generalize hL : K.code (Code.loop _) = L
    generalize hR : (K.blk _ :: _ : List K) = R
    have key : ∀ (d i : Nat) (x4 x10 x14 x26 : Option V), xs.length - i = d → i ≤ xs.length →
        zEv (leaveX (mkR Tryd.prog cfg ok [0, 1, 4, 5, 10, 14, 26] H.length) .pure H [ResultVar.tmp 4]) (mkR Tryd.prog cfg ok [0, 1, 4, 5, 10, 14, 26] H.length) (L :: R) .nrm [some v, some w, x4, some (.int .i64 i), x10, x14, x26] H =
        some (.bool (decide (xs.drop i = ys.drop i)), H) := by
      intro d
      induction d using Nat.strongRecOn with
      | _ d ih =>
      intro i x4 x10 x14 x26 hd hi
      rw [← hL, ← hR, zEv_loop]
      simp (config := {contextual := true, maxSteps := 10000000, implicitDefEqProofs := false}) (disch := first | (and_intros <;> omega -splitDisjunctions) | (simp only [List.length_set, List.length_append, List.length_cons, List.length_nil]; and_intros <;> omega -splitDisjunctions) | fail) only [e1, f1, f2, f3, f4', f5, f6', g1, g2, g3, g4', g5, g6', Tryd.f40, go_sem, ↓reduceIte, Nat.reduceEqDiff, Nat.reduceAdd, Nat.reduceMul, Nat.reduceLT, Nat.reduceLeDiff, reduceCtorEq, Int.reduceNe, Int.reduceEq, Int.reduceLT, Int.reduceLE, Int.reduceAdd, Int.reduceSub, Int.reduceMul, Int.reduceNeg, Int.reduceToNat, UInt8.reduceToNat, natLit, ty3, ty4, ty9, ty29, ty102]
      rw [hL, hR]
      split
      · rename_i hlt
        have hlt : i < xs.length := by omega
        have hlt' : i < ys.length := by omega
        rw [show (i : Int) + 1 = ((i + 1 : Nat) : Int) by omega, ih (xs.length - (i + 1)) (by omega) (i + 1) _ _ _ _ rfl (by omega), getD_of hlt, getD_of hlt', List.drop_eq_getElem_cons hlt, List.drop_eq_getElem_cons hlt']
        by_cases e : xs[i] = ys[i] <;> simp only [e, List.cons.injEq, true_and, false_and, not_true_eq_false, not_false_eq_true, if_true, if_false, decide_false]
      · rw [List.drop_of_length_le (by omega), List.drop_of_length_le (by omega)]
        rfl
    exact (key xs.length 0 _ _ _ _ rfl (Nat.zero_le _)).trans (by rw [List.drop_zero, List.drop_zero])
  · have h2 : ¬ xs = ys := fun e => hl (by rw [e])
    have h3 : ¬ (xs.length : Int) = (ys.length : Int) := by omega
    simp (config := {contextual := true, maxSteps := 10000000, implicitDefEqProofs := false}) (disch := first | (and_intros <;> omega -splitDisjunctions) | (simp only [List.length_set, List.length_append, List.length_cons, List.length_nil]; and_intros <;> omega -splitDisjunctions) | fail) only [h2, h3, e1, f1, f2, f3, g1, g2, g3, Tryd.f40, go_sem, ↓reduceIte, Nat.reduceEqDiff, Nat.reduceAdd, Nat.reduceMul, Nat.reduceLT, Nat.reduceLeDiff, reduceCtorEq, Int.reduceNe, Int.reduceEq, Int.reduceLT, Int.reduceLE, Int.reduceAdd, Int.reduceSub, Int.reduceMul, Int.reduceNeg, Int.reduceToNat, UInt8.reduceToNat, natLit, ty3, ty4, ty9, ty29, ty102]
theorem run_szSegS (v : V) (xs : List Sg) (left : Int) (fl : Nat) (H : LH) (h : At H sgC 3 v xs) (h0 : 0 ≤ left) (h2 : left ≤ 1048576) (hx : xs.length ≤ 9223372036854775807) (hf : ∀ x ∈ xs, sgCFit x) :
    run 30 [v, .int .i64 left] fl H = some (.int .i64 (if left < xs.length + sumZ sgCW xs then -1 else left - (xs.length + sumZ sgCW xs)), H) := by
  have e1 := fun i (hi : i < xs.length) l hl hl2 fl H => run_szSeg (xs.getD i sg0) l fl H hl hl2 (by rw [getD_of hi]; exact hf _ (List.getElem_mem hi))
  have f1 := h.isTup; have f2 := h.len; have f3 := h.lenOk ty22
  have f4 := fun (hp : 0 < xs.length) => h.con hp
  have f5 := h.idx (T := ty Tryd.prog) (t := 22) (by simp only [elemI, sizeO, ty3, ty9, ty22, ty101])
  have f6 := h.loadD sgC_len sg0
  have w0 : ∀ x, 0 ≤ sgCW x := fun x => by unfold sgCW; omega
  have w1 := sumZ_nonneg w0 xs
  unfold run at *
  rw [Run_z Tryd.func30 rfl (by rfl : ok 30 = true) (by rfl : cfg.keep 30 = [0, 1, 4, 5, 11, 15, 25]) (by rfl : cfg.mode 30 = .pure) (by rfl : cfg.ord 30 = [])]
  simp (config := {contextual := true, maxSteps := 10000000, implicitDefEqProofs := false}) (disch := first | (and_intros <;> omega -splitDisjunctions) | (simp only [List.length_set, List.length_append, List.length_cons, List.length_nil]; and_intros <;> omega -splitDisjunctions) | fail) only [e1, f1, f2, f3, Tryd.f30, go_sem, ↓reduceIte, Nat.reduceEqDiff, Nat.reduceAdd, Nat.reduceMul, Nat.reduceLT, Nat.reduceLeDiff, reduceCtorEq, Int.reduceNe, Int.reduceEq, Int.reduceLT, Int.reduceLE, Int.reduceAdd, Int.reduceSub, Int.reduceMul, Int.reduceNeg, Int.reduceToNat, UInt8.reduceToNat, natLit, ty3, ty9, ty22, ty101]
  by_cases hl : left - xs.length < 0
  · rw [if_pos hl, if_pos (by omega)]
  rw [if_neg hl]
  generalize hL : K.code (Code.loop _) = L
  generalize hR : (K.blk _ :: _ : List K) = R
  have key : ∀ (d i : Nat) (x4 x11 x15 x25 : Option V) (l : Int), xs.length - i = d → i ≤ xs.length → 0 ≤ l → l ≤ 1048576 →
      zEv (leaveX (mkR Tryd.prog cfg ok [0, 1, 4, 5, 11, 15, 25] H.length) .pure H [ResultVar.tmp 4]) (mkR Tryd.prog cfg ok [0, 1, 4, 5, 11, 15, 25] H.length) (L :: R) .nrm [some v, some (.int .i64 l), x4, some (.int .i64 i), x11, x15, x25] H =
      some (.int .i64 (if l < sumZ sgCW (xs.drop i) then -1 else l - sumZ sgCW (xs.drop i)), H) := by
    intro d
    induction d using Nat.strongRecOn with
    | _ d ih =>
    intro i x4 x11 x15 x25 l hd hi hl0 hl1
    have w2 := w0 (xs.getD i sg0)
    have w4 := sumZ_nonneg w0 (xs.drop (i + 1))
    rw [← hL, ← hR, zEv_loop]
    simp (config := {contextual := true, maxSteps := 10000000, implicitDefEqProofs := false}) (disch := first | (and_intros <;> omega -splitDisjunctions) | (simp only [List.length_set, List.length_append, List.length_cons, List.length_nil]; and_intros <;> omega -splitDisjunctions) | fail) only [e1, f1, f2, f3, f4, f5, f6, Tryd.f30, go_sem, ↓reduceIte, Nat.reduceEqDiff, Nat.reduceAdd, Nat.reduceMul, Nat.reduceLT, Nat.reduceLeDiff, reduceCtorEq, Int.reduceNe, Int.reduceEq, Int.reduceLT, Int.reduceLE, Int.reduceAdd, Int.reduceSub, Int.reduceMul, Int.reduceNeg, Int.reduceToNat, UInt8.reduceToNat, natLit, ty3, ty9, ty22, ty101]
    rw [hL, hR]
    split
    · rename_i hlt
      have hlt : i < xs.length := by omega
      rw [List.drop_eq_getElem_cons hlt, ← getD_of hlt sg0, sumZ_cons]
      by_cases hw : l < sgCW (xs.getD i sg0)
      · rw [if_pos (by rw [if_pos hw]; omega), if_pos (by omega)]
      · rw [if_neg (by rw [if_neg hw]; omega), show (i : Int) + 1 = ((i + 1 : Nat) : Int) by omega, if_neg hw, ih (xs.length - (i + 1)) (by omega) (i + 1) _ _ _ _ _ rfl (by omega) (by omega) (by omega)]
        split <;> split <;> first | rfl | (exfalso; omega) | (congr 3; omega)
    · rw [List.drop_of_length_le (by omega), sumZ_nil, if_neg (by omega), Int.sub_zero]
  refine (key xs.length 0 _ _ _ _ (left - xs.length) rfl (Nat.zero_le _) (by omega) (by omega)).trans ?_
  rw [List.drop_zero]
  split <;> split <;> first | rfl | (exfalso; omega) | (congr 3; omega)

end Go.Proofs.YtcbjmggbbnpbpaaDoor.Lg
