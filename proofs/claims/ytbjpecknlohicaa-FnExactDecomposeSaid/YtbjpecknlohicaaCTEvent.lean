/- What the laws do with values of Event, over the logical machine. No condition. -/
import Derived.Test.YtbjpecknlohicaaLc
import Derived.Test.YtbjpecknlohicaaCMk
namespace Go.Proofs.Ytbjpecknlohicaa.Lg
set_option linter.unusedSimpArgs false
set_option linter.unusedVariables false
set_option maxRecDepth 100000
set_option maxHeartbeats 40000000
open Go.Proofs.Ytbjpecknlohicaa

/-- a value of Event -/
structure Ev where
  kind : Int
  style : Int
  flag : Bool
  text : ByteArray
  anchor : ByteArray
  tag : ByteArray
  place : Int
  code : Int
  deriving DecidableEq
def evC (e : Ev) : List V := [.int .i64 e.kind, .int .i64 e.style, .bool e.flag, .str e.text, .str e.anchor, .str e.tag, .int .i64 e.place, .int .i64 e.code]
theorem evC_len (e : Ev) : (evC e).length = 8 := rfl
def ev0 : Ev := ⟨0, 0, false, ⟨#[]⟩, ⟨#[]⟩, ⟨#[]⟩, 0, 0⟩
/-- its measure -/
def evCW (e : Ev) : Int := (e.text.size : Int) + (e.anchor.size : Int) + (e.tag.size : Int)
def evCFit (e : Ev) : Prop := e.text.size ≤ 9223372036854775807 ∧ e.anchor.size ≤ 9223372036854775807 ∧ e.tag.size ≤ 9223372036854775807
theorem run_toEvent (e : Ev) (fl : Nat) (H : LH) : run 15 [.agg (evC e)] fl H = some (.agg (evC e), H) := by
  unfold run evC
  rw [Run_z Try.func15 rfl (by rfl : ok 15 = true) (by rfl : cfg.keep 15 = [0, 1, 2, 3]) (by rfl : cfg.mode 15 = .pure)]
  simp (config := {contextual := true, maxSteps := 10000000, implicitDefEqProofs := false}) (disch := first | (and_intros <;> omega -splitDisjunctions) | (simp only [List.length_set, List.length_append, List.length_cons, List.length_nil]; and_intros <;> omega -splitDisjunctions) | fail) only [Try.f15, go_sem, ↓reduceIte, Nat.reduceEqDiff, Nat.reduceAdd, Nat.reduceMul, Nat.reduceLT, Nat.reduceLeDiff, reduceCtorEq, Int.reduceNe, Int.reduceEq, Int.reduceLT, Int.reduceLE, Int.reduceAdd, Int.reduceSub, Int.reduceMul, Int.reduceNeg, Int.reduceToNat, UInt8.reduceToNat, natLit, ty3, ty4, ty9, ty23, ty26]
theorem run_eqEvent (a b : Ev) (fl : Nat) (H : LH) : run 64 [.agg (evC a), .agg (evC b)] fl H = some (.bool (decide (a = b)), H) := by
  unfold run evC
  rw [Run_z Try.func64 rfl (by rfl : ok 64 = true) (by rfl : cfg.keep 64 = [0, 1, 2, 3, 4, 9, 14, 19, 24, 29, 34, 39, 44]) (by rfl : cfg.mode 64 = .pure)]
  simp (config := {contextual := true, maxSteps := 10000000, implicitDefEqProofs := false}) (disch := first | (and_intros <;> omega -splitDisjunctions) | (simp only [List.length_set, List.length_append, List.length_cons, List.length_nil]; and_intros <;> omega -splitDisjunctions) | fail) only [Try.f64, go_sem, ↓reduceIte, Nat.reduceEqDiff, Nat.reduceAdd, Nat.reduceMul, Nat.reduceLT, Nat.reduceLeDiff, reduceCtorEq, Int.reduceNe, Int.reduceEq, Int.reduceLT, Int.reduceLE, Int.reduceAdd, Int.reduceSub, Int.reduceMul, Int.reduceNeg, Int.reduceToNat, UInt8.reduceToNat, natLit, ty3, ty4, ty9, ty26]
  cases a; cases b
  simp only [Ev.mk.injEq]
  grind
theorem run_szEvent (e : Ev) (left : Int) (fl : Nat) (H : LH) (h : 0 ≤ left) (h2 : left ≤ 1048576) (h3 : evCFit e) :
    run 13 [.agg (evC e), .int .i64 left] fl H = some (.int .i64 (if left < evCW e then -1 else left - evCW e), H) := by
  unfold evCFit at h3
  unfold run evC
  rw [Run_z Try.func13 rfl (by rfl : ok 13 = true) (by rfl : cfg.keep 13 = [0, 1, 2, 4, 11, 18, 25]) (by rfl : cfg.mode 13 = .pure)]
  simp (config := {contextual := true, maxSteps := 10000000, implicitDefEqProofs := false}) (disch := first | (and_intros <;> omega -splitDisjunctions) | (simp only [List.length_set, List.length_append, List.length_cons, List.length_nil]; and_intros <;> omega -splitDisjunctions) | fail) only [Try.f13, go_sem, ↓reduceIte, Nat.reduceEqDiff, Nat.reduceAdd, Nat.reduceMul, Nat.reduceLT, Nat.reduceLeDiff, reduceCtorEq, Int.reduceNe, Int.reduceEq, Int.reduceLT, Int.reduceLE, Int.reduceAdd, Int.reduceSub, Int.reduceMul, Int.reduceNeg, Int.reduceToNat, UInt8.reduceToNat, natLit, ty3, ty4, ty9, ty23]
  unfold evCW
  (repeat' split) <;> first | (exfalso; omega) | rfl | (congr 3; omega)
theorem shp_Event {n : Nat} {H : LH} (cs : List V) (h : Shp (ty Try.prog) (n + 2) 23 H cs) : ∃ e : Ev, cs = evC e ∧ evCFit e := by
  simp only [Shp, ShpF, ty3, ty4, ty9, ty23] at h
  obtain ⟨_, _, rfl, ⟨a0, rfl, _⟩, _, _, rfl, ⟨a1, rfl, _⟩, _, _, rfl, ⟨a2, rfl⟩, _, _, rfl, ⟨a3, rfl, z3⟩, _, _, rfl, ⟨a4, rfl, z4⟩, _, _, rfl, ⟨a5, rfl, z5⟩, _, _, rfl, ⟨a6, rfl, _⟩, _, _, rfl, ⟨a7, rfl, _⟩, rfl⟩ := h
  exact ⟨⟨a0, a1, a2, a3, a4, a5, a6, a7⟩, rfl, ⟨z3, z4, z5⟩⟩
theorem opn_Event {H : LH} {x : V} (h : ShpA (ty Try.prog) 12 23 H x) : ∃ e : Ev, x = .agg (evC e) ∧ evCFit e := by
  unfold ShpA at h
  rw [ty23] at h
  obtain ⟨cs, rfl, h⟩ := h
  obtain ⟨e, rfl, f⟩ := shp_Event (n := 10) cs h
  exact ⟨e, rfl, f⟩
theorem opn_EventS {H : LH} {x : V} (h : ShpA (ty Try.prog) 12 46 H x) : ∃ xs : List Ev, At H evC 8 x xs ∧ xs.length ≤ 9223372036854775807 ∧ ∀ e ∈ xs, evCFit e := by
  unfold ShpA at h
  rw [ty46] at h
  exact shp_slice ty46 (by simp only [sizeO, ty3, ty4, ty9, ty23, ty46]) evC_len (fun cs h => shp_Event (n := 9) cs h) h
theorem run_toEventS (v : V) (xs : List Ev) (fl : Nat) (H : LH) (h : At H evC 8 v xs) (hx : xs.length ≤ 1048576) :
    run 27 [v] fl H = some (.sl H.length 0 8 xs.length xs.length, H ++ [.cells (rows evC xs)]) := by
  have e1 := fun e fl H => run_toEvent e fl H
  have f1 := h.isTup; have f2 := h.len; have f3 := h.lenOk ty46
  have f4 := fun L (hp : 0 < xs.length) => (h.left (L := L)).con hp
  have f5 := h.idx (T := ty Try.prog) (t := 46) (by simp only [elemI, sizeO, ty3, ty4, ty9, ty23, ty46])
  unfold run at *
  rw [Run_z Try.func27 rfl (by rfl : ok 27 = true) (by rfl : cfg.keep 27 = [0, 2, 3, 4, 11]) (by rfl : cfg.mode 27 = .fresh)]
  simp (config := {contextual := true, maxSteps := 10000000, implicitDefEqProofs := false}) (disch := first | (and_intros <;> omega -splitDisjunctions) | (simp only [List.length_set, List.length_append, List.length_cons, List.length_nil]; and_intros <;> omega -splitDisjunctions) | fail) only [e1, f1, f2, f3, Try.f27, go_sem, ↓reduceIte, Nat.reduceEqDiff, Nat.reduceAdd, Nat.reduceMul, Nat.reduceLT, Nat.reduceLeDiff, reduceCtorEq, Int.reduceNe, Int.reduceEq, Int.reduceLT, Int.reduceLE, Int.reduceAdd, Int.reduceSub, Int.reduceMul, Int.reduceNeg, Int.reduceToNat, UInt8.reduceToNat, natLit, ty3, ty4, ty9, ty23, ty26, ty46, ty48]
  generalize hL : K.code (Code.loop _) = L
  generalize hR : (K.blk _ :: _ : List K) = R
  have key : ∀ (d i : Nat) (x11 : Option V) (ys : List Ev), xs.length - i = d → i ≤ xs.length → ys = xs.take i ++ List.replicate (xs.length - i) ev0 →
      zEv (leaveX (mkR Try.prog cfg ok [0, 2, 3, 4, 11] H.length) .fresh H [ResultVar.tmp 2]) (mkR Try.prog cfg ok [0, 2, 3, 4, 11] H.length) (L :: R) .nrm [some v, some .nilsl, some (.sl H.length 0 8 xs.length xs.length), some (.int .i64 i), x11] (H ++ [.cells (rows evC ys)]) =
      some (.sl H.length 0 8 xs.length xs.length, H ++ [.cells (rows evC xs)]) := by
    intro d
    induction d using Nat.strongRecOn with
    | _ d ih =>
    intro i x11 ys hd hi hys
    have hyl : ys.length = xs.length := by rw [hys]; simp; omega
    have g1 := rows_len evC_len ys
    rw [hyl] at g1
    have g2 : i < xs.length → putAt (rows evC ys) (i * 8) (evC (xs.getD i ev0)) = rows evC (ys.set i (xs.getD i ev0)) := fun hi => by
      have := rows_putD (enc := evC) (j := 0) (xs := ys) evC_len ev0 i (by omega) (ws := evC (xs.getD i ev0)) (by simp [evC_len]) _ rfl
      simpa using this
    have g3 := fun L => (h.left (L := L)).loadD evC_len ev0
    have g4 : ∀ x : Ev, (evC x).length = 8 := evC_len
    skip
    rw [← hL, ← hR, zEv_loop]
    simp (config := {contextual := true, maxSteps := 10000000, implicitDefEqProofs := false}) (disch := first | (and_intros <;> omega -splitDisjunctions) | (simp only [List.length_set, List.length_append, List.length_cons, List.length_nil]; and_intros <;> omega -splitDisjunctions) | fail) only [e1, f1, f2, f3, f4, f5, g1, g2, g3, g4, Try.f27, go_sem, ↓reduceIte, Nat.reduceEqDiff, Nat.reduceAdd, Nat.reduceMul, Nat.reduceLT, Nat.reduceLeDiff, reduceCtorEq, Int.reduceNe, Int.reduceEq, Int.reduceLT, Int.reduceLE, Int.reduceAdd, Int.reduceSub, Int.reduceMul, Int.reduceNeg, Int.reduceToNat, UInt8.reduceToNat, natLit, ty3, ty4, ty9, ty23, ty26, ty46, ty48]
    rw [hL, hR]
    split
    · rename_i hlt
      have hlt : i < xs.length := by omega
      rw [show (i : Int) + 1 = ((i + 1 : Nat) : Int) by omega]
      refine ih (xs.length - (i + 1)) (by omega) (i + 1) _ _ rfl (by omega) ?_
      rw [hys, copy_step hlt]
    · rename_i hge
      have : i = xs.length := by omega
      subst this
      rw [hys, List.take_of_length_le (Nat.le_refl _), Nat.sub_self]
      simp
  have := fun x11 => key xs.length 0 x11 (List.replicate xs.length ev0) (by simp) (by simp) (by simp)
  simp only [rows_replicate] at this
  exact this _
theorem run_eqEventS (v w : V) (xs ys : List Ev) (fl : Nat) (H : LH) (h : At H evC 8 v xs) (h' : At H evC 8 w ys) (hx : xs.length ≤ 1099511627776) (hy : ys.length ≤ 1099511627776) :
    run 29 [v, w] fl H = some (.bool (decide (xs = ys)), H) := by
  have e1 := fun a b fl H => run_eqEvent a b fl H
  have f1 := h.isTup; have f2 := h.len; have f3 := h.lenOk ty48
  have f4 := fun L (hp : 0 < xs.length) => (h.left (L := L)).con hp
  have f5 := h.idx (T := ty Try.prog) (t := 48) (by simp only [elemI, sizeO, ty3, ty4, ty9, ty26, ty48])
  have g1 := h'.isTup; have g2 := h'.len; have g3 := h'.lenOk ty48
  have g4 := fun L (hp : 0 < ys.length) => (h'.left (L := L)).con hp
  have g5 := h'.idx (T := ty Try.prog) (t := 48) (by simp only [elemI, sizeO, ty3, ty4, ty9, ty26, ty48])
  have f4' := fun (hp : 0 < xs.length) => h.con hp
  have g4' := fun (hp : 0 < ys.length) => h'.con hp
  have f6 := fun L => (h.left (L := L)).loadD evC_len ev0
  have g6 := fun L => (h'.left (L := L)).loadD evC_len ev0
  have f6' := h.loadD evC_len ev0
  have g6' := h'.loadD evC_len ev0
  unfold run at *
  rw [Run_z Try.func29 rfl (by rfl : ok 29 = true) (by rfl : cfg.keep 29 = [0, 1, 4, 5, 10, 14, 26]) (by rfl : cfg.mode 29 = .pure)]
  by_cases hl : xs.length = ys.length
  · simp (config := {contextual := true, maxSteps := 10000000, implicitDefEqProofs := false}) (disch := first | (and_intros <;> omega -splitDisjunctions) | (simp only [List.length_set, List.length_append, List.length_cons, List.length_nil]; and_intros <;> omega -splitDisjunctions) | fail) only [hl, e1, f1, f2, f3, g1, g2, g3, Try.f29, go_sem, ↓reduceIte, Nat.reduceEqDiff, Nat.reduceAdd, Nat.reduceMul, Nat.reduceLT, Nat.reduceLeDiff, reduceCtorEq, Int.reduceNe, Int.reduceEq, Int.reduceLT, Int.reduceLE, Int.reduceAdd, Int.reduceSub, Int.reduceMul, Int.reduceNeg, Int.reduceToNat, UInt8.reduceToNat, natLit, ty3, ty4, ty9, ty26, ty48]
    generalize hL : K.code (Code.loop _) = L
    generalize hR : (K.blk _ :: _ : List K) = R
    have key : ∀ (d i : Nat) (x4 x10 x14 x26 : Option V), xs.length - i = d → i ≤ xs.length →
        zEv (leaveX (mkR Try.prog cfg ok [0, 1, 4, 5, 10, 14, 26] H.length) .pure H [ResultVar.tmp 4]) (mkR Try.prog cfg ok [0, 1, 4, 5, 10, 14, 26] H.length) (L :: R) .nrm [some v, some w, x4, some (.int .i64 i), x10, x14, x26] H =
        some (.bool (decide (xs.drop i = ys.drop i)), H) := by
      intro d
      induction d using Nat.strongRecOn with
      | _ d ih =>
      intro i x4 x10 x14 x26 hd hi
      rw [← hL, ← hR, zEv_loop]
      simp (config := {contextual := true, maxSteps := 10000000, implicitDefEqProofs := false}) (disch := first | (and_intros <;> omega -splitDisjunctions) | (simp only [List.length_set, List.length_append, List.length_cons, List.length_nil]; and_intros <;> omega -splitDisjunctions) | fail) only [e1, f1, f2, f3, f4', f5, f6', g1, g2, g3, g4', g5, g6', Try.f29, go_sem, ↓reduceIte, Nat.reduceEqDiff, Nat.reduceAdd, Nat.reduceMul, Nat.reduceLT, Nat.reduceLeDiff, reduceCtorEq, Int.reduceNe, Int.reduceEq, Int.reduceLT, Int.reduceLE, Int.reduceAdd, Int.reduceSub, Int.reduceMul, Int.reduceNeg, Int.reduceToNat, UInt8.reduceToNat, natLit, ty3, ty4, ty9, ty26, ty48]
      rw [hL, hR]
      split
      · rename_i hlt
        have hlt : i < xs.length := by omega
        have hlt' : i < ys.length := by omega
        rw [show (i : Int) + 1 = ((i + 1 : Nat) : Int) by omega, ih (xs.length - (i + 1)) (by omega) (i + 1) _ _ _ _ rfl (by omega), getD_of hlt, getD_of hlt', List.drop_eq_getElem_cons hlt, List.drop_eq_getElem_cons hlt']
        by_cases e : xs[i] = ys[i] <;> simp only [e, List.cons.injEq, true_and, false_and, not_true_eq_false, not_false_eq_true, if_true, if_false, decide_false]
      · rw [List.drop_of_length_le (by omega), List.drop_of_length_le (by omega)]
        rfl
    exact (key xs.length 0 _ _ _ _ rfl (Nat.zero_le _)).trans (by rw [List.drop_zero, List.drop_zero])
  · have h2 : ¬ xs = ys := fun e => hl (by rw [e])
    have h3 : ¬ (xs.length : Int) = (ys.length : Int) := by omega
    simp (config := {contextual := true, maxSteps := 10000000, implicitDefEqProofs := false}) (disch := first | (and_intros <;> omega -splitDisjunctions) | (simp only [List.length_set, List.length_append, List.length_cons, List.length_nil]; and_intros <;> omega -splitDisjunctions) | fail) only [h2, h3, e1, f1, f2, f3, g1, g2, g3, Try.f29, go_sem, ↓reduceIte, Nat.reduceEqDiff, Nat.reduceAdd, Nat.reduceMul, Nat.reduceLT, Nat.reduceLeDiff, reduceCtorEq, Int.reduceNe, Int.reduceEq, Int.reduceLT, Int.reduceLE, Int.reduceAdd, Int.reduceSub, Int.reduceMul, Int.reduceNeg, Int.reduceToNat, UInt8.reduceToNat, natLit, ty3, ty4, ty9, ty26, ty48]
theorem run_szEventS (v : V) (xs : List Ev) (left : Int) (fl : Nat) (H : LH) (h : At H evC 8 v xs) (h0 : 0 ≤ left) (h2 : left ≤ 1048576) (hx : xs.length ≤ 9223372036854775807) (hf : ∀ x ∈ xs, evCFit x) :
    run 25 [v, .int .i64 left] fl H = some (.int .i64 (if left < xs.length + sumZ evCW xs then -1 else left - (xs.length + sumZ evCW xs)), H) := by
  have e1 := fun i (hi : i < xs.length) l hl hl2 fl H => run_szEvent (xs.getD i ev0) l fl H hl hl2 (by rw [getD_of hi]; exact hf _ (List.getElem_mem hi))
  have f1 := h.isTup; have f2 := h.len; have f3 := h.lenOk ty46
  have f4 := fun (hp : 0 < xs.length) => h.con hp
  have f5 := h.idx (T := ty Try.prog) (t := 46) (by simp only [elemI, sizeO, ty3, ty4, ty9, ty23, ty46])
  have f6 := h.loadD evC_len ev0
  have w0 : ∀ x, 0 ≤ evCW x := fun x => by unfold evCW; omega
  have w1 := sumZ_nonneg w0 xs
  unfold run at *
  rw [Run_z Try.func25 rfl (by rfl : ok 25 = true) (by rfl : cfg.keep 25 = [0, 1, 4, 5, 11, 15, 25]) (by rfl : cfg.mode 25 = .pure)]
  simp (config := {contextual := true, maxSteps := 10000000, implicitDefEqProofs := false}) (disch := first | (and_intros <;> omega -splitDisjunctions) | (simp only [List.length_set, List.length_append, List.length_cons, List.length_nil]; and_intros <;> omega -splitDisjunctions) | fail) only [e1, f1, f2, f3, Try.f25, go_sem, ↓reduceIte, Nat.reduceEqDiff, Nat.reduceAdd, Nat.reduceMul, Nat.reduceLT, Nat.reduceLeDiff, reduceCtorEq, Int.reduceNe, Int.reduceEq, Int.reduceLT, Int.reduceLE, Int.reduceAdd, Int.reduceSub, Int.reduceMul, Int.reduceNeg, Int.reduceToNat, UInt8.reduceToNat, natLit, ty3, ty4, ty9, ty23, ty46]
  by_cases hl : left - xs.length < 0
  · rw [if_pos hl, if_pos (by omega)]
  rw [if_neg hl]
  generalize hL : K.code (Code.loop _) = L
  generalize hR : (K.blk _ :: _ : List K) = R
  have key : ∀ (d i : Nat) (x4 x11 x15 x25 : Option V) (l : Int), xs.length - i = d → i ≤ xs.length → 0 ≤ l → l ≤ 1048576 →
      zEv (leaveX (mkR Try.prog cfg ok [0, 1, 4, 5, 11, 15, 25] H.length) .pure H [ResultVar.tmp 4]) (mkR Try.prog cfg ok [0, 1, 4, 5, 11, 15, 25] H.length) (L :: R) .nrm [some v, some (.int .i64 l), x4, some (.int .i64 i), x11, x15, x25] H =
      some (.int .i64 (if l < sumZ evCW (xs.drop i) then -1 else l - sumZ evCW (xs.drop i)), H) := by
    intro d
    induction d using Nat.strongRecOn with
    | _ d ih =>
    intro i x4 x11 x15 x25 l hd hi hl0 hl1
    have w2 := w0 (xs.getD i ev0)
    have w4 := sumZ_nonneg w0 (xs.drop (i + 1))
    rw [← hL, ← hR, zEv_loop]
    simp (config := {contextual := true, maxSteps := 10000000, implicitDefEqProofs := false}) (disch := first | (and_intros <;> omega -splitDisjunctions) | (simp only [List.length_set, List.length_append, List.length_cons, List.length_nil]; and_intros <;> omega -splitDisjunctions) | fail) only [e1, f1, f2, f3, f4, f5, f6, Try.f25, go_sem, ↓reduceIte, Nat.reduceEqDiff, Nat.reduceAdd, Nat.reduceMul, Nat.reduceLT, Nat.reduceLeDiff, reduceCtorEq, Int.reduceNe, Int.reduceEq, Int.reduceLT, Int.reduceLE, Int.reduceAdd, Int.reduceSub, Int.reduceMul, Int.reduceNeg, Int.reduceToNat, UInt8.reduceToNat, natLit, ty3, ty4, ty9, ty23, ty46]
    rw [hL, hR]
    split
    · rename_i hlt
      have hlt : i < xs.length := by omega
      rw [List.drop_eq_getElem_cons hlt, ← getD_of hlt ev0, sumZ_cons]
      by_cases hw : l < evCW (xs.getD i ev0)
      · rw [if_pos (by rw [if_pos hw]; omega), if_pos (by omega)]
      · rw [if_neg (by rw [if_neg hw]; omega), show (i : Int) + 1 = ((i + 1 : Nat) : Int) by omega, if_neg hw, ih (xs.length - (i + 1)) (by omega) (i + 1) _ _ _ _ _ rfl (by omega) (by omega) (by omega)]
        split <;> split <;> first | rfl | (exfalso; omega) | (congr 3; omega)
    · rw [List.drop_of_length_le (by omega), sumZ_nil, if_neg (by omega), Int.sub_zero]
  refine (key xs.length 0 _ _ _ _ (left - xs.length) rfl (Nat.zero_le _) (by omega) (by omega)).trans ?_
  rw [List.drop_zero]
  split <;> split <;> first | rfl | (exfalso; omega) | (congr 3; omega)
/-- the mark of a value -/
def mkEvent (k : Int) : Ev := ⟨k, (k + 1), decide (((k + 2)).tmod 3 = 0), mText (k + 3), mText (k + 4), mText (k + 5), (k + 6), (k + 7)⟩
theorem run_markEventS (b : Nat) (xs : List Ev) (k0 : Int) (fl : Nat) (H : LH) (h : H.cellsAt b = some (rows evC xs)) (hb : fl ≤ b) (h0 : 0 ≤ k0) (h1 : k0 ≤ 1099511627776) (hx : xs.length ≤ 1099511627776) :
    run 30 [.sl b 0 8 xs.length xs.length, .int .i64 k0] fl H = some (.int .i64 (k0 + xs.length * 8), H.set b (.cells (rows evC (marksF mkEvent 8 xs.length k0)))) := by
  have m1 := fun k (h0 : 0 ≤ k) (h1 : k ≤ 4611686018427387904) fl H => run_markText k h0 h1 fl H
  have hbl := cellsAt_lt h
  unfold run at *
  rw [Run_z Try.func30 rfl (by rfl : ok 30 = true) (by rfl : cfg.keep 30 = [0, 1, 4, 5, 9]) (by rfl : cfg.mode 30 = .any)]
  simp (config := {contextual := true, maxSteps := 10000000, implicitDefEqProofs := false}) (disch := first | (and_intros <;> omega -splitDisjunctions) | (simp only [List.length_set, List.length_append, List.length_cons, List.length_nil]; and_intros <;> omega -splitDisjunctions) | fail) only [m1, Try.f30, go_sem, ↓reduceIte, Nat.reduceEqDiff, Nat.reduceAdd, Nat.reduceMul, Nat.reduceLT, Nat.reduceLeDiff, reduceCtorEq, Int.reduceNe, Int.reduceEq, Int.reduceLT, Int.reduceLE, Int.reduceAdd, Int.reduceSub, Int.reduceMul, Int.reduceNeg, Int.reduceToNat, UInt8.reduceToNat, natLit, ty3, ty4, ty9, ty26, ty48]
  generalize hL : K.code (Code.loop _) = L
  generalize hR : (K.blk _ :: _ : List K) = R
  have key : ∀ (d i : Nat) (x4 x9 : Option V) (ys : List Ev), xs.length - i = d → i ≤ xs.length → ys = marksF mkEvent 8 i k0 ++ xs.drop i →
      zEv (leaveX (mkR Try.prog cfg ok [0, 1, 4, 5, 9] fl) .any H [ResultVar.tmp 4]) (mkR Try.prog cfg ok [0, 1, 4, 5, 9] fl) (L :: R) .nrm [some (.sl b 0 8 xs.length xs.length), some (.int .i64 (k0 + i * 8)), x4, some (.int .i64 i), x9] (H.set b (.cells (rows evC ys))) =
      some (.int .i64 (k0 + xs.length * 8), H.set b (.cells (rows evC (marksF mkEvent 8 xs.length k0)))) := by
    intro d
    induction d using Nat.strongRecOn with
    | _ d ih =>
    intro i x4 x9 ys hd hi hys
    have hyl : ys.length = xs.length := by rw [hys]; simp [marksF_len]; omega
    have g1 := rows_len evC_len ys
    rw [hyl] at g1
    have g2 : i < xs.length → putAt (rows evC ys) (i * 8) (evC (mkEvent (k0 + i * 8))) = rows evC (ys.set i (mkEvent (k0 + i * 8))) := fun hi => by
      have := rows_putD (enc := evC) (j := 0) (xs := ys) evC_len ev0 i (by omega) (ws := evC (mkEvent (k0 + i * 8))) (by simp [evC_len]) _ rfl
      simpa using this
    have g5 : fl ≤ b := hb
    simp only [evC, mkEvent, putAt, Int.add_assoc, Nat.add_assoc, Nat.reduceAdd, Int.reduceAdd] at g2
    rw [← hL, ← hR, zEv_loop]
    simp (config := {contextual := true, maxSteps := 10000000, implicitDefEqProofs := false}) (disch := first | (and_intros <;> omega -splitDisjunctions) | (simp only [List.length_set, List.length_append, List.length_cons, List.length_nil]; and_intros <;> omega -splitDisjunctions) | fail) only [m1, cellsAt_set, g1, g2, g5, Int.add_assoc, List.length_set, Try.f30, go_sem, ↓reduceIte, Nat.reduceEqDiff, Nat.reduceAdd, Nat.reduceMul, Nat.reduceLT, Nat.reduceLeDiff, reduceCtorEq, Int.reduceNe, Int.reduceEq, Int.reduceLT, Int.reduceLE, Int.reduceAdd, Int.reduceSub, Int.reduceMul, Int.reduceNeg, Int.reduceToNat, UInt8.reduceToNat, natLit, ty3, ty4, ty9, ty26, ty48]
    rw [hL, hR]
    split
    · rename_i hlt
      have hlt : i < xs.length := by omega
      have ms := mark_step (mk := mkEvent) (f := 8) (k := k0) hlt
      simp only [mkEvent, Int.mul_one, Int.add_assoc] at ms
      rw [hys, ms, show (i : Int) + 1 = ((i + 1 : Nat) : Int) by omega, show (i : Int) * 8 + 8 = ((i + 1 : Nat) : Int) * 8 by omega]
      exact ih (xs.length - (i + 1)) (by omega) (i + 1) _ _ _ rfl (by omega) rfl
    · have : i = xs.length := by omega
      subst this
      rw [hys, List.drop_length, List.append_nil]
  have := fun x4 x9 => key xs.length 0 x4 x9 xs rfl (Nat.zero_le _) (by simp [marksF])
  simp only [set_same h] at this
  simpa using this _ _
theorem run_markEventO {f0 : Nat} (v : V) (xs : List Ev) (k0 : Int) (fl : Nat) (H : LH) (h : Own f0 H evC 8 v xs) (hb : fl ≤ f0) (h0 : 0 ≤ k0) (h1 : k0 ≤ 1099511627776) (hx : xs.length ≤ 1099511627776) :
    run 30 [v, .int .i64 k0] fl H = some (.int .i64 (k0 + xs.length * 8), setV H v (rows evC (marksF mkEvent 8 xs.length k0))) := by
  rcases h with ⟨rfl, rfl | rfl⟩ | ⟨b, rfl, h2, h3⟩
  · unfold run
    rw [Run_z Try.func30 rfl (by rfl : ok 30 = true) (by rfl : cfg.keep 30 = [0, 1, 4, 5, 9]) (by rfl : cfg.mode 30 = .any)]
    simp (config := {contextual := true, maxSteps := 10000000, implicitDefEqProofs := false}) (disch := first | (and_intros <;> omega -splitDisjunctions) | (simp only [List.length_set, List.length_append, List.length_cons, List.length_nil]; and_intros <;> omega -splitDisjunctions) | fail) only [Try.f30, go_sem, ↓reduceIte, Nat.reduceEqDiff, Nat.reduceAdd, Nat.reduceMul, Nat.reduceLT, Nat.reduceLeDiff, reduceCtorEq, Int.reduceNe, Int.reduceEq, Int.reduceLT, Int.reduceLE, Int.reduceAdd, Int.reduceSub, Int.reduceMul, Int.reduceNeg, Int.reduceToNat, UInt8.reduceToNat, natLit, ty3, ty4, ty9, ty26, ty48]
    rw [zEv_loop]
    simp (config := {contextual := true, maxSteps := 10000000, implicitDefEqProofs := false}) (disch := first | (and_intros <;> omega -splitDisjunctions) | (simp only [List.length_set, List.length_append, List.length_cons, List.length_nil]; and_intros <;> omega -splitDisjunctions) | fail) only [Try.f30, go_sem, ↓reduceIte, Nat.reduceEqDiff, Nat.reduceAdd, Nat.reduceMul, Nat.reduceLT, Nat.reduceLeDiff, reduceCtorEq, Int.reduceNe, Int.reduceEq, Int.reduceLT, Int.reduceLE, Int.reduceAdd, Int.reduceSub, Int.reduceMul, Int.reduceNeg, Int.reduceToNat, UInt8.reduceToNat, natLit, ty3, ty4, ty9, ty26, ty48]
    simp [setV]
  · unfold run
    rw [Run_z Try.func30 rfl (by rfl : ok 30 = true) (by rfl : cfg.keep 30 = [0, 1, 4, 5, 9]) (by rfl : cfg.mode 30 = .any)]
    simp (config := {contextual := true, maxSteps := 10000000, implicitDefEqProofs := false}) (disch := first | (and_intros <;> omega -splitDisjunctions) | (simp only [List.length_set, List.length_append, List.length_cons, List.length_nil]; and_intros <;> omega -splitDisjunctions) | fail) only [Try.f30, go_sem, ↓reduceIte, Nat.reduceEqDiff, Nat.reduceAdd, Nat.reduceMul, Nat.reduceLT, Nat.reduceLeDiff, reduceCtorEq, Int.reduceNe, Int.reduceEq, Int.reduceLT, Int.reduceLE, Int.reduceAdd, Int.reduceSub, Int.reduceMul, Int.reduceNeg, Int.reduceToNat, UInt8.reduceToNat, natLit, ty3, ty4, ty9, ty26, ty48]
    rw [zEv_loop]
    simp (config := {contextual := true, maxSteps := 10000000, implicitDefEqProofs := false}) (disch := first | (and_intros <;> omega -splitDisjunctions) | (simp only [List.length_set, List.length_append, List.length_cons, List.length_nil]; and_intros <;> omega -splitDisjunctions) | fail) only [Try.f30, go_sem, ↓reduceIte, Nat.reduceEqDiff, Nat.reduceAdd, Nat.reduceMul, Nat.reduceLT, Nat.reduceLeDiff, reduceCtorEq, Int.reduceNe, Int.reduceEq, Int.reduceLT, Int.reduceLE, Int.reduceAdd, Int.reduceSub, Int.reduceMul, Int.reduceNeg, Int.reduceToNat, UInt8.reduceToNat, natLit, ty3, ty4, ty9, ty26, ty48]
    simp [setV]
  · exact run_markEventS b xs k0 fl H h2 (by omega) h0 h1 hx
theorem run_heldEventS (v : V) (m : Nat) (k0 : Int) (fl : Nat) (H : LH) (h : At H evC 8 v (marksF mkEvent 8 m k0)) (h0 : 0 ≤ k0) (h1 : k0 ≤ 1099511627776) (hx : m ≤ 1099511627776) :
    run 31 [v, .int .i64 k0] fl H = some (.int .i64 (k0 + m * 8), H) := by
  have m1 := fun k (h0 : 0 ≤ k) (h1 : k ≤ 4611686018427387904) fl H => run_markText k h0 h1 fl H
  have f1 := h.isTup; have f2 := h.len; have f3 := h.lenOk ty48
  have f4 := fun (hp : 0 < m) => h.con (by rw [marksF_len]; exact hp)
  have f5 := h.idx (T := ty Try.prog) (t := 48) (by simp only [elemI, sizeO, ty3, ty4, ty9, ty26, ty48])
  have q0 := h.loadD0 evC_len ev0 (fun e => .int .i64 e.kind) (fun _ => rfl)
  have q1 := h.loadDF evC_len ev0 (fun e => .int .i64 e.style) (j := 1) (fun _ => rfl)
  have q2 := h.loadDF evC_len ev0 (fun e => .bool e.flag) (j := 2) (fun _ => rfl)
  have q3 := h.loadDF evC_len ev0 (fun e => .str e.text) (j := 3) (fun _ => rfl)
  have q4 := h.loadDF evC_len ev0 (fun e => .str e.anchor) (j := 4) (fun _ => rfl)
  have q5 := h.loadDF evC_len ev0 (fun e => .str e.tag) (j := 5) (fun _ => rfl)
  have q6 := h.loadDF evC_len ev0 (fun e => .int .i64 e.place) (j := 6) (fun _ => rfl)
  have q7 := h.loadDF evC_len ev0 (fun e => .int .i64 e.code) (j := 7) (fun _ => rfl)
  have g := marksF_get (mk := mkEvent) (f := 8) m k0
  simp only [marksF_len] at *
  unfold run at *
  rw [Run_z Try.func31 rfl (by rfl : ok 31 = true) (by rfl : cfg.keep 31 = [0, 1, 4, 5, 9, 18, 27, 38, 48, 58, 68, 77, 86]) (by rfl : cfg.mode 31 = .pure)]
  simp (config := {contextual := true, maxSteps := 10000000, implicitDefEqProofs := false}) (disch := first | (and_intros <;> omega -splitDisjunctions) | (simp only [List.length_set, List.length_append, List.length_cons, List.length_nil]; and_intros <;> omega -splitDisjunctions) | fail) only [f1, f2, f3, Try.f31, go_sem, ↓reduceIte, Nat.reduceEqDiff, Nat.reduceAdd, Nat.reduceMul, Nat.reduceLT, Nat.reduceLeDiff, reduceCtorEq, Int.reduceNe, Int.reduceEq, Int.reduceLT, Int.reduceLE, Int.reduceAdd, Int.reduceSub, Int.reduceMul, Int.reduceNeg, Int.reduceToNat, UInt8.reduceToNat, natLit, ty3, ty4, ty9, ty26, ty48]
  generalize hL : K.code (Code.loop _) = L
  generalize hR : (K.blk _ :: _ : List K) = R
  have key : ∀ (d i : Nat) (x4 x9 x18 x27 x38 x48 x58 x68 x77 x86 : Option V), m - i = d → i ≤ m →
      zEv (leaveX (mkR Try.prog cfg ok [0, 1, 4, 5, 9, 18, 27, 38, 48, 58, 68, 77, 86] H.length) .pure H [ResultVar.tmp 4]) (mkR Try.prog cfg ok [0, 1, 4, 5, 9, 18, 27, 38, 48, 58, 68, 77, 86] H.length) (L :: R) .nrm [some v, some (.int .i64 (k0 + i * 8)), x4, some (.int .i64 i), x9, x18, x27, x38, x48, x58, x68, x77, x86] H =
      some (.int .i64 (k0 + m * 8), H) := by
    intro d
    induction d using Nat.strongRecOn with
    | _ d ih =>
    intro i x4 x9 x18 x27 x38 x48 x58 x68 x77 x86 hd hi
    have g2 := fun d h => g i d h
    simp only [mkEvent, Int.mul_one] at g2
    rw [← hL, ← hR, zEv_loop]
    simp (config := {contextual := true, maxSteps := 10000000, implicitDefEqProofs := false}) (disch := first | (and_intros <;> omega -splitDisjunctions) | (simp only [List.length_set, List.length_append, List.length_cons, List.length_nil]; and_intros <;> omega -splitDisjunctions) | fail) only [m1, f1, f2, f3, f4, f5, q0, q1, q2, q3, q4, q5, q6, q7, g2, Int.add_assoc, Try.f31, go_sem, ↓reduceIte, Nat.reduceEqDiff, Nat.reduceAdd, Nat.reduceMul, Nat.reduceLT, Nat.reduceLeDiff, reduceCtorEq, Int.reduceNe, Int.reduceEq, Int.reduceLT, Int.reduceLE, Int.reduceAdd, Int.reduceSub, Int.reduceMul, Int.reduceNeg, Int.reduceToNat, UInt8.reduceToNat, natLit, ty3, ty4, ty9, ty26, ty48]
    rw [hL, hR]
    split
    · rename_i hlt
      rw [show (i : Int) + 1 = ((i + 1 : Nat) : Int) by omega, show (i : Int) * 8 + 8 = ((i + 1 : Nat) : Int) * 8 by omega]
      exact ih (m - (i + 1)) (by omega) (i + 1) _ _ _ _ _ _ _ _ _ _ rfl (by omega)
    · have : i = m := by omega
      subst this
      rfl
  have := fun x4 x9 x18 x27 x38 x48 x58 x68 x77 x86 => key m 0 x4 x9 x18 x27 x38 x48 x58 x68 x77 x86 rfl (Nat.zero_le _)
  simpa using this _ _ _ _ _ _ _ _ _ _

end Go.Proofs.Ytbjpecknlohicaa.Lg
