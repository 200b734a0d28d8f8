/- What the laws do with values of Event, over the logical machine. No condition. -/
import Derived.Test.YtcbjmggbbnpbpaaDoorLc
import Derived.Test.YtcbjmggbbnpbpaaDoorCMk
namespace Go.Proofs.YtcbjmggbbnpbpaaDoor.Lg
set_option linter.unusedSimpArgs false
set_option linter.unusedVariables false
set_option maxRecDepth 100000
set_option maxHeartbeats 40000000
open Go.Proofs.YtcbjmggbbnpbpaaDoor

/-- a value of Event -/
structure Ev where
  kind : Int
  style : Int
  flag : Bool
  text : ByteArray
  anchor : ByteArray
  tag : ByteArray
  place : Int
  code : Int
  deriving DecidableEq
def evC (e : Ev) : List V := [.int .i64 e.kind, .int .i64 e.style, .bool e.flag, .str e.text, .str e.anchor, .str e.tag, .int .i64 e.place, .int .i64 e.code]
theorem evC_len (e : Ev) : (evC e).length = 8 := rfl
def ev0 : Ev := ⟨0, 0, false, ⟨#[]⟩, ⟨#[]⟩, ⟨#[]⟩, 0, 0⟩
/-- its measure -/
def evCW (e : Ev) : Int := (e.text.size : Int) + (e.anchor.size : Int) + (e.tag.size : Int)
def evCFit (e : Ev) : Prop := e.text.size ≤ 9223372036854775807 ∧ e.anchor.size ≤ 9223372036854775807 ∧ e.tag.size ≤ 9223372036854775807
theorem run_toEvent (e : Ev) (fl : Nat) (H : LH) : run 47 [.agg (evC e)] fl H = some (.agg (evC e), H) := by
  unfold run evC
  rw [Run_z Tryd.func47 rfl (by rfl : ok 47 = true) (by rfl : cfg.keep 47 = [0, 1, 2, 3]) (by rfl : cfg.mode 47 = .pure) (by rfl : cfg.ord 47 = [])]
  simp (config := {contextual := true, maxSteps := 10000000, implicitDefEqProofs := false}) (disch := first | (and_intros <;> omega -splitDisjunctions) | (simp only [List.length_set, List.length_append, List.length_cons, List.length_nil]; and_intros <;> omega -splitDisjunctions) | fail) only [Tryd.f47, go_sem, ↓reduceIte, Nat.reduceEqDiff, Nat.reduceAdd, Nat.reduceMul, Nat.reduceLT, Nat.reduceLeDiff, reduceCtorEq, Int.reduceNe, Int.reduceEq, Int.reduceLT, Int.reduceLE, Int.reduceAdd, Int.reduceSub, Int.reduceMul, Int.reduceNeg, Int.reduceToNat, UInt8.reduceToNat, natLit, ty3, ty4, ty9, ty64, ty65]
theorem run_eqEvent (a b : Ev) (fl : Nat) (H : LH) : run 53 [.agg (evC a), .agg (evC b)] fl H = some (.bool (decide (a = b)), H) := by
  unfold run evC
  rw [Run_z Tryd.func53 rfl (by rfl : ok 53 = true) (by rfl : cfg.keep 53 = [0, 1, 2, 3, 4, 9, 14, 19, 24, 29, 34, 39, 44]) (by rfl : cfg.mode 53 = .pure) (by rfl : cfg.ord 53 = [])]
  simp (config := {contextual := true, maxSteps := 10000000, implicitDefEqProofs := false}) (disch := first | (and_intros <;> omega -splitDisjunctions) | (simp only [List.length_set, List.length_append, List.length_cons, List.length_nil]; and_intros <;> omega -splitDisjunctions) | fail) only [Tryd.f53, go_sem, ↓reduceIte, Nat.reduceEqDiff, Nat.reduceAdd, Nat.reduceMul, Nat.reduceLT, Nat.reduceLeDiff, reduceCtorEq, Int.reduceNe, Int.reduceEq, Int.reduceLT, Int.reduceLE, Int.reduceAdd, Int.reduceSub, Int.reduceMul, Int.reduceNeg, Int.reduceToNat, UInt8.reduceToNat, natLit, ty3, ty4, ty9, ty65]
  cases a; cases b
  simp only [Ev.mk.injEq]
  grind
theorem run_szEvent (e : Ev) (left : Int) (fl : Nat) (H : LH) (h : 0 ≤ left) (h2 : left ≤ 1048576) (h3 : evCFit e) :
    run 42 [.agg (evC e), .int .i64 left] fl H = some (.int .i64 (if left < evCW e then -1 else left - evCW e), H) := by
  unfold evCFit at h3
  unfold run evC
  rw [Run_z Tryd.func42 rfl (by rfl : ok 42 = true) (by rfl : cfg.keep 42 = [0, 1, 2, 4, 11, 18, 25]) (by rfl : cfg.mode 42 = .pure) (by rfl : cfg.ord 42 = [])]
  simp (config := {contextual := true, maxSteps := 10000000, implicitDefEqProofs := false}) (disch := first | (and_intros <;> omega -splitDisjunctions) | (simp only [List.length_set, List.length_append, List.length_cons, List.length_nil]; and_intros <;> omega -splitDisjunctions) | fail) only [Tryd.f42, go_sem, ↓reduceIte, Nat.reduceEqDiff, Nat.reduceAdd, Nat.reduceMul, Nat.reduceLT, Nat.reduceLeDiff, reduceCtorEq, Int.reduceNe, Int.reduceEq, Int.reduceLT, Int.reduceLE, Int.reduceAdd, Int.reduceSub, Int.reduceMul, Int.reduceNeg, Int.reduceToNat, UInt8.reduceToNat, natLit, ty3, ty4, ty9, ty64]
  unfold evCW
  (repeat' split) <;> first | (exfalso; omega) | rfl | (congr 3; omega)
theorem shp_Event {n : Nat} {H : LH} (cs : List V) (h : Shp (ty Tryd.prog) (n + 2) 64 H cs) : ∃ e : Ev, cs = evC e ∧ evCFit e := by
  simp only [Shp, ShpF, ty3, ty4, ty9, ty64] at h
  obtain ⟨_, _, rfl, ⟨a0, rfl, _⟩, _, _, rfl, ⟨a1, rfl, _⟩, _, _, rfl, ⟨a2, rfl⟩, _, _, rfl, ⟨a3, rfl, z3⟩, _, _, rfl, ⟨a4, rfl, z4⟩, _, _, rfl, ⟨a5, rfl, z5⟩, _, _, rfl, ⟨a6, rfl, _⟩, _, _, rfl, ⟨a7, rfl, _⟩, rfl⟩ := h
  exact ⟨⟨a0, a1, a2, a3, a4, a5, a6, a7⟩, rfl, ⟨z3, z4, z5⟩⟩
theorem opn_Event {H : LH} {x : V} (h : ShpA (ty Tryd.prog) 12 64 H x) : ∃ e : Ev, x = .agg (evC e) ∧ evCFit e := by
  unfold ShpA at h
  rw [ty64] at h
  obtain ⟨cs, rfl, h⟩ := h
  obtain ⟨e, rfl, f⟩ := shp_Event (n := 10) cs h
  exact ⟨e, rfl, f⟩
theorem opn_EventS {H : LH} {x : V} (h : ShpA (ty Tryd.prog) 12 36 H x) : ∃ xs : List Ev, At H evC 8 x xs ∧ xs.length ≤ 9223372036854775807 ∧ ∀ e ∈ xs, evCFit e := by
  unfold ShpA at h
  rw [ty36] at h
  exact shp_slice ty36 (by simp only [sizeO, ty3, ty4, ty9, ty36, ty64]) evC_len (fun cs h => shp_Event (n := 9) cs h) h
theorem run_toEventS (v : V) (xs : List Ev) (fl : Nat) (H : LH) (h : At H evC 8 v xs) (hx : xs.length ≤ 1048576) :
    run 16 [v] fl H = some (.sl H.length 0 8 xs.length xs.length, H ++ [.cells (rows evC xs)]) := by
  have e1 := fun e fl H => run_toEvent e fl H
  have f1 := h.isTup; have f2 := h.len; have f3 := h.lenOk ty36
  have f4 := fun L (hp : 0 < xs.length) => (h.left (L := L)).con hp
  have f5 := h.idx (T := ty Tryd.prog) (t := 36) (by simp only [elemI, sizeO, ty3, ty4, ty9, ty36, ty64])
  unfold run at *
  rw [Run_z Tryd.func16 rfl (by rfl : ok 16 = true) (by rfl : cfg.keep 16 = [0, 2, 3, 4, 11]) (by rfl : cfg.mode 16 = .fresh) (by rfl : cfg.ord 16 = [])]
  simp (config := {contextual := true, maxSteps := 10000000, implicitDefEqProofs := false}) (disch := first | (and_intros <;> omega -splitDisjunctions) | (simp only [List.length_set, List.length_append, List.length_cons, List.length_nil]; and_intros <;> omega -splitDisjunctions) | fail) only [e1, f1, f2, f3, Tryd.f16, go_sem, ↓reduceIte, Nat.reduceEqDiff, Nat.reduceAdd, Nat.reduceMul, Nat.reduceLT, Nat.reduceLeDiff, reduceCtorEq, Int.reduceNe, Int.reduceEq, Int.reduceLT, Int.reduceLE, Int.reduceAdd, Int.reduceSub, Int.reduceMul, Int.reduceNeg, Int.reduceToNat, UInt8.reduceToNat, natLit, ty3, ty4, ty9, ty36, ty39, ty64, ty65]
  generalize hL : K.code (Code.loop _) = L
  generalize hR : (K.blk _ :: _ : List K) = R
  have key : ∀ (d i : Nat) (x11 : Option V) (ys : List Ev), xs.length - i = d → i ≤ xs.length → ys = xs.take i ++ List.replicate (xs.length - i) ev0 →
      zEv (leaveX (mkR Tryd.prog cfg ok [0, 2, 3, 4, 11] H.length) .fresh H [ResultVar.tmp 2]) (mkR Tryd.prog cfg ok [0, 2, 3, 4, 11] H.length) (L :: R) .nrm [some v, some .nilsl, some (.sl H.length 0 8 xs.length xs.length), some (.int .i64 i), x11] (H ++ [.cells (rows evC ys)]) =
      some (.sl H.length 0 8 xs.length xs.length, H ++ [.cells (rows evC xs)]) := by
    intro d
    induction d using Nat.strongRecOn with
    | _ d ih =>
    intro i x11 ys hd hi hys
    have hyl : ys.length = xs.length := by rw [hys]; simp; omega
    have g1 := rows_len evC_len ys
    rw [hyl] at g1
    have g2 : i < xs.length → putAt (rows evC ys) (i * 8) (evC (xs.getD i ev0)) = rows evC (ys.set i (xs.getD i ev0)) := fun hi => by
      have := rows_putD (enc := evC) (j := 0) (xs := ys) evC_len ev0 i (by omega) (ws := evC (xs.getD i ev0)) (by simp [evC_len]) _ rfl
      simpa using this
    have g3 := fun L => (h.left (L := L)).loadD evC_len ev0
    have g4 : ∀ x : Ev, (evC x).length = 8 := evC_len
    skip
    rw [← hL, ← hR, zEv_loop]
    simp (config := {contextual := true, maxSteps := 10000000, implicitDefEqProofs := false}) (disch := first | (and_intros <;> omega -splitDisjunctions) | (simp only [List.length_set, List.length_append, List.length_cons, List.length_nil]; and_intros <;> omega -splitDisjunctions) | fail) only [e1, f1, f2, f3, f4, f5, g1, g2, g3, g4, Tryd.f16, go_sem, ↓reduceIte, Nat.reduceEqDiff, Nat.reduceAdd, Nat.reduceMul, Nat.reduceLT, Nat.reduceLeDiff, reduceCtorEq, Int.reduceNe, Int.reduceEq, Int.reduceLT, Int.reduceLE, Int.reduceAdd, Int.reduceSub, Int.reduceMul, Int.reduceNeg, Int.reduceToNat, UInt8.reduceToNat, natLit, ty3, ty4, ty9, ty36, ty39, ty64, ty65]
    rw [hL, hR]
    split
    · rename_i hlt
      have hlt : i < xs.length := by omega
      rw [show (i : Int) + 1 = ((i + 1 : Nat) : Int) by omega]
      refine ih (xs.length - (i + 1)) (by omega) (i + 1) _ _ rfl (by omega) ?_
      rw [hys, copy_step hlt]
    · rename_i hge
      have : i = xs.length := by omega
      subst this
      rw [hys, List.take_of_length_le (Nat.le_refl _), Nat.sub_self]
      simp
  have := fun x11 => key xs.length 0 x11 (List.replicate xs.length ev0) (by simp) (by simp) (by simp)
  simp only [rows_replicate] at this
  exact this _
theorem run_eqEventS (v w : V) (xs ys : List Ev) (fl : Nat) (H : LH) (h : At H evC 8 v xs) (h' : At H evC 8 w ys) (hx : xs.length ≤ 1099511627776) (hy : ys.length ≤ 1099511627776) :
    run 18 [v, w] fl H = some (.bool (decide (xs = ys)), H) := by
  have e1 := fun a b fl H => run_eqEvent a b fl H
  have f1 := h.isTup; have f2 := h.len; have f3 := h.lenOk ty39
  have f4 := fun L (hp : 0 < xs.length) => (h.left (L := L)).con hp
  have f5 := h.idx (T := ty Tryd.prog) (t := 39) (by simp only [elemI, sizeO, ty3, ty4, ty9, ty39, ty65])
  have g1 := h'.isTup; have g2 := h'.len; have g3 := h'.lenOk ty39
  have g4 := fun L (hp : 0 < ys.length) => (h'.left (L := L)).con hp
  have g5 := h'.idx (T := ty Tryd.prog) (t := 39) (by simp only [elemI, sizeO, ty3, ty4, ty9, ty39, ty65])
  have f4' := fun (hp : 0 < xs.length) => h.con hp
  have g4' := fun (hp : 0 < ys.length) => h'.con hp
  have f6 := fun L => (h.left (L := L)).loadD evC_len ev0
  have g6 := fun L => (h'.left (L := L)).loadD evC_len ev0
  have f6' := h.loadD evC_len ev0
  have g6' := h'.loadD evC_len ev0
  unfold run at *
  rw [Run_z Tryd.func18 rfl (by rfl : ok 18 = true) (by rfl : cfg.keep 18 = [0, 1, 4, 5, 10, 14, 26]) (by rfl : cfg.mode 18 = .pure) (by rfl : cfg.ord 18 = [])]
  by_cases hl : xs.length = ys.length
  · simp (config := {contextual := true, maxSteps := 10000000, implicitDefEqProofs := false}) (disch := first | (and_intros <;> omega -splitDisjunctions) | (simp only [List.length_set, List.length_append, List.length_cons, List.length_nil]; and_intros <;> omega -splitDisjunctions) | fail) only [hl, e1, f1, f2, f3, g1, g2, g3, Tryd.f18, go_sem, ↓reduceIte, Nat.reduceEqDiff, Nat.reduceAdd, Nat.reduceMul, Nat.reduceLT, Nat.reduceLeDiff, reduceCtorEq, Int.reduceNe, Int.reduceEq, Int.reduceLT, Int.reduceLE, Int.reduceAdd, Int.reduceSub, Int.reduceMul, Int.reduceNeg, Int.reduceToNat, UInt8.reduceToNat, natLit, ty3, ty4, ty9, ty39, ty65]
    generalize hL : K.code (Code.loop _) = L
    generalize hR : (K.blk _ :: _ : List K) = R
    have key : ∀ (d i : Nat) (x4 x10 x14 x26 : Option V), xs.length - i = d → i ≤ xs.length →
        zEv (leaveX (mkR Tryd.prog cfg ok [0, 1, 4, 5, 10, 14, 26] H.length) .pure H [ResultVar.tmp 4]) (mkR Tryd.prog cfg ok [0, 1, 4, 5, 10, 14, 26] H.length) (L :: R) .nrm [some v, some w, x4, some (.int .i64 i), x10, x14, x26] H =
        some (.bool (decide (xs.drop i = ys.drop i)), H) := by
      intro d
      induction d using Nat.strongRecOn with
      | _ d ih =>
      intro i x4 x10 x14 x26 hd hi
      rw [← hL, ← hR, zEv_loop]
      simp (config := {contextual := true, maxSteps := 10000000, implicitDefEqProofs := false}) (disch := first | (and_intros <;> omega -splitDisjunctions) | (simp only [List.length_set, List.length_append, List.length_cons, List.length_nil]; and_intros <;> omega -splitDisjunctions) | fail) only [e1, f1, f2, f3, f4', f5, f6', g1, g2, g3, g4', g5, g6', Tryd.f18, go_sem, ↓reduceIte, Nat.reduceEqDiff, Nat.reduceAdd, Nat.reduceMul, Nat.reduceLT, Nat.reduceLeDiff, reduceCtorEq, Int.reduceNe, Int.reduceEq, Int.reduceLT, Int.reduceLE, Int.reduceAdd, Int.reduceSub, Int.reduceMul, Int.reduceNeg, Int.reduceToNat, UInt8.reduceToNat, natLit, ty3, ty4, ty9, ty39, ty65]
      rw [hL, hR]
      split
      · rename_i hlt
        have hlt : i < xs.length := by omega
        have hlt' : i < ys.length := by omega
        rw [show (i : Int) + 1 = ((i + 1 : Nat) : Int) by omega, ih (xs.length - (i + 1)) (by omega) (i + 1) _ _ _ _ rfl (by omega), getD_of hlt, getD_of hlt', List.drop_eq_getElem_cons hlt, List.drop_eq_getElem_cons hlt']
        by_cases e : xs[i] = ys[i] <;> simp only [e, List.cons.injEq, true_and, false_and, not_true_eq_false, not_false_eq_true, if_true, if_false, decide_false]
      · rw [List.drop_of_length_le (by omega), List.drop_of_length_le (by omega)]
        rfl
    exact (key xs.length 0 _ _ _ _ rfl (Nat.zero_le _)).trans (by rw [List.drop_zero, List.drop_zero])
  · have h2 : ¬ xs = ys := fun e => hl (by rw [e])
    have h3 : ¬ (xs.length : Int) = (ys.length : Int) := by omega
    simp (config := {contextual := true, maxSteps := 10000000, implicitDefEqProofs := false}) (disch := first | (and_intros <;> omega -splitDisjunctions) | (simp only [List.length_set, List.length_append, List.length_cons, List.length_nil]; and_intros <;> omega -splitDisjunctions) | fail) only [h2, h3, e1, f1, f2, f3, g1, g2, g3, Tryd.f18, go_sem, ↓reduceIte, Nat.reduceEqDiff, Nat.reduceAdd, Nat.reduceMul, Nat.reduceLT, Nat.reduceLeDiff, reduceCtorEq, Int.reduceNe, Int.reduceEq, Int.reduceLT, Int.reduceLE, Int.reduceAdd, Int.reduceSub, Int.reduceMul, Int.reduceNeg, Int.reduceToNat, UInt8.reduceToNat, natLit, ty3, ty4, ty9, ty39, ty65]
theorem run_szEventS (v : V) (xs : List Ev) (left : Int) (fl : Nat) (H : LH) (h : At H evC 8 v xs) (h0 : 0 ≤ left) (h2 : left ≤ 1048576) (hx : xs.length ≤ 9223372036854775807) (hf : ∀ x ∈ xs, evCFit x) :
    run 14 [v, .int .i64 left] fl H = some (.int .i64 (if left < xs.length + sumZ evCW xs then -1 else left - (xs.length + sumZ evCW xs)), H) := by
  have e1 := fun i (hi : i < xs.length) l hl hl2 fl H => run_szEvent (xs.getD i ev0) l fl H hl hl2 (by rw [getD_of hi]; exact hf _ (List.getElem_mem hi))
  have f1 := h.isTup; have f2 := h.len; have f3 := h.lenOk ty36
  have f4 := fun (hp : 0 < xs.length) => h.con hp
  have f5 := h.idx (T := ty Tryd.prog) (t := 36) (by simp only [elemI, sizeO, ty3, ty4, ty9, ty36, ty64])
  have f6 := h.loadD evC_len ev0
  have w0 : ∀ x, 0 ≤ evCW x := fun x => by unfold evCW; omega
  have w1 := sumZ_nonneg w0 xs
  unfold run at *
  rw [Run_z Tryd.func14 rfl (by rfl : ok 14 = true) (by rfl : cfg.keep 14 = [0, 1, 4, 5, 11, 15, 25]) (by rfl : cfg.mode 14 = .pure) (by rfl : cfg.ord 14 = [])]
  simp (config := {contextual := true, maxSteps := 10000000, implicitDefEqProofs := false}) (disch := first | (and_intros <;> omega -splitDisjunctions) | (simp only [List.length_set, List.length_append, List.length_cons, List.length_nil]; and_intros <;> omega -splitDisjunctions) | fail) only [e1, f1, f2, f3, Tryd.f14, go_sem, ↓reduceIte, Nat.reduceEqDiff, Nat.reduceAdd, Nat.reduceMul, Nat.reduceLT, Nat.reduceLeDiff, reduceCtorEq, Int.reduceNe, Int.reduceEq, Int.reduceLT, Int.reduceLE, Int.reduceAdd, Int.reduceSub, Int.reduceMul, Int.reduceNeg, Int.reduceToNat, UInt8.reduceToNat, natLit, ty3, ty4, ty9, ty36, ty64]
  by_cases hl : left - xs.length < 0
  · rw [if_pos hl, if_pos (by omega)]
  rw [if_neg hl]
  generalize hL : K.code (Code.loop _) = L
  generalize hR : (K.blk _ :: _ : List K) = R
  have key : ∀ (d i : Nat) (x4 x11 x15 x25 : Option V) (l : Int), xs.length - i = d → i ≤ xs.length → 0 ≤ l → l ≤ 1048576 →
      zEv (leaveX (mkR Tryd.prog cfg ok [0, 1, 4, 5, 11, 15, 25] H.length) .pure H [ResultVar.tmp 4]) (mkR Tryd.prog cfg ok [0, 1, 4, 5, 11, 15, 25] H.length) (L :: R) .nrm [some v, some (.int .i64 l), x4, some (.int .i64 i), x11, x15, x25] H =
      some (.int .i64 (if l < sumZ evCW (xs.drop i) then -1 else l - sumZ evCW (xs.drop i)), H) := by
    intro d
    induction d using Nat.strongRecOn with
    | _ d ih =>
    intro i x4 x11 x15 x25 l hd hi hl0 hl1
    have w2 := w0 (xs.getD i ev0)
    have w4 := sumZ_nonneg w0 (xs.drop (i + 1))
    rw [← hL, ← hR, zEv_loop]
    simp (config := {contextual := true, maxSteps := 10000000, implicitDefEqProofs := false}) (disch := first | (and_intros <;> omega -splitDisjunctions) | (simp only [List.length_set, List.length_append, List.length_cons, List.length_nil]; and_intros <;> omega -splitDisjunctions) | fail) only [e1, f1, f2, f3, f4, f5, f6, Tryd.f14, go_sem, ↓reduceIte, Nat.reduceEqDiff, Nat.reduceAdd, Nat.reduceMul, Nat.reduceLT, Nat.reduceLeDiff, reduceCtorEq, Int.reduceNe, Int.reduceEq, Int.reduceLT, Int.reduceLE, Int.reduceAdd, Int.reduceSub, Int.reduceMul, Int.reduceNeg, Int.reduceToNat, UInt8.reduceToNat, natLit, ty3, ty4, ty9, ty36, ty64]
    rw [hL, hR]
    split
    · rename_i hlt
      have hlt : i < xs.length := by omega
      rw [List.drop_eq_getElem_cons hlt, ← getD_of hlt ev0, sumZ_cons]
      by_cases hw : l < evCW (xs.getD i ev0)
      · rw [if_pos (by rw [if_pos hw]; omega), if_pos (by omega)]
      · rw [if_neg (by rw [if_neg hw]; omega), show (i : Int) + 1 = ((i + 1 : Nat) : Int) by omega, if_neg hw, ih (xs.length - (i + 1)) (by omega) (i + 1) _ _ _ _ _ rfl (by omega) (by omega) (by omega)]
        split <;> split <;> first | rfl | (exfalso; omega) | (congr 3; omega)
    · rw [List.drop_of_length_le (by omega), sumZ_nil, if_neg (by omega), Int.sub_zero]
  refine (key xs.length 0 _ _ _ _ (left - xs.length) rfl (Nat.zero_le _) (by omega) (by omega)).trans ?_
  rw [List.drop_zero]
  split <;> split <;> first | rfl | (exfalso; omega) | (congr 3; omega)

end Go.Proofs.YtcbjmggbbnpbpaaDoor.Lg
