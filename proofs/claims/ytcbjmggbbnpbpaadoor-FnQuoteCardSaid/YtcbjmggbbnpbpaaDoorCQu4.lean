/- A scalar in double quotes, in the program. No condition. -/
import Derived.Test.YtcbjmggbbnpbpaaDoorCQu3
namespace Go.Proofs.YtcbjmggbbnpbpaaDoor.Lg
set_option linter.unusedSimpArgs false
set_option linter.unusedVariables false
set_option maxRecDepth 100000
set_option maxHeartbeats 40000000
open Go.Proofs.YtcbjmggbbnpbpaaDoor

/-- one place on -/
def QS.adv (q : QS) : QS := ⟨q.pos + 1, q.lines, q.cur, q.keep⟩
theorem QAt.adv {G H : LH} {b : Nat} {s : ByteArray} {lv : V} {q : QS} (h : QAt G H b s lv q) (hn : q.pos + 1 ≤ s.size) : QAt G (H.set b (.cells (quC s lv q.adv))) b s lv q.adv :=
  ⟨h.hx.set h.hG, h.hG, cellsAt_set (cellsAt_lt h.cell), h.own.setNe (Nat.lt_succ_self b), hn, h.keep, by have := h.sz; show szP q.lines + q.cur.size ≤ 4 * (q.pos + 1); omega⟩
def dqEnd (s : ByteArray) (k : QS → ByteArray × Int × Int) (g : Bool) (q : QS) : ByteArray × Int × Int := if markN s (q.pos + 1) = 0 then k (q.ends s g) else (⟨#[]⟩, q.pos + 1, 4)
def dqGo (s : ByteArray) : Nat → QS → ByteArray × Int × Int
  | 0, _ => (⟨#[]⟩, 0, 0)
  | d + 1, q =>
    if q.pos < s.size then
      if bA s q.pos = 10 then dqEnd s (dqGo s d) false q
      else if bA s q.pos = 92 then
        (if bA s (q.pos + 1) = 10 then dqEnd s (dqGo s d) true q.adv
         else if (escA s q.pos).2 = 0 then (⟨#[]⟩, q.pos, 5) else dqGo s d (q.put (escA s q.pos).1 ((escA s q.pos).2 - q.pos).toNat true))
      else if bA s q.pos = 34 then (foldF (q.lines ++ [(q.cur, false)]), q.pos + 1, 0)
      else dqGo s d (q.put (b1 (bA s q.pos)) 1 (decide (¬bA s q.pos = 32 ∧ ¬bA s q.pos = 9)))
    else (⟨#[]⟩, s.size, 3)
theorem dqGo_s {s : ByteArray} {d : Nat} {q : QS} : dqGo s (d + 1) q = if q.pos < s.size then
      if bA s q.pos = 10 then dqEnd s (dqGo s d) false q
      else if bA s q.pos = 92 then
        (if bA s (q.pos + 1) = 10 then dqEnd s (dqGo s d) true q.adv
         else if (escA s q.pos).2 = 0 then (⟨#[]⟩, q.pos, 5) else dqGo s d (q.put (escA s q.pos).1 ((escA s q.pos).2 - q.pos).toNat true))
      else if bA s q.pos = 34 then (foldF (q.lines ++ [(q.cur, false)]), q.pos + 1, 0)
      else dqGo s d (q.put (b1 (bA s q.pos)) 1 (decide (¬bA s q.pos = 32 ∧ ¬bA s q.pos = 9)))
    else (⟨#[]⟩, s.size, 3) := rfl
def doubleM (s : ByteArray) (p : Nat) : ByteArray × Int × Int := if bA s p = 34 then dqGo s (s.size + 1) ⟨p + 1, [], ⟨#[]⟩, 0⟩ else (⟨#[]⟩, p, 10)
theorem run_DoubleAt (s : ByteArray) (p : Int) (fl : Nat) (H : LH) (hs : s.size ≤ 16777216) : run 27 [.str s, .int .i64 p] fl H = some (t3V (doubleM s (spt s p)), H) := by
  have e1 := fun fl H => run_spot s p fl H (by omega)
  have h1 := spt_le s p
  generalize spt s p = p0 at *
  have e2 := fun q (h : (0 : Int) ≤ q) fl H => run_byteAt s q fl H h (by omega)
  have e3 := fun b fl H => run_isWhite b fl H
  unfold doubleM
  by_cases h39 : bA s p0 = 34
  rotate_left
  · rw [if_neg h39]
    unfold run at *
    rw [Run_z Tryd.func27 rfl (by rfl : ok 27 = true) (by rfl : cfg.keep 27 = [0, 1, 4, 5, 6, 7, 8, 9, 10, 11, 18, 31, 59, 65, 76, 81, 94, 108]) (by rfl : cfg.mode 27 = .pure) (by rfl : cfg.ord 27 = [])]
    simp (config := {contextual := true, maxSteps := 10000000, implicitDefEqProofs := false}) (disch := first | (and_intros <;> omega -splitDisjunctions) | (simp only [List.length_set, List.length_append, List.length_cons, List.length_nil]; and_intros <;> omega -splitDisjunctions) | fail) only [e1, e2, h39, Tryd.f27, go_sem, ↓reduceIte, Nat.reduceEqDiff, Nat.reduceAdd, Nat.reduceMul, Nat.reduceLT, Nat.reduceLeDiff, reduceCtorEq, Int.reduceNe, Int.reduceEq, Int.reduceLT, Int.reduceLE, Int.reduceAdd, Int.reduceSub, Int.reduceMul, Int.reduceNeg, Int.reduceToNat, UInt8.reduceToNat, natLit, ty3, ty4, ty5, ty9, ty46, ty90, ty92, ty119]
    rfl
  rw [if_pos h39]
  have hp0 := bA_in' h39 (by omega)
  unfold run at *
  rw [Run_z Tryd.func27 rfl (by rfl : ok 27 = true) (by rfl : cfg.keep 27 = [0, 1, 4, 5, 6, 7, 8, 9, 10, 11, 18, 31, 59, 65, 76, 81, 94, 108]) (by rfl : cfg.mode 27 = .pure) (by rfl : cfg.ord 27 = [])]
  simp (config := {contextual := true, maxSteps := 10000000, implicitDefEqProofs := false}) (disch := first | (and_intros <;> omega -splitDisjunctions) | (simp only [List.length_set, List.length_append, List.length_cons, List.length_nil]; and_intros <;> omega -splitDisjunctions) | fail) only [e1, e2, h39, Tryd.f27, go_sem, ↓reduceIte, Nat.reduceEqDiff, Nat.reduceAdd, Nat.reduceMul, Nat.reduceLT, Nat.reduceLeDiff, reduceCtorEq, Int.reduceNe, Int.reduceEq, Int.reduceLT, Int.reduceLE, Int.reduceAdd, Int.reduceSub, Int.reduceMul, Int.reduceNeg, Int.reduceToNat, UInt8.reduceToNat, natLit, ty3, ty4, ty5, ty9, ty46, ty90, ty92, ty119]
  refine at_loopE fun c R hc hR => ?_
  have key : ∀ (m : Nat) (B : LH) (lv : V) (q : QS) (x1 x4 x5 x6 x8 x9 x10 x11 x18 x31 x59 x65 x76 x81 x94 x108 : Option V), s.size - q.pos < m → QAt H B H.length s lv q → (∃ d, s.size - q.pos < d ∧ dqGo s d q = dqGo s (s.size + 1) ⟨p0 + 1, [], ⟨#[]⟩, 0⟩) →
      zEv (leaveX (mkR Tryd.prog cfg ok [0, 1, 4, 5, 6, 7, 8, 9, 10, 11, 18, 31, 59, 65, 76, 81, 94, 108] H.length) .pure H [ResultVar.tmp 4, ResultVar.tmp 5, ResultVar.tmp 6]) (mkR Tryd.prog cfg ok [0, 1, 4, 5, 6, 7, 8, 9, 10, 11, 18, 31, 59, 65, 76, 81, 94, 108] H.length) (K.code (Code.loop c) :: K.blk 0 :: R) .nrm [some (.str s), x1, x4, x5, x6, some (.ptr H.length 0), x8, x9, x10, x11, x18, x31, x59, x65, x76, x81, x94, x108] (B) = some (t3V (dqGo s (s.size + 1) ⟨p0 + 1, [], ⟨#[]⟩, 0⟩), H) := by
    intro m
    induction m with
    | zero => intro B lv q x1 x4 x5 x6 x8 x9 x10 x11 x18 x31 x59 x65 x76 x81 x94 x108 hm; omega
    | succ m ih =>
      intro B lv q x1 x4 x5 x6 x8 x9 x10 x11 x18 x31 x59 x65 x76 x81 x94 x108 hm hq hf
      obtain ⟨d, hd, hf⟩ := hf
      obtain ⟨d, rfl⟩ : ∃ d', d = d' + 1 := ⟨d - 1, by omega⟩
      rw [dqGo_s] at hf
      have hcq := hq.cell
      have hle := hq.le
      have hxl := hq.hx.len
      unfold quC at hcq
      have o1 := (hq.own.at pcC_len).isTup; have o2 := (hq.own.at pcC_len).one
      by_cases hlt : q.pos < s.size
      rotate_left
      · have t1 : ((q.pos : Int) < s.size) = False := eq_false (by omega)
        rw [if_neg hlt] at hf
        rw [zEv_round hc, ← hR]
        simp (config := {contextual := true, maxSteps := 10000000, implicitDefEqProofs := false}) (disch := first | (and_intros <;> omega -splitDisjunctions) | (simp only [List.length_set, List.length_append, List.length_cons, List.length_nil]; and_intros <;> omega -splitDisjunctions) | fail) only [hcq, o1, o2, t1, Tryd.f27, go_sem, ↓reduceIte, Nat.reduceEqDiff, Nat.reduceAdd, Nat.reduceMul, Nat.reduceLT, Nat.reduceLeDiff, reduceCtorEq, Int.reduceNe, Int.reduceEq, Int.reduceLT, Int.reduceLE, Int.reduceAdd, Int.reduceSub, Int.reduceMul, Int.reduceNeg, Int.reduceToNat, UInt8.reduceToNat, natLit, ty3, ty4, ty5, ty9, ty46, ty90, ty92, ty119]
        rw [← hf]; rfl
      have t1 : ((q.pos : Int) < s.size) = True := eq_true (by omega)
      rw [if_pos hlt] at hf
      have hp1 : ((q.pos + 1 : Nat) : Int) = (q.pos : Int) + 1 := by omega
      by_cases h10 : bA s q.pos = 10
      · rw [if_pos h10] at hf
        have t2 : (bA s (q.pos : Int) = 10) = True := eq_true h10
        have t3 : (bA s (q.pos : Int) = 92) = False := eq_false (by omega)
        unfold dqEnd at hf
        obtain ⟨w, C, e4, rfl, lv', hq'⟩ := run_ends hq false H.length (Nat.le_refl _) hs hlt
        have hw1 := wtN_lo s (q.pos + 1)
        unfold run at e4
        by_cases hm : markN s (q.pos + 1) = 0
        · rw [if_pos hm] at hf
          rw [decide_eq_true hm] at e4
          rw [zEv_round hc]
          simp (config := {contextual := true, maxSteps := 10000000, implicitDefEqProofs := false}) (disch := first | (and_intros <;> omega -splitDisjunctions) | (simp only [List.length_set, List.length_append, List.length_cons, List.length_nil]; and_intros <;> omega -splitDisjunctions) | fail) only [hcq, o1, o2, t1, t3, h10, e2, e4, cellsAt_set, cellsAt_set_ne, cellsAt_old, set_old, Tryd.f27, go_sem, ↓reduceIte, Nat.reduceEqDiff, Nat.reduceAdd, Nat.reduceMul, Nat.reduceLT, Nat.reduceLeDiff, reduceCtorEq, Int.reduceNe, Int.reduceEq, Int.reduceLT, Int.reduceLE, Int.reduceAdd, Int.reduceSub, Int.reduceMul, Int.reduceNeg, Int.reduceToNat, UInt8.reduceToNat, natLit, ty3, ty4, ty5, ty9, ty46, ty90, ty92, ty119]
          have hpos : (q.ends s false).pos = wtN s (q.pos + 1) := by unfold QS.ends; exact if_pos hm
          have hpl : s.size - (q.ends s false).pos < s.size - q.pos := by rw [hpos]; omega
          exact ih C lv' (q.ends s false) _ _ _ _ _ _ _ _ _ _ _ _ _ _ _ _ (by omega) hq' ⟨d, by omega, hf⟩
        · rw [if_neg hm] at hf
          rw [decide_eq_false hm] at e4
          have hcC := hq'.cell
          have o3 := (hq'.own.at pcC_len).isTup; have o4 := (hq'.own.at pcC_len).one
          have hpos : ((q.ends s false).pos : Int) = (q.pos : Int) + 1 := by unfold QS.ends; rw [if_neg hm]; show (((q.pos + 1 : Nat)) : Int) = (q.pos : Int) + 1; omega
          unfold quC at hcC
          rw [hpos] at hcC
          rw [zEv_round hc, ← hR]
          simp (config := {contextual := true, maxSteps := 10000000, implicitDefEqProofs := false}) (disch := first | (and_intros <;> omega -splitDisjunctions) | (simp only [List.length_set, List.length_append, List.length_cons, List.length_nil]; and_intros <;> omega -splitDisjunctions) | fail) only [hcq, o1, o2, o3, o4, t1, t3, h10, e2, e4, hcC, cellsAt_set, cellsAt_set_ne, cellsAt_old, set_old, Tryd.f27, go_sem, ↓reduceIte, Nat.reduceEqDiff, Nat.reduceAdd, Nat.reduceMul, Nat.reduceLT, Nat.reduceLeDiff, reduceCtorEq, Int.reduceNe, Int.reduceEq, Int.reduceLT, Int.reduceLE, Int.reduceAdd, Int.reduceSub, Int.reduceMul, Int.reduceNeg, Int.reduceToNat, UInt8.reduceToNat, natLit, ty3, ty4, ty5, ty9, ty46, ty90, ty92, ty119]
          rw [← hf]; rfl
      rw [if_neg h10] at hf
      have t2 : (bA s (q.pos : Int) = 10) = False := eq_false h10
      by_cases h92 : bA s q.pos = 92
      · rw [if_pos h92] at hf
        have t3 : (bA s (q.pos : Int) = 92) = True := eq_true h92
        by_cases h10b : bA s (q.pos + 1) = 10
        · rw [if_pos h10b] at hf
          have hlt2 : q.pos + 1 < s.size := bA_in' h10b (by omega)
          have t4 : True := trivial
          unfold dqEnd at hf
          obtain ⟨w, C, e4, rfl, lv', hq'⟩ := run_ends (hq.adv (by omega)) true H.length (Nat.le_refl _) hs hlt2
          have hw1 := wtN_lo s (q.adv.pos + 1)
          unfold run quC at e4
          by_cases hm : markN s (q.adv.pos + 1) = 0
          · rw [if_pos hm] at hf
            rw [decide_eq_true hm] at e4
            simp only [QS.adv, hp1] at e4
            rw [zEv_round hc]
            simp (config := {contextual := true, maxSteps := 10000000, implicitDefEqProofs := false}) (disch := first | (and_intros <;> omega -splitDisjunctions) | (simp only [List.length_set, List.length_append, List.length_cons, List.length_nil]; and_intros <;> omega -splitDisjunctions) | fail) only [hcq, o1, o2, t1, h92, h10b, e2, e4, cellsAt_set, cellsAt_set_ne, cellsAt_old, set_old, Tryd.f27, go_sem, ↓reduceIte, Nat.reduceEqDiff, Nat.reduceAdd, Nat.reduceMul, Nat.reduceLT, Nat.reduceLeDiff, reduceCtorEq, Int.reduceNe, Int.reduceEq, Int.reduceLT, Int.reduceLE, Int.reduceAdd, Int.reduceSub, Int.reduceMul, Int.reduceNeg, Int.reduceToNat, UInt8.reduceToNat, natLit, ty3, ty4, ty5, ty9, ty46, ty90, ty92, ty119]
            have hpos : (q.adv.ends s true).pos = wtN s (q.adv.pos + 1) := by unfold QS.ends; exact if_pos hm
            have hpl : s.size - (q.adv.ends s true).pos < s.size - q.pos := by rw [hpos]; show s.size - wtN s (q.pos + 1 + 1) < _; have : q.adv.pos + 1 = q.pos + 1 + 1 := rfl; rw [this] at hw1; omega
            exact ih C lv' (q.adv.ends s true) _ _ _ _ _ _ _ _ _ _ _ _ _ _ _ _ (by omega) hq' ⟨d, by omega, hf⟩
          · rw [if_neg hm] at hf
            rw [decide_eq_false hm] at e4
            simp only [QS.adv, hp1] at e4
            have hcC := hq'.cell
            have o3 := (hq'.own.at pcC_len).isTup; have o4 := (hq'.own.at pcC_len).one
            have hpos : ((q.adv.ends s true).pos : Int) = (q.adv.pos : Int) + 1 := by unfold QS.ends; rw [if_neg hm]; show (((q.adv.pos + 1 : Nat)) : Int) = (q.adv.pos : Int) + 1; omega
            unfold quC at hcC
            rw [hpos] at hcC
            rw [zEv_round hc, ← hR]
            simp (config := {contextual := true, maxSteps := 10000000, implicitDefEqProofs := false}) (disch := first | (and_intros <;> omega -splitDisjunctions) | (simp only [List.length_set, List.length_append, List.length_cons, List.length_nil]; and_intros <;> omega -splitDisjunctions) | fail) only [hcq, o1, o2, o3, o4, t1, h92, h10b, e2, e4, hcC, cellsAt_set, cellsAt_set_ne, cellsAt_old, set_old, Tryd.f27, go_sem, ↓reduceIte, Nat.reduceEqDiff, Nat.reduceAdd, Nat.reduceMul, Nat.reduceLT, Nat.reduceLeDiff, reduceCtorEq, Int.reduceNe, Int.reduceEq, Int.reduceLT, Int.reduceLE, Int.reduceAdd, Int.reduceSub, Int.reduceMul, Int.reduceNeg, Int.reduceToNat, UInt8.reduceToNat, natLit, ty3, ty4, ty5, ty9, ty46, ty90, ty92, ty119]
            rw [← hf]; rfl
        rw [if_neg h10b] at hf
        have hes := escA_size s q.pos
        have e5 := fun fl H => run_EscapeAtN s q.pos fl H hle (by omega)
        have her := escA_rng (s := s) (p := q.pos)
        unfold run at e5
        by_cases he0 : (escA s q.pos).2 = 0
        · rw [if_pos he0] at hf
          rw [he0] at e5
          rw [zEv_round hc, ← hR]
          simp (config := {contextual := true, maxSteps := 10000000, implicitDefEqProofs := false}) (disch := first | (and_intros <;> omega -splitDisjunctions) | (simp only [List.length_set, List.length_append, List.length_cons, List.length_nil]; and_intros <;> omega -splitDisjunctions) | fail) only [hcq, o1, o2, t1, h92, h10b, e2, e5, Tryd.f27, go_sem, ↓reduceIte, Nat.reduceEqDiff, Nat.reduceAdd, Nat.reduceMul, Nat.reduceLT, Nat.reduceLeDiff, reduceCtorEq, Int.reduceNe, Int.reduceEq, Int.reduceLT, Int.reduceLE, Int.reduceAdd, Int.reduceSub, Int.reduceMul, Int.reduceNeg, Int.reduceToNat, UInt8.reduceToNat, natLit, ty3, ty4, ty5, ty9, ty46, ty90, ty92, ty119]
          rw [← hf]; rfl
        · rw [if_neg he0] at hf
          obtain ⟨g1, g2, g3⟩ := her.resolve_left he0
          have t5 : ((escA s q.pos).2 = 0) = False := eq_false he0
          have e4 := run_put hq (escA s q.pos).1 ((escA s q.pos).2 - q.pos).toNat true H.length (Nat.le_refl _) hs (by omega) (by omega) (m := (escA s q.pos).2 - q.pos) (by omega)
          generalize escA s q.pos = es at *
          obtain ⟨et, ee⟩ := es
          dsimp only at *
          unfold run at e4
          rw [zEv_round hc]
          simp (config := {contextual := true, maxSteps := 10000000, implicitDefEqProofs := false}) (disch := first | (and_intros <;> omega -splitDisjunctions) | (simp only [List.length_set, List.length_append, List.length_cons, List.length_nil]; and_intros <;> omega -splitDisjunctions) | fail) only [hcq, o1, o2, t1, t5, h92, h10b, e2, e4, e5, Tryd.f27, go_sem, ↓reduceIte, Nat.reduceEqDiff, Nat.reduceAdd, Nat.reduceMul, Nat.reduceLT, Nat.reduceLeDiff, reduceCtorEq, Int.reduceNe, Int.reduceEq, Int.reduceLT, Int.reduceLE, Int.reduceAdd, Int.reduceSub, Int.reduceMul, Int.reduceNeg, Int.reduceToNat, UInt8.reduceToNat, natLit, ty3, ty4, ty5, ty9, ty46, ty90, ty92, ty119]
          exact ih _ lv (q.put et (ee - q.pos).toNat true) _ _ _ _ _ _ _ _ _ _ _ _ _ _ _ _ (by show s.size - (q.pos + _) < _; omega) (hq.put (by omega) (by omega)) ⟨d, by show s.size - (q.pos + _) < _; omega, hf⟩
      rw [if_neg h92] at hf
      have t3 : (bA s (q.pos : Int) = 92) = False := eq_false h92
      by_cases h39 : bA s q.pos = 34
      · rw [if_pos h39] at hf
        obtain ⟨w, C, e4, rfl⟩ := run_qdone hq H.length (Nat.le_refl _) hs hlt
        unfold run at e4
        rw [zEv_round hc, ← hR]
        simp (config := {contextual := true, maxSteps := 10000000, implicitDefEqProofs := false}) (disch := first | (and_intros <;> omega -splitDisjunctions) | (simp only [List.length_set, List.length_append, List.length_cons, List.length_nil]; and_intros <;> omega -splitDisjunctions) | fail) only [hcq, o1, o2, t1, h39, e2, e4, Tryd.f27, go_sem, ↓reduceIte, Nat.reduceEqDiff, Nat.reduceAdd, Nat.reduceMul, Nat.reduceLT, Nat.reduceLeDiff, reduceCtorEq, Int.reduceNe, Int.reduceEq, Int.reduceLT, Int.reduceLE, Int.reduceAdd, Int.reduceSub, Int.reduceMul, Int.reduceNeg, Int.reduceToNat, UInt8.reduceToNat, natLit, ty3, ty4, ty5, ty9, ty46, ty90, ty92, ty119]
        rw [← hf]; rfl
      rw [if_neg h39] at hf
      have t4 : (bA s (q.pos : Int) = 34) = False := eq_false h39
      have e4 := fun L => run_put (hq.left (L := L)) (b1 (bA s q.pos)) 1 (decide (¬bA s q.pos = 32 ∧ ¬bA s q.pos = 9)) H.length (Nat.le_refl _) hs (by omega) (by rw [b1_size]; omega) (m := 1) rfl
      unfold run b1 at e4
      rw [zEv_round hc]
      simp (config := {contextual := true, maxSteps := 10000000, implicitDefEqProofs := false}) (disch := first | (and_intros <;> omega -splitDisjunctions) | (simp only [List.length_set, List.length_append, List.length_cons, List.length_nil]; and_intros <;> omega -splitDisjunctions) | fail) only [hcq, o1, o2, t1, t2, t3, t4, e2, e3, e4, Tryd.f27, go_sem, ↓reduceIte, Nat.reduceEqDiff, Nat.reduceAdd, Nat.reduceMul, Nat.reduceLT, Nat.reduceLeDiff, reduceCtorEq, Int.reduceNe, Int.reduceEq, Int.reduceLT, Int.reduceLE, Int.reduceAdd, Int.reduceSub, Int.reduceMul, Int.reduceNeg, Int.reduceToNat, UInt8.reduceToNat, natLit, ty3, ty4, ty5, ty9, ty46, ty90, ty92, ty119]
      exact ih _ lv (q.put (b1 (bA s q.pos)) 1 (decide (¬bA s q.pos = 32 ∧ ¬bA s q.pos = 9))) _ _ _ _ _ _ _ _ _ _ _ _ _ _ _ _ (by show s.size - (q.pos + 1) < _; omega) (hq.left.put (by omega) (by show 1 ≤ 4 * 1; omega)) ⟨d, by show s.size - (q.pos + 1) < _; omega, hf⟩
  exact key (s.size + 1) _ .nilsl ⟨p0 + 1, [], ⟨#[]⟩, 0⟩ _ _ _ _ _ _ _ _ _ _ _ _ _ _ _ _ (by show s.size - (p0 + 1) < _; omega) ⟨Hx.app, Nat.le_refl _, by rw [cellsAt_app0]; rfl, .inl ⟨rfl, .inl rfl⟩, hp0, Nat.le_refl _, Nat.zero_le _⟩ ⟨s.size + 1, by show s.size - (p0 + 1) < _; omega, rfl⟩
end Go.Proofs.YtcbjmggbbnpbpaaDoor.Lg
