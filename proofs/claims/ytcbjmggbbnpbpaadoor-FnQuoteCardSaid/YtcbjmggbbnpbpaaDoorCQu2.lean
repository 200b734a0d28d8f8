/- A scalar in single quotes, in the program. No condition. -/
import Derived.Test.YtcbjmggbbnpbpaaDoorCQu1
namespace Go.Proofs.YtcbjmggbbnpbpaaDoor.Lg
set_option linter.unusedSimpArgs false
set_option linter.unusedVariables false
set_option maxRecDepth 100000
set_option maxHeartbeats 40000000
open Go.Proofs.YtcbjmggbbnpbpaaDoor

/-- the text of one byte -/
def b1 (x : Int) : ByteArray := ⟨#[UInt8.ofNat x.toNat]⟩
theorem b1_size (x : Int) : (b1 x).size = 1 := rfl
def sgGo (s : ByteArray) : Nat → QS → ByteArray × Int × Int
  | 0, _ => (⟨#[]⟩, 0, 0)
  | d + 1, q =>
    if q.pos < s.size then
      if bA s q.pos = 10 then (if markN s (q.pos + 1) = 0 then sgGo s d (q.ends s false) else (⟨#[]⟩, q.pos + 1, 4))
      else if bA s q.pos = 39 then (if bA s (q.pos + 1) = 39 then sgGo s d (q.put ⟨#[39]⟩ 2 true) else (foldF (q.lines ++ [(q.cur, false)]), q.pos + 1, 0))
      else sgGo s d (q.put (b1 (bA s q.pos)) 1 (decide (¬bA s q.pos = 32 ∧ ¬bA s q.pos = 9)))
    else (⟨#[]⟩, s.size, 3)
theorem sgGo_s {s : ByteArray} {d : Nat} {q : QS} : sgGo s (d + 1) q = if q.pos < s.size then
      if bA s q.pos = 10 then (if markN s (q.pos + 1) = 0 then sgGo s d (q.ends s false) else (⟨#[]⟩, q.pos + 1, 4))
      else if bA s q.pos = 39 then (if bA s (q.pos + 1) = 39 then sgGo s d (q.put ⟨#[39]⟩ 2 true) else (foldF (q.lines ++ [(q.cur, false)]), q.pos + 1, 0))
      else sgGo s d (q.put (b1 (bA s q.pos)) 1 (decide (¬bA s q.pos = 32 ∧ ¬bA s q.pos = 9)))
    else (⟨#[]⟩, s.size, 3) := rfl
def singleM (s : ByteArray) (p : Nat) : ByteArray × Int × Int := if bA s p = 39 then sgGo s (s.size + 1) ⟨p + 1, [], ⟨#[]⟩, 0⟩ else (⟨#[]⟩, p, 10)
def t3V (r : ByteArray × Int × Int) : V := .tup [.str r.1, .int .i64 r.2.1, .int .i64 r.2.2]
theorem run_SingleAt (s : ByteArray) (p : Int) (fl : Nat) (H : LH) (hs : s.size ≤ 16777216) : run 28 [.str s, .int .i64 p] fl H = some (t3V (singleM s (spt s p)), H) := by
  have e1 := fun fl H => run_spot s p fl H (by omega)
  have h1 := spt_le s p
  generalize spt s p = p0 at *
  have e2 := fun q (h : (0 : Int) ≤ q) fl H => run_byteAt s q fl H h (by omega)
  have e3 := fun b fl H => run_isWhite b fl H
  unfold singleM
  by_cases h39 : bA s p0 = 39
  rotate_left
  · rw [if_neg h39]
    unfold run at *
    rw [Run_z Tryd.func28 rfl (by rfl : ok 28 = true) (by rfl : cfg.keep 28 = [0, 1, 4, 5, 6, 7, 8, 15, 28, 44, 49, 54, 69]) (by rfl : cfg.mode 28 = .pure) (by rfl : cfg.ord 28 = [])]
    simp (config := {contextual := true, maxSteps := 10000000, implicitDefEqProofs := false}) (disch := first | (and_intros <;> omega -splitDisjunctions) | (simp only [List.length_set, List.length_append, List.length_cons, List.length_nil]; and_intros <;> omega -splitDisjunctions) | fail) only [e1, e2, h39, Tryd.f28, go_sem, ↓reduceIte, Nat.reduceEqDiff, Nat.reduceAdd, Nat.reduceMul, Nat.reduceLT, Nat.reduceLeDiff, reduceCtorEq, Int.reduceNe, Int.reduceEq, Int.reduceLT, Int.reduceLE, Int.reduceAdd, Int.reduceSub, Int.reduceMul, Int.reduceNeg, Int.reduceToNat, UInt8.reduceToNat, natLit, ty3, ty4, ty5, ty9, ty46, ty90, ty92, ty119]
    rfl
  rw [if_pos h39]
  have hp0 := bA_in' h39 (by omega)
  unfold run at *
  rw [Run_z Tryd.func28 rfl (by rfl : ok 28 = true) (by rfl : cfg.keep 28 = [0, 1, 4, 5, 6, 7, 8, 15, 28, 44, 49, 54, 69]) (by rfl : cfg.mode 28 = .pure) (by rfl : cfg.ord 28 = [])]
  simp (config := {contextual := true, maxSteps := 10000000, implicitDefEqProofs := false}) (disch := first | (and_intros <;> omega -splitDisjunctions) | (simp only [List.length_set, List.length_append, List.length_cons, List.length_nil]; and_intros <;> omega -splitDisjunctions) | fail) only [e1, e2, h39, Tryd.f28, go_sem, ↓reduceIte, Nat.reduceEqDiff, Nat.reduceAdd, Nat.reduceMul, Nat.reduceLT, Nat.reduceLeDiff, reduceCtorEq, Int.reduceNe, Int.reduceEq, Int.reduceLT, Int.reduceLE, Int.reduceAdd, Int.reduceSub, Int.reduceMul, Int.reduceNeg, Int.reduceToNat, UInt8.reduceToNat, natLit, ty3, ty4, ty5, ty9, ty46, ty90, ty92, ty119]
  refine at_loopE fun c R hc hR => ?_
  have key : ∀ (m : Nat) (B : LH) (lv : V) (q : QS) (x1 x4 x5 x6 x8 x15 x28 x44 x49 x54 x69 : Option V), s.size - q.pos < m → QAt H B H.length s lv q → (∃ d, s.size - q.pos < d ∧ sgGo s d q = sgGo s (s.size + 1) ⟨p0 + 1, [], ⟨#[]⟩, 0⟩) →
      zEv (leaveX (mkR Tryd.prog cfg ok [0, 1, 4, 5, 6, 7, 8, 15, 28, 44, 49, 54, 69] H.length) .pure H [ResultVar.tmp 4, ResultVar.tmp 5, ResultVar.tmp 6]) (mkR Tryd.prog cfg ok [0, 1, 4, 5, 6, 7, 8, 15, 28, 44, 49, 54, 69] H.length) (K.code (Code.loop c) :: K.blk 0 :: R) .nrm [some (.str s), x1, x4, x5, x6, some (.ptr H.length 0), x8, x15, x28, x44, x49, x54, x69] (B) = some (t3V (sgGo s (s.size + 1) ⟨p0 + 1, [], ⟨#[]⟩, 0⟩), H) := by
    intro m
    induction m with
    | zero => intro B lv q x1 x4 x5 x6 x8 x15 x28 x44 x49 x54 x69 hm; omega
    | succ m ih =>
      intro B lv q x1 x4 x5 x6 x8 x15 x28 x44 x49 x54 x69 hm hq hf
      obtain ⟨d, hd, hf⟩ := hf
      obtain ⟨d, rfl⟩ : ∃ d', d = d' + 1 := ⟨d - 1, by omega⟩
      rw [sgGo_s] at hf
      have hcq := hq.cell
      have hle := hq.le
      have hxl := hq.hx.len
      unfold quC at hcq
      have o1 := (hq.own.at pcC_len).isTup; have o2 := (hq.own.at pcC_len).one
      by_cases hlt : q.pos < s.size
      rotate_left
      · have t1 : ((q.pos : Int) < s.size) = False := eq_false (by omega)
        rw [if_neg hlt] at hf
        rw [zEv_round hc, ← hR]
        simp (config := {contextual := true, maxSteps := 10000000, implicitDefEqProofs := false}) (disch := first | (and_intros <;> omega -splitDisjunctions) | (simp only [List.length_set, List.length_append, List.length_cons, List.length_nil]; and_intros <;> omega -splitDisjunctions) | fail) only [hcq, o1, o2, t1, Tryd.f28, go_sem, ↓reduceIte, Nat.reduceEqDiff, Nat.reduceAdd, Nat.reduceMul, Nat.reduceLT, Nat.reduceLeDiff, reduceCtorEq, Int.reduceNe, Int.reduceEq, Int.reduceLT, Int.reduceLE, Int.reduceAdd, Int.reduceSub, Int.reduceMul, Int.reduceNeg, Int.reduceToNat, UInt8.reduceToNat, natLit, ty3, ty4, ty5, ty9, ty46, ty90, ty92, ty119]
        rw [← hf]; rfl
      have t1 : ((q.pos : Int) < s.size) = True := eq_true (by omega)
      rw [if_pos hlt] at hf
      by_cases h10 : bA s q.pos = 10
      · rw [if_pos h10] at hf
        have t2 : (bA s (q.pos : Int) = 10) = True := eq_true h10
        obtain ⟨w, C, e4, rfl, lv', hq'⟩ := run_ends hq false H.length (Nat.le_refl _) hs hlt
        have hw1 := wtN_lo s (q.pos + 1)
        unfold run at e4
        by_cases hm : markN s (q.pos + 1) = 0
        · rw [if_pos hm] at hf
          rw [decide_eq_true hm] at e4
          rw [zEv_round hc]
          simp (config := {contextual := true, maxSteps := 10000000, implicitDefEqProofs := false}) (disch := first | (and_intros <;> omega -splitDisjunctions) | (simp only [List.length_set, List.length_append, List.length_cons, List.length_nil]; and_intros <;> omega -splitDisjunctions) | fail) only [hcq, o1, o2, t1, t2, e2, e4, Tryd.f28, go_sem, ↓reduceIte, Nat.reduceEqDiff, Nat.reduceAdd, Nat.reduceMul, Nat.reduceLT, Nat.reduceLeDiff, reduceCtorEq, Int.reduceNe, Int.reduceEq, Int.reduceLT, Int.reduceLE, Int.reduceAdd, Int.reduceSub, Int.reduceMul, Int.reduceNeg, Int.reduceToNat, UInt8.reduceToNat, natLit, ty3, ty4, ty5, ty9, ty46, ty90, ty92, ty119]
          have hpos : (q.ends s false).pos = wtN s (q.pos + 1) := by unfold QS.ends; exact if_pos hm
          have hpl : s.size - (q.ends s false).pos < s.size - q.pos := by rw [hpos]; omega
          exact ih C lv' (q.ends s false) _ _ _ _ _ _ _ _ _ _ _ (by omega) hq' ⟨d, by omega, hf⟩
        · rw [if_neg hm] at hf
          rw [decide_eq_false hm] at e4
          have hcC := hq'.cell
          have o3 := (hq'.own.at pcC_len).isTup; have o4 := (hq'.own.at pcC_len).one
          have hpos : ((q.ends s false).pos : Int) = (q.pos : Int) + 1 := by unfold QS.ends; rw [if_neg hm]; show (((q.pos + 1 : Nat)) : Int) = (q.pos : Int) + 1; omega
          unfold quC at hcC
          rw [hpos] at hcC
          rw [zEv_round hc, ← hR]
          simp (config := {contextual := true, maxSteps := 10000000, implicitDefEqProofs := false}) (disch := first | (and_intros <;> omega -splitDisjunctions) | (simp only [List.length_set, List.length_append, List.length_cons, List.length_nil]; and_intros <;> omega -splitDisjunctions) | fail) only [hcq, o1, o2, o3, o4, t1, t2, e2, e4, hcC, Tryd.f28, go_sem, ↓reduceIte, Nat.reduceEqDiff, Nat.reduceAdd, Nat.reduceMul, Nat.reduceLT, Nat.reduceLeDiff, reduceCtorEq, Int.reduceNe, Int.reduceEq, Int.reduceLT, Int.reduceLE, Int.reduceAdd, Int.reduceSub, Int.reduceMul, Int.reduceNeg, Int.reduceToNat, UInt8.reduceToNat, natLit, ty3, ty4, ty5, ty9, ty46, ty90, ty92, ty119]
          rw [← hf]; rfl
      rw [if_neg h10] at hf
      have t2 : (bA s (q.pos : Int) = 10) = False := eq_false h10
      have hp1 : ((q.pos + 1 : Nat) : Int) = (q.pos : Int) + 1 := by omega
      by_cases h39 : bA s q.pos = 39
      · rw [if_pos h39] at hf
        have t3 : (bA s (q.pos : Int) = 39) = True := eq_true h39
        by_cases h39b : bA s (q.pos + 1) = 39
        · rw [if_pos h39b] at hf
          have hlt2 : q.pos + 1 < s.size := bA_in' h39b (by omega)
          have e4 := run_put hq ⟨#[39]⟩ 2 true H.length (Nat.le_refl _) hs (by omega) (by decide) (m := 2) rfl
          unfold run at e4
          rw [zEv_round hc]
          simp (config := {contextual := true, maxSteps := 10000000, implicitDefEqProofs := false}) (disch := first | (and_intros <;> omega -splitDisjunctions) | (simp only [List.length_set, List.length_append, List.length_cons, List.length_nil]; and_intros <;> omega -splitDisjunctions) | fail) only [hcq, o1, o2, t1, t2, t3, h39, h39b, e2, e4, Tryd.f28, go_sem, ↓reduceIte, Nat.reduceEqDiff, Nat.reduceAdd, Nat.reduceMul, Nat.reduceLT, Nat.reduceLeDiff, reduceCtorEq, Int.reduceNe, Int.reduceEq, Int.reduceLT, Int.reduceLE, Int.reduceAdd, Int.reduceSub, Int.reduceMul, Int.reduceNeg, Int.reduceToNat, UInt8.reduceToNat, natLit, ty3, ty4, ty5, ty9, ty46, ty90, ty92, ty119]
          exact ih _ lv (q.put ⟨#[39]⟩ 2 true) _ _ _ _ _ _ _ _ _ _ _ (by show s.size - (q.pos + 2) < _; omega) (hq.put (by omega) (by decide)) ⟨d, by show s.size - (q.pos + 2) < _; omega, hf⟩
        · rw [if_neg h39b] at hf
          obtain ⟨w, C, e4, rfl⟩ := run_qdone hq H.length (Nat.le_refl _) hs hlt
          unfold run at e4
          rw [zEv_round hc, ← hR]
          simp (config := {contextual := true, maxSteps := 10000000, implicitDefEqProofs := false}) (disch := first | (and_intros <;> omega -splitDisjunctions) | (simp only [List.length_set, List.length_append, List.length_cons, List.length_nil]; and_intros <;> omega -splitDisjunctions) | fail) only [hcq, o1, o2, t1, t2, t3, h39, h39b, e2, e4, Tryd.f28, go_sem, ↓reduceIte, Nat.reduceEqDiff, Nat.reduceAdd, Nat.reduceMul, Nat.reduceLT, Nat.reduceLeDiff, reduceCtorEq, Int.reduceNe, Int.reduceEq, Int.reduceLT, Int.reduceLE, Int.reduceAdd, Int.reduceSub, Int.reduceMul, Int.reduceNeg, Int.reduceToNat, UInt8.reduceToNat, natLit, ty3, ty4, ty5, ty9, ty46, ty90, ty92, ty119]
          rw [← hf]; rfl
      rw [if_neg h39] at hf
      have t3 : (bA s (q.pos : Int) = 39) = False := eq_false h39
      have e4 := fun L => run_put (hq.left (L := L)) (b1 (bA s q.pos)) 1 (decide (¬bA s q.pos = 32 ∧ ¬bA s q.pos = 9)) H.length (Nat.le_refl _) hs (by omega) (by rw [b1_size]; omega) (m := 1) rfl
      unfold run b1 at e4
      rw [zEv_round hc]
      simp (config := {contextual := true, maxSteps := 10000000, implicitDefEqProofs := false}) (disch := first | (and_intros <;> omega -splitDisjunctions) | (simp only [List.length_set, List.length_append, List.length_cons, List.length_nil]; and_intros <;> omega -splitDisjunctions) | fail) only [hcq, o1, o2, t1, t2, t3, e2, e3, e4, Tryd.f28, go_sem, ↓reduceIte, Nat.reduceEqDiff, Nat.reduceAdd, Nat.reduceMul, Nat.reduceLT, Nat.reduceLeDiff, reduceCtorEq, Int.reduceNe, Int.reduceEq, Int.reduceLT, Int.reduceLE, Int.reduceAdd, Int.reduceSub, Int.reduceMul, Int.reduceNeg, Int.reduceToNat, UInt8.reduceToNat, natLit, ty3, ty4, ty5, ty9, ty46, ty90, ty92, ty119]
      exact ih _ lv (q.put (b1 (bA s q.pos)) 1 (decide (¬bA s q.pos = 32 ∧ ¬bA s q.pos = 9))) _ _ _ _ _ _ _ _ _ _ _ (by show s.size - (q.pos + 1) < _; omega) (hq.left.put (by omega) (by show 1 ≤ 4 * 1; omega)) ⟨d, by show s.size - (q.pos + 1) < _; omega, hf⟩
  exact key (s.size + 1) _ .nilsl ⟨p0 + 1, [], ⟨#[]⟩, 0⟩ _ _ _ _ _ _ _ _ _ _ _ (by show s.size - (p0 + 1) < _; omega) ⟨Hx.app, Nat.le_refl _, by rw [cellsAt_app0]; rfl, .inl ⟨rfl, .inl rfl⟩, hp0, Nat.le_refl _, Nat.zero_le _⟩ ⟨s.size + 1, by show s.size - (p0 + 1) < _; omega, rfl⟩
end Go.Proofs.YtcbjmggbbnpbpaaDoor.Lg
