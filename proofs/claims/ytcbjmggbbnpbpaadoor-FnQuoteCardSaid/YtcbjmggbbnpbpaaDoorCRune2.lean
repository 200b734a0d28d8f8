/- Runes: how they are read of a text, as the program has it twice, over the logical machine (second part). No condition. -/
import Derived.Test.YtcbjmggbbnpbpaaDoorCRune
namespace Go.Proofs.YtcbjmggbbnpbpaaDoor.Lg
set_option linter.unusedSimpArgs false
set_option linter.unusedVariables false
set_option maxRecDepth 100000
set_option maxHeartbeats 40000000
open Go.Proofs.YtcbjmggbbnpbpaaDoor

/-- a place brought into a text -/
def spotI (s : ByteArray) (p : Int) : Int := if p < 0 then 0 else if (s.size : Int) < p then s.size else p
theorem spotI_lo (s : ByteArray) (p : Int) : 0 ≤ spotI s p := by unfold spotI; (repeat' split) <;> omega
theorem spotI_hi (s : ByteArray) (p : Int) : spotI s p ≤ s.size := by unfold spotI; (repeat' split) <;> omega
theorem spotI_in {s : ByteArray} {p : Int} (h : 0 ≤ p) (h2 : p ≤ s.size) : spotI s p = p := by unfold spotI; rw [if_neg (by omega), if_neg (by omega)]
theorem run_spotI (s : ByteArray) (p : Int) (fl : Nat) (H : LH) (hs : s.size ≤ 9223372036854775807) : run 70 [.str s, .int .i64 p] fl H = some (.int .i64 (spotI s p), H) := by
  unfold run spotI
  rw [Run_z Tryd.func70 rfl (by rfl : ok 70 = true) (by rfl : cfg.keep 70 = [0, 1, 4]) (by rfl : cfg.mode 70 = .pure) (by rfl : cfg.ord 70 = [])]
  simp (config := {contextual := true, maxSteps := 10000000, implicitDefEqProofs := false}) (disch := first | (and_intros <;> omega -splitDisjunctions) | (simp only [List.length_set, List.length_append, List.length_cons, List.length_nil]; and_intros <;> omega -splitDisjunctions) | fail) only [minV, maxV, Tryd.f70, go_sem, ↓reduceIte, Nat.reduceEqDiff, Nat.reduceAdd, Nat.reduceMul, Nat.reduceLT, Nat.reduceLeDiff, reduceCtorEq, Int.reduceNe, Int.reduceEq, Int.reduceLT, Int.reduceLE, Int.reduceAdd, Int.reduceSub, Int.reduceMul, Int.reduceNeg, Int.reduceToNat, UInt8.reduceToNat, natLit, ty3, ty9]
  grind
theorem run_l01P (s : ByteArray) (p : Int) (fl : Nat) (H : LH) (hs : s.size ≤ 9223372036854775807) : run 136 [.str s, .int .i64 p] fl H = some (.int .i64 (spotI s p), H) := by
  unfold run spotI
  rw [Run_z Tryd.func136 rfl (by rfl : ok 136 = true) (by rfl : cfg.keep 136 = [0, 1, 4, 6, 10]) (by rfl : cfg.mode 136 = .pure) (by rfl : cfg.ord 136 = [])]
  simp (config := {contextual := true, maxSteps := 10000000, implicitDefEqProofs := false}) (disch := first | (and_intros <;> omega -splitDisjunctions) | (simp only [List.length_set, List.length_append, List.length_cons, List.length_nil]; and_intros <;> omega -splitDisjunctions) | fail) only [Tryd.f136, go_sem, ↓reduceIte, Nat.reduceEqDiff, Nat.reduceAdd, Nat.reduceMul, Nat.reduceLT, Nat.reduceLeDiff, reduceCtorEq, Int.reduceNe, Int.reduceEq, Int.reduceLT, Int.reduceLE, Int.reduceAdd, Int.reduceSub, Int.reduceMul, Int.reduceNeg, Int.reduceToNat, UInt8.reduceToNat, natLit, ty3, ty9]
  grind
theorem run_slow0 (fl : Nat) (H : LH) : run 129 [.str ⟨#[]⟩] fl H = some (.tup [.int .i32 65533, .int .i64 0], H) := by
  unfold run
  rw [Run_z Tryd.func129 rfl (by rfl : ok 129 = true) (by rfl : cfg.keep 129 = [0, 2, 3, 4, 5, 6, 7, 8, 9, 10, 11, 12, 16, 23, 45, 57, 59, 75, 77, 98]) (by rfl : cfg.mode 129 = .pure) (by rfl : cfg.ord 129 = [])]
  simp (config := {contextual := true, maxSteps := 10000000, implicitDefEqProofs := false}) (disch := first | (and_intros <;> omega -splitDisjunctions) | (simp only [List.length_set, List.length_append, List.length_cons, List.length_nil]; and_intros <;> omega -splitDisjunctions) | fail) only [Tryd.f129, go_sem, ↓reduceIte, Nat.reduceEqDiff, Nat.reduceAdd, Nat.reduceMul, Nat.reduceLT, Nat.reduceLeDiff, reduceCtorEq, Int.reduceNe, Int.reduceEq, Int.reduceLT, Int.reduceLE, Int.reduceAdd, Int.reduceSub, Int.reduceMul, Int.reduceNeg, Int.reduceToNat, UInt8.reduceToNat, natLit, ty3, ty5, ty9, ty21, ty156, ty158, ty159]
/-- the encoding of a rune -/
def encT (r : Int) : ByteArray :=
  if r < 0 ∨ 1114111 < r ∨ (55296 ≤ r ∧ r ≤ 57343) then ⟨#[]⟩
  else if r < 128 then ⟨#[UInt8.ofNat r.toNat]⟩
  else if r < 2048 then ⟨#[UInt8.ofNat (192 + r / 64).toNat, UInt8.ofNat (128 + r % 64).toNat]⟩
  else if r < 65536 then ⟨#[UInt8.ofNat (224 + r / 4096).toNat, UInt8.ofNat (128 + r / 64 % 64).toNat, UInt8.ofNat (128 + r % 64).toNat]⟩
  else ⟨#[UInt8.ofNat (240 + r / 262144).toNat, UInt8.ofNat (128 + r / 4096 % 64).toNat, UInt8.ofNat (128 + r / 64 % 64).toNat, UInt8.ofNat (128 + r % 64).toNat]⟩
theorem run_spRuneBytes (r : Int) (fl : Nat) (H : LH) : run 137 [.int .i64 r] fl H = some (.str (encT r), H) := by
  unfold run encT
  rw [Run_z Tryd.func137 rfl (by rfl : ok 137 = true) (by rfl : cfg.keep 137 = [0, 2, 3, 18, 25, 38]) (by rfl : cfg.mode 137 = .pure) (by rfl : cfg.ord 137 = [])]
  have t1 : 0 ≤ r → r.tdiv 64 = r / 64 := fun h => Int.tdiv_eq_ediv_of_nonneg h
  have t2 : 0 ≤ r → r.tdiv 4096 = r / 4096 := fun h => Int.tdiv_eq_ediv_of_nonneg h
  have t3 : 0 ≤ r → r.tdiv 262144 = r / 262144 := fun h => Int.tdiv_eq_ediv_of_nonneg h
  have m1 : 0 ≤ r → r.tmod 64 = r % 64 := fun h => Int.tmod_eq_emod_of_nonneg h
  have m2 : 0 ≤ r → (r / 64).tmod 64 = r / 64 % 64 := fun h => Int.tmod_eq_emod_of_nonneg (by omega)
  have m3 : 0 ≤ r → (r / 4096).tmod 64 = r / 4096 % 64 := fun h => Int.tmod_eq_emod_of_nonneg (by omega)
  simp (config := {contextual := true, maxSteps := 10000000, implicitDefEqProofs := false}) (disch := first | (and_intros <;> omega -splitDisjunctions) | (simp only [List.length_set, List.length_append, List.length_cons, List.length_nil]; and_intros <;> omega -splitDisjunctions) | fail) only [t1, t2, t3, m1, m2, m3, Tryd.f137, go_sem, ↓reduceIte, Nat.reduceEqDiff, Nat.reduceAdd, Nat.reduceMul, Nat.reduceLT, Nat.reduceLeDiff, reduceCtorEq, Int.reduceNe, Int.reduceEq, Int.reduceLT, Int.reduceLE, Int.reduceAdd, Int.reduceSub, Int.reduceMul, Int.reduceNeg, Int.reduceToNat, UInt8.reduceToNat, natLit, ty3, ty5, ty9, ty46]
  simp only [or_assoc]
  (repeat' (refine ite_E (fun _ => ?_) (fun _ => ?_))) <;> (try simp only [*, if_true, if_false])
theorem size_pos {s : ByteArray} (h : ¬ s = ⟨#[]⟩) : 0 < s.size := by
  rcases Nat.eq_zero_or_pos s.size with h2 | h2
  · exfalso; apply h
    apply ByteArray.ext
    exact Array.eq_empty_of_size_eq_zero h2
  · exact h2
def rawS (t : ByteArray) : Int × Int := if t = ⟨#[]⟩ then (65533, 0) else rawM (bA t 0) (bA t 1) (bA t 2) (bA t 3)
theorem run_decode (t : ByteArray) (fl : Nat) (H : LH) (hz : t.size ≤ 9223372036854775807) : run 104 [.str t] fl H = some (.tup [.int .i32 (rawS t).1, .int .i64 (rawS t).2], H) := by
  by_cases h : t = ⟨#[]⟩
  · have e1 := fun fl H => run_slow0 fl H
    subst h
    unfold run at *
    rw [Run_z Tryd.func104 rfl (by rfl : ok 104 = true) (by rfl : cfg.keep 104 = [0, 2, 3, 10]) (by rfl : cfg.mode 104 = .pure) (by rfl : cfg.ord 104 = [])]
    simp (config := {contextual := true, maxSteps := 10000000, implicitDefEqProofs := false}) (disch := first | (and_intros <;> omega -splitDisjunctions) | (simp only [List.length_set, List.length_append, List.length_cons, List.length_nil]; and_intros <;> omega -splitDisjunctions) | fail) only [e1, Tryd.f104, go_sem, ↓reduceIte, Nat.reduceEqDiff, Nat.reduceAdd, Nat.reduceMul, Nat.reduceLT, Nat.reduceLeDiff, reduceCtorEq, Int.reduceNe, Int.reduceEq, Int.reduceLT, Int.reduceLE, Int.reduceAdd, Int.reduceSub, Int.reduceMul, Int.reduceNeg, Int.reduceToNat, UInt8.reduceToNat, natLit, ty5, ty9, ty21]
    rfl
  · have h0 := size_pos h
    have b0 := bA_in (s := t) (p := 0) (by omega) (by omega)
    have b1 := bA_hi t 0
    rw [rawS, if_neg h]
    by_cases hb : bA t 0 < 128
    · unfold run at *
      rw [Run_z Tryd.func104 rfl (by rfl : ok 104 = true) (by rfl : cfg.keep 104 = [0, 2, 3, 10]) (by rfl : cfg.mode 104 = .pure) (by rfl : cfg.ord 104 = [])]
      simp (config := {contextual := true, maxSteps := 10000000, implicitDefEqProofs := false}) (disch := first | (and_intros <;> omega -splitDisjunctions) | (simp only [List.length_set, List.length_append, List.length_cons, List.length_nil]; and_intros <;> omega -splitDisjunctions) | fail) only [h, hb, IntWalk.i32_in, Tryd.f104, go_sem, ↓reduceIte, Nat.reduceEqDiff, Nat.reduceAdd, Nat.reduceMul, Nat.reduceLT, Nat.reduceLeDiff, reduceCtorEq, Int.reduceNe, Int.reduceEq, Int.reduceLT, Int.reduceLE, Int.reduceAdd, Int.reduceSub, Int.reduceMul, Int.reduceNeg, Int.reduceToNat, UInt8.reduceToNat, natLit, ty5, ty9, ty21]
      have e : decM (bA t 0) (bA t 1) (bA t 2) (bA t 3) = (bA t 0, 1) := by rw [decM, if_neg (by omega), if_pos hb]
      rw [rawM, e, if_neg (show ¬ (1 : Int) = 0 by decide)]
    · have e1 := fun fl H => run_slow t fl H (by omega) hz
      unfold run at *
      rw [Run_z Tryd.func104 rfl (by rfl : ok 104 = true) (by rfl : cfg.keep 104 = [0, 2, 3, 10]) (by rfl : cfg.mode 104 = .pure) (by rfl : cfg.ord 104 = [])]
      simp (config := {contextual := true, maxSteps := 10000000, implicitDefEqProofs := false}) (disch := first | (and_intros <;> omega -splitDisjunctions) | (simp only [List.length_set, List.length_append, List.length_cons, List.length_nil]; and_intros <;> omega -splitDisjunctions) | fail) only [h, hb, e1, Tryd.f104, go_sem, ↓reduceIte, Nat.reduceEqDiff, Nat.reduceAdd, Nat.reduceMul, Nat.reduceLT, Nat.reduceLeDiff, reduceCtorEq, Int.reduceNe, Int.reduceEq, Int.reduceLT, Int.reduceLE, Int.reduceAdd, Int.reduceSub, Int.reduceMul, Int.reduceNeg, Int.reduceToNat, UInt8.reduceToNat, natLit, ty5, ty9, ty21]
theorem ext_size {s : ByteArray} {q e : Nat} (h : e ≤ s.size) : (s.extract q e).size = e - q := by
  rw [ByteArray.size_extract, Nat.min_eq_left h]
theorem bs_ext (s : ByteArray) (q e : Nat) : bs (s.extract q e) = ((bs s).drop q).take (e - q) := by
  simp [bs, ByteArray.data_extract, List.extract_eq_take_drop]
theorem bA_ext {s : ByteArray} {q e : Nat} (he : e ≤ s.size) {i : Nat} (hi : q + i < e) : bA (s.extract q e) i = bA s ((q + i : Nat) : Int) := by
  have h1 : i < (s.extract q e).size := by rw [ext_size he]; omega
  rw [bA_nat h1, bA_nat (show q + i < s.size by omega)]
  simp only [bs_ext]
  rw [List.getElem_take, List.getElem_drop]
theorem bA_drop {s : ByteArray} {q : Nat} (hq : q ≤ s.size) (i : Nat) : bA (s.extract q s.size) i = bA s ((q + i : Nat) : Int) := by
  by_cases h : q + i < s.size
  · exact bA_ext (Nat.le_refl _) h
  · rw [bA_out (by rw [ext_size (Nat.le_refl _)]; omega), bA_out (by omega)]
/-- the rune at a place -/
def runeA (s : ByteArray) (p : Int) : Int × Int := decM (bA s (spotI s p)) (bA s (spotI s p + 1)) (bA s (spotI s p + 2)) (bA s (spotI s p + 3))
theorem decM_size (b0 b1 b2 b3 : Int) : (decM b0 b1 b2 b3).2 = 1 → (decM b0 b1 b2 b3).1 < 128 := by
  unfold decM; grind
theorem decM_n (b0 b1 b2 b3 : Int) : 0 ≤ (decM b0 b1 b2 b3).2 ∧ (decM b0 b1 b2 b3).2 ≤ 4 := by
  unfold decM; grind
theorem decM_r (b0 b1 b2 b3 : Int) (h1 : b1 ≤ 255) (h2 : b2 ≤ 255) (h3 : b3 ≤ 255) : 0 ≤ (decM b0 b1 b2 b3).1 ∧ (decM b0 b1 b2 b3).1 ≤ 1114111 := by
  unfold decM; grind
theorem decM_zero (b0 b1 b2 b3 : Int) : (decM b0 b1 b2 b3).2 = 0 → decM b0 b1 b2 b3 = (0, 0) := by
  unfold decM; grind
theorem run_imRuneAt (s : ByteArray) (p : Int) (fl : Nat) (H : LH) (hz : s.size ≤ 9223372036854775807) : run 68 [.str s, .int .i64 p] fl H = some (.tup [.int .i64 (runeA s p).1, .int .i64 (runeA s p).2], H) := by
  have e1 := fun fl H => run_spotI s p fl H hz
  have l1 := spotI_lo s p
  have l2 := spotI_hi s p
  obtain ⟨q, hq⟩ : ∃ q : Nat, spotI s p = q := ⟨(spotI s p).toNat, by omega⟩
  have hqs : q ≤ s.size := by omega
  have e2 := fun fl H => run_decode (s.extract q s.size) fl H (by rw [ext_size (Nat.le_refl _)]; omega)
  have hr : runeA s p = decM (bA (s.extract q s.size) 0) (bA (s.extract q s.size) 1) (bA (s.extract q s.size) 2) (bA (s.extract q s.size) 3) := by
    rw [runeA, hq]
    have d0 := bA_drop hqs 0; have d1 := bA_drop hqs 1; have d2 := bA_drop hqs 2; have d3 := bA_drop hqs 3
    have c0 : bA (s.extract q s.size) 0 = bA s q := d0
    have c1 : bA (s.extract q s.size) 1 = bA s (q + 1) := d1
    have c2 : bA (s.extract q s.size) 2 = bA s (q + 2) := d2
    have c3 : bA (s.extract q s.size) 3 = bA s (q + 3) := d3
    rw [c0, c1, c2, c3]
  have hraw : rawS (s.extract q s.size) = (if (runeA s p).2 = 0 then (65533, if s.extract q s.size = ⟨#[]⟩ then 0 else 1) else runeA s p) := by
    rw [hr, rawS]
    by_cases he : s.extract q s.size = ⟨#[]⟩
    · have h0 : bA (s.extract q s.size) 0 = -1 := by rw [he]; rfl
      rw [if_pos he, h0, if_pos (by simp [decM]), if_pos he]
    · rw [if_neg he, rawM, if_neg he]
  have g1 := decM_r (bA s (spotI s p)) (bA s (spotI s p + 1)) (bA s (spotI s p + 2)) (bA s (spotI s p + 3)) (bA_hi _ _) (bA_hi _ _) (bA_hi _ _)
  have g2 := decM_size (bA s (spotI s p)) (bA s (spotI s p + 1)) (bA s (spotI s p + 2)) (bA s (spotI s p + 3))
  have g3 := decM_zero (bA s (spotI s p)) (bA s (spotI s p + 1)) (bA s (spotI s p + 2)) (bA s (spotI s p + 3))
  rw [← runeA] at g1 g2 g3
  rw [hq] at e1
  by_cases h0 : (runeA s p).2 = 0
  · rw [if_pos h0] at hraw
    rw [g3 h0]
    have hr2 : ∃ k : Int, (k = 0 ∨ k = 1) ∧ rawS (s.extract q s.size) = (65533, k) := by
      by_cases he : s.extract q s.size = ⟨#[]⟩
      · exact ⟨0, .inl rfl, by rw [hraw, if_pos he]⟩
      · exact ⟨1, .inr rfl, by rw [hraw, if_neg he]⟩
    obtain ⟨k, hk, hr2⟩ := hr2
    rw [hr2] at e2
    clear hraw hr2
    rcases hk with rfl | rfl
    all_goals
      unfold run at *
      rw [Run_z Tryd.func68 rfl (by rfl : ok 68 = true) (by rfl : cfg.keep 68 = [0, 1, 4, 5, 6, 7, 26]) (by rfl : cfg.mode 68 = .pure) (by rfl : cfg.ord 68 = [])]
      simp (config := {contextual := true, maxSteps := 10000000, implicitDefEqProofs := false}) (disch := first | (and_intros <;> omega -splitDisjunctions) | (simp only [List.length_set, List.length_append, List.length_cons, List.length_nil]; and_intros <;> omega -splitDisjunctions) | fail) only [e1, e2, Tryd.f68, go_sem, ↓reduceIte, Nat.reduceEqDiff, Nat.reduceAdd, Nat.reduceMul, Nat.reduceLT, Nat.reduceLeDiff, reduceCtorEq, Int.reduceNe, Int.reduceEq, Int.reduceLT, Int.reduceLE, Int.reduceAdd, Int.reduceSub, Int.reduceMul, Int.reduceNeg, Int.reduceToNat, UInt8.reduceToNat, natLit, ty3, ty9, ty21]
  · rw [if_neg h0] at hraw
    rw [hraw] at e2
    generalize runeA s p = d at *
    obtain ⟨r, n⟩ := d
    have h0 : ¬ n = 0 := h0
    have g2 : n = 1 → r < 128 := g2
    have g1 : 0 ≤ r ∧ r ≤ 1114111 := g1
    unfold run at *
    rw [Run_z Tryd.func68 rfl (by rfl : ok 68 = true) (by rfl : cfg.keep 68 = [0, 1, 4, 5, 6, 7, 26]) (by rfl : cfg.mode 68 = .pure) (by rfl : cfg.ord 68 = [])]
    simp (config := {contextual := true, maxSteps := 10000000, implicitDefEqProofs := false}) (disch := first | (and_intros <;> omega -splitDisjunctions) | (simp only [List.length_set, List.length_append, List.length_cons, List.length_nil]; and_intros <;> omega -splitDisjunctions) | fail) only [e1, e2, h0, Tryd.f68, go_sem, ↓reduceIte, Nat.reduceEqDiff, Nat.reduceAdd, Nat.reduceMul, Nat.reduceLT, Nat.reduceLeDiff, reduceCtorEq, Int.reduceNe, Int.reduceEq, Int.reduceLT, Int.reduceLE, Int.reduceAdd, Int.reduceSub, Int.reduceMul, Int.reduceNeg, Int.reduceToNat, UInt8.reduceToNat, natLit, ty3, ty9, ty21]
    rw [if_neg (by omega)]
end Go.Proofs.YtcbjmggbbnpbpaaDoor.Lg
