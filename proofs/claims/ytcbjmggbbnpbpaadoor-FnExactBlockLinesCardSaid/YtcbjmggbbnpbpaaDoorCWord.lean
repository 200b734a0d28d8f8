/- Kinds of bytes, and names, as the program has them twice, over the logical machine. No condition. -/
import Derived.Test.YtcbjmggbbnpbpaaDoorLc
import Derived.Test.YtcbjmggbbnpbpaaDoorLgE
namespace Go.Proofs.YtcbjmggbbnpbpaaDoor.Lg
set_option linter.unusedSimpArgs false
set_option linter.unusedVariables false
set_option maxRecDepth 100000
set_option maxHeartbeats 40000000
open Go.Proofs.YtcbjmggbbnpbpaaDoor

theorem run_isWhite (b : Int) (fl : Nat) (H : LH) : run 76 [.int .i64 b] fl H = some (.bool (decide (b = 32 ∨ b = 9)), H) := by
  unfold run
  rw [Run_z Tryd.func76 rfl (by rfl : ok 76 = true) (by rfl : cfg.keep 76 = [0, 2]) (by rfl : cfg.mode 76 = .pure) (by rfl : cfg.ord 76 = [])]
  simp (config := {contextual := true, maxSteps := 10000000, implicitDefEqProofs := false}) (disch := first | (and_intros <;> omega -splitDisjunctions) | (simp only [List.length_set, List.length_append, List.length_cons, List.length_nil]; and_intros <;> omega -splitDisjunctions) | fail) only [Tryd.f76, go_sem, ↓reduceIte, Nat.reduceEqDiff, Nat.reduceAdd, Nat.reduceMul, Nat.reduceLT, Nat.reduceLeDiff, reduceCtorEq, Int.reduceNe, Int.reduceEq, Int.reduceLT, Int.reduceLE, Int.reduceAdd, Int.reduceSub, Int.reduceMul, Int.reduceNeg, Int.reduceToNat, UInt8.reduceToNat, natLit, ty3]
theorem run_isBreak (b : Int) (fl : Nat) (H : LH) : run 148 [.int .i64 b] fl H = some (.bool (decide (b = 10 ∨ b < 0)), H) := by
  unfold run
  rw [Run_z Tryd.func148 rfl (by rfl : ok 148 = true) (by rfl : cfg.keep 148 = [0, 2]) (by rfl : cfg.mode 148 = .pure) (by rfl : cfg.ord 148 = [])]
  simp (config := {contextual := true, maxSteps := 10000000, implicitDefEqProofs := false}) (disch := first | (and_intros <;> omega -splitDisjunctions) | (simp only [List.length_set, List.length_append, List.length_cons, List.length_nil]; and_intros <;> omega -splitDisjunctions) | fail) only [Tryd.f148, go_sem, ↓reduceIte, Nat.reduceEqDiff, Nat.reduceAdd, Nat.reduceMul, Nat.reduceLT, Nat.reduceLeDiff, reduceCtorEq, Int.reduceNe, Int.reduceEq, Int.reduceLT, Int.reduceLE, Int.reduceAdd, Int.reduceSub, Int.reduceMul, Int.reduceNeg, Int.reduceToNat, UInt8.reduceToNat, natLit, ty3]
theorem run_isFlow (b : Int) (fl : Nat) (H : LH) : run 164 [.int .i64 b] fl H = some (.bool (decide (b = 44 ∨ b = 91 ∨ b = 93 ∨ b = 123 ∨ b = 125)), H) := by
  unfold run
  rw [Run_z Tryd.func164 rfl (by rfl : ok 164 = true) (by rfl : cfg.keep 164 = [0, 2]) (by rfl : cfg.mode 164 = .pure) (by rfl : cfg.ord 164 = [])]
  simp (config := {contextual := true, maxSteps := 10000000, implicitDefEqProofs := false}) (disch := first | (and_intros <;> omega -splitDisjunctions) | (simp only [List.length_set, List.length_append, List.length_cons, List.length_nil]; and_intros <;> omega -splitDisjunctions) | fail) only [or_assoc, Tryd.f164, go_sem, ↓reduceIte, Nat.reduceEqDiff, Nat.reduceAdd, Nat.reduceMul, Nat.reduceLT, Nat.reduceLeDiff, reduceCtorEq, Int.reduceNe, Int.reduceEq, Int.reduceLT, Int.reduceLE, Int.reduceAdd, Int.reduceSub, Int.reduceMul, Int.reduceNeg, Int.reduceToNat, UInt8.reduceToNat, natLit, ty3]
theorem run_l04Flow (b : Int) (fl : Nat) (H : LH) : run 160 [.int .u8 b] fl H = some (.bool (decide (b = 44 ∨ b = 91 ∨ b = 93 ∨ b = 123 ∨ b = 125)), H) := by
  unfold run
  rw [Run_z Tryd.func160 rfl (by rfl : ok 160 = true) (by rfl : cfg.keep 160 = [0, 2]) (by rfl : cfg.mode 160 = .pure) (by rfl : cfg.ord 160 = [])]
  simp (config := {contextual := true, maxSteps := 10000000, implicitDefEqProofs := false}) (disch := first | (and_intros <;> omega -splitDisjunctions) | (simp only [List.length_set, List.length_append, List.length_cons, List.length_nil]; and_intros <;> omega -splitDisjunctions) | fail) only [or_assoc, Tryd.f160, go_sem, ↓reduceIte, Nat.reduceEqDiff, Nat.reduceAdd, Nat.reduceMul, Nat.reduceLT, Nat.reduceLeDiff, reduceCtorEq, Int.reduceNe, Int.reduceEq, Int.reduceLT, Int.reduceLE, Int.reduceAdd, Int.reduceSub, Int.reduceMul, Int.reduceNeg, Int.reduceToNat, UInt8.reduceToNat, natLit, ty5]
theorem run_l03White (s : ByteArray) (p : Int) (fl : Nat) (H : LH) (h : 0 ≤ p) : run 167 [.str s, .int .i64 p] fl H = some (.bool (decide (bA s p = 32 ∨ bA s p = 9)), H) := by
  unfold run
  rw [Run_z Tryd.func167 rfl (by rfl : ok 167 = true) (by rfl : cfg.keep 167 = [0, 1, 4]) (by rfl : cfg.mode 167 = .pure) (by rfl : cfg.ord 167 = [])]
  simp (config := {contextual := true, maxSteps := 10000000, implicitDefEqProofs := false}) (disch := first | (and_intros <;> omega -splitDisjunctions) | (simp only [List.length_set, List.length_append, List.length_cons, List.length_nil]; and_intros <;> omega -splitDisjunctions) | fail) only [Tryd.f167, go_sem, ↓reduceIte, Nat.reduceEqDiff, Nat.reduceAdd, Nat.reduceMul, Nat.reduceLT, Nat.reduceLeDiff, reduceCtorEq, Int.reduceNe, Int.reduceEq, Int.reduceLT, Int.reduceLE, Int.reduceAdd, Int.reduceSub, Int.reduceMul, Int.reduceNeg, Int.reduceToNat, UInt8.reduceToNat, natLit, ty3, ty5, ty9]
  rw [show decide (p < (s.size : Int) ∧ (bA s p = 32 ∨ bA s p = 9)) = decide (bA s p = 32 ∨ bA s p = 9) from decide_eq_decide.2 (by
    by_cases hp : p < (s.size : Int)
    · omega
    · have := bA_out (s := s) (p := p) (by omega); omega)]
theorem run_l03Break (s : ByteArray) (p : Int) (fl : Nat) (H : LH) (h : 0 ≤ p) : run 168 [.str s, .int .i64 p] fl H = some (.bool (decide (bA s p = 10 ∨ bA s p < 0)), H) := by
  unfold run
  rw [Run_z Tryd.func168 rfl (by rfl : ok 168 = true) (by rfl : cfg.keep 168 = [0, 1, 4]) (by rfl : cfg.mode 168 = .pure) (by rfl : cfg.ord 168 = [])]
  simp (config := {contextual := true, maxSteps := 10000000, implicitDefEqProofs := false}) (disch := first | (and_intros <;> omega -splitDisjunctions) | (simp only [List.length_set, List.length_append, List.length_cons, List.length_nil]; and_intros <;> omega -splitDisjunctions) | fail) only [Tryd.f168, go_sem, ↓reduceIte, Nat.reduceEqDiff, Nat.reduceAdd, Nat.reduceMul, Nat.reduceLT, Nat.reduceLeDiff, reduceCtorEq, Int.reduceNe, Int.reduceEq, Int.reduceLT, Int.reduceLE, Int.reduceAdd, Int.reduceSub, Int.reduceMul, Int.reduceNeg, Int.reduceToNat, UInt8.reduceToNat, natLit, ty3, ty5, ty9]
  rw [show decide ((s.size : Int) ≤ p ∨ bA s p = 10) = decide (bA s p = 10 ∨ bA s p < 0) from decide_eq_decide.2 (by
    by_cases hp : p < (s.size : Int)
    · have := bA_in h hp; omega
    · have := bA_out (s := s) (p := p) (by omega); omega)]
theorem run_l03Gap (s : ByteArray) (p : Int) (fl : Nat) (H : LH) (h : 0 ≤ p) : run 159 [.str s, .int .i64 p] fl H = some (.bool (decide (bA s p = 32 ∨ bA s p = 9 ∨ bA s p = 10 ∨ bA s p < 0)), H) := by
  have e1 := fun fl H => run_l03White s p fl H h
  have e2 := fun fl H => run_l03Break s p fl H h
  unfold run at *
  rw [Run_z Tryd.func159 rfl (by rfl : ok 159 = true) (by rfl : cfg.keep 159 = [0, 1, 4]) (by rfl : cfg.mode 159 = .pure) (by rfl : cfg.ord 159 = [])]
  simp (config := {contextual := true, maxSteps := 10000000, implicitDefEqProofs := false}) (disch := first | (and_intros <;> omega -splitDisjunctions) | (simp only [List.length_set, List.length_append, List.length_cons, List.length_nil]; and_intros <;> omega -splitDisjunctions) | fail) only [e1, e2, or_assoc, Tryd.f159, go_sem, ↓reduceIte, Nat.reduceEqDiff, Nat.reduceAdd, Nat.reduceMul, Nat.reduceLT, Nat.reduceLeDiff, reduceCtorEq, Int.reduceNe, Int.reduceEq, Int.reduceLT, Int.reduceLE, Int.reduceAdd, Int.reduceSub, Int.reduceMul, Int.reduceNeg, Int.reduceToNat, UInt8.reduceToNat, natLit]

/-- a byte of a name -/
def nameB (b : UInt8) : Bool := decide (¬ ((b.toNat : Int) = 32 ∨ (b.toNat : Int) = 9 ∨ (b.toNat : Int) = 10 ∨ (b.toNat : Int) < 0 ∨ (b.toNat : Int) = 44 ∨ (b.toNat : Int) = 91 ∨ (b.toNat : Int) = 93 ∨ (b.toNat : Int) = 123 ∨ (b.toNat : Int) = 125))
def nmOk (s : ByteArray) : Bool := decide (s.size ≤ 60) && (bs s).all nameB
theorem run_isName (s : ByteArray) (fl : Nat) (H : LH) (hs : s.size ≤ 9223372036854775807) : run 152 [.str s] fl H = some (.bool (nmOk s), H) := by
  have e1 := fun b fl H => run_isWhite b fl H
  have e2 := fun b fl H => run_isBreak b fl H
  have e3 := fun b fl H => run_isFlow b fl H
  unfold run at *
  rw [Run_z Tryd.func152 rfl (by rfl : ok 152 = true) (by rfl : cfg.keep 152 = [0, 2, 3, 4, 7, 9, 10, 11, 26]) (by rfl : cfg.mode 152 = .pure) (by rfl : cfg.ord 152 = [])]
  simp (config := {contextual := true, maxSteps := 10000000, implicitDefEqProofs := false}) (disch := first | (and_intros <;> omega -splitDisjunctions) | (simp only [List.length_set, List.length_append, List.length_cons, List.length_nil]; and_intros <;> omega -splitDisjunctions) | fail) only [Tryd.f152, go_sem, ↓reduceIte, Nat.reduceEqDiff, Nat.reduceAdd, Nat.reduceMul, Nat.reduceLT, Nat.reduceLeDiff, reduceCtorEq, Int.reduceNe, Int.reduceEq, Int.reduceLT, Int.reduceLE, Int.reduceAdd, Int.reduceSub, Int.reduceMul, Int.reduceNeg, Int.reduceToNat, UInt8.reduceToNat, natLit, ty3, ty5, ty9]
  by_cases h6 : (60 : Int) < (s.size : Int)
  · rw [if_pos h6, nmOk, decide_eq_false (by omega)]; rfl
  have h7 : decide (s.size ≤ 60) = true := decide_eq_true (by omega)
  rw [if_neg h6, nmOk, h7, Bool.true_and]
  generalize hL : K.code (Code.loop _) = L
  generalize hR : (K.blk _ :: _ : List K) = R
  have key : ∀ (d i : Nat) (x2 x3 x4 x7 x11 x26 : Option V), s.size - i = d → i ≤ s.size →
      zEv (leaveX (mkR Tryd.prog cfg ok [0, 2, 3, 4, 7, 9, 10, 11, 26] H.length) .pure H [ResultVar.tmp 2]) (mkR Tryd.prog cfg ok [0, 2, 3, 4, 7, 9, 10, 11, 26] H.length) (L :: R) .nrm [some (.str s), x2, x3, x4, x7, some (.int .i64 s.size), some (.int .i64 i), x11, x26] H = some (.bool (((bs s).drop i).all nameB), H) := by
    intro d
    induction d using Nat.strongRecOn with
    | _ d ih =>
    intro i x2 x3 x4 x7 x11 x26 hd hi
    rw [← hL, ← hR, zEv_loop]
    simp (config := {contextual := true, maxSteps := 10000000, implicitDefEqProofs := false}) (disch := first | (and_intros <;> omega -splitDisjunctions) | (simp only [List.length_set, List.length_append, List.length_cons, List.length_nil]; and_intros <;> omega -splitDisjunctions) | fail) only [e1, e2, e3, Tryd.f152, go_sem, ↓reduceIte, Nat.reduceEqDiff, Nat.reduceAdd, Nat.reduceMul, Nat.reduceLT, Nat.reduceLeDiff, reduceCtorEq, Int.reduceNe, Int.reduceEq, Int.reduceLT, Int.reduceLE, Int.reduceAdd, Int.reduceSub, Int.reduceMul, Int.reduceNeg, Int.reduceToNat, UInt8.reduceToNat, natLit, ty3, ty5, ty9]
    rw [hL, hR]
    split
    · rename_i hlt
      have hlt : i < (bs s).length := by rw [bs_len]; omega
      rw [show (i : Int) + 1 = ((i + 1 : Nat) : Int) from rfl, ih (s.size - (i + 1)) (by omega) (i + 1) _ _ _ _ _ _ rfl (by omega), List.drop_eq_getElem_cons hlt, List.all_cons, bA_nat hlt]
      split
      · rename_i hc; rw [show nameB (bs s)[i] = false from decide_eq_false (by omega)]; rfl
      · rename_i hc; rw [show nameB (bs s)[i] = true from decide_eq_true (by omega)]; rfl
    · rw [List.drop_of_length_le (by rw [bs_len]; omega)]; rfl
  exact (key s.size 0 _ _ _ _ _ _ rfl (Nat.zero_le _)).trans (by rw [List.drop_zero])
theorem run_l09Name (s : ByteArray) (fl : Nat) (H : LH) (hs : s.size ≤ 9223372036854775807) : run 143 [.str s] fl H = some (.bool (nmOk s), H) := by
  have e1 := fun p fl H h => run_l03Gap s p fl H h
  have e2 := fun b fl H => run_l04Flow b fl H
  unfold run at *
  rw [Run_z Tryd.func143 rfl (by rfl : ok 143 = true) (by rfl : cfg.keep 143 = [0, 2, 3, 7, 18]) (by rfl : cfg.mode 143 = .pure) (by rfl : cfg.ord 143 = [])]
  simp (config := {contextual := true, maxSteps := 10000000, implicitDefEqProofs := false}) (disch := first | (and_intros <;> omega -splitDisjunctions) | (simp only [List.length_set, List.length_append, List.length_cons, List.length_nil]; and_intros <;> omega -splitDisjunctions) | fail) only [Tryd.f143, go_sem, ↓reduceIte, Nat.reduceEqDiff, Nat.reduceAdd, Nat.reduceMul, Nat.reduceLT, Nat.reduceLeDiff, reduceCtorEq, Int.reduceNe, Int.reduceEq, Int.reduceLT, Int.reduceLE, Int.reduceAdd, Int.reduceSub, Int.reduceMul, Int.reduceNeg, Int.reduceToNat, UInt8.reduceToNat, natLit, ty3, ty9]
  generalize hL : K.code (Code.loop _) = L
  generalize hR : (K.blk _ :: _ : List K) = R
  have key : ∀ (d i : Nat) (x2 x7 x18 : Option V), s.size - i = d → i ≤ s.size →
      zEv (leaveX (mkR Tryd.prog cfg ok [0, 2, 3, 7, 18] H.length) .pure H [ResultVar.tmp 2]) (mkR Tryd.prog cfg ok [0, 2, 3, 7, 18] H.length) (L :: R) .nrm [some (.str s), x2, some (.int .i64 i), x7, x18] H = some (.bool (decide (s.size ≤ 60) && ((bs s).drop i).all nameB), H) := by
    intro d
    induction d using Nat.strongRecOn with
    | _ d ih =>
    intro i x2 x7 x18 hd hi
    rw [← hL, ← hR, zEv_loop]
    simp (config := {contextual := true, maxSteps := 10000000, implicitDefEqProofs := false}) (disch := first | (and_intros <;> omega -splitDisjunctions) | (simp only [List.length_set, List.length_append, List.length_cons, List.length_nil]; and_intros <;> omega -splitDisjunctions) | fail) only [e1, e2, Tryd.f143, go_sem, ↓reduceIte, Nat.reduceEqDiff, Nat.reduceAdd, Nat.reduceMul, Nat.reduceLT, Nat.reduceLeDiff, reduceCtorEq, Int.reduceNe, Int.reduceEq, Int.reduceLT, Int.reduceLE, Int.reduceAdd, Int.reduceSub, Int.reduceMul, Int.reduceNeg, Int.reduceToNat, UInt8.reduceToNat, natLit, ty3, ty9]
    rw [hL, hR]
    split
    · rename_i hlt
      have hlt : i < (bs s).length := by rw [bs_len]; omega
      rw [show (i : Int) + 1 = ((i + 1 : Nat) : Int) from rfl, ih (s.size - (i + 1)) (by omega) (i + 1) _ _ _ rfl (by omega), List.drop_eq_getElem_cons hlt, List.all_cons, bA_nat hlt]
      split
      · rename_i hc; rw [show nameB (bs s)[i] = false from decide_eq_false (by omega)]; simp
      · rename_i hc; rw [show nameB (bs s)[i] = true from decide_eq_true (by omega)]; rfl
    · rw [List.drop_of_length_le (by rw [bs_len]; omega), List.all_nil, Bool.and_true]
      rw [show decide ((s.size : Int) ≤ 60) = decide (s.size ≤ 60) from decide_eq_decide.2 (by omega)]
  exact (key s.size 0 _ _ _ rfl (Nat.zero_le _)).trans (by rw [List.drop_zero]; rfl)
end Go.Proofs.YtcbjmggbbnpbpaaDoor.Lg
