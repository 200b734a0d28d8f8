/- A text as a line of events has it, as the program has it twice, over the logical machine. No condition. -/
import Derived.Test.YtbjpecknlohicaaCWord
namespace Go.Proofs.Ytbjpecknlohicaa.Lg
set_option linter.unusedSimpArgs false
set_option linter.unusedVariables false
set_option maxRecDepth 100000
set_option maxHeartbeats 40000000
open Go.Proofs.Ytbjpecknlohicaa

/-- what stands for a byte -/
def escI (b : Int) : List UInt8 :=
  if b = 92 then [92, 92] else if b = 10 then [92, 110] else if b = 9 then [92, 116] else if b = 13 then [92, 114] else if b = 8 then [92, 98] else if b = 0 then [92, 48] else [UInt8.ofNat b.toNat]
def escB (b : UInt8) : List UInt8 := escI b.toNat
def escT (s : ByteArray) : ByteArray := ⟨((bs s).flatMap escB).toArray⟩
theorem escI_len (b : Int) : 1 ≤ (escI b).length ∧ (escI b).length ≤ 2 := by
  unfold escI
  (repeat' split) <;> simp
theorem esc_len (l : List UInt8) : (l.flatMap escB).length ≤ 2 * l.length := by
  induction l with
  | nil => simp
  | cons b l ih => have : (escB b).length ≤ 2 := (escI_len b.toNat).2; simp only [List.flatMap_cons, List.length_append, List.length_cons]; omega
theorem esc_step {s : ByteArray} {i : Nat} (hi : i < s.size) : ((bs s).take (i + 1)).flatMap escB = ((bs s).take i).flatMap escB ++ escI (bA s i) := by
  have hi' : i < (bs s).length := by rw [bs_len]; omega
  rw [List.take_succ_eq_append_getElem hi', List.flatMap_append, bA_nat hi]
  simp [escB]
theorem nle_self {n m : Nat} : (n + (m + 1) ≤ n) = False := by simp
theorem byC_bA {s : ByteArray} {i : Int} (h : 0 ≤ bA s i) : byC (UInt8.ofNat (bA s i).toNat) = [.int .u8 (bA s i)] := by
  have h2 := bA_hi s i
  unfold byC
  rw [UInt8.toNat_ofNat', Nat.mod_eq_of_lt (by omega), Int.toNat_of_nonneg h]
theorem rows_byC1 {l : List UInt8} {b : UInt8} : rows byC (l ++ [b]) = rows byC l ++ [.int .u8 b.toNat] := by rw [rows_app]; rfl
theorem rows_byC2 {l : List UInt8} {a b : UInt8} : rows byC (l ++ [a, b]) = rows byC l ++ [.int .u8 a.toNat, .int .u8 b.toNat] := by rw [rows_app]; rfl
theorem run_escaped (s : ByteArray) (fl : Nat) (H : LH) (hs : s.size ≤ 1073741824) : run 109 [.str s] fl H = some (.str (escT s), H) := by
  unfold run
  rw [Run_z Try.func109 rfl (by rfl : ok 109 = true) (by rfl : cfg.keep 109 = [0, 2, 3, 4, 7, 8, 9, 13, 20, 25, 30, 35, 40, 45]) (by rfl : cfg.mode 109 = .pure)]
  simp (config := {contextual := true, maxSteps := 10000000, implicitDefEqProofs := false}) (disch := first | (and_intros <;> omega -splitDisjunctions) | fail) only [Try.f109, go_sem, ↓reduceIte, Nat.reduceEqDiff, Nat.reduceAdd, Nat.reduceMul, Nat.reduceLT, Nat.reduceLeDiff, reduceCtorEq, Int.reduceNe, Int.reduceEq, Int.reduceLT, Int.reduceLE, Int.reduceAdd, Int.reduceSub, Int.reduceMul, Int.reduceNeg, Int.reduceToNat, UInt8.reduceToNat, natLit, ty3, ty5, ty9, ty128]
  refine at_loopE fun c0 R hc0 hR => ?_
  have key : ∀ (d i : Nat) (x2 x4 x9 x13 x20 x25 x30 x35 x40 x45 : Option V) (b n : Nat) (j : Int) (l : List UInt8) (H1 : LH), s.size - i = d → i ≤ s.size → H.length ≤ b → H1.cellsAt b = some (rows byC l) → l = ((bs s).take i).flatMap escB → n = l.length → j = i →
      zEv (leaveX (mkR Try.prog cfg ok [0, 2, 3, 4, 7, 8, 9, 13, 20, 25, 30, 35, 40, 45] H.length) .pure H [ResultVar.tmp 2]) (mkR Try.prog cfg ok [0, 2, 3, 4, 7, 8, 9, 13, 20, 25, 30, 35, 40, 45] H.length) (K.code (Code.loop c0) :: K.blk 0 :: R) .nrm [some (.str s), x2, some (.sl b 0 1 n n), x4, some (.int .i64 s.size), some (.int .i64 j), x9, x13, x20, x25, x30, x35, x40, x45] H1 = some (.str (escT s), H) := by
    intro d
    induction d using Nat.strongRecOn with
    | _ d ih =>
    intro i x2 x4 x9 x13 x20 x25 x30 x35 x40 x45 b n j l H1 hd hi hb hc hl hn hj
    subst hn; subst hj
    have hb1 := cellsAt_lt hc
    have g1 := rows_len byC_len l
    rw [Nat.mul_one] at g1
    have g2 := take_rows byC_len (xs := l) (n := l.length) (by omega)
    have g3 : l.length ≤ 2 * i := by
      rw [hl]
      have := esc_len ((bs s).take i)
      rw [List.length_take] at this
      omega
    have g4 := toBytes_rows l
    rw [zEv_round hc0]
    simp (config := {contextual := true, maxSteps := 10000000, implicitDefEqProofs := false}) (disch := first | (and_intros <;> omega -splitDisjunctions) | fail) only [hc, cellsAt_old, set_old, nle_self, g1, g2, Try.f109, go_sem, ↓reduceIte, Nat.reduceEqDiff, Nat.reduceAdd, Nat.reduceMul, Nat.reduceLT, Nat.reduceLeDiff, reduceCtorEq, Int.reduceNe, Int.reduceEq, Int.reduceLT, Int.reduceLE, Int.reduceAdd, Int.reduceSub, Int.reduceMul, Int.reduceNeg, Int.reduceToNat, UInt8.reduceToNat, natLit, ty3, ty5, ty9, ty128]
    refine ite_E (fun hlt => ?_) (fun hge => ?_)
    · have go := fun x2 x4 x9 x13 x20 x25 x30 x35 x40 x45 b n j l H1 h1 h2 h3 h4 h5 => ih (s.size - (i + 1)) (by omega) (i + 1) x2 x4 x9 x13 x20 x25 x30 x35 x40 x45 b n j l H1 rfl (by omega) h1 h2 h3 h4 h5
      rw [esc_step (by omega), ← hl] at go
      have p0 := bA_in (s := s) (p := i) (by omega) (by omega)
      (repeat' (refine ite_E (fun _ => ?_) (fun _ => ?_))) <;> refine go _ _ _ _ _ _ _ _ _ _ _ _ _ _ _ ?_ ?_ rfl ?_ rfl
      all_goals try simp only [escI, *, if_true, if_false, Int.reduceEq, List.length_append, List.length_cons, List.length_nil]
      all_goals first | omega | skip
      all_goals rw [cellsAt_appS]; simp only [rows_byC2, rows_app, rows_one, byC_bA p0]; rfl
    · have : i = s.size := by omega
      subst this
      rw [← hR]
      simp (config := {contextual := true, maxSteps := 10000000, implicitDefEqProofs := false}) (disch := first | (and_intros <;> omega -splitDisjunctions) | fail) only [hc, g1, g2, g4, Try.f109, go_sem, ↓reduceIte, Nat.reduceEqDiff, Nat.reduceAdd, Nat.reduceMul, Nat.reduceLT, Nat.reduceLeDiff, reduceCtorEq, Int.reduceNe, Int.reduceEq, Int.reduceLT, Int.reduceLE, Int.reduceAdd, Int.reduceSub, Int.reduceMul, Int.reduceNeg, Int.reduceToNat, UInt8.reduceToNat, natLit, ty3, ty5, ty9, ty128]
      rw [hl, List.take_of_length_le (by rw [bs_len]; omega)]
      rfl
  exact key s.size 0 _ _ _ _ _ _ _ _ _ _ H.length 0 0 [] _ rfl (Nat.zero_le _) (Nat.le_refl _) (by rw [cellsAt_app0]; rfl) rfl rfl rfl
theorem run_l09Escape (s : ByteArray) (fl : Nat) (H : LH) (hs : s.size ≤ 1073741824) : run 106 [.str s] fl H = some (.str (escT s), H) := by
  unfold run
  rw [Run_z Try.func106 rfl (by rfl : ok 106 = true) (by rfl : cfg.keep 106 = [0, 2, 3, 4, 5, 6, 7, 8, 13, 20, 21, 22, 23, 29, 37]) (by rfl : cfg.mode 106 = .pure)]
  simp (config := {contextual := true, maxSteps := 10000000, implicitDefEqProofs := false}) (disch := first | (and_intros <;> omega -splitDisjunctions) | fail) only [Try.f106, go_sem, ↓reduceIte, Nat.reduceEqDiff, Nat.reduceAdd, Nat.reduceMul, Nat.reduceLT, Nat.reduceLeDiff, reduceCtorEq, Int.reduceNe, Int.reduceEq, Int.reduceLT, Int.reduceLE, Int.reduceAdd, Int.reduceSub, Int.reduceMul, Int.reduceNeg, Int.reduceToNat, UInt8.reduceToNat, natLit, ty3, ty4, ty5, ty9, ty128]
  refine at_loopE fun c0 R hc0 hR => ?_
  have key : ∀ (d i : Nat) (x2 x5 x6 x7 x8 x13 x20 x21 x22 x23 x29 x37 : Option V) (b n : Nat) (j : Int) (l : List UInt8) (H1 : LH), s.size - i = d → i ≤ s.size → H.length ≤ b → H1.cellsAt b = some (rows byC l) → l = ((bs s).take i).flatMap escB → n = l.length → j = i →
      zEv (leaveX (mkR Try.prog cfg ok [0, 2, 3, 4, 5, 6, 7, 8, 13, 20, 21, 22, 23, 29, 37] H.length) .pure H [ResultVar.tmp 2]) (mkR Try.prog cfg ok [0, 2, 3, 4, 5, 6, 7, 8, 13, 20, 21, 22, 23, 29, 37] H.length) (K.code (Code.loop c0) :: K.blk 0 :: R) .nrm [some (.str s), x2, some (.sl b 0 1 n n), some (.int .i64 j), x5, x6, x7, x8, x13, x20, x21, x22, x23, x29, x37] H1 = some (.str (escT s), H) := by
    intro d
    induction d using Nat.strongRecOn with
    | _ d ih =>
    intro i x2 x5 x6 x7 x8 x13 x20 x21 x22 x23 x29 x37 b n j l H1 hd hi hb hc hl hn hj
    subst hn; subst hj
    have hb1 := cellsAt_lt hc
    have g1 := rows_len byC_len l
    rw [Nat.mul_one] at g1
    have g2 := take_rows byC_len (xs := l) (n := l.length) (by omega)
    have g3 : l.length ≤ 2 * i := by
      rw [hl]
      have := esc_len ((bs s).take i)
      rw [List.length_take] at this
      omega
    have g4 := toBytes_rows l
    rw [zEv_round hc0]
    simp (config := {contextual := true, maxSteps := 10000000, implicitDefEqProofs := false}) (disch := first | (and_intros <;> omega -splitDisjunctions) | fail) only [hc, cellsAt_old, set_old, nle_self, g1, g2, Try.f106, go_sem, ↓reduceIte, Nat.reduceEqDiff, Nat.reduceAdd, Nat.reduceMul, Nat.reduceLT, Nat.reduceLeDiff, reduceCtorEq, Int.reduceNe, Int.reduceEq, Int.reduceLT, Int.reduceLE, Int.reduceAdd, Int.reduceSub, Int.reduceMul, Int.reduceNeg, Int.reduceToNat, UInt8.reduceToNat, natLit, ty3, ty4, ty5, ty9, ty128]
    refine ite_E (fun hlt => ?_) (fun hge => ?_)
    · refine at_loopE fun c1 R1 hc1 hR1 => ?_
      rw [← hR1]
      simp (config := {contextual := true, maxSteps := 10000000, implicitDefEqProofs := false}) (disch := first | (and_intros <;> omega -splitDisjunctions) | fail) only [zEv_round hc1, hc, cellsAt_old, set_old, nle_self, g1, g2, Try.f106, go_sem, ↓reduceIte, Nat.reduceEqDiff, Nat.reduceAdd, Nat.reduceMul, Nat.reduceLT, Nat.reduceLeDiff, reduceCtorEq, Int.reduceNe, Int.reduceEq, Int.reduceLT, Int.reduceLE, Int.reduceAdd, Int.reduceSub, Int.reduceMul, Int.reduceNeg, Int.reduceToNat, UInt8.reduceToNat, natLit, ty3, ty4, ty5, ty9, ty128]
      have go := fun x2 x5 x6 x7 x8 x13 x20 x21 x22 x23 x29 x37 b n j l H1 h1 h2 h3 h4 h5 => ih (s.size - (i + 1)) (by omega) (i + 1) x2 x5 x6 x7 x8 x13 x20 x21 x22 x23 x29 x37 b n j l H1 rfl (by omega) h1 h2 h3 h4 h5
      rw [esc_step (by omega), ← hl] at go
      have p0 := bA_in (s := s) (p := i) (by omega) (by omega)
      (repeat' (refine ite_E (fun _ => ?_) (fun _ => ?_))) <;> refine go _ _ _ _ _ _ _ _ _ _ _ _ _ _ _ _ _ ?_ ?_ rfl ?_ rfl
      all_goals try simp only [escI, *, if_true, if_false, Int.reduceEq, List.length_append, List.length_cons, List.length_nil]
      all_goals first | omega | skip
      all_goals rw [cellsAt_appS]; simp only [rows_byC2, rows_app, rows_one, byC_bA p0]; rfl
    · have : i = s.size := by omega
      subst this
      rw [← hR]
      simp (config := {contextual := true, maxSteps := 10000000, implicitDefEqProofs := false}) (disch := first | (and_intros <;> omega -splitDisjunctions) | fail) only [hc, g1, g2, g4, Try.f106, go_sem, ↓reduceIte, Nat.reduceEqDiff, Nat.reduceAdd, Nat.reduceMul, Nat.reduceLT, Nat.reduceLeDiff, reduceCtorEq, Int.reduceNe, Int.reduceEq, Int.reduceLT, Int.reduceLE, Int.reduceAdd, Int.reduceSub, Int.reduceMul, Int.reduceNeg, Int.reduceToNat, UInt8.reduceToNat, natLit, ty3, ty4, ty5, ty9, ty128]
      rw [hl, List.take_of_length_le (by rw [bs_len]; omega)]
      rfl
  exact key s.size 0 _ _ _ _ _ _ _ _ _ _ _ _ H.length 0 0 [] _ rfl (Nat.zero_le _) (Nat.le_refl _) (by rw [cellsAt_app0]; rfl) rfl rfl rfl
end Go.Proofs.Ytbjpecknlohicaa.Lg
