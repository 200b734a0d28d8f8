/- Escapes, in the program. No condition. -/
import Derived.Test.YtcbjmggbbnpbpaaDoorCQu2
import Derived.Test.YtcbjmggbbnpbpaaDoorCHex
namespace Go.Proofs.YtcbjmggbbnpbpaaDoor.Lg
set_option linter.unusedSimpArgs false
set_option linter.unusedVariables false
set_option maxRecDepth 100000
set_option maxHeartbeats 40000000
open Go.Proofs.YtcbjmggbbnpbpaaDoor

def uI (x : Int) : UInt8 := UInt8.ofNat x.toNat
/-- the bytes of a rune -/
def encL (r : Int) : List UInt8 :=
  if r < 128 then [uI r] else if r < 2048 then [uI (192 + r / 64), uI (128 + r % 64)]
  else if r < 65536 then [uI (224 + r / 4096), uI (128 + r / 64 % 64), uI (128 + r % 64)]
  else [uI (240 + r / 262144), uI (128 + r / 4096 % 64), uI (128 + r / 64 % 64), uI (128 + r % 64)]
def okR (r : Int) : Prop := (0 ≤ r ∧ r ≤ 1114111) ∧ ¬ (55296 ≤ r ∧ r ≤ 57343)
instance (r : Int) : Decidable (okR r) := by unfold okR; infer_instance
def rbM (r : Int) : ByteArray := if okR r then ⟨(encL r).toArray⟩ else ⟨#[]⟩
theorem rbM_size (r : Int) : (rbM r).size ≤ 4 := by
  unfold rbM
  by_cases h : okR r
  · rw [if_pos h]
    show (encL r).length ≤ 4
    unfold encL
    (repeat' (refine ite_P (P := fun x : List UInt8 => x.length ≤ 4) (fun _ => ?_) (fun _ => ?_))) <;> simp
  · rw [if_neg h]; show 0 ≤ 4; omega
theorem rbM_e (r : Int) : rbM r = ⟨#[]⟩ ↔ ¬ okR r := by
  unfold rbM
  by_cases h : okR r
  · rw [if_pos h]
    refine ⟨fun e => ?_, fun e => absurd h e⟩
    have e2 : (encL r).length = 0 := congrArg ByteArray.size e
    unfold encL at e2
    split at e2
    · simp at e2
    · split at e2
      · simp at e2
      · split at e2 <;> simp at e2
  · rw [if_neg h]; exact ⟨fun _ => h, fun _ => rfl⟩
theorem enc_ok {r : Int} (h : okR r) : Utf8.encode r = ⟨(encL r).toArray⟩ := by
  obtain ⟨⟨h1, h2⟩, h3⟩ := h
  obtain ⟨n, rfl⟩ : ∃ n : Nat, r = n := ⟨r.toNat, by omega⟩
  have hv : Utf8.valid (n : Int) = true := by
    unfold Utf8.valid
    simp only [Bool.or_eq_true, Bool.and_eq_true, decide_eq_true_eq]
    omega
  unfold Utf8.encode
  simp only [hv, if_true, Int.toNat_natCast]
  unfold encL uI
  have e0 : ((n : Int) < 128) = (n < 128) := propext (by omega)
  have e1 : ((n : Int) < 2048) = (n < 2048) := propext (by omega)
  have e2 : ((n : Int) < 65536) = (n < 65536) := propext (by omega)
  have d1 : (192 + (n : Int) / 64).toNat = 192 + n / 64 := by omega
  have d2 : (128 + (n : Int) % 64).toNat = 128 + n % 64 := by omega
  have d3 : (224 + (n : Int) / 4096).toNat = 224 + n / 4096 := by omega
  have d4 : (128 + (n : Int) / 64 % 64).toNat = 128 + n / 64 % 64 := by omega
  have d5 : (240 + (n : Int) / 262144).toNat = 240 + n / 262144 := by omega
  have d6 : (128 + (n : Int) / 4096 % 64).toNat = 128 + n / 4096 % 64 := by omega
  simp only [e0, e1, e2, d1, d2, d3, d4, d5, d6, Int.toNat_natCast]
  by_cases c0 : n < 128
  · simp only [c0, if_true]
  · simp only [c0, if_false]
    by_cases c1 : n < 2048
    · simp only [c1, if_true]
    · simp only [c1, if_false]
      by_cases c2 : n < 65536
      · simp only [c2, if_true]
      · simp only [c2, if_false]
theorem run_RuneBytes (r : Int) (fl : Nat) (H : LH) : run 108 [.int .i64 r] fl H = some (.str (rbM r), H) := by
  have e1 := fun a b c fl H => run_within a b c fl H
  unfold rbM
  unfold run at *
  rw [Run_z Tryd.func108 rfl (by rfl : ok 108 = true) (by rfl : cfg.keep 108 = [0, 2, 9]) (by rfl : cfg.mode 108 = .pure) (by rfl : cfg.ord 108 = [])]
  by_cases h : okR r
  · rw [if_pos h]
    have he := enc_ok h
    obtain ⟨⟨h1, h2⟩, h3⟩ := h
    have hw : IntKind.wrap .i32 r = r := IntWalk.i32_in r (by omega)
    have t1 : (0 ≤ r) = True := eq_true h1
    have t2 : (r ≤ 1114111) = True := eq_true h2
    by_cases h4 : 55296 ≤ r
    · have t3 : (55296 ≤ r) = True := eq_true h4
      have t4 : (r ≤ 57343) = False := eq_false (fun h5 => h3 ⟨h4, h5⟩)
      simp (config := {contextual := true, maxSteps := 10000000, implicitDefEqProofs := false}) (disch := first | (and_intros <;> omega -splitDisjunctions) | (simp only [List.length_set, List.length_append, List.length_cons, List.length_nil]; and_intros <;> omega -splitDisjunctions) | fail) only [e1, t1, t2, t3, t4, hw, he, Tryd.f108, go_sem, ↓reduceIte, Nat.reduceEqDiff, Nat.reduceAdd, Nat.reduceMul, Nat.reduceLT, Nat.reduceLeDiff, reduceCtorEq, Int.reduceNe, Int.reduceEq, Int.reduceLT, Int.reduceLE, Int.reduceAdd, Int.reduceSub, Int.reduceMul, Int.reduceNeg, Int.reduceToNat, UInt8.reduceToNat, natLit, ty3, ty4, ty9, ty21]
    · have t3 : (55296 ≤ r) = False := eq_false h4
      simp (config := {contextual := true, maxSteps := 10000000, implicitDefEqProofs := false}) (disch := first | (and_intros <;> omega -splitDisjunctions) | (simp only [List.length_set, List.length_append, List.length_cons, List.length_nil]; and_intros <;> omega -splitDisjunctions) | fail) only [e1, t1, t2, t3, hw, he, Tryd.f108, go_sem, ↓reduceIte, Nat.reduceEqDiff, Nat.reduceAdd, Nat.reduceMul, Nat.reduceLT, Nat.reduceLeDiff, reduceCtorEq, Int.reduceNe, Int.reduceEq, Int.reduceLT, Int.reduceLE, Int.reduceAdd, Int.reduceSub, Int.reduceMul, Int.reduceNeg, Int.reduceToNat, UInt8.reduceToNat, natLit, ty3, ty4, ty9, ty21]
  · rw [if_neg h]
    unfold okR at h
    by_cases h1 : 0 ≤ r ∧ r ≤ 1114111
    · have t1 : (0 ≤ r) = True := eq_true h1.1
      have t2 : (r ≤ 1114111) = True := eq_true h1.2
      have h2 : 55296 ≤ r ∧ r ≤ 57343 := by omega
      have t3 : (55296 ≤ r) = True := eq_true h2.1
      have t4 : (r ≤ 57343) = True := eq_true h2.2
      simp (config := {contextual := true, maxSteps := 10000000, implicitDefEqProofs := false}) (disch := first | (and_intros <;> omega -splitDisjunctions) | (simp only [List.length_set, List.length_append, List.length_cons, List.length_nil]; and_intros <;> omega -splitDisjunctions) | fail) only [e1, t1, t2, t3, t4, Tryd.f108, go_sem, ↓reduceIte, Nat.reduceEqDiff, Nat.reduceAdd, Nat.reduceMul, Nat.reduceLT, Nat.reduceLeDiff, reduceCtorEq, Int.reduceNe, Int.reduceEq, Int.reduceLT, Int.reduceLE, Int.reduceAdd, Int.reduceSub, Int.reduceMul, Int.reduceNeg, Int.reduceToNat, UInt8.reduceToNat, natLit, ty3, ty4, ty9, ty21]
    · by_cases h2 : 0 ≤ r
      · have t1 : (0 ≤ r) = True := eq_true h2
        have t2 : (r ≤ 1114111) = False := eq_false (by omega)
        simp (config := {contextual := true, maxSteps := 10000000, implicitDefEqProofs := false}) (disch := first | (and_intros <;> omega -splitDisjunctions) | (simp only [List.length_set, List.length_append, List.length_cons, List.length_nil]; and_intros <;> omega -splitDisjunctions) | fail) only [e1, t1, t2, Tryd.f108, go_sem, ↓reduceIte, Nat.reduceEqDiff, Nat.reduceAdd, Nat.reduceMul, Nat.reduceLT, Nat.reduceLeDiff, reduceCtorEq, Int.reduceNe, Int.reduceEq, Int.reduceLT, Int.reduceLE, Int.reduceAdd, Int.reduceSub, Int.reduceMul, Int.reduceNeg, Int.reduceToNat, UInt8.reduceToNat, natLit, ty3, ty4, ty9, ty21]
      · have t1 : (0 ≤ r) = False := eq_false h2
        simp (config := {contextual := true, maxSteps := 10000000, implicitDefEqProofs := false}) (disch := first | (and_intros <;> omega -splitDisjunctions) | (simp only [List.length_set, List.length_append, List.length_cons, List.length_nil]; and_intros <;> omega -splitDisjunctions) | fail) only [e1, t1, Tryd.f108, go_sem, ↓reduceIte, Nat.reduceEqDiff, Nat.reduceAdd, Nat.reduceMul, Nat.reduceLT, Nat.reduceLeDiff, reduceCtorEq, Int.reduceNe, Int.reduceEq, Int.reduceLT, Int.reduceLE, Int.reduceAdd, Int.reduceSub, Int.reduceMul, Int.reduceNeg, Int.reduceToNat, UInt8.reduceToNat, natLit, ty3, ty4, ty9, ty21]
theorem mapAt0 {es : List (V × V)} {L : LH} : LH.mapAt (Blk.map es :: L) 0 = some es := rfl
/-- the number of an escape of one byte, or -1 -/
def escN (b : Int) : Int :=
  if b = 48 then 0 else if b = 97 then 7 else if b = 98 then 8 else if b = 116 then 9 else if b = 9 then 9 else if b = 110 then 10 else if b = 118 then 11 else if b = 102 then 12 else if b = 114 then 13
  else if b = 101 then 27 else if b = 32 then 32 else if b = 34 then 34 else if b = 47 then 47 else if b = 92 then 92 else if b = 78 then 133 else if b = 95 then 160 else if b = 76 then 8232 else if b = 80 then 8233 else -1
theorem escN_rng (b : Int) : -1 ≤ escN b ∧ escN b ≤ 8233 := by
  unfold escN
  (repeat' (refine ite_P (P := fun x : Int => -1 ≤ x ∧ x ≤ 8233) (fun _ => ?_) (fun _ => ?_))) <;> omega
theorem run_shortEscape (b : Int) (fl : Nat) (H : LH) : run 107 [.int .i64 b] fl H = some (.int .i64 (escN b), H) := by
  unfold run
  rw [Run_z Tryd.func107 rfl (by rfl : ok 107 = true) (by rfl : cfg.keep 107 = [0, 2, 3, 4, 6, 12, 15, 17, 24, 26, 28, 34, 36, 38, 40]) (by rfl : cfg.mode 107 = .pure) (by rfl : cfg.ord 107 = [])]
  by_cases hb : b = 48 ∨ b = 97 ∨ b = 98 ∨ b = 116 ∨ b = 9 ∨ b = 110 ∨ b = 118 ∨ b = 102 ∨ b = 114 ∨ b = 101 ∨ b = 32 ∨ b = 34 ∨ b = 47 ∨ b = 92 ∨ b = 78 ∨ b = 95 ∨ b = 76 ∨ b = 80
  · rcases hb with rfl | rfl | rfl | rfl | rfl | rfl | rfl | rfl | rfl | rfl | rfl | rfl | rfl | rfl | rfl | rfl | rfl | rfl
    all_goals
      simp (config := {contextual := true, maxSteps := 10000000, implicitDefEqProofs := false}) (disch := first | (and_intros <;> omega -splitDisjunctions) | (simp only [List.length_set, List.length_append, List.length_cons, List.length_nil]; and_intros <;> omega -splitDisjunctions) | fail) only [lookV, mapE, entO, lookO, updV, updO, findM, eqS, keyOk, mapAt0, Option.map_some, Option.map_none, cellsAt_set, cellsAt_set_ne, cellsAt_old, set_old, Tryd.f107, go_sem, ↓reduceIte, Nat.reduceEqDiff, Nat.reduceAdd, Nat.reduceMul, Nat.reduceLT, Nat.reduceLeDiff, reduceCtorEq, Int.reduceNe, Int.reduceEq, Int.reduceLT, Int.reduceLE, Int.reduceAdd, Int.reduceSub, Int.reduceMul, Int.reduceNeg, Int.reduceToNat, UInt8.reduceToNat, natLit, ty3, ty121]
    all_goals rfl
  · simp only [not_or] at hb
    obtain ⟨c0, c1, c2, c3, c4, c5, c6, c7, c8, c9, c10, c11, c12, c13, c14, c15, c16, c17⟩ := hb
    have he : escN b = -1 := by
      unfold escN
      simp only [c0, c1, c2, c3, c4, c5, c6, c7, c8, c9, c10, c11, c12, c13, c14, c15, c16, c17, if_false]
    rw [he]
    simp (config := {contextual := true, maxSteps := 10000000, implicitDefEqProofs := false}) (disch := first | (and_intros <;> omega -splitDisjunctions) | (simp only [List.length_set, List.length_append, List.length_cons, List.length_nil]; and_intros <;> omega -splitDisjunctions) | fail) only [c0, c1, c2, c3, c4, c5, c6, c7, c8, c9, c10, c11, c12, c13, c14, c15, c16, c17, Tryd.f107, go_sem, ↓reduceIte, Nat.reduceEqDiff, Nat.reduceAdd, Nat.reduceMul, Nat.reduceLT, Nat.reduceLeDiff, reduceCtorEq, Int.reduceNe, Int.reduceEq, Int.reduceLT, Int.reduceLE, Int.reduceAdd, Int.reduceSub, Int.reduceMul, Int.reduceNeg, Int.reduceToNat, UInt8.reduceToNat, natLit, ty3, ty121]
def manyN (b : Int) : Nat := if b = 120 then 2 else if b = 117 then 4 else if b = 85 then 8 else 0
/-- an escape: its text, and where it ends -/
def escA (s : ByteArray) (p : Nat) : ByteArray × Int :=
  if bA s p ≠ 92 ∨ s.size ≤ p + 1 then (⟨#[]⟩, 0)
  else if 0 ≤ escN (bA s (p + 1)) then (rbM (escN (bA s (p + 1))), p + 2)
  else match hexP s (p + 2) (manyN (bA s (p + 1))) 0 with
    | none => (⟨#[]⟩, 0)
    | some n => if manyN (bA s (p + 1)) = 0 ∨ ¬ okR n then (⟨#[]⟩, 0) else (rbM n, p + 2 + manyN (bA s (p + 1)))
theorem hexD_out : hexD (-1) = 99 := by decide
theorem hexP_in {s : ByteArray} : ∀ (k p : Nat) (n m : Int), hexP s p k n = some m → 0 < k → p + k ≤ s.size
  | 0, p, n, m, h, hk => by omega
  | k + 1, p, n, m, h, _ => by
    unfold hexP at h
    by_cases h9 : hexD (bA s p) = 99
    · rw [if_pos h9] at h; cases h
    · rw [if_neg h9] at h
      have hp : p < s.size := by
        refine Nat.lt_of_not_le fun hle => h9 ?_
        rw [bA_out (by omega)]; exact hexD_out
      by_cases hk : 0 < k
      · have := hexP_in k (p + 1) _ m h hk; omega
      · omega
theorem escA_rng {s : ByteArray} {p : Nat} : (escA s p).2 = 0 ∨ ((p : Int) + 2 ≤ (escA s p).2 ∧ (escA s p).2 ≤ p + 10 ∧ (escA s p).2 ≤ s.size) := by
  unfold escA
  by_cases h1 : bA s p ≠ 92 ∨ s.size ≤ p + 1
  · rw [if_pos h1]; exact .inl rfl
  rw [if_neg h1]
  have h1' : ¬ s.size ≤ p + 1 := fun h => h1 (.inr h)
  by_cases h2 : 0 ≤ escN (bA s (p + 1))
  · rw [if_pos h2]; exact .inr ⟨Int.le_refl _, by show (p : Int) + 2 ≤ _; omega, by show (p : Int) + 2 ≤ _; omega⟩
  rw [if_neg h2]
  cases h3 : hexP s (p + 2) (manyN (bA s (p + 1))) 0 with
  | none => exact .inl rfl
  | some n =>
    dsimp only
    by_cases h4 : manyN (bA s (p + 1)) = 0 ∨ ¬ okR n
    · rw [if_pos h4]; exact .inl rfl
    · rw [if_neg h4]
      have h5 : 0 < manyN (bA s (p + 1)) := Nat.pos_of_ne_zero fun h => h4 (.inl h)
      have h6 := hexP_in _ _ _ _ h3 h5
      have h7 : manyN (bA s (p + 1)) ≤ 8 := by
        unfold manyN
        (repeat' (refine ite_P (P := fun x : Nat => x ≤ 8) (fun _ => ?_) (fun _ => ?_))) <;> omega
      refine .inr ⟨?_, ?_, ?_⟩
      · show (p : Int) + 2 ≤ (p : Int) + 2 + (manyN (bA s (p + 1)) : Int); omega
      · show (p : Int) + 2 + (manyN (bA s (p + 1)) : Int) ≤ _; omega
      · show (p : Int) + 2 + (manyN (bA s (p + 1)) : Int) ≤ _; omega
theorem escA_size (s : ByteArray) (p : Nat) : (escA s p).1.size ≤ 4 := by
  unfold escA
  by_cases h1 : bA s p ≠ 92 ∨ s.size ≤ p + 1
  · rw [if_pos h1]; show 0 ≤ 4; omega
  rw [if_neg h1]
  by_cases h2 : 0 ≤ escN (bA s (p + 1))
  · rw [if_pos h2]; exact rbM_size _
  rw [if_neg h2]
  cases h3 : hexP s (p + 2) (manyN (bA s (p + 1))) 0 with
  | none => show 0 ≤ 4; omega
  | some n =>
    dsimp only
    by_cases h4 : manyN (bA s (p + 1)) = 0 ∨ ¬ okR n
    · rw [if_pos h4]; show 0 ≤ 4; omega
    · rw [if_neg h4]; exact rbM_size _
theorem run_EscapeAtN (s : ByteArray) (p : Nat) (fl : Nat) (H : LH) (hp : p ≤ s.size) (hs : s.size ≤ 1099511627776) : run 73 [.str s, .int .i64 (p : Int)] fl H = some (.tup [.str (escA s p).1, .int .i64 (escA s p).2], H) := by
  have e1 := fun fl H => run_spot s p fl H hs
  rw [spt_in hp] at e1
  have e2 := fun q (h : (0 : Int) ≤ q) fl H => run_byteAt s q fl H h hs
  have e3 := fun b fl H => run_shortEscape b fl H
  have e4 := fun r fl H => run_RuneBytes r fl H
  have hq : ((p : Int) + 2) = ((p + 2 : Nat) : Int) := by omega
  have hrb := fun r => propext (rbM_e r)
  unfold escA
  by_cases h92 : bA s p = 92
  rotate_left
  · rw [if_pos (.inl h92)]
    have t1 : (bA s (p : Int) = 92) = False := eq_false h92
    unfold run at *
    rw [Run_z Tryd.func73 rfl (by rfl : ok 73 = true) (by rfl : cfg.keep 73 = [0, 1, 4, 5, 6, 7, 8, 9, 10, 11, 25, 33, 61]) (by rfl : cfg.mode 73 = .pure) (by rfl : cfg.ord 73 = [])]
    simp (config := {contextual := true, maxSteps := 10000000, implicitDefEqProofs := false}) (disch := first | (and_intros <;> omega -splitDisjunctions) | (simp only [List.length_set, List.length_append, List.length_cons, List.length_nil]; and_intros <;> omega -splitDisjunctions) | fail) only [e1, e2, t1, Tryd.f73, go_sem, ↓reduceIte, Nat.reduceEqDiff, Nat.reduceAdd, Nat.reduceMul, Nat.reduceLT, Nat.reduceLeDiff, reduceCtorEq, Int.reduceNe, Int.reduceEq, Int.reduceLT, Int.reduceLE, Int.reduceAdd, Int.reduceSub, Int.reduceMul, Int.reduceNeg, Int.reduceToNat, UInt8.reduceToNat, natLit, ty3, ty4, ty9, ty121]
  have t1 : (bA s (p : Int) = 92) = True := eq_true h92
  by_cases hle : s.size ≤ p + 1
  · rw [if_pos (.inr hle)]
    have t2 : ((s.size : Int) ≤ (p : Int) + 1) = True := eq_true (by omega)
    have t3 : ((p : Int) + 1 ≥ s.size) = True := eq_true (by omega)
    unfold run at *
    rw [Run_z Tryd.func73 rfl (by rfl : ok 73 = true) (by rfl : cfg.keep 73 = [0, 1, 4, 5, 6, 7, 8, 9, 10, 11, 25, 33, 61]) (by rfl : cfg.mode 73 = .pure) (by rfl : cfg.ord 73 = [])]
    simp (config := {contextual := true, maxSteps := 10000000, implicitDefEqProofs := false}) (disch := first | (and_intros <;> omega -splitDisjunctions) | (simp only [List.length_set, List.length_append, List.length_cons, List.length_nil]; and_intros <;> omega -splitDisjunctions) | fail) only [e1, e2, h92, t2, t3, Tryd.f73, go_sem, ↓reduceIte, Nat.reduceEqDiff, Nat.reduceAdd, Nat.reduceMul, Nat.reduceLT, Nat.reduceLeDiff, reduceCtorEq, Int.reduceNe, Int.reduceEq, Int.reduceLT, Int.reduceLE, Int.reduceAdd, Int.reduceSub, Int.reduceMul, Int.reduceNeg, Int.reduceToNat, UInt8.reduceToNat, natLit, ty3, ty4, ty9, ty121]
  have t2 : ((s.size : Int) ≤ (p : Int) + 1) = False := eq_false (by omega)
  have t3 : ((p : Int) + 1 ≥ s.size) = False := eq_false (by omega)
  rw [if_neg (fun h => h.elim (fun h => h h92) hle)]
  have hr := escN_rng (bA s ((p : Int) + 1))
  by_cases hsh : 0 ≤ escN (bA s (p + 1))
  · rw [if_pos hsh]
    have t4 : (0 ≤ escN (bA s ((p : Int) + 1))) = True := eq_true hsh
    have t5 : (escN (bA s ((p : Int) + 1)) ≥ 0) = True := eq_true hsh
    unfold run at *
    rw [Run_z Tryd.func73 rfl (by rfl : ok 73 = true) (by rfl : cfg.keep 73 = [0, 1, 4, 5, 6, 7, 8, 9, 10, 11, 25, 33, 61]) (by rfl : cfg.mode 73 = .pure) (by rfl : cfg.ord 73 = [])]
    simp (config := {contextual := true, maxSteps := 10000000, implicitDefEqProofs := false}) (disch := first | (and_intros <;> omega -splitDisjunctions) | (simp only [List.length_set, List.length_append, List.length_cons, List.length_nil]; and_intros <;> omega -splitDisjunctions) | fail) only [e1, e2, e3, e4, h92, t2, t3, t4, t5, Tryd.f73, go_sem, ↓reduceIte, Nat.reduceEqDiff, Nat.reduceAdd, Nat.reduceMul, Nat.reduceLT, Nat.reduceLeDiff, reduceCtorEq, Int.reduceNe, Int.reduceEq, Int.reduceLT, Int.reduceLE, Int.reduceAdd, Int.reduceSub, Int.reduceMul, Int.reduceNeg, Int.reduceToNat, UInt8.reduceToNat, natLit, ty3, ty4, ty9, ty121]
  rw [if_neg hsh]
  have t4 : (0 ≤ escN (bA s ((p : Int) + 1))) = False := eq_false hsh
  have t5 : (escN (bA s ((p : Int) + 1)) ≥ 0) = False := eq_false hsh
  have e5 : ∀ (b : Int) (fl : Nat) (H : LH), bA s (p + 1) = b → run 109 [.str s, .int .i64 ((p : Int) + 2), .int .i64 (manyN b)] fl H = some (hexF (hexP s (p + 2) (manyN b) 0), H) := fun b fl H hb => by
    rw [hq]
    exact run_hexValue s (p + 2) (manyN b) fl H hs (by omega) (by
      unfold manyN
      (repeat' (refine ite_P (P := fun x : Nat => x ≤ 8) (fun _ => ?_) (fun _ => ?_))) <;> omega)
  generalize hb : bA s ((p : Int) + 1) = b at *
  have e6 := fun fl H => e5 b fl H rfl
  clear e5
  unfold run at *
  rw [Run_z Tryd.func73 rfl (by rfl : ok 73 = true) (by rfl : cfg.keep 73 = [0, 1, 4, 5, 6, 7, 8, 9, 10, 11, 25, 33, 61]) (by rfl : cfg.mode 73 = .pure) (by rfl : cfg.ord 73 = [])]
  by_cases c0 : b = 120
  · subst c0
    have hm : manyN 120 = 2 := rfl
    rw [hm] at e6 ⊢
    rw [show ((2 : Nat) : Int) = 2 from rfl] at e6
    cases hh : hexP s (p + 2) 2 0 with
    | none =>
      rw [hh] at e6
      unfold hexF at e6
      simp (config := {contextual := true, maxSteps := 10000000, implicitDefEqProofs := false}) (disch := first | (and_intros <;> omega -splitDisjunctions) | (simp only [List.length_set, List.length_append, List.length_cons, List.length_nil]; and_intros <;> omega -splitDisjunctions) | fail) only [e1, e2, e3, e4, e6, hb, h92, hrb, t2, t3, t4, t5, lookV, mapE, entO, lookO, updV, updO, findM, eqS, keyOk, mapAt0, Option.map_some, Option.map_none, cellsAt_set, cellsAt_set_ne, cellsAt_old, set_old, Tryd.f73, go_sem, ↓reduceIte, Nat.reduceEqDiff, Nat.reduceAdd, Nat.reduceMul, Nat.reduceLT, Nat.reduceLeDiff, reduceCtorEq, Int.reduceNe, Int.reduceEq, Int.reduceLT, Int.reduceLE, Int.reduceAdd, Int.reduceSub, Int.reduceMul, Int.reduceNeg, Int.reduceToNat, UInt8.reduceToNat, natLit, ty3, ty4, ty9, ty121]
    | some n =>
      rw [hh] at e6
      unfold hexF at e6
      dsimp only
      by_cases ho : okR n
      · rw [if_neg (show ¬ ((2 : Nat) = 0 ∨ ¬ okR n) from fun h => h.elim (by decide) (fun h => h ho))]
        have t6 : okR n = True := eq_true ho
        simp (config := {contextual := true, maxSteps := 10000000, implicitDefEqProofs := false}) (disch := first | (and_intros <;> omega -splitDisjunctions) | (simp only [List.length_set, List.length_append, List.length_cons, List.length_nil]; and_intros <;> omega -splitDisjunctions) | fail) only [t6, not_true, e1, e2, e3, e4, e6, hb, h92, hrb, t2, t3, t4, t5, lookV, mapE, entO, lookO, updV, updO, findM, eqS, keyOk, mapAt0, Option.map_some, Option.map_none, cellsAt_set, cellsAt_set_ne, cellsAt_old, set_old, Tryd.f73, go_sem, ↓reduceIte, Nat.reduceEqDiff, Nat.reduceAdd, Nat.reduceMul, Nat.reduceLT, Nat.reduceLeDiff, reduceCtorEq, Int.reduceNe, Int.reduceEq, Int.reduceLT, Int.reduceLE, Int.reduceAdd, Int.reduceSub, Int.reduceMul, Int.reduceNeg, Int.reduceToNat, UInt8.reduceToNat, natLit, ty3, ty4, ty9, ty121]
      · rw [if_pos (.inr ho)]
        have t6 : okR n = False := eq_false ho
        simp (config := {contextual := true, maxSteps := 10000000, implicitDefEqProofs := false}) (disch := first | (and_intros <;> omega -splitDisjunctions) | (simp only [List.length_set, List.length_append, List.length_cons, List.length_nil]; and_intros <;> omega -splitDisjunctions) | fail) only [t6, not_false_eq_true, e1, e2, e3, e4, e6, hb, h92, hrb, t2, t3, t4, t5, lookV, mapE, entO, lookO, updV, updO, findM, eqS, keyOk, mapAt0, Option.map_some, Option.map_none, cellsAt_set, cellsAt_set_ne, cellsAt_old, set_old, Tryd.f73, go_sem, ↓reduceIte, Nat.reduceEqDiff, Nat.reduceAdd, Nat.reduceMul, Nat.reduceLT, Nat.reduceLeDiff, reduceCtorEq, Int.reduceNe, Int.reduceEq, Int.reduceLT, Int.reduceLE, Int.reduceAdd, Int.reduceSub, Int.reduceMul, Int.reduceNeg, Int.reduceToNat, UInt8.reduceToNat, natLit, ty3, ty4, ty9, ty121]
  by_cases c1 : b = 117
  · subst c1
    have hm : manyN 117 = 4 := rfl
    rw [hm] at e6 ⊢
    rw [show ((4 : Nat) : Int) = 4 from rfl] at e6
    cases hh : hexP s (p + 2) 4 0 with
    | none =>
      rw [hh] at e6
      unfold hexF at e6
      simp (config := {contextual := true, maxSteps := 10000000, implicitDefEqProofs := false}) (disch := first | (and_intros <;> omega -splitDisjunctions) | (simp only [List.length_set, List.length_append, List.length_cons, List.length_nil]; and_intros <;> omega -splitDisjunctions) | fail) only [e1, e2, e3, e4, e6, hb, h92, hrb, t2, t3, t4, t5, lookV, mapE, entO, lookO, updV, updO, findM, eqS, keyOk, mapAt0, Option.map_some, Option.map_none, cellsAt_set, cellsAt_set_ne, cellsAt_old, set_old, Tryd.f73, go_sem, ↓reduceIte, Nat.reduceEqDiff, Nat.reduceAdd, Nat.reduceMul, Nat.reduceLT, Nat.reduceLeDiff, reduceCtorEq, Int.reduceNe, Int.reduceEq, Int.reduceLT, Int.reduceLE, Int.reduceAdd, Int.reduceSub, Int.reduceMul, Int.reduceNeg, Int.reduceToNat, UInt8.reduceToNat, natLit, ty3, ty4, ty9, ty121]
    | some n =>
      rw [hh] at e6
      unfold hexF at e6
      dsimp only
      by_cases ho : okR n
      · rw [if_neg (show ¬ ((4 : Nat) = 0 ∨ ¬ okR n) from fun h => h.elim (by decide) (fun h => h ho))]
        have t6 : okR n = True := eq_true ho
        simp (config := {contextual := true, maxSteps := 10000000, implicitDefEqProofs := false}) (disch := first | (and_intros <;> omega -splitDisjunctions) | (simp only [List.length_set, List.length_append, List.length_cons, List.length_nil]; and_intros <;> omega -splitDisjunctions) | fail) only [t6, not_true, e1, e2, e3, e4, e6, hb, h92, hrb, t2, t3, t4, t5, lookV, mapE, entO, lookO, updV, updO, findM, eqS, keyOk, mapAt0, Option.map_some, Option.map_none, cellsAt_set, cellsAt_set_ne, cellsAt_old, set_old, Tryd.f73, go_sem, ↓reduceIte, Nat.reduceEqDiff, Nat.reduceAdd, Nat.reduceMul, Nat.reduceLT, Nat.reduceLeDiff, reduceCtorEq, Int.reduceNe, Int.reduceEq, Int.reduceLT, Int.reduceLE, Int.reduceAdd, Int.reduceSub, Int.reduceMul, Int.reduceNeg, Int.reduceToNat, UInt8.reduceToNat, natLit, ty3, ty4, ty9, ty121]
      · rw [if_pos (.inr ho)]
        have t6 : okR n = False := eq_false ho
        simp (config := {contextual := true, maxSteps := 10000000, implicitDefEqProofs := false}) (disch := first | (and_intros <;> omega -splitDisjunctions) | (simp only [List.length_set, List.length_append, List.length_cons, List.length_nil]; and_intros <;> omega -splitDisjunctions) | fail) only [t6, not_false_eq_true, e1, e2, e3, e4, e6, hb, h92, hrb, t2, t3, t4, t5, lookV, mapE, entO, lookO, updV, updO, findM, eqS, keyOk, mapAt0, Option.map_some, Option.map_none, cellsAt_set, cellsAt_set_ne, cellsAt_old, set_old, Tryd.f73, go_sem, ↓reduceIte, Nat.reduceEqDiff, Nat.reduceAdd, Nat.reduceMul, Nat.reduceLT, Nat.reduceLeDiff, reduceCtorEq, Int.reduceNe, Int.reduceEq, Int.reduceLT, Int.reduceLE, Int.reduceAdd, Int.reduceSub, Int.reduceMul, Int.reduceNeg, Int.reduceToNat, UInt8.reduceToNat, natLit, ty3, ty4, ty9, ty121]
  by_cases c2 : b = 85
  · subst c2
    have hm : manyN 85 = 8 := rfl
    rw [hm] at e6 ⊢
    rw [show ((8 : Nat) : Int) = 8 from rfl] at e6
    cases hh : hexP s (p + 2) 8 0 with
    | none =>
      rw [hh] at e6
      unfold hexF at e6
      simp (config := {contextual := true, maxSteps := 10000000, implicitDefEqProofs := false}) (disch := first | (and_intros <;> omega -splitDisjunctions) | (simp only [List.length_set, List.length_append, List.length_cons, List.length_nil]; and_intros <;> omega -splitDisjunctions) | fail) only [e1, e2, e3, e4, e6, hb, h92, hrb, t2, t3, t4, t5, lookV, mapE, entO, lookO, updV, updO, findM, eqS, keyOk, mapAt0, Option.map_some, Option.map_none, cellsAt_set, cellsAt_set_ne, cellsAt_old, set_old, Tryd.f73, go_sem, ↓reduceIte, Nat.reduceEqDiff, Nat.reduceAdd, Nat.reduceMul, Nat.reduceLT, Nat.reduceLeDiff, reduceCtorEq, Int.reduceNe, Int.reduceEq, Int.reduceLT, Int.reduceLE, Int.reduceAdd, Int.reduceSub, Int.reduceMul, Int.reduceNeg, Int.reduceToNat, UInt8.reduceToNat, natLit, ty3, ty4, ty9, ty121]
    | some n =>
      rw [hh] at e6
      unfold hexF at e6
      dsimp only
      by_cases ho : okR n
      · rw [if_neg (show ¬ ((8 : Nat) = 0 ∨ ¬ okR n) from fun h => h.elim (by decide) (fun h => h ho))]
        have t6 : okR n = True := eq_true ho
        simp (config := {contextual := true, maxSteps := 10000000, implicitDefEqProofs := false}) (disch := first | (and_intros <;> omega -splitDisjunctions) | (simp only [List.length_set, List.length_append, List.length_cons, List.length_nil]; and_intros <;> omega -splitDisjunctions) | fail) only [t6, not_true, e1, e2, e3, e4, e6, hb, h92, hrb, t2, t3, t4, t5, lookV, mapE, entO, lookO, updV, updO, findM, eqS, keyOk, mapAt0, Option.map_some, Option.map_none, cellsAt_set, cellsAt_set_ne, cellsAt_old, set_old, Tryd.f73, go_sem, ↓reduceIte, Nat.reduceEqDiff, Nat.reduceAdd, Nat.reduceMul, Nat.reduceLT, Nat.reduceLeDiff, reduceCtorEq, Int.reduceNe, Int.reduceEq, Int.reduceLT, Int.reduceLE, Int.reduceAdd, Int.reduceSub, Int.reduceMul, Int.reduceNeg, Int.reduceToNat, UInt8.reduceToNat, natLit, ty3, ty4, ty9, ty121]
      · rw [if_pos (.inr ho)]
        have t6 : okR n = False := eq_false ho
        simp (config := {contextual := true, maxSteps := 10000000, implicitDefEqProofs := false}) (disch := first | (and_intros <;> omega -splitDisjunctions) | (simp only [List.length_set, List.length_append, List.length_cons, List.length_nil]; and_intros <;> omega -splitDisjunctions) | fail) only [t6, not_false_eq_true, e1, e2, e3, e4, e6, hb, h92, hrb, t2, t3, t4, t5, lookV, mapE, entO, lookO, updV, updO, findM, eqS, keyOk, mapAt0, Option.map_some, Option.map_none, cellsAt_set, cellsAt_set_ne, cellsAt_old, set_old, Tryd.f73, go_sem, ↓reduceIte, Nat.reduceEqDiff, Nat.reduceAdd, Nat.reduceMul, Nat.reduceLT, Nat.reduceLeDiff, reduceCtorEq, Int.reduceNe, Int.reduceEq, Int.reduceLT, Int.reduceLE, Int.reduceAdd, Int.reduceSub, Int.reduceMul, Int.reduceNeg, Int.reduceToNat, UInt8.reduceToNat, natLit, ty3, ty4, ty9, ty121]
  have hm : manyN b = 0 := by unfold manyN; rw [if_neg c0, if_neg c1, if_neg c2]
  rw [hm] at e6 ⊢
  rw [show ((0 : Nat) : Int) = 0 from rfl] at e6
  have hh : hexP s (p + 2) 0 0 = some 0 := rfl
  rw [hh] at e6 ⊢
  unfold hexF at e6
  dsimp only
  rw [if_pos (.inl rfl)]
  simp (config := {contextual := true, maxSteps := 10000000, implicitDefEqProofs := false}) (disch := first | (and_intros <;> omega -splitDisjunctions) | (simp only [List.length_set, List.length_append, List.length_cons, List.length_nil]; and_intros <;> omega -splitDisjunctions) | fail) only [c0, c1, c2, decide_false, decide_true, e1, e2, e3, e4, e6, hb, h92, hrb, t2, t3, t4, t5, lookV, mapE, entO, lookO, updV, updO, findM, eqS, keyOk, mapAt0, Option.map_some, Option.map_none, cellsAt_set, cellsAt_set_ne, cellsAt_old, set_old, Tryd.f73, go_sem, ↓reduceIte, Nat.reduceEqDiff, Nat.reduceAdd, Nat.reduceMul, Nat.reduceLT, Nat.reduceLeDiff, reduceCtorEq, Int.reduceNe, Int.reduceEq, Int.reduceLT, Int.reduceLE, Int.reduceAdd, Int.reduceSub, Int.reduceMul, Int.reduceNeg, Int.reduceToNat, UInt8.reduceToNat, natLit, ty3, ty4, ty9, ty121]
end Go.Proofs.YtcbjmggbbnpbpaaDoor.Lg
