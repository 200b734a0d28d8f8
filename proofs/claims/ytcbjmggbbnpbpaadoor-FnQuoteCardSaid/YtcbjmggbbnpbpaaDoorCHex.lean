/- Digits of a base, numbers of plain scalars: both sides. No condition. -/
import Derived.Test.YtcbjmggbbnpbpaaDoorCSpot
import Derived.Test.YtcbjmggbbnpbpaaDoorCNum
namespace Go.Proofs.YtcbjmggbbnpbpaaDoor.Lg
set_option linter.unusedSimpArgs false
set_option linter.unusedVariables false
set_option maxRecDepth 100000
set_option maxHeartbeats 40000000
open Go.Proofs.YtcbjmggbbnpbpaaDoor

/-- the worth of a digit; 99: none -/
def hexD (b : Int) : Int := if 48 ≤ b ∧ b ≤ 57 then b - 48 else if 97 ≤ b ∧ b ≤ 102 then b - 87 else if 65 ≤ b ∧ b ≤ 70 then b - 55 else 99
def hexP (s : ByteArray) : Nat → Nat → Int → Option Int
  | _, 0, n => some n
  | p, k + 1, n => if hexD (bA s p) = 99 then none else hexP s (p + 1) k (16 * n + hexD (bA s p))
def hexF : Option Int → V
  | none => .tup [.int .i64 0, .bool false]
  | some n => .tup [.int .i64 n, .bool true]
theorem hexD_lo (b : Int) : 0 ≤ hexD b := by unfold hexD; grind
theorem hexD_hi (b : Int) : hexD b ≤ 15 ∨ hexD b = 99 := by unfold hexD; grind
def pw16 (i : Nat) : Int := 16 ^ i
theorem pw16_succ (i : Nat) : pw16 (i + 1) = 16 * pw16 i := by unfold pw16; rw [Int.pow_succ]; omega
theorem pw16_le {i : Nat} (h : i ≤ 8) : pw16 i ≤ 4294967296 := by
  have : ∀ k, k < 9 → pw16 k ≤ 4294967296 := by decide
  exact this i (by omega)
theorem sz0 (s : ByteArray) : s.size = 0 ↔ s = ⟨#[]⟩ := by
  constructor
  · intro h
    apply ByteArray.ext
    exact Array.size_eq_zero_iff.mp h
  · rintro rfl; rfl
theorem run_hexValue (s : ByteArray) (p many : Nat) (fl : Nat) (H : LH) (hs : s.size ≤ 1099511627776) (hp : p ≤ 1099511627776) (hm : many ≤ 8) :
    run 109 [.str s, .int .i64 p, .int .i64 many] fl H = some (hexF (hexP s p many 0), H) := by
  have e1 := fun q (h : (0 : Int) ≤ q) fl H => run_byteAt s q fl H h hs
  have e2 := fun a b c fl H => run_within a b c fl H
  unfold run at *
  rw [Run_z Tryd.func109 rfl (by rfl : ok 109 = true) (by rfl : cfg.keep 109 = [0, 1, 2, 6, 7, 8, 9, 10, 11, 12, 13, 20, 28, 37]) (by rfl : cfg.mode 109 = .pure) (by rfl : cfg.ord 109 = [])]
  simp (config := {contextual := true, maxSteps := 10000000, implicitDefEqProofs := false}) (disch := first | (and_intros <;> omega -splitDisjunctions) | (simp only [List.length_set, List.length_append, List.length_cons, List.length_nil]; and_intros <;> omega -splitDisjunctions) | fail) only [Tryd.f109, go_sem, ↓reduceIte, Nat.reduceEqDiff, Nat.reduceAdd, Nat.reduceMul, Nat.reduceLT, Nat.reduceLeDiff, reduceCtorEq, Int.reduceNe, Int.reduceEq, Int.reduceLT, Int.reduceLE, Int.reduceAdd, Int.reduceSub, Int.reduceMul, Int.reduceNeg, Int.reduceToNat, UInt8.reduceToNat, natLit, ty3]
  refine at_loopE fun c R hc hR => ?_
  have key : ∀ (m : Nat) (i : Nat) (n j : Int) (x9 x10 x13 x20 x28 x37 : Option V), many - i < m → j = (i : Int) → i ≤ many → 0 ≤ n → n < pw16 i → hexP s (p + i) (many - i) n = hexP s p many 0 →
      zEv (leaveX (mkR Tryd.prog cfg ok [0, 1, 2, 6, 7, 8, 9, 10, 11, 12, 13, 20, 28, 37] H.length) .pure H [ResultVar.tmp 6, ResultVar.tmp 7]) (mkR Tryd.prog cfg ok [0, 1, 2, 6, 7, 8, 9, 10, 11, 12, 13, 20, 28, 37] H.length) (K.code (Code.loop c) :: K.blk 0 :: R) .nrm [some (.str s), some (.int .i64 p), some (.int .i64 many), some (.int .i64 0), some (.bool false), some (.int .i64 n), x9, x10, some (.int .i64 many), some (.int .i64 j), x13, x20, x28, x37] (H) = some (hexF (hexP s p many 0), H) := by
    intro m
    induction m with
    | zero => intro i n j x9 x10 x13 x20 x28 x37 hm; omega
    | succ m ih =>
      intro i n j x9 x10 x13 x20 x28 x37 hm hj hi h0 hn hf
      subst hj
      have p1 := pw16_le (i := i) (by omega)
      have p2 := pw16_succ i
      rw [zEv_round hc, ← hR]
      simp (config := {contextual := true, maxSteps := 10000000, implicitDefEqProofs := false}) (disch := first | (and_intros <;> omega -splitDisjunctions) | (simp only [List.length_set, List.length_append, List.length_cons, List.length_nil]; and_intros <;> omega -splitDisjunctions) | fail) only [e1, e2, Tryd.f109, go_sem, ↓reduceIte, Nat.reduceEqDiff, Nat.reduceAdd, Nat.reduceMul, Nat.reduceLT, Nat.reduceLeDiff, reduceCtorEq, Int.reduceNe, Int.reduceEq, Int.reduceLT, Int.reduceLE, Int.reduceAdd, Int.reduceSub, Int.reduceMul, Int.reduceNeg, Int.reduceToNat, UInt8.reduceToNat, natLit, ty3]
      try rw [hR]
      refine ite_E (fun h => ?_) (fun h => ?_)
      · have e : many - i = (many - (i + 1)) + 1 := by omega
        rw [e, hexP] at hf
        have hb : ((p : Int) + (i : Int)) = ((p + i : Nat) : Int) := by omega
        rw [hb]
        have d0 : hexD (bA s ((p + i : Nat) : Int)) = hexD (bA s ((p + i : Nat) : Int)) := rfl
        conv at d0 => rhs; unfold hexD
        generalize bA s ((p + i : Nat) : Int) = b at *
        refine ite_E (fun h1 => ?_) (fun h1 => ?_)
        · rw [if_pos h1] at d0
          rw [if_neg (by omega), d0] at hf
          exact ih (i + 1) _ _ _ _ _ _ _ _ (by omega) (by omega) (by omega) (by omega) (by omega) (by rw [← hf]; congr 1; omega)
        refine ite_E (fun h2 => ?_) (fun h2 => ?_)
        · rw [if_neg h1, if_pos h2] at d0
          rw [if_neg (by omega), d0] at hf
          exact ih (i + 1) _ _ _ _ _ _ _ _ (by omega) (by omega) (by omega) (by omega) (by omega) (by rw [← hf]; congr 1; omega)
        refine ite_E (fun h3 => ?_) (fun h3 => ?_)
        · rw [if_neg h1, if_neg h2, if_pos h3] at d0
          rw [if_neg (by omega), d0] at hf
          exact ih (i + 1) _ _ _ _ _ _ _ _ (by omega) (by omega) (by omega) (by omega) (by omega) (by rw [← hf]; congr 1; omega)
        · rw [if_neg h1, if_neg h2, if_neg h3] at d0
          rw [if_pos d0] at hf
          rw [← hf]; rfl
      · have e : many - i = 0 := by omega
        rw [e, hexP] at hf
        rw [← hf]; rfl
  exact key (many + 1) 0 0 _ _ _ _ _ _ _ (by omega) rfl (by omega) (by decide) (by decide) (by simp)
/-- what digits of a base write -/
def digB (base : Int) : List UInt8 → Int → Option Int
  | [], n => some n
  | b :: l, n => if base ≤ hexD b.toNat then none else if 9007199254740991 < n * base + hexD b.toNat then none else digB base l (n * base + hexD b.toNat)
def digV (base : Int) (s : ByteArray) : Option Int := if s.size = 0 then none else digB base (bs s) 0
def optF (s : ByteArray) : Option Int → V
  | none => .tup [.int .i64 0, .bool false]
  | some n => if s.size = 0 then .tup [.int .i64 0, .bool false] else .tup [.int .i64 n, .bool true]
theorem optF_V (base : Int) (s : ByteArray) : optF s (digB base (bs s) 0) = hexF (digV base s) := by
  unfold digV optF
  by_cases h : s.size = 0
  · rw [if_pos h]; cases digB base (bs s) 0 with
    | none => rfl
    | some n => simp only [h, if_true]; rfl
  · rw [if_neg h]; cases digB base (bs s) 0 with
    | none => rfl
    | some n => simp only [h, if_false]; rfl
theorem dcl (b : Int) : (48 ≤ b ∧ b ≤ 57) ∨ (97 ≤ b ∧ b ≤ 102) ∨ (65 ≤ b ∧ b ≤ 70) ∨ (¬ (48 ≤ b ∧ b ≤ 57) ∧ ¬ (97 ≤ b ∧ b ≤ 102) ∧ ¬ (65 ≤ b ∧ b ≤ 70)) := by omega
end Go.Proofs.YtcbjmggbbnpbpaaDoor.Lg
