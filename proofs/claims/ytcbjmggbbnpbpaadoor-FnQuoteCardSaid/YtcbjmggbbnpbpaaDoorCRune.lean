/- Runes: how they are read of a text, as the program has it twice, over the logical machine. No condition. -/
import Derived.Test.YtcbjmggbbnpbpaaDoorLc
import Derived.Test.YtcbjmggbbnpbpaaDoorLgE
namespace Go.Proofs.YtcbjmggbbnpbpaaDoor.Lg
set_option linter.unusedSimpArgs false
set_option linter.unusedVariables false
set_option maxRecDepth 100000
set_option maxHeartbeats 40000000
open Go.Proofs.YtcbjmggbbnpbpaaDoor

def fstB (n : Nat) : Int := firstL.getD n 0
theorem firstL_at {n : Nat} (h : n < 256) : (u8s firstL)[n]? = some (.int .u8 (fstB n)) := by
  have : ∀ n, n < 256 → (u8s firstL)[n]? = some (.int .u8 (fstB n)) := by
    intro n hn
    have hl : firstL.length = 256 := by kernel_rfl
    unfold u8s fstB
    rw [List.getElem?_map, List.getElem?_eq_getElem (by omega), getD_of (by omega)]
    rfl
  exact this n h
theorem fst_cls {b : Nat} (h : 128 ≤ b) (h2 : b < 256) : (fstB b = 241 ∧ (b < 194 ∨ 244 < b)) ∨ (fstB b = 2 ∧ 194 ≤ b ∧ b ≤ 223) ∨ (fstB b = 19 ∧ b = 224) ∨ (fstB b = 3 ∧ (225 ≤ b ∧ b ≤ 236 ∨ 238 ≤ b ∧ b ≤ 239)) ∨
    (fstB b = 35 ∧ b = 237) ∨ (fstB b = 52 ∧ b = 240) ∨ (fstB b = 4 ∧ 241 ≤ b ∧ b ≤ 243) ∨ (fstB b = 68 ∧ b = 244) := by
  have key : ((List.range 256).all fun b => b < 128 || ((fstB b == 241 && (b < 194 || 244 < b)) || (fstB b == 2 && 194 ≤ b && b ≤ 223) || (fstB b == 19 && b == 224) || (fstB b == 3 && ((225 ≤ b && b ≤ 236) || (238 ≤ b && b ≤ 239))) ||
    (fstB b == 35 && b == 237) || (fstB b == 52 && b == 240) || (fstB b == 4 && 241 ≤ b && b ≤ 243) || (fstB b == 68 && b == 244))) = true := by kernel_rfl
  have := List.all_eq_true.1 key b (List.mem_range.2 h2)
  simp only [Bool.or_eq_true, Bool.and_eq_true, decide_eq_true_eq, beq_iff_eq] at this
  omega
/-! ### bits -/
theorem ofInt_nat (w : Nat) (n : Nat) (h : n < 2 ^ w) : (BitVec.ofInt w (n : Int)).toNat = n := by
  rw [BitVec.toNat_ofInt, Int.emod_eq_of_lt (by omega) (by exact_mod_cast h)]
  exact Int.toNat_natCast n
theorem or_bits {k : Nat} {x y : Int} (hk : k < 32) (hx0 : 0 ≤ x) (hx : x < 2147483648) (hm : x % (2 ^ k : Nat) = 0) (hy0 : 0 ≤ y) (hy : y < (2 ^ k : Nat)) : bitsI .or .i32 x y = some (.int .i32 (x + y)) := by
  obtain ⟨a, rfl⟩ : ∃ a : Nat, x = a := ⟨x.toNat, by omega⟩
  obtain ⟨b, rfl⟩ : ∃ b : Nat, y = b := ⟨y.toNat, by omega⟩
  have hm' : a % 2 ^ k = 0 := by exact_mod_cast hm
  have hb : b < 2 ^ k := by exact_mod_cast hy
  have hkk : 2 ^ k ≤ 2 ^ 31 := Nat.pow_le_pow_right (by decide) (by omega)
  have hab : a ||| b = a + b := by
    have h1 := Nat.two_pow_add_eq_or_of_lt hb (a / 2 ^ k)
    have h2 : 2 ^ k * (a / 2 ^ k) = a := by
      have := Nat.div_add_mod a (2 ^ k); omega
    rw [h2] at h1
    exact h1.symm
  have hsum : a + b < 2 ^ 31 := by
    have h1 := Nat.two_pow_add_eq_or_of_lt hb (a / 2 ^ k)
    rw [← hab]
    exact Nat.or_lt_two_pow (by omega) (by omega)
  unfold bitsI
  have e : (BitVec.ofInt IntKind.i32.bits (a : Int) ||| BitVec.ofInt IntKind.i32.bits (b : Int)).toNat = a + b := by
    rw [BitVec.toNat_or, ofInt_nat _ _ (show a < 2 ^ IntKind.i32.bits by show a < 2 ^ 32; omega), ofInt_nat _ _ (show b < 2 ^ IntKind.i32.bits by show b < 2 ^ 32; omega), hab]
  simp only [e]
  rw [IntWalk.i32_in _ (by omega)]
  rfl
theorem or6 {x y : Int} (h : (0 ≤ x ∧ x < 2147483648) ∧ x % 64 ≤ 0 ∧ 0 ≤ y ∧ y < 64) : bitsI .or .i32 x y = some (.int .i32 (x + y)) := or_bits (k := 6) (by decide) h.1.1 h.1.2 (show x % 64 = 0 by omega) h.2.2.1 h.2.2.2
theorem or12 {x y : Int} (h : (0 ≤ x ∧ x < 2147483648) ∧ x % 4096 ≤ 0 ∧ 0 ≤ y ∧ y < 4096) : bitsI .or .i32 x y = some (.int .i32 (x + y)) := or_bits (k := 12) (by decide) h.1.1 h.1.2 (show x % 4096 = 0 by omega) h.2.2.1 h.2.2.2
theorem or18 {x y : Int} (h : (0 ≤ x ∧ x < 2147483648) ∧ x % 262144 ≤ 0 ∧ 0 ≤ y ∧ y < 262144) : bitsI .or .i32 x y = some (.int .i32 (x + y)) := or_bits (k := 18) (by decide) h.1.1 h.1.2 (show x % 262144 = 0 by omega) h.2.2.1 h.2.2.2
theorem and_mask {k : Nat} {x : Int} (hk : k ≤ 8) (h : 0 ≤ x) (h2 : x < 256) : bitsI .and .u8 x ((2 ^ k - 1 : Nat) : Int) = some (.int .u8 (x % (2 ^ k : Nat))) := by
  obtain ⟨a, rfl⟩ : ∃ a : Nat, x = a := ⟨x.toNat, by omega⟩
  have hkk : 2 ^ k ≤ 2 ^ 8 := Nat.pow_le_pow_right (by decide) hk
  have hk0 : 0 < 2 ^ k := Nat.two_pow_pos k
  unfold bitsI
  have e : (BitVec.ofInt IntKind.u8.bits (a : Int) &&& BitVec.ofInt IntKind.u8.bits ((2 ^ k - 1 : Nat) : Int)).toNat = a % 2 ^ k := by
    rw [BitVec.toNat_and, ofInt_nat _ _ (show a < 2 ^ IntKind.u8.bits by show a < 2 ^ 8; omega), ofInt_nat _ _ (show 2 ^ k - 1 < 2 ^ IntKind.u8.bits by show 2 ^ k - 1 < 2 ^ 8; omega), Nat.and_two_pow_sub_one_eq_mod]
  simp only [e]
  have hlt : a % 2 ^ k < 2 ^ k := Nat.mod_lt _ hk0
  rw [IntWalk.u8_in _ (by omega)]
  rfl
theorem and63 {x : Int} (h : 0 ≤ x ∧ x < 256) : bitsI .and .u8 x 63 = some (.int .u8 (x % 64)) := and_mask (k := 6) (by decide) h.1 h.2
theorem and31 {x : Int} (h : 0 ≤ x ∧ x < 256) : bitsI .and .u8 x 31 = some (.int .u8 (x % 32)) := and_mask (k := 5) (by decide) h.1 h.2
theorem and15 {x : Int} (h : 0 ≤ x ∧ x < 256) : bitsI .and .u8 x 15 = some (.int .u8 (x % 16)) := and_mask (k := 4) (by decide) h.1 h.2
theorem and7 {x : Int} (h : 0 ≤ x ∧ x < 256) : bitsI .and .u8 x 7 = some (.int .u8 (x % 8)) := and_mask (k := 3) (by decide) h.1 h.2
theorem andN {n : Nat} (h : n < 256) : bitsI .andNot .i32 (n : Int) (-1) = some (.int .i32 0) := by
  have key : ((List.range 256).all fun n => match bitsI .andNot .i32 (n : Int) (-1) with | some (.int .i32 0) => true | _ => false) = true := by kernel_rfl
  have := List.all_eq_true.1 key n (List.mem_range.2 h)
  split at this
  · assumption
  · cases this
theorem bit_a : bitsI .and .i32 65533 (-1) = some (.int .i32 65533) := by kernel_rfl
theorem bit_b : bitsI .or .i32 0 65533 = some (.int .i32 65533) := by kernel_rfl
theorem p31 : (2 : Int) ^ (min 31 32) = 2147483648 := by decide
theorem p18 : (2 : Int) ^ (min 18 32) = 262144 := by decide
theorem p12 : (2 : Int) ^ (min 12 32) = 4096 := by decide
theorem p6 : (2 : Int) ^ (min 6 32) = 64 := by decide
theorem p4 : (2 : Int) ^ (min 4 8) = 16 := by decide
theorem w31 : IntKind.i32.wrap 517543559168 = -2147483648 := by kernel_rfl
theorem fd31 : (-2147483648 : Int).fdiv 2147483648 = -1 := by kernel_rfl
theorem fd0 : (2 : Int).fdiv 16 = 0 := by kernel_rfl
theorem fd1 : (19 : Int).fdiv 16 = 1 := by kernel_rfl
theorem fd2 : (3 : Int).fdiv 16 = 0 := by kernel_rfl
theorem fd3 : (35 : Int).fdiv 16 = 2 := by kernel_rfl
theorem fd4 : (52 : Int).fdiv 16 = 3 := by kernel_rfl
theorem fd5 : (4 : Int).fdiv 16 = 0 := by kernel_rfl
theorem fd6 : (68 : Int).fdiv 16 = 4 := by kernel_rfl
theorem acc_len : (u8s (flat2 accL)).length = 32 := by kernel_rfl
theorem acc0 : (u8s (flat2 accL)).take 2 = [.int .u8 128, .int .u8 191] := by kernel_rfl
theorem acc1 : ((u8s (flat2 accL)).drop 2).take 2 = [.int .u8 160, .int .u8 191] := by kernel_rfl
theorem acc2 : ((u8s (flat2 accL)).drop 4).take 2 = [.int .u8 128, .int .u8 159] := by kernel_rfl
theorem acc3 : ((u8s (flat2 accL)).drop 6).take 2 = [.int .u8 144, .int .u8 191] := by kernel_rfl
theorem acc4 : ((u8s (flat2 accL)).drop 8).take 2 = [.int .u8 128, .int .u8 143] := by kernel_rfl
/-- the rune that begins with these bytes (-1: none), and its size; of size 0 where there is none -/
def decM (b0 b1 b2 b3 : Int) : Int × Int :=
  if b0 < 0 then (0, 0)
  else if b0 < 128 then (b0, 1)
  else if b0 < 194 ∨ 244 < b0 then (0, 0)
  else if b0 < 224 then (if b1 < 128 ∨ 191 < b1 then (0, 0) else ((b0 - 192) * 64 + (b1 - 128), 2))
  else if b0 < 240 then
    (if b1 < (if b0 = 224 then 160 else 128) ∨ (if b0 = 237 then 159 else 191) < b1 ∨ b2 < 128 ∨ 191 < b2 then (0, 0) else (((b0 - 224) * 64 + (b1 - 128)) * 64 + (b2 - 128), 3))
  else (if b1 < (if b0 = 240 then 144 else 128) ∨ (if b0 = 244 then 143 else 191) < b1 ∨ b2 < 128 ∨ 191 < b2 ∨ b3 < 128 ∨ 191 < b3 then (0, 0) else ((((b0 - 240) * 64 + (b1 - 128)) * 64 + (b2 - 128)) * 64 + (b3 - 128), 4))
def rawM (b0 b1 b2 b3 : Int) : Int × Int := if (decM b0 b1 b2 b3).2 = 0 then (65533, 1) else decM b0 b1 b2 b3
theorem pair_eq {x : Int × Int} {a b : Int} {H : LH} (h : x = (a, b)) : some (V.tup [.int .i32 a, .int .i64 b], H) = some (V.tup [.int .i32 x.1, .int .i64 x.2], H) := by rw [h]
theorem run_slow (s : ByteArray) (fl : Nat) (H : LH) (hs : 128 ≤ bA s 0) (hz : s.size ≤ 9223372036854775807) :
    run 129 [.str s] fl H = some (.tup [.int .i32 (rawM (bA s 0) (bA s 1) (bA s 2) (bA s 3)).1, .int .i64 (rawM (bA s 0) (bA s 1) (bA s 2) (bA s 3)).2], H) := by
  have h0 : 0 < s.size := by
    rcases Nat.eq_zero_or_pos s.size with h | h
    · have := bA_out (s := s) (p := 0) (by omega); omega
    · exact h
  have b0 := bA_hi s 0
  have z1 : s.size < 2 → bA s 1 = -1 := fun h => bA_out (by omega)
  have z2 : s.size < 3 → bA s 2 = -1 := fun h => bA_out (by omega)
  have z3 : s.size < 4 → bA s 3 = -1 := fun h => bA_out (by omega)
  have y1 := bA_hi s 1; have y2 := bA_hi s 2; have y3 := bA_hi s 3
  have h00 : ¬ (s.size : Int) < 1 := by omega
  unfold run
  rw [Run_z Tryd.func129 rfl (by rfl : ok 129 = true) (by rfl : cfg.keep 129 = [0, 2, 3, 4, 5, 6, 7, 8, 9, 10, 11, 12, 16, 23, 45, 57, 59, 75, 77, 98]) (by rfl : cfg.mode 129 = .pure) (by rfl : cfg.ord 129 = [])]
  obtain ⟨n, hn⟩ : ∃ n : Nat, bA s 0 = n := ⟨(bA s 0).toNat, by omega⟩
  rcases fst_cls (b := n) (by omega) (by omega) with ⟨hf, hr⟩ | ⟨hf, hr⟩ | ⟨hf, hr⟩ | ⟨hf, hr⟩ | ⟨hf, hr⟩ | ⟨hf, hr⟩ | ⟨hf, hr⟩ | ⟨hf, hr⟩
  all_goals
    simp (config := {contextual := true, maxSteps := 10000000, implicitDefEqProofs := false}) (disch := first | (and_intros <;> omega -splitDisjunctions) | (simp only [List.length_set, List.length_append, List.length_cons, List.length_nil]; and_intros <;> omega -splitDisjunctions) | fail) only [h00, hn, hf, globF, globA, firstL_at, IntWalk.i32_in, Int.reduceMod, and63, and31, and15, and7, andN, or6, or12, or18, bit_a, bit_b, p31, p18, p12, p6, p4, w31, fd31, fd0, fd1, fd2, fd3, fd4, fd5, fd6, acc_len, acc0, acc1, acc2, acc3, acc4, Tryd.f129, go_sem, ↓reduceIte, Nat.reduceEqDiff, Nat.reduceAdd, Nat.reduceMul, Nat.reduceLT, Nat.reduceLeDiff, reduceCtorEq, Int.reduceNe, Int.reduceEq, Int.reduceLT, Int.reduceLE, Int.reduceAdd, Int.reduceSub, Int.reduceMul, Int.reduceNeg, Int.reduceToNat, UInt8.reduceToNat, natLit, ty3, ty5, ty9, ty21, ty156, ty158, ty159]
    rw [← hn]
    (repeat' (refine ite_E (fun _ => ?_) (fun _ => ?_))) <;> refine pair_eq ?_ <;> simp only [rawM, decM] <;> grind
end Go.Proofs.YtcbjmggbbnpbpaaDoor.Lg
