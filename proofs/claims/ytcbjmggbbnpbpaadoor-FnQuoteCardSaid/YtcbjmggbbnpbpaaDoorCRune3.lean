/- Runes: how they are read of a text, as the reference does it, over the logical machine. No condition. -/
import Derived.Test.YtcbjmggbbnpbpaaDoorCRune2
namespace Go.Proofs.YtcbjmggbbnpbpaaDoor.Lg
set_option linter.unusedSimpArgs false
set_option linter.unusedVariables false
set_option maxRecDepth 100000
set_option maxHeartbeats 40000000
open Go.Proofs.YtcbjmggbbnpbpaaDoor

def u8I (x : Int) : UInt8 := UInt8.ofNat x.toNat
theorem u8I_inj {a b : Int} (h : u8I a = u8I b) (h1 : 0 ≤ a) (h2 : a < 256) (h3 : 0 ≤ b) (h4 : b < 256) : a = b := by
  have := congrArg UInt8.toNat h
  unfold u8I at this
  rw [UInt8.toNat_ofNat', UInt8.toNat_ofNat', Nat.mod_eq_of_lt (by omega), Nat.mod_eq_of_lt (by omega)] at this
  omega
theorem enc_cases (r : Int) : encT r = ⟨#[]⟩ ∨ (0 ≤ r ∧ r < 128 ∧ encT r = ⟨#[u8I r]⟩) ∨ (128 ≤ r ∧ r < 2048 ∧ encT r = ⟨#[u8I (192 + r / 64), u8I (128 + r % 64)]⟩) ∨
    (2048 ≤ r ∧ r < 65536 ∧ ¬ (55296 ≤ r ∧ r ≤ 57343) ∧ encT r = ⟨#[u8I (224 + r / 4096), u8I (128 + r / 64 % 64), u8I (128 + r % 64)]⟩) ∨
    (65536 ≤ r ∧ r ≤ 1114111 ∧ encT r = ⟨#[u8I (240 + r / 262144), u8I (128 + r / 4096 % 64), u8I (128 + r / 64 % 64), u8I (128 + r % 64)]⟩) := by
  unfold encT
  by_cases c1 : r < 0 ∨ 1114111 < r ∨ (55296 ≤ r ∧ r ≤ 57343)
  · exact .inl (if_pos c1)
  · rw [if_neg c1]
    by_cases c2 : r < 128
    · exact .inr (.inl ⟨by omega, c2, if_pos c2⟩)
    · rw [if_neg c2]
      by_cases c3 : r < 2048
      · exact .inr (.inr (.inl ⟨by omega, c3, if_pos c3⟩))
      · rw [if_neg c3]
        by_cases c4 : r < 65536
        · exact .inr (.inr (.inr (.inl ⟨by omega, c4, by omega, if_pos c4⟩)))
        · exact .inr (.inr (.inr (.inr ⟨by omega, by omega, if_neg c4⟩)))
theorem enc_of1 {r : Int} (h : 0 ≤ r) (h2 : r < 128) : encT r = ⟨#[u8I r]⟩ := by
  unfold encT; rw [if_neg (by omega), if_pos h2]; rfl
theorem enc_of2 {r : Int} (h : 128 ≤ r) (h2 : r < 2048) : encT r = ⟨#[u8I (192 + r / 64), u8I (128 + r % 64)]⟩ := by
  unfold encT; rw [if_neg (by omega), if_neg (by omega), if_pos h2]; rfl
theorem enc_of3 {r : Int} (h : 2048 ≤ r) (h2 : r < 65536) (h3 : ¬ (55296 ≤ r ∧ r ≤ 57343)) : encT r = ⟨#[u8I (224 + r / 4096), u8I (128 + r / 64 % 64), u8I (128 + r % 64)]⟩ := by
  unfold encT; rw [if_neg (by omega), if_neg (by omega), if_neg (by omega), if_pos h2]; rfl
theorem enc_of4 {r : Int} (h : 65536 ≤ r) (h2 : r ≤ 1114111) : encT r = ⟨#[u8I (240 + r / 262144), u8I (128 + r / 4096 % 64), u8I (128 + r / 64 % 64), u8I (128 + r % 64)]⟩ := by
  unfold encT; rw [if_neg (by omega), if_neg (by omega), if_neg (by omega), if_neg (by omega)]; rfl
theorem ext_succ {s : ByteArray} {n e : Nat} (h : n < s.size) (h2 : n < e) : bs (s.extract n e) = u8I (bA s n) :: bs (s.extract (n + 1) e) := by
  rw [bs_ext, bs_ext, List.drop_eq_getElem_cons (show n < (bs s).length from h), show e - n = (e - (n + 1)) + 1 by omega, List.take_succ_cons]
  congr 1
  unfold u8I
  rw [bA_nat h, Int.toNat_natCast, UInt8.ofNat_toNat]
theorem ext_nil {s : ByteArray} {n : Nat} : bs (s.extract n n) = [] := by rw [bs_ext]; simp
theorem bs_inj {a b : ByteArray} (h : bs a = bs b) : a = b := by
  rw [← mk_bs a, ← mk_bs b, h]
theorem ext1 {s : ByteArray} {n : Nat} (h : n + 1 ≤ s.size) : s.extract n (n + 1) = ⟨#[u8I (bA s n)]⟩ := by
  apply bs_inj; rw [ext_succ (by omega) (by omega), ext_nil]
theorem ext2 {s : ByteArray} {n : Nat} (h : n + 2 ≤ s.size) : s.extract n (n + 2) = ⟨#[u8I (bA s n), u8I (bA s (n + 1))]⟩ := by
  apply bs_inj; rw [ext_succ (by omega) (by omega), ext_succ (by omega) (by omega), ext_nil]; rfl
theorem ext3 {s : ByteArray} {n : Nat} (h : n + 3 ≤ s.size) : s.extract n (n + 3) = ⟨#[u8I (bA s n), u8I (bA s (n + 1)), u8I (bA s (n + 2))]⟩ := by
  apply bs_inj; rw [ext_succ (by omega) (by omega), ext_succ (by omega) (by omega), ext_succ (by omega) (by omega), ext_nil]; rfl
theorem ext4 {s : ByteArray} {n : Nat} (h : n + 4 ≤ s.size) : s.extract n (n + 4) = ⟨#[u8I (bA s n), u8I (bA s (n + 1)), u8I (bA s (n + 2)), u8I (bA s (n + 3))]⟩ := by
  apply bs_inj; rw [ext_succ (by omega) (by omega), ext_succ (by omega) (by omega), ext_succ (by omega) (by omega), ext_succ (by omega) (by omega), ext_nil]; rfl
theorem mk1 {a b : UInt8} : ((⟨#[a]⟩ : ByteArray) = ⟨#[b]⟩) ↔ a = b := by simp
theorem mk2 {a b c d : UInt8} : ((⟨#[a, b]⟩ : ByteArray) = ⟨#[c, d]⟩) ↔ a = c ∧ b = d := by simp
theorem mk3 {a b c d e f : UInt8} : ((⟨#[a, b, c]⟩ : ByteArray) = ⟨#[d, e, f]⟩) ↔ a = d ∧ b = e ∧ c = f := by simp
theorem mk4 {a b c d e f g h : UInt8} : ((⟨#[a, b, c, d]⟩ : ByteArray) = ⟨#[e, f, g, h]⟩) ↔ a = e ∧ b = f ∧ c = g ∧ d = h := by simp
theorem test1 {b0 : Int} (h0 : 0 ≤ b0) (k0 : b0 ≤ 255) : (((encT (b0 - 0)).size : Int) = 1 ∧ encT (b0 - 0) = ⟨#[u8I b0]⟩) ↔ b0 < 128 := by
  rw [Int.sub_zero]
  constructor
  · rintro ⟨h1, h2⟩
    rcases enc_cases b0 with h | ⟨_, h, _⟩ | ⟨_, _, h⟩ | ⟨_, _, _, h⟩ | ⟨_, _, h⟩
    · rw [h] at h1; cases h1
    · exact h
    all_goals rw [h] at h1; cases h1
  · intro h
    rw [enc_of1 h0 h]; exact ⟨rfl, rfl⟩
theorem test2 {b0 b1 : Int} (h0 : 0 ≤ b0) (k0 : b0 ≤ 255) (h1 : 0 ≤ b1) (k1 : b1 ≤ 255) : (((encT ((b0 - 192) * 64 + b1 - 128)).size : Int) = 2 ∧ encT ((b0 - 192) * 64 + b1 - 128) = ⟨#[u8I b0, u8I b1]⟩) ↔ (194 ≤ b0 ∧ b0 ≤ 223 ∧ 128 ≤ b1 ∧ b1 ≤ 191) := by
  generalize hr : (b0 - 192) * 64 + b1 - 128 = r
  constructor
  · rintro ⟨g1, g2⟩
    rcases enc_cases r with h | ⟨_, _, h⟩ | ⟨_, _, h⟩ | ⟨_, _, _, h⟩ | ⟨_, _, h⟩
    · rw [h] at g1; cases g1
    · rw [h] at g1; cases g1
    · rw [h, mk2] at g2
      have e1 := u8I_inj g2.1 (by omega) (by omega) (by omega) (by omega)
      have e2 := u8I_inj g2.2 (by omega) (by omega) (by omega) (by omega)
      omega
    all_goals rw [h] at g1; cases g1
  · intro h
    rw [enc_of2 (by omega) (by omega)]
    refine ⟨rfl, ?_⟩
    rw [show 192 + r / 64 = b0 by omega, show 128 + r % 64 = b1 by omega]
theorem test3 {b0 b1 b2 : Int} (h0 : 0 ≤ b0) (k0 : b0 ≤ 255) (h1 : 0 ≤ b1) (k1 : b1 ≤ 255) (h2 : 0 ≤ b2) (k2 : b2 ≤ 255) :
    (((encT (((b0 - 224) * 64 + b1 - 128) * 64 + b2 - 128)).size : Int) = 3 ∧ encT (((b0 - 224) * 64 + b1 - 128) * 64 + b2 - 128) = ⟨#[u8I b0, u8I b1, u8I b2]⟩) ↔
    (224 ≤ b0 ∧ b0 ≤ 239 ∧ (if b0 = 224 then 160 else 128) ≤ b1 ∧ b1 ≤ (if b0 = 237 then 159 else 191) ∧ 128 ≤ b2 ∧ b2 ≤ 191) := by
  generalize hr : ((b0 - 224) * 64 + b1 - 128) * 64 + b2 - 128 = r
  constructor
  · rintro ⟨g1, g2⟩
    rcases enc_cases r with h | ⟨_, _, h⟩ | ⟨_, _, h⟩ | ⟨_, _, _, h⟩ | ⟨_, _, h⟩
    · rw [h] at g1; cases g1
    · rw [h] at g1; cases g1
    · rw [h] at g1; cases g1
    · rw [h, mk3] at g2
      have e1 := u8I_inj g2.1 (by omega) (by omega) (by omega) (by omega)
      have e2 := u8I_inj g2.2.1 (by omega) (by omega) (by omega) (by omega)
      have e3 := u8I_inj g2.2.2 (by omega) (by omega) (by omega) (by omega)
      by_cases c1 : b0 = 224
      · rw [if_pos c1, if_neg (by omega)]; omega
      · rw [if_neg c1]
        by_cases c2 : b0 = 237
        · rw [if_pos c2]; omega
        · rw [if_neg c2]; omega
    · rw [h] at g1; cases g1
  · intro h
    have hh : 224 ≤ b0 ∧ b0 ≤ 239 ∧ 128 ≤ b1 ∧ b1 ≤ 191 ∧ 128 ≤ b2 ∧ b2 ≤ 191 ∧ (b0 = 224 → 160 ≤ b1) ∧ (b0 = 237 → b1 ≤ 159) := by grind
    rw [enc_of3 (by omega) (by omega) (by omega)]
    refine ⟨rfl, ?_⟩
    rw [show 224 + r / 4096 = b0 by omega, show 128 + r / 64 % 64 = b1 by omega, show 128 + r % 64 = b2 by omega]
theorem test4 {b0 b1 b2 b3 : Int} (h0 : 0 ≤ b0) (k0 : b0 ≤ 255) (h1 : 0 ≤ b1) (k1 : b1 ≤ 255) (h2 : 0 ≤ b2) (k2 : b2 ≤ 255) (h3 : 0 ≤ b3) (k3 : b3 ≤ 255) :
    (((encT ((((b0 - 240) * 64 + b1 - 128) * 64 + b2 - 128) * 64 + b3 - 128)).size : Int) = 4 ∧ encT ((((b0 - 240) * 64 + b1 - 128) * 64 + b2 - 128) * 64 + b3 - 128) = ⟨#[u8I b0, u8I b1, u8I b2, u8I b3]⟩) ↔
    (240 ≤ b0 ∧ b0 ≤ 244 ∧ (if b0 = 240 then 144 else 128) ≤ b1 ∧ b1 ≤ (if b0 = 244 then 143 else 191) ∧ 128 ≤ b2 ∧ b2 ≤ 191 ∧ 128 ≤ b3 ∧ b3 ≤ 191) := by
  generalize hr : (((b0 - 240) * 64 + b1 - 128) * 64 + b2 - 128) * 64 + b3 - 128 = r
  constructor
  · rintro ⟨g1, g2⟩
    rcases enc_cases r with h | ⟨_, _, h⟩ | ⟨_, _, h⟩ | ⟨_, _, _, h⟩ | ⟨_, _, h⟩
    · rw [h] at g1; cases g1
    · rw [h] at g1; cases g1
    · rw [h] at g1; cases g1
    · rw [h] at g1; cases g1
    · rw [h, mk4] at g2
      have e1 := u8I_inj g2.1 (by omega) (by omega) (by omega) (by omega)
      have e2 := u8I_inj g2.2.1 (by omega) (by omega) (by omega) (by omega)
      have e3 := u8I_inj g2.2.2.1 (by omega) (by omega) (by omega) (by omega)
      have e4 := u8I_inj g2.2.2.2 (by omega) (by omega) (by omega) (by omega)
      by_cases c1 : b0 = 240
      · rw [if_pos c1, if_neg (by omega)]; omega
      · rw [if_neg c1]
        by_cases c2 : b0 = 244
        · rw [if_pos c2]; omega
        · rw [if_neg c2]; omega
  · intro h
    have hh : 240 ≤ b0 ∧ b0 ≤ 244 ∧ 128 ≤ b1 ∧ b1 ≤ 191 ∧ 128 ≤ b2 ∧ b2 ≤ 191 ∧ 128 ≤ b3 ∧ b3 ≤ 191 ∧ (b0 = 240 → 144 ≤ b1) ∧ (b0 = 244 → b1 ≤ 143) := by grind
    rw [enc_of4 (by omega) (by omega)]
    refine ⟨rfl, ?_⟩
    rw [show 240 + r / 262144 = b0 by omega, show 128 + r / 4096 % 64 = b1 by omega, show 128 + r / 64 % 64 = b2 by omega, show 128 + r % 64 = b3 by omega]
theorem pair_eq4 {x : Int × Int} {a b : Int} {H : LH} (h : x = (a, b)) : some (V.tup [.int .i64 a, .int .i64 b], H) = some (V.tup [.int .i64 x.1, .int .i64 x.2], H) := by rw [h]
theorem run_spRuneAt (s : ByteArray) (p : Int) (fl : Nat) (H : LH) (hz : s.size ≤ 9223372036854775807) : run 118 [.str s, .int .i64 p] fl H = some (.tup [.int .i64 (runeA s p).1, .int .i64 (runeA s p).2], H) := by
  have e1 := fun fl H => run_l01P s p fl H hz
  have e2 := fun r fl H => run_spRuneBytes r fl H
  have l1 := spotI_lo s p
  have l2 := spotI_hi s p
  rw [runeA]
  generalize spotI s p = q at *
  have h0 := bA_hi s q; have h1 := bA_hi s (q + 1); have h2 := bA_hi s (q + 2); have h3 := bA_hi s (q + 3)
  have k0 := bA_lo s q; have k1 := bA_lo s (q + 1); have k2 := bA_lo s (q + 2); have k3 := bA_lo s (q + 3)
  unfold run at *
  rw [Run_z Tryd.func118 rfl (by rfl : ok 118 = true) (by rfl : cfg.keep 118 = [0, 1, 4, 5, 6, 7, 8, 9, 22, 36, 64]) (by rfl : cfg.mode 118 = .pure) (by rfl : cfg.ord 118 = [])]
  simp (config := {contextual := true, maxSteps := 10000000, implicitDefEqProofs := false}) (disch := first | (and_intros <;> omega -splitDisjunctions) | (simp only [List.length_set, List.length_append, List.length_cons, List.length_nil]; and_intros <;> omega -splitDisjunctions) | fail) only [e1, e2, zEv_loop, Tryd.f118, go_sem, ↓reduceIte, Nat.reduceEqDiff, Nat.reduceAdd, Nat.reduceMul, Nat.reduceLT, Nat.reduceLeDiff, reduceCtorEq, Int.reduceNe, Int.reduceEq, Int.reduceLT, Int.reduceLE, Int.reduceAdd, Int.reduceSub, Int.reduceMul, Int.reduceNeg, Int.reduceToNat, UInt8.reduceToNat, natLit, ty3, ty5, ty9, ty67]
  obtain ⟨n, rfl⟩ : ∃ n : Nat, q = n := ⟨q.toNat, by omega⟩
  simp only [Int.toNat_natCast, show ((n : Int) + 1).toNat = n + 1 by omega, show ((n : Int) + 2).toNat = n + 2 by omega, show ((n : Int) + 3).toNat = n + 3 by omega, show ((n : Int) + 4).toNat = n + 4 by omega]
  have o0 : (s.size : Int) - n < 1 → bA s n = -1 := fun h => bA_out (by omega)
  have o1 : (s.size : Int) - n < 2 → bA s (n + 1) = -1 := fun h => bA_out (by omega)
  have o2 : (s.size : Int) - n < 3 → bA s (n + 2) = -1 := fun h => bA_out (by omega)
  have o3 : (s.size : Int) - n < 4 → bA s (n + 3) = -1 := fun h => bA_out (by omega)
  refine ite_E (fun g1 => ?_) (fun g1 => pair_eq4 (by simp only [decM]; grind))
  have n0 := bA_in (s := s) (p := n) (by omega) (by omega)
  rw [ext1 (by omega)]
  refine ite_E (fun t1 => pair_eq4 (by have t1 := (test1 n0 h0).1 t1; simp only [decM]; grind)) (fun t1 => ?_)
  have t1 := mt (test1 n0 h0).2 t1
  refine ite_E (fun g2 => ?_) (fun g2 => pair_eq4 (by simp only [decM]; grind))
  have n1 := bA_in (s := s) (p := n + 1) (by omega) (by omega)
  rw [ext2 (by omega)]
  refine ite_E (fun t2 => pair_eq4 (by have t2 := (test2 n0 h0 n1 h1).1 t2; simp only [decM]; grind)) (fun t2 => ?_)
  have t2 := mt (test2 n0 h0 n1 h1).2 t2
  refine ite_E (fun g3 => ?_) (fun g3 => pair_eq4 (by simp only [decM]; grind))
  have n2 := bA_in (s := s) (p := n + 2) (by omega) (by omega)
  rw [ext3 (by omega)]
  refine ite_E (fun t3 => pair_eq4 (by have t3 := (test3 n0 h0 n1 h1 n2 h2).1 t3; simp only [decM]; grind)) (fun t3 => ?_)
  have t3 := mt (test3 n0 h0 n1 h1 n2 h2).2 t3
  refine ite_E (fun g4 => ?_) (fun g4 => pair_eq4 (by simp only [decM]; grind))
  have n3 := bA_in (s := s) (p := n + 3) (by omega) (by omega)
  rw [ext4 (by omega)]
  refine ite_E (fun t4 => pair_eq4 (by have t4 := (test4 n0 h0 n1 h1 n2 h2 n3 h3).1 t4; simp only [decM]; grind)) (fun t4 => ?_)
  have t4 := mt (test4 n0 h0 n1 h1 n2 h2 n3 h3).2 t4
  exact pair_eq4 (by simp only [decM]; grind)
end Go.Proofs.YtcbjmggbbnpbpaaDoor.Lg
