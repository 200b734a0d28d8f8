/- The digits of a number, and the texts by which the laws mark, over the logical machine. No condition. -/
import Derived.Test.YtbjpecknlohicaaLc
import Derived.Test.YtbjpecknlohicaaLgE
namespace Go.Proofs.Ytbjpecknlohicaa.Lg
set_option linter.unusedSimpArgs false
set_option linter.unusedVariables false
set_option maxRecDepth 100000
set_option maxHeartbeats 40000000
open Go.Proofs.Ytbjpecknlohicaa

/-- a digit -/
def dig (n : Nat) : ByteArray := ⟨#[UInt8.ofNat (48 + n)]⟩
/-- a number's digits -/
def decT (n : Nat) : ByteArray := if n < 10 then dig n else decT (n / 10) ++ dig (n % 10)
theorem decT_size (n : Nat) : (decT n).size ≤ n + 1 := by
  induction n using Nat.strongRecOn with
  | _ n ih =>
    unfold decT
    split
    · simp [dig, size_lit]
    · rw [ByteArray.size_append]
      have := ih (n / 10) (by omega)
      simp only [dig, size_lit, List.length_cons, List.length_nil]
      omega
def numT (n : Int) : ByteArray := if n < 0 ∨ 4294967295 < n then ⟨#[]⟩ else decT n.toNat

theorem dig_eq (n : Nat) : (⟨#[UInt8.ofNat (48 + (n : Int)).toNat]⟩ : ByteArray) = dig n := by
  unfold dig
  rw [show (48 + (n : Int)).toNat = 48 + n by omega]
theorem app_assoc (a b c : ByteArray) : a ++ (b ++ c) = a ++ b ++ c := (ByteArray.append_assoc).symm
theorem app_nil (a : ByteArray) : a ++ ⟨#[]⟩ = a := ByteArray.append_empty
theorem dec_step (k : Nat) (out : ByteArray) (hk : k ≠ 0) : (if k / 10 = 0 then dig (k % 10) ++ out else decT (k / 10) ++ (dig (k % 10) ++ out)) = decT k ++ out := by
  by_cases h : k < 10
  · rw [if_pos (by omega), show k % 10 = k by omega]
    conv => rhs; rw [decT, if_pos h]
  · rw [if_neg (by omega)]
    conv => rhs; rw [decT, if_neg h]
    rw [app_assoc]

/-- the text of a mark -/
def mText (k : Int) : ByteArray := if k ≤ 0 then ⟨#[109, 48]⟩ else ⟨#[109]⟩ ++ decT k.toNat
theorem run_markText (k : Int) (h0 : 0 ≤ k) (h1 : k ≤ 4611686018427387904) (fl : Nat) (H : LH) : run 65 [.int .i64 k] fl H = some (.str (mText k), H) := by
  unfold run
  rw [Run_z Try.func65 rfl (by rfl : ok 65 = true) (by rfl : cfg.keep 65 = [0, 2, 3, 5, 7]) (by rfl : cfg.mode 65 = .pure)]
  simp (config := {contextual := true, maxSteps := 10000000, implicitDefEqProofs := false}) (disch := first | (and_intros <;> omega -splitDisjunctions) | (simp only [List.length_set, List.length_append, List.length_cons, List.length_nil]; and_intros <;> omega -splitDisjunctions) | fail) only [Try.f65, go_sem, ↓reduceIte, Nat.reduceEqDiff, Nat.reduceAdd, Nat.reduceMul, Nat.reduceLT, Nat.reduceLeDiff, reduceCtorEq, Int.reduceNe, Int.reduceEq, Int.reduceLT, Int.reduceLE, Int.reduceAdd, Int.reduceSub, Int.reduceMul, Int.reduceNeg, Int.reduceToNat, UInt8.reduceToNat, natLit, ty3, ty5, ty9, ty128]
  unfold mText
  split
  · rfl
  rename_i hk
  generalize hL : K.code (Code.loop _) = L
  generalize hR : (K.blk _ :: _ : List K) = R
  have key : ∀ (m k : Nat) (out : ByteArray) (x2 x5 x7 : Option V) (H1 : LH), k ≤ m → k ≤ 4611686018427387904 → out.size + m ≤ 4611686018427388000 →
      zEv (leaveX (mkR Try.prog cfg ok [0, 2, 3, 5, 7] H.length) .pure H [ResultVar.tmp 2]) (mkR Try.prog cfg ok [0, 2, 3, 5, 7] H.length) (L :: R) .nrm [some (.int .i64 (k : Int)), x2, some (.str out), x5, x7] H1 =
        some (.str (⟨#[109]⟩ ++ (if k = 0 then out else decT k ++ out)), H) := by
    intro m
    induction m with
    | zero =>
      intro k out x2 x5 x7 H1 hk h4 hs
      have k0 : k = 0 := by omega
      subst k0
      rw [← hL, ← hR, zEv_loop]
      simp (config := {contextual := true, maxSteps := 10000000, implicitDefEqProofs := false}) (disch := first | (and_intros <;> omega -splitDisjunctions) | (simp only [List.length_set, List.length_append, List.length_cons, List.length_nil]; and_intros <;> omega -splitDisjunctions) | fail) only [Try.f65, go_sem, ↓reduceIte, Nat.reduceEqDiff, Nat.reduceAdd, Nat.reduceMul, Nat.reduceLT, Nat.reduceLeDiff, reduceCtorEq, Int.reduceNe, Int.reduceEq, Int.reduceLT, Int.reduceLE, Int.reduceAdd, Int.reduceSub, Int.reduceMul, Int.reduceNeg, Int.reduceToNat, UInt8.reduceToNat, natLit, ty3, ty5, ty9, ty128]

    | succ m ih =>
      intro k out x2 x5 x7 H1 hk h4 hs
      have hq : ((k : Int)).tdiv 10 = ((k / 10 : Nat) : Int) := (Int.ofNat_tdiv k 10).symm
      have hr : ((k : Int)).tmod 10 = ((k % 10 : Nat) : Int) := (Int.ofNat_tmod k 10).symm
      have hz : ∀ x y : ByteArray, (x ++ y).size = x.size + y.size := fun x y => ByteArray.size_append
      have hd : ∀ n, (dig n).size = 1 := fun n => rfl
      rw [← hL, ← hR, zEv_loop]
      simp (config := {contextual := true, maxSteps := 10000000, implicitDefEqProofs := false}) (disch := first | (and_intros <;> omega -splitDisjunctions) | (simp only [List.length_set, List.length_append, List.length_cons, List.length_nil]; and_intros <;> omega -splitDisjunctions) | fail) only [hq, hr, dig_eq, hd, Try.f65, go_sem, ↓reduceIte, Nat.reduceEqDiff, Nat.reduceAdd, Nat.reduceMul, Nat.reduceLT, Nat.reduceLeDiff, reduceCtorEq, Int.reduceNe, Int.reduceEq, Int.reduceLT, Int.reduceLE, Int.reduceAdd, Int.reduceSub, Int.reduceMul, Int.reduceNeg, Int.reduceToNat, UInt8.reduceToNat, natLit, ty3, ty5, ty9, ty128]
      rw [hL, hR]
      split
      · rename_i hk0
        rw [ih (k / 10) (dig (k % 10) ++ out) _ _ _ _ (by omega) (by omega) (by rw [hz, hd]; omega), dec_step k out (by omega), if_neg (by omega)]
      · rw [if_pos (by omega)]
  have hk2 : ((k.toNat : Nat) : Int) = k := by omega
  have := fun x2 x5 x7 => key k.toNat k.toNat ⟨#[]⟩ x2 x5 x7 H (Nat.le_refl _) (by omega) (by simp [size_lit]; omega)
  rw [hk2, if_neg (by omega), app_nil] at this
  exact this _ _ _
theorem opn_string {H : LH} {x : V} (h : ShpA (ty Try.prog) 12 9 H x) : ∃ s : ByteArray, x = .str s ∧ s.size ≤ 9223372036854775807 := by
  unfold ShpA at h
  rw [ty9] at h
  simp only [Shp, ty9] at h
  obtain ⟨s, h, z⟩ := h
  injection h with h _
  exact ⟨s, h, z⟩
theorem opn_int {H : LH} {x : V} (h : ShpA (ty Try.prog) 12 3 H x) : ∃ n : Int, x = .int .i64 n ∧ (Lit.int .i64 n).wf = true := by
  unfold ShpA at h
  rw [ty3] at h
  simp only [Shp, ty3] at h
  obtain ⟨n, h, z⟩ := h
  injection h with h _
  exact ⟨n, h, z⟩
theorem opn_bool {H : LH} {x : V} (h : ShpA (ty Try.prog) 12 4 H x) : ∃ b : Bool, x = .bool b := by
  unfold ShpA at h
  rw [ty4] at h
  simp only [Shp, ty4] at h
  obtain ⟨b, h⟩ := h
  injection h with h _
  exact ⟨b, h⟩
end Go.Proofs.Ytbjpecknlohicaa.Lg
