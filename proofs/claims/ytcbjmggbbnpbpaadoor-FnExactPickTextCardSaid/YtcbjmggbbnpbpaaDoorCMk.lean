/- The digits of a number, and the texts by which the laws mark, over the logical machine. No condition. -/
import Derived.Test.YtcbjmggbbnpbpaaDoorLc
import Derived.Test.YtcbjmggbbnpbpaaDoorLgE
namespace Go.Proofs.YtcbjmggbbnpbpaaDoor.Lg
set_option linter.unusedSimpArgs false
set_option linter.unusedVariables false
set_option maxRecDepth 100000
set_option maxHeartbeats 40000000
open Go.Proofs.YtcbjmggbbnpbpaaDoor
set_option linter.unusedSectionVars false
variable [ML]

/-- a digit -/
def dig (n : Nat) : ByteArray := ⟨#[UInt8.ofNat (48 + n)]⟩
/-- a number's digits -/
def decT (n : Nat) : ByteArray := if n < 10 then dig n else decT (n / 10) ++ dig (n % 10)
theorem decT_size (n : Nat) : (decT n).size ≤ n + 1 := by
  induction n using Nat.strongRecOn with
  | _ n ih =>
    unfold decT
    split
    · simp [dig, size_lit]
    · rw [ByteArray.size_append]
      have := ih (n / 10) (by omega)
      simp only [dig, size_lit, List.length_cons, List.length_nil]
      omega
def numT (n : Int) : ByteArray := if n < 0 ∨ 4294967295 < n then ⟨#[]⟩ else decT n.toNat

theorem dig_eq (n : Nat) : (⟨#[UInt8.ofNat (48 + (n : Int)).toNat]⟩ : ByteArray) = dig n := by
  unfold dig
  rw [show (48 + (n : Int)).toNat = 48 + n by omega]
theorem app_assoc (a b c : ByteArray) : a ++ (b ++ c) = a ++ b ++ c := (ByteArray.append_assoc).symm
theorem app_nil (a : ByteArray) : a ++ ⟨#[]⟩ = a := ByteArray.append_empty
theorem dec_step (k : Nat) (out : ByteArray) (hk : k ≠ 0) : (if k / 10 = 0 then dig (k % 10) ++ out else decT (k / 10) ++ (dig (k % 10) ++ out)) = decT k ++ out := by
  by_cases h : k < 10
  · rw [if_pos (by omega), show k % 10 = k by omega]
    conv => rhs; rw [decT, if_pos h]
  · rw [if_neg (by omega)]
    conv => rhs; rw [decT, if_neg h]
    rw [app_assoc]

/-- the text of a mark -/
def mText (k : Int) : ByteArray := if k ≤ 0 then ⟨#[109, 48]⟩ else ⟨#[109]⟩ ++ decT k.toNat
theorem opn_string {H : LH} {x : V} (h : ShpA (ty Tryd.prog) 12 9 H x) : ∃ s : ByteArray, x = .str s ∧ s.size ≤ 9223372036854775807 := by
  unfold ShpA at h
  rw [ty9] at h
  simp only [Shp, ty9] at h
  obtain ⟨s, h, z⟩ := h
  injection h with h _
  exact ⟨s, h, z⟩
theorem opn_int {H : LH} {x : V} (h : ShpA (ty Tryd.prog) 12 3 H x) : ∃ n : Int, x = .int .i64 n ∧ (Lit.int .i64 n).wf = true := by
  unfold ShpA at h
  rw [ty3] at h
  simp only [Shp, ty3] at h
  obtain ⟨n, h, z⟩ := h
  injection h with h _
  exact ⟨n, h, z⟩
theorem opn_bool {H : LH} {x : V} (h : ShpA (ty Tryd.prog) 12 4 H x) : ∃ b : Bool, x = .bool b := by
  unfold ShpA at h
  rw [ty4] at h
  simp only [Shp, ty4] at h
  obtain ⟨b, h⟩ := h
  injection h with h _
  exact ⟨b, h⟩
end Go.Proofs.YtcbjmggbbnpbpaaDoor.Lg
