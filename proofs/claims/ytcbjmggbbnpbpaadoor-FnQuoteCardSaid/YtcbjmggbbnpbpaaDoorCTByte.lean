/- Bytes as an argument of a law. No condition. -/
import Derived.Test.YtcbjmggbbnpbpaaDoorCLines
namespace Go.Proofs.YtcbjmggbbnpbpaaDoor.Lg
set_option linter.unusedSimpArgs false
set_option linter.unusedVariables false
set_option maxRecDepth 100000
set_option maxHeartbeats 40000000
open Go.Proofs.YtcbjmggbbnpbpaaDoor

theorem opn_bytes {H : LH} {x : V} (h : ShpA (ty Tryd.prog) 12 46 H x) : ∃ xs : List UInt8, At H byC 1 x xs ∧ xs.length ≤ 9223372036854775807 := by
  unfold ShpA at h
  rw [ty46] at h
  obtain ⟨xs, h1, h2, _⟩ := shp_slice (P := fun _ => True) (enc := byC) ty46 (by simp only [sizeO, ty5, ty46]) byC_len (fun cs h => by
    simp only [Shp, ty5] at h
    obtain ⟨m, rfl, hm⟩ := h
    have hr : 0 ≤ m ∧ m < 256 := by
      have h1 : (decide (IntKind.u8.min ≤ m) && decide (m ≤ IntKind.u8.max)) = true := hm
      rw [Bool.and_eq_true, decide_eq_true_eq, decide_eq_true_eq] at h1
      have h2 : IntKind.u8.min = 0 := by decide
      have h3 : IntKind.u8.max = 255 := by decide
      omega
    refine ⟨UInt8.ofNat m.toNat, ?_, trivial⟩
    unfold byC
    rw [UInt8.toNat_ofNat', Nat.mod_eq_of_lt (by omega), Int.toNat_of_nonneg hr.1]) h
  exact ⟨xs, h1, h2⟩
end Go.Proofs.YtcbjmggbbnpbpaaDoor.Lg
