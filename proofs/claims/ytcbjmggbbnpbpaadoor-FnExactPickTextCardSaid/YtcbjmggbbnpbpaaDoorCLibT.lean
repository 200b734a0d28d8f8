/- Library functions over the logical machine: Join, Repeat. No condition. -/
import Derived.Test.YtcbjmggbbnpbpaaDoorLc
import Derived.Test.YtcbjmggbbnpbpaaDoorLgE
namespace Go.Proofs.YtcbjmggbbnpbpaaDoor.Lg
set_option linter.unusedSimpArgs false
set_option linter.unusedVariables false
set_option maxRecDepth 100000
open Go.Proofs.YtcbjmggbbnpbpaaDoor
set_option linter.unusedSectionVars false
variable [ML]

def strC (s : ByteArray) : List V := [.str s]
theorem strC_len (s : ByteArray) : (strC s).length = 1 := rfl
theorem strsL_rows (ps : List ByteArray) : strsL (rows strC ps) = some ps := by
  induction ps with
  | nil => rfl
  | cons p ps ih =>
    show (strsL (rows strC ps)).map (p :: ·) = _
    rw [ih]; rfl
theorem strsOf_own {f0 : Nat} {H : LH} {v : V} {ps : List ByteArray} (h : Own f0 H strC 1 v ps) : strsOf H v = some ps := by
  rcases h with ⟨rfl, rfl | rfl⟩ | ⟨b, rfl, hc, _⟩
  · rfl
  · rfl
  · have hl : (rows strC ps).length = ps.length := by rw [rows_len strC_len, Nat.mul_one]
    simp only [strsOf, hc, Nat.le_refl, and_self, if_true]
    rw [if_pos (by omega), List.drop_zero, List.take_of_length_le (by omega)]
    exact strsL_rows ps
theorem run_join {f0 : Nat} {H : LH} {v : V} {ps : List ByteArray} (h : Own f0 H strC 1 v ps) (sep : ByteArray) (h1 : ps.length ≤ 140737488355328) (h2 : (Lib.join (ps.map (·.data.toList)) sep.data.toList).length ≤ 140737488355328) (fl : Nat) :
    run 87 [v, .str sep] fl H = some (.str ⟨(Lib.join (ps.map (·.data.toList)) sep.data.toList).toArray⟩, H) := by
  unfold run
  rw [Run_lib Tryd.func87 rfl (by rfl : ok 87 = false)]
  unfold libStep
  have hk : cfg.lib 87 = some .join := by rfl
  rw [hk]
  simp only [libA, strsOf_own h]
  rw [if_pos ⟨h1, h2⟩]
theorem run_repeat (s : ByteArray) (n : Nat) (h : s.size * n ≤ 140737488355328) (h2 : n ≤ 9223372036854775807) (fl : Nat) (H : LH) :
    run 102 [.str s, .int .i64 n] fl H = some (.str ⟨(Lib.repeatL s.data.toList n).toArray⟩, H) := by
  unfold run
  rw [Run_lib Tryd.func102 rfl (by rfl : ok 102 = false)]
  unfold libStep
  have hk : cfg.lib 102 = some .rep := by rfl
  rw [hk]
  simp only [libA, Int.toNat_natCast]
  rw [if_pos ⟨by omega, by omega, h⟩]
theorem run_repl (s old new : ByteArray) (h : s.size ≤ 1048576) (ho : 1 ≤ old.size) (hn : new.size ≤ 4096) (fl : Nat) (H : LH) :
    run 113 [.str s, .str old, .str new] fl H = some (.str ⟨(Lib.replaceAll s.data.toList old.data.toList new.data.toList).toArray⟩, H) := by
  have hc : Lib.countB s old ≤ s.size + 1 := Lib.count_le _ _
  have hm : Lib.countB s old * new.size ≤ (s.size + 1) * 4096 := Nat.mul_le_mul hc hn
  unfold run
  rw [Run_lib Tryd.func113 rfl (by rfl : ok 113 = false)]
  unfold libStep
  have hk : cfg.lib 113 = some .repl := by rfl
  rw [hk]
  simp only [libA]
  rw [if_pos ⟨by omega, by omega, by omega⟩]
end Go.Proofs.YtcbjmggbbnpbpaaDoor.Lg
