/- The package-level tables that the row lays, as the logical machine has them. No condition. -/
import Derived.Test.YtcbjmggbbnpbpaaDoorLc
import Derived.Test.YtcbjmggbbnpbpaaDoorRows
namespace Go.Proofs.YtcbjmggbbnpbpaaDoor.Lg
set_option linter.unusedSimpArgs false
set_option linter.unusedVariables false
set_option maxRecDepth 100000
open Go.Proofs.YtcbjmggbbnpbpaaDoor
set_option linter.unusedSectionVars false
variable [ML]

def laidL : List (String × DataW Unit) := [("unicode/utf8.acceptRanges", Rows.laid_unicode_utf8_acceptRanges), ("unicode/utf8.first", Rows.laid_unicode_utf8_first)]
theorem laid_first : (Rows.laid_unicode_utf8_first : DataW Unit) = .agg (firstL.map fun z => .lit (.int .u8 z)) := by kernel_rfl
theorem laid_acc : (Rows.laid_unicode_utf8_acceptRanges : DataW Unit) = .agg (accL.map fun z => .agg [.lit (.int .u8 z.1), .lit (.int .u8 z.2)]) := by kernel_rfl
theorem glob_cell {w : World} {g : Nat} {m : Int} (h : w.cell? ⟨g, 0, none⟩ = some (.int .i64 m)) : GlobAt w g [.int .i64 m] := by
  unfold World.cell? at h
  dsimp only at h
  split at h
  · rename_i c T fz hq
    refine ⟨c, T, fz, hq, ?_, fun i v hi => ?_⟩
    · obtain ⟨hlt, _⟩ := Array.getElem?_eq_some_iff.1 h
      exact hlt
    · cases i with
      | zero =>
        injection hi with hi
        subst hi
        exact ⟨rfl, _, h, fun φ w => by simp only [VR]⟩
      | succ i => cases hi
  all_goals first | contradiction | cases h
theorem globs {W : World} (h : laidMetH Tryd.prog laidL W) (hm : W.cell? ⟨2, 0, none⟩ = some (.int .i64 ML.m)) : ∀ g cs, cfg.glob g = some cs → GlobAt W g cs := by
  rw [MakeChecks.laidMetH_plain _ _ _ (by kernel_rfl)] at h
  obtain ⟨ps, ⟨g0, t0, cs0, f0, p0, q0, hg0, ht0, hv0, hd0, ⟨g1, t1, cs1, f1, p1, q1, hg1, ht1, hv1, hd1, _, _⟩, _⟩, _, _⟩ := h
  obtain rfl := Option.some.inj ((show Tryd.prog.globalNamed "unicode/utf8.acceptRanges" = some 1 by kernel_rfl).symm.trans hg0)
  obtain rfl := Option.some.inj ((show Tryd.prog.globalNamed "unicode/utf8.first" = some 0 by kernel_rfl).symm.trans hg1)
  obtain rfl := Option.some.inj ((show (Tryd.prog.globals[1]?).map (·.type) = some 159 by kernel_rfl).symm.trans ht0)
  obtain rfl := Option.some.inj ((show (Tryd.prog.globals[0]?).map (·.type) = some 156 by kernel_rfl).symm.trans ht1)
  rw [laid_first] at hd1
  rw [laid_acc] at hd0
  have a1 := arr_u8 Tryd.underlying156 Tryd.underlying5 (by kernel_rfl) hd1
  have a0 := arr_u8u8 (b := 5) Tryd.underlying159 Tryd.underlying158 rfl rfl rfl rfl rfl Tryd.underlying5 (by kernel_rfl) (by kernel_rfl) hd0
  have s1 : 255 < cs1.size := by
    have := a1 255 241 (by kernel_rfl)
    have := (List.getElem?_eq_some_iff.1 this).1
    simpa using this
  have s0 : 31 < cs0.size := by
    have := a0 31 0 (by kernel_rfl)
    have := (List.getElem?_eq_some_iff.1 this).1
    simpa using this
  intro g cs e
  have e : (if g = 0 then some (u8s firstL) else if g = 1 then some (u8s (flat2 accL)) else if g = 2 then some [.int .i64 ML.m] else none) = some cs := e
  by_cases c1 : g = 0
  · rw [if_pos c1] at e
    injection e with e
    subst e; subst c1
    refine glob_of hg1 hv1 (fun i z hz => ?_) ?_
    · have := a1 i z hz
      simpa using this
    · rw [show firstL.length = 256 by kernel_rfl]; omega
  · rw [if_neg c1] at e
    by_cases c2 : g = 1
    · rw [if_pos c2] at e
      injection e with e
      subst e; subst c2
      refine glob_of hg0 hv0 (fun i z hz => ?_) ?_
      · have := a0 i z hz
        simpa using this
      · rw [show (flat2 accL).length = 32 by kernel_rfl]; omega
    · rw [if_neg c2] at e
      by_cases c3 : g = 2
      · rw [if_pos c3] at e
        injection e with e
        subst e; subst c3
        exact glob_cell hm
      · rw [if_neg c3] at e
        cases e
end Go.Proofs.YtcbjmggbbnpbpaaDoor.Lg
