/- FnExactDecompose: whatever it is given, the law returns true, and the arguments read as before. No condition. -/
import Derived.Test.YtbjpecknlohicaaCDecLaw
import Derived.Test.YtbjpecknlohicaaRows
namespace Go.Proofs.Ytbjpecknlohicaa.Lg
set_option linter.unusedSimpArgs false
set_option linter.unusedVariables false
open Go.Proofs.Ytbjpecknlohicaa
open Go.RowKit (Below)
set_option maxRecDepth 100000

theorem law_FnExactDecompose : LawRun Try.prog cfg ok 12 12 [57] := by
  intro xs H hb h
  match xs, h with
  | [x0], h =>
    obtain ⟨h0, _⟩ := h
    obtain ⟨nv0, rv0, g0, rfl, a0, f0⟩ := opn_Graph h0
    exact ⟨H, run_FnExactDecompose nv0 rv0 g0 H.length H a0 f0⟩
  | [], h => exact h.elim
  | _ :: _ :: _, h => exact h.2.elim

theorem lifted_FnExactDecompose (os : Os) (started : os.Started) (D : Type) (enc : TypeId × Value → D) :
    ReturnsInHanded {} Try.checked os 12 .any (Rows.fnExactDecomposeSpec.pre6 enc Try.prog Try.f12 Rows.fnExactDecomposeRow.domain false) (Rows.fnExactDecomposeSpec.post enc Try.prog Try.f12 false true false false) := by
  refine returnsInHanded_of_change (C := Try.checked) own started (by kernel_rfl) Try.func12
    (ChangeSpec.witness6 (enc := enc) (C := Try.checked) false ⟨#[], #[.agg #[.slice none 0 0, .slice none 0 0]], []⟩ 8 (by kernel_rfl) (by kernel_rfl) (by kernel_rfl) (by kernel_rfl)) ?_
  intro W base args ds gs before hval hW _ _
  have hds : ∃ d, ds = [d] := by
    obtain ⟨p, q, hA, _⟩ := hW
    exact shp1 hA
  obtain ⟨d, rfl⟩ := hds
  have hgs : gs = [] := by
    obtain ⟨p, q, _, hV, _⟩ := hW
    exact shpV hV
  subst hgs
  have hA : ∃ p, DataW.TrodAll enc Try.prog W 0 (fun _ => true) true Try.f12.params.toList args.toList [d] p := by
    obtain ⟨p, q, hA, _⟩ := hW
    exact ⟨p, hA⟩
  obtain ⟨p, hA⟩ := hA
  refine (law_calls (P := Try.prog) (fn := Try.f12) calls_ok (fun _ => rfl) Try.func12 rfl (by decide) law_FnExactDecompose (by kernel_rfl) hval hA).mono fun e W' h => ?_
  obtain ⟨rfl, hb⟩ := h
  refine ⟨_, rfl, post_of_below laidOut hb (by kernel_rfl) rfl hW ?_ rfl rfl ?_⟩
  · intro b sp hd
    exact Go.ChangeShapes.trodAll_mk1 (Go.RowKit.shut_bool Try.underlying4 true)
  · exact Go.RowKit.ok_one (t := 4) rfl rfl (Go.RowKit.okWide_bool_mk Try.underlying4 true)
end Go.Proofs.Ytbjpecknlohicaa.Lg
namespace Go.Proofs.Ytbjpecknlohicaa
open Go.Proofs.Ytbjpecknlohicaa.Lg
theorem FnExactDecompose_holds : Rows.FnExactDecomposeSaid :=
  OpenClaim.holds_of_wide 12 Try.f12 rfl rfl rfl rfl rfl rfl rfl ⟨rfl, rfl, rfl, rfl, rfl⟩ rfl rfl rfl rfl rfl (by kernel_rfl) Try.func12 (by kernel_rfl)
    (of_decide_eq_true (by kernel_rfl)) (by unfold Func.isWrapper; first | (rw [if_pos (by decide +kernel)]; kernel_rfl) | (rw [if_neg (by decide +kernel)]; exact ⟨rfl, rfl⟩))
    (fun os started D enc _ => lifted_FnExactDecompose os started D enc)
end Go.Proofs.Ytbjpecknlohicaa
