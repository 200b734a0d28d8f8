/- FnExactCallText: whatever call it is given, the law returns true, and the argument reads as before. No condition. -/
import Derived.Test.YtbjpecknlohicaaCCallText
import Derived.Test.YtbjpecknlohicaaLg30
import Derived.Test.YtbjpecknlohicaaRows
namespace Go.Proofs.Ytbjpecknlohicaa.Lg
set_option linter.unusedSimpArgs false
set_option linter.unusedVariables false
open Go.Proofs.Ytbjpecknlohicaa
open Go.RowKit (Below)
set_option maxRecDepth 100000

theorem shp_call {n : Nat} {H : LH} {cs : List V} (h : Shp (ty Try.prog) (n + 2) 30 H cs) : ∃ k m, V.agg cs = cal k m := by
  simp only [Shp, ShpF, ty3, ty30] at h
  obtain ⟨_, _, rfl, ⟨k, rfl, _⟩, _, _, rfl, ⟨m, rfl, _⟩, rfl⟩ := h
  exact ⟨k, m, rfl⟩

theorem law_FnExactCallText : LawRun Try.prog cfg ok 12 4 [30] := by
  intro xs H hb h
  match xs, h with
  | [x], h =>
    obtain ⟨h, _⟩ := h
    unfold ShpA at h
    rw [ty30] at h
    obtain ⟨cs, rfl, h⟩ := h
    obtain ⟨k, m, e⟩ := shp_call (n := 10) h
    rw [e]
    exact ⟨H, run_FnExactCallText k m H.length H⟩
  | [], h => exact h.elim
  | _ :: _ :: _, h => exact h.2.elim

theorem lifted_FnExactCallText (os : Os) (started : os.Started) (D : Type) (enc : TypeId × Value → D) :
    ReturnsInHanded {} Try.checked os 4 .any (Rows.fnExactCallTextSpec.pre6 enc Try.prog Try.f4 Rows.fnExactCallTextRow.domain false) (Rows.fnExactCallTextSpec.post enc Try.prog Try.f4 false true false false) := by
  refine returnsInHanded_of_change (C := Try.checked) own started (by kernel_rfl) Try.func4
    (ChangeSpec.witness6 (enc := enc) (C := Try.checked) false ⟨#[], #[.agg #[.int .i64 0, .int .i64 0]], []⟩ 8 (by kernel_rfl) (by kernel_rfl) (by kernel_rfl) (by kernel_rfl)) ?_
  intro W base args ds gs before hval hW _ _
  have hds : ∃ d, ds = [d] := by
    obtain ⟨p, q, hA, _⟩ := hW
    exact shp1 hA
  obtain ⟨d, rfl⟩ := hds
  have hgs : gs = [] := by
    obtain ⟨p, q, _, hV, _⟩ := hW
    exact shpV hV
  subst hgs
  have hA : ∃ p, DataW.TrodAll enc Try.prog W 0 (fun _ => true) true Try.f4.params.toList args.toList [d] p := by
    obtain ⟨p, q, hA, _⟩ := hW
    exact ⟨p, hA⟩
  obtain ⟨p, hA⟩ := hA
  refine (law_calls (P := Try.prog) (fn := Try.f4) calls_ok (fun _ => rfl) Try.func4 rfl (by decide) law_FnExactCallText (by kernel_rfl) hval hA).mono fun e W' h => ?_
  obtain ⟨rfl, hb⟩ := h
  refine ⟨_, rfl, post_of_below laidOut hb (by kernel_rfl) rfl hW ?_ rfl rfl ?_⟩
  · intro b sp hd
    exact Go.ChangeShapes.trodAll_mk1 (Go.RowKit.shut_bool Try.underlying4 true)
  · exact Go.RowKit.ok_one (t := 4) rfl rfl (Go.RowKit.okWide_bool_mk Try.underlying4 true)
end Go.Proofs.Ytbjpecknlohicaa.Lg
namespace Go.Proofs.Ytbjpecknlohicaa
open Go.Proofs.Ytbjpecknlohicaa.Lg
theorem FnExactCallText_holds : Rows.FnExactCallTextSaid :=
  OpenClaim.holds_of_wide 4 Try.f4 rfl rfl rfl rfl rfl rfl rfl ⟨rfl, rfl, rfl, rfl, rfl⟩ rfl rfl rfl rfl rfl (by kernel_rfl) Try.func4 (by kernel_rfl)
    (of_decide_eq_true (by kernel_rfl)) (by unfold Func.isWrapper; first | (rw [if_pos (by decide +kernel)]; kernel_rfl) | (rw [if_neg (by decide +kernel)]; exact ⟨rfl, rfl⟩))
    (fun os started D enc _ => lifted_FnExactCallText os started D enc)
end Go.Proofs.Ytbjpecknlohicaa
