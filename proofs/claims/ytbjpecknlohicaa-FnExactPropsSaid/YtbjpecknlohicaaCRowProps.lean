/- FnExactProps: whatever event it is given, the law returns true, and the argument reads as before. No condition. -/
import Derived.Test.YtbjpecknlohicaaCProps
import Derived.Test.YtbjpecknlohicaaLg30
import Derived.Test.YtbjpecknlohicaaRows
namespace Go.Proofs.Ytbjpecknlohicaa.Lg
set_option linter.unusedSimpArgs false
set_option linter.unusedVariables false
open Go.Proofs.Ytbjpecknlohicaa
open Go.RowKit (Below)
set_option maxRecDepth 100000

theorem shp_event {n : Nat} {H : LH} {cs : List V} (h : Shp (ty Try.prog) (n + 2) 23 H cs) :
    ∃ k st flg tx an tg at' code, V.agg cs = evt k st flg tx an tg at' code ∧ tx.size ≤ 9223372036854775807 ∧ an.size ≤ 9223372036854775807 ∧ tg.size ≤ 9223372036854775807 := by
  simp only [Shp, ShpF, ty3, ty4, ty9, ty23] at h
  obtain ⟨_, _, rfl, ⟨k, rfl, _⟩, _, _, rfl, ⟨st, rfl, _⟩, _, _, rfl, ⟨flg, rfl⟩, _, _, rfl, ⟨tx, rfl, h1⟩, _, _, rfl, ⟨an, rfl, h2⟩, _, _, rfl, ⟨tg, rfl, h3⟩, _, _, rfl, ⟨at', rfl, _⟩, _, _, rfl, ⟨code, rfl, _⟩, rfl⟩ := h
  exact ⟨k, st, flg, tx, an, tg, at', code, rfl, h1, h2, h3⟩

theorem law_FnExactProps : LawRun Try.prog cfg ok 12 3 [23] := by
  intro xs H hb h
  match xs, h with
  | [x], h =>
    obtain ⟨h, _⟩ := h
    unfold ShpA at h
    rw [ty23] at h
    obtain ⟨cs, rfl, h⟩ := h
    obtain ⟨k, st, flg, tx, an, tg, at', code, e, h1, h2, h3⟩ := shp_event (n := 10) h
    rw [e]
    exact ⟨H, run_FnExactProps k st flg tx an tg at' code H.length H h1 h2 h3⟩
  | [], h => exact h.elim
  | _ :: _ :: _, h => exact h.2.elim

theorem own : ownKnob Try.prog.godebug = none := by kernel_rfl
theorem laidOut : laidOutB Try.prog = true := by kernel_rfl

theorem lifted_FnExactProps (os : Os) (started : os.Started) (D : Type) (enc : TypeId × Value → D) :
    ReturnsInHanded {} Try.checked os 3 .any (Rows.fnExactPropsSpec.pre6 enc Try.prog Try.f3 Rows.fnExactPropsRow.domain false) (Rows.fnExactPropsSpec.post enc Try.prog Try.f3 false true false false) := by
  refine returnsInHanded_of_change (C := Try.checked) own started (by kernel_rfl) Try.func3
    (ChangeSpec.witness6 (enc := enc) (C := Try.checked) false ⟨#[], #[.agg #[.int .i64 0, .int .i64 0, .bool false, .string .empty, .string .empty, .string .empty, .int .i64 0, .int .i64 0]], []⟩ 8 (by kernel_rfl) (by kernel_rfl) (by kernel_rfl) (by kernel_rfl)) ?_
  intro W base args ds gs before hval hW _ _
  have hds : ∃ d, ds = [d] := by
    obtain ⟨p, q, hA, _⟩ := hW
    exact shp1 hA
  obtain ⟨d, rfl⟩ := hds
  have hgs : gs = [] := by
    obtain ⟨p, q, _, hV, _⟩ := hW
    exact shpV hV
  subst hgs
  have hA : ∃ p, DataW.TrodAll enc Try.prog W 0 (fun _ => true) true Try.f3.params.toList args.toList [d] p := by
    obtain ⟨p, q, hA, _⟩ := hW
    exact ⟨p, hA⟩
  obtain ⟨p, hA⟩ := hA
  refine (law_calls (P := Try.prog) (fn := Try.f3) calls_ok (fun _ => rfl) Try.func3 rfl (by decide) law_FnExactProps (by kernel_rfl) hval hA).mono fun e W' h => ?_
  obtain ⟨rfl, hb⟩ := h
  refine ⟨_, rfl, post_of_below laidOut hb (by kernel_rfl) rfl hW ?_ rfl rfl ?_⟩
  · intro b sp hd
    exact Go.ChangeShapes.trodAll_mk1 (Go.RowKit.shut_bool Try.underlying4 true)
  · exact Go.RowKit.ok_one (t := 4) rfl rfl (Go.RowKit.okWide_bool_mk Try.underlying4 true)
end Go.Proofs.Ytbjpecknlohicaa.Lg
namespace Go.Proofs.Ytbjpecknlohicaa
open Go.Proofs.Ytbjpecknlohicaa.Lg
theorem FnExactProps_holds : Rows.FnExactPropsSaid :=
  OpenClaim.holds_of_wide 3 Try.f3 rfl rfl rfl rfl rfl rfl rfl ⟨rfl, rfl, rfl, rfl, rfl⟩ rfl rfl rfl rfl rfl (by kernel_rfl) Try.func3 (by kernel_rfl)
    (of_decide_eq_true (by kernel_rfl)) (by unfold Func.isWrapper; first | (rw [if_pos (by decide +kernel)]; kernel_rfl) | (rw [if_neg (by decide +kernel)]; exact ⟨rfl, rfl⟩))
    (fun os started D enc _ => lifted_FnExactProps os started D enc)
end Go.Proofs.Ytbjpecknlohicaa
