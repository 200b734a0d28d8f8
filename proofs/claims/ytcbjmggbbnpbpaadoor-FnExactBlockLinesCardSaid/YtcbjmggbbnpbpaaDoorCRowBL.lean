/- FnExactBlockLines: whatever it is given, the law returns true, and the arguments read as before. No condition. -/
import Derived.Test.YtcbjmggbbnpbpaaDoorCBLLaw
import Derived.Test.YtcbjmggbbnpbpaaDoorCGlob
import Derived.Test.YtcbjmggbbnpbpaaDoorLd
import Derived.Test.YtcbjmggbbnpbpaaDoorTie
import Derived.Test.YtcbjmggbbnpbpaaDoorCards
import Derived.ProofKit
import Derived.OpenShut
import Derived.LaidMore
import Derived.Lay
import Derived.SevenTiedAt
import Derived.Stop.Joined
namespace Go.Proofs.YtcbjmggbbnpbpaaDoor.Lg
set_option linter.unusedSimpArgs false
set_option linter.unusedVariables false
open Go.Proofs.YtcbjmggbbnpbpaaDoor
open Go.RowKit (Below)
set_option maxRecDepth 100000

theorem shp3 {D : Type} {enc : TypeId × Value → D} {P : Program} {W : World} {t t' t'' : TypeId} {vs : List Value} {ds : List (DataW D)} {ps : List MemPlace} (h : DataW.TrodAll enc P W 0 (fun _ => true) true [t, t', t''] vs ds ps) : ∃ d d' d'', ds = [d, d', d''] := by
  match vs, ds, h with
  | _ :: vs, d :: ds, h =>
    obtain ⟨_, _, _, h, _⟩ := h
    obtain ⟨d', d'', rfl⟩ := shp2 h
    exact ⟨d, d', d'', rfl⟩
  | [], [], h => exact h.elim
  | [], _ :: _, h => exact h.elim
  | _ :: _, [], h => exact h.elim
theorem law_FnExactBlockLines : LawRun Tryd.prog cfg ok 12 6 [36, 3, 3] := by
  intro xs H hb h
  match xs, h with
  | [x0, x1, x2], h =>
    obtain ⟨h0, h1, h2, _⟩ := h
    obtain ⟨xs0, a0, l0, f0⟩ := opn_EventS h0
    obtain ⟨n1, rfl, r1⟩ := opn_int h1
    obtain ⟨n2, rfl, r2⟩ := opn_int h2
    exact ⟨H, run_FnExactBlockLines x0 xs0 n1 n2 H.length H a0 l0 f0⟩
  | [], h => exact h.elim
  | [_], h => exact h.2.elim
  | [_, _], h => exact h.2.2.elim
  | _ :: _ :: _ :: _ :: _, h => exact h.2.2.2.elim

theorem lifted_FnExactBlockLines (os : Os) (started : os.Started) (D : Type) (enc : TypeId × Value → D) :
    ReturnsInHanded {} Tryd.checked os 6 .any (fun w args => (Rows.fnExactBlockLinesSpec.pre enc Tryd.prog Tryd.f6 Rows.fnExactBlockLinesRow.domain false w args ∧ laidMetH Tryd.prog laidL w) ∧ sizedMet enc Tryd.prog Tryd.f6 (OpenSpec.ofChange Rows.fnExactBlockLinesSpec) false w args)
      (Rows.fnExactBlockLinesSpec.post enc Tryd.prog Tryd.f6 false true false false) := by
  refine returnsInHanded_of_change_and (C := Tryd.checked) (X := fun w _ => laidMetH Tryd.prog laidL w) (fun _ _ _ hh h => h.of_heap hh) own started (by kernel_rfl) Tryd.func6
    (ChangeSpec.witness_shaped (enc := enc) (C := Tryd.checked) (os := os) (X := fun w _ => laidMetH Tryd.prog laidL w) false (World.laidAll Tryd.prog os laidL) #[.slice none 0 0, .int .i64 0, .int .i64 0] 8 (World.laidAll_os _ _ _)
      (World.shaped_of_ZipB (by kernel_rfl) (by kernel_rfl)) (by kernel_rfl) (by kernel_rfl) (by kernel_rfl)
      (by rw [MakeChecks.laidMetH_plain _ _ _ (by kernel_rfl)]; exact laidMet_laidAll _ (by kernel_rfl) (by kernel_rfl))) ?_
  intro W base args ds gs before hval hW _ _ hL _
  have hds : ∃ d d1 d2, ds = [d, d1, d2] := by
    obtain ⟨p, q, hA, _⟩ := hW
    exact shp3 hA
  obtain ⟨d, d1, d2, rfl⟩ := hds
  have hgs : gs = [] := by
    obtain ⟨p, q, _, hV, _⟩ := hW
    exact shpV hV
  subst hgs
  have hA : ∃ p, DataW.TrodAll enc Tryd.prog W 0 (fun _ => true) true Tryd.f6.params.toList args.toList [d, d1, d2] p := by
    obtain ⟨p, q, hA, _⟩ := hW
    exact ⟨p, hA⟩
  obtain ⟨p, hA⟩ := hA
  refine (law_callsG (P := Tryd.prog) (fn := Tryd.f6) calls_ok Tryd.func6 rfl (by decide) law_FnExactBlockLines (by kernel_rfl) hval hA (globs hL)).mono fun e W' h => ?_
  obtain ⟨rfl, hb⟩ := h
  refine ⟨_, rfl, post_of_below laidOut hb (by kernel_rfl) rfl hW ?_ rfl rfl ?_⟩
  · intro b sp hd
    exact Go.ChangeShapes.trodAll_mk1 (Go.RowKit.shut_bool Tryd.underlying4 true)
  · exact Go.RowKit.ok_one (t := 4) rfl rfl (Go.RowKit.okWide_bool_mk Tryd.underlying4 true)
end Go.Proofs.YtcbjmggbbnpbpaaDoor.Lg
namespace Go.Proofs.YtcbjmggbbnpbpaaDoor
open Go.Proofs.YtcbjmggbbnpbpaaDoor.Lg
theorem FnExactBlockLines_holds0 : Rows.FnExactBlockLinesSaid :=
  OpenClaim.holds_of_wide 6 Tryd.f6 rfl rfl rfl rfl rfl rfl rfl ⟨rfl, rfl, rfl, rfl, rfl⟩ rfl rfl rfl rfl rfl (by kernel_rfl) Tryd.func6 (by kernel_rfl)
    (of_decide_eq_true (by kernel_rfl)) (by unfold Func.isWrapper; first | (rw [if_pos (by decide +kernel)]; kernel_rfl) | (rw [if_neg (by decide +kernel)]; exact ⟨rfl, rfl⟩))
    (fun os started D enc _ => lifted_FnExactBlockLines os started D enc)
theorem FnExactBlockLines_holds : Rows.FnExactBlockLinesCardSaid :=
  Claim7.holds_tied_plain_at .later [] [.data, .pinned] true (true, "3f4bd9bcc0f3005d2957485c1007746909623afd6fe44977abc6da2b5c02edeb") false
    FnExactBlockLines_holds0 (fun _ h => by cases h) (by kernel_rfl) (fun _ h => by cases h) fnExactBlockLines_row_tie rfl ⟨rfl, rfl⟩ (by kernel_rfl) rfl
    (fun f fn hf hfn => by
      obtain rfl : f = 6 := Option.some.inj ((show Tryd.prog.funcNamed "loop.example/g00666/laws.FnExactBlockLines" = some 6 by kernel_rfl).symm.trans hf) |>.symm
      obtain rfl : fn = Tryd.f6 := (Option.some.inj (Tryd.func6.symm.trans hfn)).symm
      exact ⟨by kernel_rfl, fun j t ht => by
        rw [Tryd.params6] at ht
        have hm : t ∈ [36, 3, 3] := by simpa using Array.mem_of_getElem? ht
        have hall : ([36, 3, 3].all fun u => !Tryd.prog.wantsStandIn u) = true := by kernel_rfl
        exact (show Tryd.prog.wantsStandIn t = false by simpa using List.all_eq_true.1 hall t hm)⟩)
    (by kernel_rfl)
end Go.Proofs.YtcbjmggbbnpbpaaDoor
