/- FnExactPickText: whatever it is given, the law returns true, and the arguments read as before. No condition. -/
import Derived.Test.YtcbjmggbbnpbpaaDoorCPt7
import Derived.Test.YtcbjmggbbnpbpaaDoorCTPat7
import Derived.Test.YtcbjmggbbnpbpaaDoorCGlobM
import Derived.Test.YtcbjmggbbnpbpaaDoorCWrap
import Derived.Test.YtcbjmggbbnpbpaaDoorLd
import Derived.Test.YtcbjmggbbnpbpaaDoorTie
import Derived.Test.YtcbjmggbbnpbpaaDoorCards
import Derived.ProofKit
import Derived.OpenShut
import Derived.LaidMore
import Derived.Lay
import Derived.SevenTiedAt
import Derived.Stop.Joined
namespace Go.Proofs.YtcbjmggbbnpbpaaDoor.Lg
set_option linter.unusedSimpArgs false
set_option linter.unusedVariables false
open Go.Proofs.YtcbjmggbbnpbpaaDoor
open Go.RowKit (Below)
set_option maxRecDepth 100000

theorem law_FnExactPickText [ML] : LawRun Tryd.prog cfg ok 12 3 [26] := by
  intro xs H hb h
  match xs, h with
  | [x0], h =>
    obtain ⟨h0, _⟩ := h
    obtain ⟨c0, e0, rfl, f0, g0, g1, g2⟩ := opn_Hit h0
    exact ⟨H, run_FnExactPickText f0 H.length g0 g1 g2⟩
  | [], h => exact h.elim
  | _ :: _ :: _, h => exact h.2.elim

theorem lifted_FnExactPickText (os : Os) (started : os.Started) (D : Type) (enc : TypeId × Value → D) :
    ReturnsInHanded {} Tryd.checked os 3 .any (fun w args => (Rows.fnExactPickTextSpec.pre enc Tryd.prog Tryd.f3 Rows.fnExactPickTextRow.domain false w args ∧ laidMetH Tryd.prog laidL w) ∧ sizedMet enc Tryd.prog Tryd.f3 (OpenSpec.ofChange Rows.fnExactPickTextSpec) false w args)
      (Rows.fnExactPickTextSpec.post enc Tryd.prog Tryd.f3 false true false false) := by
  refine lifted_wrap (C := Tryd.checked) (X := fun w _ => laidMetH Tryd.prog laidL w) (fun _ _ _ hh h => h.of_heap hh) (@own ⟨0⟩) started (by kernel_rfl) Tryd.func3
    (ChangeSpec.witness_shaped (enc := enc) (C := Tryd.checked) (os := os) (X := fun w _ => laidMetH Tryd.prog laidL w) false (World.laidAll Tryd.prog os laidL) #[.agg #[.int .i64 0, .slice none 0 0, .int .i64 0, .int .i64 0, .bool false, .string .empty]] 8 (World.laidAll_os _ _ _)
      (World.shaped_of_ZipB (by kernel_rfl) (by kernel_rfl)) (by kernel_rfl) (by kernel_rfl) (by kernel_rfl)
      (by rw [MakeChecks.laidMetH_plain _ _ _ (by kernel_rfl)]; exact laidMet_laidAll _ (by kernel_rfl) (by kernel_rfl))) ?_
  intro W base args ds gs before hval hW hL hsh
  obtain ⟨m, hm⟩ := Lib_repl_m W hsh
  letI : ML := ⟨m⟩
  have hds : ∃ d, ds = [d] := by
    obtain ⟨p, q, hA, _⟩ := hW
    exact shp1 hA
  obtain ⟨d, rfl⟩ := hds
  have hgs : gs = [] := by
    obtain ⟨p, q, _, hV, _⟩ := hW
    exact shpV hV
  subst hgs
  have hA : ∃ p, DataW.TrodAll enc Tryd.prog W 0 (fun _ => true) true Tryd.f3.params.toList args.toList [d] p := by
    obtain ⟨p, q, hA, _⟩ := hW
    exact ⟨p, hA⟩
  obtain ⟨p, hA⟩ := hA
  refine (law_callsG (P := Tryd.prog) (fn := Tryd.f3) calls_ok Tryd.func3 rfl (by decide) law_FnExactPickText (by kernel_rfl) hval hA (globs hL hm)).mono fun e W' h => ?_
  obtain ⟨rfl, hb⟩ := h
  refine ⟨_, rfl, post_of_below laidOut hb (by kernel_rfl) rfl hW ?_ rfl rfl ?_⟩
  · intro b sp hd
    exact Go.ChangeShapes.trodAll_mk1 (Go.RowKit.shut_bool Tryd.underlying4 true)
  · exact Go.RowKit.ok_one (t := 4) rfl rfl (Go.RowKit.okWide_bool_mk Tryd.underlying4 true)
end Go.Proofs.YtcbjmggbbnpbpaaDoor.Lg
namespace Go.Proofs.YtcbjmggbbnpbpaaDoor
open Go.Proofs.YtcbjmggbbnpbpaaDoor.Lg
theorem FnExactPickText_holds0 : Rows.FnExactPickTextSaid :=
  OpenClaim.holds_of_wide 3 Tryd.f3 rfl rfl rfl rfl rfl rfl rfl ⟨rfl, rfl, rfl, rfl, rfl⟩ rfl rfl rfl rfl rfl (by kernel_rfl) Tryd.func3 (by kernel_rfl)
    (of_decide_eq_true (by kernel_rfl)) (by unfold Func.isWrapper; first | (rw [if_pos (by decide +kernel)]; kernel_rfl) | (rw [if_neg (by decide +kernel)]; exact ⟨rfl, rfl⟩))
    (fun os started D enc _ => lifted_FnExactPickText os started D enc)
theorem FnExactPickText_holds : Rows.FnExactPickTextCardSaid :=
  Claim7.holds_tied_plain_at .later [] [.data, .pinned] true (true, "3f4bd9bcc0f3005d2957485c1007746909623afd6fe44977abc6da2b5c02edeb") false
    FnExactPickText_holds0 (fun _ h => by cases h) (by kernel_rfl) (fun _ h => by cases h) fnExactPickText_row_tie rfl ⟨rfl, rfl⟩ (by kernel_rfl) rfl
    (fun f fn hf hfn => by
      obtain rfl : f = 3 := Option.some.inj ((show Tryd.prog.funcNamed "loop.example/g00666/laws.FnExactPickText" = some 3 by kernel_rfl).symm.trans hf) |>.symm
      obtain rfl : fn = Tryd.f3 := (Option.some.inj (Tryd.func3.symm.trans hfn)).symm
      exact ⟨by kernel_rfl, fun j t ht => by
        rw [Tryd.params3] at ht
        have hm : t ∈ [26] := by simpa using Array.mem_of_getElem? ht
        have hall : ([26].all fun u => !Tryd.prog.wantsStandIn u) = true := by kernel_rfl
        exact (show Tryd.prog.wantsStandIn t = false by simpa using List.all_eq_true.1 hall t hm)⟩)
    (by kernel_rfl)
end Go.Proofs.YtcbjmggbbnpbpaaDoor
