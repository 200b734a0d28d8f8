/- FnText: whatever it is given, the law returns true, and the arguments read as before. No condition. -/
import Derived.Test.YthlbglmfdjdagaaGreatDoorN13
import Derived.Test.YthlbglmfdjdagaaGreatDoorTie
import Derived.Test.YthlbglmfdjdagaaGreatDoorCards
import Derived.ProofKit
import Derived.OpenShut
import Derived.LaidMore
import Derived.Lay
import Derived.SevenTiedAt
import Derived.Stop.Joined
namespace Go.Proofs.YthlbglmfdjdagaaGreatDoor.Lg
set_option linter.unusedSimpArgs false
set_option linter.unusedVariables false
open Go.Proofs.YthlbglmfdjdagaaGreatDoor
open Go.RowKit (Below)
set_option maxRecDepth 100000
theorem NK : LawRun Tryz.prog cfg ok 12 3 [22] := by
 intro xs H hb h
 match xs, h with
 | [x0], h =>
   obtain ⟨h0, _⟩ := h
   obtain ⟨bs0, a0, l0⟩ := Qp h0
   exact ⟨H, O2 x0 bs0 H.length H a0 l0⟩
 | [], h => exact h.elim
 | _ :: _ :: _, h => exact h.2.elim
theorem lifted_FnText (os : Os) (started : os.Started) (D : Type) (enc : TypeId × Value → D) :
 ReturnsInHanded {} Tryz.checked os 3 .any (fun w args => (Rows.fnTextSpec.pre enc Tryz.prog Tryz.f3 Rows.fnTextRow.domain false w args ∧ laidMetH Tryz.prog Qa w) ∧ sizedMet enc Tryz.prog Tryz.f3 (OpenSpec.ofChange Rows.fnTextSpec) false w args)
  (Rows.fnTextSpec.post enc Tryz.prog Tryz.f3 false true false false) := by
 refine returnsInHanded_of_change_and (C := Tryz.checked) (X := fun w _ => laidMetH Tryz.prog Qa w) (fun _ _ _ hh h => h.of_heap hh) own started (by kernel_rfl) Tryz.func3
  (ChangeSpec.witness_shaped (enc := enc) (C := Tryz.checked) (os := os) (X := fun w _ => laidMetH Tryz.prog Qa w) false (World.laidAll Tryz.prog os Qa) #[.slice none 0 0] 8 (World.laidAll_os _ _ _)
    (World.shaped_of_ZipB (by kernel_rfl) (by kernel_rfl)) (by kernel_rfl) (by kernel_rfl) (by kernel_rfl)
    (by rw [MakeChecks.laidMetH_plain _ _ _ (by kernel_rfl)]; exact laidMet_laidAll _ (by kernel_rfl) (by kernel_rfl))) ?_
 intro W base args ds gs before hval hW _ _ hL _
 have hds : ∃ d, ds = [d] := by
  obtain ⟨p, q, hA, _⟩ := hW
  exact shp1 hA
 obtain ⟨d, rfl⟩ := hds
 have hgs : gs = [] := by
  obtain ⟨p, q, _, hV, _⟩ := hW
  exact shpV hV
 subst hgs
 have hA : ∃ p, DataW.TrodAll enc Tryz.prog W 0 (fun _ => true) true Tryz.f3.params.toList args.toList [d] p := by
  obtain ⟨p, q, hA, _⟩ := hW
  exact ⟨p, hA⟩
 obtain ⟨p, hA⟩ := hA
 refine (NL (P := Tryz.prog) (fn := Tryz.f3) RF Tryz.func3 rfl (by decide) NK (by kernel_rfl) hval hA (WS hL)).mono fun e W' h => ?_
 obtain ⟨rfl, hb⟩ := h
 refine ⟨_, rfl, Iu UJ hb (by kernel_rfl) rfl hW ?_ rfl rfl ?_⟩
 ·intro b sp hd
  exact Go.ChangeShapes.trodAll_mk1 (Go.RowKit.shut_bool Tryz.underlying4 true)
 ·exact Go.RowKit.ok_one (t := 4) rfl rfl (Go.RowKit.okWide_bool_mk Tryz.underlying4 true)
end Go.Proofs.YthlbglmfdjdagaaGreatDoor.Lg
namespace Go.Proofs.YthlbglmfdjdagaaGreatDoor
open Go.Proofs.YthlbglmfdjdagaaGreatDoor.Lg
theorem FnText_holds0 : Rows.FnTextSaid :=
 OpenClaim.holds_of_wide 3 Tryz.f3 rfl rfl rfl rfl rfl rfl rfl ⟨rfl, rfl, rfl, rfl, rfl⟩ rfl rfl rfl rfl rfl (by kernel_rfl) Tryz.func3 (by kernel_rfl)
  (of_decide_eq_true (by kernel_rfl)) (by unfold Func.isWrapper; first | (rw [if_pos (by decide +kernel)]; kernel_rfl) | (rw [if_neg (by decide +kernel)]; exact ⟨rfl, rfl⟩))
  (fun os started D enc _ => lifted_FnText os started D enc)
theorem FnText_holds : Rows.FnTextCardSaid :=
 Claim7.holds_tied_plain_at .later [] [.data, .pinned] true (true, "6d6eab32d6fa5200ba0bed9c9f23fed788f7fe539fef6c7ab7278bb3fd92b3b1") false
  FnText_holds0 (fun _ h => by cases h) (by kernel_rfl) (fun _ h => by cases h) fnText_row_tie rfl ⟨rfl, rfl⟩ (by kernel_rfl) rfl
  (fun f fn hf hfn => by
    obtain rfl : f = 3 := Option.some.inj ((show Tryz.prog.funcNamed "loop.example/g00666/laws.FnText" = some 3 by kernel_rfl).symm.trans hf) |>.symm
    obtain rfl : fn = Tryz.f3 := (Option.some.inj (Tryz.func3.symm.trans hfn)).symm
    exact ⟨by kernel_rfl, fun j t ht => by
     rw [Tryz.params3] at ht
     have hm : t ∈ [22] := by simpa using Array.mem_of_getElem? ht
     have hall : ([22].all fun u => !Tryz.prog.wantsStandIn u) = true := by kernel_rfl
     exact (show Tryz.prog.wantsStandIn t = false by simpa using List.all_eq_true.1 hall t hm)⟩)
  (by kernel_rfl)
end Go.Proofs.YthlbglmfdjdagaaGreatDoor
