/- FnExactPatternOk: whatever pattern it is given, the law returns true, and the argument reads as before. No condition. -/
import Derived.Test.YtbjpecknlohicaaCPatLaw
import Derived.Test.YtbjpecknlohicaaRows
namespace Go.Proofs.Ytbjpecknlohicaa.Lg
set_option linter.unusedSimpArgs false
set_option linter.unusedVariables false
open Go.Proofs.Ytbjpecknlohicaa
open Go.RowKit (Below)
set_option maxRecDepth 100000

theorem shp_seg {n : Nat} {H : LH} {cs : List V} (h : Shp (ty Try.prog) (n + 2) 130 H cs) : ∃ s : Seg3, cs = seg3 s ∧ s.2.2.size ≤ 9223372036854775807 := by
  simp only [Shp, ShpF, ty3, ty9, ty130] at h
  obtain ⟨_, _, rfl, ⟨k, rfl, _⟩, _, _, rfl, ⟨m, rfl, _⟩, _, _, rfl, ⟨t, rfl, h1⟩, rfl⟩ := h
  exact ⟨(k, m, t), rfl, h1⟩
theorem shp_parts {n : Nat} {H : LH} : ∀ {ps : List (List V)}, (∀ p ∈ ps, Shp (ty Try.prog) (n + 2) 130 H p) → ∃ ys : List Seg3, ps = ys.map seg3 ∧ ∀ s ∈ ys, s.2.2.size ≤ 9223372036854775807
  | [], _ => ⟨[], rfl, by simp⟩
  | p :: ps, h => by
    obtain ⟨s, hs, h1⟩ := shp_seg (h p (by simp))
    obtain ⟨ys, hy, h2⟩ := shp_parts (n := n) (ps := ps) (fun q hq => h q (List.mem_cons_of_mem _ hq))
    refine ⟨s :: ys, by rw [hs, hy]; rfl, ?_⟩
    intro x hx
    rcases List.mem_cons.1 hx with hx | hx
    · subst hx; exact h1
    · exact h2 x hx
theorem shp_segs {n : Nat} {H : LH} {v : V} (h : Shp (ty Try.prog) (n + 3) 35 H [v]) : ∃ xs : List Seg3, SegsAt H v xs ∧ xs.length ≤ 9223372036854775807 ∧ ∀ s ∈ xs, s.2.2.size ≤ 9223372036854775807 := by
  unfold Shp at h
  rw [ty35] at h
  rcases h with h | h | ⟨b, z, len, cap, ps, h1, h2, h3, h4, h5, h6, h7, h8⟩
  · injection h with h _; subst h
    exact ⟨[], .inl ⟨.inl rfl, rfl⟩, by simp, by simp⟩
  · injection h with h _; subst h
    exact ⟨[], .inl ⟨.inr rfl, rfl⟩, by simp, by simp⟩
  · injection h1 with h1 _; subst h1
    rw [ty130] at h2
    injection h2 with h2
    have h2 : 3 = z := h2
    subst h2
    obtain ⟨ys, hy, hs⟩ := shp_parts h8
    subst hy
    rw [List.length_map] at h4
    refine ⟨ys.take len, .inr ⟨b, 0, cap, _, by rw [List.length_map, List.length_take, Nat.min_eq_left (by omega)], h3, ?_⟩, by rw [List.length_take]; omega, fun s hsm => hs s (List.mem_of_mem_take hsm)⟩
    intro i p hp
    have hi : i < len := by have := (List.getElem?_eq_some_iff.1 hp).1; simp at this; omega
    refine flat_facts ys i p ?_
    rw [List.getElem?_map] at hp ⊢
    rw [List.getElem?_take, if_pos hi] at hp
    exact hp

theorem law_FnExactPatternOk : LawRun Try.prog cfg ok 12 5 [37] := by
  intro xs H hb h
  match xs, h with
  | [x], h =>
    obtain ⟨h, _⟩ := h
    unfold ShpA at h
    rw [ty37] at h
    obtain ⟨cs, rfl, h⟩ := h
    unfold Shp at h
    rw [ty37] at h
    obtain ⟨p, _, rfl, hp, rfl⟩ := h
    have hone : ∃ v, p = [v] := by
      have hp0 := hp
      unfold Shp at hp0
      rw [ty35] at hp0
      rcases hp0 with h | h | ⟨b, z, len, cap, ps, h1, _⟩
      · exact ⟨_, h⟩
      · exact ⟨_, h⟩
      · exact ⟨_, h1⟩
    obtain ⟨v, rfl⟩ := hone
    obtain ⟨ys, g1, g2, g3⟩ := shp_segs (n := 8) hp
    rw [List.append_nil]
    exact run_FnExactPatternOk v ys H.length H g1 g2 g3
  | [], h => exact h.elim
  | _ :: _ :: _, h => exact h.2.elim

theorem lifted_FnExactPatternOk (os : Os) (started : os.Started) (D : Type) (enc : TypeId × Value → D) :
    ReturnsInHanded {} Try.checked os 5 .any (Rows.fnExactPatternOkSpec.pre6 enc Try.prog Try.f5 Rows.fnExactPatternOkRow.domain false) (Rows.fnExactPatternOkSpec.post enc Try.prog Try.f5 false true false false) := by
  refine returnsInHanded_of_change (C := Try.checked) own started (by kernel_rfl) Try.func5
    (ChangeSpec.witness6 (enc := enc) (C := Try.checked) false ⟨#[], #[.agg #[.slice none 0 0]], []⟩ 8 (by kernel_rfl) (by kernel_rfl) (by kernel_rfl) (by kernel_rfl)) ?_
  intro W base args ds gs before hval hW _ _
  have hds : ∃ d, ds = [d] := by
    obtain ⟨p, q, hA, _⟩ := hW
    exact shp1 hA
  obtain ⟨d, rfl⟩ := hds
  have hgs : gs = [] := by
    obtain ⟨p, q, _, hV, _⟩ := hW
    exact shpV hV
  subst hgs
  have hA : ∃ p, DataW.TrodAll enc Try.prog W 0 (fun _ => true) true Try.f5.params.toList args.toList [d] p := by
    obtain ⟨p, q, hA, _⟩ := hW
    exact ⟨p, hA⟩
  obtain ⟨p, hA⟩ := hA
  refine (law_calls (P := Try.prog) (fn := Try.f5) calls_ok (fun _ => rfl) Try.func5 rfl (by decide) law_FnExactPatternOk (by kernel_rfl) hval hA).mono fun e W' h => ?_
  obtain ⟨rfl, hb⟩ := h
  refine ⟨_, rfl, post_of_below laidOut hb (by kernel_rfl) rfl hW ?_ rfl rfl ?_⟩
  · intro b sp hd
    exact Go.ChangeShapes.trodAll_mk1 (Go.RowKit.shut_bool Try.underlying4 true)
  · exact Go.RowKit.ok_one (t := 4) rfl rfl (Go.RowKit.okWide_bool_mk Try.underlying4 true)
end Go.Proofs.Ytbjpecknlohicaa.Lg
namespace Go.Proofs.Ytbjpecknlohicaa
open Go.Proofs.Ytbjpecknlohicaa.Lg
theorem FnExactPatternOk_holds : Rows.FnExactPatternOkSaid :=
  OpenClaim.holds_of_wide 5 Try.f5 rfl rfl rfl rfl rfl rfl rfl ⟨rfl, rfl, rfl, rfl, rfl⟩ rfl rfl rfl rfl rfl (by kernel_rfl) Try.func5 (by kernel_rfl)
    (of_decide_eq_true (by kernel_rfl)) (by unfold Func.isWrapper; first | (rw [if_pos (by decide +kernel)]; kernel_rfl) | (rw [if_neg (by decide +kernel)]; exact ⟨rfl, rfl⟩))
    (fun os started D enc _ => lifted_FnExactPatternOk os started D enc)
end Go.Proofs.Ytbjpecknlohicaa
