/- A hit as a law's argument. No condition. -/
import Derived.Test.YtcbjmggbbnpbpaaDoorCTPat
namespace Go.Proofs.YtcbjmggbbnpbpaaDoor.Lg
set_option linter.unusedSimpArgs false
set_option linter.unusedVariables false
set_option maxRecDepth 100000
set_option maxHeartbeats 40000000
open Go.Proofs.YtcbjmggbbnpbpaaDoor
set_option linter.unusedSectionVars false
variable [ML]

theorem shp_oneH {P : TypeId → Option TI} {n : Nat} {t e : TypeId} {s b : Nat} {zz : Option V} {H : LH} {cs : List V} (hT : P t = some ⟨s, b, .slice e, zz⟩) (h : Shp P (n + 1) t H cs) : ∃ v, cs = [v] := by
  unfold Shp at h
  rw [hT] at h
  rcases h with h | h | ⟨_, _, _, _, _, h, _⟩ <;> exact ⟨_, h⟩
theorem shp_Value {n : Nat} {H : LH} (cs : List V) (h : Shp (ty Tryd.prog) (n + 2) 24 H cs) : ∃ e : Val, cs = vaC e ∧ e.s.size ≤ 9223372036854775807 := by
  simp only [Shp, ShpF, ty3, ty4, ty9, ty24] at h
  obtain ⟨_, _, rfl, ⟨a0, rfl, _⟩, _, _, rfl, ⟨a1, rfl, _⟩, _, _, rfl, ⟨a2, rfl⟩, _, _, rfl, ⟨a3, rfl, z3⟩, rfl⟩ := h
  exact ⟨⟨a0, a1, a2, a3⟩, rfl, z3⟩
theorem shp_Hit {n : Nat} {H : LH} (cs : List V) (h : Shp (ty Tryd.prog) (n + 4) 26 H cs) : ∃ (c : HC) (e : Ht), cs = htC c ∧ RelA H c e ∧ e.path.length ≤ 9223372036854775807 ∧ (∀ x ∈ e.path, sgCFit x) ∧ e.val.s.size ≤ 9223372036854775807 := by
  unfold Shp at h
  simp only [ty26, ShpF] at h
  obtain ⟨p0, _, rfl, h0, p1, _, rfl, h1, p2, _, rfl, h2, rfl⟩ := h
  obtain ⟨x, rfl⟩ := shp_oneH ty22 h1
  obtain ⟨p, a, l, f⟩ := shp_slice ty22 (by simp only [sizeO, ty3, ty9, ty22, ty101]) sgC_len (fun cs h => shp_Seg (n := n) cs h) h1
  obtain ⟨v, rfl, hv⟩ := shp_Value (n := n + 1) _ h2
  simp only [Shp, ty3, ty4, ty9, ty22, ty24, ty26, ty101] at h0
  obtain ⟨d, rfl, _⟩ := h0
  exact ⟨⟨d, x, v⟩, ⟨d, p, v⟩, rfl, ⟨rfl, rfl, a⟩, l, f, hv⟩
theorem opn_Hit {H : LH} {x : V} (h : ShpA (ty Tryd.prog) 12 26 H x) : ∃ (c : HC) (e : Ht), x = .agg (htC c) ∧ RelA H c e ∧ e.path.length ≤ 9223372036854775807 ∧ (∀ x ∈ e.path, sgCFit x) ∧ e.val.s.size ≤ 9223372036854775807 := by
  unfold ShpA at h
  rw [ty26] at h
  obtain ⟨cs, rfl, h⟩ := h
  obtain ⟨c, e, rfl, r⟩ := shp_Hit (n := 8) cs h
  exact ⟨c, e, rfl, r⟩
end Go.Proofs.YtcbjmggbbnpbpaaDoor.Lg
