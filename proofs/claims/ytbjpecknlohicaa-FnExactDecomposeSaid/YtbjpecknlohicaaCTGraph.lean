/- Graphs as a law is given them. No condition. -/
import Derived.Test.YtbjpecknlohicaaCTNode
namespace Go.Proofs.Ytbjpecknlohicaa.Lg
set_option linter.unusedSimpArgs false
set_option linter.unusedVariables false
set_option maxRecDepth 100000
set_option maxHeartbeats 4000000
open Go.Proofs.Ytbjpecknlohicaa

theorem shp_one {T : TypeId → Option TI} {n : Nat} {t e : TypeId} {s b : Nat} {zz : Option V} {H : LH} {p : List V} (hT : T t = some ⟨s, b, .slice e, zz⟩) (h : Shp T n t H p) : ∃ v, p = [v] := by
  cases n with
  | zero => exact h.elim
  | succ n =>
    unfold Shp at h
    rw [hT] at h
    rcases h with h | h | ⟨b, z, len, cap, ps, h1, _⟩
    · exact ⟨_, h⟩
    · exact ⟨_, h⟩
    · exact ⟨_, h1⟩
theorem shp_IntS {n : Nat} {H : LH} {v : V} (h : Shp (ty Try.prog) (n + 2) 55 H [v]) : ∃ xs : List Int, At H inC 1 v xs ∧ xs.length ≤ 9223372036854775807 := by
  obtain ⟨xs, h1, h2, _⟩ := shp_slice (P := fun _ => True) ty55 (by simp only [sizeO, ty3, ty55]) inC_len (fun cs h => by
    simp only [Shp, ty3] at h
    obtain ⟨m, h, _⟩ := h
    exact ⟨m, h, trivial⟩) h
  exact ⟨xs, h1, h2⟩
theorem shp_Node {n : Nat} {H : LH} (cs : List V) (h : Shp (ty Try.prog) (n + 3) 134 H cs) : ∃ c : NC, cs = ncC c ∧ ∃ x : Nd, Rel1 H c x ∧ ndFit x := by
  unfold Shp at h
  simp only [ty134, ShpF] at h
  obtain ⟨p0, _, rfl, h0, p1, _, rfl, h1, p2, _, rfl, h2, p3, _, rfl, h3, rfl⟩ := h
  simp only [Shp, ty3] at h0
  simp only [Shp, ty9] at h1 h2
  obtain ⟨k, rfl, _⟩ := h0
  obtain ⟨s1, rfl, z1⟩ := h1
  obtain ⟨s2, rfl, z2⟩ := h2
  obtain ⟨v, rfl⟩ := shp_one ty55 h3
  obtain ⟨xs, a, l⟩ := shp_IntS h3
  exact ⟨⟨k, s1, s2, v⟩, rfl, ⟨k, s1, s2, xs⟩, ⟨rfl, rfl, rfl, a⟩, z1, z2, l⟩
theorem pick_nd {H : LH} : ∀ (cs : List NC), (∀ c ∈ cs, ∃ x : Nd, Rel1 H c x ∧ ndFit x) → ∃ ns : List Nd, cs.length = ns.length ∧ (∀ i, i < ns.length → Rel1 H (cs.getD i nc0) (ns.getD i nd0)) ∧ ∀ x ∈ ns, ndFit x
  | [], _ => ⟨[], rfl, fun i h => by simp at h, fun x h => by simp at h⟩
  | c :: cs, h => by
    obtain ⟨x, h1, h2⟩ := h c (by simp)
    obtain ⟨ns, l, r, f⟩ := pick_nd cs (fun d hd => h d (by simp [hd]))
    refine ⟨x :: ns, by simp [l], fun i hi => ?_, fun y hy => ?_⟩
    · cases i with
      | zero => exact h1
      | succ i => exact r i (by simpa using hi)
    · rcases List.mem_cons.1 hy with rfl | hy
      · exact h2
      · exact f y hy
theorem shp_NodeS {n : Nat} {H : LH} {v : V} (h : Shp (ty Try.prog) (n + 4) 54 H [v]) : ∃ ns : List Nd, NAt H v ns ∧ ns.length ≤ 9223372036854775807 ∧ ∀ x ∈ ns, ndFit x := by
  obtain ⟨cs, h1, h2, h3⟩ := shp_slice (P := fun c => ∃ x : Nd, Rel1 H c x ∧ ndFit x) ty54 (by simp only [sizeO, ty3, ty9, ty54, ty55, ty134]) ncC_len (fun cs h => shp_Node (n := n) cs h) h
  obtain ⟨ns, l, r, f⟩ := pick_nd cs h3
  exact ⟨ns, ⟨cs, h1, l, r⟩, by omega, f⟩
def grFit (g : Gr) : Prop := g.nodes.length ≤ 9223372036854775807 ∧ g.roots.length ≤ 9223372036854775807 ∧ ∀ x ∈ g.nodes, ndFit x
theorem opn_Graph {H : LH} {x : V} (h : ShpA (ty Try.prog) 12 57 H x) : ∃ nv rv g, x = .agg [nv, rv] ∧ GAt H nv rv g ∧ grFit g := by
  unfold ShpA at h
  rw [ty57] at h
  obtain ⟨cs, rfl, h⟩ := h
  unfold Shp at h
  simp only [ty57, ShpF] at h
  obtain ⟨p0, _, rfl, h0, p1, _, rfl, h1, rfl⟩ := h
  obtain ⟨nv, rfl⟩ := shp_one ty54 h0
  obtain ⟨rv, rfl⟩ := shp_one ty55 h1
  obtain ⟨ns, a, l, f⟩ := shp_NodeS h0
  obtain ⟨rs, b, m⟩ := shp_IntS h1
  exact ⟨nv, rv, ⟨ns, rs⟩, rfl, ⟨a, b⟩, l, m, f⟩
/-- the measure of a graph, and what it bounds -/
def grW (g : Gr) : Int := g.nodes.length + sumZ ndW g.nodes + g.roots.length
theorem ndW0 (x : Nd) : 0 ≤ ndW x := by unfold ndW; omega
theorem sumZ_mem {α : Type} {w : α → Int} (h : ∀ x, 0 ≤ w x) : ∀ {xs : List α} {x : α}, x ∈ xs → w x ≤ sumZ w xs
  | y :: ys, x, hx => by
    rw [sumZ_cons]
    have h1 := h y
    have h2 := sumZ_nonneg h ys
    rcases List.mem_cons.1 hx with rfl | hx
    · omega
    · have := sumZ_mem h hx; omega
theorem grW_lo {g : Gr} : 0 ≤ grW g := by
  have := sumZ_nonneg ndW0 g.nodes
  unfold grW; omega
theorem grW_bnd {g : Gr} {m : Int} (h : grW g ≤ m) : g.nodes.length ≤ m ∧ g.roots.length ≤ m ∧ ∀ n ∈ g.nodes, n.kids.length ≤ m ∧ n.tag.size ≤ m := by
  have h1 := sumZ_nonneg ndW0 g.nodes
  unfold grW at h
  refine ⟨by omega, by omega, fun n hn => ?_⟩
  have h2 := sumZ_mem ndW0 hn
  have h3 : ndW n = n.tag.size + n.text.size + n.kids.length := rfl
  constructor <;> omega
/-- a graph copied -/
structure Copied (H H' : LH) (w : V) (nv rv : V) (g : Gr) : Prop where
  eq : w = .agg [nv, rv]
  ext : Hx H H'
  nodes : NOwn H.length H' nv g.nodes
  roots : Own H.length H' inC 1 rv g.roots
theorem Copied.at {H H' : LH} {w nv rv : V} {g : Gr} (h : Copied H H' w nv rv g) : GAt H' nv rv g := ⟨h.nodes.at, h.roots.at inC_len⟩
theorem run_copy (nv rv : V) (g : Gr) (fl : Nat) (H : LH) (h : GAt H nv rv g) (hw : grW g ≤ 1048576) : ∃ H' nv' rv', run 34 [.agg [nv, rv]] fl H = some (.agg [nv', rv'], H') ∧ Copied H H' (.agg [nv', rv']) nv' rv' g := by
  have hb := grW_bnd hw
  obtain ⟨w, H', e, nv', rv', rfl, x, n, r⟩ := run_toGraph nv rv g fl H h (by omega) (fun n hn => by have := (hb.2.2 n hn).1; omega) (by omega)
  exact ⟨H', nv', rv', e, rfl, x, n, r⟩
theorem run_szGraphW (nv rv : V) (g : Gr) (left : Int) (fl : Nat) (H : LH) (h : GAt H nv rv g) (h0 : 0 ≤ left) (h2 : left ≤ 1048576) (hf : grFit g) :
    run 32 [.agg [nv, rv], .int .i64 left] fl H = some (.int .i64 (if left < grW g then -1 else left - grW g), H) :=
  run_szGraph nv rv g left fl H h h0 h2 hf.1 hf.2.1 hf.2.2
theorem run_eqGraphW (nv rv nv' rv' : V) (g : Gr) (fl : Nat) (H : LH) (h : GAt H nv rv g) (h' : GAt H nv' rv' g) (hw : grW g ≤ 1048576) :
    run 36 [.agg [nv, rv], .agg [nv', rv']] fl H = some (.bool true, H) := by
  have hb := grW_bnd hw
  have := run_eqGraph nv rv nv' rv' g g fl H h h' (by omega) (by omega) (fun n hn => by have := (hb.2.2 n hn).1; omega) (fun n hn => by have := (hb.2.2 n hn).1; omega) (by omega) (by omega)
  rwa [decide_eq_true rfl] at this
end Go.Proofs.Ytbjpecknlohicaa.Lg
