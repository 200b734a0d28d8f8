/- The logical machine: package-level tables of bytes, out of what a row lays. No condition. -/
import Derived.Test.YtbjpecknlohicaaDoorLg34
import Derived.FnData
import Derived.OpenShut
import Derived.MakeChecks
namespace Go.Proofs.YtbjpecknlohicaaDoor.Lg
set_option linter.unusedSimpArgs false
set_option linter.unusedVariables false

/-- a table of bytes -/
def u8s (l : List Int) : List V := l.map (V.int .u8)
theorem u8s_get {l : List Int} {i : Nat} {v : V} (h : (u8s l)[i]? = some v) : ∃ n, l[i]? = some n ∧ v = .int .u8 n := by
  unfold u8s at h
  rw [List.getElem?_map] at h
  cases e : l[i]? with
  | none => rw [e] at h; cases h
  | some n => rw [e] at h; injection h with h; exact ⟨n, rfl, h.symm⟩
theorem u8s_lt (l : List Int) : ∀ c ∈ u8s l, V.lt 0 c := by
  intro c hc
  unfold u8s at hc
  obtain ⟨n, _, rfl⟩ := List.mem_map.1 hc
  simp only [V.lt]
def GlobAt (w : World) (g : Nat) (cs : List V) : Prop := ∃ c T fz, w.heap[g]? = some (.cells c T fz) ∧ cs.length ≤ c.size ∧ ∀ (i : Nat) (v : V), cs[i]? = some v → v.isScal = true ∧ ∃ u, c[i]? = some u ∧ ∀ φ w, VR φ w v u
section
variable {D : Type} {enc : TypeId × Value → D} {P : Program} {w : World}
theorem glob_of {n : String} {g : Nat} {cs : Array Value} {l : List Int} (hg : P.globalNamed n = some g) (hv : w.var? P n = some cs) (h : ∀ (i : Nat) (z : Int), l[i]? = some z → cs[i]? = some (Value.int .u8 z)) (hl : l.length ≤ cs.size) : GlobAt w g (u8s l) := by
  simp only [World.var?, hg, Option.bind_some] at hv
  split at hv
  · rename_i c T fz hc
    injection hv with hv
    subst hv
    refine ⟨c, T, fz, hc, by simpa [u8s] using hl, fun i v hi => ?_⟩
    obtain ⟨z, hz, rfl⟩ := u8s_get hi
    exact ⟨rfl, _, h i z hz, fun φ w => by simp only [VR]⟩
  · cases hv
theorem arr_u8 {base : Nat} {spare : Nat → Bool} {held : Bool} {fuel n : Nat} {t e : TypeId} {cs : List Value} {l : List Int} {p : List MemPlace} (ht : P.underlying t = some (.array n e)) (he : P.underlying e = some (.int .u8)) (hc : P.cellsOf e = 1)
    (h : DataW.trod enc P w base spare held fuel t cs = some (.agg (l.map fun z => .lit (.int .u8 z)), p)) : ∀ (i : Nat) (z : Int), l[i]? = some z → cs[i]? = some (Value.int .u8 z) := by
  obtain ⟨xs, m, _, ex, _, hl, hel⟩ := DataW.trod_array ht h
  intro i z hi
  have e3 : xs.map (·.1) = l.map fun z => .lit (.int .u8 z) := (DataW.agg.inj (Prod.mk.inj ex).1).symm
  have hlen : xs.length = l.length := by simpa using congrArg List.length e3
  have hil : i < l.length := (List.getElem?_eq_some_iff.1 hi).1
  have hE := hel i (by omega)
  rw [hc, Nat.mul_one, List.getElem?_eq_getElem (by omega)] at hE
  obtain ⟨y, e1, e2, _⟩ := DataW.trod_int he hE
  have e4 : (xs.map (·.1))[i]? = (l.map fun z => (DataW.lit (.int .u8 z) : DataW D))[i]? := by rw [e3]
  rw [List.getElem?_map, List.getElem?_map, List.getElem?_eq_getElem (by omega : i < xs.length), hi, e2] at e4
  simp only [Option.map_some, Option.some.injEq, DataW.lit.injEq, Lit.int.injEq, true_and] at e4
  subst e4
  have h0 : ((cs.drop i).take 1)[0]? = some (.int .u8 y) := by rw [e1]; rfl
  simpa using h0
/-- of pairs of bytes -/
def flat2 : List (Int × Int) → List Int
  | [] => []
  | (a, b) :: l => a :: b :: flat2 l
theorem flat2_get : ∀ {l : List (Int × Int)} {i : Nat} {z : Int}, (flat2 l)[i]? = some z → ∃ x, l[i / 2]? = some x ∧ ((i % 2 = 0 ∧ z = x.1) ∨ (i % 2 = 1 ∧ z = x.2))
  | [], i, z, h => by simp [flat2] at h
  | (a, b) :: l, 0, z, h => by simp [flat2] at h; exact ⟨(a, b), rfl, .inl ⟨rfl, h.symm⟩⟩
  | (a, b) :: l, 1, z, h => by simp [flat2] at h; exact ⟨(a, b), rfl, .inr ⟨rfl, h.symm⟩⟩
  | (a, b) :: l, i + 2, z, h => by
    simp only [flat2, List.getElem?_cons_succ] at h
    obtain ⟨x, h1, h2⟩ := flat2_get h
    refine ⟨x, ?_, ?_⟩
    · rw [show (i + 2) / 2 = i / 2 + 1 by omega, List.getElem?_cons_succ]; exact h1
    · rw [show (i + 2) % 2 = i % 2 by omega]; exact h2
theorem arr_u8u8 {base : Nat} {spare : Nat → Bool} {held : Bool} {fuel n : Nat} {t e b : TypeId} {fs : Array Field} {f0 f1 : Field} {cs : List Value} {l : List (Int × Int)} {p : List MemPlace} (ht : P.underlying t = some (.array n e)) (he : P.underlying e = some (.struct fs)) (hfs : fs = #[f0, f1])
    (ho0 : f0.offset = 0) (ho1 : f1.offset = 1) (ht0 : f0.type = b) (ht1 : f1.type = b) (hb : P.underlying b = some (.int .u8)) (hcb : P.cellsOf b = 1) (hc : P.cellsOf e = 2)
    (h : DataW.trod enc P w base spare held fuel t cs = some (.agg (l.map fun z => .agg [.lit (.int .u8 z.1), .lit (.int .u8 z.2)]), p)) : ∀ (i : Nat) (z : Int), (flat2 l)[i]? = some z → cs[i]? = some (Value.int .u8 z) := by
  obtain ⟨xs, m, _, ex, _, hl, hel⟩ := DataW.trod_array ht h
  intro i z hi
  obtain ⟨x, hx, hz⟩ := flat2_get hi
  have e3 : xs.map (·.1) = l.map fun z => .agg [.lit (.int .u8 z.1), .lit (.int .u8 z.2)] := (DataW.agg.inj (Prod.mk.inj ex).1).symm
  have hlen : xs.length = l.length := by simpa using congrArg List.length e3
  have hil : i / 2 < l.length := (List.getElem?_eq_some_iff.1 hx).1
  have hE := hel (i / 2) (by omega)
  rw [hc, List.getElem?_eq_getElem (by omega)] at hE
  obtain ⟨ys, k, _, ey, _, hyl, hey⟩ := DataW.trod_struct he hE
  have e4 : (xs.map (·.1))[i / 2]? = (l.map fun z => (DataW.agg [.lit (.int .u8 z.1), .lit (.int .u8 z.2)] : DataW D))[i / 2]? := by rw [e3]
  rw [List.getElem?_map, List.getElem?_map, List.getElem?_eq_getElem (by omega : i / 2 < xs.length), hx, ey] at e4
  simp only [Option.map_some, Option.some.injEq, DataW.agg.injEq] at e4
  subst hfs
  have hyl : ys.length = 2 := hyl
  match ys, hyl, e4 with
  | [y0, y1], _, e4 =>
    simp only [List.map_cons, List.map_nil, List.cons.injEq, and_true] at e4
    have h0 := hey 0 f0 rfl
    have h1 := hey 1 f1 rfl
    rw [ho0, ht0, hcb] at h0
    rw [ho1, ht1, hcb] at h1
    obtain ⟨n0, a1, a2, _⟩ := DataW.trod_int hb h0
    obtain ⟨n1, b1, b2, _⟩ := DataW.trod_int hb h1
    rw [a2, b2] at e4
    simp only [DataW.lit.injEq, Lit.int.injEq, true_and] at e4
    obtain ⟨e5, e6⟩ := e4
    subst e5; subst e6
    have c0 : cs[i / 2 * 2]? = some (.int .u8 x.1) := by
      have h0 : ((((cs.drop (i / 2 * 2)).take 2).drop 0).take 1)[0]? = some (.int .u8 x.1) := by rw [a1]; rfl
      simpa using h0
    have c1 : cs[i / 2 * 2 + 1]? = some (.int .u8 x.2) := by
      have h0 : ((((cs.drop (i / 2 * 2)).take 2).drop 1).take 1)[0]? = some (.int .u8 x.2) := by rw [b1]; rfl
      simpa [List.getElem?_take] using h0
    rcases hz with ⟨hm, rfl⟩ | ⟨hm, rfl⟩
    · have : i = i / 2 * 2 := by omega
      rw [← this] at c0; exact c0
    · have : i = i / 2 * 2 + 1 := by omega
      rw [← this] at c1; exact c1
end
end Go.Proofs.YtbjpecknlohicaaDoor.Lg
