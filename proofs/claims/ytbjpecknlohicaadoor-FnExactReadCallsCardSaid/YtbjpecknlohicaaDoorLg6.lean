/- The logical machine against the model: what one operation does (cells, types, loads, stores, new blocks). No condition. -/
import Derived.Test.YtbjpecknlohicaaDoorLg5
namespace Go.Proofs.YtbjpecknlohicaaDoor.Lg
set_option linter.unusedSimpArgs false
set_option linter.unusedVariables false
open Go.RowKit (Below)

/-! ### lists and arrays that are written -/
def putA (c : Array Value) (o : Nat) : List Value → Array Value
  | [] => c
  | x :: xs => putA (c.setIfInBounds o x) (o + 1) xs
theorem putA_size : ∀ (xs : List Value) (c : Array Value) (o : Nat), (putA c o xs).size = c.size
  | [], _, _ => rfl
  | x :: xs, c, o => by rw [putA, putA_size xs]; simp
theorem putA_get : ∀ (xs : List Value) (c : Array Value) (o i : Nat), o + xs.length ≤ c.size → (putA c o xs)[i]? = if o ≤ i ∧ i < o + xs.length then xs[i - o]? else c[i]?
  | [], c, o, i, _ => by rw [putA, if_neg (by simp only [List.length_nil]; omega)]
  | x :: xs, c, o, i, h => by
    simp only [List.length_cons] at h
    rw [putA, putA_get xs _ _ _ (by simp; omega)]
    by_cases h1 : o + 1 ≤ i ∧ i < o + 1 + xs.length
    · rw [if_pos h1, if_pos (by simp; omega)]
      rw [show i - o = (i - (o + 1)) + 1 by omega, List.getElem?_cons_succ]
    · rw [if_neg h1, Array.getElem?_setIfInBounds]
      by_cases h2 : i = o
      · subst h2; rw [if_pos rfl, if_pos (by omega), if_pos (by simp)]; simp
      · rw [if_neg (by omega), if_neg (by simp; omega)]
theorem putAt_length : ∀ (xs cs : List V) (o : Nat), (putAt cs o xs).length = cs.length
  | [], _, _ => rfl
  | x :: xs, cs, o => by rw [putAt, putAt_length xs]; simp
theorem putAt_get : ∀ (xs cs : List V) (o i : Nat), o + xs.length ≤ cs.length → (putAt cs o xs)[i]? = if o ≤ i ∧ i < o + xs.length then xs[i - o]? else cs[i]?
  | [], cs, o, i, _ => by rw [putAt, if_neg (by simp only [List.length_nil]; omega)]
  | x :: xs, cs, o, i, h => by
    simp only [List.length_cons] at h
    rw [putAt, putAt_get xs _ _ _ (by simp; omega)]
    by_cases h1 : o + 1 ≤ i ∧ i < o + 1 + xs.length
    · rw [if_pos h1, if_pos (by simp; omega)]
      rw [show i - o = (i - (o + 1)) + 1 by omega, List.getElem?_cons_succ]
    · rw [if_neg h1, List.getElem?_set]
      by_cases h2 : i = o
      · subst h2; rw [if_pos rfl, if_pos (by omega), if_pos (by simp)]; simp
      · rw [if_neg (by omega), if_neg (by simp; omega)]

theorem addr_add (q o i : Nat) : (⟨q, o, none⟩ : Addr).add i = ⟨q, o + i, none⟩ := by unfold Addr.add; split <;> simp_all

/-! ### values -/
theorem VR_ofScal {u : Value} {v : V} (h : scal u = some v) (φ : Phi) (w : World) : VR φ w v u ∧ v.isScal = true ∧ u.oneCell' = true := by
  unfold scal at h
  split at h <;> first
    | (cases h; done)
    | (injection h with h; subst h; refine ⟨?_, rfl, rfl⟩; simp only [VR]; done)
    | (injection h with h; subst h; exact ⟨by simp only [VR, VRs]; exact ⟨[], rfl, rfl⟩, rfl, rfl⟩)
theorem VRs_ofScals : ∀ {us : List Value} {vs : List V}, scals us = some vs → ∀ (φ : Phi) (w : World), VRs φ w vs us ∧ vs.all V.isScal = true
  | [], vs, h, φ, w => by injection h with h; subst h; exact ⟨by simp only [VRs], rfl⟩
  | u :: us, vs, h, φ, w => by
    simp only [scals] at h
    split at h
    · rename_i x xs hx hxs
      injection h with h; subst h
      obtain ⟨h1, h2, _⟩ := VR_ofScal hx φ w
      obtain ⟨h3, h4⟩ := VRs_ofScals hxs φ w
      exact ⟨by simp only [VRs]; exact ⟨u, us, rfl, h1, h3⟩, by simp [h2, h4]⟩
    · cases h
theorem VR_ofValue {u : Value} {v : V} (h : ofValue u = some v) (φ : Phi) (w : World) : VR φ w v u := by
  unfold ofValue at h
  split at h
  · rename_i cs
    cases hs : scals cs with
    | none => rw [hs] at h; cases h
    | some vs =>
      rw [hs] at h; injection h with h; subst h
      obtain ⟨h1, h2⟩ := VRs_ofScals hs φ w
      simp only [VR]; exact ⟨h2, cs, rfl, h1⟩
  · injection h with h; subst h; simp only [VR, VRs]; exact ⟨[], rfl, rfl⟩
  · exact (VR_ofScal h φ w).1

theorem VR_scal {φ : Phi} {w : World} {v : V} {u : Value} (h : VR φ w v u) (hs : v.isScal = true) : u.oneCell' = true ∧ v.cells = [v] ∧ u.cells = #[u] := by
  cases v <;> simp only [VR] at h <;> first
    | (cases hs; done)
    | (subst h; exact ⟨rfl, rfl, rfl⟩)
    | (obtain ⟨q, d, _, rfl⟩ := h; exact ⟨rfl, rfl, rfl⟩)
    | (obtain ⟨_, q, d, off, c', _, rfl, _⟩ := h; exact ⟨rfl, rfl, rfl⟩)
    | (obtain ⟨cs, rfl, _⟩ := h; exact ⟨rfl, rfl, rfl⟩)
theorem VR_cells {φ : Phi} {w : World} {v : V} {u : Value} (h : VR φ w v u) (ht : v.isTup = false) : VRs φ w v.cells u.cells.toList ∧ v.cells.all V.isScal = true := by
  cases v with
  | agg cs =>
    simp only [VR] at h
    obtain ⟨hs, us, rfl, k⟩ := h
    exact ⟨k, hs⟩
  | tup => cases ht
  | _ =>
    obtain ⟨_, h2, h3⟩ := VR_scal h rfl
    rw [h2, h3]
    exact ⟨by simp only [VRs]; exact ⟨u, [], rfl, h, rfl⟩, rfl⟩
theorem all_get {vs : List V} {f : V → Bool} (h : vs.all f = true) {i : Nat} {v : V} (hv : vs[i]? = some v) : f v = true := List.all_eq_true.1 h v (List.mem_of_getElem? hv)

/-! ### types -/
section
variable {P : Program}
theorem ty_some {t : TypeId} {i : TI} (h : ty P t = some i) : ∃ j d, P.info? t = some j ∧ P.underlying t = some d ∧ i = ⟨j.size, j.bytes, tkOf P t d, j.zero.bind ofValue⟩ := by
  unfold ty at h
  split at h
  · rename_i j d h1 h2; injection h with h; exact ⟨j, d, h1, h2, h.symm⟩
  · cases h
theorem ty_size {t : TypeId} {i : TI} (h : ty P t = some i) (w : World) : (sizeOf t).run P w = .ok i.size w := by
  obtain ⟨j, d, h1, h2, rfl⟩ := ty_some h
  simp [sizeOf, typeInfo, h1]
theorem tk_agg (t : TypeId) (d : TypeDesc) : (tkOf P t d).isAgg = (match d with | .struct _ => true | .array _ _ => true | _ => false) := by cases d <;> rfl
theorem ty_agg {t : TypeId} {i : TI} (h : ty P t = some i) (w : World) : (isAgg t).run P w = .ok i.kind.isAgg w := by
  obtain ⟨j, d, h1, h2, rfl⟩ := ty_some h
  simp only [isAgg, Sem.run_bind, run_underlying h2, Result.andThen_ok, tk_agg]
  cases d <;> rfl
theorem ty_zero {t : TypeId} {i : TI} {z : V} (h : ty P t = some i) (hz : i.zero = some z) (w : World) : ∃ u, (zeroValue t).run P w = .ok u w ∧ ∀ φ w, VR φ w z u := by
  obtain ⟨j, d, h1, h2, rfl⟩ := ty_some h
  simp only [Option.bind_eq_some_iff] at hz
  obtain ⟨u, hu, hz⟩ := hz
  exact ⟨u, by simp [zeroValue, typeInfo, h1, hu], VR_ofValue hz⟩
theorem ty_info {t : TypeId} {i : TI} (h : ty P t = some i) (w : World) : ∃ j, (typeInfo t).run P w = .ok j w ∧ j.bytes = i.bytes ∧ j.size = i.size ∧ P.info? t = some j := by
  obtain ⟨j, d, h1, h2, rfl⟩ := ty_some h
  exact ⟨j, by simp [typeInfo, h1], rfl, rfl, h1⟩
theorem ty_under {t : TypeId} {i : TI} (h : ty P t = some i) (w : World) : ∃ d, (underlying t).run P w = .ok d w ∧ i.kind = tkOf P t d ∧ P.underlying t = some d := by
  obtain ⟨j, d, h1, h2, rfl⟩ := ty_some h
  exact ⟨d, run_underlying h2 w, rfl, h2⟩
theorem tk_slice {t : TypeId} {d : TypeDesc} {e : TypeId} (h : tkOf P t d = .slice e) : d = .slice e := by
  cases d <;> simp [tkOf] at h; exact congrArg _ h
theorem tk_array {t : TypeId} {d : TypeDesc} {n : Nat} {e : TypeId} (h : tkOf P t d = .array n e) : d = .array n e := by
  cases d <;> simp [tkOf] at h; rw [h.1, h.2]
theorem tk_map {t : TypeId} {d : TypeDesc} {k e : TypeId} (h : tkOf P t d = .map k e) : d = .map k e := by
  cases d <;> simp [tkOf] at h; rw [h.1, h.2]
theorem tk_int {t : TypeId} {d : TypeDesc} {k : IntKind} (h : tkOf P t d = .int k) : d = .int k := by
  cases d <;> simp [tkOf] at h; rw [h]
theorem tk_str {t : TypeId} {d : TypeDesc} (h : tkOf P t d = .str) : d = .string := by
  cases d <;> simp [tkOf] at h; rfl
theorem tk_bool {t : TypeId} {d : TypeDesc} (h : tkOf P t d = .bool) : d = .bool := by
  cases d <;> simp [tkOf] at h; rfl
theorem tk_struct {t : TypeId} {d : TypeDesc} {fs : List (Nat × TypeId)} {b : Option (List Nat)} (h : tkOf P t d = .struct fs b) :
    ∃ gs : Array Field, d = .struct gs ∧ fs = gs.toList.map (fun f => (f.offset, f.type)) ∧ b = (if P.stoodInHeld t then none else flatFrom P 0 gs.toList) := by
  cases d with
  | struct gs => simp only [tkOf] at h; injection h with h1 h2; exact ⟨gs, rfl, h1.symm, h2.symm⟩
  | _ => simp [tkOf] at h
end

/-! ### cells in memory -/
section
variable {P : Program} {p : Par} {φ : Phi} {H : LH} {w : World}

theorem cell_at {c : Array Value} {T : TypeId} {fz : Nat × Nat} {q : Nat} (h : w.heap[q]? = some (.cells c T fz)) (i : Nat) : w.cell? ⟨q, i, none⟩ = c[i]? := by
  simp [World.cell?, h]
theorem frozen_at {c : Array Value} {T : TypeId} {fz : Nat × Nat} {q : Nat} (h : w.heap[q]? = some (.cells c T fz)) {i : Nat} (hn : ¬ (fz.1 ≤ i ∧ i < fz.2)) : w.frozen? ⟨q, i, none⟩ = false := by
  obtain ⟨lo, hi⟩ := fz
  simp only [World.frozen?, h]
  simp at hn ⊢
  exact hn

/-- a row of cells, read -/
theorem run_load_row {c : Array Value} {T : TypeId} {fz : Nat × Nat} {q o : Nat} (h : w.heap[q]? = some (.cells c T fz)) (us : List Value) (hu : ∀ i u, us[i]? = some u → c[o + i]? = some u) :
    (loadCells ⟨q, o, none⟩ us.length).run P w = .ok us.toArray w :=
  run_loadCells_list w _ us fun j v hj => by rw [addr_add, cell_at h]; exact hu j v hj

theorem run_load_cell {c : Array Value} {T : TypeId} {fz : Nat × Nat} {q o : Nat} (h : w.heap[q]? = some (.cells c T fz)) {u : Value} (hu : c[o]? = some u) :
    (load ⟨q, o, none⟩).run P w = .ok u w := by
  rw [run_load, cell_at h, hu]

/-- a row of cells, written -/
theorem run_store_row {T : TypeId} {fz : Nat × Nat} {q o : Nat} : ∀ (us : List Value) (i : Nat) (c : Array Value) (w : World), w.heap[q]? = some (.cells c T fz) → o + i + us.length ≤ c.size →
    (∀ i, i < c.size → ¬ (fz.1 ≤ i ∧ i < fz.2)) → (∀ u ∈ us, u.oneCell' = true) →
    (storeCells ⟨q, o, none⟩ us i).run P w = .ok () { w with heap := w.heap.setIfInBounds q (.cells (putA c (o + i) us) T fz) }
  | [], i, c, w, h, _, _, _ => by
    have : w.heap.setIfInBounds q (.cells (putA c (o + i) []) T fz) = w.heap := by
      apply Array.ext_getElem?
      intro j
      rw [Array.getElem?_setIfInBounds]
      by_cases hj : q = j
      · subst hj; rw [if_pos rfl, if_pos (Array.getElem?_eq_some_iff.1 h).1, h]; rfl
      · rw [if_neg hj]
    simp only [storeCells, this]; rfl
  | u :: us, i, c, w, h, hl, hf, h1 => by
    simp only [List.length_cons] at hl
    have hi : o + i < c.size := by omega
    have hcell : w.cell? ⟨q, o + i, none⟩ = some c[o + i] := by rw [cell_at h, Array.getElem?_eq_getElem hi]
    have hfro : w.frozen? ⟨q, o + i, none⟩ = false := frozen_at h (hf _ hi)
    have hset : w.setCell ⟨q, o + i, none⟩ u = { w with heap := w.heap.setIfInBounds q (.cells (c.setIfInBounds (o + i) u) T fz) } := by
      unfold World.setCell
      congr 1
      apply Array.ext_getElem?
      intro j
      rw [Array.getElem?_modify, Array.getElem?_setIfInBounds]
      by_cases hj : q = j
      · subst hj; rw [if_pos rfl, if_pos rfl, h, if_pos (Array.getElem?_eq_some_iff.1 h).1]; rfl
      · rw [if_neg hj, if_neg hj]
    have hst : (store ((⟨q, o, none⟩ : Addr).add i) u).run P w = .ok () { w with heap := w.heap.setIfInBounds q (.cells (c.setIfInBounds (o + i) u) T fz) } := by
      rw [addr_add, run_store P w _ u _ (h1 u (by simp)), hcell]
      simp only [hfro, Bool.false_eq_true, if_false, hset]
    have hq : q < w.heap.size := (Array.getElem?_eq_some_iff.1 h).1
    have ih := run_store_row (o := o) us (i + 1) (c.setIfInBounds (o + i) u) { w with heap := w.heap.setIfInBounds q (.cells (c.setIfInBounds (o + i) u) T fz) }
      (by show (w.heap.setIfInBounds q _)[q]? = _; rw [Array.getElem?_setIfInBounds, if_pos rfl, if_pos hq]) (by simp; omega) (by simpa using hf) (fun x hx => h1 x (by simp [hx]))
    simp only [storeCells, Sem.run_bind, hst, Result.andThen_ok, ih]
    congr 2
    rw [Array.setIfInBounds_setIfInBounds]
    rfl

/-- what the logical cells of a block stand for -/
theorem HR.cells (h : HR p φ H w) {b q d : Nat} {cs : List V} (hp : φ b = some (q, d)) (hc : H.cellsAt b = some cs) :
    ∃ c T fz, w.heap[q]? = some (.cells c T fz) ∧ d + cs.length ≤ c.size ∧ (∀ (i : Nat) (v : V), cs[i]? = some v → v.isScal = true ∧ ∃ u, c[d + i]? = some u ∧ VR φ w v u) ∧
      (p.R0 ≤ b → ∀ i, i < c.size → ¬ (fz.1 ≤ i ∧ (i < fz.2 ∨ fz.2 < fz.1))) := h.blk b q d _ hp (cellsAt_some hc)
theorem HR.map (h : HR p φ H w) {b q d : Nat} {es : List (V × V)} (hp : φ b = some (q, d)) (hc : H.mapAt b = some es) :
    ∃ us clk, w.heap[q]? = some (.map us clk) ∧ EsR φ w es us.toList := h.blk b q d _ hp (mapAt_some hc)
theorem HR.glob (h : HR p φ H w) {g : Nat} {cs : List V} (hg : p.G g = some cs) :
    ∃ c T fz, w.heap[g]? = some (.cells c T fz) ∧ cs.length ≤ c.size ∧ ∀ (i : Nat) (v : V), cs[i]? = some v → v.isScal = true ∧ ∃ u, c[i]? = some u ∧ VR φ w v u := by
  obtain ⟨hl, c, T, fz, hc, hs, hv⟩ := h.glo g cs hg
  exact ⟨c, T, fz, (h.old.block g hl).trans hc, hs, fun i v hi => let ⟨h1, u, hu, r⟩ := hv i v hi; ⟨h1, u, hu, r φ w⟩⟩

/-- what stands for a list of cells, as a list of values -/
theorem vals_of {c : Array Value} {d o n : Nat} {cs : List V} (hv : ∀ (i : Nat) (v : V), cs[i]? = some v → v.isScal = true ∧ ∃ u, c[d + i]? = some u ∧ VR φ w v u) (hn : o + n ≤ cs.length) :
    ∃ us : List Value, us.length = n ∧ (∀ i u, us[i]? = some u → c[d + o + i]? = some u) ∧ VRs φ w ((cs.drop o).take n) us ∧ ((cs.drop o).take n).all V.isScal = true := by
  refine ⟨(List.range n).map fun i => (c[d + o + i]?).getD undef, by simp, ?_, ?_, ?_⟩
  · intro i u hi
    rw [List.getElem?_map] at hi
    by_cases hin : i < n
    · rw [List.getElem?_range hin] at hi
      injection hi with hi
      dsimp only at hi
      obtain ⟨_, u', hu', _⟩ := hv (o + i) (cs[o + i]'(by omega)) (List.getElem?_eq_getElem _)
      rw [← Nat.add_assoc] at hu'
      rw [hu'] at hi ⊢
      simpa using hi
    · rw [List.getElem?_eq_none (by simp; omega)] at hi; cases hi
  · refine VRs_iff.2 ⟨by simp; omega, fun i v hi => ?_⟩
    rw [List.getElem?_take] at hi
    split at hi
    · rename_i hin
      rw [List.getElem?_drop] at hi
      obtain ⟨_, u', hu', r⟩ := hv (o + i) v hi
      rw [← Nat.add_assoc] at hu'
      exact ⟨u', by rw [List.getElem?_map, List.getElem?_range hin]; simp [hu'], r⟩
    · cases hi
  · rw [List.all_eq_true]
    intro v hvm
    obtain ⟨i, hi⟩ := List.getElem?_of_mem hvm
    rw [List.getElem?_take] at hi
    split at hi
    · rw [List.getElem?_drop] at hi; exact (hv (o + i) v hi).1
    · cases hi

/-- what an operation gives: a value, a world, and that they are what the logical ones stand for -/
def Res (p : Par) (fl : Nat) (φ : Phi) (H : LH) (w : World) (v : V) (H' : LH) (u : Value) (w' : World) : Prop :=
  ∃ φ', VR φ' w' v u ∧ HR p φ' H' w' ∧ Step fl φ H w φ' H' w'
theorem Res.same {fl : Nat} {v : V} {u : Value} (h : HR p φ H w) (hv : VR φ w v u) : Res p fl φ H w v H u w := ⟨φ, hv, h, .refl⟩

theorem cellO_ok {fl : Nat} {g : Bool} {o n q d : Nat} {cs : List V} {c : Array Value} {T t : TypeId} {fz : Nat × Nat} {v : V} {H' : LH} (h : HR p φ H w) (hq : w.heap[q]? = some (.cells c T fz))
    (hv : ∀ (i : Nat) (v : V), cs[i]? = some v → v.isScal = true ∧ ∃ u, c[d + i]? = some u ∧ VR φ w v u) (hg : (isAgg t).run P w = .ok g w) (hn : (sizeOf t).run P w = .ok n w)
    (e : cellO H g o n (some cs) = some (v, H')) : ∃ u, (loadVar t ⟨q, d + o, none⟩).run P w = .ok u w ∧ Res p fl φ H w v H' u w := by
  unfold cellO at e
  cases g with
  | true =>
    dsimp only at e
    obtain ⟨hl, e⟩ := grd_some e
    injection e with e; injection e with e1 e2; subst e1; subst e2
    obtain ⟨us, hul, hus, hr, hs⟩ := vals_of hv hl
    have := run_load_row (P := P) (o := d + o) hq us hus
    rw [hul] at this
    refine ⟨.agg us.toArray, ?_, .same h ?_⟩
    · simp only [loadVar, Sem.run_bind, hg, Result.andThen_ok, if_true, hn, this]; rfl
    · simp only [VR]; exact ⟨hs, us, rfl, hr⟩
  | false =>
    dsimp only at e
    split at e
    · rename_i x hx
      injection e with e; injection e with e1 e2; subst e1; subst e2
      obtain ⟨_, u, hu, r⟩ := hv o x hx
      refine ⟨u, ?_, .same h r⟩
      simp only [loadVar, Sem.run_bind, hg, Result.andThen_ok, Bool.false_eq_true, if_false]
      exact run_load_cell hq hu
    · cases e

theorem loadO_ok {fl : Nat} {t : TypeId} {a v : V} {ua : Value} {H' : LH} (h : HR p φ H w) (ha : VR φ w a ua) (e : loadO p.G H a (ty P t) = some (v, H')) :
    ∃ u, (Instr.loadAt t ua).run P w = .ok u w ∧ Res p fl φ H w v H' u w := by
  unfold loadO at e
  split at e
  · rename_i i hi
    have hg := ty_agg hi w
    have hn := ty_size hi w
    unfold loadV at e
    split at e
    · rename_i b o
      simp only [VR] at ha
      obtain ⟨q, d, hp, rfl⟩ := ha
      cases hc : H.cellsAt b with
      | none => rw [hc] at e; cases e
      | some cs =>
        rw [hc] at e
        obtain ⟨c, T, fz, hq, hl, hv, _⟩ := h.cells hp hc
        obtain ⟨u, hu, r⟩ := cellO_ok (fl := fl) h hq hv hg hn e
        exact ⟨u, by simp only [Instr.loadAt, Instr.sureAddr, Sem.run_bind, Sem.run_pure, Result.andThen_ok]; exact hu, r⟩
    · rename_i g o
      simp only [VR] at ha
      subst ha
      cases hc : p.G g with
      | none => rw [hc] at e; cases e
      | some cs =>
        rw [hc] at e
        obtain ⟨c, T, fz, hq, hl, hv⟩ := h.glob hc
        obtain ⟨u, hu, r⟩ := cellO_ok (fl := fl) (d := 0) h hq (by simpa using hv) hg hn e
        simp only [Nat.zero_add] at hu
        exact ⟨u, by simp only [Instr.loadAt, Instr.sureAddr, Sem.run_bind, Sem.run_pure, Result.andThen_ok]; exact hu, r⟩
    · cases e
  · cases e

/-- cells of a new block -/
theorem new_cells {fl : Nat} {cs : List V} {us : List Value} (h : HR p φ H w) (T : TypeId) (hR : p.R0 ≤ H.length) (nf : φ H.length = none) (hr : VRs φ w cs us) (hs : cs.all V.isScal = true) (more : List Value) (fz : Nat × Nat)
    (hfz : ∀ i, i < us.length + more.length → ¬ (fz.1 ≤ i ∧ (i < fz.2 ∨ fz.2 < fz.1))) :
    HR p (φ.put H.length w.heap.size 0) (H ++ [.cells cs]) { w with heap := w.heap.push (.cells (us ++ more).toArray T fz) } ∧
      Step fl φ H w (φ.put H.length w.heap.size 0) (H ++ [.cells cs]) { w with heap := w.heap.push (.cells (us ++ more).toArray T fz) } := by
  refine ⟨new_HR h nf hR ?_, new_Step h nf⟩
  obtain ⟨hl, hi⟩ := VRs_iff.1 hr
  refine ⟨(us ++ more).toArray, T, fz, alloc_new _ _, by simp; omega, fun i v hv => ⟨all_get hs hv, ?_⟩, fun _ i hi' => hfz i (by simpa using hi')⟩
  obtain ⟨u, hu, r⟩ := hi i v hv
  refine ⟨u, ?_, r.mono (new_ext h _ nf)⟩
  have : i < us.length := (List.getElem?_eq_some_iff.1 hu).1
  simp [List.getElem?_append_left this, hu]
theorem put_self (φ : Phi) (b q d : Nat) : φ.put b q d b = some (q, d) := by simp [Phi.put]

theorem ptrV_ok {fl : Nat} {t : TypeId} {x v : V} {ux : Value} {H' : LH} (h : HR p φ H w) (hR : p.R0 ≤ H.length) (nf : NoFloat φ H H') (hx : VR φ w x ux) (e : ptrV H x = some (v, H')) :
    ∃ u w', (do pure (.pointer (some (← newVar t ux))) : Sem Value).run P w = .ok u w' ∧ Res p fl φ H w v H' u w' := by
  obtain ⟨ht, e⟩ := grd_some e
  injection e with e; injection e with e1 e2; subst e1; subst e2
  obtain ⟨hc, hs⟩ := VR_cells hx ht
  obtain ⟨h1, h2⟩ := new_cells (fl := fl) h t hR nf.new hc hs [] (0, 0) (fun i _ => by simp)
  refine ⟨_, _, rfl, φ.put H.length w.heap.size 0, ?_, ?_, ?_⟩
  · simp only [VR]; exact ⟨w.heap.size, 0, put_self _ _ _ _, rfl⟩
  · simpa using h1
  · simpa using h2

theorem VRs_all_one {vs : List V} {us : List Value} (h : VRs φ w vs us) (hs : vs.all V.isScal = true) : ∀ u ∈ us, u.oneCell' = true := by
  obtain ⟨hl, hi⟩ := VRs_iff.1 h
  intro u hu
  obtain ⟨i, hu⟩ := List.getElem?_of_mem hu
  have hil : i < vs.length := by rw [hl]; exact (List.getElem?_eq_some_iff.1 hu).1
  obtain ⟨u', hu', r⟩ := hi i vs[i] (List.getElem?_eq_getElem hil)
  rw [hu] at hu'; injection hu' with hu'; subst hu'
  exact (VR_scal r (all_get hs (List.getElem?_eq_getElem hil))).1

/-- a row written into a block of the logical heap -/
theorem write_ok {fl b q d o : Nat} {cs xs : List V} {us : List Value} {c : Array Value} {T : TypeId} {fz : Nat × Nat} (h : HR p φ H w) (hp : φ b = some (q, d)) (hc : H.cellsAt b = some cs) (hfl : fl ≤ b) (hR : p.R0 ≤ fl)
    (hq : w.heap[q]? = some (.cells c T fz)) (hx : VRs φ w xs us) (hs : xs.all V.isScal = true) (ho : o + xs.length ≤ cs.length) :
    HR p φ (H.set b (.cells (putAt cs o xs))) { w with heap := w.heap.setIfInBounds q (.cells (putA c (d + o) us) T fz) } ∧
      Step fl φ H w φ (H.set b (.cells (putAt cs o xs))) { w with heap := w.heap.setIfInBounds q (.cells (putA c (d + o) us) T fz) } := by
  obtain ⟨c', T', fz', hq', hl, hv, hf⟩ := h.cells hp hc
  rw [hq] at hq'; injection hq' with hq'; injection hq' with e1 e2 e3; subst e1; subst e2; subst e3
  obtain ⟨hxl, hxi⟩ := VRs_iff.1 hx
  refine set_HR h hp hfl hR (cellsAt_some hc) (by simp) hq ?_ ?_
  · intro c1 T1 fz1 e
    injection e with e1 e2 e3; subst e1
    exact ⟨_, _, _, rfl, putA_size _ _ _⟩
  · intro w' hw' he
    refine ⟨putA c (d + o) us, T, fz, by rw [hw', if_pos rfl], by rw [putA_size, putAt_length]; exact hl, ?_, fun hr i hi => hf hr i (by rwa [putA_size] at hi)⟩
    intro i v hi
    rw [putAt_get _ _ _ _ ho] at hi
    rw [putA_get _ _ _ _ (by omega)]
    by_cases hin : o ≤ i ∧ i < o + xs.length
    · rw [if_pos hin] at hi
      rw [if_pos (by omega)]
      obtain ⟨u, hu, r⟩ := hxi _ _ hi
      exact ⟨all_get hs hi, u, by rw [show d + i - (d + o) = i - o by omega]; exact hu, r.mono he⟩
    · rw [if_neg hin] at hi
      rw [if_neg (by omega)]
      obtain ⟨h1, u, hu, r⟩ := hv i v hi
      exact ⟨h1, u, hu, r.mono he⟩

theorem storeT_ok {fl : Nat} {t : TypeId} {a x v : V} {ua ux : Value} {H' : LH} (h : HR p φ H w) (hR : p.R0 ≤ fl) (ha : VR φ w a ua) (hx : VR φ w x ux) (e : storeT fl H a x (ty P t) = some (v, H')) :
    ∃ w', (Instr.storeAt t ua ux).run P w = .ok () w' ∧ Res p fl φ H w v H' undef w' := by
  unfold storeT at e
  split at e
  · rename_i i hi
    unfold storeV at e
    split at e
    · rename_i b o
      simp only [VR] at ha
      obtain ⟨q, d, hp, rfl⟩ := ha
      cases hc : H.cellsAt b with
      | none => rw [hc] at e; cases e
      | some cs =>
        rw [hc] at e
        unfold storeO at e
        dsimp only at e
        obtain ⟨⟨h1, h2, h3, h4⟩, e⟩ := grd_some e
        injection e with e; injection e with e1 e2; subst e1; subst e2
        obtain ⟨hxc, hxs⟩ := VR_cells hx h4
        obtain ⟨c, T, fz, hq, hl, hv, hf⟩ := h.cells hp hc
        have hul : ux.cells.toList.length = i.size := by rw [← (VRs_iff.1 hxc).1, h1]
        have hfit : d + o + 0 + ux.cells.toList.length ≤ c.size := by omega
        have hst := run_store_row (P := P) ux.cells.toList 0 c w hq hfit (fun i hi e => hf (by omega) i hi ⟨e.1, .inl e.2⟩) (VRs_all_one hxc hxs)
        have ho : o + x.cells.length ≤ cs.length := by omega
        obtain ⟨r1, r2⟩ := write_ok h hp hc h3 hR hq hxc hxs ho
        refine ⟨_, ?_, φ, ?_, r1, r2⟩
        · simp only [Instr.storeAt, Instr.sureAddr, storeVar, Sem.run_bind, Sem.run_pure, Result.andThen_ok, ty_size hi, Sem.run_ite]
          rw [if_neg (by simp at hul ⊢; exact hul)]
          exact hst
        · simp only [VR, VRs]; exact ⟨[], rfl, rfl⟩
    · cases e
  · cases e
end

end Go.Proofs.YtbjpecknlohicaaDoor.Lg
