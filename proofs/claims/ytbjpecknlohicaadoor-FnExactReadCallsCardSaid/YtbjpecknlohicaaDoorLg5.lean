/- The logical machine against the model's memory: what a logical value and a logical heap stand for. No condition. -/
import Derived.Test.YtbjpecknlohicaaDoorLg4
import Derived.Below
import Derived.Laws.Cells
import Derived.Laws.CopyRow
namespace Go.Proofs.YtbjpecknlohicaaDoor.Lg
set_option linter.unusedSimpArgs false
set_option linter.unusedVariables false
open Go.RowKit (Below)

abbrev Phi := Nat → Option (Nat × Nat)

/-- block q is a row of at least n cells -/
def RowOk (w : World) (q n : Nat) : Prop := ∃ c T fz, w.heap[q]? = some (.cells c T fz) ∧ n ≤ c.size

mutual
def VR (φ : Phi) (w : World) : V → Value → Prop
  | .bool b, u => u = .bool b
  | .int k n, u => u = .int k n
  | .str s, u => u = .string s
  | .ptr b o, u => ∃ q d, φ b = some (q, d) ∧ u = .pointer (some ⟨q, d + o, none⟩)
  | .gptr g o, u => u = .pointer (some ⟨g, o, none⟩)
  | .nilp, u => u = .pointer none
  | .sl b o z n c, u => n ≤ c ∧ ∃ q d off c', φ b = some (q, d) ∧ u = .slice (some ⟨q, off, none⟩) n c' ∧ c ≤ c' ∧ (off = d + o ∨ c' = 0) ∧ RowOk w q (off + c' * z)
  | .nilsl, u => u = .slice none 0 0
  | .emp, u => ∃ a, u = .slice (some a) 0 0
  | .map b, u => ∃ q d, φ b = some (q, d) ∧ u = .map (some q)
  | .nilmap, u => u = .map none
  | .fn f caps, u => ∃ cs, u = .func (.func f) #[] ⟨cs⟩ ∧ VRs φ w caps cs
  | .nilfn, u => u = .nilFunc
  | .agg cs, u => cs.all V.isScal = true ∧ ∃ us, u = .agg ⟨us⟩ ∧ VRs φ w cs us
  | .tup cs, u => ∃ us, u = .tuple ⟨us⟩ ∧ VRs φ w cs us
def VRs (φ : Phi) (w : World) : List V → List Value → Prop
  | [], us => us = []
  | v :: vs, us => ∃ u us', us = u :: us' ∧ VR φ w v u ∧ VRs φ w vs us'
end

theorem VRs_iff {φ : Phi} {w : World} : ∀ {vs : List V} {us : List Value}, VRs φ w vs us ↔ vs.length = us.length ∧ ∀ (i : Nat) (v : V), vs[i]? = some v → ∃ u, us[i]? = some u ∧ VR φ w v u
  | [], us => by
    simp only [VRs]
    constructor
    · rintro rfl; exact ⟨rfl, fun i v h => by simp at h⟩
    · rintro ⟨h, _⟩; exact List.eq_nil_of_length_eq_zero h.symm
  | v :: vs, us => by
    simp only [VRs]
    constructor
    · rintro ⟨u, us', rfl, hv, hs⟩
      obtain ⟨hl, hi⟩ := VRs_iff.1 hs
      refine ⟨by simp [hl], fun i x h => ?_⟩
      cases i with
      | zero => simp at h; subst h; exact ⟨u, rfl, hv⟩
      | succ i => simp at h; exact hi i x h
    · rintro ⟨hl, hi⟩
      cases us with
      | nil => simp at hl
      | cons u us =>
        refine ⟨u, us, rfl, ?_, VRs_iff.2 ⟨by simpa using hl, fun i x h => hi (i + 1) x h⟩⟩
        obtain ⟨u', hu, hv⟩ := hi 0 v rfl
        simp at hu; subst hu; exact hv

/-- more is known, and rows do not shrink -/
structure Ext (φ : Phi) (w : World) (φ' : Phi) (w' : World) : Prop where
  ext : ∀ b x, φ b = some x → φ' b = some x
  siz : ∀ q n, RowOk w q n → RowOk w' q n
theorem Ext.refl (φ : Phi) (w : World) : Ext φ w φ w := ⟨fun _ _ h => h, fun _ _ h => h⟩
theorem Ext.trans {φ φ' φ'' : Phi} {w w' w'' : World} (h : Ext φ w φ' w') (k : Ext φ' w' φ'' w'') : Ext φ w φ'' w'' :=
  ⟨fun b x e => k.ext b x (h.ext b x e), fun q n e => k.siz q n (h.siz q n e)⟩

mutual
theorem VR.mono {φ φ' : Phi} {w w' : World} (h : Ext φ w φ' w') : ∀ {v : V} {u : Value}, VR φ w v u → VR φ' w' v u
  | .bool _, _, e => by simp only [VR] at e ⊢; exact e
  | .int _ _, _, e => by simp only [VR] at e ⊢; exact e
  | .str _, _, e => by simp only [VR] at e ⊢; exact e
  | .ptr _ _, _, e => by simp only [VR] at e ⊢; obtain ⟨q, d, hb, e⟩ := e; exact ⟨q, d, h.ext _ _ hb, e⟩
  | .gptr _ _, _, e => by simp only [VR] at e ⊢; exact e
  | .nilp, _, e => by simp only [VR] at e ⊢; exact e
  | .sl _ _ _ _ _, _, e => by
    simp only [VR] at e ⊢
    obtain ⟨hn, q, d, off, c', hb, e, hc, ho, hr⟩ := e
    exact ⟨hn, q, d, off, c', h.ext _ _ hb, e, hc, ho, h.siz _ _ hr⟩
  | .nilsl, _, e => by simp only [VR] at e ⊢; exact e
  | .emp, _, e => by simp only [VR] at e ⊢; exact e
  | .map _, _, e => by simp only [VR] at e ⊢; obtain ⟨q, d, hb, e⟩ := e; exact ⟨q, d, h.ext _ _ hb, e⟩
  | .nilmap, _, e => by simp only [VR] at e ⊢; exact e
  | .fn _ _, _, e => by simp only [VR] at e ⊢; obtain ⟨cs, e, k⟩ := e; exact ⟨cs, e, VRs.mono h k⟩
  | .nilfn, _, e => by simp only [VR] at e ⊢; exact e
  | .agg _, _, e => by simp only [VR] at e ⊢; obtain ⟨hs, us, e, k⟩ := e; exact ⟨hs, us, e, VRs.mono h k⟩
  | .tup _, _, e => by simp only [VR] at e ⊢; obtain ⟨us, e, k⟩ := e; exact ⟨us, e, VRs.mono h k⟩
theorem VRs.mono {φ φ' : Phi} {w w' : World} (h : Ext φ w φ' w') : ∀ {vs : List V} {us : List Value}, VRs φ w vs us → VRs φ' w' vs us
  | [], _, e => by simp only [VRs] at e ⊢; exact e
  | _ :: _, _, e => by
    simp only [VRs] at e ⊢
    obtain ⟨u, us', e, k, ks⟩ := e
    exact ⟨u, us', e, VR.mono h k, VRs.mono h ks⟩
end

/-- two maps' entries -/
def EsR (φ : Phi) (w : World) : List (V × V) → List MapEntry → Prop
  | [], us => us = []
  | (k, v) :: es, us => ∃ m us', us = m :: us' ∧ VR φ w k m.key ∧ VR φ w v m.val ∧ EsR φ w es us'
theorem EsR.mono {φ φ' : Phi} {w w' : World} (h : Ext φ w φ' w') : ∀ {es : List (V × V)} {us : List MapEntry}, EsR φ w es us → EsR φ' w' es us
  | [], _, e => e
  | (_, _) :: _, _, ⟨m, us', e, a, b, c⟩ => ⟨m, us', e, a.mono h, b.mono h, EsR.mono h c⟩

def BlkR (wr : Prop) (φ : Phi) (w : World) (q d : Nat) : Blk → Prop
  | .cells cs => ∃ c T fz, w.heap[q]? = some (.cells c T fz) ∧ d + cs.length ≤ c.size ∧ (∀ (i : Nat) (v : V), cs[i]? = some v → v.isScal = true ∧ ∃ u, c[d + i]? = some u ∧ VR φ w v u) ∧
      (wr → ∀ i, i < c.size → ¬ (fz.1 ≤ i ∧ (i < fz.2 ∨ fz.2 < fz.1)))
  | .map es => ∃ us clk, w.heap[q]? = some (.map us clk) ∧ EsR φ w es us.toList
  | .dead => True
theorem BlkR.mono {wr : Prop} {φ φ' : Phi} {w w' : World} {q d : Nat} (h : Ext φ w φ' w') (hq : w'.heap[q]? = w.heap[q]?) : ∀ {x : Blk}, BlkR wr φ w q d x → BlkR wr φ' w' q d x
  | .cells _, ⟨c, T, fz, e, hl, hv, hf⟩ => ⟨c, T, fz, hq.trans e, hl, fun i v hi => let ⟨hs, u, hu, r⟩ := hv i v hi; ⟨hs, u, hu, r.mono h⟩, hf⟩
  | .map _, ⟨us, clk, e, r⟩ => ⟨us, clk, hq.trans e, r.mono h⟩
  | .dead, _ => trivial

/-- no block, or one given up -/
def Gone (H : LH) (b : Nat) : Prop := ∀ x, H[b]? = some x → x = .dead
theorem Gone.of {H : LH} {b : Nat} (h : H[b]? = some .dead) : Gone H b := fun x e => by rw [h] at e; injection e with e; exact e.symm
theorem Gone.left {H L : LH} {b : Nat} (h : Gone (H ++ L) b) : Gone H b := fun x e => h x (by rw [List.getElem?_append_left (List.getElem?_eq_some_iff.1 e).1]; exact e)
theorem Gone.push {H : LH} {b : Nat} (h : Gone H b) (x : Blk) (hb : b ≠ H.length) : Gone (H ++ [x]) b := by
  intro y e
  rcases Nat.lt_or_ge b H.length with hl | hl
  · rw [List.getElem?_append_left hl] at e; exact h y e
  · have := (List.getElem?_eq_some_iff.1 e).1
    simp at this
    omega
theorem Gone.set {H : LH} {b i : Nat} {x : Blk} (h : Gone H i) (hx : x = .dead ∨ b ≠ i) : Gone (H.set b x) i := by
  intro y e
  by_cases hb : b = i
  · subst hb
    have hl := (List.getElem?_eq_some_iff.1 e).1
    rw [List.getElem?_set_self (by simpa using hl)] at e
    injection e with e
    rcases hx with rfl | hx
    · exact e.symm
    · exact absurd rfl hx
  · rw [List.getElem?_set_ne hb] at e; exact h y e

/-- what stays through a run: blocks below R0 are only read, the world's blocks below Q0 are as they were -/
structure Par where
  R0 : Nat
  Q0 : Nat
  w0 : World
  G : Nat → Option (List V)

structure HR (p : Par) (φ : Phi) (H : LH) (w : World) : Prop where
  blk : ∀ b q d x, φ b = some (q, d) → H[b]? = some x → BlkR (p.R0 ≤ b) φ w q d x
  bnd : ∀ b q d, φ b = some (q, d) → q < w.heap.size
  inj : ∀ b b' q d d', φ b = some (q, d) → φ b' = some (q, d') → p.R0 ≤ b → b ≠ b' → Gone H b ∨ Gone H b'
  low : ∀ b q d, φ b = some (q, d) → p.R0 ≤ b → p.Q0 ≤ q
  q0 : p.Q0 ≤ w.heap.size
  old : Below p.Q0 p.w0 w
  glo : ∀ g cs, p.G g = some cs → g < p.Q0 ∧ ∃ c T fz, p.w0.heap[g]? = some (.cells c T fz) ∧ cs.length ≤ c.size ∧ ∀ (i : Nat) (v : V), cs[i]? = some v → v.isScal = true ∧ ∃ u, c[i]? = some u ∧ ∀ φ w, VR φ w v u

/-- what a step does to memory -/
structure Step (fl : Nat) (φ : Phi) (H : LH) (w : World) (φ' : Phi) (H' : LH) (w' : World) : Prop where
  ext : Ext φ w φ' w'
  dom : ∀ b x, φ' b = some x → φ b = none → H.length ≤ b ∧ b < H'.length
  img : ∀ b q d, φ' b = some (q, d) → φ b = none → w.heap.size ≤ q ∨ ∃ b0 d0, fl ≤ b0 ∧ b0 < H.length ∧ φ b0 = some (q, d0)
  frm : ∀ q, q < w.heap.size → (∀ b d, fl ≤ b → b < H.length → φ b ≠ some (q, d)) → w'.heap[q]? = w.heap[q]?
  len : w.heap.size ≤ w'.heap.size
  grow : Grow fl H H'

def NoFloat (φ : Phi) (H H' : LH) : Prop := ∀ b x, φ b = some x → b < H.length ∨ H'.length ≤ b

theorem Step.refl {fl : Nat} {φ : Phi} {H : LH} {w : World} : Step fl φ H w φ H w :=
  ⟨.refl _ _, fun b x h e => (by rw [e] at h; cases h), fun b q d h e => (by rw [e] at h; cases h), fun _ _ _ => rfl, Nat.le_refl _, .refl _ _⟩

theorem Step.trans {fl : Nat} {φ φ1 φ2 : Phi} {H H1 H2 : LH} {w w1 w2 : World} (h : Step fl φ H w φ1 H1 w1) (k : Step fl φ1 H1 w1 φ2 H2 w2) (nf : NoFloat φ H H1) : Step fl φ H w φ2 H2 w2 := by
  refine ⟨h.ext.trans k.ext, ?_, ?_, ?_, Nat.le_trans h.len k.len, h.grow.trans k.grow⟩
  · intro b x e n
    cases h1 : φ1 b with
    | none => have := k.dom b x e h1; have := h.grow.len; omega
    | some y => have := h.dom b y h1 n; have := k.grow.len; omega
  · intro b q d e n
    cases h1 : φ1 b with
    | some y =>
      have := k.ext.ext b y h1
      rw [e] at this; injection this with this; subst this
      exact h.img b q d h1 n
    | none =>
      rcases k.img b q d e h1 with hq | ⟨b0, d0, hb, hl, hp⟩
      · exact .inl (Nat.le_trans h.len hq)
      · cases h0 : φ b0 with
        | some y =>
          have := h.ext.ext b0 y h0
          rw [hp] at this; injection this with this; subst this
          rcases nf b0 _ h0 with h3 | h3
          · exact .inr ⟨b0, d0, hb, h3, h0⟩
          · omega
        | none => exact h.img b0 q d0 hp h0
  · intro q hq hn
    have e1 := h.frm q hq hn
    rw [← e1]
    refine k.frm q (Nat.lt_of_lt_of_le hq h.len) fun b d hb hl hp => ?_
    cases h0 : φ b with
    | some y =>
      have := h.ext.ext b y h0
      rw [hp] at this; injection this with this; subst this
      rcases nf b _ h0 with h3 | h3
      · exact hn b d hb h3 h0
      · omega
    | none =>
      rcases h.img b q d hp h0 with h3 | ⟨b0, d0, h4, h5, h6⟩
      · omega
      · exact hn b0 d0 h4 h5 h6

theorem NoFloat.left {φ : Phi} {H H1 H2 : LH} (h : NoFloat φ H H2) (hl : H1.length ≤ H2.length) : NoFloat φ H H1 := fun b x e => (h b x e).imp id (fun k => Nat.le_trans hl k)
theorem NoFloat.right {fl : Nat} {φ φ1 : Phi} {H H1 H2 : LH} {w w1 : World} (h : NoFloat φ H H2) (s : Step fl φ H w φ1 H1 w1) : NoFloat φ1 H1 H2 := by
  intro b x e
  cases h0 : φ b with
  | none => exact .inl (s.dom b x e h0).2
  | some y =>
    rcases h b y h0 with h | h
    · exact .inl (Nat.lt_of_lt_of_le h s.grow.len)
    · exact .inr h

/-! ### changes of memory -/
section
variable {p : Par} {φ : Phi} {H : LH} {w : World}

/-- the world only drew -/
theorem HR.drew (h : HR p φ H w) (n : Nat) : HR p φ H { w with drawn := n } := by
  have he : Ext φ w φ { w with drawn := n } := ⟨fun _ _ h => h, fun _ _ h => h⟩
  exact ⟨fun b q d x e hx => (h.blk b q d x e hx).mono he rfl, h.bnd, h.inj, h.low, h.q0, ⟨h.old.os, h.old.tape, h.old.output, h.old.size, h.old.block⟩, h.glo⟩
theorem Step.drew {fl : Nat} (n : Nat) : Step fl φ H w φ H { w with drawn := n } :=
  ⟨⟨fun _ _ h => h, fun _ _ h => h⟩, fun b x h e => (by rw [e] at h; cases h), fun b q d h e => (by rw [e] at h; cases h), fun _ _ _ => rfl, Nat.le_refl _, .refl _ _⟩

def Phi.put (φ : Phi) (b q d : Nat) : Phi := fun i => if i = b then some (q, d) else φ i

theorem alloc_get (w : World) (o : Obj) (q : Nat) (h : q < w.heap.size) : ({ w with heap := w.heap.push o } : World).heap[q]? = w.heap[q]? := by
  show (w.heap.push o)[q]? = _
  rw [Array.getElem?_push, if_neg (by omega)]
theorem alloc_new (w : World) (o : Obj) : ({ w with heap := w.heap.push o } : World).heap[w.heap.size]? = some o := by
  show (w.heap.push o)[w.heap.size]? = _
  rw [Array.getElem?_push, if_pos rfl]

/-- a new block: the logical one at the end, the model's at the end -/
theorem new_ext (h : HR p φ H w) (o : Obj) (hb : φ H.length = none) : Ext φ w (φ.put H.length w.heap.size 0) { w with heap := w.heap.push o } := by
  refine ⟨fun b x e => ?_, fun q n ⟨c, T, fz, e, hn⟩ => ?_⟩
  · unfold Phi.put
    by_cases hbb : b = H.length
    · subst hbb; rw [hb] at e; cases e
    · rw [if_neg hbb]; exact e
  · refine ⟨c, T, fz, ?_, hn⟩
    have hq : q < w.heap.size := (Array.getElem?_eq_some_iff.1 e).1
    rw [alloc_get _ _ _ hq]; exact e

theorem new_HR (h : HR p φ H w) {x : Blk} {o : Obj} (hb : φ H.length = none) (hR : p.R0 ≤ H.length)
    (hx : BlkR (p.R0 ≤ H.length) (φ.put H.length w.heap.size 0) { w with heap := w.heap.push o } w.heap.size 0 x) :
    HR p (φ.put H.length w.heap.size 0) (H ++ [x]) { w with heap := w.heap.push o } := by
  have he := new_ext h o hb
  have hsz : ({ w with heap := w.heap.push o } : World).heap.size = w.heap.size + 1 := by show (w.heap.push o).size = _; simp
  refine ⟨?_, ?_, ?_, ?_, ?_, ?_, h.glo⟩
  · intro b q d y e hy
    unfold Phi.put at e
    by_cases hbb : b = H.length
    · subst hbb
      rw [if_pos rfl] at e; injection e with e; injection e with e1 e2; subst e1; subst e2
      have : (H ++ [x])[H.length]? = some x := by simp
      rw [this] at hy; injection hy with hy; subst hy; exact hx
    · rw [if_neg hbb] at e
      have hl : b < H.length := by
        have := (List.getElem?_eq_some_iff.1 hy).1
        simp at this; omega
      rw [List.getElem?_append_left hl] at hy
      exact (h.blk b q d y e hy).mono he (alloc_get _ _ _ (h.bnd b q d e))
  · intro b q d e
    rw [hsz]
    unfold Phi.put at e
    by_cases hbb : b = H.length
    · rw [if_pos hbb] at e; injection e with e; injection e with e1 e2; omega
    · rw [if_neg hbb] at e; have := h.bnd b q d e; omega
  · intro b b' q d d' e e' hr hne
    unfold Phi.put at e e'
    by_cases hbb : b = H.length
    · rw [if_pos hbb] at e; injection e with e; injection e with e1 e2
      rw [if_neg (by omega)] at e'
      have := h.bnd b' q d' e'; omega
    · rw [if_neg hbb] at e
      by_cases hbb' : b' = H.length
      · rw [if_pos hbb'] at e'; injection e' with e'; injection e' with e1 e2
        have := h.bnd b q d e; omega
      · rw [if_neg hbb'] at e'
        rcases h.inj b b' q d d' e e' hr hne with h3 | h3
        · left; exact h3.push _ hbb
        · right; exact h3.push _ hbb'
  · intro b q d e hr
    unfold Phi.put at e
    by_cases hbb : b = H.length
    · rw [if_pos hbb] at e; injection e with e; injection e with e1 e2; have := h.q0; omega
    · rw [if_neg hbb] at e; exact h.low b q d e hr
  · rw [hsz]; have := h.q0; omega
  · exact h.old.trans ⟨rfl, rfl, rfl, by rw [hsz]; omega, fun k hk => alloc_get _ _ _ (by have := h.q0; omega)⟩

theorem new_Step {fl : Nat} (h : HR p φ H w) {x : Blk} {o : Obj} (hb : φ H.length = none) :
    Step fl φ H w (φ.put H.length w.heap.size 0) (H ++ [x]) { w with heap := w.heap.push o } := by
  refine ⟨new_ext h o hb, ?_, ?_, fun q hq _ => alloc_get _ _ _ hq, by show _ ≤ (w.heap.push o).size; simp, .push _ _ _⟩
  · intro b y e n
    unfold Phi.put at e
    by_cases hbb : b = H.length
    · subst hbb; exact ⟨Nat.le_refl _, by simp⟩
    · rw [if_neg hbb] at e; rw [e] at n; cases n
  · intro b q d e n
    unfold Phi.put at e
    by_cases hbb : b = H.length
    · rw [if_pos hbb] at e; injection e with e; injection e with e1 e2; left; omega
    · rw [if_neg hbb] at e; rw [e] at n; cases n

theorem NoFloat.new {x : Blk} (h : NoFloat φ H (H ++ [x])) : φ H.length = none := by
  cases e : φ H.length with
  | none => rfl
  | some y => rcases h _ y e with h | h <;> simp at h <;> omega

/-- a block is written: the logical one and the model's, of the same size or still a map -/
theorem set_HR {fl b q d : Nat} (h : HR p φ H w) {x y : Blk} {o o' : Obj} (hp : φ b = some (q, d)) (hfl : fl ≤ b) (hR : p.R0 ≤ fl) (hy : H[b]? = some y) (hyd : y ≠ .dead) (hq : w.heap[q]? = some o)
    (hsz : ∀ c T fz, o = .cells c T fz → ∃ c' T' fz', o' = .cells c' T' fz' ∧ c'.size = c.size)
    (hx : ∀ w', (∀ i, w'.heap[i]? = if i = q then some o' else w.heap[i]?) → Ext φ w φ w' → BlkR (p.R0 ≤ b) φ w' q d x) :
    HR p φ (H.set b x) { w with heap := w.heap.setIfInBounds q o' } ∧ Step fl φ H w φ (H.set b x) { w with heap := w.heap.setIfInBounds q o' } := by
  have hqs : q < w.heap.size := h.bnd b q d hp
  have hget : ∀ i, ({ w with heap := w.heap.setIfInBounds q o' } : World).heap[i]? = if i = q then some o' else w.heap[i]? := by
    intro i
    show (w.heap.setIfInBounds q o')[i]? = _
    rw [Array.getElem?_setIfInBounds]
    by_cases hi : i = q
    · subst hi; simp [hqs]
    · rw [if_neg (fun e => hi e.symm), if_neg hi]
  have he : Ext φ w φ { w with heap := w.heap.setIfInBounds q o' } := by
    refine ⟨fun _ _ e => e, fun i n ⟨c, T, fz, e, hn⟩ => ?_⟩
    by_cases hi : i = q
    · subst hi
      rw [hq] at e; injection e with e
      obtain ⟨c', T', fz', e', hc⟩ := hsz c T fz e
      exact ⟨c', T', fz', by rw [hget, if_pos rfl, e'], by omega⟩
    · exact ⟨c, T, fz, by rw [hget, if_neg hi]; exact e, hn⟩
  have hbl : b < H.length := (List.getElem?_eq_some_iff.1 hy).1
  have hrb : p.R0 ≤ b := Nat.le_trans hR hfl
  have hsize : ({ w with heap := w.heap.setIfInBounds q o' } : World).heap.size = w.heap.size := by show (w.heap.setIfInBounds q o').size = _; simp
  have hdead : ∀ i : Nat, Gone H i → Gone (H.set b x) i := fun i hi => hi.set (.inr fun e => by subst e; exact hyd (hi _ hy))
  refine ⟨⟨?_, ?_, ?_, h.low, by rw [hsize]; exact h.q0, ?_, h.glo⟩, ⟨he, fun i z e n => (by rw [e] at n; cases n), fun i z y e n => (by rw [e] at n; cases n), ?_, by rw [hsize]; exact Nat.le_refl _, ?_⟩⟩
  · intro i q' d' z e hz
    by_cases hi : i = b
    · subst hi
      rw [hp] at e; injection e with e; injection e with e1 e2; subst e1; subst e2
      rw [List.getElem?_set_self hbl] at hz; injection hz with hz; subst hz
      exact hx _ hget he
    · rw [List.getElem?_set_ne (fun e => hi e.symm)] at hz
      by_cases hqq : q' = q
      · subst hqq
        rcases h.inj b i q' d d' hp e hrb (fun e => hi e.symm) with h3 | h3
        · exact absurd (h3 _ hy) hyd
        · rw [h3 _ hz]; trivial
      · exact (h.blk i q' d' z e hz).mono he (by rw [hget, if_neg hqq])
  · intro i q' d' e; rw [hsize]; exact h.bnd i q' d' e
  · intro i i' q' d1 d2 e e' hr hne
    rcases h.inj i i' q' d1 d2 e e' hr hne with h3 | h3
    · exact .inl (hdead _ h3)
    · exact .inr (hdead _ h3)
  · refine h.old.trans ⟨rfl, rfl, rfl, by rw [hsize]; exact Nat.le_refl _, fun k hk => ?_⟩
    rw [hget, if_neg]
    have := h.low b q d hp hrb
    omega
  · intro i hi hn
    rw [hget, if_neg]
    intro e; subst e
    exact hn b d hfl hbl hp
  · exact .set hfl (.inr (by rw [hy]; intro e; injection e with e; exact hyd e))

/-- a block is given up -/
theorem dead_HR {fl b : Nat} (h : HR p φ H w) (hfl : fl ≤ b) : HR p φ (H.set b .dead) w ∧ Step fl φ H w φ (H.set b .dead) w := by
  have hdead : ∀ i : Nat, Gone H i → Gone (H.set b .dead) i := fun i hi => hi.set (.inl rfl)
  refine ⟨⟨?_, h.bnd, ?_, h.low, h.q0, h.old, h.glo⟩, ⟨.refl _ _, fun i z e n => (by rw [e] at n; cases n), fun i z y e n => (by rw [e] at n; cases n), fun _ _ _ => rfl, Nat.le_refl _, .set hfl (.inl rfl)⟩⟩
  · intro i q' d' z e hz
    by_cases hi : b = i
    · subst hi
      by_cases hbl : b < H.length
      · rw [List.getElem?_set_self hbl] at hz; injection hz with hz; subst hz; trivial
      · rw [List.getElem?_eq_none (by simp; omega)] at hz; cases hz
    · rw [List.getElem?_set_ne hi] at hz; exact h.blk i q' d' z e hz
  · intro i i' q' d1 d2 e e' hr hne
    rcases h.inj i i' q' d1 d2 e e' hr hne with h3 | h3
    · exact .inl (hdead _ h3)
    · exact .inr (hdead _ h3)
end

end Go.Proofs.YtbjpecknlohicaaDoor.Lg
