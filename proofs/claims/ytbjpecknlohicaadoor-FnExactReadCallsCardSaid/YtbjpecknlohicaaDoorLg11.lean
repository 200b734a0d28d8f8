/- The logical machine against the model: append, maps, builtins. No condition. -/
import Derived.Test.YtbjpecknlohicaaDoorLg10
namespace Go.Proofs.YtbjpecknlohicaaDoor.Lg
set_option linter.unusedSimpArgs false
set_option linter.unusedVariables false
open Go.RowKit (Below)

section
variable {P : Program} {p : Par} {φ : Phi} {H : LH} {w : World}

theorem VRs_app {a b : List V} {ua ub : List Value} (h : VRs φ w a ua) (k : VRs φ w b ub) : VRs φ w (a ++ b) (ua ++ ub) := by
  obtain ⟨hl, hi⟩ := VRs_iff.1 h
  obtain ⟨kl, ki⟩ := VRs_iff.1 k
  refine VRs_iff.2 ⟨by simp [hl, kl], fun i v hv => ?_⟩
  by_cases hil : i < a.length
  · rw [List.getElem?_append_left hil] at hv
    rw [List.getElem?_append_left (by omega)]
    exact hi i v hv
  · rw [List.getElem?_append_right (by omega)] at hv
    rw [List.getElem?_append_right (by omega), ← hl]
    exact ki _ v hv
theorem all_app {a b : List V} (h : a.all V.isScal = true) (k : b.all V.isScal = true) : (a ++ b).all V.isScal = true := by simp [h, k]

/-! ### what is appended -/
theorem src_ok {x : V} {ux : Value} {z m : Nat} {new : List V} (h : HR p φ H w) (hx : VR φ w x ux) (hs : srcOk z x = true) (hm : lenV H x = some m) (hn : slCells H x = some new) :
    ∃ us : List Value, (Builtin.lenOf ux).run P w = .ok m w ∧ (∀ k, (Builtin.firstCells z m ux).run P { w with drawn := k } = .ok us.toArray { w with drawn := k }) ∧ VRs φ w new us ∧ new.all V.isScal = true ∧ us.length = m * z := by
  unfold srcOk at hs
  split at hs
  · rename_i b o z' n c
    have hz := beq_iff_eq.1 hs; subst hz
    simp only [lenV] at hm; injection hm with hm; subst hm
    obtain ⟨q, off, c', us, rfl, hul, hrs, hss, hld⟩ := sl_cells (P := P) h hx hn
    exact ⟨us, rfl, fun k => by simp only [Builtin.firstCells]; exact hld k, hrs, hss, hul⟩
  · rename_i s
    have hz := beq_iff_eq.1 hs; subst hz
    simp only [lenV] at hm; injection hm with hm; subst hm
    simp only [slCells] at hn; injection hn with hn; subst hn
    simp only [VR] at hx; subst hx
    obtain ⟨h1, h2⟩ := bytesV_ok (φ := φ) (w := w) s
    refine ⟨_, rfl, fun k => ?_, h1, h2, by simp⟩
    have hx : s.extract 0 s.size = s := ByteArray.extract_zero_size
    simp only [Builtin.firstCells, hx, Sem.run_pure]
    congr 1
    apply Array.ext'
    simp
  · simp only [lenV] at hm; injection hm with hm; subst hm
    simp only [slCells] at hn; injection hn with hn; subst hn
    simp only [VR] at hx; subst hx
    exact ⟨[], rfl, fun k => rfl, by simp only [VRs], rfl, by simp⟩
  · simp only [lenV] at hm; injection hm with hm; subst hm
    simp only [slCells] at hn; injection hn with hn; subst hn
    simp only [VR] at hx; obtain ⟨a, rfl⟩ := hx
    refine ⟨[], rfl, fun k => ?_, by simp only [VRs], rfl, by simp⟩
    simp only [Builtin.firstCells, Nat.zero_mul]; rfl
  · cases hs

/-- a block is given up, and a new logical block takes its place in memory, written behind it -/
theorem take_over {fl b q d off : Nat} {cs' : List V} {c c' : Array Value} {T : TypeId} {fz : Nat × Nat} (h : HR p φ H w) (hp : φ b = some (q, d)) (hfl : fl ≤ b) (hR : p.R0 ≤ fl) (hbl : b < H.length) (hnd : H[b]? ≠ some .dead) (hnf : φ H.length = none)
    (hq : w.heap[q]? = some (.cells c T fz)) (hf : ∀ i, i < c.size → ¬ (fz.1 ≤ i ∧ (i < fz.2 ∨ fz.2 < fz.1))) (hcs : c'.size = c.size) (hle : off + cs'.length ≤ c'.size)
    (hv : ∀ (i : Nat) (v : V), cs'[i]? = some v → v.isScal = true ∧ ∃ u, c'[off + i]? = some u ∧ VR φ w v u) :
    HR p (φ.put H.length q off) (H.set b .dead ++ [.cells cs']) { w with heap := w.heap.setIfInBounds q (.cells c' T fz) } ∧
      Step fl φ H w (φ.put H.length q off) (H.set b .dead ++ [.cells cs']) { w with heap := w.heap.setIfInBounds q (.cells c' T fz) } := by
  have hlen : (H.set b .dead ++ [Blk.cells cs']).length = H.length + 1 := by simp
  have hqs : q < w.heap.size := h.bnd b q d hp
  have hget : ∀ i, ({ w with heap := w.heap.setIfInBounds q (.cells c' T fz) } : World).heap[i]? = if i = q then some (.cells c' T fz) else w.heap[i]? := by
    intro i
    show (w.heap.setIfInBounds q _)[i]? = _
    rw [Array.getElem?_setIfInBounds]
    by_cases hi : i = q
    · subst hi; simp [hqs]
    · rw [if_neg (fun e => hi e.symm), if_neg hi]
  have hsize : ({ w with heap := w.heap.setIfInBounds q (.cells c' T fz) } : World).heap.size = w.heap.size := by show (w.heap.setIfInBounds q _).size = _; simp
  have hne : ∀ {i x}, φ i = some x → i ≠ H.length := fun e1 e2 => by rw [e2, hnf] at e1; cases e1
  have he : Ext φ w (φ.put H.length q off) { w with heap := w.heap.setIfInBounds q (.cells c' T fz) } := by
    refine ⟨fun i x e => by unfold Phi.put; rw [if_neg (hne e)]; exact e, fun i n ⟨c1, T1, fz1, e, hn⟩ => ?_⟩
    by_cases hi : i = q
    · subst hi
      rw [hq] at e; injection e with e; injection e with e1 e2 e3; subst e1
      exact ⟨c', T, fz, by rw [hget, if_pos rfl], by omega⟩
    · exact ⟨c1, T1, fz1, by rw [hget, if_neg hi]; exact e, hn⟩
  have hdead : ∀ i : Nat, i ≠ H.length → Gone H i → Gone (H.set b .dead ++ [Blk.cells cs']) i := fun i hne hi => (hi.set (.inl rfl)).push _ (by simpa using hne)
  have hold : ∀ i : Nat, i < H.length → i ≠ b → (H.set b .dead ++ [Blk.cells cs'])[i]? = H[i]? := by
    intro i hil hib
    rw [List.getElem?_append_left (by simpa using hil), List.getElem?_set_ne (fun e => hib e.symm)]
  have hbd : (H.set b .dead ++ [Blk.cells cs'])[b]? = some .dead := by
    rw [List.getElem?_append_left (by simpa using hbl), List.getElem?_set_self hbl]
  have hother : ∀ {i d'}, φ i = some (q, d') → i ≠ b → Gone H i := by
    intro i d' e hib
    rcases h.inj b i q d d' hp e (by omega) (fun e => hib e.symm) with h3 | h3
    · have hx := List.getElem?_eq_getElem hbl
      exact absurd (hx.trans (congrArg some (h3 _ hx))) hnd
    · exact h3
  refine ⟨⟨?_, ?_, ?_, ?_, by rw [hsize]; exact h.q0, ?_, h.glo⟩, ⟨he, ?_, ?_, ?_, by rw [hsize]; exact Nat.le_refl _, (Grow.set hfl (.inl rfl)).trans (.push _ _ _)⟩⟩
  · intro i q' d' z e hz
    unfold Phi.put at e
    by_cases hi : i = H.length
    · subst hi
      rw [if_pos rfl] at e; injection e with e; injection e with e1 e2; subst e1; subst e2
      have : (H.set b .dead ++ [Blk.cells cs'])[H.length]? = some (.cells cs') := by
        rw [List.getElem?_append_right (by simp)]; simp
      rw [this] at hz; injection hz with hz; subst hz
      refine ⟨c', T, fz, by rw [hget, if_pos rfl], hle, fun j v hj => ?_, fun _ j hj => hf j (by omega)⟩
      obtain ⟨h1, u, hu, r⟩ := hv j v hj
      exact ⟨h1, u, hu, r.mono he⟩
    · rw [if_neg hi] at e
      have hil : i < H.length := by
        have := (List.getElem?_eq_some_iff.1 hz).1
        rw [hlen] at this; omega
      by_cases hib : i = b
      · subst hib; rw [hbd] at hz; injection hz with hz; subst hz; trivial
      · rw [hold i hil hib] at hz
        by_cases hqq : q' = q
        · subst hqq; rw [hother e hib _ hz]; trivial
        · exact (h.blk i q' d' z e hz).mono he (by rw [hget, if_neg hqq])
  · intro i q' d' e
    rw [hsize]
    unfold Phi.put at e
    by_cases hi : i = H.length
    · rw [if_pos hi] at e; injection e with e; injection e with e1 e2; omega
    · rw [if_neg hi] at e; exact h.bnd i q' d' e
  · intro i i' q' d1 d2 e e' hr hn
    unfold Phi.put at e e'
    by_cases hi : i = H.length
    · rw [if_pos hi] at e; injection e with e; injection e with e1 e2; subst e1
      rw [if_neg (by omega)] at e'
      right
      by_cases hib : i' = b
      · rw [hib]; exact .of hbd
      · exact hdead _ (hne e') (hother e' hib)
    · rw [if_neg hi] at e
      by_cases hi' : i' = H.length
      · rw [if_pos hi'] at e'; injection e' with e'; injection e' with e1 e2; subst e1
        left
        by_cases hib : i = b
        · rw [hib]; exact .of hbd
        · exact hdead _ (hne e) (hother e hib)
      · rw [if_neg hi'] at e'
        rcases h.inj i i' q' d1 d2 e e' hr hn with h3 | h3
        · exact .inl (hdead _ hi h3)
        · exact .inr (hdead _ hi' h3)
  · intro i q' d' e hr
    unfold Phi.put at e
    by_cases hi : i = H.length
    · rw [if_pos hi] at e; injection e with e; injection e with e1 e2; subst e1; exact h.low b _ d hp (by omega)
    · rw [if_neg hi] at e; exact h.low i q' d' e hr
  · refine h.old.trans ⟨rfl, rfl, rfl, by rw [hsize]; exact Nat.le_refl _, fun k hk => ?_⟩
    rw [hget, if_neg]
    have := h.low b q d hp (by omega)
    omega
  · intro i x e n
    unfold Phi.put at e
    by_cases hi : i = H.length
    · subst hi; rw [hlen]; exact ⟨Nat.le_refl _, by omega⟩
    · rw [if_neg hi] at e; rw [e] at n; cases n
  · intro i q' d' e n
    unfold Phi.put at e
    by_cases hi : i = H.length
    · rw [if_pos hi] at e; injection e with e; injection e with e1 e2; subst e1
      exact .inr ⟨b, d, hfl, hbl, hp⟩
    · rw [if_neg hi] at e; rw [e] at n; cases n
  · intro i hi hn
    rw [hget, if_neg]
    intro e; subst e
    exact hn b d hfl hbl hp

def isIntD (d : TypeDesc) : Bool := match d with | .int _ => true | _ => false
theorem intT_some {t : TypeId} (h : isIntT (ty P t) = false) : ∃ d, P.underlying t = some d ∧ isIntD d = false := by
  unfold isIntT at h
  split at h
  · cases h
  · rename_i i hn hi
    obtain ⟨j, d, _, h2, rfl⟩ := ty_some hi
    refine ⟨d, h2, ?_⟩
    cases d with
    | int k => exact absurd rfl (hn _ _ k _)
    | _ => rfl
  · cases h

/-- append, where there is room -/
theorem run_app_room {t t' ty' : TypeId} {e : TypeId} {i : TypeInfo} {d' : TypeDesc} {q off n c m : Nat} {ux : Value} {us : List Value} {cc : Array Value} {T : TypeId} {fz : Nat × Nat} (hu : P.underlying t = some (.slice e)) (hi : P.info? e = some i)
    (ht' : P.underlying t' = some d') (hd : isIntD d' = false) (hm : (Builtin.lenOf ux).run P w = .ok m w) (hf : (Builtin.firstCells i.size m ux).run P w = .ok us.toArray w)
    (hfit : n + m ≤ c) (hq : w.heap[q]? = some (.cells cc T fz)) (hz : ∀ i, i < cc.size → ¬ (fz.1 ≤ i ∧ i < fz.2)) (hle : off + n * i.size + us.length ≤ cc.size) (hone : ∀ u ∈ us, u.oneCell' = true) :
    (Builtin.append_ #[t, t'] ty' #[.slice (some ⟨q, off, none⟩) n c, ux]).run P w = .ok (.slice (some ⟨q, off, none⟩) (n + m) c) { w with heap := w.heap.setIfInBounds q (.cells (putA cc (off + n * i.size) us) T fz) } := by
  have hst := run_store_row (P := P) (q := q) (o := off + n * i.size) us 0 cc w hq (by omega) hz hone
  simp only [Nat.add_zero] at hst
  simp [Builtin.append_, run_underlying hu, run_underlying ht', sizeOf, typeInfo, hi, hm, hfit, addr_add]
  split
  · simp [isIntD] at hd
  · simp [hf, hst]
theorem run_app_grow {t t' ty' : TypeId} {e : TypeId} {i : TypeInfo} {z : Value} {d' : TypeDesc} {base : Option Addr} {n c m : Nat} {ux : Value} {us olds : List Value} (hu : P.underlying t = some (.slice e)) (hi : P.info? e = some i) (hz : i.zero = some z)
    (ht' : P.underlying t' = some d') (hd : isIntD d' = false) (hm : (Builtin.lenOf ux).run P w = .ok m w) (hf : ∀ k, (Builtin.firstCells i.size m ux).run P { w with drawn := k } = .ok us.toArray { w with drawn := k })
    (hfo : ∀ k, (Builtin.firstCells i.size n (.slice base n c)).run P { w with drawn := k } = .ok olds.toArray { w with drawn := k }) (hg : c < n + m) (hb : (n + m) * i.bytes ≤ mostCells) (hb1 : n + m ≤ mostCells) :
    ∃ cap, n + m ≤ cap ∧ (Builtin.append_ #[t, t'] ty' #[.slice base n c, ux]).run P w =
      .ok (.slice (some ⟨w.heap.size, 0, none⟩) (n + m) cap) { w with drawn := w.drawn + 1, heap := w.heap.push (.cells ((olds ++ us) ++ (Builtin.zeroCells z.cells (cap - (n + m))).toList).toArray e) } := by
  have hmost : mostCells = 1099511627776 := by decide
  rw [hmost] at hb hb1
  refine ⟨(n + m) + w.tape w.drawn (.appendCap (n + m) c e) % (2 ^ 63 - (n + m)), by omega, ?_⟩
  generalize hk : w.tape w.drawn (.appendCap (n + m) c e) % (2 ^ 63 - (n + m)) = k
  have h1 : ¬ (n + m ≤ c) := by omega
  have h2 : ¬ (9223372036854775807 < ((n : Int) + (m : Int))) := by omega
  have h3 : ¬ (281474976710656 < Builtin.nextslicecap (n + m) c * i.bytes) := by
    have := growslice_fits (need := n + m) (old := c) (bytes := i.bytes) hg (by omega)
    omega
  have hf' : (Builtin.firstCells i.size m ux).run P w.drew = .ok us.toArray w.drew := hf (w.drawn + 1)
  have hfo' : (Builtin.firstCells i.size n (.slice base n c)).run P w.drew = .ok olds.toArray w.drew := hfo (w.drawn + 1)
  have hk' : w.tape w.drawn (.appendCap (n + m) c e) % (9223372036854775808 - (n + m)) = k := hk
  simp [Builtin.append_, run_underlying hu, run_underlying ht', sizeOf, typeInfo, zeroValue, hi, hz, hm, h1, h3, hfo', Question.forced, Question.cut, hk', newRow]
  split
  · simp [isIntD] at hd
  simp [h2, hf', hfo']
  have ha : (olds ++ (us ++ (Builtin.zeroCells z.cells k).toList)).toArray = olds.toArray ++ (us.toArray ++ Builtin.zeroCells z.cells k) := by
    apply Array.ext'
    simp
  rw [ha]
  rfl
end

end Go.Proofs.YtbjpecknlohicaaDoor.Lg
