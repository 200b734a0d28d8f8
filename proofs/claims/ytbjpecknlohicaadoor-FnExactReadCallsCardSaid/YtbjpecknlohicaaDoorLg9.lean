/- The logical machine against the model: conversions, new rows, append, maps. No condition. -/
import Derived.Test.YtbjpecknlohicaaDoorLg8
namespace Go.Proofs.YtbjpecknlohicaaDoor.Lg
set_option linter.unusedSimpArgs false
set_option linter.unusedVariables false
open Go.RowKit (Below)

section
variable {P : Program} {p : Par} {φ : Phi} {H : LH} {w : World}

/-! ### texts and bytes -/
theorem bytesV_ok (s : ByteArray) : VRs φ w (bytesV s) (s.data.toList.map fun b => .int .u8 b.toNat) ∧ (bytesV s).all V.isScal = true := by
  constructor
  · refine VRs_iff.2 ⟨by simp [bytesV], fun i v hi => ?_⟩
    simp only [bytesV, List.getElem?_map, Option.map_eq_some_iff] at hi ⊢
    obtain ⟨b, hb, rfl⟩ := hi
    exact ⟨_, ⟨b, hb, rfl⟩, by simp only [VR]⟩
  · rw [List.all_eq_true]
    intro v hv
    simp only [bytesV, List.mem_map] at hv
    obtain ⟨b, _, rfl⟩ := hv
    rfl
theorem toBytes_ok : ∀ {cs : List V} {us : List Value} {l : List UInt8}, VRs φ w cs us → toBytes cs = some l → ∃ ns : List Int, us = ns.map (Value.int .u8) ∧ l = ns.map fun n => UInt8.ofNat n.toNat
  | [], us, l, h, e => by
    simp only [VRs] at h; subst h
    injection e with e; subst e
    exact ⟨[], rfl, rfl⟩
  | v :: cs, us, l, h, e => by
    simp only [VRs] at h
    obtain ⟨u, us', rfl, hv, hs⟩ := h
    unfold toBytes at e
    split at e
    · rename_i h1; cases h1
    · rename_i n cs' h1
      injection h1 with h1 h2; subst h1; subst h2
      split at e
      · rename_i l' hl
        injection e with e; subst e
        obtain ⟨ns, rfl, rfl⟩ := toBytes_ok hs hl
        simp only [VR] at hv; subst hv
        exact ⟨n :: ns, rfl, rfl⟩
      · cases e
    · cases e
theorem fold_push (ns : List Int) : ∀ (s : ByteArray), ns.foldl (fun r n => r.push (UInt8.ofNat n.toNat)) s = ⟨(s.data.toList ++ ns.map fun n => UInt8.ofNat n.toNat).toArray⟩ := by
  induction ns with
  | nil => intro s; simp
  | cons n ns ih =>
    intro s
    rw [List.foldl_cons, ih]
    congr 1
    simp [ByteArray.push]

/-- the cells of a slice -/
theorem sl_cells {b o z n c : Nat} {ux : Value} {cs : List V} (h : HR p φ H w) (hx : VR φ w (.sl b o z n c) ux) (e : slCells H (.sl b o z n c) = some cs) :
    ∃ q off c' us, ux = .slice (some ⟨q, off, none⟩) n c' ∧ us.length = n * z ∧ VRs φ w cs us ∧ cs.all V.isScal = true ∧ ∀ k, (loadCells ⟨q, off, none⟩ (n * z)).run P { w with drawn := k } = .ok us.toArray { w with drawn := k } := by
  simp only [VR] at hx
  obtain ⟨hnc, q, d, off, c', hp, rfl, hc, ho, hr⟩ := hx
  unfold slCells at e
  dsimp only at e
  unfold optCut at e
  cases hb : H.cellsAt b with
  | none => rw [hb] at e; cases e
  | some bs =>
    rw [hb] at e
    obtain ⟨hl, e⟩ := grd_some e
    injection e with e; subst e
    obtain ⟨cc, T, fz, hq, hle, hv, _⟩ := h.cells hp hb
    obtain ⟨us, hul, hus, hrs, hss⟩ := vals_of hv hl
    refine ⟨q, off, c', us, rfl, hul, hrs, hss, fun k => ?_⟩
    rcases ho with ho | ho
    · subst ho
      have := run_load_row (P := P) (w := { w with drawn := k }) (o := d + o) hq us hus
      rw [hul] at this
      exact this
    · have hn0 : n = 0 := by omega
      subst hn0
      simp only [Nat.zero_mul] at hul ⊢
      have : us = [] := List.eq_nil_of_length_eq_zero hul
      subst this
      rfl

theorem Ext.dr (k : Nat) : Ext φ w φ { w with drawn := k } := ⟨fun _ _ h => h, fun _ _ h => h⟩

theorem convV_ok {fl : Nat} {s d : TypeId} {x v : V} {ux : Value} {H' : LH} (h : HR p φ H w) (hR : p.R0 ≤ H.length) (nf : NoFloat φ H H') (hx : VR φ w x ux) (hR2 : p.R0 ≤ fl) (e : convV (ty P) fl H s d x = some (v, H')) :
    ∃ u w', (convert s d ux).run P w = .ok u w' ∧ Res p fl φ H w v H' u w' := by
  unfold convV at e
  split at e
  · rename_i s1 b1 k1 z1 s2 b2 k2 z2 hs hd
    split at e
    · rename_i k n
      injection e with e; injection e with e1 e2; subst e1; subst e2
      simp only [VR] at hx; subst hx
      refine ⟨.int k2 (k2.wrap n), w, ?_, .same h (by simp only [VR])⟩
      simp [convert, run_underlying (int_some hs), run_underlying (int_some hd), Conv.intToInt]
    · cases e
  · rename_i s1 b1 k1 z1 s2 b2 z2 hs hd
    split at e
    · rename_i k n
      injection e with e; injection e with e1 e2; subst e1; subst e2
      simp only [VR] at hx; subst hx
      refine ⟨.string (Utf8.encode n), w, ?_, .same h (by simp only [VR])⟩
      simp [convert, run_underlying (int_some hs), run_underlying (str_some hd), Conv.intToString]
    · cases e
  · rename_i s1 b1 el z1 s2 b2 z2 hs hd
    split at e
    · rename_i s3 b3 z3 b o z n c he
      obtain ⟨hz, e⟩ := grd_some e
      subst hz
      unfold bytesO at e
      split at e
      · rename_i cs hcs
        unfold strO at e
        split at e
        · rename_i l hl
          injection e with e; injection e with e1 e2; subst e1; subst e2
          obtain ⟨q, off, c', us, rfl, hul, hrs, _, hld⟩ := sl_cells (P := P) h hx hcs
          obtain ⟨ns, rfl, rfl⟩ := toBytes_ok hrs hl
          have hld := hld w.drawn
          rw [Nat.mul_one] at hld
          refine ⟨_, w, ?_, .same h (u := .string ⟨(ns.map fun n => UInt8.ofNat n.toNat).toArray⟩) (by simp only [VR])⟩
          rw [run_convert_bytes_string w s d el _ _ _ (slice_some hs) (int_some he) (str_some hd), run_bytesToString w _ _ _ ns hld, fold_push]
          rfl
        · cases e
      · cases e
    · rename_i s3 b3 z3 he
      injection e with e; injection e with e1 e2; subst e1; subst e2
      simp only [VR] at hx; subst hx
      refine ⟨.string .empty, w, ?_, .same h (by simp only [VR]; rfl)⟩
      rw [run_convert_bytes_string w s d el _ _ _ (slice_some hs) (int_some he) (str_some hd)]
      rfl
    · rename_i s3 b3 z3 he
      injection e with e; injection e with e1 e2; subst e1; subst e2
      simp only [VR] at hx; obtain ⟨a, rfl⟩ := hx
      refine ⟨.string .empty, w, ?_, .same h (by simp only [VR]; rfl)⟩
      rw [run_convert_bytes_string w s d el _ _ _ (slice_some hs) (int_some he) (str_some hd)]
      rfl
    · cases e
  · rename_i s1 b1 z1 s2 b2 el z2 hs hd
    split at e
    · rename_i s3 b3 z3 t he
      injection e with e; injection e with e1 e2; subst e1; subst e2
      simp only [VR] at hx; subst hx
      have hnf := nf.new
      obtain ⟨hbv, hbs⟩ := bytesV_ok (φ := φ) (w := w) t
      -- the capacity that was drawn
      obtain ⟨cap, hcap, hrun⟩ : ∃ cap, t.size ≤ cap ∧ (convert s d (.string t)).run P w = .ok (.slice (some ⟨w.heap.size, 0, none⟩) t.size cap)
          { w with drawn := w.drawn + 1, heap := w.heap.push (.cells ((t.data.toList.map fun b : UInt8 => Value.int .u8 b.toNat) ++ List.replicate (cap - t.size) (Value.int .u8 0)).toArray el (cap, cap + 1)) } := by
        refine ⟨t.size + w.tape w.drawn (.appendCap t.size 0 el) % (2 ^ 63 - t.size), by omega, ?_⟩
        generalize hk : w.tape w.drawn (.appendCap t.size 0 el) % (2 ^ 63 - t.size) = k
        have hsz : (t.data.toList.map fun b => Value.int .u8 b.toNat).length = t.size := by simp
        simp only [convert, Sem.run_bind, run_underlying (str_some hs), run_underlying (slice_some hd), run_underlying (int_some he), Result.andThen_ok, Conv.stringToBytes, run_choose, Question.forced, Bool.false_eq_true, if_false, Question.cut, newRow, run_newObj,
          Sem.run_pure, markStringish, run_shape, hk]
        have hsh : ({ w with drawn := w.drawn + 1, heap := w.heap.push (.cells (Array.map (fun b : UInt8 => Value.int .u8 b.toNat) t.data ++ Array.replicate (t.size + k - t.size) (Value.int .u8 0)) el) } : World).shape? w.heap.size = some (el, t.size + k) := by
          simp only [World.shape?]
          show (match (w.heap.push _)[w.heap.size]? with | some (.cells c elem _) => some (elem, c.size) | _ => none) = _
          rw [Array.getElem?_push, if_pos rfl]
          simp
        rw [hsh]
        simp only [Sem.run_bind, run_freeze, Result.andThen_ok, World.freeze]
        congr 1
        simp only [Nat.one_ne_zero, if_false]
        congr 1
        apply Array.ext_getElem?
        intro j
        rw [Array.getElem?_modify, Array.getElem?_push, Array.getElem?_push]
        by_cases hj : j = w.heap.size
        · subst hj
          simp
        · rw [if_neg (fun e => hj e.symm), if_neg hj, if_neg hj]
      have h2 := h.drew (w.drawn + 1)
      have hfz : ∀ i, i < (t.data.toList.map fun b => Value.int .u8 b.toNat).length + (List.replicate (cap - t.size) (Value.int .u8 0)).length → ¬ (cap ≤ i ∧ (i < cap + 1 ∨ cap + 1 < cap)) := by
        intro i hi
        simp at hi
        omega
      obtain ⟨r1, r2⟩ := new_cells (fl := fl) h2 el hR hnf (hbv.mono (Ext.dr _)) hbs (List.replicate (cap - t.size) (.int .u8 0)) (cap, cap + 1) hfz
      refine ⟨_, _, hrun, _, ?_, r1, (Step.drew (w.drawn + 1)).trans r2 (fun b x hb => by
        rcases nf b x hb with h3 | h3
        · exact .inl h3
        · right; simp at h3; omega)⟩
      simp only [VR]
      refine ⟨Nat.le_refl _, w.heap.size, 0, 0, cap, put_self _ _ _ _, rfl, hcap, .inl rfl, _, _, _, alloc_new _ _, by simp; omega⟩
    · cases e
  · rename_i s1 b1 z1 s2 b2 z2 hs hd
    split at e
    · rename_i t
      injection e with e; injection e with e1 e2; subst e1; subst e2
      simp only [VR] at hx; subst hx
      refine ⟨.string t, w, ?_, .same h (by simp only [VR])⟩
      simp [convert, run_underlying (str_some hs), run_underlying (str_some hd)]
    · cases e
  · rename_i s1 b1 el0 z1 s2 b2 el z2 hs hd
    split at e
    · rename_i s3 b3 z3 b o z n c he
      obtain ⟨⟨hsd, hfl, hsm⟩, e⟩ := grd_some e
      injection e with e; injection e with e1 e2; subst e1; subst e2
      obtain ⟨cs, hcs⟩ := Option.isSome_iff_exists.1 hsm
      have hx0 := hx
      simp only [VR] at hx
      obtain ⟨hnc, q, d1, off, c', hp, rfl, hc, ho, hr⟩ := hx
      obtain ⟨cc, T, fz, hq, hle, hv, hf⟩ := h.cells hp hcs
      obtain ⟨lo, hi⟩ := fz
      have hf := hf (Nat.le_trans hR2 hfl)
      obtain ⟨r1, r2⟩ := set_HR h (x := .cells cs) (o' := .cells cc T (if lo == hi then (cc.size, cc.size + 1) else (min lo cc.size, max hi (cc.size + 1)))) hp hfl hR2 (cellsAt_some hcs) (by simp) hq
        (fun c1 T1 fz1 e => by injection e with e1 e2 e3; subst e1; exact ⟨_, _, _, rfl, rfl⟩)
        (fun w' hw' hext => ⟨cc, T, _, by rw [hw', if_pos rfl], hle, fun i v hi => by obtain ⟨h1, u, hu, r⟩ := hv i v hi; exact ⟨h1, u, hu, r.mono hext⟩, fun _ i hi2 => by
          have := hf i hi2
          have h3 := hf
          by_cases hlh : lo = hi
          · subst hlh
            simp only [beq_self_eq_true, if_true]
            omega
          · have hlh2 : (lo == hi) = false := by simp [hlh]
            rw [hlh2]
            simp only [Bool.false_eq_true, if_false]
            have : cc.size ≤ lo := by
              rcases Nat.lt_or_ge lo cc.size with hl | hl
              · exact absurd ⟨Nat.le_refl _, by omega⟩ (h3 lo hl)
              · exact hl
            omega⟩)
      have hHe : H.set b (.cells cs) = H := by
        obtain ⟨hb, e⟩ := List.getElem?_eq_some_iff.1 (cellsAt_some hcs)
        rw [← e, List.set_getElem_self]
      rw [hHe] at r1 r2
      refine ⟨_, _, ?_, φ, hx0.mono r2.ext, r1, r2⟩
      simp only [convert, Sem.run_bind, run_underlying (slice_some hs), run_underlying (slice_some hd), run_underlying (int_some he), Result.andThen_ok, hsd, beq_self_eq_true, markStringish, run_shape, Sem.run_pure]
      have hsh : w.shape? q = some (T, cc.size) := by simp only [World.shape?, hq]
      rw [hsh]
      simp only [run_freeze, Result.andThen_ok, World.freeze, Nat.one_ne_zero, if_false]
      congr 2
      apply Array.ext_getElem?
      intro j
      rw [Array.getElem?_modify, Array.getElem?_setIfInBounds]
      by_cases hj : j = q
      · subst hj
        have hjs : j < w.heap.size := h.bnd b j d1 hp
        simp [hjs, hq]
        have e2 := Array.getElem?_eq_getElem hjs
        rw [hq] at e2
        injection e2 with e2
        rw [← e2]
      · rw [if_neg (fun e => hj e.symm), if_neg (fun e => hj e.symm)]
    · cases e
  · cases e
end

end Go.Proofs.YtbjpecknlohicaaDoor.Lg
