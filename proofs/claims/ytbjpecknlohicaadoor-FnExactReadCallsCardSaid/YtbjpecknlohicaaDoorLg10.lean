/- The logical machine against the model: literals, new rows, append, maps, builtins. No condition. -/
import Derived.Test.YtbjpecknlohicaaDoorLg9
namespace Go.Proofs.YtbjpecknlohicaaDoor.Lg
set_option linter.unusedSimpArgs false
set_option linter.unusedVariables false
open Go.RowKit (Below)

section
variable {P : Program} {p : Par} {φ : Phi} {H : LH} {w : World}

/-! ### literals -/
theorem fold_put : ∀ (us : List Value) (off k : Nat) (c : Array Value), (us.zipIdx k).foldl (fun cs (x : Value × Nat) => cs.setIfInBounds (off + x.2) x.1) c = putA c (off + k) us
  | [], _, _, _ => rfl
  | u :: us, off, k, c => by
    rw [List.zipIdx_cons, List.foldl_cons, fold_put us off (k + 1), putA]
    rfl
theorem put_VRs {cs xs : List V} {us ux : List Value} {o : Nat} (hc : VRs φ w cs us) (hx : VRs φ w xs ux) (ho : o + xs.length ≤ cs.length) : VRs φ w (putAt cs o xs) (putA us.toArray o ux).toList := by
  obtain ⟨hl, hi⟩ := VRs_iff.1 hc
  obtain ⟨hl', hi'⟩ := VRs_iff.1 hx
  have hfit : o + ux.length ≤ us.toArray.size := by simp; omega
  refine VRs_iff.2 ⟨(putAt_length _ _ _).trans (hl.trans (by simp [putA_size])), fun i v hv => ?_⟩
  rw [putAt_get _ _ _ _ ho] at hv
  rw [Array.getElem?_toList, putA_get _ _ _ _ hfit]
  by_cases hin : o ≤ i ∧ i < o + xs.length
  · rw [if_pos hin] at hv
    rw [if_pos (by omega)]
    exact hi' _ _ hv
  · rw [if_neg hin] at hv
    rw [if_neg (by omega)]
    simpa using hi _ _ hv
theorem all_put {cs xs : List V} {o : Nat} (hc : cs.all V.isScal = true) (hx : xs.all V.isScal = true) (ho : o + xs.length ≤ cs.length) : (putAt cs o xs).all V.isScal = true := by
  rw [List.all_eq_true]
  intro v hv
  obtain ⟨i, hi⟩ := List.getElem?_of_mem hv
  rw [putAt_get _ _ _ _ ho] at hi
  split at hi
  · exact all_get hx hi
  · exact all_get hc hi

theorem fillV_ok {pl pl' : Nat → Option (Nat × Nat)} (hpl : ∀ i x, pl i = some x → pl' i = some x) : ∀ {parts : List (Nat × V)} {uparts : List (Nat × Value)} {cs rs : List V} {us : List Value}, VRs φ w cs us → cs.all V.isScal = true →
    parts.map (·.1) = uparts.map (·.1) → VRs φ w (parts.map (·.2)) (uparts.map (·.2)) → fillV pl cs parts = some rs →
    ∃ r : Array Value, Instr.fill pl' us.toArray uparts = some r ∧ VRs φ w rs r.toList ∧ rs.all V.isScal = true ∧ rs.length = cs.length
  | [], up, cs, rs, us, hc, hs, h1, h2, e => by
    cases up with
    | nil => injection e with e; subst e; exact ⟨_, rfl, hc, hs, rfl⟩
    | cons => simp at h1
  | (i, v) :: parts, up, cs, rs, us, hc, hs, h1, h2, e => by
    cases up with
    | nil => simp at h1
    | cons x up =>
      obtain ⟨i', u⟩ := x
      simp only [List.map_cons, List.cons.injEq] at h1
      obtain ⟨rfl, h1⟩ := h1
      simp only [List.map_cons, VRs] at h2
      obtain ⟨u', us', heq, hv, h2⟩ := h2
      injection heq with e1 e2; subst e1; subst e2
      unfold fillV at e
      split at e
      · rename_i off size hp
        obtain ⟨⟨hsz, hle, ht⟩, e⟩ := grd_some e
        obtain ⟨hvc, hvs⟩ := VR_cells hv ht
        have hul : u.cells.size = size := by rw [← hsz, (VRs_iff.1 hvc).1]; simp
        have hlen : us.length = cs.length := (VRs_iff.1 hc).1.symm
        obtain ⟨r, hr, hrr, hrs, hrl⟩ := fillV_ok hpl (put_VRs hc hvc (by rw [hsz]; exact hle)) (all_put hs hvs (by rw [hsz]; exact hle)) h1 h2 e
        refine ⟨r, ?_, hrr, hrs, by rw [hrl, putAt_length]⟩
        rw [Instr.fill, hpl i _ hp]
        simp only []
        rw [if_neg (by simp [hul]; omega)]
        have : (u.cells.zipIdx.foldl (fun cs (x : Value × Nat) => cs.setIfInBounds (off + x.2) x.1) us.toArray) = putA us.toArray off u.cells.toList := by
          rw [← Array.foldl_toList, Array.toList_zipIdx, fold_put]; rfl
        rw [this]
        simpa using hr
      · cases e

theorem zip_map {α β : Type} : ∀ {a : List α} {b : List β}, a.length = b.length → (a.zip b).map (·.1) = a ∧ (a.zip b).map (·.2) = b
  | [], [], _ => ⟨rfl, rfl⟩
  | x :: a, y :: b, h => by
    obtain ⟨h1, h2⟩ := zip_map (a := a) (b := b) (by simpa using h)
    simp only [List.zip_cons_cons, List.map_cons, h1, h2, and_self]
  | [], _ :: _, h => by simp at h
  | _ :: _, [], h => by simp at h

theorem mapM_places : ∀ (l : List Field) (ps : List (Nat × Nat)), places (ty P) (l.map fun f => (f.offset, f.type)) = some ps →
    (l.mapM (fun f => do pure (f.offset, ← sizeOf f.type)) : Sem (List (Nat × Nat))).run P w = .ok ps w
  | [], ps, h => by injection h with h; subst h; rfl
  | f :: l, ps, h => by
    simp only [List.map_cons, places] at h
    split at h
    · rename_i i l' hi hl
      injection h with h; subst h
      have ih := mapM_places l l' hl
      rw [List.mapM_cons]
      simp only [Sem.run_bind, ty_size hi, Result.andThen_ok, Sem.run_pure, ih]
    · cases h

/-! ### struct and array literals -/
theorem build_ok {t : TypeId} {ixs : List Nat} {vs : List V} {us : List Value} {parts : Array (Nat × Value)} {v : V} (hp1 : parts.toList.map (·.1) = ixs) (hp2 : parts.toList.map (·.2) = us) (hv : VRs φ w vs us)
    (e : buildV (ty P) t ixs (some vs) = some v) :
    ∃ u, (Instr.build t parts).run P w = .ok u w ∧ VR φ w v u := by
  have hlen : ixs.length = vs.length := by rw [← hp1, (VRs_iff.1 hv).1, ← hp2]; simp
  obtain ⟨z1, z2⟩ := zip_map hlen
  have zc : ∀ {z : V} {uz : Value}, VR φ w z uz → ∀ {rs : List V} {pl pl' : Nat → Option (Nat × Nat)}, (∀ i x, pl i = some x → pl' i = some x) → z.isTup = false → fillV pl z.cells (ixs.zip vs) = some rs →
      ∃ r : Array Value, Instr.fill pl' uz.cells parts.toList = some r ∧ VR φ w (.agg rs) (.agg r) := by
    intro z uz hz rs pl pl' hpl ht hf
    obtain ⟨hc, hs⟩ := VR_cells hz ht
    obtain ⟨r, hr, hrr, hrs, _⟩ := fillV_ok (uparts := parts.toList) hpl hc hs (by rw [z1, hp1]) (by rw [z2, hp2]; exact hv) hf
    refine ⟨r, by simpa using hr, ?_⟩
    simp only [VR]
    exact ⟨hrs, r.toList, rfl, hrr⟩
  unfold buildV at e
  dsimp only at e
  split at e
  · rename_i s b n el z hi
    split at e
    · rename_i i hT
      obtain ⟨ht, e⟩ := grd_some e
      unfold aggO at e
      split at e
      · rename_i rs hf
        injection e with e; subst e
        obtain ⟨uz, hz, hzr⟩ := ty_zero (z := z) hi rfl w
        obtain ⟨r, hr, hrr⟩ := zc (hzr φ w) (fun _ _ h => h) ht hf
        refine ⟨.agg r, ?_, hrr⟩
        simp only [Instr.build, Sem.run_bind, hz, Result.andThen_ok, run_underlying (arr_some hi), ty_size hT, hr, Sem.run_pure]
      · cases e
    · cases e
  · rename_i s b fs fl z hi
    obtain ⟨gs, hu, rfl⟩ := struct_some hi
    unfold buildS at e
    split at e
    · rename_i ps hps
      obtain ⟨ht, e⟩ := grd_some e
      unfold aggO at e
      split at e
      · rename_i rs hf
        injection e with e; subst e
        obtain ⟨uz, hz, hzr⟩ := ty_zero (z := z) hi rfl w
        have hmap : (gs.mapM (fun f => do pure (f.offset, ← sizeOf f.type)) : Sem (Array (Nat × Nat))).run P w = .ok ps.toArray w := by
          rw [Array.mapM_eq_mapM_toList]
          simp only [Sem.run_map, mapM_places gs.toList ps hps, Result.andThen_ok]
        obtain ⟨r, hr, hrr⟩ := zc (hzr φ w) (pl' := fun i => ps.toArray[i]?) (fun i x h => by simpa using h) ht hf
        refine ⟨.agg r, ?_, hrr⟩
        simp only [Instr.build, Sem.run_bind, hz, Result.andThen_ok, run_underlying hu, hmap, hr, Sem.run_pure]
      · cases e
    · cases e
  · cases e

/-! ### new rows -/
theorem zeros_get {z : V} {n i : Nat} (h : i < n * z.cells.length) : (zeros z n)[i]? = z.cells[i % z.cells.length]? := by
  unfold zeros
  generalize z.cells = cs at *
  induction n generalizing i with
  | zero => omega
  | succ n ih =>
    rw [List.replicate_succ, List.flatten_cons]
    by_cases hi : i < cs.length
    · rw [List.getElem?_append_left hi, Nat.mod_eq_of_lt hi]
    · rw [List.getElem?_append_right (by omega), ih (by rw [Nat.succ_mul] at h; omega)]
      congr 1
      conv => rhs; rw [show i = (i - cs.length) + cs.length by omega, Nat.add_mod_right]
theorem zeros_length (z : V) (n : Nat) : (zeros z n).length = n * z.cells.length := by
  unfold zeros; simp
theorem zeros_ok {z : V} {uz : Value} {n sz : Nat} (hz : VR φ w z uz) (ht : z.isTup = false) (hl : z.cells.length = sz) (h0 : 0 < sz) :
    VRs φ w (zeros z n) (madeCells uz.cells (n * sz)).toList ∧ (zeros z n).all V.isScal = true := by
  subst hl
  obtain ⟨hc, hs⟩ := VR_cells hz ht
  obtain ⟨hcl, hci⟩ := VRs_iff.1 hc
  constructor
  · refine VRs_iff.2 ⟨(zeros_length z n).trans (by simp [madeCells]), fun i v hi => ?_⟩
    have hlt : i < n * z.cells.length := by rw [← zeros_length z n]; exact (List.getElem?_eq_some_iff.1 hi).1
    rw [zeros_get hlt] at hi
    obtain ⟨u, hu, r⟩ := hci _ _ hi
    refine ⟨u, ?_, r⟩
    have hsz : uz.cells.size = z.cells.length := by rw [hcl]; simp
    have hm : i % uz.cells.size < uz.cells.size := by rw [hsz]; exact Nat.mod_lt _ h0
    rw [← hsz, Array.getElem?_toList, Array.getElem?_eq_getElem hm] at hu
    injection hu with hu
    rw [Array.getElem?_toList]
    simp only [madeCells, Array.getElem?_map]
    rw [Array.getElem?_eq_getElem (by simpa using hlt)]
    simp only [Array.getElem_range, Option.map_some]
    have he : uz.cells[i % uz.cells.size]! = uz.cells[i % uz.cells.size] := getElem!_pos uz.cells (i % uz.cells.size) hm
    rw [he, hu]
  · rw [List.all_eq_true]
    intro v hv
    simp only [zeros, List.mem_flatten, List.mem_replicate] at hv
    obtain ⟨l, ⟨_, rfl⟩, hv⟩ := hv
    exact List.all_eq_true.1 hs v hv

theorem row_res {fl sz n cp : Nat} {cs : List V} {us : List Value} {T : TypeId} (h : HR p φ H w) (hR : p.R0 ≤ H.length) (nf : NoFloat φ H (H ++ [.cells cs])) (hc : VRs φ w cs us) (hs : cs.all V.isScal = true) (hn : n ≤ cp) (hl : us.length = cp * sz) :
    Res p fl φ H w (.sl H.length 0 sz n cp) (H ++ [.cells cs]) (.slice (some ⟨w.heap.size, 0, none⟩) n cp) { w with heap := w.heap.push (.cells us.toArray T) } := by
  obtain ⟨r1, r2⟩ := new_cells (fl := fl) h T hR nf.new hc hs [] (0, 0) (fun i _ => by simp)
  rw [List.append_nil] at r1 r2
  refine ⟨_, ?_, r1, r2⟩
  simp only [VR]
  exact ⟨hn, w.heap.size, 0, 0, cp, put_self _ _ _ _, rfl, Nat.le_refl _, .inl rfl, us.toArray, T, (0, 0), alloc_new _ _, by simp [hl]⟩

theorem makeV_ok {fl : Nat} {t : TypeId} {l c v : V} {ul uc : Value} {H' : LH} (h : HR p φ H w) (hR : p.R0 ≤ H.length) (nf : NoFloat φ H H') (hl : VR φ w l ul) (hc : VR φ w c uc) (e : makeV H (elemI (ty P) t) l c = some (v, H')) :
    ∃ u w', (Instr.makeSlice t ul uc).run P w = .ok u w' ∧ Res p fl φ H w v H' u w' := by
  unfold makeV at e
  split at e
  · rename_i sz by' kd z kl nl kc nc hel
    obtain ⟨⟨h1, h2, h3, h4, h5, h6, h7⟩, e⟩ := grd_some e
    injection e with e; injection e with e1 e2; subst e1; subst e2
    obtain ⟨el, hu, hT⟩ := elemI_some hel
    obtain ⟨j, d, hi, hd, hj⟩ := ty_some hT
    injection hj with j1 j2 j3 j4
    simp only [VR] at hl hc; subst hl; subst hc
    obtain ⟨uz, hz, hzv⟩ := Option.bind_eq_some_iff.1 j4.symm
    have hmost : mostCells = 1099511627776 := by decide
    have hrun := run_make (P := P) w t el j uz hu hi hz kl kc nl nc h1 h2 (by rw [← j2]; rw [hmost] at h4; omega) (by omega)
    obtain ⟨hzr, hzs⟩ := zeros_ok (n := nc.toNat) (VR_ofValue hzv φ w) h7 h5 h6
    refine ⟨_, _, hrun, ?_⟩
    rw [j1] at hzr
    have := row_res (fl := fl) (n := nl.toNat) (cp := nc.toNat) (sz := sz) (T := el) h hR nf hzr hzs (by omega) (by rw [j1]; simp [madeCells])
    rw [Array.toArray_toList] at this
    exact this
  · cases e

theorem buildL_ok {fl : Nat} {t : TypeId} {n : Nat} {ixs : List Nat} {vs : List V} {us : List Value} {parts : Array (Nat × Value)} {v : V} {H' : LH} (h : HR p φ H w) (hR : p.R0 ≤ H.length) (nf : NoFloat φ H H')
    (hp1 : parts.toList.map (·.1) = ixs) (hp2 : parts.toList.map (·.2) = us) (hv : VRs φ w vs us) (e : buildL (ty P) t n ixs H (some vs) = some (v, H')) :
    ∃ u w', (Instr.buildSlice t n parts).run P w = .ok u w' ∧ Res p fl φ H w v H' u w' := by
  have hlen : ixs.length = vs.length := by rw [← hp1, (VRs_iff.1 hv).1, ← hp2]; simp
  obtain ⟨z1, z2⟩ := zip_map hlen
  unfold buildL at e
  dsimp only at e
  split at e
  · rename_i s b el z' hi
    split at e
    · rename_i sz by' kd z hT
      obtain ⟨⟨h0, hzl, hmost, hzt⟩, e⟩ := grd_some e
      unfold rowO at e
      split at e
      · rename_i rs hf
        injection e with e; injection e with e1 e2; subst e1; subst e2
        obtain ⟨uz, hz, hzr⟩ := ty_zero (z := z) hT rfl w
        obtain ⟨hzc, hzs⟩ := zeros_ok (n := n) (hzr φ w) hzt hzl h0
        obtain ⟨r, hr, hrr, hrs, hrl⟩ := fillV_ok (uparts := parts.toList) (pl' := fun i => some (i * sz, sz)) (fun _ _ h => h) hzc hzs (by rw [z1, hp1]) (by rw [z2, hp2]; exact hv) hf
        have hul : r.toList.length = n * sz := by rw [← (VRs_iff.1 hrr).1, hrl, zeros_length, hzl]
        have hres := row_res (fl := fl) (n := n) (cp := n) (sz := sz) (T := el) h hR nf hrr hrs (Nat.le_refl _) hul
        refine ⟨_, _, ?_, hres⟩
        have hr' : Instr.fill (fun i => some (i * sz, sz)) ((Array.range (n * sz)).map (uz.cells[· % uz.cells.size]!)) parts.toList = some r := by rw [Array.toArray_toList] at hr; exact hr
        by_cases hz0 : n * sz = 0
        · have hn0 : n = 0 := by rcases Nat.mul_eq_zero.1 hz0 with h | h <;> omega
          subst hn0
          simp only [Nat.zero_mul] at hr' hul
          have hra : r = #[] := by apply Array.ext'; simpa using List.eq_nil_of_length_eq_zero hul
          subst hra
          have e0 : ∀ f : Nat → Value, (Array.range 0).map f = #[] := fun f => by simp [Array.range_zero']
          rw [e0] at hr'
          simp [Instr.buildSlice, run_underlying (slice_some hi), ty_size hT, e0, hr', newRow]
        · have hle : ¬ (16777216 < n * sz) := by omega
          simp [Instr.buildSlice, run_underlying (slice_some hi), ty_size hT, hz0, hz, hr', newRow, hle]
      · cases e
    · cases e
  · cases e
end

end Go.Proofs.YtbjpecknlohicaaDoor.Lg
