/- The logical machine and its contracts, part 2. No condition. -/
import Derived.Test.YthlbglmfdjdagaaGreatDoorN1
namespace Go.Proofs.YthlbglmfdjdagaaGreatDoor.Lg
set_option linter.unusedSimpArgs false
set_option linter.unusedVariables false
open Go.RowKit (Below)
section
variable {P : Program} {p : Par} {φ : Phi} {H : LH} {w : World}
theorem Mo : ∀ (us : List Value) (off k : Nat) (c : Array Value), (us.zipIdx k).foldl (fun cs (x : Value × Nat) => cs.setIfInBounds (off + x.2) x.1) c = putA c (off + k) us
 | [], _, _, _ => rfl
 | u :: us, off, k, c => by
   rw [List.zipIdx_cons, List.foldl_cons, Mo us off (k + 1), putA]
   rfl
theorem V3 {cs xs : List V} {us ux : List Value} {o : Nat} (hc : VRs φ w cs us) (hx : VRs φ w xs ux) (ho : o + xs.length ≤ cs.length) : VRs φ w (Bw cs o xs) (putA us.toArray o ux).toList := by
 obtain ⟨hl, hi⟩ := An.1 hc
 obtain ⟨hl', hi'⟩ := An.1 hx
 have hfit : o + ux.length ≤ us.toArray.size := by simp; omega
 refine An.2 ⟨(Cv _ _ _).trans (hl.trans (by simp [Cf])), fun i v hv => ?_⟩
 rw [EB _ _ _ _ ho] at hv
 rw [Array.getElem?_toList, FJ _ _ _ _ hfit]
 by_cases hin : o ≤ i ∧ i < o + xs.length
 ·rw [if_pos hin] at hv
  rw [if_pos (by omega)]
  exact hi' _ _ hv
 ·rw [if_neg hin] at hv
  rw [if_neg (by omega)]
  simpa using hi _ _ hv
theorem TX {cs xs : List V} {o : Nat} (hc : cs.all V.isScal = true) (hx : xs.all V.isScal = true) (ho : o + xs.length ≤ cs.length) : (Bw cs o xs).all V.isScal = true := by
 rw [List.all_eq_true]
 intro v hv
 obtain ⟨i, hi⟩ := List.getElem?_of_mem hv
 rw [EB _ _ _ _ ho] at hi
 split at hi
 ·exact ER hx hi
 ·exact ER hc hi
theorem I9 {pl pl' : Nat → Option (Nat × Nat)} (hpl : ∀ i x, pl i = some x → pl' i = some x) : ∀ {parts : List (Nat × V)} {uparts : List (Nat × Value)} {cs rs : List V} {us : List Value}, VRs φ w cs us → cs.all V.isScal = true →
 parts.map (·.1) = uparts.map (·.1) → VRs φ w (parts.map (·.2)) (uparts.map (·.2)) → Gb pl cs parts = some rs →
 ∃ r : Array Value, Instr.fill pl' us.toArray uparts = some r ∧ VRs φ w rs r.toList ∧ rs.all V.isScal = true ∧ rs.length = cs.length
 | [], up, cs, rs, us, hc, hs, h1, h2, e => by
   cases up with
   | nil => injection e with e; subst e; exact ⟨_, rfl, hc, hs, rfl⟩
   | cons => simp at h1
 | (i, v) :: parts, up, cs, rs, us, hc, hs, h1, h2, e => by
   cases up with
   | nil => simp at h1
   | cons x up =>
     obtain ⟨i', u⟩ := x
     simp only [List.map_cons, List.cons.injEq] at h1
     obtain ⟨rfl, h1⟩ := h1
     simp only [List.map_cons, VRs] at h2
     obtain ⟨u', us', heq, hv, h2⟩ := h2
     injection heq with e1 e2; subst e1; subst e2
     unfold Gb at e
     split at e
     ·rename_i off size hp
      obtain ⟨⟨hsz, hle, ht⟩, e⟩ := A6 e
      obtain ⟨hvc, hvs⟩ := Du hv ht
      have hul : u.cells.size = size := by rw [← hsz, (An.1 hvc).1]; simp
      have hlen : us.length = cs.length := (An.1 hc).1.symm
      obtain ⟨r, hr, hrr, hrs, hrl⟩ := I9 hpl (V3 hc hvc (by rw [hsz]; exact hle)) (TX hs hvs (by rw [hsz]; exact hle)) h1 h2 e
      refine ⟨r, ?_, hrr, hrs, by rw [hrl, Cv]⟩
      rw [Instr.fill, hpl i _ hp]
      simp only []
      rw [if_neg (by simp [hul]; omega)]
      have : (u.cells.zipIdx.foldl (fun cs (x : Value × Nat) => cs.setIfInBounds (off + x.2) x.1) us.toArray) = putA us.toArray off u.cells.toList := by
       rw [← Array.foldl_toList, Array.toList_zipIdx, Mo]; rfl
      rw [this]
      simpa using hr
     ·cases e
theorem LV {α β : Type} : ∀ {a : List α} {b : List β}, a.length = b.length → (a.zip b).map (·.1) = a ∧ (a.zip b).map (·.2) = b
 | [], [], _ => ⟨rfl, rfl⟩
 | x :: a, y :: b, h => by
   obtain ⟨h1, h2⟩ := LV (a := a) (b := b) (by simpa using h)
   simp only [List.zip_cons_cons, List.map_cons, h1, h2, and_self]
 | [], _ :: _, h => by simp at h
 | _ :: _, [], h => by simp at h
theorem Gl : ∀ (l : List Field) (ps : List (Nat × Nat)), JU (ty P) (l.map fun f => (f.offset, f.type)) = some ps →
 (l.mapM (fun f => do pure (f.offset, ← sizeOf f.type)) : Sem (List (Nat × Nat))).run P w = .ok ps w
 | [], ps, h => by injection h with h; subst h; rfl
 | f :: l, ps, h => by
   simp only [List.map_cons, JU] at h
   split at h
   ·rename_i i l' hi hl
    injection h with h; subst h
    have ih := Gl l l' hl
    rw [List.mapM_cons]
    simp only [Sem.run_bind, Bi hi, Result.andThen_ok, Sem.run_pure, ih]
   ·cases h
theorem RA {t : TypeId} {ixs : List Nat} {vs : List V} {us : List Value} {parts : Array (Nat × Value)} {v : V} (hp1 : parts.toList.map (·.1) = ixs) (hp2 : parts.toList.map (·.2) = us) (hv : VRs φ w vs us)
 (e : G8 (ty P) t ixs (some vs) = some v) :
 ∃ u, (Instr.build t parts).run P w = .ok u w ∧ VR φ w v u := by
 have hlen : ixs.length = vs.length := by rw [← hp1, (An.1 hv).1, ← hp2]; simp
 obtain ⟨z1, z2⟩ := LV hlen
 have zc : ∀ {z : V} {uz : Value}, VR φ w z uz → ∀ {rs : List V} {pl pl' : Nat → Option (Nat × Nat)}, (∀ i x, pl i = some x → pl' i = some x) → z.isTup = false → Gb pl z.cells (ixs.zip vs) = some rs →
  ∃ r : Array Value, Instr.fill pl' uz.cells parts.toList = some r ∧ VR φ w (.agg rs) (.agg r) := by
  intro z uz hz rs pl pl' hpl ht hf
  obtain ⟨hc, hs⟩ := Du hz ht
  obtain ⟨r, hr, hrr, hrs, _⟩ := I9 (uparts := parts.toList) hpl hc hs (by rw [z1, hp1]) (by rw [z2, hp2]; exact hv) hf
  refine ⟨r, by simpa using hr, ?_⟩
  simp only [VR]
  exact ⟨hrs, r.toList, rfl, hrr⟩
 unfold G8 at e
 dsimp only at e
 split at e
 ·rename_i s b n el z hi
  split at e
  ·rename_i i hT
   obtain ⟨ht, e⟩ := A6 e
   unfold aggO at e
   split at e
   ·rename_i rs hf
    injection e with e; subst e
    obtain ⟨uz, hz, hzr⟩ := GP (z := z) hi rfl w
    obtain ⟨r, hr, hrr⟩ := zc (hzr φ w) (fun _ _ h => h) ht hf
    refine ⟨.agg r, ?_, hrr⟩
    simp only [Instr.build, Sem.run_bind, hz, Result.andThen_ok, run_underlying (FD hi), Bi hT, hr, Sem.run_pure]
   ·cases e
  ·cases e
 ·rename_i s b fs fl z hi
  obtain ⟨gs, hu, rfl⟩ := Cm hi
  unfold M9 at e
  split at e
  ·rename_i ps hps
   obtain ⟨ht, e⟩ := A6 e
   unfold aggO at e
   split at e
   ·rename_i rs hf
    injection e with e; subst e
    obtain ⟨uz, hz, hzr⟩ := GP (z := z) hi rfl w
    have hmap : (gs.mapM (fun f => do pure (f.offset, ← sizeOf f.type)) : Sem (Array (Nat × Nat))).run P w = .ok ps.toArray w := by
     rw [Array.mapM_eq_mapM_toList]
     simp only [Sem.run_map, Gl gs.toList ps hps, Result.andThen_ok]
    obtain ⟨r, hr, hrr⟩ := zc (hzr φ w) (pl' := fun i => ps.toArray[i]?) (fun i x h => by simpa using h) ht hf
    refine ⟨.agg r, ?_, hrr⟩
    simp only [Instr.build, Sem.run_bind, hz, Result.andThen_ok, run_underlying hu, hmap, hr, Sem.run_pure]
   ·cases e
  ·cases e
 ·cases e
theorem Rp {z : V} {n i : Nat} (h : i < n * z.cells.length) : (Fz z n)[i]? = z.cells[i % z.cells.length]? := by
 unfold Fz
 generalize z.cells = cs at *
 induction n generalizing i with
 | zero => omega
 | succ n ih =>
   rw [List.replicate_succ, List.flatten_cons]
   by_cases hi : i < cs.length
   ·rw [List.getElem?_append_left hi, Nat.mod_eq_of_lt hi]
   ·rw [List.getElem?_append_right (by omega), ih (by rw [Nat.succ_mul] at h; omega)]
    congr 1
    conv => rhs; rw [show i = (i - cs.length) + cs.length by omega, Nat.add_mod_right]
theorem Dt (z : V) (n : Nat) : (Fz z n).length = n * z.cells.length := by
 unfold Fz; simp
theorem Nb {z : V} {uz : Value} {n sz : Nat} (hz : VR φ w z uz) (ht : z.isTup = false) (hl : z.cells.length = sz) (h0 : 0 < sz) :
 VRs φ w (Fz z n) (madeCells uz.cells (n * sz)).toList ∧ (Fz z n).all V.isScal = true := by
 subst hl
 obtain ⟨hc, hs⟩ := Du hz ht
 obtain ⟨hcl, hci⟩ := An.1 hc
 constructor
 ·refine An.2 ⟨(Dt z n).trans (by simp [madeCells]), fun i v hi => ?_⟩
  have hlt : i < n * z.cells.length := by rw [← Dt z n]; exact (List.getElem?_eq_some_iff.1 hi).1
  rw [Rp hlt] at hi
  obtain ⟨u, hu, r⟩ := hci _ _ hi
  refine ⟨u, ?_, r⟩
  have hsz : uz.cells.size = z.cells.length := by rw [hcl]; simp
  have hm : i % uz.cells.size < uz.cells.size := by rw [hsz]; exact Nat.mod_lt _ h0
  rw [← hsz, Array.getElem?_toList, Array.getElem?_eq_getElem hm] at hu
  injection hu with hu
  rw [Array.getElem?_toList]
  simp only [madeCells, Array.getElem?_map]
  rw [Array.getElem?_eq_getElem (by simpa using hlt)]
  simp only [Array.getElem_range, Option.map_some]
  have he : uz.cells[i % uz.cells.size]! = uz.cells[i % uz.cells.size] := getElem!_pos uz.cells (i % uz.cells.size) hm
  rw [he, hu]
 ·rw [List.all_eq_true]
  intro v hv
  simp only [Fz, List.mem_flatten, List.mem_replicate] at hv
  obtain ⟨l, ⟨_, rfl⟩, hv⟩ := hv
  exact List.all_eq_true.1 hs v hv
theorem QE {fl sz n cp : Nat} {cs : List V} {us : List Value} {T : TypeId} (h : HR p φ H w) (hR : p.R0 ≤ H.length) (nf : NoFloat φ H (H ++ [.cells cs])) (hc : VRs φ w cs us) (hs : cs.all V.isScal = true) (hn : n ≤ cp) (hl : us.length = cp * sz) :
 Res p fl φ H w (.sl H.length 0 sz n cp) (H ++ [.cells cs]) (.slice (some ⟨w.heap.size, 0, none⟩) n cp) { w with heap := w.heap.push (.cells us.toArray T) } := by
 obtain ⟨r1, r2⟩ := CK (fl := fl) h T hR nf.new hc hs [] (0, 0) (fun i _ => by simp)
 rw [List.append_nil] at r1 r2
 refine ⟨_, ?_, r1, r2⟩
 simp only [VR]
 exact ⟨hn, w.heap.size, 0, 0, cp, Cw _ _ _ _, rfl, Nat.le_refl _, .inl rfl, us.toArray, T, (0, 0), C3 _ _, by simp [hl]⟩
theorem Sy {fl : Nat} {t : TypeId} {l c v : V} {ul uc : Value} {H' : LH} (h : HR p φ H w) (hR : p.R0 ≤ H.length) (nf : NoFloat φ H H') (hl : VR φ w l ul) (hc : VR φ w c uc) (e : Gk H (Av (ty P) t) l c = some (v, H')) :
 ∃ u w', (Instr.makeSlice t ul uc).run P w = .ok u w' ∧ Res p fl φ H w v H' u w' := by
 unfold Gk at e
 split at e
 ·rename_i sz by' kd z kl nl kc nc hel
  obtain ⟨⟨h1, h2, h3, h4, h5, h6, h7⟩, e⟩ := A6 e
  injection e with e; injection e with e1 e2; subst e1; subst e2
  obtain ⟨el, hu, hT⟩ := C0 hel
  obtain ⟨j, d, hi, hd, hj⟩ := D3 hT
  injection hj with j1 j2 j3 j4
  simp only [VR] at hl hc; subst hl; subst hc
  obtain ⟨uz, hz, hzv⟩ := Option.bind_eq_some_iff.1 j4.symm
  have hmost : Aj = 1099511627776 := by decide
  have hrun := run_make (P := P) w t el j uz hu hi hz kl kc nl nc h1 h2 (by rw [← j2]; rw [hmost] at h4; omega) (by omega)
  obtain ⟨hzr, hzs⟩ := Nb (n := nc.toNat) (Dv hzv φ w) h7 h5 h6
  refine ⟨_, _, hrun, ?_⟩
  rw [j1] at hzr
  have := QE (fl := fl) (n := nl.toNat) (cp := nc.toNat) (sz := sz) (T := el) h hR nf hzr hzs (by omega) (by rw [j1]; simp [madeCells])
  rw [Array.toArray_toList] at this
  exact this
 ·cases e
theorem OW {fl : Nat} {t : TypeId} {n : Nat} {ixs : List Nat} {vs : List V} {us : List Value} {parts : Array (Nat × Value)} {v : V} {H' : LH} (h : HR p φ H w) (hR : p.R0 ≤ H.length) (nf : NoFloat φ H H')
 (hp1 : parts.toList.map (·.1) = ixs) (hp2 : parts.toList.map (·.2) = us) (hv : VRs φ w vs us) (e : D5 (ty P) t n ixs H (some vs) = some (v, H')) :
 ∃ u w', (Instr.buildSlice t n parts).run P w = .ok u w' ∧ Res p fl φ H w v H' u w' := by
 have hlen : ixs.length = vs.length := by rw [← hp1, (An.1 hv).1, ← hp2]; simp
 obtain ⟨z1, z2⟩ := LV hlen
 unfold D5 at e
 dsimp only at e
 split at e
 ·rename_i s b el z' hi
  split at e
  ·rename_i sz by' kd z hT
   obtain ⟨⟨h0, hzl, hmost, hzt⟩, e⟩ := A6 e
   unfold rowO at e
   split at e
   ·rename_i rs hf
    injection e with e; injection e with e1 e2; subst e1; subst e2
    obtain ⟨uz, hz, hzr⟩ := GP (z := z) hT rfl w
    obtain ⟨hzc, hzs⟩ := Nb (n := n) (hzr φ w) hzt hzl h0
    obtain ⟨r, hr, hrr, hrs, hrl⟩ := I9 (uparts := parts.toList) (pl' := fun i => some (i * sz, sz)) (fun _ _ h => h) hzc hzs (by rw [z1, hp1]) (by rw [z2, hp2]; exact hv) hf
    have hul : r.toList.length = n * sz := by rw [← (An.1 hrr).1, hrl, Dt, hzl]
    have hres := QE (fl := fl) (n := n) (cp := n) (sz := sz) (T := el) h hR nf hrr hrs (Nat.le_refl _) hul
    refine ⟨_, _, ?_, hres⟩
    have hr' : Instr.fill (fun i => some (i * sz, sz)) ((Array.range (n * sz)).map (uz.cells[· % uz.cells.size]!)) parts.toList = some r := by rw [Array.toArray_toList] at hr; exact hr
    by_cases hz0 : n * sz = 0
    ·have hn0 : n = 0 := by rcases Nat.mul_eq_zero.1 hz0 with h | h <;> omega
     subst hn0
     simp only [Nat.zero_mul] at hr' hul
     have hra : r = #[] := by apply Array.ext'; simpa using List.eq_nil_of_length_eq_zero hul
     subst hra
     have e0 : ∀ f : Nat → Value, (Array.range 0).map f = #[] := fun f => by simp [Array.range_zero']
     rw [e0] at hr'
     simp [Instr.buildSlice, run_underlying (Az hi), Bi hT, e0, hr', newRow]
    ·have hle : ¬ (16777216 < n * sz) := by omega
     simp [Instr.buildSlice, run_underlying (Az hi), Bi hT, hz0, hz, hr', newRow, hle]
   ·cases e
  ·cases e
 ·cases e
end
open Go.RowKit (Below)
section
variable {P : Program} {p : Par} {φ : Phi} {H : LH} {w : World}
theorem TS {a b : List V} {ua ub : List Value} (h : VRs φ w a ua) (k : VRs φ w b ub) : VRs φ w (a ++ b) (ua ++ ub) := by
 obtain ⟨hl, hi⟩ := An.1 h
 obtain ⟨kl, ki⟩ := An.1 k
 refine An.2 ⟨by simp [hl, kl], fun i v hv => ?_⟩
 by_cases hil : i < a.length
 ·rw [List.getElem?_append_left hil] at hv
  rw [List.getElem?_append_left (by omega)]
  exact hi i v hv
 ·rw [List.getElem?_append_right (by omega)] at hv
  rw [List.getElem?_append_right (by omega), ← hl]
  exact ki _ v hv
theorem TW {a b : List V} (h : a.all V.isScal = true) (k : b.all V.isScal = true) : (a ++ b).all V.isScal = true := by simp [h, k]
theorem Wn {x : V} {ux : Value} {z m : Nat} {new : List V} (h : HR p φ H w) (hx : VR φ w x ux) (hs : LJ z x = true) (hm : lenV H x = some m) (hn : AW H x = some new) :
 ∃ us : List Value, (Builtin.lenOf ux).run P w = .ok m w ∧ (∀ k, (Builtin.firstCells z m ux).run P { w with drawn := k } = .ok us.toArray { w with drawn := k }) ∧ VRs φ w new us ∧ new.all V.isScal = true ∧ us.length = m * z := by
 unfold LJ at hs
 split at hs
 ·rename_i b o z' n c
  have hz := beq_iff_eq.1 hs; subst hz
  simp only [lenV] at hm; injection hm with hm; subst hm
  obtain ⟨q, off, c', us, rfl, hul, hrs, hss, hld⟩ := IT (P := P) h hx hn
  exact ⟨us, rfl, fun k => by simp only [Builtin.firstCells]; exact hld k, hrs, hss, hul⟩
 ·rename_i s
  have hz := beq_iff_eq.1 hs; subst hz
  simp only [lenV] at hm; injection hm with hm; subst hm
  simp only [AW] at hn; injection hn with hn; subst hn
  simp only [VR] at hx; subst hx
  obtain ⟨h1, h2⟩ := Jb (φ := φ) (w := w) s
  refine ⟨_, rfl, fun k => ?_, h1, h2, by simp⟩
  have hx : s.extract 0 s.size = s := ByteArray.extract_zero_size
  simp only [Builtin.firstCells, hx, Sem.run_pure]
  congr 1
  apply Array.ext'
  simp
 ·simp only [lenV] at hm; injection hm with hm; subst hm
  simp only [AW] at hn; injection hn with hn; subst hn
  simp only [VR] at hx; subst hx
  exact ⟨[], rfl, fun k => rfl, by simp only [VRs], rfl, by simp⟩
 ·simp only [lenV] at hm; injection hm with hm; subst hm
  simp only [AW] at hn; injection hn with hn; subst hn
  simp only [VR] at hx; obtain ⟨a, rfl⟩ := hx
  refine ⟨[], rfl, fun k => ?_, by simp only [VRs], rfl, by simp⟩
  simp only [Builtin.firstCells, Nat.zero_mul]; rfl
 ·cases hs
theorem Rc {fl b q d off : Nat} {cs' : List V} {c c' : Array Value} {T : TypeId} {fz : Nat × Nat} (h : HR p φ H w) (hp : φ b = some (q, d)) (hfl : fl ≤ b) (hR : p.R0 ≤ fl) (hbl : b < H.length) (hnd : H[b]? ≠ some .dead) (hnf : φ H.length = none)
 (hq : w.heap[q]? = some (.cells c T fz)) (hf : ∀ i, i < c.size → ¬ (fz.1 ≤ i ∧ (i < fz.2 ∨ fz.2 < fz.1))) (hcs : c'.size = c.size) (hle : off + cs'.length ≤ c'.size)
 (hv : ∀ (i : Nat) (v : V), cs'[i]? = some v → v.isScal = true ∧ ∃ u, c'[off + i]? = some u ∧ VR φ w v u) :
 HR p (φ.put H.length q off) (H.set b .dead ++ [.cells cs']) { w with heap := w.heap.setIfInBounds q (.cells c' T fz) } ∧
  Step fl φ H w (φ.put H.length q off) (H.set b .dead ++ [.cells cs']) { w with heap := w.heap.setIfInBounds q (.cells c' T fz) } := by
 have hlen : (H.set b .dead ++ [Blk.cells cs']).length = H.length + 1 := by simp
 have hqs : q < w.heap.size := h.bnd b q d hp
 have hget : ∀ i, ({ w with heap := w.heap.setIfInBounds q (.cells c' T fz) } : World).heap[i]? = if i = q then some (.cells c' T fz) else w.heap[i]? := by
  intro i
  show (w.heap.setIfInBounds q _)[i]? = _
  rw [Array.getElem?_setIfInBounds]
  by_cases hi : i = q
  ·subst hi; simp [hqs]
  ·rw [if_neg (fun e => hi e.symm), if_neg hi]
 have hsize : ({ w with heap := w.heap.setIfInBounds q (.cells c' T fz) } : World).heap.size = w.heap.size := by show (w.heap.setIfInBounds q _).size = _; simp
 have hne : ∀ {i x}, φ i = some x → i ≠ H.length := fun e1 e2 => by rw [e2, hnf] at e1; cases e1
 have he : Ext φ w (φ.put H.length q off) { w with heap := w.heap.setIfInBounds q (.cells c' T fz) } := by
  refine ⟨fun i x e => by unfold Phi.put; rw [if_neg (hne e)]; exact e, fun i n ⟨c1, T1, fz1, e, hn⟩ => ?_⟩
  by_cases hi : i = q
  ·subst hi
   rw [hq] at e; injection e with e; injection e with e1 e2 e3; subst e1
   exact ⟨c', T, fz, by rw [hget, if_pos rfl], by omega⟩
  ·exact ⟨c1, T1, fz1, by rw [hget, if_neg hi]; exact e, hn⟩
 have hdead : ∀ i : Nat, i ≠ H.length → Gone H i → Gone (H.set b .dead ++ [Blk.cells cs']) i := fun i hne hi => (hi.set (.inl rfl)).push _ (by simpa using hne)
 have hold : ∀ i : Nat, i < H.length → i ≠ b → (H.set b .dead ++ [Blk.cells cs'])[i]? = H[i]? := by
  intro i hil hib
  rw [List.getElem?_append_left (by simpa using hil), List.getElem?_set_ne (fun e => hib e.symm)]
 have hbd : (H.set b .dead ++ [Blk.cells cs'])[b]? = some .dead := by
  rw [List.getElem?_append_left (by simpa using hbl), List.getElem?_set_self hbl]
 have hother : ∀ {i d'}, φ i = some (q, d') → i ≠ b → Gone H i := by
  intro i d' e hib
  rcases h.inj b i q d d' hp e (by omega) (fun e => hib e.symm) with h3 | h3
  ·have hx := List.getElem?_eq_getElem hbl
   exact absurd (hx.trans (congrArg some (h3 _ hx))) hnd
  ·exact h3
 refine ⟨⟨?_, ?_, ?_, ?_, by rw [hsize]; exact h.q0, ?_, h.glo⟩, ⟨he, ?_, ?_, ?_, by rw [hsize]; exact Nat.le_refl _, (Grow.set hfl (.inl rfl)).trans (.push _ _ _)⟩⟩
 ·intro i q' d' z e hz
  unfold Phi.put at e
  by_cases hi : i = H.length
  ·subst hi
   rw [if_pos rfl] at e; injection e with e; injection e with e1 e2; subst e1; subst e2
   have : (H.set b .dead ++ [Blk.cells cs'])[H.length]? = some (.cells cs') := by
    rw [List.getElem?_append_right (by simp)]; simp
   rw [this] at hz; injection hz with hz; subst hz
   refine ⟨c', T, fz, by rw [hget, if_pos rfl], hle, fun j v hj => ?_, fun _ j hj => hf j (by omega)⟩
   obtain ⟨h1, u, hu, r⟩ := hv j v hj
   exact ⟨h1, u, hu, r.mono he⟩
  ·rw [if_neg hi] at e
   have hil : i < H.length := by
    have := (List.getElem?_eq_some_iff.1 hz).1
    rw [hlen] at this; omega
   by_cases hib : i = b
   ·subst hib; rw [hbd] at hz; injection hz with hz; subst hz; trivial
   ·rw [hold i hil hib] at hz
    by_cases hqq : q' = q
    ·subst hqq; rw [hother e hib _ hz]; trivial
    ·exact (h.blk i q' d' z e hz).mono he (by rw [hget, if_neg hqq])
 ·intro i q' d' e
  rw [hsize]
  unfold Phi.put at e
  by_cases hi : i = H.length
  ·rw [if_pos hi] at e; injection e with e; injection e with e1 e2; omega
  ·rw [if_neg hi] at e; exact h.bnd i q' d' e
 ·intro i i' q' d1 d2 e e' hr hn
  unfold Phi.put at e e'
  by_cases hi : i = H.length
  ·rw [if_pos hi] at e; injection e with e; injection e with e1 e2; subst e1
   rw [if_neg (by omega)] at e'
   right
   by_cases hib : i' = b
   ·rw [hib]; exact .of hbd
   ·exact hdead _ (hne e') (hother e' hib)
  ·rw [if_neg hi] at e
   by_cases hi' : i' = H.length
   ·rw [if_pos hi'] at e'; injection e' with e'; injection e' with e1 e2; subst e1
    left
    by_cases hib : i = b
    ·rw [hib]; exact .of hbd
    ·exact hdead _ (hne e) (hother e hib)
   ·rw [if_neg hi'] at e'
    rcases h.inj i i' q' d1 d2 e e' hr hn with h3 | h3
    ·exact .inl (hdead _ hi h3)
    ·exact .inr (hdead _ hi' h3)
 ·intro i q' d' e hr
  unfold Phi.put at e
  by_cases hi : i = H.length
  ·rw [if_pos hi] at e; injection e with e; injection e with e1 e2; subst e1; exact h.low b _ d hp (by omega)
  ·rw [if_neg hi] at e; exact h.low i q' d' e hr
 ·refine h.old.trans ⟨rfl, rfl, rfl, by rw [hsize]; exact Nat.le_refl _, fun k hk => ?_⟩
  rw [hget, if_neg]
  have := h.low b q d hp (by omega)
  omega
 ·intro i x e n
  unfold Phi.put at e
  by_cases hi : i = H.length
  ·subst hi; rw [hlen]; exact ⟨Nat.le_refl _, by omega⟩
  ·rw [if_neg hi] at e; rw [e] at n; cases n
 ·intro i q' d' e n
  unfold Phi.put at e
  by_cases hi : i = H.length
  ·rw [if_pos hi] at e; injection e with e; injection e with e1 e2; subst e1
   exact .inr ⟨b, d, hfl, hbl, hp⟩
  ·rw [if_neg hi] at e; rw [e] at n; cases n
 ·intro i hi hn
  rw [hget, if_neg]
  intro e; subst e
  exact hn b d hfl hbl hp
def Gg (d : TypeDesc) : Bool := match d with | .int _ => true | _ => false
theorem Q1 {t : TypeId} (h : Mr (ty P t) = false) : ∃ d, P.underlying t = some d ∧ Gg d = false := by
 unfold Mr at h
 split at h
 ·cases h
 ·rename_i i hn hi
  obtain ⟨j, d, _, h2, rfl⟩ := D3 hi
  refine ⟨d, h2, ?_⟩
  cases d with
  | int k => exact absurd rfl (hn _ _ k _)
  | _ => rfl
 ·cases h
theorem Fm {t t' ty' : TypeId} {e : TypeId} {i : TypeInfo} {d' : TypeDesc} {q off n c m : Nat} {ux : Value} {us : List Value} {cc : Array Value} {T : TypeId} {fz : Nat × Nat} (hu : P.underlying t = some (.slice e)) (hi : P.info? e = some i)
 (ht' : P.underlying t' = some d') (hd : Gg d' = false) (hm : (Builtin.lenOf ux).run P w = .ok m w) (hf : (Builtin.firstCells i.size m ux).run P w = .ok us.toArray w)
 (hfit : n + m ≤ c) (hq : w.heap[q]? = some (.cells cc T fz)) (hz : ∀ i, i < cc.size → ¬ (fz.1 ≤ i ∧ i < fz.2)) (hle : off + n * i.size + us.length ≤ cc.size) (hone : ∀ u ∈ us, u.oneCell' = true) :
 (Builtin.append_ #[t, t'] ty' #[.slice (some ⟨q, off, none⟩) n c, ux]).run P w = .ok (.slice (some ⟨q, off, none⟩) (n + m) c) { w with heap := w.heap.setIfInBounds q (.cells (putA cc (off + n * i.size) us) T fz) } := by
 have hst := CZ (P := P) (q := q) (o := off + n * i.size) us 0 cc w hq (by omega) hz hone
 simp only [Nat.add_zero] at hst
 simp [Builtin.append_, run_underlying hu, run_underlying ht', sizeOf, typeInfo, hi, hm, hfit, BS]
 split
 ·simp [Gg] at hd
 ·simp [hf, hst]
theorem Do {t t' ty' : TypeId} {e : TypeId} {i : TypeInfo} {z : Value} {d' : TypeDesc} {base : Option Addr} {n c m : Nat} {ux : Value} {us olds : List Value} (hu : P.underlying t = some (.slice e)) (hi : P.info? e = some i) (hz : i.zero = some z)
 (ht' : P.underlying t' = some d') (hd : Gg d' = false) (hm : (Builtin.lenOf ux).run P w = .ok m w) (hf : ∀ k, (Builtin.firstCells i.size m ux).run P { w with drawn := k } = .ok us.toArray { w with drawn := k })
 (hfo : ∀ k, (Builtin.firstCells i.size n (.slice base n c)).run P { w with drawn := k } = .ok olds.toArray { w with drawn := k }) (hg : c < n + m) (hb : (n + m) * i.bytes ≤ Aj) (hb1 : n + m ≤ Aj) :
 ∃ cap, n + m ≤ cap ∧ (Builtin.append_ #[t, t'] ty' #[.slice base n c, ux]).run P w =
  .ok (.slice (some ⟨w.heap.size, 0, none⟩) (n + m) cap) { w with drawn := w.drawn + 1, heap := w.heap.push (.cells ((olds ++ us) ++ (Builtin.zeroCells z.cells (cap - (n + m))).toList).toArray e) } := by
 have hmost : Aj = 1099511627776 := by decide
 rw [hmost] at hb hb1
 refine ⟨(n + m) + w.tape w.drawn (.appendCap (n + m) c e) % (2 ^ 63 - (n + m)), by omega, ?_⟩
 generalize hk : w.tape w.drawn (.appendCap (n + m) c e) % (2 ^ 63 - (n + m)) = k
 have h1 : ¬ (n + m ≤ c) := by omega
 have h2 : ¬ (9223372036854775807 < ((n : Int) + (m : Int))) := by omega
 have h3 : ¬ (281474976710656 < Builtin.nextslicecap (n + m) c * i.bytes) := by
  have := growslice_fits (need := n + m) (old := c) (bytes := i.bytes) hg (by omega)
  omega
 have hf' : (Builtin.firstCells i.size m ux).run P w.drew = .ok us.toArray w.drew := hf (w.drawn + 1)
 have hfo' : (Builtin.firstCells i.size n (.slice base n c)).run P w.drew = .ok olds.toArray w.drew := hfo (w.drawn + 1)
 have hk' : w.tape w.drawn (.appendCap (n + m) c e) % (9223372036854775808 - (n + m)) = k := hk
 simp [Builtin.append_, run_underlying hu, run_underlying ht', sizeOf, typeInfo, zeroValue, hi, hz, hm, h1, h3, hfo', Question.forced, Question.cut, hk', newRow]
 split
 ·simp [Gg] at hd
 simp [h2, hf', hfo']
 have ha : (olds ++ (us ++ (Builtin.zeroCells z.cells k).toList)).toArray = olds.toArray ++ (us.toArray ++ Builtin.zeroCells z.cells k) := by
  apply Array.ext'
  simp
 rw [ha]
 rfl
end
open Go.RowKit (Below)
section
variable {P : Program} {p : Par} {φ : Phi} {H : LH} {w : World}
theorem Dp {t t' ty' : TypeId} {e : TypeId} {i : TypeInfo} {d' : TypeDesc} {base : Option Addr} {n c : Nat} {ux : Value} (hu : P.underlying t = some (.slice e)) (hi : P.info? e = some i)
 (ht' : P.underlying t' = some d') (hd : Gg d' = false) (hm : (Builtin.lenOf ux).run P w = .ok 0 w) (hf : (Builtin.firstCells i.size 0 ux).run P w = .ok #[] w) (hfit : n ≤ c) :
 (Builtin.append_ #[t, t'] ty' #[.slice base n c, ux]).run P w = .ok (.slice base n c) w := by
 simp [Builtin.append_, run_underlying hu, run_underlying ht', sizeOf, typeInfo, hi, hm, hfit]
 split
 ·simp [Gg] at hd
 ·cases base <;> simp [hf, storeCells]
set_option maxHeartbeats 2000000 in
theorem TZ {fl : Nat} {t t' ty' : TypeId} {s x v : V} {us ux : Value} {H' : LH} (h : HR p φ H w) (hR : p.R0 ≤ fl) (hfl : fl ≤ H.length) (nf : NoFloat φ H H') (hs : VR φ w s us) (hx : VR φ w x ux)
 (e : appV (ty P) fl t t' H s x = some (v, H')) : ∃ u w', (Builtin.append_ #[t, t'] ty' #[us, ux]).run P w = .ok u w' ∧ Res p fl φ H w v H' u w' := by
 have hRH : p.R0 ≤ H.length := Nat.le_trans hR hfl
 unfold appV at e
 split at e
 ·rename_i z by' kd zv m new hel hm hnew
  replace e := A6 e
  obtain ⟨⟨g1, g2, g3, g4, g5, g6'⟩, e⟩ := e
  obtain ⟨el, hu, hT⟩ := C0 hel
  obtain ⟨j, d, hi, hd, hj⟩ := D3 hT
  injection hj with j1 j2 j3 j4
  obtain ⟨uz, hz, hzv⟩ := Option.bind_eq_some_iff.1 j4.symm
  have huz : uz.cells.size = z := by
   have := (An.1 (Du (Dv hzv φ w) g6').1).1
   rw [g5] at this; simp at this; exact this.symm
  have hzc : ∀ k, (Builtin.zeroCells uz.cells k).toList.length = k * z := fun k => by simp [Builtin.zeroCells, huz]
  obtain ⟨d', ht', hd'⟩ := Q1 g2
  obtain ⟨news, hlen, hfc, hnr, hns, hnl⟩ := Wn (P := P) h hx g1 hm hnew
  have hfc' := hfc w.drawn
  rw [j1] at hfc hfc'
  unfold AB at e
  split at e
  ·
   simp only [VR] at hs; subst hs
   split at e
   ·rename_i hm0
    subst hm0
    injection e with e; injection e with e1 e2; subst e1; subst e2
    have : news = [] := List.eq_nil_of_length_eq_zero (by rw [hnl]; simp)
    subst this
    exact ⟨_, w, Dp hu hi ht' hd' hlen hfc' (Nat.le_refl _), .same h (by simp only [VR])⟩
   ·rename_i hm0
    replace e := A6 e
    obtain ⟨hb, e⟩ := e
    injection e with e; injection e with e1 e2; subst e1; subst e2
    have hb1 : m ≤ Aj := Nat.le_trans (by have := Nat.mul_le_mul_left m (show 1 ≤ by' by omega); simpa using this) hb
    obtain ⟨cap, hcap, hrun⟩ := Do (P := P) (w := w) (ty' := ty') (base := none) (n := 0) (c := 0) (olds := []) hu hi hz ht' hd' hlen hfc (fun k => rfl) (by omega) (by rw [Nat.zero_add, ← j2]; exact hb) (by omega)
    have h2 := h.drew (w.drawn + 1)
    obtain ⟨r1, r2⟩ := CK (fl := fl) h2 el hRH nf.new (hnr.mono (Ext.dr _)) hns (Builtin.zeroCells uz.cells (cap - (0 + m))).toList (0, 0) (fun i _ => by simp)
    refine ⟨_, _, hrun, _, ?_, r1, (Step.drew (w.drawn + 1)).trans r2 (nf.left (by simp))⟩
    simp only [VR]
    refine ⟨Nat.le_refl _, w.heap.size, 0, 0, cap, Cw _ _ _ _, by simp, by omega, .inl rfl, _, _, _, C3 _ _, ?_⟩
    have hsum : m * z + (cap - (0 + m)) * z = cap * z := by rw [← Nat.add_mul]; congr 1; omega
    simp only [List.size_toArray, List.length_append, List.length_nil, hnl, hzc]
    omega
  ·
   have hs0 := hs
   simp only [VR] at hs; obtain ⟨ba, rfl⟩ := hs
   split at e
   ·rename_i hm0
    subst hm0
    injection e with e; injection e with e1 e2; subst e1; subst e2
    have : news = [] := List.eq_nil_of_length_eq_zero (by rw [hnl]; simp)
    subst this
    exact ⟨_, w, Dp hu hi ht' hd' hlen hfc' (Nat.le_refl _), .same h hs0⟩
   ·rename_i hm0
    replace e := A6 e
    obtain ⟨hb, e⟩ := e
    injection e with e; injection e with e1 e2; subst e1; subst e2
    have hb1 : m ≤ Aj := Nat.le_trans (by have := Nat.mul_le_mul_left m (show 1 ≤ by' by omega); simpa using this) hb
    obtain ⟨cap, hcap, hrun⟩ := Do (P := P) (w := w) (ty' := ty') (base := some ba) (n := 0) (c := 0) (olds := []) hu hi hz ht' hd' hlen hfc (fun k => by simp only [Builtin.firstCells, Nat.zero_mul]; rfl) (by omega) (by rw [Nat.zero_add, ← j2]; exact hb) (by omega)
    have h2 := h.drew (w.drawn + 1)
    obtain ⟨r1, r2⟩ := CK (fl := fl) h2 el hRH nf.new (hnr.mono (Ext.dr _)) hns (Builtin.zeroCells uz.cells (cap - (0 + m))).toList (0, 0) (fun i _ => by simp)
    refine ⟨_, _, hrun, _, ?_, r1, (Step.drew (w.drawn + 1)).trans r2 (nf.left (by simp))⟩
    simp only [VR]
    refine ⟨Nat.le_refl _, w.heap.size, 0, 0, cap, Cw _ _ _ _, by simp, by omega, .inl rfl, _, _, _, C3 _ _, ?_⟩
    have hsum : m * z + (cap - (0 + m)) * z = cap * z := by rw [← Nat.add_mul]; congr 1; omega
    simp only [List.size_toArray, List.length_append, List.length_nil, hnl, hzc]
    omega
  ·rename_i b o z' n c
   replace e := A6 e
   obtain ⟨hz', e⟩ := e
   subst hz'
   have hs0 := hs
   simp only [VR] at hs
   obtain ⟨hnc, q, d1, off, c', hp, rfl, hc, ho, hr⟩ := hs
   split at e
   ·rename_i hm0
    subst hm0
    injection e with e; injection e with e1 e2; subst e1; subst e2
    have : news = [] := List.eq_nil_of_length_eq_zero (by rw [hnl]; simp)
    subst this
    exact ⟨_, w, Dp hu hi ht' hd' hlen hfc' (by omega), .same h hs0⟩
   ·rename_i hm0
    cases hcs : H.cellsAt b with
    | none => rw [hcs] at e; cases e
    | some cs =>
      rw [hcs] at e
      unfold appO at e
      dsimp only at e
      obtain ⟨cc, T, fz, hq, hle, hv, hf⟩ := h.cells hp hcs
      have hrow : off + c' * z' ≤ cc.size := by
       obtain ⟨c1, T1, fz1, hq1, hle1⟩ := hr
       rw [hq] at hq1; injection hq1 with hq1; injection hq1 with e1 e2 e3; subst e1; exact hle1
      have hone := FZ hnr hns
      split at e
      ·rename_i hfit
       replace e := A6 e
       obtain ⟨⟨g6, g7⟩, e⟩ := e
       injection e with e; injection e with e1 e2; subst e1; subst e2
       have hoff : off = d1 + o := by rcases ho with h | h <;> omega
       subst hoff
       have hmul : (n + m) * z' = n * z' + m * z' := Nat.add_mul _ _ _
       have hrun := Fm (P := P) (w := w) (ty' := ty') (q := q) (off := d1 + o) (us := news) (n := n) (c := c') hu hi ht' hd' hlen hfc' (by omega) hq (fun i hi e => hf (by omega) i hi ⟨e.1, .inl e.2⟩) (by rw [← j1, hnl]; omega) hone
       have hon : o + n * z' + new.length ≤ cs.length := by rw [(An.1 hnr).1, hnl]; omega
       obtain ⟨r1, r2⟩ := N9 h hp hcs g6 hR hq hnr hns hon
       rw [← j1, Nat.add_assoc] at hrun
       refine ⟨_, _, hrun, φ, ?_, r1, r2⟩
       simp only [VR]
       exact ⟨by omega, q, d1, d1 + o, c', hp, rfl, hc, .inl rfl, r2.ext.siz _ _ ⟨cc, T, fz, hq, hrow⟩⟩
      ·rename_i hfit
       replace e := A6 e
       obtain ⟨⟨g6, g7⟩, e⟩ := e
       unfold L0 at e
       split at e
       ·rename_i old hold
        obtain ⟨hcut, hold⟩ := A6 hold
        injection hold with hold
        injection e with e; injection e with e1 e2; subst e1; subst e2
        have hlen2 : (H.set b .dead ++ [Blk.cells (old ++ new)]).length = H.length + 1 := by simp
        have hnf : φ H.length = none := by
         cases e : φ H.length with
         | none => rfl
         | some y => rcases nf _ y e with h | h <;> (try rw [hlen2] at h) <;> omega
        have hbl : b < H.length := (List.getElem?_eq_some_iff.1 (AI hcs)).1
        by_cases hin : n + m ≤ c'
        ·
         have hoff : off = d1 + o := by rcases ho with h | h <;> omega
         subst hoff
         have hmul : (n + m) * z' = n * z' + m * z' := Nat.add_mul _ _ _
         have hmulc : (n + m) * z' ≤ c' * z' := Nat.mul_le_mul_right _ hin
         have hrun := Fm (P := P) (w := w) (ty' := ty') (q := q) (off := d1 + o) (us := news) (n := n) (c := c') hu hi ht' hd' hlen hfc' hin hq (fun i hi e => hf (by omega) i hi ⟨e.1, .inl e.2⟩) (by rw [← j1, hnl]; omega) hone
         rw [← j1] at hrun
         have hlo : old.length = n * z' := by rw [← hold]; simp; omega
         have hln : new.length = m * z' := by rw [(An.1 hnr).1, hnl]
         have hfit2 : d1 + o + n * z' + news.length ≤ cc.size := by rw [hnl]; omega
         obtain ⟨r1, r2⟩ := Rc (c' := putA cc (d1 + o + n * z') news) (off := d1 + o) (cs' := old ++ new) h hp g6 hR hbl (ES hcs) hnf hq (hf (by omega)) (Cf _ _ _) (by rw [Cf, List.length_append, hlo, hln]; omega) (by
          intro i v hi'
          rw [FJ _ _ _ _ hfit2]
          by_cases hio : i < old.length
          ·rw [List.getElem?_append_left hio] at hi'
           rw [if_neg (by rw [hlo] at hio; omega), Nat.add_assoc]
           rw [← hold, List.getElem?_take] at hi'
           rw [if_pos (by rw [hlo] at hio; exact hio), List.getElem?_drop] at hi'
           exact hv _ _ hi'
          ·rw [List.getElem?_append_right (by omega)] at hi'
           have hil : i - old.length < new.length := (List.getElem?_eq_some_iff.1 hi').1
           rw [if_pos (by rw [hlo] at hio hil; rw [hnl]; omega)]
           obtain ⟨u, hu', r⟩ := (An.1 hnr).2 _ _ hi'
           refine ⟨ER hns hi', u, ?_, r⟩
           rw [show d1 + o + i - (d1 + o + n * z') = i - old.length by omega]
           exact hu')
         refine ⟨_, _, hrun, _, ?_, r1, r2⟩
         simp only [VR]
         refine ⟨Nat.le_refl _, q, d1 + o, d1 + o, c', Cw _ _ _ _, rfl, hin, .inl rfl, ?_⟩
         exact r2.ext.siz _ _ ⟨cc, T, fz, hq, hrow⟩
        ·
         have hb1 : n + m ≤ Aj := Nat.le_trans (by have := Nat.mul_le_mul_left (n + m) (show 1 ≤ by' by omega); simpa using this) g7
         have hslc : AW H (.sl b o z' n c) = some old := by
          simp only [AW, hcs, Fh, cut, grd, hcut, if_true, hold]
         obtain ⟨q2, off2, c2, olds, heq, hol, hor, hos, hold2⟩ := IT (P := P) h hs0 hslc
         injection heq with e1 e2 e3; injection e1 with e1; injection e1 with e1 e4; subst e1; subst e4; subst e3
         obtain ⟨cap, hcap, hrun⟩ := Do (P := P) (w := w) (ty' := ty') (base := some ⟨q, off, none⟩) (n := n) (c := c') (olds := olds) hu hi hz ht' hd' hlen hfc
          (fun k => by simp only [Builtin.firstCells]; rw [← j1]; exact hold2 k) (by omega) (by rw [← j2]; exact g7) hb1
         obtain ⟨s1, s2⟩ := Ug h g6
         have h2 := s1.drew (w.drawn + 1)
         have hlenS : (H.set b .dead).length = H.length := by simp
         have hnr2 := TS (hor.mono (Ext.dr (w.drawn + 1))) (hnr.mono (Ext.dr (w.drawn + 1)))
         obtain ⟨r1, r2⟩ := CK (fl := fl) h2 el (by rw [hlenS]; exact hRH) (by rw [hlenS]; exact hnf) hnr2 (TW hos hns) (Builtin.zeroCells uz.cells (cap - (n + m))).toList (0, 0) (fun i _ => by simp)
         have nf1 : NoFloat φ H (H.set b .dead) := fun i x hx' => by
          rcases nf i x hx' with h | h
          ·exact .inl h
          ·right; rw [hlenS]; rw [hlen2] at h; omega
         refine ⟨_, _, hrun, _, ?_, r1, (s2.trans (Step.drew (w.drawn + 1)) nf1).trans r2 nf1⟩
         simp only [VR]
         refine ⟨Nat.le_refl _, w.heap.size, 0, 0, cap, by rw [← hlenS]; exact Cw _ _ _ _, rfl, hcap, .inl rfl, _, _, _, C3 _ _, ?_⟩
         have hsum : (n * z' + m * z') + (cap - (n + m)) * z' = cap * z' := by rw [← Nat.add_mul, ← Nat.add_mul]; congr 1; omega
         simp only [List.size_toArray, List.length_append, hol, hnl, hzc]
         omega
       ·cases e
  ·cases e
 ·cases e
end
open Go.RowKit (Below)
section
variable {P : Program} {p : Par} {φ : Phi} {H : LH} {w : World}
theorem Er {kt : TypeId} {k : V} {uk : Value} (h : C9 (ty P) kt k = true) (hk : VR φ w k uk) :
 (∃ s t, k = .str s ∧ uk = .string s ∧ P.underlying kt = some .string ∧ t = ()) ∨ (∃ q n j, k = .int q n ∧ uk = .int q n ∧ P.underlying kt = some (.int j)) := by
 unfold C9 at h
 split at h
 ·split at h
  ·rename_i hi; simp only [VR] at hk; exact .inl ⟨_, (), rfl, hk, AT hi, rfl⟩
  ·cases h
 ·split at h
  ·rename_i hi; simp only [VR] at hk; exact .inr ⟨_, _, _, rfl, hk, B1 hi⟩
  ·cases h
 ·cases h
theorem I0 {kt : TypeId} {k : V} {uk : Value} (h : C9 (ty P) kt k = true) (hk : VR φ w k uk) (b : Bool) (n : Nat) : (Instr.checkKey b (n + 1) kt uk).run P w = .ok () w := by
 rcases Er h hk with ⟨s, _, rfl, rfl, hu, _⟩ | ⟨q, m, j, rfl, rfl, hu⟩ <;> simp only [Instr.checkKey, Sem.run_bind, run_underlying hu, Result.andThen_ok, Sem.run_pure]
theorem DV {kt : TypeId} {k : V} {uk : Value} (h : C9 (ty P) kt k = true) (hk : VR φ w k uk) (b : Bool) : (Instr.checkKey b 10000 kt uk).run P w = .ok () w := I0 h hk b 9999
theorem KA (a b : ByteArray) : (a == b) = decide (a = b) := by rw [beq_toListBytes, N3]
theorem FF {kt : TypeId} {k : V} {uk : Value} (h : C9 (ty P) kt k = true) (hk : VR φ w k uk) : ∀ {es : List (V × V)} {us : List MapEntry} {i : Nat} {r : Option (Nat × V)}, EsR φ w es us → CB k es i = some r →
 ∃ d, P.underlying kt = some d ∧ ∃ r', Instr.findNow d uk us i = some r' ∧ ((r = none ∧ r' = none) ∨ ∃ j v u, r = some (j, v) ∧ r' = some (j, u) ∧ VR φ w v u ∧ i ≤ j ∧ j < i + es.length ∧ ∃ m, us[j - i]? = some m ∧ VR φ w k m.key)
 | [], us, i, r, he, e => by
   simp only [EsR] at he; subst he
   injection e with e; subst e
   rcases Er h hk with ⟨s, _, rfl, rfl, hu, _⟩ | ⟨q, n, j, rfl, rfl, hu⟩
   ·exact ⟨_, hu, none, rfl, .inl ⟨rfl, rfl⟩⟩
   ·exact ⟨_, hu, none, rfl, .inl ⟨rfl, rfl⟩⟩
 | (k', v) :: es, us, i, r, he, e => by
   obtain ⟨m, us', rfl, hmk, hmv, hes⟩ := he
   unfold CB at e
   split at e
   ·rename_i hq
    injection e with e; subst e
    rcases Er h hk with ⟨s, _, rfl, rfl, hu, _⟩ | ⟨q, n, j, rfl, rfl, hu⟩
    ·cases k' <;> simp only [eqS] at hq <;> first | (cases hq; done) | skip
     injection hq with hq
     have hq := of_decide_eq_true hq
     subst hq
     simp only [VR] at hmk
     refine ⟨_, hu, some (i, m.val), ?_, .inr ⟨i, v, m.val, rfl, rfl, hmv, Nat.le_refl _, by simp, m, by simp, by simp only [VR]; exact hmk⟩⟩
     simp only [Instr.findNow, Instr.sameNow, hmk, KA, decide_true]
    ·cases k' <;> simp only [eqS] at hq <;> first | (cases hq; done) | skip
     obtain ⟨hkk, hq1⟩ := A6 hq
     injection hq1 with hq1
     have hq2 := of_decide_eq_true hq1
     subst hq2; subst hkk
     simp only [VR] at hmk
     refine ⟨_, hu, some (i, m.val), ?_, .inr ⟨i, v, m.val, rfl, rfl, hmv, Nat.le_refl _, by simp, m, by simp, by simp only [VR]; exact hmk⟩⟩
     simp only [Instr.findNow, Instr.sameNow, hmk, if_true, beq_self_eq_true]
   ·rename_i hq
    obtain ⟨d, hu, r', hr', ih⟩ := FF h hk hes e
    refine ⟨d, hu, r', ?_, ?_⟩
    ·rcases Er h hk with ⟨s, _, rfl, rfl, hu', _⟩ | ⟨q, n, j, rfl, rfl, hu'⟩
     ·rw [hu] at hu'; injection hu' with hu'; subst hu'
      cases k' <;> simp only [eqS] at hq <;> first | (cases hq; done) | skip
      injection hq with hq
      simp only [VR] at hmk
      simp only [Instr.findNow, Instr.sameNow, hmk, KA, hq]
      exact hr'
     ·rw [hu] at hu'; injection hu' with hu'; subst hu'
      cases k' <;> simp only [eqS] at hq <;> first | (cases hq; done) | skip
      obtain ⟨hkk, hq1⟩ := A6 hq
      injection hq1 with hq1
      subst hkk
      simp only [VR] at hmk
      have hne : ∀ {a b : Int}, decide (a = b) = false → (a == b) = false := fun h => h
      simp only [Instr.findNow, Instr.sameNow, hmk, if_true, hne hq1]
      exact hr'
    ·rcases ih with ⟨rfl, rfl⟩ | ⟨j, v', u, rfl, rfl, hv, h1, h2, m', h3, h4⟩
     ·exact .inl ⟨rfl, rfl⟩
     ·refine .inr ⟨j, v', u, rfl, rfl, hv, by omega, by simp; omega, m', ?_, h4⟩
      rw [show j - i = (j - (i + 1)) + 1 by omega, List.getElem?_cons_succ]
      exact h3
   ·cases e
theorem Sx {fl : Nat} {t : TypeId} {ok : Bool} {m k v : V} {um uk : Value} {H' : LH} (h : HR p φ H w) (hm : VR φ w m um) (hk : VR φ w k uk) (e : Cc (ty P) t ok H m k = some (v, H')) :
 ∃ u, (Instr.lookup t um uk ok).run P w = .ok u w ∧ Res p fl φ H w v H' u w := by
 unfold Cc at e
 split at e
 ·rename_i s b kt et z' hi
  split at e
  ·rename_i s2 b2 k2 z hT
   obtain ⟨hkey, e⟩ := A6 e
   obtain ⟨uz, hz, hzr⟩ := GP (z := z) hT rfl w
   obtain ⟨us, es, hes, hE, hrun⟩ : ∃ us es, mapE H m = some es ∧ EsR φ w es us ∧ ∀ r', (∃ d, P.underlying kt = some d ∧ Instr.findNow d uk us 0 = some r') →
    (Instr.lookup t um uk ok).run P w = .ok (if ok then .tuple #[(match r' with | some (_, v) => v | none => uz), .bool r'.isSome] else (match r' with | some (_, v) => v | none => uz)) w := by
    have fin : ∀ (us : Array MapEntry) r', (∃ d, P.underlying kt = some d ∧ Instr.findNow d uk us.toList 0 = some r') →
     (do Instr.checkKey us.isEmpty 10000 kt uk
         let (v, ok') ← match ← Instr.findKey kt uk us.toList with
          | some (_, v) => pure (v, true)
          | none => pure (← zeroValue et, false)
         pure (if ok then .tuple #[v, .bool ok'] else v) : Sem Value).run P w =
       .ok (if ok then .tuple #[(match r' with | some (_, v) => v | none => uz), .bool r'.isSome] else (match r' with | some (_, v) => v | none => uz)) w := by
     rintro us r' ⟨d, hd, hr⟩
     have hfk : (Instr.findKey kt uk us.toList).run P w = .ok r' w := by
      simp only [Instr.findKey, Sem.run_bind, run_underlying hd, Result.andThen_ok, hr, Sem.run_pure]
     simp only [Sem.run_bind, DV hkey hk, Result.andThen_ok, hfk]
     cases r' with
     | none => simp [hz]
     | some x => simp
    unfold mapE
    cases m with
    | map b =>
      simp only [VR] at hm
      obtain ⟨q, d, hp, rfl⟩ := hm
      cases hb : H.mapAt b with
      | none => simp only [mapE, hb, entO] at e; cases e
      | some es =>
        obtain ⟨us, clk, hq, hE⟩ := h.map hp hb
        refine ⟨us.toList, es, hb, hE, fun r' hr => ?_⟩
        have hg : (getObj q).run P w = .ok (.map us clk) w := by simp only [getObj, Sem.run, hq]
        unfold Instr.lookup
        simp only [Sem.run_bind, run_underlying (map_some hi), Result.andThen_ok, hg, Sem.run_pure]
        have := fin us r' hr
        simp only [Sem.run_bind] at this
        exact this
    | nilmap =>
      simp only [VR] at hm
      subst hm
      refine ⟨[], [], rfl, by simp only [EsR], fun r' hr => ?_⟩
      unfold Instr.lookup
      simp only [Sem.run_bind, run_underlying (map_some hi), Result.andThen_ok, Sem.run_pure]
      have := fin #[] r' hr
      simp only [Sem.run_bind] at this
      exact this
    | _ => simp only [mapE, entO] at e; cases e
   rw [hes] at e
   simp only [entO] at e
   cases hf : CB k es 0 with
   | none => rw [hf] at e; cases e
   | some r =>
     rw [hf] at e
     obtain ⟨d, hu, r', hr', hrel⟩ := FF hkey hk hE hf
     have hrun := hrun r' ⟨d, hu, hr'⟩
     rcases hrel with ⟨rfl, rfl⟩ | ⟨j, v', u, rfl, rfl, hv, _⟩
     ·cases ok with
      | true =>
        simp only [Cb] at e
        injection e with e; injection e with e1 e2; subst e1; subst e2
        exact ⟨_, hrun, .same h (by simp only [VR, VRs]; exact ⟨_, rfl, _, _, rfl, hzr φ w, _, _, rfl, rfl, rfl⟩)⟩
      | false =>
        simp only [Cb] at e
        injection e with e; injection e with e1 e2; subst e1; subst e2
        exact ⟨_, hrun, .same h (hzr φ w)⟩
     ·cases ok with
      | true =>
        simp only [Cb] at e
        injection e with e; injection e with e1 e2; subst e1; subst e2
        exact ⟨_, hrun, .same h (by simp only [VR, VRs]; exact ⟨_, rfl, _, _, rfl, hv, _, _, rfl, rfl, rfl⟩)⟩
      | false =>
        simp only [Cb] at e
        injection e with e; injection e with e1 e2; subst e1; subst e2
        exact ⟨_, hrun, .same h hv⟩
  ·cases e
 ·cases e
theorem Oo : ∀ {es : List (V × V)} {us : List MapEntry} {j : Nat} {k v : V} {m : MapEntry}, EsR φ w es us → VR φ w k m.key → VR φ w v m.val → EsR φ w (es.set j (k, v)) (us.set j m)
 | [], us, j, k, v, m, h, _, _ => by simp only [EsR] at h; subst h; simp [EsR]
 | (k', v') :: es, us, j, k, v, m, h, hk, hv => by
   obtain ⟨m', us', rfl, h1, h2, h3⟩ := h
   cases j with
   | zero => exact ⟨m, us', rfl, hk, hv, h3⟩
   | succ j => exact ⟨m', us'.set j m, rfl, h1, h2, Oo h3 hk hv⟩
theorem LX : ∀ {es : List (V × V)} {us : List MapEntry} {k v : V} {m : MapEntry}, EsR φ w es us → VR φ w k m.key → VR φ w v m.val → EsR φ w (es ++ [(k, v)]) (us ++ [m])
 | [], us, k, v, m, h, hk, hv => by simp only [EsR] at h; subst h; exact ⟨m, [], rfl, hk, hv, rfl⟩
 | (k', v') :: es, us, k, v, m, h, hk, hv => by
   obtain ⟨m', us', rfl, h1, h2, h3⟩ := h
   exact ⟨m', us' ++ [m], rfl, h1, h2, LX h3 hk hv⟩
theorem On : ∀ {es : List (V × V)} {us : List MapEntry}, EsR φ w es us → es.length = us.length
 | [], _, h => by simp only [EsR] at h; subst h; rfl
 | (_, _) :: es, _, ⟨_, us', h, _, _, k⟩ => by subst h; simp [On k]
theorem Ri {fl : Nat} {t : TypeId} {m k x v : V} {um uk ux : Value} {H' : LH} (h : HR p φ H w) (hR : p.R0 ≤ fl) (hm : VR φ w m um) (hk : VR φ w k uk) (hx : VR φ w x ux) (e : updV (ty P) t fl H k x m = some (v, H')) :
 ∃ w', (Instr.mapUpdate t um uk ux).run P w = .ok () w' ∧ Res p fl φ H w v H' undef w' := by
 unfold updV at e
 split at e
 ·rename_i b
  split at e
  ·rename_i s by' kt et z' hi
   obtain ⟨⟨hkey, hfl⟩, e⟩ := A6 e
   simp only [VR] at hm
   obtain ⟨q, d, hp, rfl⟩ := hm
   unfold updO at e
   split at e
   ·rename_i es hes
    obtain ⟨us, clk, hq, hE⟩ := h.map hp hes
    have hg : (getObj q).run P w = .ok (.map us clk) w := by simp only [getObj, Sem.run, hq]
    have hset : ∀ o, (setObj q o).run P w = .ok () { w with heap := w.heap.setIfInBounds q o } := by intro o; simp only [setObj, Sem.run, hq]
    have hund : ∀ φ w, VR φ w und undef := fun φ w => by simp only [VR, VRs]; exact ⟨[], rfl, rfl⟩
    split at e
    ·rename_i j v0 hf
     injection e with e; injection e with e1 e2; subst e1; subst e2
     obtain ⟨dd, hu, r', hr', hrel⟩ := FF hkey hk hE hf
     rcases hrel with ⟨h0, _⟩ | ⟨j', v', u, h0, rfl, hv, _, hjl, me, hme, hmk⟩
     ·cases h0
     ·injection h0 with h0; injection h0 with h1 h2; subst h1; subst h2
      simp only [Nat.sub_zero] at hme
      have hkey' : (Instr.keyThatStays me.key uk).run P w = .ok uk w := by
       have hsame : Instr.sameBits 10000 me.key uk = true := by
        rcases Er hkey hk with ⟨s, _, rfl, rfl, _, _⟩ | ⟨q', n, j, rfl, rfl, _⟩
        ·simp only [VR] at hmk; rw [hmk]; simp [Instr.sameBits, KA]
        ·simp only [VR] at hmk; rw [hmk]; simp [Instr.sameBits]
       simp only [Instr.keyThatStays, hsame, if_true, Sem.run_pure]
      have hme' : us[j]? = some me := by simpa using hme
      have hrun : (Instr.mapUpdate t (.map (some q)) uk ux).run P w = .ok () { w with heap := w.heap.setIfInBounds q (.map (us.modify j fun e => { e with key := uk, val := ux }) clk) } := by
       unfold Instr.mapUpdate
       simp only [Sem.run_bind, run_underlying (map_some hi), Result.andThen_ok, hg, DV hkey hk, Instr.findKey, run_underlying hu, hr', Sem.run_pure, hme', Option.map_some, Option.getD_some, hkey', hset]
      have hmod : (us.modify j fun e => { e with key := uk, val := ux }).toList = us.toList.set j { me with key := uk, val := ux } := by
       apply List.ext_getElem?
       intro i
       rw [Array.getElem?_toList, Array.getElem?_modify, List.getElem?_set]
       by_cases hij : j = i
       ·subst hij
        have hjs : j < us.size := (Array.getElem?_eq_some_iff.1 hme').1
        rw [if_pos rfl, if_pos rfl, if_pos (by simpa using hjs), hme']
        rfl
       ·rw [if_neg hij, if_neg hij]; simp
      obtain ⟨r1, r2⟩ := MV h (x := .map (es.set j (k, x))) (o' := .map (us.modify j fun e => { e with key := uk, val := ux }) clk) hp hfl hR (CJ hes) (by simp) hq (fun c T fz h => by cases h) (fun w' hw' he => by
       refine ⟨_, clk, by rw [hw', if_pos rfl], ?_⟩
       rw [hmod]
       exact Oo (hE.mono he) (hk.mono he) (hx.mono he))
      exact ⟨_, hrun, φ, hund _ _, r1, r2⟩
    ·rename_i hf
     injection e with e; injection e with e1 e2; subst e1; subst e2
     obtain ⟨dd, hu, r', hr', hrel⟩ := FF hkey hk hE hf
     rcases hrel with ⟨_, rfl⟩ | ⟨j', v', u, h0, _⟩
     ·have hrun : (Instr.mapUpdate t (.map (some q)) uk ux).run P w = .ok () { w with heap := w.heap.setIfInBounds q (.map (us.push { key := uk, val := ux, born := clk }) (clk + 1)) } := by
       unfold Instr.mapUpdate
       simp only [Sem.run_bind, run_underlying (map_some hi), Result.andThen_ok, hg, DV hkey hk, Instr.findKey, run_underlying hu, hr', Sem.run_pure, hset]
      obtain ⟨r1, r2⟩ := MV h (x := .map (es ++ [(k, x)])) (o' := .map (us.push { key := uk, val := ux, born := clk }) (clk + 1)) hp hfl hR (CJ hes) (by simp) hq (fun c T fz h => by cases h) (fun w' hw' he => by
       refine ⟨_, clk + 1, by rw [hw', if_pos rfl], ?_⟩
       rw [Array.toList_push]
       exact LX (m := { key := uk, val := ux, born := clk }) (hE.mono he) (hk.mono he) (hx.mono he))
      exact ⟨_, hrun, φ, hund _ _, r1, r2⟩
     ·cases h0
    ·cases e
   ·cases e
  ·cases e
 ·cases e
end
open Go.RowKit (Below)
section
variable {P : Program} {p : Par} {φ : Phi} {H : LH} {w : World}
def TmpR (φ : Phi) (w : World) (keep : List Tmp) (env : Env) (loc : Loc) (a : Act) : Prop := ∀ t v, B2 keep env loc t = some v → VR φ w v (a.tmps.getD t undef)
theorem TmpR.mono {φ' : Phi} {w' : World} {keep env loc a} (h : TmpR φ w keep env loc a) (he : Ext φ w φ' w') : TmpR φ' w' keep env loc a := fun t v e => (h t v e).mono he
theorem A9 {keep env loc a x v} (h : TmpR φ w keep env loc a) (e : Al keep env loc x = some v) : VR φ w v (a.eval x) := by
 cases x with
 | tmp t => exact h t v e
 | const c => exact Dv e φ w
 | global g => injection e with e; subst e; simp only [VR]; rfl
 | func f => injection e with e; subst e; simp only [VR, VRs]; exact ⟨[], rfl, rfl⟩
theorem G1 {keep env loc a} (h : TmpR φ w keep env loc a) : ∀ {xs : List Operand} {vs : List V}, allV (Af keep env loc xs) = some vs → VRs φ w vs (xs.map a.eval)
 | [], vs, e => by injection e with e; subst e; simp only [List.map_nil, VRs]
 | x :: xs, vs, e => by
   simp only [Af] at e
   cases hx : Al keep env loc x with
   | none => rw [hx] at e; cases e
   | some v =>
     rw [hx] at e
     simp only [allV] at e
     cases hxs : allV (Af keep env loc xs) with
     | none => rw [hxs] at e; cases e
     | some l =>
       rw [hxs] at e; injection e with e; subst e
       simp only [List.map_cons, VRs]
       exact ⟨_, _, rfl, A9 h hx, G1 h hxs⟩
theorem X7 {s : Sem Value} {u : Value} {w' : World} (h : s.run P w = .ok u w') : (do pure (Next.value (← s)) : Sem Next).run P w = .ok (.value u) w' := by
 simp only [Sem.run_bind, h, Result.andThen_ok, Sem.run_pure]
theorem Vd {s : Sem Unit} {w' : World} (h : s.run P w = .ok () w') : (do s; pure Next.skip : Sem Next).run P w = .ok .skip w' := by
 simp only [Sem.run_bind, h, Result.andThen_ok, Sem.run_pure]
def Gives (P : Program) (p : Par) (fl : Nat) (φ : Phi) (H : LH) (w : World) (v : V) (H' : LH) (r : Result Next) : Prop :=
 ∃ u w', Res p fl φ H w v H' u w' ∧ (r = .ok (.value u) w' ∨ (r = .ok .skip w' ∧ u = undef))
theorem Gives.val {fl : Nat} {v : V} {H' : LH} {s : Sem Value} {u : Value} {w' : World} (h : s.run P w = .ok u w') (r : Res p fl φ H w v H' u w') :
 Gives P p fl φ H w v H' ((do pure (Next.value (← s)) : Sem Next).run P w) := ⟨u, w', r, .inl (X7 h)⟩
theorem Gives.pure {fl : Nat} {v : V} {H' : LH} {s : Sem Value} {u : Value} (h : HR p φ H w) (e : AY H (some v) = some (v, H')) (hr : s.run P w = .ok u w) (hv : VR φ w v u) :
 Gives P p fl φ H w v H' ((do pure (Next.value (← s)) : Sem Next).run P w) := by
 injection e with e; injection e with _ e; subst e
 exact .val hr (.same h hv)
theorem Ax {x : Option V} {v : V} {H' : LH} (e : AY H x = some (v, H')) : x = some v ∧ H' = H := Fe e
theorem SE {fl : Nat} {c a b v : V} {uc ua ub : Value} {H' : LH} (h : HR p φ H w) (hc : VR φ w c uc) (ha : VR φ w a ua) (hb : VR φ w b ub) (e : Is H c a b = some (v, H')) :
 Gives P p fl φ H w v H' ((do pure (Next.value (if ← asBool uc then ua else ub)) : Sem Next).run P w) := by
 unfold Is at e
 split at e
 ·injection e with e; injection e with e1 e2; subst e1; subst e2
  simp only [VR] at hc; subst hc
  exact ⟨_, w, .same h ha, .inl rfl⟩
 ·injection e with e; injection e with e1 e2; subst e1; subst e2
  simp only [VR] at hc; subst hc
  exact ⟨_, w, .same h hb, .inl rfl⟩
 ·cases e
theorem SG {fl : Nat} {x v : V} {ux : Value} {H' : LH} (h : HR p φ H w) (hx : VR φ w x ux) (e : JW H x = some (v, H')) : ∃ a, ux = .pointer (some a) ∧ Res p fl φ H w v H' ux w := by
 obtain ⟨rfl, rfl⟩ := F8 e
 unfold JW at e
 split at e
 ·have hx0 := hx
  simp only [VR] at hx
  obtain ⟨q, d, hp, rfl⟩ := hx
  exact ⟨_, rfl, .same h hx0⟩
 ·have hx0 := hx
  simp only [VR] at hx
  subst hx
  exact ⟨_, rfl, .same h hx0⟩
 ·cases e
theorem S4 {i : Nat} {x v : V} {ux : Value} (hx : VR φ w x ux) (e : Nu i x = some v) : ∃ u, (Instr.extract ux i).run P w = .ok u w ∧ VR φ w v u := by
 unfold Nu at e
 split at e
 ·simp only [VR] at hx
  obtain ⟨us, rfl, hs⟩ := hx
  obtain ⟨u, hu, r⟩ := (An.1 hs).2 _ _ e
  refine ⟨u, ?_, r⟩
  have : (⟨us⟩ : Array Value)[i]? = some u := by simpa using hu
  simp only [Instr.extract, this, Sem.run_pure]
 ·cases e
theorem UP {fl : Nat} {t : TypeId} {v : V} {H' : LH} (h : HR p φ H w) (hR : p.R0 ≤ H.length) (nf : NoFloat φ H H') (e : mapO H (ty P t) = some (v, H')) :
 ∃ u w', (Instr.makeMap t none).run P w = .ok u w' ∧ Res p fl φ H w v H' u w' := by
 unfold mapO at e
 split at e
 ·injection e with e; injection e with e1 e2; subst e1; subst e2
  have hx : BlkR (p.R0 ≤ H.length) (φ.put H.length w.heap.size 0) { w with heap := w.heap.push (.map #[] 0) } w.heap.size 0 (.map []) :=
   ⟨#[], 0, C3 _ _, by simp only [EsR]⟩
  refine ⟨_, _, rfl, _, ?_, Tw h nf.new hR hx, MF h nf.new⟩
  simp only [VR]
  exact ⟨_, _, Cw _ _ _ _, rfl⟩
 ·cases e
theorem Tc {fl : Nat} {t : TypeId} {v : V} {H' : LH} (h : HR p φ H w) (hR : p.R0 ≤ H.length) (nf : NoFloat φ H H') (e : Fy H (ty P t) = some (v, H')) :
 ∃ u w', (Instr.alloc t true (.tuple #[])).run P w = .ok u w' ∧ Res p fl φ H w v H' u w' := by
 unfold Fy at e
 split at e
 ·rename_i s b k z hi
  obtain ⟨uz, hz, hzr⟩ := GP (z := z) hi rfl w
  obtain ⟨u, w', hr, r⟩ := Qx (P := P) (fl := fl) (t := t) h hR nf (hzr φ w) e
  refine ⟨u, w', ?_, r⟩
  simp only [Instr.alloc, Sem.run_bind, hz, Result.andThen_ok]
  exact hr
 ·cases e
theorem UL {fl : Nat} {t ty' : TypeId} {x v : V} {ux : Value} {H' : LH} (h : HR p φ H w) (hx : VR φ w x ux) (hk : lenOk (ty P) t x = true) (e : numO H (lenV H x) = some (v, H')) {ts : List TypeId} {us : List Value} :
 ∃ u, (Builtin.len_ (t :: ts).toArray ty' (ux :: us).toArray).run P w = .ok u w ∧ Res p fl φ H w v H' u w := by
 unfold numO at e
 split at e
 ·rename_i n hn
  injection e with e; injection e with e1 e2; subst e1; subst e2
  refine ⟨.int .i64 n, ?_, .same h (by simp only [VR])⟩
  unfold lenOk at hk
  split at hk
  ·split at hk
   ·rename_i hi
    simp only [lenV] at hn; injection hn with hn; subst hn
    simp only [VR] at hx; subst hx
    simp [Builtin.len_, run_underlying (AT hi), goInt]
   ·cases hk
  ·split at hk
   ·rename_i hi
    simp only [lenV] at hn; injection hn with hn; subst hn
    simp only [VR] at hx
    obtain ⟨_, q, d, off, c', _, rfl, _⟩ := hx
    simp [Builtin.len_, run_underlying (Az hi), goInt]
   ·cases hk
  ·split at hk
   ·rename_i hi
    simp only [lenV] at hn; injection hn with hn; subst hn
    simp only [VR] at hx; subst hx
    simp [Builtin.len_, run_underlying (Az hi), goInt]
   ·cases hk
  ·split at hk
   ·rename_i hi
    simp only [lenV] at hn; injection hn with hn; subst hn
    simp only [VR] at hx; obtain ⟨a, rfl⟩ := hx
    simp [Builtin.len_, run_underlying (Az hi), goInt]
   ·cases hk
  ·split at hk
   ·rename_i b _ _ _ _ _ hi
    simp only [lenV] at hn
    split at hn
    ·rename_i es hes
     injection hn with hn; subst hn
     simp only [VR] at hx
     obtain ⟨q, d, hp, rfl⟩ := hx
     obtain ⟨us', clk, hq, hE⟩ := h.map hp hes
     have hg : (getObj q).run P w = .ok (.map us' clk) w := by simp only [getObj, Sem.run, hq]
     have hl : es.length = us'.size := by rw [On hE]; simp
     simp [Builtin.len_, run_underlying (map_some hi), goInt, hg, hl]
    ·cases hn
   ·cases hk
  ·split at hk
   ·rename_i hi
    simp only [lenV] at hn; injection hn with hn; subst hn
    simp only [VR] at hx; subst hx
    simp [Builtin.len_, run_underlying (map_some hi), goInt]
   ·cases hk
  ·cases hk
 ·cases e
theorem US {t : TypeId} {ts : Array TypeId} {x y v : V} {ux uy : Value} (h1 : VR φ w x ux) (h2 : VR φ w y uy) (e : minV x y = some v) : ∃ u, (Builtin.min_ ts t #[ux, uy]).run P w = .ok u w ∧ VR φ w v u := by
 unfold minV at e
 split at e
 ·rename_i k m k' m'
  obtain ⟨hkk, e2⟩ := A6 e
  injection e2 with e2
  subst e2
  subst hkk
  simp only [VR] at h1 h2
  refine ⟨.int k (if m' < m then m' else m), ?_, by simp only [VR]⟩
  simp [Builtin.min_, h1, h2, Builtin.min2]
 ·cases e
theorem UR {t : TypeId} {ts : Array TypeId} {x y v : V} {ux uy : Value} (h1 : VR φ w x ux) (h2 : VR φ w y uy) (e : maxV x y = some v) : ∃ u, (Builtin.max_ ts t #[ux, uy]).run P w = .ok u w ∧ VR φ w v u := by
 unfold maxV at e
 split at e
 ·rename_i k m k' m'
  obtain ⟨hkk, e2⟩ := A6 e
  injection e2 with e2
  subst e2
  subst hkk
  simp only [VR] at h1 h2
  refine ⟨.int k (if m < m' then m' else m), ?_, by simp only [VR]⟩
  simp [Builtin.max_, h1, h2, Builtin.max2]
 ·cases e
theorem Ul {fl : Nat} {b : Builtin} {ts : List TypeId} {ops : List Operand} {keep env loc a} {v : V} {H' : LH} {t : TypeId} {cs : Array Bool} (h : HR p φ H w) (hT : TmpR φ w keep env loc a) (hR : p.R0 ≤ fl) (hfl : fl ≤ H.length) (nf : NoFloat φ H H')
 (e : doBi (ty P) fl H b ts (Af keep env loc ops) = some (v, H')) : Gives P p fl φ H w v H' ((builtin b ts.toArray t cs (ops.map a.eval).toArray).run P w) := by
 unfold doBi at e
 split at e
 ·rename_i t0 ts0 x heq
  obtain ⟨hk, e⟩ := A6 e
  match ops, heq with
  | [o], heq =>
    simp only [Af, List.cons.injEq, and_true] at heq
    obtain ⟨u, hu, r⟩ := UL (P := P) (fl := fl) (ty' := t) (ts := ts0) (us := []) h (A9 hT heq) hk e
    exact .val hu r
  | [], heq => simp [Af] at heq
  | _ :: _ :: _, heq => simp [Af] at heq
 ·rename_i x y heq
  obtain ⟨e1, e2⟩ := Ax e
  subst e2
  match ops, heq with
  | [o1, o2], heq =>
    simp only [Af, List.cons.injEq, and_true] at heq
    have h1 := A9 hT heq.1
    have h2 := A9 hT heq.2
    obtain ⟨u, hu, r⟩ := US (P := P) (w := w) (t := t) (ts := (List.toArray _)) h1 h2 e1
    exact .val hu (.same h r)
  | [], heq => simp [Af] at heq
  | [_], heq => simp [Af] at heq
  | _ :: _ :: _ :: _, heq => simp [Af] at heq
 ·rename_i x y heq
  obtain ⟨e1, e2⟩ := Ax e
  subst e2
  match ops, heq with
  | [o1, o2], heq =>
    simp only [Af, List.cons.injEq, and_true] at heq
    have h1 := A9 hT heq.1
    have h2 := A9 hT heq.2
    obtain ⟨u, hu, r⟩ := UR (P := P) (w := w) (t := t) (ts := (List.toArray _)) h1 h2 e1
    exact .val hu (.same h r)
  | [], heq => simp [Af] at heq
  | [_], heq => simp [Af] at heq
  | _ :: _ :: _ :: _, heq => simp [Af] at heq
 ·rename_i t0 t1 ts0 s x heq
  match ops, heq with
  | [o1, o2], heq =>
    simp only [Af, List.cons.injEq, and_true] at heq
    have h1 := A9 hT heq.1
    have h2 := A9 hT heq.2
    obtain ⟨u, w', hu, r⟩ := TZ (P := P) (ty' := t) h hR hfl nf h1 h2 e
    refine .val ?_ r
    have : (Builtin.append_ (t0 :: t1 :: ts0).toArray t (List.map a.eval [o1, o2]).toArray).run P w = (Builtin.append_ #[t0, t1] t #[a.eval o1, a.eval o2]).run P w := rfl
    rw [this]
    exact hu
  | [], heq => simp [Af] at heq
  | [_], heq => simp [Af] at heq
  | _ :: _ :: _ :: _, heq => simp [Af] at heq
 ·cases e
end
open Go.RowKit (Below)
section
variable {P : Program} {p : Par} {φ : Phi} {H : LH} {w : World}
theorem Ew {a : Act} (ps : Array (Nat × Operand)) : (ps.map fun (i, x) => (i, a.eval x)).toList.map (·.1) = ps.toList.map (·.1) ∧ (ps.map fun (i, x) => (i, a.eval x)).toList.map (·.2) = (ps.toList.map (·.2)).map a.eval := by
 constructor
 ·simp
 ·simp
theorem X0 {call : AM} {fl : Nat} {o : Op} {keep env loc a} {v : V} {H' : LH} {dst : Option Tmp} {type : TypeId} {pos : String} {after : Array Edge} {guard : Option (Nat × Bool)}
 (h : HR p φ H w) (hT : TmpR φ w keep env loc a) (hR : p.R0 ≤ fl) (hfl : fl ≤ H.length) (nf : NoFloat φ H H')
 (e : doOp call (ty P) p.G fl H o (Af keep env loc (opds o)) = some (v, H')) (hno : ∀ c, o = .call c → ∀ f, c.callee ≠ .value f) :
 Gives P p fl φ H w v H' ((execOp a.eval ⟨dst, o, type, pos, after, guard⟩).run P w) := by
 have hRH : p.R0 ≤ H.length := Nat.le_trans hR hfl
 cases o with
 | move x =>
   simp only [opds, Af] at e
   cases hx : Al keep env loc x with
   | none => rw [hx] at e; cases e
   | some vx =>
     rw [hx] at e
     change some (vx, H) = some (v, H') at e
     have rx := A9 hT hx
     injection e with e; injection e with e1 e2; subst e1; subst e2
     exact ⟨a.eval x, w, .same h rx, .inl rfl⟩
 | assign x =>
   simp only [opds, Af] at e
   cases hx : Al keep env loc x with
   | none => rw [hx] at e; cases e
   | some vx =>
     rw [hx] at e
     change some (vx, H) = some (v, H') at e
     have rx := A9 hT hx
     injection e with e; injection e with e1 e2; subst e1; subst e2
     exact ⟨a.eval x, w, .same h rx, .inl rfl⟩
 | pick x y z =>
   simp only [opds, Af] at e
   cases hx : Al keep env loc x with
   | none => rw [hx] at e; cases e
   | some vx =>
     rw [hx] at e
     cases hy : Al keep env loc y with
     | none => rw [hy] at e; cases e
     | some vy =>
       rw [hy] at e
       cases hz : Al keep env loc z with
       | none => rw [hz] at e; cases e
       | some vz =>
         rw [hz] at e
         change Is H vx vy vz = some (v, H') at e
         have rx := A9 hT hx
         have ry := A9 hT hy
         have rz := A9 hT hz
         exact SE h rx ry rz e
 | alloc t =>
   simp only [opds, Af] at e
   change Fy H (ty P t) = some (v, H') at e
   obtain ⟨u, w', hu, r⟩ := Tc (P := P) (fl := fl) h hRH nf e
   exact .val hu r
 | box t x =>
   simp only [opds, Af] at e
   cases hx : Al keep env loc x with
   | none => rw [hx] at e; cases e
   | some vx =>
     rw [hx] at e
     change ptrV H vx = some (v, H') at e
     have rx := A9 hT hx
     obtain ⟨u, w', hu, r⟩ := Qx (P := P) (fl := fl) (t := t) h hRH nf rx e
     exact .val hu r
 | load t x =>
   simp only [opds, Af] at e
   cases hx : Al keep env loc x with
   | none => rw [hx] at e; cases e
   | some vx =>
     rw [hx] at e
     change BX p.G H vx (ty P t) = some (v, H') at e
     have rx := A9 hT hx
     obtain ⟨u, hu, r⟩ := My (P := P) (fl := fl) h rx e
     exact .val hu r
 | store t x y =>
   simp only [opds, Af] at e
   cases hx : Al keep env loc x with
   | none => rw [hx] at e; cases e
   | some vx =>
     rw [hx] at e
     cases hy : Al keep env loc y with
     | none => rw [hy] at e; cases e
     | some vy =>
       rw [hy] at e
       change DP fl H vx vy (ty P t) = some (v, H') at e
       have rx := A9 hT hx
       have ry := A9 hT hy
       obtain ⟨w', hu, r⟩ := R7 (P := P) h hR rx ry e
       exact ⟨undef, w', r, .inr ⟨Vd hu, rfl⟩⟩
 | nilCheck x =>
   simp only [opds, Af] at e
   cases hx : Al keep env loc x with
   | none => rw [hx] at e; cases e
   | some vx =>
     rw [hx] at e
     change JW H vx = some (v, H') at e
     have rx := A9 hT hx
     obtain ⟨ad, hu, r⟩ := SG (fl := fl) h rx e
     refine ⟨a.eval x, w, r, .inl ?_⟩
     simp only [execOp, hu, Sem.run_pure]
 | binOp op t x y t2 =>
   simp only [opds, Af] at e
   cases hx : Al keep env loc x with
   | none => rw [hx] at e; cases e
   | some vx =>
     rw [hx] at e
     cases hy : Al keep env loc y with
     | none => rw [hy] at e; cases e
     | some vy =>
       rw [hy] at e
       change AY H (binV (ty P) op t vx vy) = some (v, H') at e
       have rx := A9 hT hx
       have ry := A9 hT hy
       obtain ⟨e1, e2⟩ := Ax e
       subst e2
       obtain ⟨u, hu, r⟩ := U5 (P := P) (w := w) (ox := x) (oy := y) rx ry e1
       exact .val hu (.same h (r φ w))
 | unOp op t x =>
   simp only [opds, Af] at e
   cases hx : Al keep env loc x with
   | none => rw [hx] at e; cases e
   | some vx =>
     rw [hx] at e
     change AY H (unV op vx) = some (v, H') at e
     have rx := A9 hT hx
     obtain ⟨e1, e2⟩ := Ax e
     subst e2
     obtain ⟨u, hu, r⟩ := WB (P := P) (w := w) rx e1
     exact .val hu (.same h (r φ w))
 | convert s d x =>
   simp only [opds, Af] at e
   cases hx : Al keep env loc x with
   | none => rw [hx] at e; cases e
   | some vx =>
     rw [hx] at e
     change DJ (ty P) fl H s d vx = some (v, H') at e
     have rx := A9 hT hx
     obtain ⟨u, w', hu, r⟩ := RN (P := P) (fl := fl) h hRH nf rx hR e
     exact .val hu r
 | makeSlice t x y =>
   simp only [opds, Af] at e
   cases hx : Al keep env loc x with
   | none => rw [hx] at e; cases e
   | some vx =>
     rw [hx] at e
     cases hy : Al keep env loc y with
     | none => rw [hy] at e; cases e
     | some vy =>
       rw [hy] at e
       change Gk H (Av (ty P) t) vx vy = some (v, H') at e
       have rx := A9 hT hx
       have ry := A9 hT hy
       obtain ⟨u, w', hu, r⟩ := Sy (P := P) (fl := fl) h hRH nf rx ry e
       exact .val hu r
 | fieldAddr t x f =>
   simp only [opds, Af] at e
   cases hx : Al keep env loc x with
   | none => rw [hx] at e; cases e
   | some vx =>
     rw [hx] at e
     change AY H (Hl (ty P) t f vx) = some (v, H') at e
     have rx := A9 hT hx
     obtain ⟨e1, e2⟩ := Ax e
     subst e2
     obtain ⟨u, hu, r⟩ := Ps (P := P) (w := w) rx e1
     exact .val hu (.same h r)
 | field t x f =>
   simp only [opds, Af] at e
   cases hx : Al keep env loc x with
   | none => rw [hx] at e; cases e
   | some vx =>
     rw [hx] at e
     change AY H (Hm (ty P) t f vx) = some (v, H') at e
     have rx := A9 hT hx
     obtain ⟨e1, e2⟩ := Ax e
     subst e2
     obtain ⟨u, hu, r⟩ := Pt (P := P) (w := w) rx e1
     exact .val hu (.same h r)
 | indexAddr t x y =>
   simp only [opds, Af] at e
   cases hx : Al keep env loc x with
   | none => rw [hx] at e; cases e
   | some vx =>
     rw [hx] at e
     cases hy : Al keep env loc y with
     | none => rw [hy] at e; cases e
     | some vy =>
       rw [hy] at e
       change AY H (DN (ty P) t vx vy) = some (v, H') at e
       have rx := A9 hT hx
       have ry := A9 hT hy
       obtain ⟨e1, e2⟩ := Ax e
       subst e2
       obtain ⟨u, hu, r⟩ := PX (P := P) (w := w) rx ry e1
       exact .val hu (.same h r)
 | index t x y =>
   simp only [opds, Af] at e
   cases hx : Al keep env loc x with
   | none => rw [hx] at e; cases e
   | some vx =>
     rw [hx] at e
     cases hy : Al keep env loc y with
     | none => rw [hy] at e; cases e
     | some vy =>
       rw [hy] at e
       change AY H (Hp (ty P) t vx vy) = some (v, H') at e
       have rx := A9 hT hx
       have ry := A9 hT hy
       obtain ⟨e1, e2⟩ := Ax e
       subst e2
       obtain ⟨u, hu, r⟩ := PZ (P := P) (w := w) rx ry e1
       exact .val hu (.same h r)
 | lookup t x y ok =>
   simp only [opds, Af] at e
   cases hx : Al keep env loc x with
   | none => rw [hx] at e; cases e
   | some vx =>
     rw [hx] at e
     cases hy : Al keep env loc y with
     | none => rw [hy] at e; cases e
     | some vy =>
       rw [hy] at e
       change Cc (ty P) t ok H vx vy = some (v, H') at e
       have rx := A9 hT hx
       have ry := A9 hT hy
       obtain ⟨u, hu, r⟩ := Sx (P := P) (fl := fl) h rx ry e
       exact .val hu r
 | mapUpdate t x y z =>
   simp only [opds, Af] at e
   cases hx : Al keep env loc x with
   | none => rw [hx] at e; cases e
   | some vx =>
     rw [hx] at e
     cases hy : Al keep env loc y with
     | none => rw [hy] at e; cases e
     | some vy =>
       rw [hy] at e
       cases hz : Al keep env loc z with
       | none => rw [hz] at e; cases e
       | some vz =>
         rw [hz] at e
         change updV (ty P) t fl H vy vz vx = some (v, H') at e
         have rx := A9 hT hx
         have ry := A9 hT hy
         have rz := A9 hT hz
         obtain ⟨w', hu, r⟩ := Ri (P := P) h hR rx ry rz e
         exact ⟨undef, w', r, .inr ⟨Vd hu, rfl⟩⟩
 | insert t x y z =>
   simp only [opds, Af] at e
   cases hx : Al keep env loc x with
   | none => rw [hx] at e; cases e
   | some vx =>
     rw [hx] at e
     cases hy : Al keep env loc y with
     | none => rw [hy] at e; cases e
     | some vy =>
       rw [hy] at e
       cases hz : Al keep env loc z with
       | none => rw [hz] at e; cases e
       | some vz =>
         rw [hz] at e
         change updV (ty P) t fl H vy vz vx = some (v, H') at e
         have rx := A9 hT hx
         have ry := A9 hT hy
         have rz := A9 hT hz
         obtain ⟨w', hu, r⟩ := Ri (P := P) h hR rx ry rz e
         exact ⟨undef, w', r, .inr ⟨Vd hu, rfl⟩⟩
 | extract x i =>
   simp only [opds, Af] at e
   cases hx : Al keep env loc x with
   | none => rw [hx] at e; cases e
   | some vx =>
     rw [hx] at e
     change AY H (Nu i vx) = some (v, H') at e
     have rx := A9 hT hx
     obtain ⟨e1, e2⟩ := Ax e
     subst e2
     obtain ⟨u, hu, r⟩ := S4 (P := P) (w := w) rx e1
     exact .val hu (.same h r)
 | build t ps =>
   simp only [opds] at e
   change AY H (G8 (ty P) t (ps.toList.map (·.1)) (allV (Af keep env loc (ps.toList.map (·.2))))) = some (v, H') at e
   obtain ⟨e1, e2⟩ := Ax e
   subst e2
   cases hv : allV (Af keep env loc (ps.toList.map (·.2))) with
   | none => rw [hv] at e1; cases e1
   | some vs =>
     rw [hv] at e1
     obtain ⟨u, hu, r⟩ := RA (P := P) (w := w) (Ew (a := a) ps).1 (Ew (a := a) ps).2 (G1 hT hv) e1
     exact .val hu (.same h r)
 | buildSlice t n ps =>
   simp only [opds] at e
   change D5 (ty P) t n (ps.toList.map (·.1)) H (allV (Af keep env loc (ps.toList.map (·.2)))) = some (v, H') at e
   cases hv : allV (Af keep env loc (ps.toList.map (·.2))) with
   | none => rw [hv] at e; cases e
   | some vs =>
     rw [hv] at e
     obtain ⟨u, w', hu, r⟩ := OW (P := P) (fl := fl) h hRH nf (Ew (a := a) ps).1 (Ew (a := a) ps).2 (G1 hT hv) e
     exact .val hu r
 | makeMap t r =>
   simp only [opds, Af] at e
   cases r with
   | some r => cases e
   | none =>
     change mapO H (ty P t) = some (v, H') at e
     obtain ⟨u, w', hu, r⟩ := UP (P := P) (fl := fl) h hRH nf e
     exact .val hu r
 | makeFunc fn first cs =>
   simp only [opds] at e
   cases fn with
   | func f =>
     obtain ⟨fs⟩ := first
     cases fs with
     | nil =>
       change fnO H f (allV (Af keep env loc cs.toList)) = some (v, H') at e
       unfold fnO at e
       split at e
       ·rename_i vs hv
        injection e with e; injection e with e1 e2; subst e1; subst e2
        refine .val (u := .func (.func f) #[] (cs.map a.eval)) (by rw [show (Array.map a.eval (⟨[]⟩ : Array Operand)) = #[] from Array.map_empty]; rfl) (.same h ?_)
        simp only [VR]
        exact ⟨(cs.map a.eval).toList, rfl, by simpa using G1 hT hv⟩
       ·cases e
     | cons => cases e
   | _ => cases e
 | slice t x lo hi mx =>
   cases mx with
   | some m =>
     exfalso
     simp only [opds] at e
     unfold doOp at e
     split at e <;> first | contradiction | (cases e; done) | (rename_i heq _; injection heq with _ _ _ _ h5; cases h5)
   | none =>
     cases lo with
     | none =>
       cases hi with
       | none =>
         simp only [opds, Option.toList, List.append_nil, List.nil_append, Af] at e
         cases hx : Al keep env loc x with
         | none => rw [hx] at e; cases e
         | some vx =>
           rw [hx] at e
           change grd (Bh (ty P) t vx = true) (AY H (BN vx none none)) = some (v, H') at e
           have rx := A9 hT hx
           obtain ⟨hk, e1⟩ := A6 e
           obtain ⟨e2, e3⟩ := Ax e1
           subst e3
           obtain ⟨u, hu, r⟩ := EM (P := P) (w := w) (lo := none) (hi := none) (ulo := none) (uhi := none) (fun _ h => by cases h) (fun _ => rfl) (fun _ h => by cases h) (fun _ => rfl) rx hk e2
           exact .val hu (.same h r)
       | some y =>
         simp only [opds, Option.toList, List.append_nil, List.nil_append, Af] at e
         cases hx : Al keep env loc x with
         | none => rw [hx] at e; cases e
         | some vx =>
           rw [hx] at e
           cases hy : Al keep env loc y with
           | none => rw [hy] at e; cases e
           | some vy =>
             rw [hy] at e
             change grd (Bh (ty P) t vx = true) (AY H (BN vx none (some vy))) = some (v, H') at e
             have rx := A9 hT hx
             have ry := A9 hT hy
             obtain ⟨hk, e1⟩ := A6 e
             obtain ⟨e2, e3⟩ := Ax e1
             subst e3
             obtain ⟨u, hu, r⟩ := EM (P := P) (w := w) (lo := none) (hi := (some vy)) (ulo := none) (uhi := (some (a.eval y))) (fun _ h => by cases h) (fun _ => rfl) (fun _ h => by cases h; exact ⟨_, rfl, ry⟩) (fun h => by cases h) rx hk e2
             exact .val hu (.same h r)
     | some y =>
       cases hi with
       | none =>
         simp only [opds, Option.toList, List.append_nil, List.nil_append, List.cons_append, Af] at e
         cases hx : Al keep env loc x with
         | none => rw [hx] at e; cases e
         | some vx =>
           rw [hx] at e
           cases hy : Al keep env loc y with
           | none => rw [hy] at e; cases e
           | some vy =>
             rw [hy] at e
             change grd (Bh (ty P) t vx = true) (AY H (BN vx (some vy) none)) = some (v, H') at e
             have rx := A9 hT hx
             have ry := A9 hT hy
             obtain ⟨hk, e1⟩ := A6 e
             obtain ⟨e2, e3⟩ := Ax e1
             subst e3
             obtain ⟨u, hu, r⟩ := EM (P := P) (w := w) (lo := (some vy)) (hi := none) (ulo := (some (a.eval y))) (uhi := none) (fun _ h => by cases h; exact ⟨_, rfl, ry⟩) (fun h => by cases h) (fun _ h => by cases h) (fun _ => rfl) rx hk e2
             exact .val hu (.same h r)
       | some z =>
         simp only [opds, Option.toList, List.append_nil, List.nil_append, List.cons_append, Af] at e
         cases hx : Al keep env loc x with
         | none => rw [hx] at e; cases e
         | some vx =>
           rw [hx] at e
           cases hy : Al keep env loc y with
           | none => rw [hy] at e; cases e
           | some vy =>
             rw [hy] at e
             cases hz : Al keep env loc z with
             | none => rw [hz] at e; cases e
             | some vz =>
               rw [hz] at e
               change grd (Bh (ty P) t vx = true) (AY H (BN vx (some vy) (some vz))) = some (v, H') at e
               have rx := A9 hT hx
               have ry := A9 hT hy
               have rz := A9 hT hz
               obtain ⟨hk, e1⟩ := A6 e
               obtain ⟨e2, e3⟩ := Ax e1
               subst e3
               obtain ⟨u, hu, r⟩ := EM (P := P) (w := w) (lo := (some vy)) (hi := (some vz)) (ulo := (some (a.eval y))) (uhi := (some (a.eval z))) (fun _ h => by cases h; exact ⟨_, rfl, ry⟩) (fun h => by cases h) (fun _ h => by cases h; exact ⟨_, rfl, rz⟩) (fun h => by cases h) rx hk e2
               exact .val hu (.same h r)
 | call c =>
   change Bt call (ty P) fl H c (Af keep env loc (opds (.call c))) = some (v, H') at e
   unfold Bt at e
   split at e
   ·rename_i vs b hc
    simp only [opds, hc] at e
    obtain ⟨u, w', r, hr⟩ := Ul (P := P) (t := type) (cs := c.args.map fun | .const _ => true | _ => false) h hT hR hfl nf e
    refine ⟨u, w', r, ?_⟩
    have hex : (execOp a.eval ⟨dst, .call c, type, pos, after, guard⟩).run P w = (builtin b c.argTypes.toList.toArray type (c.args.map fun | .const _ => true | _ => false) (c.args.toList.map a.eval).toArray).run P w := by
     simp only [execOp, resolve, hc, Sem.run_bind, Sem.run_pure, Result.andThen_ok, invoke]
     congr 1
     apply congrArg
     apply Array.ext'
     simp
    rw [hex]
    exact hr
   ·exact absurd (by assumption) (hno c rfl _)
   ·cases e
 | _ =>
   exfalso
   simp only [opds, Af] at e
   cases e
end
mutual
def V.lt (n : Nat) : V → Prop
 | .ptr b _ => b < n
 | .sl b _ _ _ _ => b < n
 | .map b => b < n
 | .fn _ cs => V.lts n cs
 | .agg cs => V.lts n cs
 | .tup cs => V.lts n cs
 | .bool _ => True
 | .int _ _ => True
 | .str _ => True
 | .gptr _ _ => True
 | .nilp => True
 | .nilsl => True
 | .emp => True
 | .nilmap => True
 | .nilfn => True
def V.lts (n : Nat) : List V → Prop
 | [] => True
 | v :: vs => V.lt n v ∧ V.lts n vs
end
theorem Bq {n : Nat} : ∀ {vs : List V}, V.lts n vs ↔ ∀ v ∈ vs, V.lt n v
 | [] => by simp [V.lts]
 | v :: vs => by simp [V.lts, Bq]
mutual
theorem V.lt_mono {n m : Nat} (h : n ≤ m) : ∀ {v : V}, V.lt n v → V.lt m v
 | .ptr _ _, e => by simp only [V.lt] at e ⊢; omega
 | .sl _ _ _ _ _, e => by simp only [V.lt] at e ⊢; omega
 | .map _, e => by simp only [V.lt] at e ⊢; omega
 | .fn _ _, e => by simp only [V.lt] at e ⊢; exact V.lts_mono h e
 | .agg _, e => by simp only [V.lt] at e ⊢; exact V.lts_mono h e
 | .tup _, e => by simp only [V.lt] at e ⊢; exact V.lts_mono h e
 | .bool _, _ => by simp only [V.lt]
 | .int _ _, _ => by simp only [V.lt]
 | .str _, _ => by simp only [V.lt]
 | .gptr _ _, _ => by simp only [V.lt]
 | .nilp, _ => by simp only [V.lt]
 | .nilsl, _ => by simp only [V.lt]
 | .emp, _ => by simp only [V.lt]
 | .nilmap, _ => by simp only [V.lt]
 | .nilfn, _ => by simp only [V.lt]
theorem V.lts_mono {n m : Nat} (h : n ≤ m) : ∀ {vs : List V}, V.lts n vs → V.lts m vs
 | [], _ => by simp only [V.lts]
 | _ :: _, e => by simp only [V.lts] at e ⊢; exact ⟨V.lt_mono h e.1, V.lts_mono h e.2⟩
end
theorem Ei {n : Nat} {v : V} (h : V.lt n v) : ∀ c ∈ v.cells, V.lt n c := by
 cases v with
 | agg cs => simp only [V.lt] at h; exact Bq.1 h
 | _ => simpa [V.cells] using h
def Blk.lt (n : Nat) : Blk → Prop
 | .cells cs => ∀ c ∈ cs, V.lt n c
 | .map es => ∀ e ∈ es, V.lt n e.1 ∧ V.lt n e.2
 | .dead => True
theorem Blk.lt_mono {n m : Nat} (h : n ≤ m) {x : Blk} (k : x.lt n) : x.lt m := by
 cases x with
 | cells cs => exact fun c hc => V.lt_mono h (k c hc)
 | map es => exact fun e he => ⟨V.lt_mono h (k e he).1, V.lt_mono h (k e he).2⟩
 | dead => trivial
def HB (H : LH) : Prop := ∀ (b : Nat) (x : Blk), H[b]? = some x → x.lt H.length
theorem HB.push {H : LH} (h : HB H) {x : Blk} (hx : x.lt (H.length + 1)) : HB (H ++ [x]) := by
 intro b y e
 rw [List.length_append, List.length_singleton]
 rcases Nat.lt_or_ge b H.length with hl | hl
 ·rw [List.getElem?_append_left hl] at e; exact Blk.lt_mono (x := y) (Nat.le_succ _) (h b y e)
 ·rw [List.getElem?_append_right hl] at e
  have := (List.getElem?_eq_some_iff.1 e).1
  simp at this
  have hb : b - H.length = 0 := by omega
  rw [hb] at e; simp at e; subst e; exact hx
theorem HB.set {H : LH} (h : HB H) {x : Blk} {b : Nat} (hx : x.lt H.length) : HB (H.set b x) := by
 intro i y e
 rw [List.length_set]
 by_cases hb : b = i
 ·subst hb
  have hl := (List.getElem?_eq_some_iff.1 e).1
  rw [List.getElem?_set_self (by simpa using hl)] at e
  injection e with e; subst e; exact hx
 ·rw [List.getElem?_set_ne hb] at e; exact h i y e
theorem HB.cells {H : LH} (h : HB H) {b : Nat} {cs : List V} (e : H.cellsAt b = some cs) : ∀ c ∈ cs, V.lt H.length c := h b _ (AI e)
theorem HB.map {H : LH} (h : HB H) {b : Nat} {es : List (V × V)} (e : H.mapAt b = some es) : ∀ x ∈ es, V.lt H.length x.1 ∧ V.lt H.length x.2 := h b _ (CJ e)
def Good (H : LH) (v : V) : Prop := HB H ∧ V.lt H.length v
def TypL (T : TypeId → Option TI) : Prop := ∀ t i z, T t = some i → i.zero = some z → V.lt 0 z
def GloL (G : Nat → Option (List V)) : Prop := ∀ g cs, G g = some cs → ∀ c ∈ cs, V.lt 0 c
theorem QU {n : Nat} {v : Value} {x : V} (h : scal v = some x) : V.lt n x := by
 unfold scal at h
 split at h <;> first
  | (injection h with h; subst h; simp only [V.lt, V.lts])
  | cases h
theorem MU {n : Nat} : ∀ {vs : List Value} {xs : List V}, IR vs = some xs → V.lts n xs
 | [], xs, h => by injection h with h; subst h; simp only [V.lts]
 | v :: vs, xs, h => by
   simp only [IR] at h
   split at h
   ·rename_i h1 h2; injection h with h; subst h; simp only [V.lts]; exact ⟨QU h1, MU h2⟩
   ·cases h
theorem Hz {n : Nat} {v : Value} {x : V} (h : ofValue v = some x) : V.lt n x := by
 unfold ofValue at h
 split at h
 ·rename_i cs
  cases hs : IR cs with
  | none => rw [hs] at h; cases h
  | some xs => rw [hs] at h; injection h with h; subst h; simp only [V.lt]; exact MU hs
 ·injection h with h; subst h; simp only [V.lt, V.lts]
 ·exact QU h
theorem LR (P : Program) : TypL (ty P) := by
 intro t i z h hz
 unfold ty at h
 split at h
 ·rename_i i' d _ _
  injection h with h; subst h
  simp only at hz
  cases hx : i'.zero with
  | none => rw [hx] at hz; cases hz
  | some x => rw [hx] at hz; exact Hz hz
 ·cases h
theorem FK {n : Nat} : ∀ {xs cs : List V} {o : Nat}, (∀ c ∈ cs, V.lt n c) → (∀ c ∈ xs, V.lt n c) → ∀ c ∈ Bw cs o xs, V.lt n c
 | [], cs, o, h, _ => h
 | x :: xs, cs, o, h, k => by
   simp only [Bw]
   refine FK ?_ (fun c hc => k c (by simp [hc]))
   intro c hc
   rcases List.mem_or_eq_of_mem_set hc with h1 | h1
   ·exact h c h1
   ·subst h1; exact k c (by simp)
theorem I8 {n : Nat} {place : Nat → Option (Nat × Nat)} : ∀ {ps : List (Nat × V)} {cs r : List V}, Gb place cs ps = some r → (∀ c ∈ cs, V.lt n c) → (∀ q ∈ ps, V.lt n q.2) → ∀ c ∈ r, V.lt n c
 | [], cs, r, h, hc, _ => by injection h with h; subst h; exact hc
 | (i, v) :: ps, cs, r, h, hc, hp => by
   simp only [Gb] at h
   split at h
   ·obtain ⟨_, h⟩ := A6 h
    exact I8 h (FK hc (Ei (hp (i, v) (by simp)))) (fun q hq => hp q (by simp [hq]))
   ·cases h
theorem Na {n m : Nat} {z : V} (h : V.lt 0 z) : ∀ c ∈ Fz z m, V.lt n c := by
 intro c hc
 unfold Fz at hc
 rw [List.mem_flatten] at hc
 obtain ⟨l, hl, hc⟩ := hc
 have := List.eq_of_mem_replicate hl
 subst this
 exact V.lt_mono (Nat.zero_le _) (Ei h c hc)
theorem TL {n : Nat} {is : List Nat} {vs : List V} (h : ∀ v ∈ vs, V.lt n v) : ∀ q ∈ is.zip vs, V.lt n q.2 := fun q hq => h _ (List.of_mem_zip hq).2
theorem Qw {H : LH} {x v : V} {H' : LH} (h : HB H) (hx : V.lt H.length x) (e : ptrV H x = some (v, H')) : Good H' v := by
 obtain ⟨_, e⟩ := A6 e
 injection e with e; injection e with e1 e2; subst e1; subst e2
 exact ⟨h.push fun c hc => V.lt_mono (Nat.le_succ _) (Ei hx c hc), by simp [V.lt]⟩
theorem AX {H : LH} {x : Option V} {v : V} {H' : LH} (h : HB H) (e : AY H x = some (v, H')) (k : ∀ y, x = some y → V.lt H.length y) : Good H' v := by
 obtain ⟨rfl, rfl⟩ := Fe e
 exact ⟨h, k _ rfl⟩
theorem FE {H : LH} {g : Bool} {o n : Nat} {cs : Option (List V)} {v : V} {H' : LH} (h : HB H) (k : ∀ l, cs = some l → ∀ c ∈ l, V.lt H.length c) (e : BF H g o n cs = some (v, H')) : Good H' v := by
 unfold BF at e
 split at e
 ·split at e
  ·obtain ⟨_, e⟩ := A6 e
   injection e with e; injection e with e1 e2; subst e1; subst e2
   refine ⟨h, ?_⟩
   simp only [V.lt]
   exact Bq.2 fun c hc => k _ rfl c (List.mem_of_mem_drop (List.mem_of_mem_take hc))
  ·split at e
   ·rename_i hx
    injection e with e; injection e with e1 e2; subst e1; subst e2
    exact ⟨h, k _ rfl _ (List.mem_of_getElem? hx)⟩
   ·cases e
 ·cases e
theorem OX {T : TypeId → Option TI} (hT : TypL T) {t : TypeId} {ixs : List Nat} {vs : Option (List V)} {v : V} {n : Nat} (k : ∀ l, vs = some l → ∀ c ∈ l, V.lt n c) (e : G8 T t ixs vs = some v) : V.lt n v := by
 have agg : ∀ {z : V} {place : Nat → Option (Nat × Nat)} {l : List V}, V.lt 0 z → (∀ c ∈ l, V.lt n c) → aggO (Gb place z.cells (ixs.zip l)) = some v → V.lt n v := by
  intro z place l hz hl e
  unfold aggO at e
  split at e
  ·rename_i cs hf
   injection e with e; subst e
   simp only [V.lt]
   exact Bq.2 (I8 hf (fun c hc => V.lt_mono (Nat.zero_le _) (Ei hz c hc)) (TL hl))
  ·cases e
 unfold G8 at e
 split at e
 ·cases e
 ·rename_i l
  split at e
  ·rename_i z hty
   split at e
   ·obtain ⟨_, e⟩ := A6 e; exact agg (hT _ _ _ hty rfl) (k l rfl) e
   ·cases e
  ·rename_i z hty
   unfold M9 at e
   split at e
   ·obtain ⟨_, e⟩ := A6 e; exact agg (hT _ _ _ hty rfl) (k l rfl) e
   ·cases e
  ·cases e
theorem OV {T : TypeId → Option TI} (hT : TypL T) {t : TypeId} {m : Nat} {ixs : List Nat} {vs : Option (List V)} {v : V} {H H' : LH} (h : HB H) (k : ∀ l, vs = some l → ∀ c ∈ l, V.lt H.length c) (e : D5 T t m ixs H vs = some (v, H')) : Good H' v := by
 unfold D5 at e
 split at e
 ·cases e
 ·rename_i l
  split at e
  ·split at e
   ·rename_i z hty
    obtain ⟨_, e⟩ := A6 e
    unfold rowO at e
    split at e
    ·rename_i cs hf
     injection e with e; injection e with e1 e2; subst e1; subst e2
     refine ⟨h.push fun c hc => V.lt_mono (Nat.le_succ _) ?_, by simp [V.lt]⟩
     exact I8 hf (Na (hT _ _ _ hty rfl)) (TL (k l rfl)) c hc
    ·cases e
   ·cases e
  ·cases e
theorem U4 {T : TypeId → Option TI} {op : BinOp} {t : TypeId} {x y v : V} {n : Nat} (e : binV T op t x y = some v) : V.lt n v := by
 have key : ∀ {q : Option V}, (∀ z, q = some z → V.lt n z) → q = some v → V.lt n v := fun h e => h v e
 have bits : ∀ {op k a b}, C4 op k a b = some v → V.lt n v := by
  intro op k a b e
  unfold C4 at e
  split at e <;> first | (injection e with e; subst e; simp only [V.lt]) | cases e
 have cmp : ∀ {op a b}, cmpI op a b = some v → V.lt n v := by
  intro op a b e
  unfold cmpI at e
  split at e <;> first | (injection e with e; subst e; simp only [V.lt]) | cases e
 have yes : ∀ {b}, yesO b = some v → V.lt n v := by
  intro b e; unfold yesO at e; split at e <;> first | (injection e with e; subst e; simp only [V.lt]) | cases e
 have no : ∀ {b}, notO b = some v → V.lt n v := by
  intro b e; unfold notO at e; split at e <;> first | (injection e with e; subst e; simp only [V.lt]) | cases e
 unfold binV at e
 split at e
 ·unfold binI at e
  split at e <;> (obtain ⟨_, e⟩ := A6 e) <;> first
   | (injection e with e; subst e; simp only [V.lt])
   | exact bits e
   | exact cmp e
 ·unfold binS at e
  split at e <;> first
   | (injection e with e; subst e; simp only [V.lt])
   | (obtain ⟨_, e⟩ := A6 e; injection e with e; subst e; simp only [V.lt])
   | cases e
 ·split at e <;> first | (injection e with e; subst e; simp only [V.lt]) | cases e
 ·split at e <;> first | exact yes e | exact no e | cases e
 ·split at e <;> first | exact yes e | exact no e | cases e
 ·cases e
theorem WA {op : UnOp} {x v : V} {n : Nat} (e : unV op x = some v) : V.lt n v := by
 unfold unV at e
 split at e
 ·split at e <;> first | (injection e with e; subst e; simp only [V.lt]) | cases e
 ·split at e <;> first | (injection e with e; subst e; simp only [V.lt]) | cases e
 ·cases e
theorem RM {T : TypeId → Option TI} {fl : Nat} {s d : TypeId} {x v : V} {H H' : LH} (h : HB H) (e : DJ T fl H s d x = some (v, H')) : Good H' v := by
 unfold DJ at e
 split at e
 ·split at e
  ·injection e with e; injection e with e1 e2; subst e1; subst e2; exact ⟨h, by simp only [V.lt]⟩
  ·cases e
 ·split at e
  ·injection e with e; injection e with e1 e2; subst e1; subst e2; exact ⟨h, by simp only [V.lt]⟩
  ·cases e
 ·split at e
  ·obtain ⟨_, e⟩ := A6 e
   unfold He at e
   split at e
   ·unfold strO at e
    split at e
    ·injection e with e; injection e with e1 e2; subst e1; subst e2; exact ⟨h, by simp only [V.lt]⟩
    ·cases e
   ·cases e
  ·injection e with e; injection e with e1 e2; subst e1; subst e2; exact ⟨h, by simp only [V.lt]⟩
  ·injection e with e; injection e with e1 e2; subst e1; subst e2; exact ⟨h, by simp only [V.lt]⟩
  ·cases e
 ·split at e
  ·injection e with e; injection e with e1 e2; subst e1; subst e2
   refine ⟨h.push fun c hc => ?_, by simp [V.lt]⟩
   unfold D6 at hc
   rw [List.mem_map] at hc
   obtain ⟨b, _, rfl⟩ := hc
   simp only [V.lt]
  ·cases e
 ·split at e
  ·injection e with e; injection e with e1 e2; subst e1; subst e2; exact ⟨h, by simp only [V.lt]⟩
  ·cases e
 ·split at e
  ·obtain ⟨hc, e⟩ := A6 e
   injection e with e; injection e with e1 e2; subst e1; subst e2
   refine ⟨h, ?_⟩
   obtain ⟨cs, hcs⟩ := Option.isSome_iff_exists.1 hc.2.2
   simp only [V.lt]
   exact (List.getElem?_eq_some_iff.1 (AI hcs)).1
  ·cases e
 ·cases e
theorem RU {T : TypeId → Option TI} (hT : TypL T) {t : TypeId} {i : TI} {z : V} (h : Av T t = some i) (hz : i.zero = some z) : V.lt 0 z := by
 unfold Av at h
 split at h
 ·exact hT _ _ _ h hz
 ·cases h
theorem EK {x v : V} {lo hi : Option V} {n : Nat} (hx : V.lt n x) (e : BN x lo hi = some v) : V.lt n v := by
 unfold BN at e
 split at e
 ·unfold cutS at e
  split at e
  ·obtain ⟨_, e⟩ := A6 e; injection e with e; subst e; simp only [V.lt]
  ·cases e
 ·unfold cutL at e
  split at e
  ·obtain ⟨_, e⟩ := A6 e; injection e with e; subst e; simp only [V.lt] at hx ⊢; exact hx
  ·cases e
 ·unfold cutN at e
  split at e
  ·injection e with e; subst e; simp only [V.lt]
  ·cases e
 ·unfold cutE at e
  split at e
  ·injection e with e; subst e; simp only [V.lt]
  ·cases e
 ·cases e
theorem MK {cs : List V} {off n : Nat} {i : Option TI} {v : V} (h : V.lts n cs) (e : Ll cs off i = some v) : V.lt n v := by
 unfold Ll at e
 split at e
 ·split at e
  ·obtain ⟨_, e⟩ := A6 e; injection e with e; subst e
   simp only [V.lt]
   exact Bq.2 fun c hc => Bq.1 h c (List.mem_of_mem_drop (List.mem_of_mem_take hc))
  ·exact Bq.1 h _ (List.mem_of_getElem? e)
 ·cases e
theorem TU {off n : Nat} {x v : V} (h : V.lt n x) (e : addO off x = some v) : V.lt n v := by
 unfold addO at e
 split at e
 ·injection e with e; subst e; simp only [V.lt] at h ⊢; exact h
 ·injection e with e; subst e; simp only [V.lt]
 ·cases e
theorem Ti {k : Nat → Nat → V} {o len b n : Nat} {m : Int} {z : Option Nat} {v : V} (h : ∀ x, V.lt n (k b x)) (e : atO k o len m b z = some v) : V.lt n v := by
 unfold atO at e
 split at e
 ·obtain ⟨_, e⟩ := A6 e; injection e with e; subst e; exact h _
 ·cases e
theorem Mm {k : V} {n : Nat} : ∀ {es : List (V × V)} {i j : Nat} {v : V}, (∀ x ∈ es, V.lt n x.1 ∧ V.lt n x.2) → CB k es i = some (some (j, v)) → V.lt n v
 | [], _, _, _, _, e => by injection e with e; cases e
 | (k', v') :: es, i, j, v, h, e => by
   simp only [CB] at e
   split at e
   ·injection e with e; injection e with e; injection e with _ e; subst e; exact (h (k', v') (by simp)).2
   ·exact Mm (fun x hx => h x (by simp [hx])) e
   ·cases e
theorem UK {H : LH} {x v : V} {H' : LH} (h : HB H) (e : numO H (lenV H x) = some (v, H')) : Good H' v := by
 unfold numO at e
 split at e
 ·injection e with e; injection e with e1 e2; subst e1; subst e2; exact ⟨h, by simp only [V.lt]⟩
 ·cases e
theorem Wd {x y v : V} {n : Nat} (e : minV x y = some v ∨ maxV x y = some v) : V.lt n v := by
 rcases e with e | e
 ·unfold minV at e
  split at e
  ·obtain ⟨_, e⟩ := A6 e; injection e with e; subst e; simp only [V.lt]
  ·cases e
 ·unfold maxV at e
  split at e
  ·obtain ⟨_, e⟩ := A6 e; injection e with e; subst e; simp only [V.lt]
  ·cases e
theorem Qr {n o m : Nat} {cs : Option (List V)} {r : List V} (h : ∀ l, cs = some l → ∀ c ∈ l, V.lt n c) (e : Fh o m cs = some r) : ∀ c ∈ r, V.lt n c := by
 unfold Fh at e
 split at e
 ·obtain ⟨_, e⟩ := A6 e; injection e with e; subst e
  exact fun c hc => h _ rfl c (List.mem_of_mem_drop (List.mem_of_mem_take hc))
 ·cases e
theorem Oc {H : LH} {x : V} {r : List V} (h : HB H) (e : AW H x = some r) : ∀ c ∈ r, V.lt H.length c := by
 unfold AW at e
 split at e
 ·exact Qr (fun l hl => h.cells hl) e
 ·injection e with e; subst e; intro c hc; cases hc
 ·injection e with e; subst e; intro c hc; cases hc
 ·injection e with e; subst e
  intro c hc
  unfold D6 at hc
  rw [List.mem_map] at hc
  obtain ⟨b, _, rfl⟩ := hc
  simp only [V.lt]
 ·cases e
theorem TY {T : TypeId → Option TI} {fl : Nat} {t t' : TypeId} {H : LH} {s x v : V} {H' : LH} (h : HB H) (hs : V.lt H.length s) (e : appV T fl t t' H s x = some (v, H')) : Good H' v := by
 unfold appV at e
 split at e
 ·rename_i m new _ _ hnew
  obtain ⟨_, e⟩ := A6 e
  have hn := Oc h hnew
  unfold AB at e
  split at e
  ·split at e
   ·injection e with e; injection e with e1 e2; subst e1; subst e2; exact ⟨h, by simp only [V.lt]⟩
   ·obtain ⟨_, e⟩ := A6 e; injection e with e; injection e with e1 e2; subst e1; subst e2
    exact ⟨h.push fun c hc => V.lt_mono (Nat.le_succ _) (hn c hc), by simp [V.lt]⟩
  ·split at e
   ·injection e with e; injection e with e1 e2; subst e1; subst e2; exact ⟨h, by simp only [V.lt]⟩
   ·obtain ⟨_, e⟩ := A6 e; injection e with e; injection e with e1 e2; subst e1; subst e2
    exact ⟨h.push fun c hc => V.lt_mono (Nat.le_succ _) (hn c hc), by simp [V.lt]⟩
  ·obtain ⟨_, e⟩ := A6 e
   split at e
   ·injection e with e; injection e with e1 e2; subst e1; subst e2; exact ⟨h, hs⟩
   ·unfold appO at e
    split at e
    ·rename_i cs hcs
     split at e
     ·obtain ⟨_, e⟩ := A6 e; injection e with e; injection e with e1 e2; subst e1; subst e2
      refine ⟨h.set (FK (h.cells hcs) hn), ?_⟩
      simp only [V.lt, List.length_set] at hs ⊢; exact hs
     ·obtain ⟨_, e⟩ := A6 e
      unfold L0 at e
      split at e
      ·rename_i old hold
       injection e with e; injection e with e1 e2; subst e1; subst e2
       refine ⟨(h.set (x := .dead) trivial).push fun c hc => ?_, by simp [V.lt]⟩
       rw [List.length_set]
       refine V.lt_mono (Nat.le_succ _) ?_
       rcases List.mem_append.1 hc with hc | hc
       ·obtain ⟨_, hold⟩ := A6 hold
        injection hold with hold; subst hold
        exact h.cells hcs c (List.mem_of_mem_drop (List.mem_of_mem_take hc))
       ·exact hn c hc
      ·cases e
    ·cases e
  ·cases e
 ·cases e
theorem Uk {T : TypeId → Option TI} {fl : Nat} {H : LH} {b : Builtin} {ts : List TypeId} {vs : List (Option V)} {v : V} {H' : LH} (h : HB H) (hv : ∀ x, some x ∈ vs → V.lt H.length x) (e : doBi T fl H b ts vs = some (v, H')) : Good H' v := by
 unfold doBi at e
 split at e
 ·obtain ⟨_, e⟩ := A6 e; exact UK h e
 ·exact AX h e fun y hy => Wd (.inl hy)
 ·exact AX h e fun y hy => Wd (.inr hy)
 ·exact TY h (hv _ (by simp)) e
 ·cases e
def FV (call : AM) : Prop := ∀ K args fl H v H', call K args fl H = some (v, H') → fl ≤ H.length → HB H → (∀ x ∈ args, V.lt H.length x) → Good H' v
theorem CQ {vs : List (Option V)} {l : List V} (h : allV vs = some l) : ∀ x ∈ l, some x ∈ vs := by
 induction vs generalizing l with
 | nil => injection h with h; subst h; intro x hx; cases hx
 | cons v vs ih =>
   cases v with
   | none => cases h
   | some v =>
     simp only [allV] at h
     split at h
     ·rename_i l' hl
      injection h with h; subst h
      intro x hx
      rcases List.mem_cons.1 hx with hx | hx
      ·subst hx; simp
      ·exact List.mem_cons_of_mem _ (ih hl x hx)
     ·cases h
theorem KL {call : AM} (hc : FV call) {T : TypeId → Option TI} (hT : TypL T) {G : Nat → Option (List V)} (hG : GloL G) {fl : Nat} {H : LH} {o : Op} {vs : List (Option V)} {v : V} {H' : LH} (hf : fl ≤ H.length) (h : HB H) (hv : ∀ x, some x ∈ vs → V.lt H.length x)
 (e : doOp call T G fl H o vs = some (v, H')) : Good H' v := by
 unfold doOp at e
 split at e
 ·injection e with e; injection e with e1 e2; subst e1; subst e2; exact ⟨h, hv _ (by simp)⟩
 ·injection e with e; injection e with e1 e2; subst e1; subst e2; exact ⟨h, hv _ (by simp)⟩
 ·unfold Is at e
  split at e
  ·injection e with e; injection e with e1 e2; subst e1; subst e2; exact ⟨h, hv _ (by simp)⟩
  ·injection e with e; injection e with e1 e2; subst e1; subst e2; exact ⟨h, hv _ (by simp)⟩
  ·cases e
 ·unfold Fy at e
  split at e
  ·rename_i hty; exact Qw h (V.lt_mono (Nat.zero_le _) (hT _ _ _ hty rfl)) e
  ·cases e
 ·exact Qw h (hv _ (by simp)) e
 ·exact AX h e fun y hy => OX hT (fun l hl c hcl => hv _ (CQ hl c hcl)) hy
 ·exact OV hT h (fun l hl c hcl => hv _ (CQ hl c hcl)) e
 ·unfold BX at e
  split at e
  ·unfold Gi at e
   split at e
   ·exact FE h (fun l hl => h.cells hl) e
   ·exact FE h (fun l hl c hcl => V.lt_mono (Nat.zero_le _) (hG _ _ hl c hcl)) e
   ·cases e
  ·cases e
 ·unfold DP at e
  split at e
  ·unfold HJ at e
   split at e
   ·unfold GM at e
    split at e
    ·rename_i cs hcs
     obtain ⟨_, e⟩ := A6 e
     injection e with e; injection e with e1 e2; subst e1; subst e2
     exact ⟨h.set (FK (h.cells hcs) (Ei (hv _ (by simp)))), by simp only [V.lt, V.lts]⟩
    ·cases e
   ·cases e
  ·cases e
 ·obtain ⟨rfl, rfl⟩ := F8 e; exact ⟨h, hv _ (by simp)⟩
 ·exact AX h e fun y hy => U4 hy
 ·exact AX h e fun y hy => WA hy
 ·exact RM h e
 ·unfold fnO at e
  split at e
  ·rename_i l hl
   injection e with e; injection e with e1 e2; subst e1; subst e2
   refine ⟨h, ?_⟩
   simp only [V.lt]
   exact Bq.2 fun c hcl => hv _ (CQ hl c hcl)
  ·cases e
 ·unfold mapO at e
  split at e
  ·injection e with e; injection e with e1 e2; subst e1; subst e2
   exact ⟨h.push (fun c hcl => by cases hcl), by simp [V.lt]⟩
  ·cases e
 ·unfold Gk at e
  split at e
  ·rename_i hel
   obtain ⟨_, e⟩ := A6 e; injection e with e; injection e with e1 e2; subst e1; subst e2
   exact ⟨h.push (Na (RU hT hel rfl)), by simp [V.lt]⟩
  ·cases e
 ·exact AX h (A6 e).2 fun y hy => EK (hv _ (by simp)) hy
 ·exact AX h (A6 e).2 fun y hy => EK (hv _ (by simp)) hy
 ·exact AX h (A6 e).2 fun y hy => EK (hv _ (by simp)) hy
 ·exact AX h (A6 e).2 fun y hy => EK (hv _ (by simp)) hy
 ·refine AX h e fun y hy => ?_
  unfold Hl at hy
  split at hy
  ·split at hy
   ·exact TU (hv _ (by simp)) (A6 hy).2
   ·cases hy
  ·cases hy
 ·refine AX h e fun y hy => ?_
  unfold Hm at hy
  split at hy
  ·have := hv _ (List.mem_cons_self)
   simp only [V.lt] at this
   split at hy
   ·split at hy
    ·exact MK this hy
    ·cases hy
   ·cases hy
  ·cases hy
 ·refine AX h e fun y hy => ?_
  unfold DN at hy
  have h0 := hv _ (List.mem_cons_self)
  split at hy
  ·obtain ⟨_, hy⟩ := A6 hy
   obtain ⟨_, hy⟩ := A6 hy
   injection hy with hy; subst hy
   simp only [V.lt] at h0 ⊢; exact h0
  ·split at hy
   ·exact Ti (fun x => by simp only [V.lt] at h0 ⊢; exact h0) hy
   ·cases hy
  ·split at hy
   ·exact Ti (fun x => by simp only [V.lt]) hy
   ·cases hy
  ·cases hy
 ·refine AX h e fun y hy => ?_
  unfold Hp at hy
  have h0 := hv _ (List.mem_cons_self)
  split at hy
  ·split at hy
   ·obtain ⟨_, hy⟩ := A6 hy
    injection hy with hy; subst hy
    simp only [Nm, V.lt]
   ·cases hy
  ·split at hy
   ·split at hy
    ·obtain ⟨_, hy⟩ := A6 hy
     simp only [V.lt] at h0
     exact MK h0 hy
    ·cases hy
   ·cases hy
  ·cases hy
 ·unfold Cc at e
  split at e
  ·split at e
   ·rename_i z hty
    obtain ⟨_, e⟩ := A6 e
    have hz : V.lt H.length z := V.lt_mono (Nat.zero_le _) (hT _ _ _ hty rfl)
    unfold Cb at e
    split at e
    ·rename_i j vv hent
     have hvv : V.lt H.length vv := by
      unfold entO at hent
      split at hent
      ·rename_i es hes
       refine Mm ?_ hent
       unfold mapE at hes
       split at hes
       ·exact h.map hes
       ·injection hes with hes; subst hes; intro x hx; cases hx
       ·cases hes
      ·cases hent
     split at e
     ·injection e with e; injection e with e1 e2; subst e1; subst e2; exact ⟨h, by simp only [V.lt, V.lts]; exact ⟨hvv, trivial, trivial⟩⟩
     ·injection e with e; injection e with e1 e2; subst e1; subst e2; exact ⟨h, hvv⟩
    ·split at e
     ·injection e with e; injection e with e1 e2; subst e1; subst e2; exact ⟨h, by simp only [V.lt, V.lts]; exact ⟨hz, trivial, trivial⟩⟩
     ·injection e with e; injection e with e1 e2; subst e1; subst e2; exact ⟨h, hz⟩
    ·cases e
   ·cases e
  ·cases e
 ·unfold updV at e
  split at e
  ·split at e
   ·obtain ⟨_, e⟩ := A6 e
    have hk := hv _ (List.mem_cons_of_mem _ List.mem_cons_self)
    have hx := hv _ (List.mem_cons_of_mem _ (List.mem_cons_of_mem _ List.mem_cons_self))
    unfold updO at e
    split at e
    ·rename_i es hes
     have hm := h.map hes
     split at e
     ·injection e with e; injection e with e1 e2; subst e1; subst e2
      refine ⟨h.set fun y hy => ?_, by simp only [V.lt, V.lts]⟩
      rcases List.mem_or_eq_of_mem_set hy with h1 | h1
      ·exact hm y h1
      ·subst h1; exact ⟨hk, hx⟩
     ·injection e with e; injection e with e1 e2; subst e1; subst e2
      refine ⟨h.set fun y hy => ?_, by simp only [V.lt, V.lts]⟩
      rcases List.mem_append.1 hy with h1 | h1
      ·exact hm y h1
      ·rw [List.mem_singleton] at h1; subst h1; exact ⟨hk, hx⟩
     ·cases e
    ·cases e
   ·cases e
  ·cases e
 ·unfold updV at e
  split at e
  ·split at e
   ·obtain ⟨_, e⟩ := A6 e
    have hk := hv _ (List.mem_cons_of_mem _ List.mem_cons_self)
    have hx := hv _ (List.mem_cons_of_mem _ (List.mem_cons_of_mem _ List.mem_cons_self))
    unfold updO at e
    split at e
    ·rename_i es hes
     have hm := h.map hes
     split at e
     ·injection e with e; injection e with e1 e2; subst e1; subst e2
      refine ⟨h.set fun y hy => ?_, by simp only [V.lt, V.lts]⟩
      rcases List.mem_or_eq_of_mem_set hy with h1 | h1
      ·exact hm y h1
      ·subst h1; exact ⟨hk, hx⟩
     ·injection e with e; injection e with e1 e2; subst e1; subst e2
      refine ⟨h.set fun y hy => ?_, by simp only [V.lt, V.lts]⟩
      rcases List.mem_append.1 hy with h1 | h1
      ·exact hm y h1
      ·rw [List.mem_singleton] at h1; subst h1; exact ⟨hk, hx⟩
     ·cases e
    ·cases e
   ·cases e
  ·cases e
 ·refine AX h e fun y hy => ?_
  unfold Nu at hy
  split at hy
  ·have := hv _ (List.mem_cons_self)
   simp only [V.lt] at this
   exact Bq.1 this _ (List.mem_of_getElem? hy)
  ·cases hy
 ·unfold Bt at e
  split at e
  ·exact Uk h hv e
  ·rename_i hcal
   unfold HY at e
   split at e
   ·rename_i l _ hl
    refine hc _ _ _ _ _ _ e hf h fun x hx => ?_
    rcases List.mem_append.1 hx with h1 | h1
    ·exact hv x (List.mem_cons_of_mem _ (CQ hl x h1))
    ·have := hv _ (List.mem_cons_self)
     simp only [V.lt] at this
     exact Bq.1 this x h1
   ·cases e
  ·cases e
 ·cases e
def EL (n : Nat) (env : Env) : Prop := ∀ v, some v ∈ env → V.lt n v
def LL (n : Nat) (loc : Loc) : Prop := ∀ t v, (t, v) ∈ loc → V.lt n v
theorem EL.mono {n m : Nat} {env : Env} (h : EL n env) (k : n ≤ m) : EL m env := fun v hv => V.lt_mono k (h v hv)
theorem LL.mono {n m : Nat} {loc : Loc} (h : LL n loc) (k : n ≤ m) : LL m loc := fun t v hv => V.lt_mono k (h t v hv)
theorem Gj {t : Tmp} {v : V} : ∀ {ks : List Tmp} {es : Env}, CC ks es t = some v → some v ∈ es
 | [], _, h => by simp only [CC] at h; cases h
 | _ :: _, [], h => by simp only [CC] at h; cases h
 | k :: ks, e :: es, h => by
   simp only [CC] at h
   split at h
   ·subst h; simp
   ·exact List.mem_cons_of_mem _ (Gj h)
theorem MA {n : Nat} {keep : List Tmp} {env : Env} {t : Tmp} {v : V} (he : EL n env) : ∀ {loc : Loc}, LL n loc → B2 keep env loc t = some v → V.lt n v
 | [], _, h => he v (Gj h)
 | (t', x) :: loc, hl, h => by
   simp only [B2] at h
   split at h
   ·injection h with h; subst h; exact hl t' _ (by simp)
   ·exact MA he (fun a b hb => hl a b (by simp [hb])) h
theorem S3 {n : Nat} {keep : List Tmp} {env : Env} {loc : Loc} {x : Operand} {v : V} (he : EL n env) (hl : LL n loc) (h : Al keep env loc x = some v) : V.lt n v := by
 cases x with
 | tmp t => exact MA he hl h
 | const c => exact Hz h
 | global g => injection h with h; subst h; simp only [V.lt]
 | func f => injection h with h; subst h; simp only [V.lt, V.lts]
theorem En {n : Nat} {keep : List Tmp} {env : Env} {loc : Loc} (he : EL n env) (hl : LL n loc) : ∀ {xs : List Operand} {v : V}, some v ∈ Af keep env loc xs → V.lt n v
 | [], _, h => by simp only [Af] at h; cases h
 | x :: xs, v, h => by
   simp only [Af] at h
   rcases List.mem_cons.1 h with h | h
   ·exact S3 he hl h.symm
   ·exact En he hl h
theorem F9 {n : Nat} {d : Option Tmp} {v : V} {loc : Loc} (hl : LL n loc) (hv : V.lt n v) : LL n (putL d v loc) := by
 cases d with
 | none => exact hl
 | some t =>
   intro a b hb
   rcases List.mem_cons.1 hb with h | h
   ·injection h with h1 h2; subst h2; exact hv
   ·exact hl a b h
theorem Rh {n : Nat} : V.lt n und := by simp only [V.lt, V.lts]
theorem Ml {n : Nat} {t : Tmp} {d : Option V} {v : V} (hd : ∀ x, d = some x → V.lt n x) : ∀ {loc : Loc}, LL n loc → KR loc t d = some v → V.lt n v
 | [], _, h => hd v h
 | (t', x) :: loc, hl, h => by
   simp only [KR] at h
   split at h
   ·injection h with h; subst h; exact hl t' _ (by simp)
   ·exact Ml hd (fun a b hb => hl a b (by simp [hb])) h
theorem Ms {n : Nat} {loc : Loc} (hl : LL n loc) : ∀ {ks : List Tmp} {es : Env}, EL n es → EL n (DY ks es loc)
 | [], _, _ => by simp only [DY]; intro v h; cases h
 | _ :: _, [], _ => by simp only [DY]; intro v h; cases h
 | k :: ks, e :: es, he => by
   simp only [DY]
   intro v h
   rcases List.mem_cons.1 h with h | h
   ·exact Ml (fun x hx => he x (by rw [hx]; simp)) hl h.symm
   ·exact Ms hl (fun x hx => he x (by simp [hx])) v h
theorem Em {n : Nat} {args : List V} (h : ∀ x ∈ args, V.lt n x) : ∀ {ks : List Tmp}, EL n (BH ks args)
 | [] => by simp only [BH]; intro v h; cases h
 | k :: ks => by
   simp only [BH]
   intro v hv
   rcases List.mem_cons.1 hv with hv | hv
   ·exact h v (List.mem_of_getElem? hv.symm)
   ·exact Em h v hv
def J0 (loop : AZ) : Prop := ∀ kp fl c e H x e' H', loop kp fl c e H = some (x, e', H') → fl ≤ H.length → HB H → EL H.length e → HB H' ∧ EL H'.length e'
section
variable {P : Program} {C : Cfg} {ok : FuncId → Bool}
theorem UY {call : AM} {loop : AZ} (hl : FV call) (hg : Cn call) (hG : GloL C.glob) {keep fl ops env} : ∀ {rest loc H l' H'}, fl ≤ H.length → HB H → EL H.length env → LL H.length loc → opsV (mk P C call loop keep fl) ops env rest loc H = some (l', H') → HB H' ∧ EL H'.length env ∧ LL H'.length l' := by
 intro rest
 induction rest with
 | nil => intro loc H l' H' _ h he hL e; injection e with e; injection e with e1 e2; subst e1; subst e2; exact ⟨h, he, hL⟩
 | cons o rest ih =>
   intro loc H l' H' hf h he hL e
   simp only [opsV] at e
   split at e
   ·split at e
    ·rename_i v H1 hs
     have hs := (Bb hs).1
     have g := Ej hg hf hs
     have k := KL hl (LR P) hG hf h (fun x hx => En he hL hx) hs
     exact ih (Nat.le_trans hf g.len) k.1 (he.mono g.len) (F9 (hL.mono g.len) k.2) e
    ·cases e
   ·exact ih hf h he (F9 hL Rh) e
   ·cases e
theorem Ga {call : AM} {loop : AZ} (hl : FV call) (hg : Cn call) (hll : J0 loop) (hlg : FX loop) (hG : GloL C.glob) {keep fl} : ∀ {c e H x e' H'}, fl ≤ H.length → HB H → EL H.length e → exec (mk P C call loop keep fl) c e H = some (x, e', H') → HB H' ∧ EL H'.length e' := by
 intro c
 induction c with
 | region id ops d =>
   intro e H x e' H' hf h he hx
   simp only [exec] at hx
   split at hx
   ·rename_i hs
    injection hx with hx; injection hx with _ hx; injection hx with h1 h2; subst h1; subst h2
    obtain ⟨k1, k2, k3⟩ := UY hl hg hG hf h he (fun t v hv => by cases hv) hs
    exact ⟨k1, Ms k3 k2⟩
   ·cases hx
 | seq a b iha ihb =>
   intro e H x e' H' hf h he hx
   simp only [exec] at hx
   cases ha : exec (mk P C call loop keep fl) a e H with
   | none => rw [ha] at hx; cases hx
   | some y =>
     rw [ha] at hx
     obtain ⟨y, e1, H1⟩ := y
     have k := iha hf h he ha
     cases y
     ·exact ihb (Nat.le_trans hf (BJ hg hlg hf ha).len) k.1 k.2 hx
     ·injection hx with hx; injection hx with _ hx; injection hx with h1 h2; subst h1; subst h2; exact k
     ·injection hx with hx; injection hx with _ hx; injection hx with h1 h2; subst h1; subst h2; exact k
 | cond o a b iha ihb =>
   intro e H x e' H' hf h he hx
   simp only [exec] at hx
   split at hx
   ·exact iha hf h he hx
   ·exact ihb hf h he hx
   ·cases hx
 | block id c ih =>
   intro e H x e' H' hf h he hx
   simp only [exec] at hx
   cases ha : exec (mk P C call loop keep fl) c e H with
   | none => rw [ha] at hx; cases hx
   | some y =>
     rw [ha] at hx
     obtain ⟨y, e1, H1⟩ := y
     have k := ih hf h he ha
     cases y
     ·injection hx with hx; injection hx with _ hx; injection hx with h1 h2; subst h1; subst h2; exact k
     ·dsimp only at hx; split at hx <;> (injection hx with hx; injection hx with _ hx; injection hx with h1 h2; subst h1; subst h2; exact k)
     ·injection hx with hx; injection hx with _ hx; injection hx with h1 h2; subst h1; subst h2; exact k
 | loop c ih => intro e H x e' H' hf h he hx; exact hll _ _ _ _ _ _ _ _ hx hf h he
 | skip => intro e H x e' H' hf h he hx; injection hx with hx; injection hx with _ hx; injection hx with h1 h2; subst h1; subst h2; exact ⟨h, he⟩
 | label => intro e H x e' H' hf h he hx; injection hx with hx; injection hx with _ hx; injection hx with h1 h2; subst h1; subst h2; exact ⟨h, he⟩
 | exit => intro e H x e' H' hf h he hx; injection hx with hx; injection hx with _ hx; injection hx with h1 h2; subst h1; subst h2; exact ⟨h, he⟩
 | ret => intro e H x e' H' hf h he hx; injection hx with hx; injection hx with _ hx; injection hx with h1 h2; subst h1; subst h2; exact ⟨h, he⟩
 | _ => intro e H x e' H' hf h he hx; cases hx
mutual
theorem JL {n : Nat} : ∀ {v : V}, v.noAddr = true → V.lt n v
 | .bool _, _ => by simp only [V.lt]
 | .int _ _, _ => by simp only [V.lt]
 | .str _, _ => by simp only [V.lt]
 | .gptr _ _, _ => by simp only [V.lt]
 | .nilp, _ => by simp only [V.lt]
 | .nilsl, _ => by simp only [V.lt]
 | .emp, _ => by simp only [V.lt]
 | .nilmap, _ => by simp only [V.lt]
 | .nilfn, _ => by simp only [V.lt]
 | .agg cs, h => by simp only [V.noAddr] at h; simp only [V.lt]; exact F6 h
 | .tup cs, h => by simp only [V.noAddr] at h; simp only [V.lt]; exact F6 h
 | .ptr _ _, h => by simp [V.noAddr] at h
 | .sl _ _ _ _ _, h => by simp [V.noAddr] at h
 | .map _, h => by simp [V.noAddr] at h
 | .fn _ _, h => by simp [V.noAddr] at h
theorem F6 {n : Nat} : ∀ {vs : List V}, V.noAddrs vs = true → V.lts n vs
 | [], _ => by simp only [V.lts]
 | v :: vs, h => by
   simp only [V.noAddrs, Bool.and_eq_true] at h
   simp only [V.lts]
   exact ⟨JL h.1, F6 h.2⟩
end
theorem Ix {call : AM} {loop : AZ} {keep : List Tmp} {fl : Nat} (hG : GloL C.glob) {env : Env} {H : LH} (h : HB H) (he : EL H.length env) : ∀ {rs : List ResultVar} {v : V}, some v ∈ resV (mk P C call loop keep fl) env H rs → V.lt H.length v
 | [], v, hv => by simp only [resV] at hv; cases hv
 | .tmp t :: rs, v, hv => by
   simp only [resV] at hv
   rcases List.mem_cons.1 hv with hv | hv
   ·exact he v (Gj hv.symm)
   ·exact Ix hG h he hv
 | .cell a t :: rs, v, hv => by
   simp only [resV] at hv
   rcases List.mem_cons.1 hv with hv | hv
   ·split at hv
    ·rename_i va hva
     unfold valO at hv
     split at hv
     ·rename_i v' H' hl
      injection hv with hv; subst hv
      have hH := CI hl
      subst hH
      unfold BX at hl
      split at hl
      ·unfold Gi at hl
       split at hl
       ·exact (FE h (fun l hl => h.cells hl) hl).2
       ·exact (FE h (fun l hl c hcl => V.lt_mono (Nat.zero_le _) (hG _ _ hl c hcl)) hl).2
       ·cases hl
      ·cases hl
     ·cases hv
    ·cases hv
   ·exact Ix hG h he hv
theorem Qo {n : Nat} {vs : List V} (h : ∀ x ∈ vs, V.lt n x) : V.lt n (oneV vs) := by
 unfold oneV
 split
 ·exact h _ (by simp)
 ·simp only [V.lt, V.lts]
 ·simp only [V.lt]; exact Bq.2 h
theorem Mw {m : Mode} {H H' H'' : LH} {vs : Option (List V)} {v : V} (h0 : HB H) (h : HB H') (hv : ∀ l, vs = some l → ∀ x ∈ l, V.lt H'.length x) (e : EZ m H H' vs = some (v, H'')) : Good H'' v := by
 unfold EZ at e
 split at e
 ·split at e
  ·obtain ⟨hn, e⟩ := A6 e; injection e with e; injection e with e1 e2; subst e1; subst e2; exact ⟨h0, JL hn⟩
  ·injection e with e; injection e with e1 e2; subst e1; subst e2; exact ⟨h, Qo (hv _ rfl)⟩
  ·injection e with e; injection e with e1 e2; subst e1; subst e2; exact ⟨h, Qo (hv _ rfl)⟩
 ·cases e
theorem KF {call : AM} {loop : AZ} (hl : FV call) (hg : Cn call) (hll : J0 loop) (hlg : FX loop) (hG : GloL C.glob) {K args fl H v H'} (e : Ar P C ok call loop K args fl H = some (v, H')) (hf : fl ≤ H.length) (h : HB H) (ha : ∀ x ∈ args, V.lt H.length x) : Good H' v := by
 unfold Ar at e
 split at e
 ·split at e
  ·split at e
   ·unfold BV Ac at e
    split at e
    ·rename_i hx
     obtain ⟨k1, k2⟩ := Ga hl hg hll hlg hG (Ep _ hf).2 h (Em ha) hx
     exact Mw h k1 (fun l hl' x hx' => Ix hG k1 k2 (CQ hl' x hx')) e
    ·rename_i hx
     obtain ⟨k1, k2⟩ := Ga hl hg hll hlg hG (Ep _ hf).2 h (Em ha) hx
     exact Mw h k1 (fun l hl' x hx' => Ix hG k1 k2 (CQ hl' x hx')) e
    ·cases e
   ·obtain ⟨e1, k, s, _, _, e2⟩ := De e
    subst e1; subst e2
    exact ⟨h, by simp only [V.lt]⟩
  ·obtain ⟨e1, n, e2⟩ := Mk e
   subst e1; subst e2
   exact ⟨h, by simp only [V.lt]⟩
 ·cases e
theorem Ld {call : AM} {loop : AZ} (hl : FV call) (hg : Cn call) (hll : J0 loop) (hlg : FX loop) (hG : GloL C.glob) : J0 (AL P C call loop) := by
 intro kp fl c e H x e' H' h hf hb he
 unfold AL at h
 cases hx : exec (mk P C call loop kp fl) c e H with
 | none => rw [hx] at h; cases h
 | some y =>
   rw [hx] at h
   obtain ⟨y, e1, H1⟩ := y
   have k := Ga hl hg hll hlg hG hf hb he hx
   cases y
   ·exact hll _ _ _ _ _ _ _ _ h (Nat.le_trans hf (BJ hg hlg hf hx).len) k.1 k.2
   ·injection h with h; injection h with _ h; injection h with h1 h2; subst h1; subst h2; exact k
   ·injection h with h; injection h with _ h; injection h with h1 h2; subst h1; subst h2; exact k
theorem Gx (hG : GloL C.glob) : ∀ n, FV (runN P C ok n).1 ∧ J0 (runN P C ok n).2
 | 0 => ⟨fun _ _ _ _ _ _ h => (by cases h), fun _ _ _ _ _ _ _ _ h => (by cases h)⟩
 | n + 1 => ⟨fun _ _ _ _ _ _ h hf hb ha => KF (Gx hG n).1 (B0 n).1 (Gx hG n).2 (B0 n).2 hG h hf hb ha, Ld (Gx hG n).1 (B0 n).1 (Gx hG n).2 (B0 n).2 hG⟩
end
end Go.Proofs.YthlbglmfdjdagaaGreatDoor.Lg
