/- The logical machine against the model: addresses, slices, conversions, rows, append, maps. No condition. -/
import Derived.Test.YtbjpecknlohicaaDoorLg7
import Derived.Laws.BytesString
import Derived.Laws.MakeOwn
import Derived.Laws.Append
namespace Go.Proofs.YtbjpecknlohicaaDoor.Lg
set_option linter.unusedSimpArgs false
set_option linter.unusedVariables false
open Go.RowKit (Below)

section
variable {P : Program} {p : Par} {φ : Phi} {H : LH} {w : World}

theorem sizeO_some {x : Option TI} {n : Nat} (h : sizeO x = some n) : ∃ i, x = some i ∧ i.size = n := by
  cases x with
  | none => cases h
  | some i => injection h with h; exact ⟨i, rfl, h⟩
theorem elemI_some {t : TypeId} {i : TI} (h : elemI (ty P) t = some i) : ∃ e, P.underlying t = some (.slice e) ∧ ty P e = some i := by
  unfold elemI at h
  split at h
  · rename_i s b e z hi
    obtain ⟨d, _, h2, h3⟩ := ty_under hi (default : World)
    have := tk_slice h2.symm; subst this
    exact ⟨e, h3, h⟩
  · cases h
theorem arr_some {t : TypeId} {s b n : Nat} {e : TypeId} {z : Option V} (h : ty P t = some ⟨s, b, .array n e, z⟩) : P.underlying t = some (.array n e) := by
  obtain ⟨d, _, h2, h3⟩ := ty_under h (default : World)
  have := tk_array h2.symm; subst this
  exact h3
theorem str_some {t : TypeId} {s b : Nat} {z : Option V} (h : ty P t = some ⟨s, b, .str, z⟩) : P.underlying t = some .string := by
  obtain ⟨d, _, h2, h3⟩ := ty_under h (default : World)
  have := tk_str h2.symm; subst this
  exact h3
theorem int_some {t : TypeId} {s b : Nat} {k : IntKind} {z : Option V} (h : ty P t = some ⟨s, b, .int k, z⟩) : P.underlying t = some (.int k) := by
  obtain ⟨d, _, h2, h3⟩ := ty_under h (default : World)
  have := tk_int h2.symm; subst this
  exact h3
theorem slice_some {t : TypeId} {s b : Nat} {e : TypeId} {z : Option V} (h : ty P t = some ⟨s, b, .slice e, z⟩) : P.underlying t = some (.slice e) := by
  obtain ⟨d, _, h2, h3⟩ := ty_under h (default : World)
  have := tk_slice h2.symm; subst this
  exact h3
theorem map_some {t : TypeId} {s b : Nat} {k e : TypeId} {z : Option V} (h : ty P t = some ⟨s, b, .map k e, z⟩) : P.underlying t = some (.map k e) := by
  obtain ⟨d, _, h2, h3⟩ := ty_under h (default : World)
  have := tk_map h2.symm; subst this
  exact h3
theorem struct_some {t : TypeId} {s b : Nat} {fs : List (Nat × TypeId)} {fl : Option (List Nat)} {z : Option V} (h : ty P t = some ⟨s, b, .struct fs fl, z⟩) :
    ∃ gs : Array Field, P.underlying t = some (.struct gs) ∧ fs = gs.toList.map (fun f => (f.offset, f.type)) := by
  obtain ⟨d, _, h2, h3⟩ := ty_under h (default : World)
  obtain ⟨gs, rfl, h4, _⟩ := tk_struct h2.symm
  exact ⟨gs, h3, h4⟩

/-! ### addresses -/
theorem fieldA_ok {t : TypeId} {f : Nat} {x v : V} {ux : Value} (hx : VR φ w x ux) (e : fieldA (ty P) t f x = some v) :
    ∃ u, (Instr.fieldAt t ux f).run P w = .ok u w ∧ VR φ w v u := by
  unfold fieldA at e
  split at e
  · rename_i s b fs fl z hi
    obtain ⟨gs, hu, rfl⟩ := struct_some hi
    unfold placeS at e
    cases hg : gs[f]? with
    | none => simp [hg] at e
    | some g =>
      have : (List.map (fun f : Field => (f.offset, f.type)) gs.toList)[f]? = some (g.offset, g.type) := by simp [hg]
      rw [this] at e
      dsimp only at e
      cases hT : ty P g.type with
      | none => rw [hT] at e; cases e
      | some i =>
        rw [hT] at e
        dsimp only at e
        obtain ⟨hn, e⟩ := grd_some e
        have hsz := ty_size hT w
        have hne : ¬ i.size = 0 := by omega
        unfold addO at e
        split at e
        · injection e with e; subst e
          simp only [VR] at hx ⊢
          obtain ⟨q, d, hp, rfl⟩ := hx
          refine ⟨_, ?_, q, d, hp, rfl⟩
          simp only [Instr.fieldAt, Sem.run_bind, run_underlying hu, Result.andThen_ok, hg, Instr.sureAddr, Sem.run_pure, fieldPlace, hsz, if_neg hne, addr_add, Nat.add_assoc]
        · injection e with e; subst e
          simp only [VR] at hx ⊢
          subst hx
          refine ⟨_, ?_, rfl⟩
          simp only [Instr.fieldAt, Sem.run_bind, run_underlying hu, Result.andThen_ok, hg, Instr.sureAddr, Sem.run_pure, fieldPlace, hsz, if_neg hne, addr_add]
        · cases e
  · cases e

theorem partV_ok {ft : TypeId} {cs : List V} {us : List Value} {off : Nat} {v : V} (hs : cs.all V.isScal = true) (hc : VRs φ w cs us) (e : partV cs off (ty P ft) = some v) :
    ∃ u, (part ft ⟨us⟩ off).run P w = .ok u w ∧ VR φ w v u := by
  unfold partV at e
  split at e
  · rename_i i hi
    have hg := ty_agg hi w
    obtain ⟨hl, hci⟩ := VRs_iff.1 hc
    split at e
    · rename_i hk
      obtain ⟨hle, e⟩ := grd_some e
      injection e with e; subst e
      refine ⟨.agg ((⟨us⟩ : Array Value).extract off (off + i.size)), ?_, ?_⟩
      · simp only [part, Sem.run_bind, hg, hk, Result.andThen_ok, if_true, ty_size hi, Sem.run_pure]
      · simp only [VR]
        refine ⟨?_, (us.drop off).take i.size, ?_, ?_⟩
        · rw [List.all_eq_true]
          intro x hx
          exact List.all_eq_true.1 hs x (List.mem_of_mem_drop (List.mem_of_mem_take hx))
        · congr 1; simp [List.extract]
        · refine VRs_iff.2 ⟨by simp [hl], fun j x hj => ?_⟩
          rw [List.getElem?_take] at hj ⊢
          split at hj
          · rename_i hjn
            rw [if_pos hjn]
            rw [List.getElem?_drop] at hj ⊢
            exact hci _ _ hj
          · cases hj
    · rename_i hk
      obtain ⟨u, hu, r⟩ := hci off v e
      exact ⟨u, part_ok (by rw [hg, hk]) hu, r⟩
  · cases e

theorem fieldV_ok {t : TypeId} {f : Nat} {x v : V} {ux : Value} (hx : VR φ w x ux) (e : fieldV (ty P) t f x = some v) :
    ∃ u, (Instr.field t ux f).run P w = .ok u w ∧ VR φ w v u := by
  unfold fieldV at e
  split at e
  · rename_i cs
    simp only [VR] at hx
    obtain ⟨hs, us, rfl, hc⟩ := hx
    split at e
    · rename_i s b fs fl z hi
      obtain ⟨gs, hu, rfl⟩ := struct_some hi
      cases hg : gs[f]? with
      | none => simp [hg] at e
      | some g =>
        have : (List.map (fun f : Field => (f.offset, f.type)) gs.toList)[f]? = some (g.offset, g.type) := by simp [hg]
        rw [this] at e
        obtain ⟨u, hu', r⟩ := partV_ok hs hc e
        refine ⟨u, ?_, r⟩
        simp only [Instr.field, Sem.run_bind, run_underlying hu, Result.andThen_ok, hg, asAgg, Sem.run_pure]
        exact hu'
    · cases e
  · cases e

theorem indexA_ok {t : TypeId} {x n v : V} {ux un : Value} (hx : VR φ w x ux) (hn : VR φ w n un) (e : indexA (ty P) t x n = some v) :
    ∃ u, (Instr.indexAt t ux un).run P w = .ok u w ∧ VR φ w v u := by
  have key : ∀ {b o len z : Nat} {m : Int} {q d : Nat} {e : TypeId}, P.underlying t = some (.array len e) → (sizeOf e).run P w = .ok z w → 0 ≤ m ∧ m < (len : Int) → ∀ {k : IntKind} (a : Addr),
      (Instr.indexAt t (.pointer (some a)) (.int k m)).run P w = .ok (.pointer (some (a.add (m.toNat * z)))) w := by
    intro b o len z m q d e hu hz hm k a
    simp only [Instr.indexAt, asIntOf, Sem.run_bind, Sem.run_pure, Result.andThen_ok, run_underlying hu, Instr.sureAddr, if_pos hm, hz]
  unfold indexA at e
  split at e
  · rename_i b o z len c k m
    obtain ⟨hz, e⟩ := grd_some e
    obtain ⟨hm, e⟩ := grd_some e
    injection e with e; subst e
    obtain ⟨i, hi, hz⟩ := sizeO_some hz
    obtain ⟨el, hu, hT⟩ := elemI_some hi
    simp only [VR] at hx hn ⊢
    subst hn
    obtain ⟨hnc, q, d, off, c', hp, rfl, hc, ho, _⟩ := hx
    have hoff : off = d + o := by rcases ho with h | h <;> omega
    subst hoff
    refine ⟨_, ?_, q, d, hp, rfl⟩
    simp only [Instr.indexAt, asIntOf, Sem.run_bind, Sem.run_pure, Result.andThen_ok, run_underlying hu, if_pos hm, ty_size hT, hz, addr_add, Nat.add_assoc]
  · rename_i b o k m
    simp only [VR] at hx hn
    subst hn
    obtain ⟨q, d, hp, rfl⟩ := hx
    split at e
    · rename_i s by' len el z hi
      unfold atO at e
      split at e
      · rename_i sz hsz
        obtain ⟨hm, e⟩ := grd_some e
        injection e with e; subst e
        obtain ⟨i, hT, rfl⟩ := sizeO_some hsz
        refine ⟨_, key (b := 0) (o := 0) (q := 0) (d := 0) (arr_some hi) (ty_size hT w) hm _, ?_⟩
        simp only [VR, addr_add, Nat.add_assoc]
        exact ⟨q, d, hp, rfl⟩
      · cases e
    · cases e
  · rename_i b o k m
    simp only [VR] at hx hn
    subst hn; subst hx
    split at e
    · rename_i s by' len el z hi
      unfold atO at e
      split at e
      · rename_i sz hsz
        obtain ⟨hm, e⟩ := grd_some e
        injection e with e; subst e
        obtain ⟨i, hT, rfl⟩ := sizeO_some hsz
        refine ⟨_, key (b := 0) (o := 0) (q := 0) (d := 0) (arr_some hi) (ty_size hT w) hm _, ?_⟩
        simp only [VR, addr_add]
      · cases e
    · cases e
  · cases e

theorem indexV_ok {t : TypeId} {x n v : V} {ux un : Value} (hx : VR φ w x ux) (hn : VR φ w n un) (e : indexV (ty P) t x n = some v) :
    ∃ u, (Instr.index t ux un).run P w = .ok u w ∧ VR φ w v u := by
  unfold indexV at e
  split at e
  · rename_i s k m
    simp only [VR] at hx hn
    subst hn; subst hx
    split at e
    · rename_i sz by' z hi
      obtain ⟨hm, e⟩ := grd_some e
      injection e with e; subst e
      have hlt : m.toNat < s.size := by omega
      refine ⟨.int .u8 (s[m.toNat]).toNat, ?_, ?_⟩
      · have : s[m.toNat]? = some s[m.toNat] := getElem?_pos s m.toNat hlt
        simp only [Instr.index, asIntOf, Sem.run_bind, Sem.run_pure, Result.andThen_ok, run_underlying (str_some hi), if_pos hm.1, this]
      · simp only [byteV, VR]
        congr 2
        have hl : m.toNat < s.data.toList.length := by simpa using hlt
        rw [List.getD_eq_getElem?_getD, List.getElem?_eq_getElem hl]
        simp only [Option.getD_some]
        congr 1
    · cases e
  · rename_i cs k m
    simp only [VR] at hx hn
    subst hn
    obtain ⟨hs, us, rfl, hc⟩ := hx
    split at e
    · rename_i sz by' len el z hi
      split at e
      · rename_i i hT
        obtain ⟨hm, e⟩ := grd_some e
        rw [← hT] at e
        obtain ⟨u, hu, r⟩ := partV_ok hs hc e
        refine ⟨u, ?_, r⟩
        simp only [Instr.index, asIntOf, Sem.run_bind, Sem.run_pure, Result.andThen_ok, run_underlying (arr_some hi), if_pos hm, ty_size hT]
        exact hu
      · cases e
    · cases e
  · cases e

/-! ### slices -/
theorem boundV_ok {x : V} {ux : Value} {y n : Nat} (hx : VR φ w x ux) (e : boundV x y = some n) : ∃ k i, ux = .int k i ∧ 0 ≤ i ∧ n = i.toNat ∧ n ≤ y := by
  unfold boundV at e
  split at e
  · obtain ⟨h, e⟩ := grd_some e
    injection e with e; subst e
    simp only [VR] at hx
    exact ⟨_, _, hx, h.1, rfl, by omega⟩
  · cases e
theorem run_bound {k : IntKind} {i : Int} {y : Nat} {code : BoundsCode} (h : 0 ≤ i ∧ i ≤ (y : Int)) : (Instr.sliceBound (.int k i) y code).run P w = .ok i.toNat w := by
  simp only [Instr.sliceBound, asIntOf, Sem.run_bind, Sem.run_pure, Result.andThen_ok, if_pos h]
/-- the bounds of a slice expression with or without either end -/
theorem bounds_ok {isS : Bool} {len cap' : Nat} {lo hi : Option V} {ulo uhi : Option Value} {c h l : Nat} (hlo : ∀ v, lo = some v → ∃ u, ulo = some u ∧ VR φ w v u) (hlo' : lo = none → ulo = none)
    (hhi : ∀ v, hi = some v → ∃ u, uhi = some u ∧ VR φ w v u) (hhi' : hi = none → uhi = none) (hc : c ≤ cap') (e1 : hiV len c hi = some h) (e2 : hiV 0 c lo = some l) (hlh : l ≤ h) :
    (Instr.sliceBounds isS len cap' ulo uhi none).run P w = .ok (l, h, cap') w := by
  have A : (uhi = none ∧ h = len) ∨ ∃ k i, uhi = some (.int k i) ∧ (0 ≤ i ∧ i ≤ (cap' : Int)) ∧ h = i.toNat := by
    cases hi with
    | none => injection e1 with e1; exact .inl ⟨hhi' rfl, e1.symm⟩
    | some v =>
      obtain ⟨u, hu, r⟩ := hhi v rfl
      obtain ⟨k, i, rfl, h0, h1, h2⟩ := boundV_ok r e1
      exact .inr ⟨k, i, hu, ⟨h0, by omega⟩, h1⟩
  have B : (ulo = none ∧ l = 0) ∨ ∃ k i, ulo = some (.int k i) ∧ (0 ≤ i ∧ i ≤ (h : Int)) ∧ l = i.toNat := by
    cases lo with
    | none => injection e2 with e2; exact .inl ⟨hlo' rfl, e2.symm⟩
    | some v =>
      obtain ⟨u, hu, r⟩ := hlo v rfl
      obtain ⟨k, i, rfl, h0, h1, h2⟩ := boundV_ok r e2
      exact .inr ⟨k, i, hu, ⟨h0, by omega⟩, h1⟩
  rcases A with ⟨rfl, rfl⟩ | ⟨k, i, rfl, hi', rfl⟩
  · rcases B with ⟨rfl, rfl⟩ | ⟨k, i, rfl, hi', rfl⟩
    · simp only [Instr.sliceBounds, Sem.run_bind, Sem.run_pure, Result.andThen_ok]
    · simp only [Instr.sliceBounds, Sem.run_bind, Sem.run_pure, Result.andThen_ok, run_bound hi']
  · rcases B with ⟨rfl, rfl⟩ | ⟨k', i', rfl, hi'', rfl⟩
    · simp only [Instr.sliceBounds, Sem.run_bind, Sem.run_pure, Result.andThen_ok, run_bound hi']
    · simp only [Instr.sliceBounds, Sem.run_bind, Sem.run_pure, Result.andThen_ok, run_bound hi', run_bound hi'']

theorem sliceV_ok {t : TypeId} {x v : V} {ux : Value} {lo hi : Option V} {ulo uhi : Option Value} (hlo : ∀ v, lo = some v → ∃ u, ulo = some u ∧ VR φ w v u) (hlo' : lo = none → ulo = none)
    (hhi : ∀ v, hi = some v → ∃ u, uhi = some u ∧ VR φ w v u) (hhi' : hi = none → uhi = none) (hx : VR φ w x ux) (hk : sliceOk (ty P) t x = true) (e : sliceV x lo hi = some v) :
    ∃ u, (Instr.sliceAt t ux ulo uhi none).run P w = .ok u w ∧ VR φ w v u := by
  unfold sliceV at e
  unfold sliceOk at hk
  split at e
  · rename_i s
    simp only [VR] at hx; subst hx
    dsimp only at hk
    split at hk
    · rename_i sz by' z hi'
      unfold cutS at e
      split at e
      · rename_i h l e1 e2
        obtain ⟨hlh, e⟩ := grd_some e
        injection e with e; subst e
        have hb := bounds_ok (P := P) (isS := false) hlo hlo' hhi hhi' (Nat.le_refl _) e1 e2 hlh
        refine ⟨.string (s.extract l h), ?_, by simp only [VR]⟩
        simp only [Instr.sliceAt, Instr.slice, Sem.run_bind, run_underlying (str_some hi'), Result.andThen_ok]
        simp only [Option.isSome_none, Bool.false_eq_true, if_false, Sem.run_bind, Sem.run_pure, Result.andThen_ok, hb]
      · cases e
    · cases hk
  · rename_i b o z n c
    dsimp only at hk
    have hk := beq_iff_eq.1 hk
    obtain ⟨i, hi', hz⟩ := sizeO_some hk
    obtain ⟨el, hu, hT⟩ := elemI_some hi'
    simp only [VR] at hx
    obtain ⟨hnc, q, d, off, c', hp, rfl, hc, ho, hr⟩ := hx
    unfold cutL at e
    split at e
    · rename_i h l e1 e2
      obtain ⟨hlh, e⟩ := grd_some e
      injection e with e; subst e
      have hb := bounds_ok (P := P) (isS := true) hlo hlo' hhi hhi' hc e1 e2 hlh
      have hhc : h ≤ c := by
        cases hi with
        | none => injection e1 with e1; omega
        | some v => obtain ⟨u, _, r⟩ := hhi v rfl; obtain ⟨_, _, _, _, _, h5⟩ := boundV_ok r e1; exact h5
      refine ⟨.slice (if c' = l then some ⟨q, off, none⟩ else some ⟨q, off + l * z, none⟩) (h - l) (c' - l), ?_, ?_⟩
      · simp only [Instr.sliceAt, Instr.slice, Sem.run_bind, run_underlying hu, Result.andThen_ok, hb, ty_size hT, hz, Sem.run_pure, Option.map_some, addr_add]
      · simp only [VR]
        refine ⟨by omega, q, d, if c' = l then off else off + l * z, c' - l, hp, ?_, by omega, ?_, ?_⟩
        · split <;> rfl
        · split
          · right; omega
          · left; rcases ho with ho | ho
            · omega
            · omega
        · obtain ⟨cc, T, fz, hq, hle⟩ := hr
          refine ⟨cc, T, fz, hq, ?_⟩
          split
          · rename_i hcl
            subst hcl
            simp only [Nat.sub_self, Nat.zero_mul]
            have := Nat.zero_le (c' * z)
            omega
          · have : l * z + (c' - l) * z = c' * z := by rw [← Nat.add_mul]; congr 1; omega
            omega
    · cases e
  · simp only [VR] at hx; subst hx
    dsimp only at hk
    obtain ⟨i, hi'⟩ := Option.isSome_iff_exists.1 hk
    obtain ⟨el, hu, hT⟩ := elemI_some hi'
    unfold cutN at e
    split at e
    · rename_i h l e1 e2
      injection e with e; subst e
      have hh : h = 0 := by
        cases hi with
        | none => injection e1 with e1; omega
        | some v => obtain ⟨u, _, r⟩ := hhi v rfl; obtain ⟨_, _, _, _, _, h5⟩ := boundV_ok r e1; omega
      have hl : l = 0 := by
        cases lo with
        | none => injection e2 with e2; omega
        | some v => obtain ⟨u, _, r⟩ := hlo v rfl; obtain ⟨_, _, _, _, _, h5⟩ := boundV_ok r e2; omega
      subst hh; subst hl
      have hb := bounds_ok (P := P) (isS := true) hlo hlo' hhi hhi' (Nat.le_refl _) e1 e2 (Nat.le_refl _)
      refine ⟨.slice none 0 0, ?_, by simp only [VR]⟩
      simp only [Instr.sliceAt, Instr.slice, Sem.run_bind, run_underlying hu, Result.andThen_ok, hb, ty_size hT, Sem.run_pure, if_true]
    · cases e
  · simp only [VR] at hx; obtain ⟨a, rfl⟩ := hx
    dsimp only at hk
    obtain ⟨i, hi'⟩ := Option.isSome_iff_exists.1 hk
    obtain ⟨el, hu, hT⟩ := elemI_some hi'
    unfold cutE at e
    split at e
    · rename_i h l e1 e2
      injection e with e; subst e
      have hh : h = 0 := by
        cases hi with
        | none => injection e1 with e1; omega
        | some v => obtain ⟨u, _, r⟩ := hhi v rfl; obtain ⟨_, _, _, _, _, h5⟩ := boundV_ok r e1; omega
      have hl : l = 0 := by
        cases lo with
        | none => injection e2 with e2; omega
        | some v => obtain ⟨u, _, r⟩ := hlo v rfl; obtain ⟨_, _, _, _, _, h5⟩ := boundV_ok r e2; omega
      subst hh; subst hl
      have hb := bounds_ok (P := P) (isS := true) hlo hlo' hhi hhi' (Nat.le_refl _) e1 e2 (Nat.le_refl _)
      refine ⟨.slice (some a) 0 0, ?_, by simp only [VR]; exact ⟨a, rfl⟩⟩
      simp only [Instr.sliceAt, Instr.slice, Sem.run_bind, run_underlying hu, Result.andThen_ok, hb, ty_size hT, Sem.run_pure, if_true, Option.map_some, Nat.sub_self]
    · cases e
  · cases e
end

end Go.Proofs.YtbjpecknlohicaaDoor.Lg
