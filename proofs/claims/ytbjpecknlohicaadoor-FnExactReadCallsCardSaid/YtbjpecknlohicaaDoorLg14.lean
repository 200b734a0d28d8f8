/- The logical machine against the model: one operation of any kind. No condition. -/
import Derived.Test.YtbjpecknlohicaaDoorLg13
namespace Go.Proofs.YtbjpecknlohicaaDoor.Lg
set_option linter.unusedSimpArgs false
set_option linter.unusedVariables false
open Go.RowKit (Below)

section
variable {P : Program} {p : Par} {φ : Phi} {H : LH} {w : World}

/-- the temporaries: what is known of them -/
def TmpR (φ : Phi) (w : World) (keep : List Tmp) (env : Env) (loc : Loc) (a : Act) : Prop := ∀ t v, lookL keep env loc t = some v → VR φ w v (a.tmps.getD t undef)
theorem TmpR.mono {φ' : Phi} {w' : World} {keep env loc a} (h : TmpR φ w keep env loc a) (he : Ext φ w φ' w') : TmpR φ' w' keep env loc a := fun t v e => (h t v e).mono he

theorem evalO_ok {keep env loc a x v} (h : TmpR φ w keep env loc a) (e : evalO keep env loc x = some v) : VR φ w v (a.eval x) := by
  cases x with
  | tmp t => exact h t v e
  | const c => exact VR_ofValue e φ w
  | global g => injection e with e; subst e; simp only [VR]; rfl
  | func f => injection e with e; subst e; simp only [VR, VRs]; exact ⟨[], rfl, rfl⟩
theorem allV_ok {keep env loc a} (h : TmpR φ w keep env loc a) : ∀ {xs : List Operand} {vs : List V}, allV (evalL keep env loc xs) = some vs → VRs φ w vs (xs.map a.eval)
  | [], vs, e => by injection e with e; subst e; simp only [List.map_nil, VRs]
  | x :: xs, vs, e => by
    simp only [evalL] at e
    cases hx : evalO keep env loc x with
    | none => rw [hx] at e; cases e
    | some v =>
      rw [hx] at e
      simp only [allV] at e
      cases hxs : allV (evalL keep env loc xs) with
      | none => rw [hxs] at e; cases e
      | some l =>
        rw [hxs] at e; injection e with e; subst e
        simp only [List.map_cons, VRs]
        exact ⟨_, _, rfl, evalO_ok h hx, allV_ok h hxs⟩
theorem run_v {s : Sem Value} {u : Value} {w' : World} (h : s.run P w = .ok u w') : (do pure (Next.value (← s)) : Sem Next).run P w = .ok (.value u) w' := by
  simp only [Sem.run_bind, h, Result.andThen_ok, Sem.run_pure]
theorem run_u {s : Sem Unit} {w' : World} (h : s.run P w = .ok () w') : (do s; pure Next.skip : Sem Next).run P w = .ok .skip w' := by
  simp only [Sem.run_bind, h, Result.andThen_ok, Sem.run_pure]

/-- an operation gives a value, or none -/
def Gives (P : Program) (p : Par) (fl : Nat) (φ : Phi) (H : LH) (w : World) (v : V) (H' : LH) (r : Result Next) : Prop :=
  ∃ u w', Res p fl φ H w v H' u w' ∧ (r = .ok (.value u) w' ∨ (r = .ok .skip w' ∧ u = undef))
theorem Gives.val {fl : Nat} {v : V} {H' : LH} {s : Sem Value} {u : Value} {w' : World} (h : s.run P w = .ok u w') (r : Res p fl φ H w v H' u w') :
    Gives P p fl φ H w v H' ((do pure (Next.value (← s)) : Sem Next).run P w) := ⟨u, w', r, .inl (run_v h)⟩
theorem Gives.pure {fl : Nat} {v : V} {H' : LH} {s : Sem Value} {u : Value} (h : HR p φ H w) (e : withH H (some v) = some (v, H')) (hr : s.run P w = .ok u w) (hv : VR φ w v u) :
    Gives P p fl φ H w v H' ((do pure (Next.value (← s)) : Sem Next).run P w) := by
  injection e with e; injection e with _ e; subst e
  exact .val hr (.same h hv)
theorem withH_split {x : Option V} {v : V} {H' : LH} (e : withH H x = some (v, H')) : x = some v ∧ H' = H := withH_some e

theorem pickV_ok {fl : Nat} {c a b v : V} {uc ua ub : Value} {H' : LH} (h : HR p φ H w) (hc : VR φ w c uc) (ha : VR φ w a ua) (hb : VR φ w b ub) (e : pickV H c a b = some (v, H')) :
    Gives P p fl φ H w v H' ((do pure (Next.value (if ← asBool uc then ua else ub)) : Sem Next).run P w) := by
  unfold pickV at e
  split at e
  · injection e with e; injection e with e1 e2; subst e1; subst e2
    simp only [VR] at hc; subst hc
    exact ⟨_, w, .same h ha, .inl rfl⟩
  · injection e with e; injection e with e1 e2; subst e1; subst e2
    simp only [VR] at hc; subst hc
    exact ⟨_, w, .same h hb, .inl rfl⟩
  · cases e
theorem ptrOk_ok {fl : Nat} {x v : V} {ux : Value} {H' : LH} (h : HR p φ H w) (hx : VR φ w x ux) (e : ptrOk H x = some (v, H')) : ∃ a, ux = .pointer (some a) ∧ Res p fl φ H w v H' ux w := by
  obtain ⟨rfl, rfl⟩ := ptrOk_same e
  unfold ptrOk at e
  split at e
  · have hx0 := hx
    simp only [VR] at hx
    obtain ⟨q, d, hp, rfl⟩ := hx
    exact ⟨_, rfl, .same h hx0⟩
  · have hx0 := hx
    simp only [VR] at hx
    subst hx
    exact ⟨_, rfl, .same h hx0⟩
  · cases e
theorem extrV_ok {i : Nat} {x v : V} {ux : Value} (hx : VR φ w x ux) (e : extrV i x = some v) : ∃ u, (Instr.extract ux i).run P w = .ok u w ∧ VR φ w v u := by
  unfold extrV at e
  split at e
  · simp only [VR] at hx
    obtain ⟨us, rfl, hs⟩ := hx
    obtain ⟨u, hu, r⟩ := (VRs_iff.1 hs).2 _ _ e
    refine ⟨u, ?_, r⟩
    have : (⟨us⟩ : Array Value)[i]? = some u := by simpa using hu
    simp only [Instr.extract, this, Sem.run_pure]
  · cases e
theorem mapO_ok {fl : Nat} {t : TypeId} {v : V} {H' : LH} (h : HR p φ H w) (hR : p.R0 ≤ H.length) (nf : NoFloat φ H H') (e : mapO H (ty P t) = some (v, H')) :
    ∃ u w', (Instr.makeMap t none).run P w = .ok u w' ∧ Res p fl φ H w v H' u w' := by
  unfold mapO at e
  split at e
  · injection e with e; injection e with e1 e2; subst e1; subst e2
    have hx : BlkR (p.R0 ≤ H.length) (φ.put H.length w.heap.size 0) { w with heap := w.heap.push (.map #[] 0) } w.heap.size 0 (.map []) :=
      ⟨#[], 0, alloc_new _ _, by simp only [EsR]⟩
    refine ⟨_, _, rfl, _, ?_, new_HR h nf.new hR hx, new_Step h nf.new⟩
    simp only [VR]
    exact ⟨_, _, put_self _ _ _ _, rfl⟩
  · cases e
theorem zeroO_ok {fl : Nat} {t : TypeId} {v : V} {H' : LH} (h : HR p φ H w) (hR : p.R0 ≤ H.length) (nf : NoFloat φ H H') (e : zeroO H (ty P t) = some (v, H')) :
    ∃ u w', (Instr.alloc t true (.tuple #[])).run P w = .ok u w' ∧ Res p fl φ H w v H' u w' := by
  unfold zeroO at e
  split at e
  · rename_i s b k z hi
    obtain ⟨uz, hz, hzr⟩ := ty_zero (z := z) hi rfl w
    obtain ⟨u, w', hr, r⟩ := ptrV_ok (P := P) (fl := fl) (t := t) h hR nf (hzr φ w) e
    refine ⟨u, w', ?_, r⟩
    simp only [Instr.alloc, Sem.run_bind, hz, Result.andThen_ok]
    exact hr
  · cases e

theorem lenV_ok {fl : Nat} {t ty' : TypeId} {x v : V} {ux : Value} {H' : LH} (h : HR p φ H w) (hx : VR φ w x ux) (hk : lenOk (ty P) t x = true) (e : numO H (lenV H x) = some (v, H')) {ts : List TypeId} {us : List Value} :
    ∃ u, (Builtin.len_ (t :: ts).toArray ty' (ux :: us).toArray).run P w = .ok u w ∧ Res p fl φ H w v H' u w := by
  unfold numO at e
  split at e
  · rename_i n hn
    injection e with e; injection e with e1 e2; subst e1; subst e2
    refine ⟨.int .i64 n, ?_, .same h (by simp only [VR])⟩
    unfold lenOk at hk
    split at hk
    · split at hk
      · rename_i hi
        simp only [lenV] at hn; injection hn with hn; subst hn
        simp only [VR] at hx; subst hx
        simp [Builtin.len_, run_underlying (str_some hi), goInt]
      · cases hk
    · split at hk
      · rename_i hi
        simp only [lenV] at hn; injection hn with hn; subst hn
        simp only [VR] at hx
        obtain ⟨_, q, d, off, c', _, rfl, _⟩ := hx
        simp [Builtin.len_, run_underlying (slice_some hi), goInt]
      · cases hk
    · split at hk
      · rename_i hi
        simp only [lenV] at hn; injection hn with hn; subst hn
        simp only [VR] at hx; subst hx
        simp [Builtin.len_, run_underlying (slice_some hi), goInt]
      · cases hk
    · split at hk
      · rename_i hi
        simp only [lenV] at hn; injection hn with hn; subst hn
        simp only [VR] at hx; obtain ⟨a, rfl⟩ := hx
        simp [Builtin.len_, run_underlying (slice_some hi), goInt]
      · cases hk
    · split at hk
      · rename_i b _ _ _ _ _ hi
        simp only [lenV] at hn
        split at hn
        · rename_i es hes
          injection hn with hn; subst hn
          simp only [VR] at hx
          obtain ⟨q, d, hp, rfl⟩ := hx
          obtain ⟨us', clk, hq, hE⟩ := h.map hp hes
          have hg : (getObj q).run P w = .ok (.map us' clk) w := by simp only [getObj, Sem.run, hq]
          have hl : es.length = us'.size := by rw [EsR_len hE]; simp
          simp [Builtin.len_, run_underlying (map_some hi), goInt, hg, hl]
        · cases hn
      · cases hk
    · split at hk
      · rename_i hi
        simp only [lenV] at hn; injection hn with hn; subst hn
        simp only [VR] at hx; subst hx
        simp [Builtin.len_, run_underlying (map_some hi), goInt]
      · cases hk
    · cases hk
  · cases e

theorem minV_ok {t : TypeId} {ts : Array TypeId} {x y v : V} {ux uy : Value} (h1 : VR φ w x ux) (h2 : VR φ w y uy) (e : minV x y = some v) : ∃ u, (Builtin.min_ ts t #[ux, uy]).run P w = .ok u w ∧ VR φ w v u := by
  unfold minV at e
  split at e
  · rename_i k m k' m'
    obtain ⟨hkk, e2⟩ := grd_some e
    injection e2 with e2
    subst e2
    subst hkk
    simp only [VR] at h1 h2
    refine ⟨.int k (if m' < m then m' else m), ?_, by simp only [VR]⟩
    simp [Builtin.min_, h1, h2, Builtin.min2]
  · cases e
theorem maxV_ok {t : TypeId} {ts : Array TypeId} {x y v : V} {ux uy : Value} (h1 : VR φ w x ux) (h2 : VR φ w y uy) (e : maxV x y = some v) : ∃ u, (Builtin.max_ ts t #[ux, uy]).run P w = .ok u w ∧ VR φ w v u := by
  unfold maxV at e
  split at e
  · rename_i k m k' m'
    obtain ⟨hkk, e2⟩ := grd_some e
    injection e2 with e2
    subst e2
    subst hkk
    simp only [VR] at h1 h2
    refine ⟨.int k (if m < m' then m' else m), ?_, by simp only [VR]⟩
    simp [Builtin.max_, h1, h2, Builtin.max2]
  · cases e
theorem doBi_ok {fl : Nat} {b : Builtin} {ts : List TypeId} {ops : List Operand} {keep env loc a} {v : V} {H' : LH} {t : TypeId} {cs : Array Bool} (h : HR p φ H w) (hT : TmpR φ w keep env loc a) (hR : p.R0 ≤ fl) (hfl : fl ≤ H.length) (nf : NoFloat φ H H')
    (e : doBi (ty P) fl H b ts (evalL keep env loc ops) = some (v, H')) : Gives P p fl φ H w v H' ((builtin b ts.toArray t cs (ops.map a.eval).toArray).run P w) := by
  unfold doBi at e
  split at e
  · rename_i t0 ts0 x heq
    obtain ⟨hk, e⟩ := grd_some e
    match ops, heq with
    | [o], heq =>
      simp only [evalL, List.cons.injEq, and_true] at heq
      obtain ⟨u, hu, r⟩ := lenV_ok (P := P) (fl := fl) (ty' := t) (ts := ts0) (us := []) h (evalO_ok hT heq) hk e
      exact .val hu r
    | [], heq => simp [evalL] at heq
    | _ :: _ :: _, heq => simp [evalL] at heq
  · rename_i x y heq
    obtain ⟨e1, e2⟩ := withH_split e
    subst e2
    match ops, heq with
    | [o1, o2], heq =>
      simp only [evalL, List.cons.injEq, and_true] at heq
      have h1 := evalO_ok hT heq.1
      have h2 := evalO_ok hT heq.2
      obtain ⟨u, hu, r⟩ := minV_ok (P := P) (w := w) (t := t) (ts := (List.toArray _)) h1 h2 e1
      exact .val hu (.same h r)
    | [], heq => simp [evalL] at heq
    | [_], heq => simp [evalL] at heq
    | _ :: _ :: _ :: _, heq => simp [evalL] at heq
  · rename_i x y heq
    obtain ⟨e1, e2⟩ := withH_split e
    subst e2
    match ops, heq with
    | [o1, o2], heq =>
      simp only [evalL, List.cons.injEq, and_true] at heq
      have h1 := evalO_ok hT heq.1
      have h2 := evalO_ok hT heq.2
      obtain ⟨u, hu, r⟩ := maxV_ok (P := P) (w := w) (t := t) (ts := (List.toArray _)) h1 h2 e1
      exact .val hu (.same h r)
    | [], heq => simp [evalL] at heq
    | [_], heq => simp [evalL] at heq
    | _ :: _ :: _ :: _, heq => simp [evalL] at heq
  · rename_i t0 t1 ts0 s x heq
    match ops, heq with
    | [o1, o2], heq =>
      simp only [evalL, List.cons.injEq, and_true] at heq
      have h1 := evalO_ok hT heq.1
      have h2 := evalO_ok hT heq.2
      obtain ⟨u, w', hu, r⟩ := appV_ok (P := P) (ty' := t) h hR hfl nf h1 h2 e
      refine .val ?_ r
      have : (Builtin.append_ (t0 :: t1 :: ts0).toArray t (List.map a.eval [o1, o2]).toArray).run P w = (Builtin.append_ #[t0, t1] t #[a.eval o1, a.eval o2]).run P w := rfl
      rw [this]
      exact hu
    | [], heq => simp [evalL] at heq
    | [_], heq => simp [evalL] at heq
    | _ :: _ :: _ :: _, heq => simp [evalL] at heq
  · cases e
end

end Go.Proofs.YtbjpecknlohicaaDoor.Lg
