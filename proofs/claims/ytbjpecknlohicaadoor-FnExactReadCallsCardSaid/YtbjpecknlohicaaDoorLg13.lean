/- The logical machine against the model: maps and the small operations, and one operation of any kind. No condition. -/
import Derived.Test.YtbjpecknlohicaaDoorLg12
namespace Go.Proofs.YtbjpecknlohicaaDoor.Lg
set_option linter.unusedSimpArgs false
set_option linter.unusedVariables false
open Go.RowKit (Below)

section
variable {P : Program} {p : Par} {φ : Phi} {H : LH} {w : World}

/-! ### maps -/
theorem keyOk_ok {kt : TypeId} {k : V} {uk : Value} (h : keyOk (ty P) kt k = true) (hk : VR φ w k uk) :
    (∃ s t, k = .str s ∧ uk = .string s ∧ P.underlying kt = some .string ∧ t = ()) ∨ (∃ q n j, k = .int q n ∧ uk = .int q n ∧ P.underlying kt = some (.int j)) := by
  unfold keyOk at h
  split at h
  · split at h
    · rename_i hi; simp only [VR] at hk; exact .inl ⟨_, (), rfl, hk, str_some hi, rfl⟩
    · cases h
  · split at h
    · rename_i hi; simp only [VR] at hk; exact .inr ⟨_, _, _, rfl, hk, int_some hi⟩
    · cases h
  · cases h
theorem checkKey_succ {kt : TypeId} {k : V} {uk : Value} (h : keyOk (ty P) kt k = true) (hk : VR φ w k uk) (b : Bool) (n : Nat) : (Instr.checkKey b (n + 1) kt uk).run P w = .ok () w := by
  rcases keyOk_ok h hk with ⟨s, _, rfl, rfl, hu, _⟩ | ⟨q, m, j, rfl, rfl, hu⟩ <;> simp only [Instr.checkKey, Sem.run_bind, run_underlying hu, Result.andThen_ok, Sem.run_pure]
theorem checkKey_ok {kt : TypeId} {k : V} {uk : Value} (h : keyOk (ty P) kt k = true) (hk : VR φ w k uk) (b : Bool) : (Instr.checkKey b 10000 kt uk).run P w = .ok () w := checkKey_succ h hk b 9999
theorem beq_str (a b : ByteArray) : (a == b) = decide (a = b) := by rw [beq_toListBytes, str_eq]
theorem findM_ok {kt : TypeId} {k : V} {uk : Value} (h : keyOk (ty P) kt k = true) (hk : VR φ w k uk) : ∀ {es : List (V × V)} {us : List MapEntry} {i : Nat} {r : Option (Nat × V)}, EsR φ w es us → findM k es i = some r →
    ∃ d, P.underlying kt = some d ∧ ∃ r', Instr.findNow d uk us i = some r' ∧ ((r = none ∧ r' = none) ∨ ∃ j v u, r = some (j, v) ∧ r' = some (j, u) ∧ VR φ w v u ∧ i ≤ j ∧ j < i + es.length ∧ ∃ m, us[j - i]? = some m ∧ VR φ w k m.key)
  | [], us, i, r, he, e => by
    simp only [EsR] at he; subst he
    injection e with e; subst e
    rcases keyOk_ok h hk with ⟨s, _, rfl, rfl, hu, _⟩ | ⟨q, n, j, rfl, rfl, hu⟩
    · exact ⟨_, hu, none, rfl, .inl ⟨rfl, rfl⟩⟩
    · exact ⟨_, hu, none, rfl, .inl ⟨rfl, rfl⟩⟩
  | (k', v) :: es, us, i, r, he, e => by
    obtain ⟨m, us', rfl, hmk, hmv, hes⟩ := he
    unfold findM at e
    split at e
    · rename_i hq
      injection e with e; subst e
      rcases keyOk_ok h hk with ⟨s, _, rfl, rfl, hu, _⟩ | ⟨q, n, j, rfl, rfl, hu⟩
      · cases k' <;> simp only [eqS] at hq <;> first | (cases hq; done) | skip
        injection hq with hq
        have hq := of_decide_eq_true hq
        subst hq
        simp only [VR] at hmk
        refine ⟨_, hu, some (i, m.val), ?_, .inr ⟨i, v, m.val, rfl, rfl, hmv, Nat.le_refl _, by simp, m, by simp, by simp only [VR]; exact hmk⟩⟩
        simp only [Instr.findNow, Instr.sameNow, hmk, beq_str, decide_true]
      · cases k' <;> simp only [eqS] at hq <;> first | (cases hq; done) | skip
        obtain ⟨hkk, hq1⟩ := grd_some hq
        injection hq1 with hq1
        have hq2 := of_decide_eq_true hq1
        subst hq2; subst hkk
        simp only [VR] at hmk
        refine ⟨_, hu, some (i, m.val), ?_, .inr ⟨i, v, m.val, rfl, rfl, hmv, Nat.le_refl _, by simp, m, by simp, by simp only [VR]; exact hmk⟩⟩
        simp only [Instr.findNow, Instr.sameNow, hmk, if_true, beq_self_eq_true]
    · rename_i hq
      obtain ⟨d, hu, r', hr', ih⟩ := findM_ok h hk hes e
      refine ⟨d, hu, r', ?_, ?_⟩
      · rcases keyOk_ok h hk with ⟨s, _, rfl, rfl, hu', _⟩ | ⟨q, n, j, rfl, rfl, hu'⟩
        · rw [hu] at hu'; injection hu' with hu'; subst hu'
          cases k' <;> simp only [eqS] at hq <;> first | (cases hq; done) | skip
          injection hq with hq
          simp only [VR] at hmk
          simp only [Instr.findNow, Instr.sameNow, hmk, beq_str, hq]
          exact hr'
        · rw [hu] at hu'; injection hu' with hu'; subst hu'
          cases k' <;> simp only [eqS] at hq <;> first | (cases hq; done) | skip
          obtain ⟨hkk, hq1⟩ := grd_some hq
          injection hq1 with hq1
          subst hkk
          simp only [VR] at hmk
          have hne : ∀ {a b : Int}, decide (a = b) = false → (a == b) = false := fun h => h
          simp only [Instr.findNow, Instr.sameNow, hmk, if_true, hne hq1]
          exact hr'
      · rcases ih with ⟨rfl, rfl⟩ | ⟨j, v', u, rfl, rfl, hv, h1, h2, m', h3, h4⟩
        · exact .inl ⟨rfl, rfl⟩
        · refine .inr ⟨j, v', u, rfl, rfl, hv, by omega, by simp; omega, m', ?_, h4⟩
          rw [show j - i = (j - (i + 1)) + 1 by omega, List.getElem?_cons_succ]
          exact h3
    · cases e

theorem lookV_ok {fl : Nat} {t : TypeId} {ok : Bool} {m k v : V} {um uk : Value} {H' : LH} (h : HR p φ H w) (hm : VR φ w m um) (hk : VR φ w k uk) (e : lookV (ty P) t ok H m k = some (v, H')) :
    ∃ u, (Instr.lookup t um uk ok).run P w = .ok u w ∧ Res p fl φ H w v H' u w := by
  unfold lookV at e
  split at e
  · rename_i s b kt et z' hi
    split at e
    · rename_i s2 b2 k2 z hT
      obtain ⟨hkey, e⟩ := grd_some e
      obtain ⟨uz, hz, hzr⟩ := ty_zero (z := z) hT rfl w
      -- the entries
      obtain ⟨us, es, hes, hE, hrun⟩ : ∃ us es, mapE H m = some es ∧ EsR φ w es us ∧ ∀ r', (∃ d, P.underlying kt = some d ∧ Instr.findNow d uk us 0 = some r') →
          (Instr.lookup t um uk ok).run P w = .ok (if ok then .tuple #[(match r' with | some (_, v) => v | none => uz), .bool r'.isSome] else (match r' with | some (_, v) => v | none => uz)) w := by
        have fin : ∀ (us : Array MapEntry) r', (∃ d, P.underlying kt = some d ∧ Instr.findNow d uk us.toList 0 = some r') →
            (do Instr.checkKey us.isEmpty 10000 kt uk
                let (v, ok') ← match ← Instr.findKey kt uk us.toList with
                  | some (_, v) => pure (v, true)
                  | none => pure (← zeroValue et, false)
                pure (if ok then .tuple #[v, .bool ok'] else v) : Sem Value).run P w =
              .ok (if ok then .tuple #[(match r' with | some (_, v) => v | none => uz), .bool r'.isSome] else (match r' with | some (_, v) => v | none => uz)) w := by
          rintro us r' ⟨d, hd, hr⟩
          have hfk : (Instr.findKey kt uk us.toList).run P w = .ok r' w := by
            simp only [Instr.findKey, Sem.run_bind, run_underlying hd, Result.andThen_ok, hr, Sem.run_pure]
          simp only [Sem.run_bind, checkKey_ok hkey hk, Result.andThen_ok, hfk]
          cases r' with
          | none => simp [hz]
          | some x => simp
        unfold mapE
        cases m with
        | map b =>
          simp only [VR] at hm
          obtain ⟨q, d, hp, rfl⟩ := hm
          cases hb : H.mapAt b with
          | none => simp only [mapE, hb, entO] at e; cases e
          | some es =>
            obtain ⟨us, clk, hq, hE⟩ := h.map hp hb
            refine ⟨us.toList, es, hb, hE, fun r' hr => ?_⟩
            have hg : (getObj q).run P w = .ok (.map us clk) w := by simp only [getObj, Sem.run, hq]
            unfold Instr.lookup
            simp only [Sem.run_bind, run_underlying (map_some hi), Result.andThen_ok, hg, Sem.run_pure]
            have := fin us r' hr
            simp only [Sem.run_bind] at this
            exact this
        | nilmap =>
          simp only [VR] at hm
          subst hm
          refine ⟨[], [], rfl, by simp only [EsR], fun r' hr => ?_⟩
          unfold Instr.lookup
          simp only [Sem.run_bind, run_underlying (map_some hi), Result.andThen_ok, Sem.run_pure]
          have := fin #[] r' hr
          simp only [Sem.run_bind] at this
          exact this
        | _ => simp only [mapE, entO] at e; cases e
      rw [hes] at e
      simp only [entO] at e
      cases hf : findM k es 0 with
      | none => rw [hf] at e; cases e
      | some r =>
        rw [hf] at e
        obtain ⟨d, hu, r', hr', hrel⟩ := findM_ok hkey hk hE hf
        have hrun := hrun r' ⟨d, hu, hr'⟩
        rcases hrel with ⟨rfl, rfl⟩ | ⟨j, v', u, rfl, rfl, hv, _⟩
        · cases ok with
          | true =>
            simp only [lookO] at e
            injection e with e; injection e with e1 e2; subst e1; subst e2
            exact ⟨_, hrun, .same h (by simp only [VR, VRs]; exact ⟨_, rfl, _, _, rfl, hzr φ w, _, _, rfl, rfl, rfl⟩)⟩
          | false =>
            simp only [lookO] at e
            injection e with e; injection e with e1 e2; subst e1; subst e2
            exact ⟨_, hrun, .same h (hzr φ w)⟩
        · cases ok with
          | true =>
            simp only [lookO] at e
            injection e with e; injection e with e1 e2; subst e1; subst e2
            exact ⟨_, hrun, .same h (by simp only [VR, VRs]; exact ⟨_, rfl, _, _, rfl, hv, _, _, rfl, rfl, rfl⟩)⟩
          | false =>
            simp only [lookO] at e
            injection e with e; injection e with e1 e2; subst e1; subst e2
            exact ⟨_, hrun, .same h hv⟩
    · cases e
  · cases e

theorem EsR_set : ∀ {es : List (V × V)} {us : List MapEntry} {j : Nat} {k v : V} {m : MapEntry}, EsR φ w es us → VR φ w k m.key → VR φ w v m.val → EsR φ w (es.set j (k, v)) (us.set j m)
  | [], us, j, k, v, m, h, _, _ => by simp only [EsR] at h; subst h; simp [EsR]
  | (k', v') :: es, us, j, k, v, m, h, hk, hv => by
    obtain ⟨m', us', rfl, h1, h2, h3⟩ := h
    cases j with
    | zero => exact ⟨m, us', rfl, hk, hv, h3⟩
    | succ j => exact ⟨m', us'.set j m, rfl, h1, h2, EsR_set h3 hk hv⟩
theorem EsR_snoc : ∀ {es : List (V × V)} {us : List MapEntry} {k v : V} {m : MapEntry}, EsR φ w es us → VR φ w k m.key → VR φ w v m.val → EsR φ w (es ++ [(k, v)]) (us ++ [m])
  | [], us, k, v, m, h, hk, hv => by simp only [EsR] at h; subst h; exact ⟨m, [], rfl, hk, hv, rfl⟩
  | (k', v') :: es, us, k, v, m, h, hk, hv => by
    obtain ⟨m', us', rfl, h1, h2, h3⟩ := h
    exact ⟨m', us' ++ [m], rfl, h1, h2, EsR_snoc h3 hk hv⟩
theorem EsR_len : ∀ {es : List (V × V)} {us : List MapEntry}, EsR φ w es us → es.length = us.length
  | [], _, h => by simp only [EsR] at h; subst h; rfl
  | (_, _) :: es, _, ⟨_, us', h, _, _, k⟩ => by subst h; simp [EsR_len k]

theorem updV_ok {fl : Nat} {t : TypeId} {m k x v : V} {um uk ux : Value} {H' : LH} (h : HR p φ H w) (hR : p.R0 ≤ fl) (hm : VR φ w m um) (hk : VR φ w k uk) (hx : VR φ w x ux) (e : updV (ty P) t fl H k x m = some (v, H')) :
    ∃ w', (Instr.mapUpdate t um uk ux).run P w = .ok () w' ∧ Res p fl φ H w v H' undef w' := by
  unfold updV at e
  split at e
  · rename_i b
    split at e
    · rename_i s by' kt et z' hi
      obtain ⟨⟨hkey, hfl⟩, e⟩ := grd_some e
      simp only [VR] at hm
      obtain ⟨q, d, hp, rfl⟩ := hm
      unfold updO at e
      split at e
      · rename_i es hes
        obtain ⟨us, clk, hq, hE⟩ := h.map hp hes
        have hg : (getObj q).run P w = .ok (.map us clk) w := by simp only [getObj, Sem.run, hq]
        have hset : ∀ o, (setObj q o).run P w = .ok () { w with heap := w.heap.setIfInBounds q o } := by intro o; simp only [setObj, Sem.run, hq]
        have hund : ∀ φ w, VR φ w und undef := fun φ w => by simp only [VR, VRs]; exact ⟨[], rfl, rfl⟩
        split at e
        · rename_i j v0 hf
          injection e with e; injection e with e1 e2; subst e1; subst e2
          obtain ⟨dd, hu, r', hr', hrel⟩ := findM_ok hkey hk hE hf
          rcases hrel with ⟨h0, _⟩ | ⟨j', v', u, h0, rfl, hv, _, hjl, me, hme, hmk⟩
          · cases h0
          · injection h0 with h0; injection h0 with h1 h2; subst h1; subst h2
            simp only [Nat.sub_zero] at hme
            have hkey' : (Instr.keyThatStays me.key uk).run P w = .ok uk w := by
              have hsame : Instr.sameBits 10000 me.key uk = true := by
                rcases keyOk_ok hkey hk with ⟨s, _, rfl, rfl, _, _⟩ | ⟨q', n, j, rfl, rfl, _⟩
                · simp only [VR] at hmk; rw [hmk]; simp [Instr.sameBits, beq_str]
                · simp only [VR] at hmk; rw [hmk]; simp [Instr.sameBits]
              simp only [Instr.keyThatStays, hsame, if_true, Sem.run_pure]
            have hme' : us[j]? = some me := by simpa using hme
            have hrun : (Instr.mapUpdate t (.map (some q)) uk ux).run P w = .ok () { w with heap := w.heap.setIfInBounds q (.map (us.modify j fun e => { e with key := uk, val := ux }) clk) } := by
              unfold Instr.mapUpdate
              simp only [Sem.run_bind, run_underlying (map_some hi), Result.andThen_ok, hg, checkKey_ok hkey hk, Instr.findKey, run_underlying hu, hr', Sem.run_pure, hme', Option.map_some, Option.getD_some, hkey', hset]
            have hmod : (us.modify j fun e => { e with key := uk, val := ux }).toList = us.toList.set j { me with key := uk, val := ux } := by
              apply List.ext_getElem?
              intro i
              rw [Array.getElem?_toList, Array.getElem?_modify, List.getElem?_set]
              by_cases hij : j = i
              · subst hij
                have hjs : j < us.size := (Array.getElem?_eq_some_iff.1 hme').1
                rw [if_pos rfl, if_pos rfl, if_pos (by simpa using hjs), hme']
                rfl
              · rw [if_neg hij, if_neg hij]; simp
            obtain ⟨r1, r2⟩ := set_HR h (x := .map (es.set j (k, x))) (o' := .map (us.modify j fun e => { e with key := uk, val := ux }) clk) hp hfl hR (mapAt_some hes) (by simp) hq (fun c T fz h => by cases h) (fun w' hw' he => by
              refine ⟨_, clk, by rw [hw', if_pos rfl], ?_⟩
              rw [hmod]
              exact EsR_set (hE.mono he) (hk.mono he) (hx.mono he))
            exact ⟨_, hrun, φ, hund _ _, r1, r2⟩
        · rename_i hf
          injection e with e; injection e with e1 e2; subst e1; subst e2
          obtain ⟨dd, hu, r', hr', hrel⟩ := findM_ok hkey hk hE hf
          rcases hrel with ⟨_, rfl⟩ | ⟨j', v', u, h0, _⟩
          · have hrun : (Instr.mapUpdate t (.map (some q)) uk ux).run P w = .ok () { w with heap := w.heap.setIfInBounds q (.map (us.push { key := uk, val := ux, born := clk }) (clk + 1)) } := by
              unfold Instr.mapUpdate
              simp only [Sem.run_bind, run_underlying (map_some hi), Result.andThen_ok, hg, checkKey_ok hkey hk, Instr.findKey, run_underlying hu, hr', Sem.run_pure, hset]
            obtain ⟨r1, r2⟩ := set_HR h (x := .map (es ++ [(k, x)])) (o' := .map (us.push { key := uk, val := ux, born := clk }) (clk + 1)) hp hfl hR (mapAt_some hes) (by simp) hq (fun c T fz h => by cases h) (fun w' hw' he => by
              refine ⟨_, clk + 1, by rw [hw', if_pos rfl], ?_⟩
              rw [Array.toList_push]
              exact EsR_snoc (m := { key := uk, val := ux, born := clk }) (hE.mono he) (hk.mono he) (hx.mono he))
            exact ⟨_, hrun, φ, hund _ _, r1, r2⟩
          · cases h0
        · cases e
      · cases e
    · cases e
  · cases e
end

end Go.Proofs.YtbjpecknlohicaaDoor.Lg
