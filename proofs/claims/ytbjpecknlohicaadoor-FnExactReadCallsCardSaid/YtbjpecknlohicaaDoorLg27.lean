/- The logical machine against the model: functions, and the whole. No condition. -/
import Derived.Test.YtbjpecknlohicaaDoorLg26
import Derived.Laws.Sem
namespace Go.Proofs.YtbjpecknlohicaaDoor.Lg
set_option linter.unusedSimpArgs false
set_option linter.unusedVariables false
open Go.RowKit (Below)

/-- the static rule for a function -/
def okF (P : Program) (C : Cfg) (K : FuncId) : Bool :=
  match P.funcs[K]? with
  | some fn => match fn.body with
    | some c => codeOk C.mode fn.ntmps c && fn.name != "runtime.NumGoroutine"
    | none => false
  | none => false

/-! ### a memory of which only a part is looked at -/
def Phi.cut (φ : Phi) (n : Nat) : Phi := fun b => if b < n then φ b else none
theorem cut_some {φ : Phi} {n b : Nat} {x : Nat × Nat} : φ.cut n b = some x ↔ b < n ∧ φ b = some x := by
  unfold Phi.cut
  split
  · rename_i h; exact ⟨fun e => ⟨h, e⟩, fun e => e.2⟩
  · rename_i h; exact ⟨fun e => (by cases e), fun e => absurd e.1 h⟩
mutual
theorem VR.cut {φ : Phi} {n : Nat} {w : World} : ∀ {v : V} {u : Value}, V.lt n v → VR φ w v u → VR (φ.cut n) w v u
  | .bool _, _, _, e => by simp only [VR] at e ⊢; exact e
  | .int _ _, _, _, e => by simp only [VR] at e ⊢; exact e
  | .str _, _, _, e => by simp only [VR] at e ⊢; exact e
  | .ptr _ _, _, h, e => by simp only [VR, V.lt] at h e ⊢; obtain ⟨q, d, hb, e⟩ := e; exact ⟨q, d, cut_some.2 ⟨h, hb⟩, e⟩
  | .gptr _ _, _, _, e => by simp only [VR] at e ⊢; exact e
  | .nilp, _, _, e => by simp only [VR] at e ⊢; exact e
  | .sl _ _ _ _ _, _, h, e => by
    simp only [VR, V.lt] at h e ⊢
    obtain ⟨hn, q, d, off, c', hb, e⟩ := e
    exact ⟨hn, q, d, off, c', cut_some.2 ⟨h, hb⟩, e⟩
  | .nilsl, _, _, e => by simp only [VR] at e ⊢; exact e
  | .emp, _, _, e => by simp only [VR] at e ⊢; exact e
  | .map _, _, h, e => by simp only [VR, V.lt] at h e ⊢; obtain ⟨q, d, hb, e⟩ := e; exact ⟨q, d, cut_some.2 ⟨h, hb⟩, e⟩
  | .nilmap, _, _, e => by simp only [VR] at e ⊢; exact e
  | .fn _ _, _, h, e => by simp only [VR, V.lt] at h e ⊢; obtain ⟨cs, e, k⟩ := e; exact ⟨cs, e, VRs.cut h k⟩
  | .nilfn, _, _, e => by simp only [VR] at e ⊢; exact e
  | .agg _, _, h, e => by simp only [VR, V.lt] at h e ⊢; obtain ⟨hs, us, e, k⟩ := e; exact ⟨hs, us, e, VRs.cut h k⟩
  | .tup _, _, h, e => by simp only [VR, V.lt] at h e ⊢; obtain ⟨us, e, k⟩ := e; exact ⟨us, e, VRs.cut h k⟩
theorem VRs.cut {φ : Phi} {n : Nat} {w : World} : ∀ {vs : List V} {us : List Value}, V.lts n vs → VRs φ w vs us → VRs (φ.cut n) w vs us
  | [], _, _, e => by simp only [VRs] at e ⊢; exact e
  | _ :: _, _, h, e => by
    simp only [VRs, V.lts] at h e ⊢
    obtain ⟨u, us', e, k, ks⟩ := e
    exact ⟨u, us', e, VR.cut h.1 k, VRs.cut h.2 ks⟩
end
mutual
theorem VR.free {φ φ' : Phi} {w w' : World} : ∀ {v : V} {u : Value}, v.noAddr = true → VR φ w v u → VR φ' w' v u
  | .bool _, _, _, e => by simp only [VR] at e ⊢; exact e
  | .int _ _, _, _, e => by simp only [VR] at e ⊢; exact e
  | .str _, _, _, e => by simp only [VR] at e ⊢; exact e
  | .ptr _ _, _, h, _ => by simp [V.noAddr] at h
  | .gptr _ _, _, _, e => by simp only [VR] at e ⊢; exact e
  | .nilp, _, _, e => by simp only [VR] at e ⊢; exact e
  | .sl _ _ _ _ _, _, h, _ => by simp [V.noAddr] at h
  | .nilsl, _, _, e => by simp only [VR] at e ⊢; exact e
  | .emp, _, _, e => by simp only [VR] at e ⊢; exact e
  | .map _, _, h, _ => by simp [V.noAddr] at h
  | .nilmap, _, _, e => by simp only [VR] at e ⊢; exact e
  | .fn _ _, _, h, _ => by simp [V.noAddr] at h
  | .nilfn, _, _, e => by simp only [VR] at e ⊢; exact e
  | .agg _, _, h, e => by simp only [VR, V.noAddr] at h e ⊢; obtain ⟨hs, us, e, k⟩ := e; exact ⟨hs, us, e, VRs.free h k⟩
  | .tup _, _, h, e => by simp only [VR, V.noAddr] at h e ⊢; obtain ⟨us, e, k⟩ := e; exact ⟨us, e, VRs.free h k⟩
theorem VRs.free {φ φ' : Phi} {w w' : World} : ∀ {vs : List V} {us : List Value}, V.noAddrs vs = true → VRs φ w vs us → VRs φ' w' vs us
  | [], _, _, e => by simp only [VRs] at e ⊢; exact e
  | _ :: _, _, h, e => by
    simp only [VRs, V.noAddrs, Bool.and_eq_true] at h e ⊢
    obtain ⟨u, us', e, k, ks⟩ := e
    exact ⟨u, us', e, VR.free h.1 k, VRs.free h.2 ks⟩
end
theorem EsR.cut {φ : Phi} {n : Nat} {w : World} : ∀ {es : List (V × V)} {us : List MapEntry}, (∀ e ∈ es, V.lt n e.1 ∧ V.lt n e.2) → EsR φ w es us → EsR (φ.cut n) w es us
  | [], _, _, e => e
  | (k, v) :: _, _, h, ⟨m, us', e, a, b, c⟩ => ⟨m, us', e, a.cut (h (k, v) (by simp)).1, b.cut (h (k, v) (by simp)).2, EsR.cut (fun e he => h e (by simp [he])) c⟩
theorem HR.cut {p : Par} {φ : Phi} {H : LH} {w : World} (h : HR p φ H w) (hb : HB H) : HR p (φ.cut H.length) H w := by
  refine ⟨fun b q d x e hx => ?_, fun b q d e => h.bnd b q d (cut_some.1 e).2, fun b b' q d d' e e' => h.inj b b' q d d' (cut_some.1 e).2 (cut_some.1 e').2, fun b q d e => h.low b q d (cut_some.1 e).2, h.q0, h.old, h.glo⟩
  have hlt := hb b x hx
  have := h.blk b q d x (cut_some.1 e).2 hx
  cases x with
  | cells cs =>
    obtain ⟨c, T, fz, h1, h2, h3, h4⟩ := this
    refine ⟨c, T, fz, h1, h2, fun i v hi => ?_, h4⟩
    obtain ⟨hs, u, hu, r⟩ := h3 i v hi
    exact ⟨hs, u, hu, r.cut (hlt v (List.mem_of_getElem? hi))⟩
  | map es =>
    obtain ⟨us, clk, h1, h2⟩ := this
    exact ⟨us, clk, h1, h2.cut hlt⟩
  | dead => trivial
theorem Step.mono {fl fl' : Nat} {φ φ' : Phi} {H H' : LH} {w w' : World} (h : Step fl' φ H w φ' H' w') (k : fl ≤ fl') : Step fl φ H w φ' H' w' :=
  ⟨h.ext, h.dom, fun b q d e n => (h.img b q d e n).imp id fun ⟨b0, d0, h1, h2, h3⟩ => ⟨b0, d0, Nat.le_trans k h1, h2, h3⟩,
    fun q hq hn => h.frm q hq fun b d h1 h2 => hn b d (Nat.le_trans k h1) h2, h.len, h.grow.mono k⟩

theorem Step.same {fl : Nat} {φ φ' : Phi} {H : LH} {w w' : World} (h : Step fl φ H w φ' H w') : φ' = φ := by
  funext b
  cases e : φ b with
  | some x => exact h.ext.ext b x e
  | none =>
    cases e' : φ' b with
    | none => rfl
    | some x => have := h.dom b x e' e; omega

/-! ### what is handed back -/
section
variable {P : Program} {C : Cfg} {p : Par} {φ : Phi} {H : LH} {w : World}
theorem enter_look {args : List V} {t : Tmp} {v : V} : ∀ {ks : List Tmp}, lookE ks (enterE ks args) t = some v → args[t]? = some v
  | [], h => by simp only [lookE] at h; cases h
  | k :: ks, h => by
    simp only [lookE, enterE] at h
    split at h
    · rename_i e; subst e; exact h
    · exact enter_look h
theorem enter_ok {args : List V} {us : List Value} {keep : List Tmp} {m : Nat} (h : VRs φ w args us) : TmpR φ w keep (enterE keep args) [] { tmps := ⟨us⟩ ++ Array.replicate m undef, defers := [] } := by
  intro t v e
  have ha := enter_look e
  obtain ⟨u, hu, hr⟩ := (VRs_iff.1 h).2 t v ha
  have ht : t < us.length := (List.getElem?_eq_some_iff.1 hu).1
  have : ((⟨us⟩ : Array Value) ++ Array.replicate m undef).getD t undef = u := by
    rw [Array.getD_eq_getD_getElem?, Array.getElem?_append_left (by simpa using ht)]
    simp [hu]
  rw [this]; exact hr

theorem res_ok {call : CallF} {loop : LoopF} {keep : List Tmp} {fl : Nat} {env : Env} {a : Act} (hG : p.G = C.glob) (h : HR p φ H w) (hT : TmpR φ w keep env [] a) : ∀ {rs : List ResultVar} {vs : List V}, allV (resV (mk P C call loop keep fl) env H rs) = some vs →
    ∃ us, (rs.mapM (m := Sem) fun | .tmp t => pure (a.tmps.getD t undef) | .cell c t => do loadVar t (← asAddr (a.tmps.getD c undef))).run P w = .ok us w ∧ VRs φ w vs us
  | [], vs, e => by injection e with e; subst e; exact ⟨[], by simp, by simp only [VRs]⟩
  | r :: rs, vs, e => by
    have key : ∀ (v : Option V), allV (v :: resV (mk P C call loop keep fl) env H rs) = some vs → ∃ v0 vs0, v = some v0 ∧ allV (resV (mk P C call loop keep fl) env H rs) = some vs0 ∧ vs = v0 :: vs0 := by
      intro v e
      cases v with
      | none => cases e
      | some v0 =>
        simp only [allV] at e
        split at e
        · rename_i l hl; injection e with e; exact ⟨v0, l, rfl, hl, e.symm⟩
        · cases e
    cases r with
    | tmp t =>
      simp only [resV] at e
      obtain ⟨v0, vs0, h1, h2, rfl⟩ := key _ e
      obtain ⟨us, hu, hr⟩ := res_ok hG h hT h2
      refine ⟨a.tmps.getD t undef :: us, ?_, by simp only [VRs]; exact ⟨_, _, rfl, hT t v0 h1, hr⟩⟩
      simp only [List.mapM_cons, Sem.run_bind, Sem.run_pure, Result.andThen_ok]
      rw [hu]; rfl
    | cell c t =>
      simp only [resV] at e
      obtain ⟨v0, vs0, h1, h2, rfl⟩ := key _ e
      obtain ⟨us, hu, hr⟩ := res_ok hG h hT h2
      split at h1
      · rename_i va hva
        unfold valO at h1
        split at h1
        · rename_i v' H' hl
          injection h1 with h1; subst h1
          have hH := loadO_same hl
          subst hH
          have hl : loadO C.glob H' va (ty P t) = some (v', H') := hl
          obtain ⟨u, hu', φ', hv, _, st⟩ := loadO_ok (P := P) (fl := H'.length) h (hT c va hva) (by rw [hG]; exact hl)
          rw [st.same] at hv
          refine ⟨u :: us, ?_, by simp only [VRs]; exact ⟨_, _, rfl, hv, hr⟩⟩
          have hp : ∃ ad, a.tmps.getD c undef = .pointer (some ad) := by
            have hv := hT c va hva
            unfold loadO at hl
            split at hl
            · unfold loadV at hl
              split at hl
              · simp only [VR] at hv; obtain ⟨q, d, _, hv⟩ := hv; exact ⟨_, hv⟩
              · simp only [VR] at hv; exact ⟨_, hv⟩
              · cases hl
            · cases hl
          obtain ⟨ad, had⟩ := hp
          rw [had] at hu'
          have hu2 : (loadVar t ad).run P w = .ok u w := hu'
          rw [List.mapM_cons]
          revert hu
          generalize (List.mapM (m := Sem) _ rs : Sem (List Value)) = M
          intro hu
          simp only [had, asAddr, pure_bind]
          rw [Sem.run_bind, hu2]
          simp only [Result.andThen_ok]
          rw [Sem.run_bind, hu]
          rfl
        · cases h1
      · cases h1
theorem results_ok {fn : Func} {call : CallF} {loop : LoopF} {keep : List Tmp} {fl : Nat} {env : Env} {a : Act} {vs : List V} (hG : p.G = C.glob) (h : HR p φ H w) (hT : TmpR φ w keep env [] a)
    (e : allV (resV (mk P C call loop keep fl) env H fn.results.toList) = some vs) : ∃ u, (results fn a.tmps).run P w = .ok u w ∧ VR φ w (oneV vs) u := by
  obtain ⟨us, hu, hr⟩ := res_ok hG h hT e
  unfold results
  rw [Array.mapM_eq_mapM_toList]
  have hrun : ∀ (f : ResultVar → Sem Value), (fn.results.toList.mapM f).run P w = .ok us w → (do let vs ← List.toArray <$> fn.results.toList.mapM f; pure (if h : vs.size = 1 then vs[0] else .tuple vs) : Sem Value).run P w = .ok (if h : us.toArray.size = 1 then us.toArray[0] else .tuple us.toArray) w := by
    intro f hf
    simp only [Sem.run_bind, map_eq_pure_bind, hf, Result.andThen_ok, Sem.run_pure]
  refine ⟨_, hrun _ hu, ?_⟩
  match vs, us, hr with
  | [], us, hr => simp only [VRs] at hr; subst hr; simp only [oneV, VR, VRs]; exact ⟨[], rfl, rfl⟩
  | [v], us, hr => simp only [VRs] at hr; obtain ⟨u, us', rfl, hv, rfl⟩ := hr; simp only [oneV]; exact hv
  | v :: x :: vs, us, hr =>
    have hr0 := hr
    simp only [VRs] at hr
    obtain ⟨u, us', rfl, hv, y, ys, rfl, _, _⟩ := hr
    simp only [oneV, VR]
    exact ⟨_, rfl, hr0⟩

theorem next_none {fn : Func} {s : String} (hn : fn.name = s) (ho : fn.origin = "") (h : Extern.allNextRows.lookup s = none) : Extern.findNext fn = none := by
  unfold Extern.findNext
  have h2 : Extern.allNextRows.lookup "" = none := by kernel_rfl
  simp only [hn, ho, h, h2]
  rfl
theorem find_row {fn : Func} {s : String} {f : Array Value → Sem Value} (hn : fn.name = s) (h : Extern.allGenericRows.lookup s = none) (h2 : Extern.allTypedRows.lookup s = none) (h3 : Extern.allRows.lookup s = some f) : Extern.find fn = some f := by
  unfold Extern.find
  simp only [hn, h, h2, h3]
  rfl
theorem idx_run (s : ByteArray) (c : Int) : Extern.BytealgIndexByte.indexByte #[.string s, .int .u8 c] = pure (Value.int .i64 (idxB s (UInt8.ofNat c.toNat))) := by
  show (match (List.range s.size).find? fun i => s[i]! == UInt8.ofNat c.toNat with
    | some i => pure (goInt i)
    | none => pure (goInt (-1)) : Sem Value) = _
  unfold idxB
  cases (List.range s.size).find? fun i => s[i]! == UInt8.ofNat c.toNat <;> rfl
theorem run_ext {P : Program} {w : World} {fn : Func} {K : FuncId} {us : List Value} {f : Array Value → Sem Value} {x : Value} (hfn : P.funcs[K]? = some fn) (hb : fn.body = none) (hr : (fn.name == "runtime.NumGoroutine") = false)
    (h1 : Extern.findNext fn = none) (h2 : Extern.find fn = some f) (h3 : f ⟨us⟩ = pure x) : (callFunc K ⟨us⟩).run P w = .ok (.value x) w := by
  simp only [callFunc, run_program, Sem.run_bind, Result.andThen_ok, hfn, hr, hb, h1, h2, h3, Option.isNone_none, if_true, Bool.false_eq_true, if_false]
  rfl
theorem cnt_run (s : ByteArray) (c : Int) : Extern.BytealgCount.count #[.string s, .int .u8 c] = pure (Value.int .i64 (cntB s (UInt8.ofNat c.toNat))) := by
  rfl
theorem ext_ok {P : Program} {φ : Phi} {w : World} {fn : Func} {K : FuncId} (hfn : P.funcs[K]? = some fn) (hb : fn.body = none) {args : List V} {H H' : LH} {v : V} {us : List Value} (hus : VRs φ w args us) (e : ext P fn args H = some (v, H')) :
    ∃ n, v = .int .i64 n ∧ H' = H ∧ (callFunc K ⟨us⟩).run P w = .ok (.value (.int .i64 n)) w := by
  have key : ∀ {s : ByteArray} {c : Int}, args = [.str s, .int .u8 c] → us = [.string s, .int .u8 c] := by
    intro s c h
    subst h
    simp only [VRs] at hus
    obtain ⟨u, us', rfl, h1, u2, us2, rfl, h2, rfl⟩ := hus
    simp only [VR] at h1 h2
    subst h1; subst h2; rfl
  unfold ext at e
  split at e
  · rename_i hn
    unfold idxA at e
    split at e
    · rename_i s c
      injection e with e; injection e with e1 e2
      obtain rfl := key rfl
      refine ⟨_, e1.symm, e2.symm, ?_⟩
      have h1 := next_none hn.1 hn.2 (by kernel_rfl)
      have h2 := find_row (f := Extern.BytealgIndexByte.indexByte) hn.1 (by kernel_rfl) (by kernel_rfl) (by kernel_rfl)
      exact run_ext hfn hb (by rw [hn.1]; kernel_rfl) h1 h2 (idx_run s c)
    · cases e
  · split at e
    · rename_i hn
      unfold cntA at e
      split at e
      · rename_i s c
        injection e with e; injection e with e1 e2
        obtain rfl := key rfl
        refine ⟨_, e1.symm, e2.symm, ?_⟩
        have h1 := next_none hn.1 hn.2 (by kernel_rfl)
        have h2 := find_row (f := Extern.BytealgCount.count) hn.1 (by kernel_rfl) (by kernel_rfl) (by kernel_rfl)
        exact run_ext hfn hb (by rw [hn.1]; kernel_rfl) h1 h2 (cnt_run s c)
      · cases e
    · cases e
theorem callStepW (hmix : P.follows .mixedOrders = true) {ok : FuncId → Bool} (hok : ∀ K, ok K = true → okF P C K = true) {call : CallF} {loop : LoopF} {r : Nat} (hc : CallOk P C.glob call) (hg : CallG call) (hl : CallL call) (hm : CallM C.mode call) (hlo : LoopOk P C loop r) (hlg : LoopG loop) (hll : LoopL loop) (hGl : GloL C.glob) :
    CallOk P C.glob (callStep P C ok call loop) := by
  intro K args fl H v H' e p φ w us hG hR hf hb hargs h nf hus
  unfold callStep at e
  split at e
  · rename_i fn hfn
    split at e
    · rename_i c hbody
      split at e
      · rename_i hokK
        have hk := hok K hokK
        simp only [okF, hfn, hbody, Bool.and_eq_true, bne_iff_ne, ne_eq] at hk
        have henter : (callFunc K ⟨us⟩).run P w = .ok (.enter K ⟨us⟩) w := by
          simp [callFunc, hfn, hk.2, hbody]
        rw [henter]
        refine .inr ⟨K, ⟨us⟩, w, rfl, ?_⟩
        refine calls_of_wp hfn hbody ?_
        have hfl := floor_le (C.mode K) hf
        unfold bodyStep leaveX at e
        -- the body, from a part of the memory
        have fin : ∀ (φb : Phi) (x : Ex) (env' : Env) (H1 : LH), exec (mk P C call loop (C.keep K) (floor (C.mode K) fl H)) c (enterE (C.keep K) args) H = some (x, env', H1) → (x = .nrm ∨ x = .ret) →
            HR p φb H w → VRs φb w args us → NoFloat φb H H1 → ∀ vs, allV (resV (mk P C call loop (C.keep K) (floor (C.mode K) fl H)) env' H1 fn.results.toList) = some vs →
            (∀ u φ' w', VR φ' w' (oneV vs) u → HR p φ' H1 w' → Step (floor (C.mode K) fl H) φb H w φ' H1 w' → Res p fl φ H w v H' u w') →
            c.wp P (bodyPost P fn fun e w' => ∃ u, e = .returned u ∧ Res p fl φ H w v H' u w') { tmps := ⟨us⟩ ++ Array.replicate (fn.ntmps - (⟨us⟩ : Array Value).size) undef, defers := [] } w := by
          intro φb x env' H1 hx hxx hb' hus' nf' vs hvs k
          refine codeW hmix hc hg hl hm hlo hlg hll hGl hG (Nat.le_trans hR hfl.1) hx hk.1 hfl.2 (by simp; omega) hb' (enter_ok hus') nf' hb (enterE_lt hargs) fun a' w' φ' q => ?_
          obtain ⟨u, hu, hv⟩ := results_ok (call := call) (loop := loop) (fl := floor (C.mode K) fl H) (fn := fn) hG q.hr q.tmp hvs
          rcases hxx with rfl | rfl
          · exact ⟨q.defs, u, hu, u, rfl, k u φ' w' hv q.hr q.step⟩
          · exact ⟨q.defs, u, hu, u, rfl, k u φ' w' hv q.hr q.step⟩
        have main : ∀ (x : Ex) (env' : Env) (H1 : LH), exec (mk P C call loop (C.keep K) (floor (C.mode K) fl H)) c (enterE (C.keep K) args) H = some (x, env', H1) → (x = .nrm ∨ x = .ret) →
            leave (C.mode K) H H1 (allV (resV (mk P C call loop (C.keep K) (floor (C.mode K) fl H)) env' H1 fn.results.toList)) = some (v, H') →
            c.wp P (bodyPost P fn fun e w' => ∃ u, e = .returned u ∧ Res p fl φ H w v H' u w') { tmps := ⟨us⟩ ++ Array.replicate (fn.ntmps - (⟨us⟩ : Array Value).size) undef, defers := [] } w := by
          intro x env' H1 hx hxx hlv
          unfold leave at hlv
          split at hlv
          · rename_i vs hvs
            cases hmode : C.mode K with
            | pure =>
              rw [hmode] at hlv
              obtain ⟨hna, hlv⟩ := grd_some hlv
              injection hlv with hlv; injection hlv with h1 h2; subst h1; subst h2
              refine fin (φ.cut H.length) x env' H1 hx hxx (h.cut hb) (VRs.cut (lts_iff.2 hargs) hus) (fun b x e => .inl (cut_some.1 e).1) vs hvs fun u φ' w' hv h' st => ?_
              rw [hmode] at st
              have hfr : ∀ q, q < w.heap.size → w'.heap[q]? = w.heap[q]? := fun q hq => st.frm q hq fun b d h1 h2 => absurd h2 (Nat.not_lt.2 h1)
              have he : Ext φ w φ w' := ⟨fun _ _ h => h, st.ext.siz⟩
              refine ⟨φ, VR.free hna hv, ⟨fun b q d x e hx => (h.blk b q d x e hx).mono he (hfr q (h.bnd b q d e)), fun b q d e => Nat.lt_of_lt_of_le (h.bnd b q d e) st.len, h.inj, h.low, h'.q0, h'.old, h.glo⟩,
                ⟨he, fun b x e n => (by rw [e] at n; cases n), fun b q d e n => (by rw [e] at n; cases n), fun q hq _ => hfr q hq, st.len, .refl _ _⟩⟩
            | fresh =>
              rw [hmode] at hlv
              injection hlv with hlv; injection hlv with h1 h2; subst h1; subst h2
              refine fin φ x env' H1 hx hxx h hus nf vs hvs fun u φ' w' hv h' st => ?_
              rw [hmode] at st
              exact ⟨φ', hv, h', st.mono hf⟩
            | any =>
              rw [hmode] at hlv
              injection hlv with hlv; injection hlv with h1 h2; subst h1; subst h2
              refine fin φ x env' H1 hx hxx h hus nf vs hvs fun u φ' w' hv h' st => ?_
              rw [hmode] at st
              exact ⟨φ', hv, h', st⟩
          · cases hlv
        split at e
        · rename_i hx; exact main _ _ _ hx (.inl rfl) e
        · rename_i hx; exact main _ _ _ hx (.inr rfl) e
        · cases e
      · cases e
    · rename_i hbody
      obtain ⟨n, rfl, rfl, hrun⟩ := ext_ok hfn hbody hus e
      rw [hrun]
      exact .inl ⟨_, _, .same h (by simp only [VR]), .inl rfl⟩
  · cases e

theorem runN_ok (hmix : P.follows .mixedOrders = true) {ok : FuncId → Bool} (hok : ∀ K, ok K = true → okF P C K = true) (hGl : GloL C.glob) : ∀ n, CallOk P C.glob (runN P C ok n).1 ∧ LoopOk P C (runN P C ok n).2 n
  | 0 => ⟨fun _ _ _ _ _ _ h => (by cases h), fun _ _ _ _ _ _ _ _ h => (by cases h)⟩
  | n + 1 =>
    have ih := runN_ok hmix hok hGl n
    have g := runN_grow (P := P) (C := C) (ok := ok) n
    have l := runN_lt (P := P) (C := C) (ok := ok) hGl n
    have m := runN_mode (P := P) (C := C) (ok := ok) n
    ⟨callStepW hmix hok ih.1 g.1 l.1 m ih.2 g.2 l.2 hGl, loopStepW hmix ih.1 g.1 l.1 m ih.2 g.2 l.2 hGl⟩

/-- **what the logical machine answers, the model answers** -/
theorem Run_ok (hmix : P.follows .mixedOrders = true) {ok : FuncId → Bool} (hok : ∀ K, ok K = true → okF P C K = true) (hGl : GloL C.glob) : CallOk P C.glob (Run P C ok) := by
  intro K args fl H v H' e
  obtain ⟨n, hn⟩ := Run_of.1 e
  exact (runN_ok hmix hok hGl n).1 _ _ _ _ _ _ hn
end
end Go.Proofs.YtbjpecknlohicaaDoor.Lg
