/- The logical machine against the model: a region whose order is drawn, walked. No condition. -/
import Derived.Test.YtbjpecknlohicaaDoorLg20
namespace Go.Proofs.YtbjpecknlohicaaDoor.Lg
set_option linter.unusedSimpArgs false
set_option linter.unusedVariables false
open Go.RowKit (Below)

section
variable {P : Program} {C : Cfg} {call : CallF} {loop : LoopF} {keep : List Tmp} {fl : Nat} {ops : List Oper} {env : Env} {pl : Nat → Loc} {ph : Nat → LH}
variable {p : Par} {φ0 : Phi} {w0 : World} {a0 : Act} {listed : Array Bool} {m : Nat} {a : Act} {w : World} {φ : Phi} {n : Nat}

theorem isText_ok {e : Edge} {j : Nat} (h : isText e j = true) : ∃ r, e = ⟨j, .textOnly r⟩ := by
  obtain ⟨i, g⟩ := e
  unfold isText at h
  split at h
  · rename_i r he
    injection he with h1 h2
    subst h1; subst h2
    simp only [beq_iff_eq] at h
    subst h
    exact ⟨_, rfl⟩
  · cases h
theorem fltE_ok {keep : List Tmp} {ops : List Oper} {e : Env} {l : Loc} {adr : Operand} {j : Nat} {oj : Oper} (ho : ops[j]? = some oj) : ∀ {es : List Edge}, fltE keep ops e l adr es = true → es.any (isText · j) = true → flt1 keep e l adr (some oj) = true
  | [], _, h => by simp at h
  | x :: es, hf, h => by
    simp only [List.any_cons, Bool.or_eq_true] at h
    obtain ⟨i, g⟩ := x
    rcases h with h | h
    · obtain ⟨r, hr⟩ := isText_ok h
      injection hr with h1 h2
      subst h1; subst h2
      simp only [fltE, Bool.and_eq_true] at hf
      rw [ho] at hf
      exact hf.1
    · cases g with
      | textOnly r => simp only [fltE, Bool.and_eq_true] at hf; exact fltE_ok ho hf.2 h
      | _ => simp only [fltE] at hf; exact fltE_ok ho hf h

/-- a load yields the same from its place on to the first change that has not come up -/
theorem Tr.load (hm : CallM C.mode call) (D : DrawOk C.mode ops) (T : Tr (Lg.mk P C call loop keep fl) ops env ops pl ph) {i : Nat} {o : Oper} {t : TypeId} {ad : Operand} {av v : V} (hi : ops[i]? = some o) (ho : o.op = .load t ad)
    (ha : evalO keep env (pl i) ad = some av) (hl : loadO C.glob (ph i) av (ty P t) = some (v, ph i)) :
    ∀ {k : Nat}, i ≤ k → k ≤ ops.length → (∀ j, i < j → j < k → ∀ oj, ops[j]? = some oj → cls C.mode oj.op = 2 → ¬ Prec ops i j) → loadO C.glob (ph k) av (ty P t) = some (v, ph k) := by
  intro k hik
  induction hik with
  | refl => intro _ _; exact hl
  | step hik ih =>
    rename_i k
    intro hk hno
    have hk' : k < ops.length := hk
    have hko := List.getElem?_eq_getElem hk'
    have hprev := ih (by omega) (fun j h1 h2 => hno j h1 (by omega))
    by_cases hc : cls C.mode (ops[k]'hk').op = 2
    · -- a change that the load need not wait for
      have hne : i ≠ k := by
        intro e
        subst e
        rw [hi] at hko; injection hko with hko
        rw [← hko, ho] at hc
        simp only [cls] at hc
        cases hc
      have hlt : i < k := Nat.lt_of_le_of_ne hik hne
      have hcl : cls C.mode o.op = 1 := by rw [ho]; rfl
      rcases D.pair12 i k o _ hlt hi hko hcl hc with h | h
      · exact absurd h (hno k hlt (Nat.lt_succ_self k) _ hko hc)
      · obtain ⟨dst, op, type, pos, after, guard⟩ := o
        simp only at ho
        subst ho
        unfold floatOk at h
        split at h
        · rename_i t' tt hop
          injection hop with h1 h2
          subst h1; subst h2
          simp only [Bool.and_eq_true, List.all_eq_true] at h
          obtain ⟨⟨⟨hd, hst⟩, hte⟩, hall⟩ := h
          -- the address is still the same
          have hstay : lookL keep env (pl k) tt = lookL keep env (pl i) tt := by
            refine T.stay (Nat.le_of_lt hlt) (Nat.le_of_lt hk') fun j oj h1 h2 hj => ?_
            have hmem : oj ∈ ops.drop i := List.mem_of_getElem? (i := j - i) (by rw [List.getElem?_drop, show i + (j - i) = j by omega]; exact hj)
            simpa using hall oj hmem
          rcases T.step k _ hko with ⟨_, v', hs, _⟩ | ⟨_, he, _⟩
          · obtain ⟨hdo, hf⟩ := stepO_do hs
            have hdn : (ops[k]'hk').dst = none := by simpa using hd
            have hf := hf hdn
            generalize ops[k]'hk' = ok at *
            obtain ⟨dst', op', type', pos', after', guard'⟩ := ok
            cases op' with
            | store ts adr x =>
              obtain ⟨es⟩ := after'
              have hf1 : fltE keep ops env (pl k) adr es = true := hf
              have hfl := fltE_ok (l := pl k) (adr := adr) hi hf1 hte
              simp only [flt1, evalO] at hfl
              change lookL keep env (pl i) tt = some av at ha
              rw [hstay, ha] at hfl
              have hdo2 : doOp call (ty P) C.glob fl (ph k) (.store ts adr x) (evalL keep env (pl k) [adr, x]) = some (v', ph (k + 1)) := hdo
              simp only [evalL] at hdo2
              change apartV (some av) (evalO keep env (pl k) adr) = true at hfl
              cases hadr : evalO keep env (pl k) adr with
              | none => rw [hadr] at hdo2; cases hdo2
              | some va =>
                rw [hadr] at hdo2 hfl
                cases hx : evalO keep env (pl k) x with
                | none => rw [hx] at hdo2; cases hdo2
                | some vx =>
                  rw [hx] at hdo2
                  change storeT fl (ph k) va vx (ty P ts) = some (v', ph (k + 1)) at hdo2
                  unfold storeT at hdo2
                  split at hdo2
                  · unfold storeV at hdo2
                    split at hdo2
                    · unfold storeO at hdo2
                      split at hdo2
                      · obtain ⟨_, hdo2⟩ := grd_some hdo2
                        injection hdo2 with hdo2; injection hdo2 with _ hdo2
                        rw [← hdo2]
                        exact loadO_set hprev hfl
                      · cases hdo2
                    · cases hdo2
                  · cases hdo2
            | _ => cases hst
          · rw [he]; exact hprev
        · cases h
    · obtain ⟨L, hL⟩ := T.ext hm (Nat.le_succ k) hk (fun j oj h1 h2 hj => by
        have : j = k := by omega
        subst this
        rw [hko] at hj; injection hj with hj; subst hj; exact hc)
      rw [hL]; exact loadO_left hprev

theorem cls3 (mode : FuncId → Mode) (o : Op) : cls mode o = 0 ∨ cls mode o = 1 ∨ cls mode o = 2 := by
  cases o <;> simp only [cls] <;> try decide
  case convert => split <;> decide
  unfold clsC
  split <;> try decide
  split <;> decide

/-- one operation of the region, whichever comes up -/
theorem drawn_op {Q : Exit → Act → World → Prop} (hc : CallOk P C.glob call) (hg : CallG call) (hm : CallM C.mode call) (hG : p.G = C.glob) (hR : p.R0 ≤ fl) (D : DrawOk C.mode ops) (T : Tr (Lg.mk P C call loop keep fl) ops env ops pl ph)
    (h0 : pl 0 = []) (hf : fl ≤ (ph 0).length) (nf0 : NoFloat φ0 (ph 0) (ph ops.length)) (hB : ∀ i, i ≤ ops.length → HB (ph i) ∧ EL (ph i).length env ∧ LL (ph i).length (pl i)) (hd : ∀ o ∈ ops, inFrame n o.dst = true) (hn : n ≤ a0.tmps.size)
    (I : Inv P C p keep fl ops env pl ph φ0 w0 a0 listed m a w φ) {i : Nat} {o : Oper} (r : Rdy ops listed i o) {K : Act → World → Prop}
    (k : ∀ m' a' w' φ', Inv P C p keep fl ops env pl ph φ0 w0 a0 (listed.setIfInBounds i true) m' a' w' φ' → K a' w') : wpOp P ops.toArray Q i K a w := by
  have hi : i < ops.length := (List.getElem?_eq_some_iff.1 r.get).1
  have hdo : inFrame n o.dst = true := hd o (List.mem_of_getElem? r.get)
  have hTm := I.tmps D T h0 r
  have hmono : ∀ {x y : Nat}, x ≤ y → y ≤ ops.length → Grow fl (ph x) (ph y) := fun {x y} h1 h2 => by
    have h3 := (T.grow hg hf (Nat.zero_le x) (Nat.le_trans h1 h2) hf).len
    exact T.grow hg hf h1 h2 (Nat.le_trans hf h3)
  have hfm : ∀ {x : Nat}, x ≤ ops.length → fl ≤ (ph x).length := fun {x} h => Nat.le_trans hf (hmono (Nat.zero_le x) h).len
  have hget : ops.toArray[i]? = some o := by simpa using r.get
  have hwant : ∀ b, wantV (Lg.mk P C call loop keep fl) ops env (pl i) o.guard = some b → Region.wanted o (yielded ops.toArray a.tmps) = b := by
    intro b hb
    refine want_ok (X := Lg.mk P C call loop [] fl) (loc := resL keep env (pl i) (looks ops o)) (env := []) hTm ?_
    rw [want_res (fun t ht => by unfold looks; exact List.mem_append_right _ ht)]; exact hb
  have heval : evalL [] [] (resL keep env (pl i) (looks ops o)) (opds o.op) = evalL keep env (pl i) (opds o.op) :=
    resL_eval (fun t ht => by unfold looks; exact List.mem_append_left _ ht)
  -- a change is the first that has not come up
  have hhard : cls C.mode o.op = 2 → i = m := by
    intro hc2
    rcases Nat.lt_trichotomy i m with h | h | h
    · exact absurd (I.effs i o h r.get hc2) r.off
    · exact h
    · have hml : m < ops.length := by omega
      have hmo := List.getElem?_eq_getElem hml
      have := I.mcut _ hmo
      exact absurd (I.ahead r (D.pair22 m i _ o h hmo r.get this.1 hc2)) this.2
  have hbefore : cls C.mode o.op = 1 → i < m := by
    intro hc1
    rcases Nat.lt_trichotomy i m with h | h | h
    · exact h
    · subst h
      have := (I.mcut o r.get).1
      rw [hc1] at this; cases this
    · have hml : m < ops.length := by omega
      have hmo := List.getElem?_eq_getElem hml
      have := I.mcut _ hmo
      exact absurd (I.ahead r (D.pair21 m i _ o h hmo r.get this.1 hc1)) this.2
  have hncf0 : cls C.mode o.op = 0 → isCallF o.op ≠ true := by
    intro h0 h1
    cases hop : o.op with
    | call c =>
      rw [hop] at h0
      simp only [cls] at h0
      unfold clsC at h0
      split at h0 <;> first | (exact absurd h0 (by decide)) | skip
      split at h0 <;> exact absurd h0 (by decide)
    | _ => rw [hop] at h1; cases h1
  have hbi : isCallF o.op = true → HB (ph i) ∧ ∀ x, some x ∈ evalL [] [] (resL keep env (pl i) (looks ops o)) (opds o.op) → V.lt (ph i).length x := by
    intro _
    obtain ⟨k1, k2, k3⟩ := hB i (Nat.le_of_lt hi)
    exact ⟨k1, fun x hx => by rw [heval] at hx; exact evalL_lt k2 k3 hx⟩
  unfold wpOp
  simp only [hget]
  rcases T.step i o r.get with ⟨hw, v, hs, hpl⟩ | ⟨hw, hph, hpl⟩
  · rw [hwant _ hw, if_pos rfl]
    refine .inl ?_
    have hs := (stepO_do hs).1
    change doOp call (ty P) C.glob fl (ph i) o.op (evalL keep env (pl i) (opds o.op)) = some (v, ph (i + 1)) at hs
    have hvv : ∀ t, o.dst = some t → hv (pl (i + 1)) = v := fun t ht => hv_put ht hpl
    -- at the memory as it is
    have atM : ∀ (hs2 : doOp call (ty P) C.glob (ph m).length (ph m) o.op (evalL keep env (pl i) (opds o.op)) = some (v, ph m)) (hne : cls C.mode o.op ≠ 2) (hncf : isCallF o.op ≠ true), o.wp P a w K Q := by
      intro hs2 hne hncf
      refine opW (v := v) (H' := ph m) hc hG I.hr hTm (Nat.le_trans hR (hfm I.mle)) (Nat.le_refl _) (fun b x _ => Nat.lt_or_ge b _) (fun hcf => absurd hcf hncf) (by rw [heval]; exact hs2) fun u w' ⟨φ', hv', h', st⟩ => ?_
      refine k m _ _ _ (I.soft (n := n) hg D T hf r hne hdo hn st.ext (fun t ht => by rw [hvv t ht]; exact hv') (fun b x e e0 => by have := st.dom b x e e0; omega) h' ?_)
      have := stepM (L := []) (H1 := ph m) (by simpa using I.step) st (hmono (Nat.zero_le m) I.mle).len
      simpa using this
    rcases cls3 C.mode o.op with hcl | hcl | hcl
    · exact atM ((doOp_val hs hcl).2 _ _) (by rw [hcl]; decide) (hncf0 hcl)
    · have him := hbefore hcl
      by_cases hload : ∃ t ad, o.op = .load t ad
      · obtain ⟨t, ad, hop⟩ := hload
        refine atM ?_ (by rw [hcl]; decide) (by rw [hop]; exact (by decide : ¬ (false = true)))
        rw [hop] at hs ⊢
        simp only [opds, evalL] at hs ⊢
        cases ha : evalO keep env (pl i) ad with
        | none => rw [ha] at hs; cases hs
        | some av =>
          rw [ha] at hs
          change loadO C.glob (ph i) av (ty P t) = some (v, ph (i + 1)) at hs
          show loadO C.glob (ph m) av (ty P t) = some (v, ph m)
          rw [loadO_same hs] at hs
          refine T.load hm D r.get hop ha hs (Nat.le_of_lt him) I.mle fun j h1 h2 oj hj hcj hp => ?_
          exact I.back r hp (I.effs j oj h2 hj hcj)
      · -- no change lies between it and now
        obtain ⟨L, hL⟩ := T.ext hm (show i + 1 ≤ m from him) I.mle fun j oj h1 h2 hj hcj => by
          rcases D.pair12 i j o oj h1 r.get hj hcl hcj with h | h
          · exact I.back r h (I.effs j oj h2 hj hcj)
          · unfold floatOk at h
            split at h
            · rename_i t' tt hop; exact hload ⟨_, _, hop⟩
            · cases h
        obtain ⟨⟨L1, hL1⟩, hany⟩ := doOp_mem (keep := keep) (env := env) (loc := pl i) hm rfl hs hcl
        have hri : HR p φ (ph i) w := by
          have := I.hr
          rw [hL, hL1, List.append_assoc] at this
          exact this.left
        refine opW (v := v) (H' := ph (i + 1)) hc hG hri hTm (Nat.le_trans hR (hfm (Nat.le_of_lt hi))) (Nat.le_refl _) (fun b x e => I.nofl b x e i hi r.off) hbi (by rw [heval]; exact hany (ph i).length) fun u w' ⟨φ', hv', h', st⟩ => ?_
        refine k m _ _ _ (I.soft (n := n) hg D T hf r (by rw [hcl]; decide) hdo hn st.ext (fun t ht => by rw [hvv t ht]; exact hv') (fun b x e e0 => st.dom b x e e0) ?_ ?_)
        · have := I.hr
          rw [hL] at this ⊢
          exact merge this h' st
        · have := I.step
          rw [hL] at this ⊢
          exact stepM this st (hmono (Nat.zero_le i) (Nat.le_of_lt hi)).len
    · have him := hhard hcl
      subst him
      refine opW (v := v) (H' := ph (i + 1)) hc hG I.hr hTm hR (hfm I.mle) (fun b x e => I.nofl b x e i hi r.off) hbi (by rw [heval]; exact hs) fun u w' ⟨φ', hv', h', st⟩ => ?_
      obtain ⟨m', I'⟩ := I.hard (n := n) hg hm D T hf r hdo hn st.ext (fun t ht => by rw [hvv t ht]; exact hv') (fun b x e e0 => st.dom b x e e0) h' (I.step.trans st (nf0.left (hmono I.mle (Nat.le_refl _)).len))
      exact k m' _ _ _ I'
  · rw [hwant _ hw, if_neg (by decide)]
    have hu : ∀ t, o.dst = some t → VR φ w (hv (pl (i + 1))) undef := fun t ht => by rw [hv_put ht hpl]; exact VR_undef
    have hdom : ∀ b x, φ b = some x → φ b = none → (ph i).length ≤ b ∧ b < (ph (i + 1)).length := fun b x e e0 => by rw [e] at e0; cases e0
    by_cases hcl : cls C.mode o.op = 2
    · have him := hhard hcl
      subst him
      obtain ⟨m', I'⟩ := I.hard (n := n) hg hm D T hf r hdo hn (.refl _ _) hu hdom (by rw [hph]; exact I.hr) (by rw [hph]; exact I.step)
      exact k m' _ _ _ I'
    · exact k m _ _ _ (I.soft (n := n) hg D T hf r hcl hdo hn (.refl _ _) hu hdom I.hr I.step)
end
end Go.Proofs.YtbjpecknlohicaaDoor.Lg
