/- The logical machine against the model: an operation in a walk, and a region in its order. No condition. -/
import Derived.Test.YtbjpecknlohicaaDoorLg24
namespace Go.Proofs.YtbjpecknlohicaaDoor.Lg
set_option linter.unusedSimpArgs false
set_option linter.unusedVariables false
open Go.RowKit (Below)

section
variable {P : Program} {p : Par} {φ : Phi} {H : LH} {w : World}

/-- what a call of a function is to give -/
def CallR (P : Program) (p : Par) (fl : Nat) (φ : Phi) (H : LH) (w : World) (v : V) (H' : LH) (r : Result Next) : Prop :=
  Gives P p fl φ H w v H' r ∨ ∃ f args w1, r = .ok (.enter f args) w1 ∧ Calls P f args w1 (fun e w' => ∃ u, e = .returned u ∧ Res p fl φ H w v H' u w')
/-- a table of calls keeps its word -/
def CallOk (P : Program) (G : Nat → Option (List V)) (call : CallF) : Prop :=
  ∀ K args fl H v H', call K args fl H = some (v, H') → ∀ (p : Par) φ w us, p.G = G → p.R0 ≤ fl → fl ≤ H.length → HB H → (∀ x ∈ args, V.lt H.length x) → HR p φ H w → NoFloat φ H H' → VRs φ w args us →
    CallR P p fl φ H w v H' ((callFunc K ⟨us⟩).run P w)

theorem CallR.upon {fl : Nat} {v : V} {H' : LH} {o : Oper} {a : Act} {next : Act → World → Prop} {Q : Exit → Act → World → Prop} {r : Result Next} (h : CallR P p fl φ H w v H' r)
    (k : ∀ u w', Res p fl φ H w v H' u w' → next (a.put o.dst u) w') : o.upon P a next Q r := by
  rcases h with ⟨u, w', hr, rfl | ⟨rfl, rfl⟩⟩ | ⟨f, args, w1, rfl, hc⟩
  · exact k u w' hr
  · exact k _ w' hr
  · refine Calls.mono hc ?_
    rintro e w' ⟨u, rfl, hr⟩
    exact k u w' hr

theorem VRs.app {vs ws : List V} {us xs : List Value} (h : VRs φ w vs us) (k : VRs φ w ws xs) : VRs φ w (vs ++ ws) (us ++ xs) := by
  induction vs generalizing us with
  | nil => simp only [VRs] at h; subst h; exact k
  | cons v vs ih =>
    simp only [VRs] at h
    obtain ⟨u, us', rfl, hv, hs⟩ := h
    simp only [List.cons_append, VRs]
    exact ⟨u, us' ++ xs, rfl, hv, ih hs⟩

/-- is it a call of a function? -/
def isCallF : Op → Bool
  | .call c => match c.callee with
    | .value _ => true
    | _ => false
  | _ => false
theorem opR {call : CallF} {G : Nat → Option (List V)} (hc : CallOk P G call) (hG : p.G = G) {fl : Nat} {o : Oper} {keep env loc a} {v : V} {H' : LH}
    (h : HR p φ H w) (hT : TmpR φ w keep env loc a) (hR : p.R0 ≤ fl) (hfl : fl ≤ H.length) (nf : NoFloat φ H H')
    (hb : isCallF o.op = true → HB H ∧ ∀ x, some x ∈ evalL keep env loc (opds o.op) → V.lt H.length x)
    (e : doOp call (ty P) G fl H o.op (evalL keep env loc (opds o.op)) = some (v, H')) : CallR P p fl φ H w v H' ((execOp a.eval o).run P w) := by
  obtain ⟨dst, op, type, pos, after, guard⟩ := o
  by_cases hno : ∀ c, op = .call c → ∀ f, c.callee ≠ .value f
  · subst hG
    exact .inl (op_ok h hT hR hfl nf e hno)
  · simp only [Classical.not_forall] at hno
    obtain ⟨c, rfl, f, hf⟩ := hno
    simp only [ne_eq, Classical.not_not] at hf
    change doCall call (ty P) fl H c (evalL keep env loc (opds (.call c))) = some (v, H') at e
    have hb := hb (by simp only [isCallF, hf])
    simp only [opds, hf, evalL] at e hb
    cases hx : evalO keep env loc f with
    | none => rw [hx] at e; simp only [doCall, hf] at e; cases e
    | some vf =>
      rw [hx] at e
      simp only [doCall, hf] at e
      have rf := evalO_ok hT hx
      cases vf with
      | fn k caps =>
        cases hv : allV (evalL keep env loc c.args.toList) with
        | none => rw [hv] at e; cases e
        | some vs =>
          rw [hv] at e
          change call k (vs ++ caps) fl H = some (v, H') at e
          simp only [VR] at rf
          obtain ⟨cs, hfv, hcs⟩ := rf
          have hargs : ∀ x ∈ vs ++ caps, V.lt H.length x := by
            intro x hxm
            rcases List.mem_append.1 hxm with h1 | h1
            · exact hb.2 x (List.mem_cons_of_mem _ (allV_mem hv x h1))
            · have := hb.2 _ (by rw [hx]; exact List.mem_cons_self)
              simp only [V.lt] at this
              exact lts_iff.1 this x h1
          have := hc _ _ _ _ _ _ e p φ w (c.args.toList.map a.eval ++ cs) hG hR hfl hb.1 hargs h nf ((allV_ok hT hv).app hcs)
          have he : (execOp a.eval ⟨dst, .call c, type, pos, after, guard⟩).run P w = (callFunc k ⟨c.args.toList.map a.eval ++ cs⟩).run P w := by
            simp only [execOp, resolve, hf, hfv, Deferred.ofValue, Sem.run_bind, Sem.run_pure, Result.andThen_ok, invoke]
            congr 2
            apply Array.ext'
            simp
          rw [he]
          exact this
      | _ => cases e

/-- an operation in a walk -/
theorem opW {call : CallF} {G : Nat → Option (List V)} (hc : CallOk P G call) (hG : p.G = G) {fl : Nat} {o : Oper} {keep env loc a} {v : V} {H' : LH} {next : Act → World → Prop} {Q : Exit → Act → World → Prop}
    (h : HR p φ H w) (hT : TmpR φ w keep env loc a) (hR : p.R0 ≤ fl) (hfl : fl ≤ H.length) (nf : NoFloat φ H H')
    (hb : isCallF o.op = true → HB H ∧ ∀ x, some x ∈ evalL keep env loc (opds o.op) → V.lt H.length x)
    (e : doOp call (ty P) G fl H o.op (evalL keep env loc (opds o.op)) = some (v, H')) (k : ∀ u w', Res p fl φ H w v H' u w' → next (a.put o.dst u) w') : o.wp P a w next Q :=
  (opR hc hG h hT hR hfl nf hb e).upon k

/-! ### temporaries -/
theorem put_size {a : Act} {d : Option Tmp} {u : Value} : (a.put d u).tmps.size = a.tmps.size := by
  cases d <;> simp [Act.put]
theorem put_defers {a : Act} {d : Option Tmp} {u : Value} : (a.put d u).defers = a.defers := by
  cases d <;> rfl
theorem put_get {a : Act} {d : Option Tmp} {u : Value} {t : Tmp} (h : d ≠ some t) : (a.put d u).tmps.getD t undef = a.tmps.getD t undef := by
  cases d with
  | none => rfl
  | some d =>
    have : d ≠ t := fun e => h (by rw [e])
    simp [Act.put, Array.getElem?_setIfInBounds_ne this]
theorem put_same {a : Act} {u : Value} {t : Tmp} (h : t < a.tmps.size) : (a.put (some t) u).tmps.getD t undef = u := by
  simp [Act.put, h]
/-- a destination lies in the frame -/
def inFrame (n : Nat) : Option Tmp → Bool
  | some t => decide (t < n)
  | none => true
theorem TmpR.put {keep env loc a} {v : V} {u : Value} {d : Option Tmp} {n : Nat} (h : TmpR φ w keep env loc a) (hd : inFrame n d = true) (hn : n ≤ a.tmps.size) (hv : VR φ w v u) :
    TmpR φ w keep env (putL d v loc) (a.put d u) := by
  intro t x e
  cases d with
  | none => exact h t x e
  | some d =>
    simp only [putL, lookL] at e
    split at e
    · rename_i hdt
      subst hdt
      injection e with e; subst e
      simp only [inFrame, decide_eq_true_eq] at hd
      rw [put_same (Nat.lt_of_lt_of_le hd hn)]
      exact hv
    · rename_i hdt
      rw [put_get (by simpa using hdt)]
      exact h t x e
theorem VR_undef : VR φ w und undef := by simp only [VR, VRs]; exact ⟨[], rfl, rfl⟩

/-- a guard -/
theorem want_ok {X : Ctx} {ops : List Oper} {env : Env} {loc : Loc} {a : Act} {o : Oper} {b : Bool} (hT : TmpR φ w X.keep env loc a) (e : wantV X ops env loc o.guard = some b) :
    Region.wanted o (yielded ops.toArray a.tmps) = b := by
  unfold Region.wanted
  cases hg : o.guard with
  | none => rw [hg] at e; injection e
  | some g =>
    obtain ⟨j, want⟩ := g
    rw [hg] at e
    simp only [wantV] at e
    split at e
    · rename_i d hd
      cases hl : lookL X.keep env loc d with
      | none => rw [hl] at e; cases e
      | some v =>
        rw [hl] at e
        have hv := hT d v hl
        unfold dstOf at hd
        have hd2 : ((ops.toArray[j]?).bind (·.dst)) = some d := by
          split at hd
          · rename_i o' ho'; simp [ho', hd]
          · cases hd
        unfold wantO at e
        split at e
        · rename_i x hx
          cases hx
          injection e with e
          simp only [VR] at hv
          have hy : yielded ops.toArray a.tmps j = some x := by
            unfold yielded
            rw [hd2]
            have ht : a.tmps[d]? = some (.bool x) := by
              rcases hq : a.tmps[d]? with _ | y
              · simp [hq, undef] at hv
              · simp [hq] at hv; rw [hv]
            simp [ht]
          simp only [hy, ← e]
          cases x <;> cases want <;> rfl
        · rename_i hx
          cases hx
          injection e with e
          simp only [VR, VRs] at hv
          obtain ⟨us, hv, rfl⟩ := hv
          have hy : yielded ops.toArray a.tmps j = none := by
            unfold yielded
            rw [hd2]
            rcases hq : a.tmps[d]? with _ | y
            · simp [hq]
            · simp [hq] at hv; simp [hv, hq]
          simp only [hy, ← e]
          cases want <;> rfl
        · cases e
    · cases e

/-- what holds behind a piece of code -/
structure Post (p : Par) (keep : List Tmp) (fl : Nat) (φ : Phi) (H : LH) (w : World) (a : Act) (env' : Env) (loc' : Loc) (H' : LH) (a' : Act) (w' : World) (φ' : Phi) : Prop where
  hr : HR p φ' H' w'
  tmp : TmpR φ' w' keep env' loc' a'
  step : Step fl φ H w φ' H' w'
  size : a'.tmps.size = a.tmps.size
  defs : a'.defers = a.defers

theorem opsW {C : Cfg} {call : CallF} {loop : LoopF} {keep : List Tmp} {fl n : Nat} (hc : CallOk P C.glob call) (hg : CallG call) (hl : CallL call) (hGl : GloL C.glob) (hG : p.G = C.glob) {ops : List Oper} {env : Env} {Q : Exit → Act → World → Prop} (hR : p.R0 ≤ fl) :
    ∀ {rest : List Oper} {loc : Loc} {H : LH} {loc' : Loc} {H' : LH} {φ : Phi} {w : World} {a : Act}, opsV (mk P C call loop keep fl) ops env rest loc H = some (loc', H') →
      (∀ o ∈ rest, inFrame n o.dst = true) → n ≤ a.tmps.size → HR p φ H w → TmpR φ w keep env loc a → fl ≤ H.length → NoFloat φ H H' → HB H → EL H.length env → LL H.length loc →
      (∀ a' w' φ', Post p keep fl φ H w a env loc' H' a' w' φ' → Q .normal a' w') → wpList P ops.toArray Q rest a w := by
  intro rest
  induction rest with
  | nil =>
    intro loc H loc' H' φ w a e _ _ h hT _ _ _ _ _ k
    injection e with e; injection e with e1 e2; subst e1; subst e2
    exact k a w φ ⟨h, hT, .refl, rfl, rfl⟩
  | cons o rest ih =>
    intro loc H loc' H' φ w a e hd hn h hT hfl nf hb hE hL k
    simp only [opsV] at e
    simp only [wpList]
    have hdo := hd o (by simp)
    have hdr : ∀ o ∈ rest, inFrame n o.dst = true := fun o ho => hd o (by simp [ho])
    split at e
    · rename_i hw
      rw [want_ok hT hw]
      rw [if_pos rfl]
      split at e
      · rename_i v H1 hs
        have hs' : doOp call (ty P) C.glob fl H o.op (evalL keep env loc (opds o.op)) = some (v, H1) := (stepO_do hs).1
        have g1 := doOp_grow hg hfl hs'
        have g2 := opsV_grow (P := P) (C := C) hg (Nat.le_trans hfl g1.len) e
        have nf1 : NoFloat φ H H1 := nf.left g2.len
        have hbe := fun x (hx : some x ∈ evalL keep env loc (opds o.op)) => evalL_lt hE hL hx
        have gd := doOp_lt hl (ty_TypL P) hGl hfl hb hbe hs'
        refine .inl (opW hc hG h hT hR hfl nf1 (fun _ => ⟨hb, hbe⟩) hs' fun u w1 hres => ?_)
        obtain ⟨φ1, hv, h1, st⟩ := hres
        refine ih e hdr (by rw [put_size]; exact hn) h1 ((hT.mono st.ext).put hdo hn hv) (Nat.le_trans hfl g1.len) (nf.right st) gd.1 (hE.mono g1.len) (putL_lt (hL.mono g1.len) gd.2) fun a' w' φ' q => ?_
        exact k a' w' φ' ⟨q.hr, q.tmp, st.trans q.step nf1, by rw [q.size, put_size], by rw [q.defs, put_defers]⟩
      · cases e
    · rename_i hw
      rw [want_ok hT hw]
      rw [if_neg (by simp)]
      refine ih e hdr (by rw [put_size]; exact hn) h (hT.put hdo hn VR_undef) hfl nf hb hE (putL_lt hL und_lt) fun a' w' φ' q => ?_
      exact k a' w' φ' ⟨q.hr, q.tmp, q.step, by rw [q.size, put_size], by rw [q.defs, put_defers]⟩
    · cases e

/-- behind a region only what is kept is known -/
theorem keep_ok {keep : List Tmp} {env : Env} {loc : Loc} {a : Act} (h : TmpR φ w keep env loc a) : TmpR φ w keep (keepE keep env loc) [] a := by
  intro t v e
  refine h t v ?_
  have key : ∀ (ks : List Tmp) (es : Env), lookE ks (keepE ks es loc) t = some v → lookL ks es loc t = some v := by
    have fl : ∀ (l : Loc) (ks : List Tmp) (es : Env), lookL ks es l t = findL l t (lookE ks es t) := by
      intro l ks es
      induction l with
      | nil => rfl
      | cons x l ih => obtain ⟨t', v'⟩ := x; simp only [lookL, findL, ih]
    intro ks es q
    rw [fl]
    induction ks generalizing es with
    | nil => simp only [lookE] at q; cases q
    | cons k ks ih =>
      cases es with
      | nil => simp only [keepE, lookE] at q; cases q
      | cons x es =>
        simp only [keepE, lookE] at q ⊢
        split at q
        · rename_i hk; subst hk; rw [if_pos rfl]; exact q
        · rename_i hk; rw [if_neg hk]; exact ih es q
  exact key keep env e
end

end Go.Proofs.YtbjpecknlohicaaDoor.Lg
