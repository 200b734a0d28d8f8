/- The logical machine against the model: a region whose order is drawn. No condition. -/
import Derived.Test.YtbjpecknlohicaaDoorLg19
namespace Go.Proofs.YtbjpecknlohicaaDoor.Lg
set_option linter.unusedSimpArgs false
set_option linter.unusedVariables false
open Go.RowKit (Below)

/-! ### what an operation looks at -/
def resL (keep : List Tmp) (env : Env) (loc : Loc) : List Tmp → Loc
  | [] => []
  | t :: ts => match lookL keep env loc t with
    | some v => (t, v) :: resL keep env loc ts
    | none => resL keep env loc ts
theorem resL_sound {keep env loc} {t : Tmp} {v : V} : ∀ {ts : List Tmp}, lookL [] [] (resL keep env loc ts) t = some v → t ∈ ts ∧ lookL keep env loc t = some v
  | [], h => by simp only [resL, lookL, lookE] at h; cases h
  | t' :: ts, h => by
    unfold resL at h
    split at h
    · rename_i x hx
      simp only [lookL] at h
      split at h
      · rename_i e; subst e; injection h with h; subst h; exact ⟨by simp, hx⟩
      · exact ⟨by simp [(resL_sound h).1], (resL_sound h).2⟩
    · exact ⟨by simp [(resL_sound h).1], (resL_sound h).2⟩
theorem resL_look {keep env loc} {t : Tmp} : ∀ {ts : List Tmp}, t ∈ ts → lookL [] [] (resL keep env loc ts) t = lookL keep env loc t
  | [], h => by cases h
  | t' :: ts, h => by
    unfold resL
    split
    · rename_i x hx
      simp only [lookL]
      split
      · rename_i e; subst e; exact hx.symm
      · rename_i e
        rcases List.mem_cons.1 h with h | h
        · exact absurd h.symm e
        · exact resL_look h
    · rename_i hx
      rcases List.mem_cons.1 h with h | h
      · subst h
        rw [hx]
        cases hl : lookL [] [] (resL keep env loc ts) t with
        | none => rfl
        | some v => have := (resL_sound hl).2; rw [hx] at this; cases this
      · exact resL_look h
theorem resL_eval {keep env loc} {ts : List Tmp} : ∀ {xs : List Operand}, (∀ t ∈ tmpsO xs, t ∈ ts) → evalL [] [] (resL keep env loc ts) xs = evalL keep env loc xs
  | [], _ => rfl
  | x :: xs, h => by
    simp only [evalL]
    cases x with
    | tmp t =>
      simp only [tmpsO, List.mem_cons, forall_eq_or_imp] at h
      simp only [evalO, resL_look h.1, resL_eval h.2]
    | const c => simp only [tmpsO] at h; simp only [evalO, resL_eval h]
    | global g => simp only [tmpsO] at h; simp only [evalO, resL_eval h]
    | func f => simp only [tmpsO] at h; simp only [evalO, resL_eval h]

section
variable {P : Program} {C : Cfg} {call : CallF} {loop : LoopF} {keep : List Tmp} {fl : Nat} {ops : List Oper} {env : Env} {pl : Nat → Loc} {ph : Nat → LH}

theorem want_res {loc : Loc} {g : Option (Nat × Bool)} {ts : List Tmp} (h : ∀ t ∈ guardT ops g, t ∈ ts) :
    wantV (mk P C call loop [] fl) ops [] (resL keep env loc ts) g = wantV (mk P C call loop keep fl) ops env loc g := by
  cases g with
  | none => rfl
  | some g =>
    obtain ⟨j, b⟩ := g
    simp only [wantV]
    cases hd : dstOf ops j with
    | none => rfl
    | some d =>
      have : d ∈ ts := h d (by simp [guardT, hd])
      show wantO b (lookL [] [] (resL keep env loc ts) d) = wantO b (lookL keep env loc d)
      rw [resL_look this]

def on (listed : Array Bool) (k : Nat) : Prop := listed.getD k false = true

/-- what holds while the region runs; 'm': the first change that has not come up -/
structure Inv (P : Program) (C : Cfg) (p : Par) (keep : List Tmp) (fl : Nat) (ops : List Oper) (env : Env) (pl : Nat → Loc) (ph : Nat → LH) (φ0 : Phi) (w0 : World) (a0 : Act)
    (listed : Array Bool) (m : Nat) (a : Act) (w : World) (φ : Phi) : Prop where
  size : listed.size = ops.length
  closed : ∀ (k : Nat) (o : Oper) (e : Edge), on listed k → ops[k]? = some o → e ∈ o.after → ties e = true → on listed e.on
  mle : m ≤ ops.length
  mcut : ∀ o : Oper, ops[m]? = some o → cls C.mode o.op = 2 ∧ ¬ on listed m
  effs : ∀ (k : Nat) (o : Oper), k < m → ops[k]? = some o → cls C.mode o.op = 2 → on listed k
  hr : HR p φ (ph m) w
  step : Step fl φ0 (ph 0) w0 φ (ph m) w
  nofl : ∀ (b : Nat) (x : Nat × Nat), φ b = some x → ∀ i, i < ops.length → ¬ on listed i → b < (ph i).length ∨ (ph (i + 1)).length ≤ b
  new : ∀ (k : Nat) (o : Oper) (t : Tmp), on listed k → ops[k]? = some o → o.dst = some t → VR φ w (hv (pl (k + 1))) (a.tmps.getD t undef)
  old : ∀ (t : Tmp) (v : V), lookE keep env t = some v → (∀ (k : Nat) (o : Oper), on listed k → ops[k]? = some o → o.dst ≠ some t) → VR φ w v (a.tmps.getD t undef)
  asz : a.tmps.size = a0.tmps.size
  adf : a.defers = a0.defers

theorem on_set {listed : Array Bool} {i k : Nat} (hs : i < listed.size) : on (listed.setIfInBounds i true) k ↔ k = i ∨ on listed k := by
  unfold on
  by_cases h : i = k
  · subst h; simp [hs]
  · rw [getD_set_ne false h]
    constructor
    · exact .inr
    · rintro (e | e)
      · exact absurd e.symm h
      · exact e

/-- the next change, or the end -/
theorem nextE (mode : FuncId → Mode) (ops : List Oper) : ∀ (d i : Nat), i ≤ ops.length → ops.length - i = d → ∃ m, i ≤ m ∧ m ≤ ops.length ∧ (∀ o, ops[m]? = some o → cls mode o.op = 2) ∧ ∀ j o, i ≤ j → j < m → ops[j]? = some o → cls mode o.op ≠ 2 := by
  intro d
  induction d with
  | zero =>
    intro i hi hd
    exact ⟨i, Nat.le_refl _, hi, fun o ho => by have := (List.getElem?_eq_some_iff.1 ho).1; omega, fun j o h1 h2 => by omega⟩
  | succ d ih =>
    intro i hi hd
    have hlt : i < ops.length := by omega
    have ho := List.getElem?_eq_getElem hlt
    by_cases hc : cls mode (ops[i]'hlt).op = 2
    · exact ⟨i, Nat.le_refl _, hi, fun o h => by rw [ho] at h; injection h with h; subst h; exact hc, fun j o h1 h2 => by omega⟩
    · obtain ⟨m, h1, h2, h3, h4⟩ := ih (i + 1) hlt (by omega)
      refine ⟨m, by omega, h2, h3, fun j o hj1 hj2 hjo => ?_⟩
      rcases Nat.eq_or_lt_of_le hj1 with e | e
      · subst e; rw [ho] at hjo; injection hjo with hjo; subst hjo; exact hc
      · exact h4 j o e hj2 hjo

variable {p : Par} {φ0 : Phi} {w0 : World} {a0 : Act} {listed : Array Bool} {m : Nat} {a : Act} {w : World} {φ : Phi} {n : Nat}

/-- an operation that may come up -/
structure Rdy (ops : List Oper) (listed : Array Bool) (i : Nat) (o : Oper) : Prop where
  get : ops[i]? = some o
  off : ¬ on listed i
  aft : ∀ e, e ∈ o.after → ties e = true → on listed e.on

theorem Inv.ahead (I : Inv P C p keep fl ops env pl ph φ0 w0 a0 listed m a w φ) {i : Nat} {o : Oper} (r : Rdy ops listed i o) {j : Nat} (h : Prec ops j i) : on listed j :=
  h.ready (S := on listed) I.closed r.get r.aft
theorem Inv.back (I : Inv P C p keep fl ops env pl ph φ0 w0 a0 listed m a w φ) {i : Nat} {o : Oper} (r : Rdy ops listed i o) {j : Nat} (h : Prec ops i j) : ¬ on listed j :=
  fun hj => r.off (h.closed (S := on listed) I.closed hj)

/-- what it looks at is known -/
theorem Inv.tmps (D : DrawOk C.mode ops) (T : Tr (Lg.mk P C call loop keep fl) ops env ops pl ph) (h0 : pl 0 = []) (I : Inv P C p keep fl ops env pl ph φ0 w0 a0 listed m a w φ) {i : Nat} {o : Oper} (r : Rdy ops listed i o) :
    TmpR φ w [] [] (resL keep env (pl i) (looks ops o)) a := by
  intro t v e
  obtain ⟨ht, hl⟩ := resL_sound e
  have hi : i < ops.length := (List.getElem?_eq_some_iff.1 r.get).1
  rcases T.look h0 (Nat.le_of_lt hi) hl with ⟨k, ok, hk, hko, hd, rfl⟩ | ⟨hn, hE⟩
  · refine I.new k ok t ?_ hko hd
    rcases D.look i o t k ok r.get ht hko hd with ⟨_, h⟩ | ⟨h, _⟩
    · exact I.ahead r h
    · omega
  · refine I.old t v hE fun k ok hk hko hd => ?_
    rcases D.look i o t k ok r.get ht hko hd with ⟨h, _⟩ | ⟨_, h⟩
    · exact hn k ok h hko hd
    · exact I.back r h hk

theorem hv_put {d : Option Tmp} {t : Tmp} {v : V} {l l' : Loc} (hd : d = some t) (h : l' = putL d v l) : hv l' = v := by
  subst hd; rw [h]; rfl

/-- temporaries behind an operation -/
theorem Inv.tmps' (D : DrawOk C.mode ops) (I : Inv P C p keep fl ops env pl ph φ0 w0 a0 listed m a w φ) {i : Nat} {o : Oper} (r : Rdy ops listed i o) (hd : inFrame n o.dst = true) (hn : n ≤ a0.tmps.size) {φ' : Phi} {w' : World} {u : Value}
    (he : Ext φ w φ' w') (hu : ∀ t, o.dst = some t → VR φ' w' (hv (pl (i + 1))) u) :
    (∀ (k : Nat) (ok : Oper) (t : Tmp), on (listed.setIfInBounds i true) k → ops[k]? = some ok → ok.dst = some t → VR φ' w' (hv (pl (k + 1))) ((a.put o.dst u).tmps.getD t undef)) ∧
    (∀ (t : Tmp) (v : V), lookE keep env t = some v → (∀ (k : Nat) (ok : Oper), on (listed.setIfInBounds i true) k → ops[k]? = some ok → ok.dst ≠ some t) → VR φ' w' v ((a.put o.dst u).tmps.getD t undef)) := by
  have hi : i < ops.length := (List.getElem?_eq_some_iff.1 r.get).1
  have hs : i < listed.size := by rw [I.size]; exact hi
  refine ⟨fun k ok t hk hko hdt => ?_, fun t v hE hno => ?_⟩
  · rcases (on_set hs).1 hk with rfl | hk
    · rw [r.get] at hko; injection hko with hko; subst hko
      rw [hdt, put_same]
      · exact hu t hdt
      · rw [hdt] at hd
        simp only [inFrame, decide_eq_true_eq] at hd
        rw [I.asz]; exact Nat.lt_of_lt_of_le hd hn
    · have hne : i ≠ k := fun e => r.off (by rw [e]; exact hk)
      rw [put_get]
      · exact (I.new k ok t hk hko hdt).mono he
      · rcases Nat.lt_or_ge i k with h | h
        · exact fun e => D.dsts i k o ok t h r.get hko e hdt
        · exact D.dsts k i ok o t (by omega) hko r.get hdt
  · rw [put_get (hno i o ((on_set hs).2 (.inl rfl)) r.get)]
    exact (I.old t v hE fun k ok hk => hno k ok ((on_set hs).2 (.inr hk))).mono he

theorem Inv.closed' (I : Inv P C p keep fl ops env pl ph φ0 w0 a0 listed m a w φ) {i : Nat} {o : Oper} (r : Rdy ops listed i o) :
    ∀ (k : Nat) (ok : Oper) (e : Edge), on (listed.setIfInBounds i true) k → ops[k]? = some ok → e ∈ ok.after → ties e = true → on (listed.setIfInBounds i true) e.on := by
  have hs : i < listed.size := by rw [I.size]; exact (List.getElem?_eq_some_iff.1 r.get).1
  intro k ok e hk hko he hb
  refine (on_set hs).2 (.inr ?_)
  rcases (on_set hs).1 hk with rfl | hk
  · rw [r.get] at hko; injection hko with hko; subst hko; exact r.aft e he hb
  · exact I.closed k ok e hk hko he hb
theorem Inv.nofl' (hg : CallG call) (T : Tr (Lg.mk P C call loop keep fl) ops env ops pl ph) (hf : fl ≤ (ph 0).length) (I : Inv P C p keep fl ops env pl ph φ0 w0 a0 listed m a w φ) {i : Nat} {o : Oper} (r : Rdy ops listed i o) {φ' : Phi}
    (hdom : ∀ b x, φ' b = some x → φ b = none → (ph i).length ≤ b ∧ b < (ph (i + 1)).length) (hext : ∀ b x, φ b = some x → φ' b = some x) :
    ∀ (b : Nat) (x : Nat × Nat), φ' b = some x → ∀ j, j < ops.length → ¬ on (listed.setIfInBounds i true) j → b < (ph j).length ∨ (ph (j + 1)).length ≤ b := by
  have hi : i < ops.length := (List.getElem?_eq_some_iff.1 r.get).1
  have hs : i < listed.size := by rw [I.size]; exact hi
  have mono : ∀ {x y : Nat}, x ≤ y → y ≤ ops.length → (ph x).length ≤ (ph y).length := fun {x y} h1 h2 => by
    have h3 := (T.grow hg hf (Nat.zero_le x) (Nat.le_trans h1 h2) hf).len
    exact (T.grow hg hf h1 h2 (Nat.le_trans hf h3)).len
  intro b x e j hj hno
  have hji : j ≠ i := fun h => hno ((on_set hs).2 (.inl h))
  have hnj : ¬ on listed j := fun h => hno ((on_set hs).2 (.inr h))
  cases ho : φ b with
  | some y => exact I.nofl b y ho j hj hnj
  | none =>
    have := hdom b x e ho
    rcases Nat.lt_or_ge i j with h | h
    · have := mono (show i + 1 ≤ j from h) (Nat.le_of_lt hj); left; omega
    · have := mono (show j + 1 ≤ i by omega) (Nat.le_of_lt hi); right; omega

/-- an operation came up that changes nothing -/
theorem Inv.soft (hg : CallG call) (D : DrawOk C.mode ops) (T : Tr (Lg.mk P C call loop keep fl) ops env ops pl ph) (hf : fl ≤ (ph 0).length) (I : Inv P C p keep fl ops env pl ph φ0 w0 a0 listed m a w φ) {i : Nat} {o : Oper} (r : Rdy ops listed i o)
    (hc : cls C.mode o.op ≠ 2) (hd : inFrame n o.dst = true) (hn : n ≤ a0.tmps.size) {φ' : Phi} {w' : World} {u : Value} (he : Ext φ w φ' w') (hu : ∀ t, o.dst = some t → VR φ' w' (hv (pl (i + 1))) u)
    (hdom : ∀ b x, φ' b = some x → φ b = none → (ph i).length ≤ b ∧ b < (ph (i + 1)).length) (hr : HR p φ' (ph m) w') (hst : Step fl φ0 (ph 0) w0 φ' (ph m) w') :
    Inv P C p keep fl ops env pl ph φ0 w0 a0 (listed.setIfInBounds i true) m (a.put o.dst u) w' φ' := by
  have hi : i < ops.length := (List.getElem?_eq_some_iff.1 r.get).1
  have hs : i < listed.size := by rw [I.size]; exact hi
  obtain ⟨hnew, hold⟩ := I.tmps' (n := n) D r hd hn he hu
  refine ⟨by simp [I.size], I.closed' r, I.mle, fun om hm => ⟨(I.mcut om hm).1, fun h => ?_⟩, fun k ok hk hko hkc => (on_set hs).2 (.inr (I.effs k ok hk hko hkc)), hr, hst, I.nofl' hg T hf r hdom he.ext, hnew, hold, by rw [put_size, I.asz], by rw [put_defers, I.adf]⟩
  rcases (on_set hs).1 h with h | h
  · subst h
    rw [r.get] at hm; injection hm with hm; subst hm
    exact hc (I.mcut _ r.get).1
  · exact (I.mcut om hm).2 h

/-- a change came up -/
theorem Inv.hard (hg : CallG call) (hm : CallM C.mode call) (D : DrawOk C.mode ops) (T : Tr (Lg.mk P C call loop keep fl) ops env ops pl ph) (hf : fl ≤ (ph 0).length) (I : Inv P C p keep fl ops env pl ph φ0 w0 a0 listed m a w φ) {o : Oper} (r : Rdy ops listed m o)
    (hd : inFrame n o.dst = true) (hn : n ≤ a0.tmps.size) {φ' : Phi} {w' : World} {u : Value} (he : Ext φ w φ' w') (hu : ∀ t, o.dst = some t → VR φ' w' (hv (pl (m + 1))) u)
    (hdom : ∀ b x, φ' b = some x → φ b = none → (ph m).length ≤ b ∧ b < (ph (m + 1)).length) (hr : HR p φ' (ph (m + 1)) w') (hst : Step fl φ0 (ph 0) w0 φ' (ph (m + 1)) w') :
    ∃ m', Inv P C p keep fl ops env pl ph φ0 w0 a0 (listed.setIfInBounds m true) m' (a.put o.dst u) w' φ' := by
  have hi : m < ops.length := (List.getElem?_eq_some_iff.1 r.get).1
  have hs : m < listed.size := by rw [I.size]; exact hi
  obtain ⟨hnew, hold⟩ := I.tmps' (n := n) D r hd hn he hu
  obtain ⟨m', h1, h2, h3, h4⟩ := nextE C.mode ops _ (m + 1) hi rfl
  have hcm : cls C.mode o.op = 2 := (I.mcut o r.get).1
  -- behind the change only values came up
  have hsoft : ∀ k ok, m < k → ops[k]? = some ok → on listed k → cls C.mode ok.op = 0 := by
    intro k ok hk hko hon
    have c3 : cls C.mode ok.op = 0 ∨ cls C.mode ok.op = 1 ∨ cls C.mode ok.op = 2 := by
      cases ok.op <;> simp only [cls] <;> try decide
      case convert => split <;> decide
      unfold clsC
      split <;> try decide
      split <;> decide
    rcases c3 with h | h | h
    · exact h
    · exact absurd hon (I.back r (D.pair21 m k o ok hk r.get hko hcm h))
    · exact absurd hon (I.back r (D.pair22 m k o ok hk r.get hko hcm h))
  obtain ⟨L, hL⟩ := T.ext hm h1 h2 h4
  have hgap : ∀ b x, φ' b = some x → b < (ph (m + 1)).length ∨ (ph m').length ≤ b := by
    intro b x e
    rcases Nat.lt_or_ge b (ph (m + 1)).length with h | h
    · exact .inl h
    · right
      have hφ : φ b = some x := by
        cases ho : φ b with
        | none => have := hdom b x e ho; omega
        | some y => have := he.ext b y ho; rw [e] at this; exact this.symm
      have key : ∀ k, m + 1 ≤ k → k ≤ m' → (ph k).length ≤ b := by
        intro k hk
        induction hk with
        | refl => intro _; exact h
        | step hk ih =>
          rename_i k
          intro hkm
          have hb := ih (by omega)
          have hkl : k < ops.length := by omega
          have hko := List.getElem?_eq_getElem hkl
          by_cases hon : on listed k
          · have hc0 := hsoft k _ hk hko hon
            rcases T.step k _ hko with ⟨_, v, hst', _⟩ | ⟨_, he', _⟩
            · rw [(doOp_val (stepO_do hst').1 hc0).1]; exact hb
            · rw [he']; exact hb
          · rcases I.nofl b x hφ k hkl hon with h' | h'
            · omega
            · exact h'
      exact key m' h1 (Nat.le_refl _)
  refine ⟨m', ⟨by simp [I.size], I.closed' r, h2, fun om hom => ⟨h3 om hom, fun h => ?_⟩, fun k ok hk hko hkc => (on_set hs).2 ?_, ?_, ?_, I.nofl' hg T hf r hdom he.ext, hnew, hold, by rw [put_size, I.asz], by rw [put_defers, I.adf]⟩⟩
  · rcases (on_set hs).1 h with h | h
    · omega
    · have := hsoft m' om (by omega) hom h
      rw [h3 om hom] at this; cases this
  · rcases Nat.lt_trichotomy k m with h | h | h
    · exact .inr (I.effs k ok h hko hkc)
    · exact .inl h
    · exact absurd hkc (h4 k ok h hk hko)
  · rw [hL]
    refine hr.ext fun b x e => ?_
    rcases hgap b x e with h | h
    · exact .inl h
    · right; rw [hL] at h; simpa using h
  · rw [hL]; exact hst.ext' L
end
end Go.Proofs.YtbjpecknlohicaaDoor.Lg
