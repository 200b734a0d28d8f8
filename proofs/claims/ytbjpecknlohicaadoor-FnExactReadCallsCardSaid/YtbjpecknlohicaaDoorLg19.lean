/- The logical machine against the model: the states that a region's run passes. No condition. -/
import Derived.Test.YtbjpecknlohicaaDoorLg18
namespace Go.Proofs.YtbjpecknlohicaaDoor.Lg
set_option linter.unusedSimpArgs false
set_option linter.unusedVariables false
open Go.RowKit (Below)

/-- the states that a run passes: 'pl' and 'ph' by the number of the operation that comes next -/
structure Tr (X : Ctx) (ops : List Oper) (env : Env) (rest : List Oper) (pl : Nat → Loc) (ph : Nat → LH) : Prop where
  step : ∀ (i : Nat) (o : Oper), rest[i]? = some o →
    (wantV X ops env (pl i) o.guard = some true ∧ ∃ v, stepO X ops env (pl i) (ph i) o = some (v, ph (i + 1)) ∧ pl (i + 1) = putL o.dst v (pl i)) ∨
    (wantV X ops env (pl i) o.guard = some false ∧ ph (i + 1) = ph i ∧ pl (i + 1) = putL o.dst und (pl i))

theorem trace {X : Ctx} {ops : List Oper} {env : Env} {lf : Loc} {Hf : LH} : ∀ {rest : List Oper} {l : Loc} {H : LH}, opsV X ops env rest l H = some (lf, Hf) →
    ∃ pl ph, Tr X ops env rest pl ph ∧ pl 0 = l ∧ ph 0 = H ∧ pl rest.length = lf ∧ ph rest.length = Hf := by
  intro rest
  induction rest with
  | nil =>
    intro l H h
    injection h with h; injection h with h1 h2
    exact ⟨fun _ => l, fun _ => H, ⟨fun i o e => by simp at e⟩, rfl, rfl, h1, h2⟩
  | cons o rest ih =>
    intro l H h
    simp only [opsV] at h
    have key : ∀ (l1 : Loc) (H1 : LH), opsV X ops env rest l1 H1 = some (lf, Hf) →
        ((wantV X ops env l o.guard = some true ∧ ∃ v, stepO X ops env l H o = some (v, H1) ∧ l1 = putL o.dst v l) ∨ (wantV X ops env l o.guard = some false ∧ H1 = H ∧ l1 = putL o.dst und l)) →
        ∃ pl ph, Tr X ops env (o :: rest) pl ph ∧ pl 0 = l ∧ ph 0 = H ∧ pl (o :: rest).length = lf ∧ ph (o :: rest).length = Hf := by
      intro l1 H1 h1 h2
      obtain ⟨pl, ph, ht, hp, hh, hpl, hph⟩ := ih h1
      refine ⟨fun i => match i with | 0 => l | i + 1 => pl i, fun i => match i with | 0 => H | i + 1 => ph i, ⟨fun i x e => ?_⟩, rfl, rfl, by simpa using hpl, by simpa using hph⟩
      cases i with
      | zero =>
        simp at e; subst e
        show (wantV X ops env l o.guard = some true ∧ ∃ v, stepO X ops env l H o = some (v, ph 0) ∧ pl 0 = putL o.dst v l) ∨ (wantV X ops env l o.guard = some false ∧ ph 0 = H ∧ pl 0 = putL o.dst und l)
        rw [hp, hh]; exact h2
      | succ i => exact ht.step i x (by simpa using e)
    split at h
    · rename_i hw
      split at h
      · rename_i v H1 hs; exact key _ _ h (.inl ⟨hw, v, hs, rfl⟩)
      · cases h
    · rename_i hw; exact key _ _ h (.inr ⟨hw, rfl, rfl⟩)
    · cases h

def hv : Loc → V
  | (_, v) :: _ => v
  | [] => und

section
variable {X : Ctx} {ops : List Oper} {env : Env} {pl : Nat → Loc} {ph : Nat → LH} {C : Cfg}

theorem Tr.put (T : Tr X ops env ops pl ph) {i : Nat} {o : Oper} (h : ops[i]? = some o) : ∃ v, pl (i + 1) = putL o.dst v (pl i) := by
  rcases T.step i o h with ⟨_, v, _, h⟩ | ⟨_, _, h⟩
  · exact ⟨v, h⟩
  · exact ⟨und, h⟩
theorem Tr.look (T : Tr X ops env ops pl ph) (h0 : pl 0 = []) {keep : List Tmp} {t : Tmp} {v : V} : ∀ {i : Nat}, i ≤ ops.length → lookL keep env (pl i) t = some v →
    (∃ k o, k < i ∧ ops[k]? = some o ∧ o.dst = some t ∧ v = hv (pl (k + 1))) ∨ ((∀ k o, k < i → ops[k]? = some o → o.dst ≠ some t) ∧ lookE keep env t = some v) := by
  intro i
  induction i with
  | zero => intro _ e; rw [h0] at e; exact .inr ⟨fun k o h => by omega, e⟩
  | succ i ih =>
    intro hi e
    have ho := List.getElem?_eq_getElem (show i < ops.length by omega)
    obtain ⟨x, hx⟩ := T.put ho
    by_cases hd : (ops[i]'(by omega)).dst = some t
    · left
      refine ⟨i, _, by omega, ho, hd, ?_⟩
      rw [hx, hd] at e
      simp only [putL, lookL, if_true] at e
      injection e with e; subst e
      rw [hx, hd]; rfl
    · have e' : lookL keep env (pl i) t = some v := by
        rw [hx] at e
        cases hdd : (ops[i]'(by omega)).dst with
        | none => rw [hdd] at e; exact e
        | some d =>
          rw [hdd] at e hd
          simp only [putL, lookL] at e
          rw [if_neg (by intro h; exact hd (by rw [h]))] at e
          exact e
      rcases ih (by omega) e' with ⟨k, o, hk, h1, h2, h3⟩ | ⟨h1, h2⟩
      · exact .inl ⟨k, o, by omega, h1, h2, h3⟩
      · refine .inr ⟨fun k o hk hko => ?_, h2⟩
        rcases Nat.lt_or_ge k i with h | h
        · exact h1 k o h hko
        · have : k = i := by omega
          subst this
          rw [ho] at hko; injection hko with hko; subst hko; exact hd
theorem Tr.stay (T : Tr X ops env ops pl ph) {keep : List Tmp} {t : Tmp} {i : Nat} : ∀ {k : Nat}, i ≤ k → k ≤ ops.length → (∀ j o, i ≤ j → j < k → ops[j]? = some o → o.dst ≠ some t) → lookL keep env (pl k) t = lookL keep env (pl i) t := by
  intro k hik
  induction hik with
  | refl => intro _ _; rfl
  | step hik ih =>
    rename_i k
    intro hk hn
    have hk' : k < ops.length := hk
    have ho := List.getElem?_eq_getElem hk'
    obtain ⟨x, hx⟩ := T.put ho
    have hd := hn k _ hik (Nat.lt_succ_self k) ho
    rw [hx, ← ih (by omega) (fun j o h1 h2 => hn j o h1 (by omega))]
    cases hdd : (ops[k]'hk').dst with
    | none => rfl
    | some d =>
      rw [hdd] at hd
      simp only [putL, lookL]
      rw [if_neg (by intro h; exact hd (by rw [h]))]

theorem Tr.grow {P : Program} {call : CallF} {loop : LoopF} {keep : List Tmp} {fl : Nat} (hg : CallG call) (T : Tr (Lg.mk P C call loop keep fl) ops env ops pl ph) (hf : fl ≤ (ph 0).length) {i : Nat} :
    ∀ {k : Nat}, i ≤ k → k ≤ ops.length → fl ≤ (ph i).length → Grow fl (ph i) (ph k) := by
  intro k hik
  induction hik with
  | refl => intro _ _; exact .refl _ _
  | step hik ih =>
    rename_i k
    intro hk hi
    have hk' : k < ops.length := hk
    have ho := List.getElem?_eq_getElem hk'
    have g := ih (by omega) hi
    rcases T.step k _ ho with ⟨_, v, hs, _⟩ | ⟨_, he, _⟩
    · exact g.trans (doOp_grow hg (Nat.le_trans hi g.len) (stepO_do hs).1)
    · rw [he]; exact g
theorem Tr.ext {P : Program} {call : CallF} {loop : LoopF} {keep : List Tmp} {fl : Nat} (hm : CallM C.mode call) (T : Tr (Lg.mk P C call loop keep fl) ops env ops pl ph) {i : Nat} :
    ∀ {k : Nat}, i ≤ k → k ≤ ops.length → (∀ j o, i ≤ j → j < k → ops[j]? = some o → cls C.mode o.op ≠ 2) → ∃ L, ph k = ph i ++ L := by
  have c3 : ∀ o, cls C.mode o = 0 ∨ cls C.mode o = 1 ∨ cls C.mode o = 2 := by
    intro o
    cases o <;> simp only [cls] <;> try decide
    case convert => split <;> decide
    unfold clsC
    split <;> try decide
    split <;> decide
  intro k hik
  induction hik with
  | refl => intro _ _; exact ⟨[], by simp⟩
  | step hik ih =>
    rename_i k
    intro hk hn
    have hk' : k < ops.length := hk
    have ho := List.getElem?_eq_getElem hk'
    obtain ⟨L, hL⟩ := ih (by omega) (fun j o h1 h2 => hn j o h1 (by omega))
    rcases T.step k _ ho with ⟨_, v, hs, _⟩ | ⟨_, he, _⟩
    · have hs := (stepO_do hs).1
      have hc := hn k _ hik (Nat.lt_succ_self k) ho
      rcases c3 (ops[k]'hk').op with h | h | h
      · rw [(doOp_val hs h).1]; exact ⟨L, hL⟩
      · obtain ⟨L', hL'⟩ := (doOp_mem hm rfl hs h).1
        exact ⟨L ++ L', by rw [hL', hL, List.append_assoc]⟩
      · exact absurd h hc
    · rw [he]; exact ⟨L, hL⟩
end

/-! ### a load that need not wait -/
theorem cellsAt_left {H L : LH} {b : Nat} {cs : List V} (h : H.cellsAt b = some cs) : LH.cellsAt (H ++ L) b = some cs := by
  have h1 := cellsAt_some h
  unfold LH.cellsAt
  rw [List.getElem?_append_left (List.getElem?_eq_some_iff.1 h1).1, h1]
theorem loadO_left {G : Nat → Option (List V)} {H L : LH} {a v : V} {i : Option TI} {H' : LH} (h : loadO G H a i = some (v, H')) : loadO G (H ++ L) a i = some (v, H ++ L) := by
  have key : ∀ {g : Bool} {o n : Nat} {cs : Option (List V)} {K : LH}, cellO H g o n cs = some (v, H') → cellO K g o n cs = some (v, K) := by
    intro g o n cs K h
    unfold cellO at h ⊢
    cases cs with
    | none => cases h
    | some cs =>
      cases g with
      | true =>
        obtain ⟨hc, h⟩ := grd_some h
        injection h with h; injection h with h _; subst h
        simp only [grd, if_pos hc]
      | false =>
        simp only at h ⊢
        split at h
        · rename_i hx; injection h with h; injection h with h _; subst h; rfl
        · cases h
  unfold loadO at h ⊢
  cases i with
  | none => cases h
  | some i =>
    unfold loadV at h ⊢
    cases a with
    | ptr b o =>
      simp only at h ⊢
      cases hb : H.cellsAt b with
      | none => rw [hb] at h; cases h
      | some cs => rw [cellsAt_left hb]; rw [hb] at h; exact key h
    | gptr b o => exact key h
    | _ => cases h
theorem loadO_set {G : Nat → Option (List V)} {H : LH} {a v : V} {i : Option TI} {H' : LH} {b o : Nat} {x : Blk} (h : loadO G H a i = some (v, H')) (hb : apartV (some a) (some (.ptr b o)) = true) : loadO G (H.set b x) a i = some (v, H.set b x) := by
  have key : ∀ {g : Bool} {o n : Nat} {cs : Option (List V)} {K : LH}, cellO H g o n cs = some (v, H') → cellO K g o n cs = some (v, K) := by
    intro g o n cs K h
    unfold cellO at h ⊢
    cases cs with
    | none => cases h
    | some cs =>
      cases g with
      | true =>
        obtain ⟨hc, h⟩ := grd_some h
        injection h with h; injection h with h _; subst h
        simp only [grd, if_pos hc]
      | false =>
        simp only at h ⊢
        split at h
        · rename_i hx; injection h with h; injection h with h _; subst h; rfl
        · cases h
  unfold loadO at h ⊢
  cases i with
  | none => cases h
  | some i =>
    unfold loadV at h ⊢
    cases a with
    | ptr b' o' =>
      simp only [apartV, decide_eq_true_eq] at hb
      simp only at h ⊢
      have : LH.cellsAt (H.set b x) b' = H.cellsAt b' := by
        unfold LH.cellsAt
        rw [List.getElem?_set_ne (fun e => hb e.symm)]
      rw [this]; exact key h
    | gptr b o => exact key h
    | _ => cases h
end Go.Proofs.YtbjpecknlohicaaDoor.Lg
