/- The logical machine against the model: code. No condition. -/
import Derived.Test.YtbjpecknlohicaaDoorLg21
namespace Go.Proofs.YtbjpecknlohicaaDoor.Lg
set_option linter.unusedSimpArgs false
set_option linter.unusedVariables false
open Go.RowKit (Below)

/-! ### a region whose order is drawn, whole -/
def off1 (listed : Array Bool) (i : Nat) : Bool := !listed.getD i false
def cnt (listed : Array Bool) (n : Nat) : Nat := (List.range n).countP (off1 listed)
theorem countP_le {α : Type} {p q : α → Bool} : ∀ {l : List α}, (∀ x, q x = true → p x = true) → l.countP q ≤ l.countP p
  | [], _ => Nat.le_refl _
  | x :: l, h => by
    have := countP_le (l := l) h
    simp only [List.countP_cons]
    split <;> split <;> first | omega | (rename_i h1 h2; exact absurd (h x h1) h2)
theorem countP_lt {α : Type} {p q : α → Bool} {a : α} : ∀ {l : List α}, a ∈ l → p a = true → q a = false → (∀ x, q x = true → p x = true) → l.countP q < l.countP p
  | x :: l, hm, hp, hq, h => by
    simp only [List.countP_cons]
    rcases List.mem_cons.1 hm with e | hm
    · subst e
      have := countP_le (l := l) h
      rw [if_pos hp, if_neg (by rw [hq]; decide)]; omega
    · have := countP_lt hm hp hq h
      split <;> split <;> first | omega | (rename_i h1 h2; exact absurd (h x h1) h2)
theorem cnt_set {listed : Array Bool} {n i : Nat} (hi : i < n) (hs : i < listed.size) (hoff : ¬ on listed i) : cnt (listed.setIfInBounds i true) n < cnt listed n := by
  refine countP_lt (a := i) (by simpa using hi) (by simpa [off1, on] using hoff) ?_ ?_
  · simp [off1, hs]
  · intro x hx
    by_cases e : i = x
    · subst e; simp [off1, hs] at hx
    · simpa [off1, getD_set_ne false e] using hx

section
variable {P : Program} {C : Cfg} {call : CallF} {loop : LoopF} {keep : List Tmp} {fl : Nat} {ops : List Oper} {env : Env} {pl : Nat → Loc} {ph : Nat → LH}
variable {p : Par} {φ0 : Phi} {w0 : World} {a0 : Act} {n : Nat}

theorem ready_iff {listed : Array Bool} {i : Nat} (hs : listed.size = ops.length) : i ∈ Region.ready .any ops.toArray listed ↔ ∃ o, Rdy ops listed i o := by
  rw [mem_ready]
  constructor
  · rintro ⟨h1, o, ho, h2⟩
    have ho : ops[i]? = some o := by simpa using ho
    have hi : i < ops.length := (List.getElem?_eq_some_iff.1 ho).1
    refine ⟨o, ho, ?_, h2⟩
    unfold on
    have : listed.getD i false = listed.getD i true := by simp [hs, hi]
    rw [this, h1]; decide
  · rintro ⟨o, ho, h1, h2⟩
    have hi : i < ops.length := (List.getElem?_eq_some_iff.1 ho).1
    refine ⟨?_, o, by simpa using ho, h2⟩
    have : listed.getD i true = listed.getD i false := by simp [hs, hi]
    rw [this]
    unfold on at h1
    simpa using h1

theorem drawn_all {Q : Exit → Act → World → Prop} (hc : CallOk P C.glob call) (hg : CallG call) (hm : CallM C.mode call) (hG : p.G = C.glob) (hR : p.R0 ≤ fl) (D : DrawOk C.mode ops) (T : Tr (Lg.mk P C call loop keep fl) ops env ops pl ph)
    (h0 : pl 0 = []) (hf : fl ≤ (ph 0).length) (nf0 : NoFloat φ0 (ph 0) (ph ops.length)) (hB : ∀ i, i ≤ ops.length → HB (ph i) ∧ EL (ph i).length env ∧ LL (ph i).length (pl i)) (hd : ∀ o ∈ ops, inFrame n o.dst = true) (hn : n ≤ a0.tmps.size)
    (k : ∀ a' w' φ', Post p keep fl φ0 (ph 0) w0 a0 env (pl ops.length) (ph ops.length) a' w' φ' → Q .normal a' w') :
    ∀ (fuel : Nat) (listed : Array Bool) (m : Nat) (a : Act) (w : World) (φ : Phi), Inv P C p keep fl ops env pl ph φ0 w0 a0 listed m a w φ → cnt listed ops.length ≤ fuel → wpAny P .any ops.toArray Q fuel listed a w := by
  have done : ∀ (listed : Array Bool) (m : Nat) (a : Act) (w : World) (φ : Phi), Inv P C p keep fl ops env pl ph φ0 w0 a0 listed m a w φ → Region.ready .any ops.toArray listed = [] → Q .normal a w := by
    intro listed m a w φ I hr
    have hall : ∀ j, j < ops.length → on listed j := by
      intro j
      induction j using Nat.strongRecOn with
      | _ j ih =>
        intro hj
        by_cases h : on listed j
        · exact h
        · have hjo := List.getElem?_eq_getElem hj
          have : j ∈ Region.ready .any ops.toArray listed := (ready_iff I.size).2 ⟨_, hjo, h, fun e he hb => by
            have := D.back j _ e hjo he hb
            exact ih e.on this (by omega)⟩
          rw [hr] at this; cases this
    have hmn : m = ops.length := by
      rcases Nat.lt_or_ge m ops.length with h | h
      · exact absurd (hall m h) (I.mcut _ (List.getElem?_eq_getElem h)).2
      · have := I.mle; omega
    subst hmn
    refine k a w φ ⟨I.hr, fun t v e => ?_, I.step, I.asz, I.adf⟩
    rcases T.look h0 (Nat.le_refl _) e with ⟨j, o, hj, hjo, hdst, rfl⟩ | ⟨hno, he⟩
    · exact I.new j o t (hall j hj) hjo hdst
    · exact I.old t v he fun j o _ hjo => hno j o (List.getElem?_eq_some_iff.1 hjo).1 hjo
  intro fuel
  induction fuel with
  | zero =>
    intro listed m a w φ I hcnt
    have hr : Region.ready .any ops.toArray listed = [] := by
      cases hr : Region.ready .any ops.toArray listed with
      | nil => rfl
      | cons i is =>
        have : i ∈ Region.ready .any ops.toArray listed := by rw [hr]; simp
        obtain ⟨o, r⟩ := (ready_iff I.size).1 this
        have hi : i < ops.length := (List.getElem?_eq_some_iff.1 r.get).1
        have := cnt_set hi (by rw [I.size]; exact hi) r.off
        omega
    exact ⟨hr, done listed m a w φ I hr⟩
  | succ fuel ih =>
    intro listed m a w φ I hcnt
    refine ⟨fun hr => done listed m a w φ I hr, fun i hi => ?_⟩
    obtain ⟨o, r⟩ := (ready_iff I.size).1 hi
    have hil : i < ops.length := (List.getElem?_eq_some_iff.1 r.get).1
    have := cnt_set hil (by rw [I.size]; exact hil) r.off
    exact drawn_op hc hg hm hG hR D T h0 hf nf0 hB hd hn I r fun m' a' w' φ' I' => ih _ m' a' w' φ' I' (by omega)

theorem drawW {Q : Exit → Act → World → Prop} (hmix : P.follows .mixedOrders = true) (hc : CallOk P C.glob call) (hg : CallG call) (hl : CallL call) (hGl : GloL C.glob) (hm : CallM C.mode call) (hG : p.G = C.glob) (hR : p.R0 ≤ fl) (hD : drawOk C.mode ops = true)
    {id : Nat} {H H' : LH} {loc' : Loc} {φ : Phi} {w : World} {a : Act} (e : opsV (mk P C call loop keep fl) ops env ops [] H = some (loc', H'))
    (hd : ∀ o ∈ ops, inFrame n o.dst = true) (hn : n ≤ a.tmps.size) (h : HR p φ H w) (hT : TmpR φ w keep env [] a) (hf : fl ≤ H.length) (nf : NoFloat φ H H') (hb : HB H) (hE : EL H.length env)
    (k : ∀ a' w' φ', Post p keep fl φ H w a env loc' H' a' w' φ' → Q .normal a' w') : (Code.region id ops.toArray true).wp P Q a w := by
  obtain ⟨pl, ph, T, hp0, hh0, hpn, hhn⟩ := trace e
  subst hh0; subst hpn; subst hhn
  have D := drawOk_ok hD
  have hmono : ∀ {x y : Nat}, x ≤ y → y ≤ ops.length → Grow fl (ph x) (ph y) := fun {x y} h1 h2 => by
    have h3 := (T.grow hg hf (Nat.zero_le x) (Nat.le_trans h1 h2) hf).len
    exact T.grow hg hf h1 h2 (Nat.le_trans hf h3)
  have hB : ∀ i, i ≤ ops.length → HB (ph i) ∧ EL (ph i).length env ∧ LL (ph i).length (pl i) := by
    intro i
    induction i with
    | zero => intro _; exact ⟨hb, hE, by rw [hp0]; intro t v hv; cases hv⟩
    | succ i ih =>
      intro hi
      obtain ⟨k1, k2, k3⟩ := ih (by omega)
      have hil : i < ops.length := hi
      have ho := List.getElem?_eq_getElem hil
      rcases T.step i _ ho with ⟨_, v, hs, hpl⟩ | ⟨_, hph, hpl⟩
      · have hs := (stepO_do hs).1
        have g := hmono (Nat.le_succ i) hi
        have gd := doOp_lt hl (ty_TypL P) hGl (Nat.le_trans hf (hmono (Nat.zero_le i) (by omega)).len) k1 (fun x hx => evalL_lt k2 k3 hx) hs
        rw [hpl]
        exact ⟨gd.1, k2.mono g.len, putL_lt (k3.mono g.len) gd.2⟩
      · rw [hph, hpl]; exact ⟨k1, k2, putL_lt k3 und_lt⟩
  refine wp_region_any hmix ?_
  obtain ⟨m, _, hm2, hm3, hm4⟩ := nextE C.mode ops _ 0 (Nat.zero_le _) rfl
  obtain ⟨L, hL⟩ := T.ext hm (Nat.zero_le m) hm2 hm4
  have hoff : ∀ i, ¬ on (Array.replicate ops.toArray.size false) i := by
    intro i
    unfold on
    by_cases h : i < ops.length <;> simp [h]
  have hmn := (hmono hm2 (Nat.le_refl _)).len
  refine drawn_all (φ0 := φ) (w0 := w) (a0 := a) hc hg hm hG hR D T hp0 hf nf hB hd hn k ops.toArray.size _ m a _ φ ⟨by simp, fun k o e hk => absurd hk (hoff k), hm2, fun o ho => ⟨hm3 o ho, hoff m⟩, fun k o hk ho hc2 => absurd hc2 (hm4 k o (Nat.zero_le _) hk ho), ?_, ?_, ?_, fun k o t hk => absurd hk (hoff k), fun t v he _ => ?_, rfl, rfl⟩ ?_
  · rw [hL]
    refine (h.drew _).ext fun b x e => ?_
    rcases nf b x e with h1 | h1
    · exact .inl h1
    · right; rw [hL] at hmn; simp at hmn; omega
  · rw [hL]; exact (Step.drew _).ext' L
  · intro b x e i hi _
    rcases nf b x e with h1 | h1
    · exact .inl (Nat.lt_of_lt_of_le h1 (hmono (Nat.zero_le i) (Nat.le_of_lt hi)).len)
    · right
      have := (hmono (show i + 1 ≤ ops.length from hi) (Nat.le_refl _)).len
      omega
  · exact VR.mono (φ := φ) (w := w) (φ' := φ) (w' := { w with drawn := w.drawn + 1 }) ⟨fun _ _ h => h, fun _ _ h => h⟩ (hT t v he)
  · unfold cnt
    have := List.countP_le_length (p := off1 (Array.replicate ops.toArray.size false)) (l := List.range ops.length)
    simpa using this
end
end Go.Proofs.YtbjpecknlohicaaDoor.Lg
