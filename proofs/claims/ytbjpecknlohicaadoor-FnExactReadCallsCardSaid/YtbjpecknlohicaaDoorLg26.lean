/- The logical machine against the model: code. No condition. -/
import Derived.Test.YtbjpecknlohicaaDoorLg25
import Derived.LoopN
namespace Go.Proofs.YtbjpecknlohicaaDoor.Lg
set_option linter.unusedSimpArgs false
set_option linter.unusedVariables false
open Go.RowKit (Below)

/-- the static rule for code -/
def codeOk (mode : FuncId → Mode) (n : Nat) : Code → Bool
  | .region _ ops d => ops.toList.all (fun o => inFrame n o.dst) && (!d || drawOk mode ops.toList)
  | .seq a b => codeOk mode n a && codeOk mode n b
  | .cond _ a b => codeOk mode n a && codeOk mode n b
  | .block _ c => codeOk mode n c
  | .loop c => codeOk mode n c
  | _ => true
def exOf : Ex → Exit
  | .nrm => .normal
  | .exit id => .exit id
  | .ret => .ret

section
variable {P : Program} {C : Cfg} {p : Par}

/-- a table of loops keeps its word, by rounds -/
def LoopOk (P : Program) (C : Cfg) (loop : LoopF) (r : Nat) : Prop :=
  ∀ keep fl c e H x e' H', loop keep fl c e H = some (x, e', H') → ∀ (n : Nat), codeOk C.mode n c = true → ∀ (p : Par) φ w a (Q : Exit → Act → World → Prop), p.G = C.glob → p.R0 ≤ fl → fl ≤ H.length → n ≤ a.tmps.size →
    HR p φ H w → TmpR φ w keep e [] a → NoFloat φ H H' → HB H → EL H.length e → (∀ a' w' φ', Post p keep fl φ H w a e' [] H' a' w' φ' → Q (exOf x) a' w') → Code.rounds P c Q r a w

theorem Post.trans {keep : List Tmp} {fl : Nat} {φ φ1 φ2 : Phi} {H H1 H2 : LH} {w w1 w2 : World} {a a1 a2 : Act} {e1 e2 : Env} {l1 l2 : Loc}
    (h : Post p keep fl φ H w a e1 l1 H1 a1 w1 φ1) (k : Post p keep fl φ1 H1 w1 a1 e2 l2 H2 a2 w2 φ2) (nf : NoFloat φ H H1) : Post p keep fl φ H w a e2 l2 H2 a2 w2 φ2 :=
  ⟨k.hr, k.tmp, h.step.trans k.step nf, by rw [k.size, h.size], by rw [k.defs, h.defs]⟩

theorem codeW (hmix : P.follows .mixedOrders = true) {call : CallF} {loop : LoopF} {r : Nat} (hc : CallOk P C.glob call) (hg : CallG call) (hl : CallL call) (hm : CallM C.mode call) (hlo : LoopOk P C loop r) (hlg : LoopG loop) (hll : LoopL loop) (hGl : GloL C.glob)
    (hG : p.G = C.glob) {keep : List Tmp} {fl n : Nat} (hR : p.R0 ≤ fl) : ∀ {c : Code} {e : Env} {H : LH} {x : Ex} {e' : Env} {H' : LH} {φ : Phi} {w : World} {a : Act} {Q : Exit → Act → World → Prop}, exec (mk P C call loop keep fl) c e H = some (x, e', H') → codeOk C.mode n c = true →
      fl ≤ H.length → n ≤ a.tmps.size → HR p φ H w → TmpR φ w keep e [] a → NoFloat φ H H' → HB H → EL H.length e → (∀ a' w' φ', Post p keep fl φ H w a e' [] H' a' w' φ' → Q (exOf x) a' w') → c.wp P Q a w := by
  intro c
  induction c with
  | region id ops d =>
    intro e H x e' H' φ w a Q hx hok hf hn h hT nf hb hE k
    simp only [exec] at hx
    split at hx
    · rename_i l H1 hs
      injection hx with hx; injection hx with h1 hx; injection hx with h2 h3; subst h1; subst h2; subst h3
      simp only [codeOk, Bool.and_eq_true, List.all_eq_true] at hok
      have kk : ∀ a' w' φ', Post p keep fl φ H w a e l H1 a' w' φ' → Q .normal a' w' := fun a' w' φ' q => k a' w' φ' ⟨q.hr, keep_ok q.tmp, q.step, q.size, q.defs⟩
      cases d with
      | false =>
        refine wp_region_list ?_
        exact opsW hc hg hl hGl hG hR hs hok.1 hn h hT hf nf hb hE (fun t v hv => by cases hv) kk
      | true =>
        have hD : drawOk C.mode ops.toList = true := by simpa using hok.2
        exact drawW (id := id) hmix hc hg hl hGl hm hG hR hD hs hok.1 hn h hT hf nf hb hE kk
    · cases hx
  | seq a b iha ihb =>
    intro e H x e' H' φ w ac Q hx hok hf hn h hT nf hb hE k
    simp only [exec] at hx
    simp only [codeOk, Bool.and_eq_true] at hok
    cases ha : exec (mk P C call loop keep fl) a e H with
    | none => rw [ha] at hx; cases hx
    | some y =>
      rw [ha] at hx
      obtain ⟨y, e1, H1⟩ := y
      have g1 := exec_grow hg hlg hf ha
      have kl := exec_lt hl hg hll hlg hGl hf hb hE ha
      refine wp_seq ?_
      cases y with
      | nrm =>
        have g2 := exec_grow hg hlg (Nat.le_trans hf g1.len) hx
        have nf1 : NoFloat φ H H1 := nf.left g2.len
        refine iha ha hok.1 hf hn h hT nf1 hb hE fun a1 w1 φ1 q1 => ?_
        refine ihb hx hok.2 (Nat.le_trans hf g1.len) (by rw [q1.size]; exact hn) q1.hr q1.tmp (nf.right q1.step) kl.1 kl.2 fun a2 w2 φ2 q2 => ?_
        exact k a2 w2 φ2 (q1.trans q2 nf1)
      | exit j =>
        injection hx with hx; injection hx with h1 hx; injection hx with h2 h3; subst h1; subst h2; subst h3
        exact iha ha hok.1 hf hn h hT nf hb hE fun a1 w1 φ1 q1 => k a1 w1 φ1 q1
      | ret =>
        injection hx with hx; injection hx with h1 hx; injection hx with h2 h3; subst h1; subst h2; subst h3
        exact iha ha hok.1 hf hn h hT nf hb hE fun a1 w1 φ1 q1 => k a1 w1 φ1 q1
  | cond o a b iha ihb =>
    intro e H x e' H' φ w ac Q hx hok hf hn h hT nf hb hE k
    simp only [exec] at hx
    simp only [codeOk, Bool.and_eq_true] at hok
    split at hx
    · rename_i hc'
      have hv := evalO_ok hT hc'
      simp only [VR] at hv
      exact wp_cond_true hv (iha hx hok.1 hf hn h hT nf hb hE k)
    · rename_i hc'
      have hv := evalO_ok hT hc'
      simp only [VR] at hv
      exact wp_cond_false hv (ihb hx hok.2 hf hn h hT nf hb hE k)
    · cases hx
  | block id c ih =>
    intro e H x e' H' φ w ac Q hx hok hf hn h hT nf hb hE k
    simp only [exec] at hx
    simp only [codeOk] at hok
    cases ha : exec (mk P C call loop keep fl) c e H with
    | none => rw [ha] at hx; cases hx
    | some y =>
      rw [ha] at hx
      obtain ⟨y, e1, H1⟩ := y
      refine wp_block ?_
      cases y with
      | nrm =>
        injection hx with hx; injection hx with h1 hx; injection hx with h2 h3; subst h1; subst h2; subst h3
        exact ih ha hok hf hn h hT nf hb hE k
      | exit j =>
        dsimp only at hx
        split at hx
        · rename_i hj
          injection hx with hx; injection hx with h1 hx; injection hx with h2 h3; subst h1; subst h2; subst h3
          refine ih ha hok hf hn h hT nf hb hE fun a1 w1 φ1 q1 => ?_
          simp only [exOf, Exit.inBlock, hj, if_true]
          exact k a1 w1 φ1 q1
        · rename_i hj
          injection hx with hx; injection hx with h1 hx; injection hx with h2 h3; subst h1; subst h2; subst h3
          refine ih ha hok hf hn h hT nf hb hE fun a1 w1 φ1 q1 => ?_
          simp only [exOf, Exit.inBlock, hj, if_false]
          exact k a1 w1 φ1 q1
      | ret =>
        injection hx with hx; injection hx with h1 hx; injection hx with h2 h3; subst h1; subst h2; subst h3
        exact ih ha hok hf hn h hT nf hb hE k
  | loop c ih =>
    intro e H x e' H' φ w ac Q hx hok hf hn h hT nf hb hE k
    exact wp_loop_rounds r (hlo _ _ _ _ _ _ _ _ hx n hok p φ w ac Q hG hR hf hn h hT nf hb hE k)
  | skip =>
    intro e H x e' H' φ w ac Q hx hok hf hn h hT nf hb hE k
    injection hx with hx; injection hx with h1 hx; injection hx with h2 h3; subst h1; subst h2; subst h3
    exact wp_skip (k ac w φ ⟨h, hT, .refl, rfl, rfl⟩)
  | label =>
    intro e H x e' H' φ w ac Q hx hok hf hn h hT nf hb hE k
    injection hx with hx; injection hx with h1 hx; injection hx with h2 h3; subst h1; subst h2; subst h3
    exact wp_label (k ac w φ ⟨h, hT, .refl, rfl, rfl⟩)
  | exit =>
    intro e H x e' H' φ w ac Q hx hok hf hn h hT nf hb hE k
    injection hx with hx; injection hx with h1 hx; injection hx with h2 h3; subst h1; subst h2; subst h3
    exact wp_exit (k ac w φ ⟨h, hT, .refl, rfl, rfl⟩)
  | ret =>
    intro e H x e' H' φ w ac Q hx hok hf hn h hT nf hb hE k
    injection hx with hx; injection hx with h1 hx; injection hx with h2 h3; subst h1; subst h2; subst h3
    exact wp_ret (k ac w φ ⟨h, hT, .refl, rfl, rfl⟩)
  | _ => intro e H x e' H' φ w ac Q hx; cases hx

theorem loopStepW (hmix : P.follows .mixedOrders = true) {call : CallF} {loop : LoopF} {r : Nat} (hc : CallOk P C.glob call) (hg : CallG call) (hl : CallL call) (hm : CallM C.mode call) (hlo : LoopOk P C loop r) (hlg : LoopG loop) (hll : LoopL loop) (hGl : GloL C.glob) :
    LoopOk P C (loopStep P C call loop) (r + 1) := by
  intro keep fl c e H x e' H' h n hok p φ w a Q hG hR hf hn hr hT nf hb hE k
  rw [rounds_succ]
  unfold loopStep at h
  cases hx : exec (mk P C call loop keep fl) c e H with
  | none => rw [hx] at h; cases h
  | some y =>
    rw [hx] at h
    obtain ⟨y, e1, H1⟩ := y
    have g1 := exec_grow hg hlg hf hx
    have kl := exec_lt hl hg hll hlg hGl hf hb hE hx
    cases y with
    | nrm =>
      have g2 := hlg _ _ _ _ _ _ _ _ h (Nat.le_trans hf g1.len)
      have nf1 : NoFloat φ H H1 := nf.left g2.len
      refine codeW hmix hc hg hl hm hlo hlg hll hGl hG hR hx hok hf hn hr hT nf1 hb hE fun a1 w1 φ1 q1 => ?_
      show Code.rounds P c Q r a1 w1
      refine hlo _ _ _ _ _ _ _ _ h n hok p φ1 w1 a1 Q hG hR (Nat.le_trans hf g1.len) (by rw [q1.size]; exact hn) q1.hr q1.tmp (nf.right q1.step) kl.1 kl.2 fun a2 w2 φ2 q2 => ?_
      exact k a2 w2 φ2 (q1.trans q2 nf1)
    | exit j =>
      injection h with h; injection h with h1 h; injection h with h2 h3; subst h1; subst h2; subst h3
      exact codeW hmix hc hg hl hm hlo hlg hll hGl hG hR hx hok hf hn hr hT nf hb hE fun a1 w1 φ1 q1 => k a1 w1 φ1 q1
    | ret =>
      injection h with h; injection h with h1 h; injection h with h2 h3; subst h1; subst h2; subst h3
      exact codeW hmix hc hg hl hm hlo hlg hll hGl hG hR hx hok hf hn hr hT nf hb hE fun a1 w1 φ1 q1 => k a1 w1 φ1 q1
end
end Go.Proofs.YtbjpecknlohicaaDoor.Lg
