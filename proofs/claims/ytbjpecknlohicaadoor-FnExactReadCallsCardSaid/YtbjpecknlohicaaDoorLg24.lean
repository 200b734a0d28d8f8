/- The logical machine: addresses lie in the heap, through code and calls. No condition. -/
import Derived.Test.YtbjpecknlohicaaDoorLg23
namespace Go.Proofs.YtbjpecknlohicaaDoor.Lg
set_option linter.unusedSimpArgs false
set_option linter.unusedVariables false

def EL (n : Nat) (env : Env) : Prop := ∀ v, some v ∈ env → V.lt n v
def LL (n : Nat) (loc : Loc) : Prop := ∀ t v, (t, v) ∈ loc → V.lt n v
theorem EL.mono {n m : Nat} {env : Env} (h : EL n env) (k : n ≤ m) : EL m env := fun v hv => V.lt_mono k (h v hv)
theorem LL.mono {n m : Nat} {loc : Loc} (h : LL n loc) (k : n ≤ m) : LL m loc := fun t v hv => V.lt_mono k (h t v hv)
theorem lookE_mem {t : Tmp} {v : V} : ∀ {ks : List Tmp} {es : Env}, lookE ks es t = some v → some v ∈ es
  | [], _, h => by simp only [lookE] at h; cases h
  | _ :: _, [], h => by simp only [lookE] at h; cases h
  | k :: ks, e :: es, h => by
    simp only [lookE] at h
    split at h
    · subst h; simp
    · exact List.mem_cons_of_mem _ (lookE_mem h)
theorem lookL_lt {n : Nat} {keep : List Tmp} {env : Env} {t : Tmp} {v : V} (he : EL n env) : ∀ {loc : Loc}, LL n loc → lookL keep env loc t = some v → V.lt n v
  | [], _, h => he v (lookE_mem h)
  | (t', x) :: loc, hl, h => by
    simp only [lookL] at h
    split at h
    · injection h with h; subst h; exact hl t' _ (by simp)
    · exact lookL_lt he (fun a b hb => hl a b (by simp [hb])) h
theorem evalO_lt {n : Nat} {keep : List Tmp} {env : Env} {loc : Loc} {x : Operand} {v : V} (he : EL n env) (hl : LL n loc) (h : evalO keep env loc x = some v) : V.lt n v := by
  cases x with
  | tmp t => exact lookL_lt he hl h
  | const c => exact ofValue_lt h
  | global g => injection h with h; subst h; simp only [V.lt]
  | func f => injection h with h; subst h; simp only [V.lt, V.lts]
theorem evalL_lt {n : Nat} {keep : List Tmp} {env : Env} {loc : Loc} (he : EL n env) (hl : LL n loc) : ∀ {xs : List Operand} {v : V}, some v ∈ evalL keep env loc xs → V.lt n v
  | [], _, h => by simp only [evalL] at h; cases h
  | x :: xs, v, h => by
    simp only [evalL] at h
    rcases List.mem_cons.1 h with h | h
    · exact evalO_lt he hl h.symm
    · exact evalL_lt he hl h
theorem putL_lt {n : Nat} {d : Option Tmp} {v : V} {loc : Loc} (hl : LL n loc) (hv : V.lt n v) : LL n (putL d v loc) := by
  cases d with
  | none => exact hl
  | some t =>
    intro a b hb
    rcases List.mem_cons.1 hb with h | h
    · injection h with h1 h2; subst h2; exact hv
    · exact hl a b h
theorem und_lt {n : Nat} : V.lt n und := by simp only [V.lt, V.lts]
theorem findL_lt {n : Nat} {t : Tmp} {d : Option V} {v : V} (hd : ∀ x, d = some x → V.lt n x) : ∀ {loc : Loc}, LL n loc → findL loc t d = some v → V.lt n v
  | [], _, h => hd v h
  | (t', x) :: loc, hl, h => by
    simp only [findL] at h
    split at h
    · injection h with h; subst h; exact hl t' _ (by simp)
    · exact findL_lt hd (fun a b hb => hl a b (by simp [hb])) h
theorem keepE_lt {n : Nat} {loc : Loc} (hl : LL n loc) : ∀ {ks : List Tmp} {es : Env}, EL n es → EL n (keepE ks es loc)
  | [], _, _ => by simp only [keepE]; intro v h; cases h
  | _ :: _, [], _ => by simp only [keepE]; intro v h; cases h
  | k :: ks, e :: es, he => by
    simp only [keepE]
    intro v h
    rcases List.mem_cons.1 h with h | h
    · exact findL_lt (fun x hx => he x (by rw [hx]; simp)) hl h.symm
    · exact keepE_lt hl (fun x hx => he x (by simp [hx])) v h
theorem enterE_lt {n : Nat} {args : List V} (h : ∀ x ∈ args, V.lt n x) : ∀ {ks : List Tmp}, EL n (enterE ks args)
  | [] => by simp only [enterE]; intro v h; cases h
  | k :: ks => by
    simp only [enterE]
    intro v hv
    rcases List.mem_cons.1 hv with hv | hv
    · exact h v (List.mem_of_getElem? hv.symm)
    · exact enterE_lt h v hv

def LoopL (loop : LoopF) : Prop := ∀ kp fl c e H x e' H', loop kp fl c e H = some (x, e', H') → fl ≤ H.length → HB H → EL H.length e → HB H' ∧ EL H'.length e'

section
variable {P : Program} {C : Cfg} {ok : FuncId → Bool}
theorem opsV_lt {call : CallF} {loop : LoopF} (hl : CallL call) (hg : CallG call) (hG : GloL C.glob) {keep fl ops env} : ∀ {rest loc H l' H'}, fl ≤ H.length → HB H → EL H.length env → LL H.length loc → opsV (mk P C call loop keep fl) ops env rest loc H = some (l', H') → HB H' ∧ EL H'.length env ∧ LL H'.length l' := by
  intro rest
  induction rest with
  | nil => intro loc H l' H' _ h he hL e; injection e with e; injection e with e1 e2; subst e1; subst e2; exact ⟨h, he, hL⟩
  | cons o rest ih =>
    intro loc H l' H' hf h he hL e
    simp only [opsV] at e
    split at e
    · split at e
      · rename_i v H1 hs
        have hs := (stepO_do hs).1
        have g := doOp_grow hg hf hs
        have k := doOp_lt hl (ty_TypL P) hG hf h (fun x hx => evalL_lt he hL hx) hs
        exact ih (Nat.le_trans hf g.len) k.1 (he.mono g.len) (putL_lt (hL.mono g.len) k.2) e
      · cases e
    · exact ih hf h he (putL_lt hL und_lt) e
    · cases e
theorem exec_lt {call : CallF} {loop : LoopF} (hl : CallL call) (hg : CallG call) (hll : LoopL loop) (hlg : LoopG loop) (hG : GloL C.glob) {keep fl} : ∀ {c e H x e' H'}, fl ≤ H.length → HB H → EL H.length e → exec (mk P C call loop keep fl) c e H = some (x, e', H') → HB H' ∧ EL H'.length e' := by
  intro c
  induction c with
  | region id ops d =>
    intro e H x e' H' hf h he hx
    simp only [exec] at hx
    split at hx
    · rename_i hs
      injection hx with hx; injection hx with _ hx; injection hx with h1 h2; subst h1; subst h2
      obtain ⟨k1, k2, k3⟩ := opsV_lt hl hg hG hf h he (fun t v hv => by cases hv) hs
      exact ⟨k1, keepE_lt k3 k2⟩
    · cases hx
  | seq a b iha ihb =>
    intro e H x e' H' hf h he hx
    simp only [exec] at hx
    cases ha : exec (mk P C call loop keep fl) a e H with
    | none => rw [ha] at hx; cases hx
    | some y =>
      rw [ha] at hx
      obtain ⟨y, e1, H1⟩ := y
      have k := iha hf h he ha
      cases y
      · exact ihb (Nat.le_trans hf (exec_grow hg hlg hf ha).len) k.1 k.2 hx
      · injection hx with hx; injection hx with _ hx; injection hx with h1 h2; subst h1; subst h2; exact k
      · injection hx with hx; injection hx with _ hx; injection hx with h1 h2; subst h1; subst h2; exact k
  | cond o a b iha ihb =>
    intro e H x e' H' hf h he hx
    simp only [exec] at hx
    split at hx
    · exact iha hf h he hx
    · exact ihb hf h he hx
    · cases hx
  | block id c ih =>
    intro e H x e' H' hf h he hx
    simp only [exec] at hx
    cases ha : exec (mk P C call loop keep fl) c e H with
    | none => rw [ha] at hx; cases hx
    | some y =>
      rw [ha] at hx
      obtain ⟨y, e1, H1⟩ := y
      have k := ih hf h he ha
      cases y
      · injection hx with hx; injection hx with _ hx; injection hx with h1 h2; subst h1; subst h2; exact k
      · dsimp only at hx; split at hx <;> (injection hx with hx; injection hx with _ hx; injection hx with h1 h2; subst h1; subst h2; exact k)
      · injection hx with hx; injection hx with _ hx; injection hx with h1 h2; subst h1; subst h2; exact k
  | loop c ih => intro e H x e' H' hf h he hx; exact hll _ _ _ _ _ _ _ _ hx hf h he
  | skip => intro e H x e' H' hf h he hx; injection hx with hx; injection hx with _ hx; injection hx with h1 h2; subst h1; subst h2; exact ⟨h, he⟩
  | label => intro e H x e' H' hf h he hx; injection hx with hx; injection hx with _ hx; injection hx with h1 h2; subst h1; subst h2; exact ⟨h, he⟩
  | exit => intro e H x e' H' hf h he hx; injection hx with hx; injection hx with _ hx; injection hx with h1 h2; subst h1; subst h2; exact ⟨h, he⟩
  | ret => intro e H x e' H' hf h he hx; injection hx with hx; injection hx with _ hx; injection hx with h1 h2; subst h1; subst h2; exact ⟨h, he⟩
  | _ => intro e H x e' H' hf h he hx; cases hx

mutual
theorem noAddr_lt {n : Nat} : ∀ {v : V}, v.noAddr = true → V.lt n v
  | .bool _, _ => by simp only [V.lt]
  | .int _ _, _ => by simp only [V.lt]
  | .str _, _ => by simp only [V.lt]
  | .gptr _ _, _ => by simp only [V.lt]
  | .nilp, _ => by simp only [V.lt]
  | .nilsl, _ => by simp only [V.lt]
  | .emp, _ => by simp only [V.lt]
  | .nilmap, _ => by simp only [V.lt]
  | .nilfn, _ => by simp only [V.lt]
  | .agg cs, h => by simp only [V.noAddr] at h; simp only [V.lt]; exact noAddrs_lt h
  | .tup cs, h => by simp only [V.noAddr] at h; simp only [V.lt]; exact noAddrs_lt h
  | .ptr _ _, h => by simp [V.noAddr] at h
  | .sl _ _ _ _ _, h => by simp [V.noAddr] at h
  | .map _, h => by simp [V.noAddr] at h
  | .fn _ _, h => by simp [V.noAddr] at h
theorem noAddrs_lt {n : Nat} : ∀ {vs : List V}, V.noAddrs vs = true → V.lts n vs
  | [], _ => by simp only [V.lts]
  | v :: vs, h => by
    simp only [V.noAddrs, Bool.and_eq_true] at h
    simp only [V.lts]
    exact ⟨noAddr_lt h.1, noAddrs_lt h.2⟩
end
theorem resV_lt {call : CallF} {loop : LoopF} {keep : List Tmp} {fl : Nat} (hG : GloL C.glob) {env : Env} {H : LH} (h : HB H) (he : EL H.length env) : ∀ {rs : List ResultVar} {v : V}, some v ∈ resV (mk P C call loop keep fl) env H rs → V.lt H.length v
  | [], v, hv => by simp only [resV] at hv; cases hv
  | .tmp t :: rs, v, hv => by
    simp only [resV] at hv
    rcases List.mem_cons.1 hv with hv | hv
    · exact he v (lookE_mem hv.symm)
    · exact resV_lt hG h he hv
  | .cell a t :: rs, v, hv => by
    simp only [resV] at hv
    rcases List.mem_cons.1 hv with hv | hv
    · split at hv
      · rename_i va hva
        unfold valO at hv
        split at hv
        · rename_i v' H' hl
          injection hv with hv; subst hv
          have hH := loadO_same hl
          subst hH
          unfold loadO at hl
          split at hl
          · unfold loadV at hl
            split at hl
            · exact (cellO_lt h (fun l hl => h.cells hl) hl).2
            · exact (cellO_lt h (fun l hl c hcl => V.lt_mono (Nat.zero_le _) (hG _ _ hl c hcl)) hl).2
            · cases hl
          · cases hl
        · cases hv
      · cases hv
    · exact resV_lt hG h he hv
theorem oneV_lt {n : Nat} {vs : List V} (h : ∀ x ∈ vs, V.lt n x) : V.lt n (oneV vs) := by
  unfold oneV
  split
  · exact h _ (by simp)
  · simp only [V.lt, V.lts]
  · simp only [V.lt]; exact lts_iff.2 h
theorem leave_lt {m : Mode} {H H' H'' : LH} {vs : Option (List V)} {v : V} (h0 : HB H) (h : HB H') (hv : ∀ l, vs = some l → ∀ x ∈ l, V.lt H'.length x) (e : leave m H H' vs = some (v, H'')) : Good H'' v := by
  unfold leave at e
  split at e
  · split at e
    · obtain ⟨hn, e⟩ := grd_some e; injection e with e; injection e with e1 e2; subst e1; subst e2; exact ⟨h0, noAddr_lt hn⟩
    · injection e with e; injection e with e1 e2; subst e1; subst e2; exact ⟨h, oneV_lt (hv _ rfl)⟩
    · injection e with e; injection e with e1 e2; subst e1; subst e2; exact ⟨h, oneV_lt (hv _ rfl)⟩
  · cases e
theorem callStep_lt {call : CallF} {loop : LoopF} (hl : CallL call) (hg : CallG call) (hll : LoopL loop) (hlg : LoopG loop) (hG : GloL C.glob) {K args fl H v H'} (e : callStep P C ok call loop K args fl H = some (v, H')) (hf : fl ≤ H.length) (h : HB H) (ha : ∀ x ∈ args, V.lt H.length x) : Good H' v := by
  unfold callStep at e
  split at e
  · split at e
    · split at e
      · unfold bodyStep leaveX at e
        split at e
        · rename_i hx
          obtain ⟨k1, k2⟩ := exec_lt hl hg hll hlg hG (floor_le _ hf).2 h (enterE_lt ha) hx
          exact leave_lt h k1 (fun l hl' x hx' => resV_lt hG k1 k2 (allV_mem hl' x hx')) e
        · rename_i hx
          obtain ⟨k1, k2⟩ := exec_lt hl hg hll hlg hG (floor_le _ hf).2 h (enterE_lt ha) hx
          exact leave_lt h k1 (fun l hl' x hx' => resV_lt hG k1 k2 (allV_mem hl' x hx')) e
        · cases e
      · cases e
    · obtain ⟨e1, n, e2⟩ := ext_same e
      subst e1; subst e2
      exact ⟨h, by simp only [V.lt]⟩
  · cases e
theorem loopStep_lt {call : CallF} {loop : LoopF} (hl : CallL call) (hg : CallG call) (hll : LoopL loop) (hlg : LoopG loop) (hG : GloL C.glob) : LoopL (loopStep P C call loop) := by
  intro kp fl c e H x e' H' h hf hb he
  unfold loopStep at h
  cases hx : exec (mk P C call loop kp fl) c e H with
  | none => rw [hx] at h; cases h
  | some y =>
    rw [hx] at h
    obtain ⟨y, e1, H1⟩ := y
    have k := exec_lt hl hg hll hlg hG hf hb he hx
    cases y
    · exact hll _ _ _ _ _ _ _ _ h (Nat.le_trans hf (exec_grow hg hlg hf hx).len) k.1 k.2
    · injection h with h; injection h with _ h; injection h with h1 h2; subst h1; subst h2; exact k
    · injection h with h; injection h with _ h; injection h with h1 h2; subst h1; subst h2; exact k
theorem runN_lt (hG : GloL C.glob) : ∀ n, CallL (runN P C ok n).1 ∧ LoopL (runN P C ok n).2
  | 0 => ⟨fun _ _ _ _ _ _ h => (by cases h), fun _ _ _ _ _ _ _ _ h => (by cases h)⟩
  | n + 1 => ⟨fun _ _ _ _ _ _ h hf hb ha => callStep_lt (runN_lt hG n).1 (runN_grow n).1 (runN_lt hG n).2 (runN_grow n).2 hG h hf hb ha, loopStep_lt (runN_lt hG n).1 (runN_grow n).1 (runN_lt hG n).2 (runN_grow n).2 hG⟩
end
end Go.Proofs.YtbjpecknlohicaaDoor.Lg
