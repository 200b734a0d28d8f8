/- The logical machine: what evaluation leaves as it was. No condition. -/
import Derived.Test.YtbjpecknlohicaaDoorLg3
namespace Go.Proofs.YtbjpecknlohicaaDoor.Lg
set_option linter.unusedSimpArgs false
set_option linter.unusedVariables false

structure Grow (fl : Nat) (H H' : LH) : Prop where
  len : H.length ≤ H'.length
  low : ∀ b : Nat, b < fl → b < H.length → H'[b]? = H[b]?
  dead : ∀ b : Nat, H[b]? = some .dead → H'[b]? = some .dead

theorem Grow.refl (fl : Nat) (H : LH) : Grow fl H H := ⟨Nat.le_refl _, fun _ _ _ => rfl, fun _ h => h⟩
theorem Grow.trans {fl : Nat} {A B D : LH} (h : Grow fl A B) (k : Grow fl B D) : Grow fl A D :=
  ⟨Nat.le_trans h.len k.len, fun b hb hl => (k.low b hb (Nat.lt_of_lt_of_le hl h.len)).trans (h.low b hb hl), fun b hb => k.dead b (h.dead b hb)⟩
theorem Grow.mono {fl fl' : Nat} {A B : LH} (h : Grow fl' A B) (hf : fl ≤ fl') : Grow fl A B := ⟨h.len, fun b hb => h.low b (by omega), h.dead⟩
theorem Grow.push (fl : Nat) (H : LH) (x : Blk) : Grow fl H (H ++ [x]) :=
  ⟨by simp, fun b _ hl => by rw [List.getElem?_append_left hl], fun b hb => by
    have hl : b < H.length := (List.getElem?_eq_some_iff.1 hb).1
    rw [List.getElem?_append_left hl]; exact hb⟩
theorem Grow.set {fl b : Nat} {H : LH} {x : Blk} (hb : fl ≤ b) (hd : x = .dead ∨ H[b]? ≠ some .dead) : Grow fl H (H.set b x) :=
  ⟨by simp, fun i hi _ => by rw [List.getElem?_set_ne (by omega)], fun i hi => by
    by_cases e : b = i
    · subst e
      rcases hd with rfl | hd
      · rw [List.getElem?_set_self (List.getElem?_eq_some_iff.1 hi).1]
      · exact absurd hi hd
    · rw [List.getElem?_set_ne e]; exact hi⟩
theorem cellsAt_some {H : LH} {b : Nat} {cs : List V} (h : H.cellsAt b = some cs) : H[b]? = some (.cells cs) := by
  unfold LH.cellsAt at h
  split at h
  · rename_i hb; injection h with h; rw [hb, h]
  · cases h
theorem mapAt_some {H : LH} {b : Nat} {es : List (V × V)} (h : H.mapAt b = some es) : H[b]? = some (.map es) := by
  unfold LH.mapAt at h
  split at h
  · rename_i hb; injection h with h; rw [hb, h]
  · cases h
theorem cellsAt_nd {H : LH} {b : Nat} {cs : List V} (h : H.cellsAt b = some cs) : H[b]? ≠ some .dead := by rw [cellsAt_some h]; simp
theorem mapAt_nd {H : LH} {b : Nat} {es : List (V × V)} (h : H.mapAt b = some es) : H[b]? ≠ some .dead := by rw [mapAt_some h]; simp

theorem grd_some {α : Type} {c : Prop} [Decidable c] {x : Option α} {r : α} (h : grd c x = some r) : c ∧ x = some r := by
  unfold grd at h
  split at h
  · exact ⟨‹c›, h⟩
  · cases h

def CallG (call : CallF) : Prop := ∀ K args fl H v H', call K args fl H = some (v, H') → fl ≤ H.length → Grow fl H H'
def LoopG (loop : LoopF) : Prop := ∀ kp fl c e H x e' H', loop kp fl c e H = some (x, e', H') → fl ≤ H.length → Grow fl H H'

theorem ptrV_grow {fl H v v' H'} (h : ptrV H v = some (v', H')) : Grow fl H H' := by
  obtain ⟨_, h⟩ := grd_some h
  injection h with h; injection h with _ h; subst h; exact .push _ _ _
theorem rowO_grow {fl H sz n cs v' H'} (h : rowO H sz n cs = some (v', H')) : Grow fl H H' := by
  unfold rowO at h
  split at h
  · injection h with h; injection h with _ h; subst h; exact .push _ _ _
  · cases h
theorem withH_grow {fl H x v' H'} (h : withH H x = some (v', H')) : Grow fl H H' := by
  unfold withH at h
  split at h
  · injection h with h; injection h with _ h; subst h; exact .refl _ _
  · cases h
theorem withH_some {H x v' H'} (h : withH H x = some (v', H')) : x = some v' ∧ H' = H := by
  unfold withH at h
  split at h
  · injection h with h; injection h with h1 h; subst h1; exact ⟨rfl, h.symm⟩
  · cases h
theorem loadV_same {G H g n a v' H'} (h : loadV G H g n a = some (v', H')) : H' = H := by
  have key : ∀ {o cs}, cellO H g o n cs = some (v', H') → H' = H := by
    intro o cs h
    unfold cellO at h
    split at h
    · split at h
      · obtain ⟨_, h⟩ := grd_some h; injection h with h; injection h with _ h; exact h.symm
      · split at h
        · injection h with h; injection h with _ h; exact h.symm
        · cases h
    · cases h
  unfold loadV at h
  split at h
  · exact key h
  · exact key h
  · cases h
theorem loadO_same {G H a i v' H'} (h : loadO G H a i = some (v', H')) : H' = H := by
  unfold loadO at h
  split at h
  · exact loadV_same h
  · cases h
theorem storeT_grow {fl H a v i v' H'} (h : storeT fl H a v i = some (v', H')) : Grow fl H H' := by
  unfold storeT at h
  split at h
  · unfold storeV at h
    split at h
    · unfold storeO at h
      split at h
      · rename_i hc
        obtain ⟨hg, h⟩ := grd_some h
        injection h with h; injection h with _ h; subst h
        exact .set hg.2.2.1 (.inr (cellsAt_nd hc))
      · cases h
    · cases h
  · cases h
theorem appV_grow {T fl t t' H s x v' H'} (h : appV T fl t t' H s x = some (v', H')) : Grow fl H H' := by
  unfold appV at h
  split at h
  · obtain ⟨_, h⟩ := grd_some h
    unfold appendV at h
    split at h
    · split at h
      · injection h with h; injection h with _ h; subst h; exact .refl _ _
      · obtain ⟨_, h⟩ := grd_some h; injection h with h; injection h with _ h; subst h; exact .push _ _ _
    · split at h
      · injection h with h; injection h with _ h; subst h; exact .refl _ _
      · obtain ⟨_, h⟩ := grd_some h; injection h with h; injection h with _ h; subst h; exact .push _ _ _
    · obtain ⟨_, h⟩ := grd_some h
      split at h
      · injection h with h; injection h with _ h; subst h; exact .refl _ _
      · unfold appO at h
        split at h
        · rename_i hc
          split at h
          · obtain ⟨hg, h⟩ := grd_some h; injection h with h; injection h with _ h; subst h
            exact .set hg.1 (.inr (cellsAt_nd hc))
          · obtain ⟨hg, h⟩ := grd_some h
            unfold growO at h
            split at h
            · injection h with h; injection h with _ h; subst h
              exact (Grow.set hg.1 (.inl rfl)).trans (.push _ _ _)
            · cases h
        · cases h
    · cases h
  · cases h
theorem doBi_grow {T fl H b ts vs v' H'} (h : doBi T fl H b ts vs = some (v', H')) : Grow fl H H' := by
  unfold doBi at h
  split at h
  · obtain ⟨_, h⟩ := grd_some h
    unfold numO at h
    split at h
    · injection h with h; injection h with _ h; subst h; exact .refl _ _
    · cases h
  · exact withH_grow h
  · exact withH_grow h
  · exact appV_grow h
  · cases h
theorem convV_grow {fl fl2 T H s d v v' H'} (h : convV T fl2 H s d v = some (v', H')) : Grow fl H H' := by
  unfold convV at h
  split at h
  · split at h
    · injection h with h; injection h with _ h; subst h; exact .refl _ _
    · cases h
  · split at h
    · injection h with h; injection h with _ h; subst h; exact .refl _ _
    · cases h
  · split at h
    · obtain ⟨_, h⟩ := grd_some h
      unfold bytesO at h
      split at h
      · unfold strO at h
        split at h
        · injection h with h; injection h with _ h; subst h; exact .refl _ _
        · cases h
      · cases h
    · injection h with h; injection h with _ h; subst h; exact .refl _ _
    · injection h with h; injection h with _ h; subst h; exact .refl _ _
    · cases h
  · split at h
    · injection h with h; injection h with _ h; subst h; exact .push _ _ _
    · cases h
  · split at h
    · injection h with h; injection h with _ h; subst h; exact .refl _ _
    · cases h
  · split at h
    · obtain ⟨_, h⟩ := grd_some h; injection h with h; injection h with _ h; subst h; exact .refl _ _
    · cases h
  · cases h
theorem makeV_grow {fl H i l c v' H'} (h : makeV H i l c = some (v', H')) : Grow fl H H' := by
  unfold makeV at h
  split at h
  · obtain ⟨_, h⟩ := grd_some h; injection h with h; injection h with _ h; subst h; exact .push _ _ _
  · cases h
theorem lookV_same {T t ok H m k v' H'} (h : lookV T t ok H m k = some (v', H')) : H' = H := by
  unfold lookV at h
  split at h
  · split at h
    · obtain ⟨_, h⟩ := grd_some h
      unfold lookO at h
      split at h
      · split at h <;> (injection h with h; injection h with _ h; exact h.symm)
      · split at h <;> (injection h with h; injection h with _ h; exact h.symm)
      · cases h
    · cases h
  · cases h
theorem updV_grow {T t fl H k v m v' H'} (h : updV T t fl H k v m = some (v', H')) : Grow fl H H' := by
  unfold updV at h
  split at h
  · split at h
    · obtain ⟨hg, h⟩ := grd_some h
      unfold updO at h
      split at h
      · rename_i hm
        split at h
        · injection h with h; injection h with _ h; subst h; exact .set hg.2 (.inr (mapAt_nd hm))
        · injection h with h; injection h with _ h; subst h; exact .set hg.2 (.inr (mapAt_nd hm))
        · cases h
      · cases h
    · cases h
  · cases h
theorem buildL_grow {fl T t n ixs H vs v' H'} (h : buildL T t n ixs H vs = some (v', H')) : Grow fl H H' := by
  unfold buildL at h
  split at h
  · cases h
  · split at h
    · split at h
      · obtain ⟨_, h⟩ := grd_some h; exact rowO_grow h
      · cases h
    · cases h
theorem pickV_same {H c a b v' H'} (h : pickV H c a b = some (v', H')) : H' = H := by
  unfold pickV at h
  split at h
  · injection h with h; injection h with _ h; exact h.symm
  · injection h with h; injection h with _ h; exact h.symm
  · cases h
theorem zeroO_grow {fl H i v' H'} (h : zeroO H i = some (v', H')) : Grow fl H H' := by
  unfold zeroO at h
  split at h
  · exact ptrV_grow h
  · cases h
theorem mapO_grow {fl H i v' H'} (h : mapO H i = some (v', H')) : Grow fl H H' := by
  unfold mapO at h
  split at h
  · injection h with h; injection h with _ h; subst h; exact .push _ _ _
  · cases h
theorem ptrOk_same {H v v' H'} (h : ptrOk H v = some (v', H')) : v' = v ∧ H' = H := by
  unfold ptrOk at h
  split at h
  · injection h with h; injection h with h1 h; exact ⟨h1.symm, h.symm⟩
  · injection h with h; injection h with h1 h; exact ⟨h1.symm, h.symm⟩
  · cases h
theorem fnO_same {H f vs v' H'} (h : fnO H f vs = some (v', H')) : H' = H := by
  unfold fnO at h
  split at h
  · injection h with h; injection h with _ h; exact h.symm
  · cases h

theorem doOp_grow {call : CallF} (hc : CallG call) {T G fl H o vs v' H'} (hf : fl ≤ H.length) (h : doOp call T G fl H o vs = some (v', H')) : Grow fl H H' := by
  unfold doOp at h
  split at h
  · injection h with h; injection h with _ h; subst h; exact .refl _ _
  · injection h with h; injection h with _ h; subst h; exact .refl _ _
  · rw [pickV_same h]; exact .refl _ _
  · exact zeroO_grow h
  · exact ptrV_grow h
  · exact withH_grow h
  · exact buildL_grow h
  · rw [loadO_same h]; exact .refl _ _
  · exact storeT_grow h
  · rw [(ptrOk_same h).2]; exact .refl _ _
  · exact withH_grow h
  · exact withH_grow h
  · exact convV_grow h
  · rw [fnO_same h]; exact .refl _ _
  · exact mapO_grow h
  · exact makeV_grow h
  · exact withH_grow (grd_some h).2
  · exact withH_grow (grd_some h).2
  · exact withH_grow (grd_some h).2
  · exact withH_grow (grd_some h).2
  · exact withH_grow h
  · exact withH_grow h
  · exact withH_grow h
  · exact withH_grow h
  · rw [lookV_same h]; exact .refl _ _
  · exact updV_grow h
  · exact withH_grow h
  · unfold doCall at h
    split at h
    · exact doBi_grow h
    · unfold callV at h
      split at h
      · exact hc _ _ _ _ _ _ h hf
      · cases h
    · cases h
  · cases h

section
variable {P : Program} {C : Cfg} {ok : FuncId → Bool}
theorem opsV_grow {call : CallF} {loop : LoopF} (hc : CallG call) {keep fl ops env} : ∀ {rest loc H l' H'}, fl ≤ H.length → opsV (mk P C call loop keep fl) ops env rest loc H = some (l', H') → Grow fl H H' := by
  intro rest
  induction rest with
  | nil => intro loc H l' H' _ h; injection h with h; injection h with _ h; subst h; exact .refl _ _
  | cons o rest ih =>
    intro loc H l' H' hf h
    simp only [opsV] at h
    split at h
    · split at h
      · rename_i hs
        have g := doOp_grow hc hf (stepO_do hs).1
        exact g.trans (ih (Nat.le_trans hf g.len) h)
      · cases h
    · exact ih hf h
    · cases h

theorem exec_grow {call : CallF} {loop : LoopF} (hc : CallG call) (hl : LoopG loop) {keep fl} : ∀ {c e H x e' H'}, fl ≤ H.length → exec (mk P C call loop keep fl) c e H = some (x, e', H') → Grow fl H H' := by
  intro c
  induction c with
  | region id ops d =>
    intro e H x e' H' hf h
    simp only [exec] at h
    split at h
    · rename_i hs; injection h with h; injection h with _ h; injection h with _ h; subst h; exact opsV_grow hc hf hs
    · cases h
  | seq a b iha ihb =>
    intro e H x e' H' hf h
    simp only [exec] at h
    cases ha : exec (mk P C call loop keep fl) a e H with
    | none => rw [ha] at h; cases h
    | some y =>
      rw [ha] at h
      obtain ⟨y, e1, H1⟩ := y
      have g := iha hf ha
      cases y
      · exact g.trans (ihb (Nat.le_trans hf g.len) h)
      · injection h with h; injection h with _ h; injection h with _ h; subst h; exact g
      · injection h with h; injection h with _ h; injection h with _ h; subst h; exact g
  | cond o a b iha ihb =>
    intro e H x e' H' hf h
    simp only [exec] at h
    split at h
    · exact iha hf h
    · exact ihb hf h
    · cases h
  | block id c ih =>
    intro e H x e' H' hf h
    simp only [exec] at h
    cases ha : exec (mk P C call loop keep fl) c e H with
    | none => rw [ha] at h; cases h
    | some y =>
      rw [ha] at h
      obtain ⟨y, e1, H1⟩ := y
      have g := ih hf ha
      cases y
      · injection h with h; injection h with _ h; injection h with _ h; subst h; exact g
      · dsimp only at h; split at h <;> (injection h with h; injection h with _ h; injection h with _ h; subst h; exact g)
      · injection h with h; injection h with _ h; injection h with _ h; subst h; exact g
  | loop c ih => intro e H x e' H' hf h; exact hl _ _ _ _ _ _ _ _ h hf
  | skip => intro e H x e' H' _ h; injection h with h; injection h with _ h; injection h with _ h; subst h; exact .refl _ _
  | label => intro e H x e' H' _ h; injection h with h; injection h with _ h; injection h with _ h; subst h; exact .refl _ _
  | exit => intro e H x e' H' _ h; injection h with h; injection h with _ h; injection h with _ h; subst h; exact .refl _ _
  | ret => intro e H x e' H' _ h; injection h with h; injection h with _ h; injection h with _ h; subst h; exact .refl _ _
  | _ => intro e H x e' H' _ h; cases h

theorem leave_grow {m fl H H' vs v' H''} (hf : fl ≤ H.length) (g : Grow (floor m fl H) H H') (h : leave m H H' vs = some (v', H'')) : Grow fl H H'' := by
  unfold leave at h
  split at h
  · split at h
    · obtain ⟨_, h⟩ := grd_some h; injection h with h; injection h with _ h; subst h; exact .refl _ _
    · injection h with h; injection h with _ h; subst h; exact g.mono (by simpa [floor] using hf)
    · injection h with h; injection h with _ h; subst h; exact g
  · cases h
theorem floor_le (m : Mode) {fl : Nat} {H : LH} (hf : fl ≤ H.length) : fl ≤ floor m fl H ∧ floor m fl H ≤ H.length := by
  cases m <;> simp [floor] <;> omega

theorem callStep_grow {call : CallF} {loop : LoopF} (hc : CallG call) (hl : LoopG loop) : CallG (callStep P C ok call loop) := by
  intro K args fl H v H' h hf
  unfold callStep at h
  split at h
  · split at h
    · split at h
      · unfold bodyStep leaveX at h
        split at h
        · rename_i hx; exact leave_grow hf (exec_grow hc hl (floor_le _ hf).2 hx) h
        · rename_i hx; exact leave_grow hf (exec_grow hc hl (floor_le _ hf).2 hx) h
        · cases h
      · cases h
    · rw [(ext_same h).1]; exact .refl _ _
  · cases h
theorem loopStep_grow {call : CallF} {loop : LoopF} (hc : CallG call) (hl : LoopG loop) : LoopG (loopStep P C call loop) := by
  intro kp fl c e H x e' H' h hf
  unfold loopStep at h
  cases hx : exec (mk P C call loop kp fl) c e H with
  | none => rw [hx] at h; cases h
  | some y =>
    rw [hx] at h
    obtain ⟨y, e1, H1⟩ := y
    have g := exec_grow hc hl hf hx
    cases y
    · exact g.trans (hl _ _ _ _ _ _ _ _ h (Nat.le_trans hf g.len))
    · injection h with h; injection h with _ h; injection h with _ h; subst h; exact g
    · injection h with h; injection h with _ h; injection h with _ h; subst h; exact g
theorem runN_grow : ∀ n, CallG (runN P C ok n).1 ∧ LoopG (runN P C ok n).2
  | 0 => ⟨fun _ _ _ _ _ _ h => (by cases h), fun _ _ _ _ _ _ _ _ h => (by cases h)⟩
  | n + 1 => ⟨callStep_grow (runN_grow n).1 (runN_grow n).2, loopStep_grow (runN_grow n).1 (runN_grow n).2⟩
theorem Run_grow {K args fl H v H'} (h : Run P C ok K args fl H = some (v, H')) (hf : fl ≤ H.length) : Grow fl H H' := by
  obtain ⟨n, hn⟩ := Run_of.1 h
  exact (runN_grow n).1 _ _ _ _ _ _ hn hf
end

end Go.Proofs.YtbjpecknlohicaaDoor.Lg
