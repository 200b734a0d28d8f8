/- The logical machine: addresses lie in the heap, through a run. No condition. -/
import Derived.Test.YtbjpecknlohicaaDoorLg22
namespace Go.Proofs.YtbjpecknlohicaaDoor.Lg
set_option linter.unusedSimpArgs false
set_option linter.unusedVariables false

theorem lenV_lt {H : LH} {x v : V} {H' : LH} (h : HB H) (e : numO H (lenV H x) = some (v, H')) : Good H' v := by
  unfold numO at e
  split at e
  · injection e with e; injection e with e1 e2; subst e1; subst e2; exact ⟨h, by simp only [V.lt]⟩
  · cases e
theorem mm_lt {x y v : V} {n : Nat} (e : minV x y = some v ∨ maxV x y = some v) : V.lt n v := by
  rcases e with e | e
  · unfold minV at e
    split at e
    · obtain ⟨_, e⟩ := grd_some e; injection e with e; subst e; simp only [V.lt]
    · cases e
  · unfold maxV at e
    split at e
    · obtain ⟨_, e⟩ := grd_some e; injection e with e; subst e; simp only [V.lt]
    · cases e
theorem optCut_lt {n o m : Nat} {cs : Option (List V)} {r : List V} (h : ∀ l, cs = some l → ∀ c ∈ l, V.lt n c) (e : optCut o m cs = some r) : ∀ c ∈ r, V.lt n c := by
  unfold optCut at e
  split at e
  · obtain ⟨_, e⟩ := grd_some e; injection e with e; subst e
    exact fun c hc => h _ rfl c (List.mem_of_mem_drop (List.mem_of_mem_take hc))
  · cases e
theorem slCells_lt {H : LH} {x : V} {r : List V} (h : HB H) (e : slCells H x = some r) : ∀ c ∈ r, V.lt H.length c := by
  unfold slCells at e
  split at e
  · exact optCut_lt (fun l hl => h.cells hl) e
  · injection e with e; subst e; intro c hc; cases hc
  · injection e with e; subst e; intro c hc; cases hc
  · injection e with e; subst e
    intro c hc
    unfold bytesV at hc
    rw [List.mem_map] at hc
    obtain ⟨b, _, rfl⟩ := hc
    simp only [V.lt]
  · cases e
theorem appV_lt {T : TypeId → Option TI} {fl : Nat} {t t' : TypeId} {H : LH} {s x v : V} {H' : LH} (h : HB H) (hs : V.lt H.length s) (e : appV T fl t t' H s x = some (v, H')) : Good H' v := by
  unfold appV at e
  split at e
  · rename_i m new _ _ hnew
    obtain ⟨_, e⟩ := grd_some e
    have hn := slCells_lt h hnew
    unfold appendV at e
    split at e
    · split at e
      · injection e with e; injection e with e1 e2; subst e1; subst e2; exact ⟨h, by simp only [V.lt]⟩
      · obtain ⟨_, e⟩ := grd_some e; injection e with e; injection e with e1 e2; subst e1; subst e2
        exact ⟨h.push fun c hc => V.lt_mono (Nat.le_succ _) (hn c hc), by simp [V.lt]⟩
    · split at e
      · injection e with e; injection e with e1 e2; subst e1; subst e2; exact ⟨h, by simp only [V.lt]⟩
      · obtain ⟨_, e⟩ := grd_some e; injection e with e; injection e with e1 e2; subst e1; subst e2
        exact ⟨h.push fun c hc => V.lt_mono (Nat.le_succ _) (hn c hc), by simp [V.lt]⟩
    · obtain ⟨_, e⟩ := grd_some e
      split at e
      · injection e with e; injection e with e1 e2; subst e1; subst e2; exact ⟨h, hs⟩
      · unfold appO at e
        split at e
        · rename_i cs hcs
          split at e
          · obtain ⟨_, e⟩ := grd_some e; injection e with e; injection e with e1 e2; subst e1; subst e2
            refine ⟨h.set (putAt_lt (h.cells hcs) hn), ?_⟩
            simp only [V.lt, List.length_set] at hs ⊢; exact hs
          · obtain ⟨_, e⟩ := grd_some e
            unfold growO at e
            split at e
            · rename_i old hold
              injection e with e; injection e with e1 e2; subst e1; subst e2
              refine ⟨(h.set (x := .dead) trivial).push fun c hc => ?_, by simp [V.lt]⟩
              rw [List.length_set]
              refine V.lt_mono (Nat.le_succ _) ?_
              rcases List.mem_append.1 hc with hc | hc
              · obtain ⟨_, hold⟩ := grd_some hold
                injection hold with hold; subst hold
                exact h.cells hcs c (List.mem_of_mem_drop (List.mem_of_mem_take hc))
              · exact hn c hc
            · cases e
        · cases e
    · cases e
  · cases e
theorem doBi_lt {T : TypeId → Option TI} {fl : Nat} {H : LH} {b : Builtin} {ts : List TypeId} {vs : List (Option V)} {v : V} {H' : LH} (h : HB H) (hv : ∀ x, some x ∈ vs → V.lt H.length x) (e : doBi T fl H b ts vs = some (v, H')) : Good H' v := by
  unfold doBi at e
  split at e
  · obtain ⟨_, e⟩ := grd_some e; exact lenV_lt h e
  · exact withH_lt h e fun y hy => mm_lt (.inl hy)
  · exact withH_lt h e fun y hy => mm_lt (.inr hy)
  · exact appV_lt h (hv _ (by simp)) e
  · cases e

def CallL (call : CallF) : Prop := ∀ K args fl H v H', call K args fl H = some (v, H') → fl ≤ H.length → HB H → (∀ x ∈ args, V.lt H.length x) → Good H' v

theorem allV_mem {vs : List (Option V)} {l : List V} (h : allV vs = some l) : ∀ x ∈ l, some x ∈ vs := by
  induction vs generalizing l with
  | nil => injection h with h; subst h; intro x hx; cases hx
  | cons v vs ih =>
    cases v with
    | none => cases h
    | some v =>
      simp only [allV] at h
      split at h
      · rename_i l' hl
        injection h with h; subst h
        intro x hx
        rcases List.mem_cons.1 hx with hx | hx
        · subst hx; simp
        · exact List.mem_cons_of_mem _ (ih hl x hx)
      · cases h

theorem doOp_lt {call : CallF} (hc : CallL call) {T : TypeId → Option TI} (hT : TypL T) {G : Nat → Option (List V)} (hG : GloL G) {fl : Nat} {H : LH} {o : Op} {vs : List (Option V)} {v : V} {H' : LH} (hf : fl ≤ H.length) (h : HB H) (hv : ∀ x, some x ∈ vs → V.lt H.length x)
    (e : doOp call T G fl H o vs = some (v, H')) : Good H' v := by
  unfold doOp at e
  split at e
  · injection e with e; injection e with e1 e2; subst e1; subst e2; exact ⟨h, hv _ (by simp)⟩
  · injection e with e; injection e with e1 e2; subst e1; subst e2; exact ⟨h, hv _ (by simp)⟩
  · unfold pickV at e
    split at e
    · injection e with e; injection e with e1 e2; subst e1; subst e2; exact ⟨h, hv _ (by simp)⟩
    · injection e with e; injection e with e1 e2; subst e1; subst e2; exact ⟨h, hv _ (by simp)⟩
    · cases e
  · unfold zeroO at e
    split at e
    · rename_i hty; exact ptrV_lt h (V.lt_mono (Nat.zero_le _) (hT _ _ _ hty rfl)) e
    · cases e
  · exact ptrV_lt h (hv _ (by simp)) e
  · exact withH_lt h e fun y hy => buildV_lt hT (fun l hl c hcl => hv _ (allV_mem hl c hcl)) hy
  · exact buildL_lt hT h (fun l hl c hcl => hv _ (allV_mem hl c hcl)) e
  · unfold loadO at e
    split at e
    · unfold loadV at e
      split at e
      · exact cellO_lt h (fun l hl => h.cells hl) e
      · exact cellO_lt h (fun l hl c hcl => V.lt_mono (Nat.zero_le _) (hG _ _ hl c hcl)) e
      · cases e
    · cases e
  · unfold storeT at e
    split at e
    · unfold storeV at e
      split at e
      · unfold storeO at e
        split at e
        · rename_i cs hcs
          obtain ⟨_, e⟩ := grd_some e
          injection e with e; injection e with e1 e2; subst e1; subst e2
          exact ⟨h.set (putAt_lt (h.cells hcs) (cells_lt (hv _ (by simp)))), by simp only [V.lt, V.lts]⟩
        · cases e
      · cases e
    · cases e
  · obtain ⟨rfl, rfl⟩ := ptrOk_same e; exact ⟨h, hv _ (by simp)⟩
  · exact withH_lt h e fun y hy => binV_lt hy
  · exact withH_lt h e fun y hy => unV_lt hy
  · exact convV_lt h e
  · unfold fnO at e
    split at e
    · rename_i l hl
      injection e with e; injection e with e1 e2; subst e1; subst e2
      refine ⟨h, ?_⟩
      simp only [V.lt]
      exact lts_iff.2 fun c hcl => hv _ (allV_mem hl c hcl)
    · cases e
  · unfold mapO at e
    split at e
    · injection e with e; injection e with e1 e2; subst e1; subst e2
      exact ⟨h.push (fun c hcl => by cases hcl), by simp [V.lt]⟩
    · cases e
  · unfold makeV at e
    split at e
    · rename_i hel
      obtain ⟨_, e⟩ := grd_some e; injection e with e; injection e with e1 e2; subst e1; subst e2
      exact ⟨h.push (zeros_lt (elemI_lt hT hel rfl)), by simp [V.lt]⟩
    · cases e
  · exact withH_lt h (grd_some e).2 fun y hy => sliceV_lt (hv _ (by simp)) hy
  · exact withH_lt h (grd_some e).2 fun y hy => sliceV_lt (hv _ (by simp)) hy
  · exact withH_lt h (grd_some e).2 fun y hy => sliceV_lt (hv _ (by simp)) hy
  · exact withH_lt h (grd_some e).2 fun y hy => sliceV_lt (hv _ (by simp)) hy
  · refine withH_lt h e fun y hy => ?_
    unfold fieldA at hy
    split at hy
    · split at hy
      · exact addO_lt (hv _ (by simp)) (grd_some hy).2
      · cases hy
    · cases hy
  · refine withH_lt h e fun y hy => ?_
    unfold fieldV at hy
    split at hy
    · have := hv _ (List.mem_cons_self)
      simp only [V.lt] at this
      split at hy
      · split at hy
        · exact partV_lt this hy
        · cases hy
      · cases hy
    · cases hy
  · refine withH_lt h e fun y hy => ?_
    unfold indexA at hy
    have h0 := hv _ (List.mem_cons_self)
    split at hy
    · obtain ⟨_, hy⟩ := grd_some hy
      obtain ⟨_, hy⟩ := grd_some hy
      injection hy with hy; subst hy
      simp only [V.lt] at h0 ⊢; exact h0
    · split at hy
      · exact atO_lt (fun x => by simp only [V.lt] at h0 ⊢; exact h0) hy
      · cases hy
    · split at hy
      · exact atO_lt (fun x => by simp only [V.lt]) hy
      · cases hy
    · cases hy
  · refine withH_lt h e fun y hy => ?_
    unfold indexV at hy
    have h0 := hv _ (List.mem_cons_self)
    split at hy
    · split at hy
      · obtain ⟨_, hy⟩ := grd_some hy
        injection hy with hy; subst hy
        simp only [byteV, V.lt]
      · cases hy
    · split at hy
      · split at hy
        · obtain ⟨_, hy⟩ := grd_some hy
          simp only [V.lt] at h0
          exact partV_lt h0 hy
        · cases hy
      · cases hy
    · cases hy
  · unfold lookV at e
    split at e
    · split at e
      · rename_i z hty
        obtain ⟨_, e⟩ := grd_some e
        have hz : V.lt H.length z := V.lt_mono (Nat.zero_le _) (hT _ _ _ hty rfl)
        unfold lookO at e
        split at e
        · rename_i j vv hent
          have hvv : V.lt H.length vv := by
            unfold entO at hent
            split at hent
            · rename_i es hes
              refine findM_lt ?_ hent
              unfold mapE at hes
              split at hes
              · exact h.map hes
              · injection hes with hes; subst hes; intro x hx; cases hx
              · cases hes
            · cases hent
          split at e
          · injection e with e; injection e with e1 e2; subst e1; subst e2; exact ⟨h, by simp only [V.lt, V.lts]; exact ⟨hvv, trivial, trivial⟩⟩
          · injection e with e; injection e with e1 e2; subst e1; subst e2; exact ⟨h, hvv⟩
        · split at e
          · injection e with e; injection e with e1 e2; subst e1; subst e2; exact ⟨h, by simp only [V.lt, V.lts]; exact ⟨hz, trivial, trivial⟩⟩
          · injection e with e; injection e with e1 e2; subst e1; subst e2; exact ⟨h, hz⟩
        · cases e
      · cases e
    · cases e
  · unfold updV at e
    split at e
    · split at e
      · obtain ⟨_, e⟩ := grd_some e
        have hk := hv _ (List.mem_cons_of_mem _ List.mem_cons_self)
        have hx := hv _ (List.mem_cons_of_mem _ (List.mem_cons_of_mem _ List.mem_cons_self))
        unfold updO at e
        split at e
        · rename_i es hes
          have hm := h.map hes
          split at e
          · injection e with e; injection e with e1 e2; subst e1; subst e2
            refine ⟨h.set fun y hy => ?_, by simp only [V.lt, V.lts]⟩
            rcases List.mem_or_eq_of_mem_set hy with h1 | h1
            · exact hm y h1
            · subst h1; exact ⟨hk, hx⟩
          · injection e with e; injection e with e1 e2; subst e1; subst e2
            refine ⟨h.set fun y hy => ?_, by simp only [V.lt, V.lts]⟩
            rcases List.mem_append.1 hy with h1 | h1
            · exact hm y h1
            · rw [List.mem_singleton] at h1; subst h1; exact ⟨hk, hx⟩
          · cases e
        · cases e
      · cases e
    · cases e
  · refine withH_lt h e fun y hy => ?_
    unfold extrV at hy
    split at hy
    · have := hv _ (List.mem_cons_self)
      simp only [V.lt] at this
      exact lts_iff.1 this _ (List.mem_of_getElem? hy)
    · cases hy
  · unfold doCall at e
    split at e
    · exact doBi_lt h hv e
    · rename_i hcal
      unfold callV at e
      split at e
      · rename_i l _ hl
        refine hc _ _ _ _ _ _ e hf h fun x hx => ?_
        rcases List.mem_append.1 hx with h1 | h1
        · exact hv x (List.mem_cons_of_mem _ (allV_mem hl x h1))
        · have := hv _ (List.mem_cons_self)
          simp only [V.lt] at this
          exact lts_iff.1 this x h1
      · cases e
    · cases e
  · cases e
end Go.Proofs.YtbjpecknlohicaaDoor.Lg
