/- GraphOk: the reference's answer is the program's. Plain. -/
import Derived.Test.YtbjpecknlohicaaCGok7
namespace Go.Proofs.Ytbjpecknlohicaa.Lg
set_option linter.unusedSimpArgs false
set_option linter.unusedVariables false
set_option maxRecDepth 100000
set_option maxHeartbeats 4000000
open Go.Proofs.Ytbjpecknlohicaa

theorem spR_bad (g : Gr) : ∀ (rs : List Int) (s : SW), s.bad = true → spR g rs s = false
  | [], s, h => by simp [spR, h]
  | r :: rs, s, h => by
    unfold spR
    by_cases w : r < 0 ∨ (g.nodes.length : Int) ≤ r
    · rw [if_pos w]
    · rw [if_neg w]
      exact spR_bad g rs _ (spGo_bad g _ s r h)
/-- how both stand between two roots -/
structure Btw (N : Nat) (i : Int) (s : SW) (t : MW) : Prop where
  bad : s.bad = false
  next : s.next = t.met
  len : s.seen.length = N
  inv : MInv N t
  seen : ∀ k, k < N → s.seen.getD k 0 = if t.met ≤ (k : Int) then 0 else 3
  shut : ∀ k : Nat, (k : Int) < t.met → t.opn.getD k false = false ∧ t.owner.getD k 0 < i
theorem Btw.both {N : Nat} {i : Int} {s : SW} {t : MW} (h : Btw N i s t) : Both N i s t := by
  refine ⟨h.bad, h.next, h.len, fun k hk => ?_⟩
  rw [h.seen k hk]
  unfold sv
  by_cases hm : t.met ≤ (k : Int)
  · rw [if_pos hm, if_pos hm]
  · have h1 := h.shut k (by omega)
    rw [if_neg hm, if_neg hm, h1.1, if_neg Bool.false_ne_true, if_neg (show ¬ t.owner.getD k 0 = i by omega)]
theorem mark_getD (s : SW) (k : Nat) (hk : k < s.seen.length) : (markS s).seen.getD k 0 = if s.seen.getD k 0 = 2 then 3 else s.seen.getD k 0 := by
  simp only [markS]
  rw [getD_of (by rw [List.length_map]; exact hk), List.getElem_map, getD_of hk]
theorem spR_imR (g : Gr) (hk : ∀ n ∈ g.nodes, n.kids.length ≤ 1048576 ∧ ∀ k ∈ n.kids, 0 ≤ k ∧ k < g.nodes.length) :
    ∀ (rs : List Int) (i : Int) (s : SW) (t : MW), Btw g.nodes.length i s t → spR g rs s = imR g rs i t
  | [], i, s, t, h => by
    unfold spR imR
    rw [h.bad, h.next]
    simp
  | r :: rs, i, s, t, h => by
    unfold spR imR
    by_cases w : r < 0 ∨ (g.nodes.length : Int) ≤ r
    · rw [if_pos w, if_pos (.inl (by omega))]
    rw [if_neg w]
    have h0 : 0 ≤ r := by omega
    have h1 : r < g.nodes.length := by omega
    have hi : r.toNat < g.nodes.length := by omega
    have hlo := h.inv.lo
    by_cases hm : r < t.met
    · rw [if_pos (.inr (.inl hm))]
      refine spR_bad g rs _ ?_
      have h3 := h.seen r.toNat hi
      rw [if_neg (show ¬ t.met ≤ (r.toNat : Int) by omega)] at h3
      have e2 : spGo g (g.nodes.length + 1) s r = { s with bad := true } := by
        unfold spGo
        rw [if_pos (.inr (.inr (.inr h3)))]
      rw [e2]; rfl
    have hb := go_both g i hk g.nodes.length s t r h.both h.inv h0 h1 (by omega)
    have iv := imGo_inv g i hk (g.nodes.length + 1) t r h.inv h0 h1
    cases hr : (imGo g i (g.nodes.length + 1) t r).2
    · rw [if_pos (.inr (.inr rfl))]
      exact spR_bad g rs _ (hb.2 hr)
    · rw [if_neg (by rintro (h | h | h); omega; exact hm h; exact absurd h (by simp))]
      have kp := imGo_kept g i hk (g.nodes.length + 1) t r h.inv h0 h1 hr
      have bb := hb.1 hr
      generalize (imGo g i (g.nodes.length + 1) t r).1 = t' at *
      generalize spGo g (g.nodes.length + 1) s r = s' at *
      refine spR_imR g hk rs (i + 1) _ t' ⟨bb.bad, bb.next, by simp only [markS, List.length_map]; exact bb.len, iv.1, fun k hk2 => ?_, fun k hk2 => ?_⟩
      · rw [mark_getD _ _ (by rw [bb.len]; exact hk2), bb.vals k hk2]
        unfold sv
        by_cases hm2 : t'.met ≤ (k : Int)
        · rw [if_pos hm2, if_neg (by decide), if_pos hm2]
        · rw [if_neg hm2, if_neg hm2]
          have ho : t'.opn.getD k false = false := by
            by_cases hq : (k : Int) < t.met
            · rw [(kp.old k hq).2]; exact (h.shut k hq).1
            · exact (kp.new k (by omega) (by omega)).2
          rw [ho, if_neg Bool.false_ne_true]
          by_cases hw : t'.owner.getD k 0 = i
          · rw [if_pos hw, if_pos rfl]
          · rw [if_neg hw, if_neg (by decide)]
      · by_cases hq : (k : Int) < t.met
        · have h5 := kp.old k hq
          have h6 := h.shut k hq
          rw [h5.1, h5.2]
          exact ⟨h6.1, by omega⟩
        · have h5 := kp.new k (by omega) hk2
          rw [h5.1, h5.2]
          exact ⟨rfl, by omega⟩
theorem spOk_imOk (g : Gr) (kx : ∀ n ∈ g.nodes, n.kids.length ≤ 1048576) : spOk g = imOk g := by
  unfold spOk imOk
  by_cases w : 3000 < g.nodes.length ∨ ndsOk g = false
  · rw [if_pos w, if_pos w]
  rw [if_neg w, if_neg w]
  have w2 : ndsOk g = true := by
    cases hh : ndsOk g
    · exact absurd (.inr hh) w
    · rfl
  have hz : ∀ k : Nat, (List.replicate g.nodes.length (0 : Int)).getD k 0 = 0 := fun k => by
    rw [List.getD_eq_getElem?_getD, List.getElem?_replicate]
    by_cases h : k < g.nodes.length
    · rw [if_pos h]; rfl
    · rw [if_neg h]; rfl
  refine spR_imR g (nds_kids g w2 kx) g.roots 0 _ _ ⟨rfl, rfl, by simp, ⟨by simp, by simp, by simp, by simp⟩, fun k hk => ?_, fun k hk => ?_⟩
  · simp only [hz]
    rw [if_pos (by omega)]
  · simp only at hk; omega
end Go.Proofs.Ytbjpecknlohicaa.Lg
