/- CanWrite: the plain law. No condition. -/
import Derived.Test.YtcbjmggbbnpbpaaDoorCNc8
namespace Go.Proofs.YtcbjmggbbnpbpaaDoor.Lg
set_option linter.unusedSimpArgs false
set_option linter.unusedVariables false
open Go.Proofs.YtcbjmggbbnpbpaaDoor

theorem stk_top (es : List Ev) : ∀ k p, p < (stk es k).length → (stk es ((stk es k).getD p 0)).length = p
  | 0, p, h => absurd h (Nat.not_lt_zero _)
  | k + 1, p, h => by
    have ih := stk_top es k
    have hs1 : stk es (k + 1) = if isC (evA es k) then stk es k ++ [k] else if kd es k = 7 then (stk es k).dropLast else stk es k := rfl
    rw [hs1] at h ⊢
    by_cases hc : isC (evA es k)
    · rw [if_pos hc, List.length_append, List.length_singleton] at h
      rw [if_pos hc]
      by_cases hp : p < (stk es k).length
      · rw [getD_app1 hp]; exact ih p hp
      · have : p = (stk es k).length := by omega
        subst this
        rw [getD_app2]
    · rw [if_neg hc] at h
      rw [if_neg hc]
      by_cases h7 : kd es k = 7
      · rw [if_pos h7, List.length_dropLast] at h
        rw [if_pos h7, getD_drop h]
        exact ih p (by omega)
      · rw [if_neg h7] at h
        rw [if_neg h7]
        exact ih p h
/-- no key is a collection, from the k-th on -/
def keyG (es : List Ev) : Nat → List Nat → Bool
  | _, [] => true
  | k, x :: xs => !(decide (k % 2 = 0) && decide (isC (evA es x))) && keyG es (k + 1) xs
def keysB (es : List Ev) (i : Nat) : Bool := !decide (kd es i = 4) || keyG es 0 (kidsF es i)
def cwI (es : List Ev) (i : Nat) : Bool := wrE (evA es i) && decide ((stk es i).length ≤ 40) && keysB es i
def cwS (es : List Ev) (i : Nat) : Bool := wrE (evA es i) && decide ((stk es (i + 1)).length ≤ 40) && keysB es i
def cwM (es : List Ev) : Bool := wholeM es && (List.range es.length).all (cwI es)
/-- a list that ends with the end of the stream leaves nothing open -/
theorem goN_end : ∀ (r : List Ev) (s : NS) (es : List Ev) (k : Nat), goN s r = true → es.drop k = r → s.st.length = (stk es k).length → (s.doc = 2 ∨ s.st = []) → kd es (es.length - 1) ≠ 10 → stk es es.length = []
  | [], s, es, k, h, _, _, _, _ => by cases h
  | e :: r, s, es, k, h, hd, hl, hJ, hF => by
    have hk : k < es.length := by
      have := congrArg List.length hd
      rw [List.length_drop, List.length_cons] at this; omega
    have he : evA es k = e := by
      have := List.drop_eq_getElem_cons hk
      rw [hd] at this
      injection this with h1 h2
      rw [evA, getD_of hk]; exact h1.symm
    have hr : es.drop (k + 1) = r := by
      have := List.drop_eq_getElem_cons hk
      rw [hd] at this
      injection this with h1 h2
      exact h2.symm
    have hke : kd es k = e.kind := by show (evA es k).kind = _; rw [he]
    unfold goN at h
    by_cases ho : EvOk e
    rotate_left
    · rw [if_pos ho] at h; cases h
    rw [if_neg (by simpa using ho)] at h
    by_cases k10 : e.kind = 10
    · rw [if_pos k10, List.isEmpty_iff] at h
      subst h
      have h9 := congrArg List.length hr
      rw [List.length_drop, List.length_nil] at h9
      exact absurd (by rw [show es.length - 1 = k by omega, hke, k10]) hF
    rw [if_neg k10] at h
    by_cases k9 : e.kind = 9
    · rw [if_pos k9, Bool.and_eq_true, List.isEmpty_iff, decide_eq_true_iff] at h
      have h9 := congrArg List.length hr
      rw [h.1, List.length_drop, List.length_nil] at h9
      have h0 : s.st = [] := by rcases hJ with hJ | hJ; omega; exact hJ
      rw [h0] at hl
      have hn : es.length = k + 1 := by omega
      rw [hn]
      show (if isC (evA es k) then stk es k ++ [k] else if kd es k = 7 then (stk es k).dropLast else stk es k) = []
      rw [if_neg (by rw [he]; unfold isC; omega), if_neg (by omega)]
      exact List.length_eq_zero_iff.1 hl.symm
    rw [if_neg k9] at h
    cases hs : stepN s e.kind with
    | none => rw [hs] at h; cases h
    | some t =>
      rw [hs] at h
      simp only at h
      have key : t.st.length = (stk es (k + 1)).length ∧ (t.doc = 2 ∨ t.st = []) := by
        show t.st.length = (if isC (evA es k) then stk es k ++ [k] else if kd es k = 7 then (stk es k).dropLast else stk es k).length ∧ _
        rw [hke, he]
        unfold stepN at hs
        by_cases c2 : e.kind = 2
        · rw [if_pos c2] at hs
          rw [if_neg (by unfold isC; omega), if_neg (by omega)]
          by_cases hd0 : s.doc = 0
          · rw [if_pos hd0] at hs; cases hs; exact ⟨hl, .inr (by rcases hJ with hJ | hJ; omega; exact hJ)⟩
          · rw [if_neg hd0] at hs; cases hs
        rw [if_neg c2] at hs
        have nodeJ : ∀ u, nodeN s = some u → u.doc = 2 ∨ u.st = [] := fun u hu => by
          unfold nodeN at hu
          by_cases h0 : s.st = []
          · rw [if_pos h0] at hu
            by_cases h1 : s.doc = 1
            · rw [if_pos h1] at hu; cases hu; exact .inl rfl
            · rw [if_neg h1] at hu; cases hu
          · rw [if_neg h0] at hu; cases hu
            rcases hJ with hJ | hJ
            · exact .inl hJ
            · exact absurd hJ h0
        by_cases c5 : e.kind = 5 ∨ e.kind = 6
        · rw [if_pos c5] at hs
          rw [if_neg (by unfold isC; omega), if_neg (by omega), ← hl]
          exact ⟨nodeN_len hs, nodeJ _ hs⟩
        rw [if_neg c5] at hs
        by_cases c3 : e.kind = 3 ∨ e.kind = 4
        · rw [if_pos c3] at hs
          rw [if_pos (show isC e from c3), List.length_append, ← hl]
          cases hn : nodeN s with
          | none => rw [hn] at hs; cases hs
          | some u =>
            have hd2 : u.doc = 2 := by
              unfold nodeN at hn
              by_cases h0 : s.st = []
              · rw [if_pos h0] at hn
                by_cases h1 : s.doc = 1
                · rw [if_pos h1] at hn; cases hn; rfl
                · rw [if_neg h1] at hn; cases hn
              · rw [if_neg h0] at hn; cases hn
                rcases hJ with hJ | hJ
                · exact hJ
                · exact absurd hJ h0
            have hlen := nodeN_len hn
            rw [hn] at hs; cases hs
            exact ⟨by rw [List.length_append, hlen]; rfl, .inl hd2⟩
        rw [if_neg c3] at hs
        by_cases c7 : e.kind = 7
        · rw [if_pos c7] at hs
          rw [if_neg (show ¬ isC e from c3), if_pos c7, List.length_dropLast, ← hl]
          by_cases hc : s.st = [] ∨ (s.top.1 = 4 ∧ s.top.2 % 2 ≠ 0)
          · rw [if_pos hc] at hs; cases hs
          · rw [if_neg hc] at hs; cases hs
            exact ⟨by rw [List.length_dropLast], by rcases hJ with hJ | hJ; exact .inl hJ; exact absurd (.inl hJ) hc⟩
        rw [if_neg c7] at hs
        rw [if_neg (show ¬ isC e from c3), if_neg c7, ← hl]
        by_cases c8 : e.kind = 8
        · rw [if_pos c8] at hs
          by_cases hd0 : s.doc = 2 ∧ s.st = []
          · rw [if_pos hd0] at hs; cases hs; exact ⟨rfl, .inr hd0.2⟩
          · rw [if_neg hd0] at hs; cases hs
        · rw [if_neg c8] at hs; cases hs
      exact goN_end r t es (k + 1) h hr key.1 key.2 hF
theorem stk_end {es : List Ev} (h : wholeM es = true) : stk es es.length = [] := by
  have hw : nestedM es = true ∧ kd es (es.length - 1) ≠ 10 := by
    unfold wholeM tiedM at h
    simp only [Bool.and_eq_true, Bool.not_eq_true', decide_eq_false_iff_not] at h
    exact ⟨h.1.1, h.2⟩
  obtain ⟨hn, h10⟩ := hw
  cases es with
  | nil => rfl
  | cons e r =>
    have h := hn
    simp only [nestedM, Bool.and_eq_true, decide_eq_true_eq] at h
    refine goN_end r ⟨0, []⟩ (e :: r) 1 h.2 rfl ?_ (.inr rfl) h10
    have : stk (e :: r) 1 = if isC e then [] ++ [0] else if e.kind = 7 then [] else [] := rfl
    rw [this, if_neg (by unfold isC; omega), if_neg (by omega)]; rfl
/-- the two counts of what is open -/
theorem cw_same {es : List Ev} (h : wholeM es = true) : (List.range es.length).all (cwS es) = (List.range es.length).all (cwI es) := by
  have hend := stk_end h
  rw [Bool.eq_iff_iff, List.all_eq_true, List.all_eq_true]
  constructor
  · intro hs i hi
    have hi2 := hs i hi
    unfold cwS at hi2
    unfold cwI
    simp only [Bool.and_eq_true, decide_eq_true_eq] at hi2 ⊢
    refine ⟨⟨hi2.1.1, ?_⟩, hi2.2⟩
    cases i with
    | zero => exact Nat.zero_le _
    | succ i =>
      have := hs i (by simp at hi ⊢; omega)
      unfold cwS at this
      simp only [Bool.and_eq_true, decide_eq_true_eq] at this
      exact this.1.2
  · intro hs i hi
    have hi2 := hs i hi
    unfold cwI at hi2
    unfold cwS
    simp only [Bool.and_eq_true, decide_eq_true_eq] at hi2 ⊢
    refine ⟨⟨hi2.1.1, ?_⟩, hi2.2⟩
    have hi3 : i < es.length := by simpa using hi
    by_cases hl : i + 1 = es.length
    · rw [hl, hend]; exact Nat.zero_le _
    · have := hs (i + 1) (by simp; omega)
      unfold cwI at this
      simp only [Bool.and_eq_true, decide_eq_true_eq] at this
      exact this.1.2
theorem keyG_drop {es : List Ev} {xs : List Nat} {j : Nat} (h : j < xs.length) : keyG es j (xs.drop j) = (!(decide (j % 2 = 0) && decide (isC (evA es (xs.getD j 0)))) && keyG es (j + 1) (xs.drop (j + 1))) := by
  rw [List.drop_eq_getElem_cons h, getD_of h]; rfl
theorem keyG_end {es : List Ev} {xs : List Nat} {j : Nat} (h : xs.length ≤ j) : keyG es j (xs.drop j) = true := by
  rw [List.drop_of_length_le h]; cases j <;> rfl
end Go.Proofs.YtcbjmggbbnpbpaaDoor.Lg
