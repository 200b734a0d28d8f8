/- Nested events: the plain law of what an alias is, and of what is in a collection. No condition. -/
import Derived.Test.YtcbjmggbbnpbpaaDoorCNsM
namespace Go.Proofs.YtcbjmggbbnpbpaaDoor.Lg
set_option linter.unusedSimpArgs false
set_option linter.unusedVariables false
open Go.Proofs.YtcbjmggbbnpbpaaDoor

theorem endGo_rng (es : List Ev) : ∀ d k c, endGo es d k c = -1 ∨ ((k : Int) ≤ endGo es d k c ∧ endGo es d k c < (k : Int) + d)
  | 0, k, c => .inl rfl
  | d + 1, k, c => by
    unfold endGo
    by_cases h : stepC (evA es k) c = 0
    · rw [if_pos h]; right; omega
    · rw [if_neg h]
      rcases endGo_rng es d (k + 1) (stepC (evA es k) c) with h | h
      · exact .inl h
      · right; omega
theorem endF_rng (es : List Ev) {i : Nat} (hi : i < es.length) : endF es i = -1 ∨ ((i : Int) ≤ endF es i ∧ endF es i < es.length) := by
  unfold endF
  by_cases h : isN (evA es i)
  · rw [if_pos h]
    rcases endGo_rng es (es.length - i) i 0 with h | h
    · exact .inl h
    · right; omega
  · rw [if_neg h]; exact .inl rfl
theorem endGo_7 (es : List Ev) : ∀ d k c m, 1 ≤ c → endGo es d k c = ((m : Nat) : Int) → kd es m = 7
  | 0, k, c, m, hc, h => by unfold endGo at h; omega
  | d + 1, k, c, m, hc, h => by
    unfold endGo at h
    by_cases h0 : stepC (evA es k) c = 0
    · rw [if_pos h0] at h
      have : k = m := by omega
      subst this
      unfold stepC at h0
      by_cases hC : isC (evA es k)
      · rw [if_pos hC] at h0; omega
      · rw [if_neg hC] at h0
        by_cases h7 : (evA es k).kind = 7
        · exact h7
        · rw [if_neg h7] at h0; omega
    · rw [if_neg h0] at h
      refine endGo_7 es d (k + 1) _ m ?_ h
      unfold stepC at h0 ⊢
      by_cases hC : isC (evA es k)
      · rw [if_pos hC]; omega
      · rw [if_neg hC] at h0 ⊢
        by_cases h7 : (evA es k).kind = 7
        · rw [if_pos h7] at h0 ⊢; omega
        · rw [if_neg h7]; omega
theorem endF_ne {es : List Ev} {j i : Nat} (hj : j < i) (hl : j < es.length) (h6 : kd es i ≠ 7) : endF es j ≠ i := by
  intro h
  unfold endF at h
  by_cases hn : isN (evA es j)
  · rw [if_pos hn, endGo_succ es hl] at h
    by_cases h0 : stepC (evA es j) 0 = 0
    · rw [if_pos h0] at h; omega
    · rw [if_neg h0] at h
      refine h6 (endGo_7 es _ _ _ i ?_ h)
      unfold stepC at h0 ⊢
      by_cases hC : isC (evA es j)
      · rw [if_pos hC]; omega
      · rw [if_neg hC] at h0
        rw [if_neg (by unfold isN at hn; omega)] at h0; omega
  · rw [if_neg hn] at h; omega
theorem docGo_le (es : List Ev) : ∀ i, docGo es i ≤ i
  | 0 => Nat.le_refl _
  | k + 1 => by
    unfold docGo
    by_cases h : kd es k = 2
    · rw [if_pos h]; omega
    · rw [if_neg h]; have := docGo_le es k; omega
theorem docGo_gt (es : List Ev) : ∀ i k, docGo es i < k → k < i → kd es k ≠ 2
  | 0, k, h, h2 => absurd h2 (Nat.not_lt_zero _)
  | i + 1, k, h, h2 => by
    unfold docGo at h
    by_cases h3 : kd es i = 2
    · rw [if_pos h3] at h; omega
    · rw [if_neg h3] at h
      by_cases hk : k = i
      · subst hk; exact h3
      · exact docGo_gt es i k h (by omega)
theorem docGo_at (es : List Ev) : ∀ i, docGo es i = 0 ∨ kd es (docGo es i) = 2
  | 0 => .inl rfl
  | i + 1 => by
    unfold docGo
    by_cases h3 : kd es i = 2
    · rw [if_pos h3]; exact .inr h3
    · rw [if_neg h3]; exact docGo_at es i
theorem defGo_doc (es : List Ev) (h1 : kd es 0 = 1) (t : ByteArray) (i i' : Nat) : defGo es t i (docGo es i' + 1) = -1 := by
  unfold defGo
  rcases docGo_at es i' with h | h
  · rw [h, if_neg (by omega), if_neg (fun hn => by have := hn.1; unfold isN at this; have : (evA es 0).kind = 1 := h1; omega)]
    rfl
  · rw [if_pos h]
def lastGo (es : List Ev) (t : ByteArray) : Nat → Option Nat
  | 0 => none
  | k + 1 => if kd es k = 2 then none else if kd es k ≠ 6 ∧ (evA es k).anchor ≠ ⟨#[]⟩ ∧ (evA es k).anchor = t then some k else lastGo es t k
theorem anchor_node {e : Ev} (h : EvOk e) (ha : e.anchor ≠ ⟨#[]⟩) : isN e ∧ e.kind ≠ 6 := by
  have : e.kind = 3 ∨ e.kind = 4 ∨ e.kind = 5 := Classical.byContradiction fun hc => ha (h.2.2.2.2.2.2.2.2.1 hc).1
  unfold isN
  omega
theorem defGo_last (es : List Ev) (hok : ∀ i, i < es.length → EvOk (evA es i)) (t : ByteArray) (i : Nat) : ∀ k, k ≤ es.length →
    defGo es t i k = match lastGo es t k with | none => -1 | some j => if endF es j < 0 ∨ (i : Int) < endF es j then -1 else (j : Int)
  | 0, _ => rfl
  | k + 1, hk => by
    have ih := defGo_last es hok t i k (by omega)
    unfold defGo lastGo
    by_cases h2 : kd es k = 2
    · rw [if_pos h2, if_pos h2]
    rw [if_neg h2, if_neg h2]
    by_cases ha : (evA es k).anchor ≠ ⟨#[]⟩ ∧ (evA es k).anchor = t
    · have := anchor_node (hok k (by omega)) ha.1
      have h6 : kd es k ≠ 6 ∧ (evA es k).anchor ≠ ⟨#[]⟩ ∧ (evA es k).anchor = t := ⟨this.2, ha⟩
      rw [if_pos (show isN (evA es k) ∧ (evA es k).anchor ≠ ⟨#[]⟩ ∧ (evA es k).anchor = t from ⟨this.1, ha⟩), if_pos h6]
    · rw [if_neg (fun h => ha h.2), if_neg (fun h => ha h.2), ih]
theorem lastGo_lt (es : List Ev) (t : ByteArray) : ∀ k j, lastGo es t k = some j → j < k
  | 0, j, h => by cases h
  | k + 1, j, h => by
    unfold lastGo at h
    by_cases h2 : kd es k = 2
    · rw [if_pos h2] at h; cases h
    rw [if_neg h2] at h
    by_cases ha : kd es k ≠ 6 ∧ (evA es k).anchor ≠ ⟨#[]⟩ ∧ (evA es k).anchor = t
    · rw [if_pos ha] at h; cases h; omega
    · rw [if_neg ha] at h; have := lastGo_lt es t k j h; omega
theorem defF_lt (es : List Ev) (t : ByteArray) (i : Nat) : ∀ k, defGo es t i k = -1 ∨ (0 ≤ defGo es t i k ∧ defGo es t i k < k)
  | 0 => .inl rfl
  | k + 1 => by
    have ih := defF_lt es t i k
    unfold defGo
    by_cases h2 : kd es k = 2
    · rw [if_pos h2]; exact .inl rfl
    rw [if_neg h2]
    by_cases ha : isN (evA es k) ∧ (evA es k).anchor ≠ ⟨#[]⟩ ∧ (evA es k).anchor = t
    · rw [if_pos ha]
      by_cases he : endF es k < 0 ∨ (i : Int) < endF es k
      · rw [if_pos he]; exact .inl rfl
      · rw [if_neg he]; right; omega
    · rw [if_neg ha]
      rcases ih with h | h
      · exact .inl h
      · right; omega
theorem defF_rng (es : List Ev) (i : Nat) : defF es i = -1 ∨ (0 ≤ defF es i ∧ defF es i < i) := defF_lt es _ i i
theorem kidsGo_fuel (es : List Ev) : ∀ d k, es.length - k ≤ d → kidsGo es d k = kidsGo es (es.length - k) k
  | 0, k, h => by rw [Nat.le_zero.1 h]
  | d + 1, k, h => by
    by_cases hk : k < es.length
    · rw [show es.length - k = (es.length - (k + 1)) + 1 by omega]
      unfold kidsGo
      by_cases hn : k < es.length ∧ isN (evA es k)
      · rw [if_pos hn, if_pos hn]
        congr 1
        rcases endF_rng es hk with he | he
        · rw [if_pos (by omega), if_pos (by omega)]
        · rw [if_neg (by omega), if_neg (by omega)]
          rw [kidsGo_fuel es d _ (by omega), kidsGo_fuel es (es.length - (k + 1)) _ (by omega)]
      · rw [if_neg hn, if_neg hn]
    · rw [show es.length - k = 0 by omega]
      unfold kidsGo
      rw [if_neg (by omega)]
termination_by d k => (d, es.length - k)
decreasing_by all_goals (simp_wf; first | (apply Prod.Lex.left; omega) | (apply Prod.Lex.right; omega))
/-- the kids from a place on -/
def kidsA (es : List Ev) (k : Nat) : List Nat := kidsGo es (es.length - k) k
theorem kidsA_eq (es : List Ev) {k : Nat} (hk : k < es.length) : kidsA es k = if isN (evA es k) then k :: (if endF es k < 0 then [] else kidsA es (endF es k + 1).toNat) else [] := by
  unfold kidsA
  rw [show es.length - k = (es.length - (k + 1)) + 1 by omega]
  conv => lhs; unfold kidsGo
  by_cases hn : isN (evA es k)
  · rw [if_pos ⟨hk, hn⟩, if_pos hn]
    congr 1
    rcases endF_rng es hk with he | he
    · rw [if_pos (by omega), if_pos (by omega)]
    · rw [if_neg (by omega), if_neg (by omega)]
      exact kidsGo_fuel es _ _ (by omega)
  · rw [if_neg (fun h => hn h.2), if_neg hn]
theorem kidsA_end (es : List Ev) {k : Nat} (hk : es.length ≤ k) : kidsA es k = [] := by
  unfold kidsA
  rw [show es.length - k = 0 by omega]; rfl
theorem kidsF_A (es : List Ev) (i : Nat) (hi : i < es.length) : kidsF es i = if isC (evA es i) then kidsA es (i + 1) else [] := by
  unfold kidsF kidsA
  by_cases h : isC (evA es i)
  · rw [if_pos h, if_pos h, kidsGo_fuel es _ _ (by omega)]
  · rw [if_neg h, if_neg h]
theorem kidsA_in (es : List Ev) : ∀ d k, es.length - k ≤ d → ∀ j ∈ kidsA es k, k ≤ j ∧ j < es.length ∧ isN (evA es j)
  | 0, k, h, j, hj => by rw [kidsA_end es (by omega)] at hj; cases hj
  | d + 1, k, h, j, hj => by
    by_cases hk : k < es.length
    · rw [kidsA_eq es hk] at hj
      by_cases hn : isN (evA es k)
      · rw [if_pos hn] at hj
        rcases List.mem_cons.1 hj with rfl | hj
        · exact ⟨Nat.le_refl _, hk, hn⟩
        · rcases endF_rng es hk with he | he
          · rw [if_pos (by omega)] at hj; cases hj
          · rw [if_neg (by omega)] at hj
            have := kidsA_in es d _ (by omega) j hj
            exact ⟨by omega, this.2⟩
      · rw [if_neg hn] at hj; cases hj
    · rw [kidsA_end es (by omega)] at hj; cases hj
theorem kidsF_in (es : List Ev) {i : Nat} (hi : i < es.length) : ∀ j ∈ kidsF es i, i < j ∧ j < es.length ∧ isN (evA es j) := by
  intro j hj
  rw [kidsF_A es i hi] at hj
  by_cases h : isC (evA es i)
  · rw [if_pos h] at hj
    have := kidsA_in es es.length (i + 1) (by omega) j hj
    exact ⟨by omega, this.2⟩
  · rw [if_neg h] at hj; cases hj
theorem kidsA_len (es : List Ev) : ∀ d k, es.length - k ≤ d → (kidsA es k).length ≤ es.length - k
  | 0, k, h => by rw [kidsA_end es (by omega)]; exact Nat.zero_le _
  | d + 1, k, h => by
    by_cases hk : k < es.length
    · rw [kidsA_eq es hk]
      by_cases hn : isN (evA es k)
      · rw [if_pos hn, List.length_cons]
        rcases endF_rng es hk with he | he
        · rw [if_pos (by omega), List.length_nil]; omega
        · rw [if_neg (by omega)]
          have := kidsA_len es d (endF es k + 1).toNat (by omega)
          omega
      · rw [if_neg hn, List.length_nil]; omega
    · rw [kidsA_end es (by omega), List.length_nil]; omega
theorem kidsF_len (es : List Ev) {i : Nat} (hi : i < es.length) : (kidsF es i).length ≤ es.length := by
  rw [kidsF_A es i hi]
  by_cases h : isC (evA es i)
  · rw [if_pos h]; have := kidsA_len es es.length (i + 1) (by omega); omega
  · rw [if_neg h]; exact Nat.zero_le _
end Go.Proofs.YtcbjmggbbnpbpaaDoor.Lg
