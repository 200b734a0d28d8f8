/- Nested events: where a collection ends, what is around it, what an alias is; the plain law of the places that are open. No condition. -/
import Derived.Test.YtcbjmggbbnpbpaaDoorCNst3
namespace Go.Proofs.YtcbjmggbbnpbpaaDoor.Lg
set_option linter.unusedSimpArgs false
set_option linter.unusedVariables false
open Go.Proofs.YtcbjmggbbnpbpaaDoor

abbrev evA (es : List Ev) (k : Nat) : Ev := es.getD k evZ
abbrev kd (es : List Ev) (k : Nat) : Int := (es.getD k evZ).kind
def isC (e : Ev) : Prop := e.kind = 3 ∨ e.kind = 4
def isN (e : Ev) : Prop := 3 ≤ e.kind ∧ e.kind ≤ 6
instance (e : Ev) : Decidable (isC e) := by unfold isC; infer_instance
instance (e : Ev) : Decidable (isN e) := by unfold isN; infer_instance
def stepC (e : Ev) (c : Int) : Int := if isC e then c + 1 else if e.kind = 7 then c - 1 else c
def endGo (es : List Ev) : Nat → Nat → Int → Int
  | 0, _, _ => -1
  | d + 1, k, c => if stepC (evA es k) c = 0 then (k : Int) else endGo es d (k + 1) (stepC (evA es k) c)
def endF (es : List Ev) (i : Nat) : Int := if isN (evA es i) then endGo es (es.length - i) i 0 else -1
def upGo (es : List Ev) : Nat → Int → Int
  | 0, _ => -1
  | k + 1, c => if isC (evA es k) then (if c = 0 then (k : Int) else upGo es k (c - 1)) else if kd es k = 7 then upGo es k (c + 1) else upGo es k c
def upF (es : List Ev) (i : Nat) : Int := upGo es i 0
def stk (es : List Ev) : Nat → List Nat
  | 0 => []
  | k + 1 => if isC (evA es k) then stk es k ++ [k] else if kd es k = 7 then (stk es k).dropLast else stk es k
def docGo (es : List Ev) : Nat → Nat
  | 0 => 0
  | k + 1 => if kd es k = 2 then k else docGo es k
def defGo (es : List Ev) (t : ByteArray) (i : Nat) : Nat → Int
  | 0 => -1
  | k + 1 => if kd es k = 2 then -1 else if isN (evA es k) ∧ (evA es k).anchor ≠ ⟨#[]⟩ ∧ (evA es k).anchor = t then (if endF es k < 0 ∨ (i : Int) < endF es k then -1 else (k : Int)) else defGo es t i k
def defF (es : List Ev) (i : Nat) : Int := defGo es (evA es i).text i i
def kidsGo (es : List Ev) : Nat → Nat → List Nat
  | 0, _ => []
  | d + 1, k => if k < es.length ∧ isN (evA es k) then k :: (if endF es k < 0 then [] else kidsGo es d (endF es k + 1).toNat) else []
def kidsF (es : List Ev) (i : Nat) : List Nat := if isC (evA es i) then kidsGo es (es.length - i) (i + 1) else []
def rootB (es : List Ev) (i : Nat) : Bool := decide (0 < i ∧ kd es (i - 1) = 2 ∧ isN (evA es i))
def rootsF (es : List Ev) : List Nat := (List.range es.length).filter (rootB es)
def tiedM (es : List Ev) : Bool := nestedM es && (List.range es.length).all (fun i => !(decide (kd es i = 6) && decide (defF es i < 0)))
def wholeM (es : List Ev) : Bool := tiedM es && !decide (kd es (es.length - 1) = 10)

theorem isC_isN {e : Ev} (h : isC e) : isN e := by unfold isC at h; unfold isN; omega
theorem isC_7 {e : Ev} (h : isC e) : ¬ e.kind = 7 := by unfold isC at h; omega
/-- what a nested list gives: an end has something to end -/
def Bal (es : List Ev) : Prop := ∀ k, k < es.length → kd es k = 7 → stk es k ≠ []
theorem stk_lt (es : List Ev) : ∀ k, ∀ j ∈ stk es k, j < k
  | 0, j, h => by cases h
  | k + 1, j, h => by
    unfold stk at h
    by_cases hc : isC (evA es k)
    · rw [if_pos hc] at h
      rcases List.mem_append.1 h with h | h
      · have := stk_lt es k j h; omega
      · rw [List.mem_singleton.1 h]; omega
    · rw [if_neg hc] at h
      by_cases h7 : kd es k = 7
      · rw [if_pos h7] at h
        have := stk_lt es k j (List.dropLast_subset _ h); omega
      · rw [if_neg h7] at h
        have := stk_lt es k j h; omega
theorem stk_nd (es : List Ev) : ∀ k, (stk es k).Nodup
  | 0 => List.nodup_nil
  | k + 1 => by
    have ih := stk_nd es k
    unfold stk
    by_cases hc : isC (evA es k)
    · rw [if_pos hc, List.nodup_append]
      refine ⟨ih, by simp, fun a ha b hb => ?_⟩
      rw [List.mem_singleton.1 hb]
      have := stk_lt es k a ha; omega
    · rw [if_neg hc]
      by_cases h7 : kd es k = 7
      · rw [if_pos h7]; exact ih.sublist (List.dropLast_sublist _)
      · rw [if_neg h7]; exact ih
theorem stk_len (es : List Ev) : ∀ k, (stk es k).length ≤ k
  | 0 => Nat.le_refl _
  | k + 1 => by
    have ih := stk_len es k
    unfold stk
    by_cases hc : isC (evA es k)
    · rw [if_pos hc]; simp; exact ih
    · rw [if_neg hc]
      by_cases h7 : kd es k = 7
      · rw [if_pos h7, List.length_dropLast]; omega
      · rw [if_neg h7]; omega
theorem getD_app1 {l : List Nat} {p x : Nat} (h : p < l.length) : (l ++ [x]).getD p 0 = l.getD p 0 := by
  rw [List.getD_eq_getElem?_getD, List.getD_eq_getElem?_getD, List.getElem?_append_left h]
theorem getD_app2 {l : List Nat} {x : Nat} : (l ++ [x]).getD l.length 0 = x := by
  rw [List.getD_eq_getElem?_getD, List.getElem?_append_right (Nat.le_refl _), Nat.sub_self]; rfl
theorem getD_drop {l : List Nat} {p : Nat} (h : p < l.length - 1) : l.dropLast.getD p 0 = l.getD p 0 := by
  rw [List.getD_eq_getElem?_getD, List.getD_eq_getElem?_getD, List.getElem?_dropLast, if_pos h]
theorem upGo_stk (es : List Ev) (hB : Bal es) : ∀ k, k ≤ es.length → ∀ c : Nat, upGo es k c = if c < (stk es k).length then (((stk es k).getD ((stk es k).length - 1 - c) 0 : Nat) : Int) else -1
  | 0, _, c => by simp [upGo, stk]
  | k + 1, hk, c => by
    have ih := upGo_stk es hB k (by omega)
    unfold upGo stk
    by_cases hc : isC (evA es k)
    · rw [if_pos hc, if_pos hc, List.length_append, List.length_singleton]
      cases c with
      | zero =>
        rw [if_pos (show ((0 : Nat) : Int) = 0 from rfl), if_pos (by omega), show (stk es k).length + 1 - 1 - 0 = (stk es k).length by omega, getD_app2]
      | succ c =>
        rw [if_neg (by omega), show (((c + 1 : Nat) : Int) - 1) = (c : Nat) by omega, ih c]
        by_cases h : c < (stk es k).length
        · rw [if_pos h, if_pos (by omega), getD_app1 (by omega), show (stk es k).length + 1 - 1 - (c + 1) = (stk es k).length - 1 - c by omega]
        · rw [if_neg h, if_neg (by omega)]
    · rw [if_neg hc, if_neg hc]
      by_cases h7 : kd es k = 7
      · have hne := List.length_pos_iff.2 (hB k (by omega) h7)
        rw [if_pos h7, if_pos h7, show ((c : Int) + 1) = ((c + 1 : Nat) : Int) by omega, ih (c + 1), List.length_dropLast]
        by_cases h : c + 1 < (stk es k).length
        · rw [if_pos h, if_pos (by omega), getD_drop (by omega), show (stk es k).length - 1 - 1 - c = (stk es k).length - 1 - (c + 1) by omega]
        · rw [if_neg h, if_neg (by omega)]
      · rw [if_neg h7, if_neg h7, ih c]
theorem upF_stk (es : List Ev) (hB : Bal es) {k : Nat} (hk : k ≤ es.length) : upF es k = if stk es k = [] then -1 else (((stk es k).getD ((stk es k).length - 1) 0 : Nat) : Int) := by
  have := upGo_stk es hB k hk 0
  unfold upF
  rw [show (0 : Int) = ((0 : Nat) : Int) from rfl, this]
  by_cases h : stk es k = []
  · rw [if_pos h, if_neg (by rw [h]; simp)]
  · rw [if_neg h, if_pos (List.length_pos_iff.2 h)]; rfl
theorem endGo_succ (es : List Ev) {k : Nat} (hk : k < es.length) (c : Int) : endGo es (es.length - k) k c = if stepC (evA es k) c = 0 then (k : Int) else endGo es (es.length - (k + 1)) (k + 1) (stepC (evA es k) c) := by
  rw [show es.length - k = (es.length - (k + 1)) + 1 by omega]; rfl
theorem end_stk (es : List Ev) (hB : Bal es) : ∀ k, k ≤ es.length → ∀ p, p < (stk es k).length → endF es ((stk es k).getD p 0) = endGo es (es.length - k) k (((stk es k).length : Int) - p)
  | 0, _, p, h => absurd h (Nat.not_lt_zero _)
  | k + 1, hk, p, h => by
    have ih := end_stk es hB k (by omega)
    unfold stk at h ⊢
    by_cases hc : isC (evA es k)
    · rw [if_pos hc, List.length_append, List.length_singleton] at h
      rw [if_pos hc, List.length_append, List.length_singleton]
      by_cases hp : p < (stk es k).length
      · rw [getD_app1 hp, ih p hp, endGo_succ es (by omega)]
        have : stepC (evA es k) (((stk es k).length : Int) - p) = ((stk es k).length : Int) - p + 1 := by unfold stepC; rw [if_pos hc]
        rw [this, if_neg (by omega)]
        congr 1; omega
      · have hp : p = (stk es k).length := by omega
        subst hp
        rw [getD_app2]
        unfold endF
        rw [if_pos (isC_isN hc), endGo_succ es (by omega)]
        have : stepC (evA es k) 0 = 1 := by unfold stepC; rw [if_pos hc]; rfl
        rw [this, if_neg (by omega)]
        congr 1; omega
    · rw [if_neg hc] at h
      rw [if_neg hc]
      by_cases h7 : kd es k = 7
      · rw [if_pos h7, List.length_dropLast] at h
        rw [if_pos h7, List.length_dropLast, getD_drop h, ih p (by omega), endGo_succ es (by omega)]
        have : stepC (evA es k) (((stk es k).length : Int) - p) = ((stk es k).length : Int) - p - 1 := by unfold stepC; rw [if_neg hc, if_pos h7]
        rw [this, if_neg (by omega)]
        congr 1; omega
      · rw [if_neg h7] at h
        rw [if_neg h7, ih p h, endGo_succ es (by omega)]
        have : stepC (evA es k) (((stk es k).length : Int) - p) = ((stk es k).length : Int) - p := by unfold stepC; rw [if_neg hc, if_neg h7]
        rw [this, if_neg (by omega)]
/-- the innermost open place ends at an end -/
theorem end_top (es : List Ev) (hB : Bal es) {k : Nat} (hk : k < es.length) (h7 : kd es k = 7) : endF es ((stk es k).getD ((stk es k).length - 1) 0) = k := by
  have hne := List.length_pos_iff.2 (hB k hk h7)
  rw [end_stk es hB k (by omega) _ (by omega), endGo_succ es hk]
  have : stepC (evA es k) (((stk es k).length : Int) - (((stk es k).length - 1 : Nat) : Int)) = 0 := by
    unfold stepC
    have : ¬ isC (evA es k) := fun h => isC_7 h h7
    rw [if_neg this, if_pos h7]; omega
  rw [if_pos this]
theorem end_open (es : List Ev) (hB : Bal es) {j : Nat} (h : j ∈ stk es es.length) : endF es j = -1 := by
  obtain ⟨p, hp, rfl⟩ := List.getElem_of_mem h
  have := end_stk es hB es.length (Nat.le_refl _) p hp
  rw [getD_of hp, Nat.sub_self] at this
  exact this
/-- what is written of the ends when 'k' events are gone over -/
def endV (es : List Ev) (k j : Nat) : Int := if j ∈ stk es k then -1 else endF es j
theorem endV_all (es : List Ev) (hB : Bal es) (j : Nat) : endV es es.length j = endF es j := by
  unfold endV
  by_cases h : j ∈ stk es es.length
  · rw [if_pos h, end_open es hB h]
  · rw [if_neg h]
theorem endV_C (es : List Ev) {k j : Nat} (hc : isC (evA es k)) (hj : j < k + 1) : endV es (k + 1) j = if j = k then -1 else endV es k j := by
  unfold endV
  have : stk es (k + 1) = stk es k ++ [k] := by show (if _ then _ else _) = _; rw [if_pos hc]
  rw [this]
  by_cases h : j = k
  · subst h; rw [if_pos rfl, if_pos (by simp)]
  · rw [if_neg h]
    have : (j ∈ stk es k ++ [k]) = (j ∈ stk es k) := by simp [h]
    simp only [this]
theorem endF_leaf {es : List Ev} {k : Nat} (hk : k < es.length) (hc : ¬ isC (evA es k)) (hn : isN (evA es k)) : endF es k = k := by
  unfold endF
  rw [if_pos hn, endGo_succ es hk]
  have : stepC (evA es k) 0 = 0 := by
    unfold stepC
    rw [if_neg hc, if_neg (by unfold isN at hn; omega)]
  rw [if_pos this]
theorem endV_O (es : List Ev) {k j : Nat} (hk : k < es.length) (hc : ¬ isC (evA es k)) (h7 : ¬ kd es k = 7) (hj : j < k + 1) : endV es (k + 1) j = if j = k then (if isN (evA es k) then (k : Int) else -1) else endV es k j := by
  unfold endV
  have : stk es (k + 1) = stk es k := by show (if _ then _ else _) = _; rw [if_neg hc, if_neg h7]
  rw [this]
  by_cases h : j = k
  · subst h
    rw [if_pos rfl, if_neg (fun h => by have := stk_lt es _ _ h; omega)]
    by_cases hn : isN (evA es j)
    · rw [if_pos hn, endF_leaf hk hc hn]
    · rw [if_neg hn]; unfold endF; rw [if_neg hn]
  · rw [if_neg h]
theorem endV_7 (es : List Ev) (hB : Bal es) {k j : Nat} (hk : k < es.length) (h7 : kd es k = 7) (hj : j < k + 1) :
    endV es (k + 1) j = if j = (stk es k).getD ((stk es k).length - 1) 0 then (k : Int) else if j = k then -1 else endV es k j := by
  have hc : ¬ isC (evA es k) := fun h => isC_7 h h7
  have hs : stk es (k + 1) = (stk es k).dropLast := by show (if _ then _ else _) = _; rw [if_neg hc, if_pos h7]
  have hne := hB k hk h7
  have hp := List.length_pos_iff.2 hne
  have hspl := List.dropLast_concat_getLast hne
  have hlast : (stk es k).getLast hne = (stk es k).getD ((stk es k).length - 1) 0 := by
    rw [List.getLast_eq_getElem, List.getD_eq_getElem?_getD, List.getElem?_eq_getElem (by omega)]; rfl
  rw [hlast] at hspl
  have htop := end_top es hB hk h7
  have hnd := stk_nd es k
  have hlt := stk_lt es k
  generalize hT : (stk es k).getD ((stk es k).length - 1) 0 = T at *
  unfold endV
  rw [hs]
  by_cases h : j = T
  · subst h
    have : j ∉ (stk es k).dropLast := by
      rw [← hspl, List.nodup_append] at hnd
      exact fun hm => hnd.2.2 j hm j (by simp) rfl
    rw [if_neg this, if_pos rfl, htop]
  · rw [if_neg h]
    by_cases h2 : j = k
    · subst h2
      have h1 : j ∉ (stk es j).dropLast := fun hm => by have := hlt j (List.dropLast_subset _ hm); omega
      rw [if_neg h1, if_pos rfl]
      unfold endF
      have h7 : (evA es j).kind = 7 := h7
      rw [if_neg (by unfold isN; omega)]
    · rw [if_neg h2]
      have : (j ∈ (stk es k).dropLast) = (j ∈ stk es k) := by
        conv => rhs; rw [← hspl]
        simp [h]
      simp only [this]
/-! ### nested lists -/
theorem goN_bal : ∀ (r : List Ev) (s : NS) (es : List Ev) (k : Nat), goN s r = true → es.drop k = r → s.st.length = (stk es k).length → ∀ j, k ≤ j → j < es.length → kd es j = 7 → stk es j ≠ []
  | [], s, es, k, h, hd, hl, j, hkj, hj, h7 => by
    rw [List.drop_eq_nil_iff] at hd; omega
  | e :: r, s, es, k, h, hd, hl, j, hkj, hj, h7 => by
    have hk : k < es.length := by
      have := congrArg List.length hd
      rw [List.length_drop, List.length_cons] at this; omega
    have he : evA es k = e := by
      have := List.drop_eq_getElem_cons hk
      rw [hd] at this
      injection this with h1 h2
      rw [evA, getD_of hk]; exact h1.symm
    have hr : es.drop (k + 1) = r := by
      have := List.drop_eq_getElem_cons hk
      rw [hd] at this
      injection this with h1 h2
      exact h2.symm
    have hke : kd es k = e.kind := by show (evA es k).kind = _; rw [he]
    unfold goN at h
    by_cases ho : EvOk e
    rotate_left
    · rw [if_pos ho] at h; cases h
    rw [if_neg (by simpa using ho)] at h
    by_cases k10 : e.kind = 10
    · rw [if_pos k10, List.isEmpty_iff] at h
      subst h
      have h9 := congrArg List.length hr
      rw [List.length_drop, List.length_nil] at h9
      have : j = k := by omega
      subst this
      rw [hke] at h7; omega
    rw [if_neg k10] at h
    by_cases k9 : e.kind = 9
    · rw [if_pos k9, Bool.and_eq_true, List.isEmpty_iff] at h
      have h9 := congrArg List.length hr
      rw [h.1, List.length_drop, List.length_nil] at h9
      have : j = k := by omega
      subst this
      rw [hke] at h7; omega
    rw [if_neg k9] at h
    cases hs : stepN s e.kind with
    | none => rw [hs] at h; cases h
    | some t =>
      rw [hs] at h
      simp only at h
      have hl2 : t.st.length = (stk es (k + 1)).length := by
        show t.st.length = (if isC (evA es k) then stk es k ++ [k] else if kd es k = 7 then (stk es k).dropLast else stk es k).length
        rw [hke, he]
        unfold stepN at hs
        by_cases c2 : e.kind = 2
        · rw [if_pos c2] at hs
          rw [if_neg (by unfold isC; omega), if_neg (by omega)]
          by_cases hd0 : s.doc = 0
          · rw [if_pos hd0] at hs; cases hs; exact hl
          · rw [if_neg hd0] at hs; cases hs
        rw [if_neg c2] at hs
        by_cases c5 : e.kind = 5 ∨ e.kind = 6
        · rw [if_pos c5] at hs
          rw [if_neg (by unfold isC; omega), if_neg (by omega), ← hl]
          exact nodeN_len hs
        rw [if_neg c5] at hs
        by_cases c3 : e.kind = 3 ∨ e.kind = 4
        · rw [if_pos c3] at hs
          rw [if_pos (show isC e from c3), List.length_append, ← hl]
          cases hn : nodeN s with
          | none => rw [hn] at hs; cases hs
          | some u => rw [hn] at hs; cases hs; rw [List.length_append, nodeN_len hn]; rfl
        rw [if_neg c3] at hs
        by_cases c7 : e.kind = 7
        · rw [if_pos c7] at hs
          rw [if_neg (show ¬ isC e from c3), if_pos c7, List.length_dropLast, ← hl]
          by_cases hc : s.st = [] ∨ (s.top.1 = 4 ∧ s.top.2 % 2 ≠ 0)
          · rw [if_pos hc] at hs; cases hs
          · rw [if_neg hc] at hs; cases hs; rw [List.length_dropLast]
        rw [if_neg c7] at hs
        rw [if_neg (show ¬ isC e from c3), if_neg c7, ← hl]
        by_cases c8 : e.kind = 8
        · rw [if_pos c8] at hs
          by_cases hd0 : s.doc = 2 ∧ s.st = []
          · rw [if_pos hd0] at hs; cases hs; rfl
          · rw [if_neg hd0] at hs; cases hs
        · rw [if_neg c8] at hs; cases hs
      by_cases hjk : j = k
      · subst hjk
        rw [hke] at h7
        intro hnil
        rw [hnil] at hl
        have h0 : s.st = [] := List.length_eq_zero_iff.1 hl
        rw [h7] at hs
        unfold stepN at hs
        simp [h0] at hs
      · exact goN_bal r t es (k + 1) h hr hl2 j (by omega) hj h7
theorem nestedM_bal {es : List Ev} (h : nestedM es = true) : Bal es := by
  intro j hj h7
  cases es with
  | nil => cases hj
  | cons e r =>
    simp only [nestedM, Bool.and_eq_true, decide_eq_true_eq] at h
    cases j with
    | zero => have : e.kind = 7 := h7; omega
    | succ j =>
      refine goN_bal r ⟨0, []⟩ (e :: r) 1 h.2 rfl ?_ (j + 1) (by omega) hj h7
      have : stk (e :: r) 1 = if isC e then [] ++ [0] else if e.kind = 7 then [] else [] := rfl
      rw [this, if_neg (by unfold isC; omega), if_neg (by omega)]; rfl
/-- all events are right; the fault and the end of the stream are last -/
theorem goN_ok : ∀ (r : List Ev) (s : NS), goN s r = true → (∀ e ∈ r, EvOk e) ∧ ∀ i, i + 1 < r.length → (evA r i).kind ≠ 10
  | [], s, h => ⟨fun e he => absurd he (by simp), fun i hi => absurd hi (by simp)⟩
  | e :: r, s, h => by
    unfold goN at h
    by_cases ho : EvOk e
    rotate_left
    · rw [if_pos ho] at h; cases h
    rw [if_neg (by simpa using ho)] at h
    have fin : ∀ t, goN t r = true → e.kind ≠ 10 → (∀ x ∈ e :: r, EvOk x) ∧ ∀ i, i + 1 < (e :: r).length → (evA (e :: r) i).kind ≠ 10 := fun t ht hk => by
      have := goN_ok r t ht
      refine ⟨fun x hx => ?_, fun i hi => ?_⟩
      · rcases List.mem_cons.1 hx with hx | hx
        · subst hx; exact ho
        · exact this.1 x hx
      · cases i with
        | zero => exact hk
        | succ i => exact this.2 i (by simpa using hi)
    have one : r = [] → (∀ x ∈ e :: r, EvOk x) ∧ ∀ i, i + 1 < (e :: r).length → (evA (e :: r) i).kind ≠ 10 := fun hr => by
      subst hr
      exact ⟨fun x hx => by rw [List.mem_singleton.1 hx]; exact ho, fun i hi => by simp at hi⟩
    by_cases k10 : e.kind = 10
    · rw [if_pos k10, List.isEmpty_iff] at h
      exact one h
    rw [if_neg k10] at h
    by_cases k9 : e.kind = 9
    · rw [if_pos k9, Bool.and_eq_true, List.isEmpty_iff] at h
      exact one h.1
    rw [if_neg k9] at h
    cases hs : stepN s e.kind with
    | none => rw [hs] at h; cases h
    | some t => rw [hs] at h; exact fin t h k10
theorem nestedM_ok {es : List Ev} (h : nestedM es = true) : 2 ≤ es.length ∧ kd es 0 = 1 ∧ (∀ i, i < es.length → EvOk (evA es i)) ∧ ∀ i, i + 1 < es.length → kd es i ≠ 10 := by
  cases es with
  | nil => cases h
  | cons e r =>
    simp only [nestedM, Bool.and_eq_true, decide_eq_true_eq] at h
    have hg := goN_ok r _ h.2
    refine ⟨?_, h.1.2, fun i hi => ?_, fun i hi => ?_⟩
    · cases r with
      | nil => cases h.2
      | cons _ _ => simp
    · cases i with
      | zero => exact h.1.1
      | succ i =>
        have hi2 : i < r.length := by simpa using hi
        show EvOk (r.getD i evZ)
        rw [getD_of hi2]; exact hg.1 _ (List.getElem_mem _)
    · cases i with
      | zero => show e.kind ≠ 10; omega
      | succ i => exact hg.2 i (by simpa using hi)
end Go.Proofs.YtcbjmggbbnpbpaaDoor.Lg
