/- The keys and values of a map: as many. The plain law. No condition. -/
import Derived.Test.YtcbjmggbbnpbpaaDoorCFlM
namespace Go.Proofs.YtcbjmggbbnpbpaaDoor.Lg
set_option linter.unusedSimpArgs false
set_option linter.unusedVariables false
open Go.Proofs.YtcbjmggbbnpbpaaDoor

theorem popped {es : List Ev} {i : Nat} (hC : isC (evA es i)) : ∀ k, i < k → i ∈ stk es k ∨ ∃ j, i < j ∧ j < k ∧ kd es j = 7 ∧ stk es j ≠ [] ∧ (stk es j).getD ((stk es j).length - 1) 0 = i
  | 0, h => absurd h (Nat.not_lt_zero _)
  | k + 1, h => by
    have hs : stk es (k + 1) = if isC (evA es k) then stk es k ++ [k] else if kd es k = 7 then (stk es k).dropLast else stk es k := rfl
    rw [hs]
    by_cases e : i = k
    · subst e; rw [if_pos hC]; exact .inl (by simp)
    · rcases popped hC k (by omega) with ih | ⟨j, h0, h1, h2⟩
      · by_cases hCk : isC (evA es k)
        · rw [if_pos hCk]; exact .inl (by simp [ih])
        · rw [if_neg hCk]
          by_cases h7 : kd es k = 7
          · rw [if_pos h7]
            have hne : stk es k ≠ [] := by intro h; rw [h] at ih; cases ih
            by_cases et : i = (stk es k).getD ((stk es k).length - 1) 0
            · exact .inr ⟨k, by omega, by omega, h7, hne, et.symm⟩
            · left
              have hspl := List.dropLast_concat_getLast hne
              have hlast : (stk es k).getLast hne = (stk es k).getD ((stk es k).length - 1) 0 := by
                rw [List.getLast_eq_getElem, List.getD_eq_getElem?_getD, List.getElem?_eq_getElem (by have := List.length_pos_iff.2 hne; omega)]; rfl
              rw [hlast] at hspl
              rw [← hspl] at ih
              rcases List.mem_append.1 ih with ih | ih
              · exact ih
              · exact absurd (List.mem_singleton.1 ih) et
          · rw [if_neg h7]; exact .inl ih
      · exact .inr ⟨j, h0, by omega, h2⟩
def tailK (es : List Ev) (c : Nat) : List Nat := if endF es c < 0 then [] else kidsA es (endF es c + 1).toNat
/-- the counts are counts of what is in the open collections -/
def Cnts (es : List Ev) (k : Nat) (s : NS) : Prop :=
  s.st.length = (stk es k).length ∧ (s.doc = 2 ∨ s.st = []) ∧ ∀ p, p < (stk es k).length → (s.st.getD p (0, 0)).1 = kd es ((stk es k).getD p 0) ∧
    ∃ pre : List Nat, (pre.length : Int) = (s.st.getD p (0, 0)).2 ∧ kidsA es ((stk es k).getD p 0 + 1) = pre ++ (if p + 1 = (stk es k).length then kidsA es k else tailK es ((stk es k).getD (p + 1) 0))
theorem getDp1 {α : Type} {l : List α} {d x : α} {p : Nat} (h : p < l.length) : (l ++ [x]).getD p d = l.getD p d := by
  rw [List.getD_eq_getElem?_getD, List.getD_eq_getElem?_getD, List.getElem?_append_left h]
theorem getDp2 {α : Type} {l : List α} {d x : α} {p : Nat} (h : p = l.length) : (l ++ [x]).getD p d = x := by
  subst h
  rw [List.getD_eq_getElem?_getD, List.getElem?_append_right (Nat.le_refl _), Nat.sub_self]; rfl
theorem getDs1 {α : Type} {l : List α} {d x : α} {p q : Nat} (h : q ≠ p) : (l.set q x).getD p d = l.getD p d := by
  rw [List.getD_eq_getElem?_getD, List.getD_eq_getElem?_getD, List.getElem?_set_ne h]
theorem getDs2 {α : Type} {l : List α} {d x : α} {p : Nat} (h : p < l.length) : (l.set p x).getD p d = x := by
  rw [List.getD_eq_getElem?_getD, List.getElem?_set_self h]; rfl
theorem getDdl {α : Type} {l : List α} {d : α} {p : Nat} (h : p < l.length - 1) : l.dropLast.getD p d = l.getD p d := by
  rw [List.getD_eq_getElem?_getD, List.getD_eq_getElem?_getD, List.getElem?_dropLast, if_pos h]
theorem nodeN_cases {s t : NS} (h : nodeN s = some t) : (s.st = [] ∧ t = ⟨2, []⟩) ∨ (s.st ≠ [] ∧ t = ⟨s.doc, s.st.set (s.st.length - 1) (s.top.1, s.top.2 + 1)⟩) := by
  unfold nodeN at h
  by_cases h0 : s.st = []
  · rw [if_pos h0] at h
    by_cases h1 : s.doc = 1
    · rw [if_pos h1] at h; cases h; exact .inl ⟨h0, rfl⟩
    · rw [if_neg h1] at h; cases h
  · rw [if_neg h0] at h; cases h; exact .inr ⟨h0, rfl⟩
theorem stk_C {es : List Ev} {k : Nat} (h : isC (evA es k)) : stk es (k + 1) = stk es k ++ [k] := if_pos h
theorem stk_7 {es : List Ev} {k : Nat} (h : kd es k = 7) : stk es (k + 1) = (stk es k).dropLast := by
  show (if _ then _ else _) = _
  rw [if_neg (fun hc => isC_7 hc h), if_pos h]
theorem stk_O {es : List Ev} {k : Nat} (h : ¬ isC (evA es k)) (h7 : kd es k ≠ 7) : stk es (k + 1) = stk es k := by
  show (if _ then _ else _) = _
  rw [if_neg h, if_neg h7]
/-- a node counts where it stands -/
theorem node_cnts {es : List Ev} {k : Nat} (hk : k < es.length) (hn : isN (evA es k)) {s t : NS} (hc : Cnts es k s) (h : nodeN s = some t) :
    t.st.length = (stk es k).length ∧ (t.doc = 2 ∨ t.st = []) ∧ ∀ p, p < (stk es k).length → (t.st.getD p (0, 0)).1 = kd es ((stk es k).getD p 0) ∧
    ∃ pre : List Nat, (pre.length : Int) = (t.st.getD p (0, 0)).2 ∧ kidsA es ((stk es k).getD p 0 + 1) = pre ++ (if p + 1 = (stk es k).length then tailK es k else tailK es ((stk es k).getD (p + 1) 0)) := by
  obtain ⟨h1, h2, h3⟩ := hc
  have hkA : kidsA es k = k :: tailK es k := by rw [kidsA_eq es hk, if_pos hn]; rfl
  rcases nodeN_cases h with ⟨h0, rfl⟩ | ⟨h0, rfl⟩
  · rw [h0] at h1
    have h1 : (stk es k).length = 0 := h1.symm
    exact ⟨h1.symm, .inl rfl, fun p hp => by omega⟩
  · have hp0 := List.length_pos_iff.2 h0
    refine ⟨by rw [List.length_set]; exact h1, .inl (by rcases h2 with h2 | h2; exact h2; exact absurd h2 h0), fun p hp => ?_⟩
    obtain ⟨a1, pre, a2, a3⟩ := h3 p hp
    by_cases e : p + 1 = (stk es k).length
    · have ep : p = s.st.length - 1 := by omega
      have htop : s.top = s.st.getD p (0, 0) := by unfold NS.top; rw [ep]
      simp only
      rw [← ep, getDs2 (by omega), htop]
      refine ⟨a1, pre ++ [k], by rw [List.length_append, List.length_singleton, Int.natCast_add, a2]; rfl, ?_⟩
      rw [if_pos e] at a3 ⊢
      rw [a3, hkA, List.append_assoc]; rfl
    · simp only
      rw [getDs1 (by omega)]
      refine ⟨a1, pre, a2, ?_⟩
      rw [if_neg e] at a3 ⊢
      exact a3
theorem goN_even : ∀ (r : List Ev) (s : NS) (es : List Ev) (k : Nat), goN s r = true → es.drop k = r → Bal es → Cnts es k s →
    ∀ j, k ≤ j → j < es.length → kd es j = 7 → kd es ((stk es j).getD ((stk es j).length - 1) 0) = 4 → (kidsA es ((stk es j).getD ((stk es j).length - 1) 0 + 1)).length % 2 = 0
  | [], s, es, k, h, hd, hB, hC, j, hkj, hj, h7, h4 => by cases h
  | e :: r, s, es, k, h, hd, hB, hC, j, hkj, hj, h7, h4 => by
    have hk : k < es.length := by
      have := congrArg List.length hd
      rw [List.length_drop, List.length_cons] at this; omega
    have he : evA es k = e := by
      have := List.drop_eq_getElem_cons hk
      rw [hd] at this
      injection this with h1 h2
      rw [evA, getD_of hk]; exact h1.symm
    have hr : es.drop (k + 1) = r := by
      have := List.drop_eq_getElem_cons hk
      rw [hd] at this
      injection this with h1 h2
      exact h2.symm
    have hke : kd es k = e.kind := by show (evA es k).kind = _; rw [he]
    unfold goN at h
    by_cases ho : EvOk e
    rotate_left
    · rw [if_pos ho] at h; cases h
    rw [if_neg (by simpa using ho)] at h
    have last : r = [] → j = k := fun hrn => by
      have h9 := congrArg List.length hr
      rw [hrn, List.length_drop, List.length_nil] at h9
      omega
    by_cases k10 : e.kind = 10
    · rw [if_pos k10, List.isEmpty_iff] at h
      have := last h
      subst this
      omega
    rw [if_neg k10] at h
    by_cases k9 : e.kind = 9
    · rw [if_pos k9, Bool.and_eq_true, List.isEmpty_iff] at h
      have := last h.1
      subst this
      omega
    rw [if_neg k9] at h
    cases hs : stepN s e.kind with
    | none => rw [hs] at h; cases h
    | some t =>
      rw [hs] at h
      simp only at h
      have key : Cnts es (k + 1) t ∧ (j = k → (kidsA es ((stk es k).getD ((stk es k).length - 1) 0 + 1)).length % 2 = 0) := by
        unfold stepN at hs
        by_cases c2 : e.kind = 2
        · rw [if_pos c2] at hs
          by_cases hd0 : s.doc = 0
          · rw [if_pos hd0] at hs; cases hs
            have h0 : s.st = [] := by rcases hC.2.1 with h | h; omega; exact h
            have hl := hC.1
            rw [h0] at hl
            have hl : (stk es k).length = 0 := hl.symm
            have hstk := stk_O (es := es) (k := k) (by rw [he]; unfold isC; omega) (by omega)
            refine ⟨⟨by rw [hstk, h0]; exact hl.symm, .inr h0, fun p hp => by rw [hstk] at hp; omega⟩, fun ej => by subst ej; omega⟩
          · rw [if_neg hd0] at hs; cases hs
        rw [if_neg c2] at hs
        by_cases c5 : e.kind = 5 ∨ e.kind = 6
        · rw [if_pos c5] at hs
          have hn : isN (evA es k) := by rw [he]; unfold isN; omega
          have hnC : ¬ isC (evA es k) := by rw [he]; unfold isC; omega
          have hstk := stk_O (es := es) (k := k) hnC (by omega)
          have hc := node_cnts hk hn hC hs
          refine ⟨⟨by rw [hstk]; exact hc.1, hc.2.1, fun p hp => ?_⟩, fun ej => by subst ej; omega⟩
          rw [hstk] at hp ⊢
          obtain ⟨a1, pre, a2, a3⟩ := hc.2.2 p hp
          refine ⟨a1, pre, a2, ?_⟩
          rw [a3]
          have : tailK es k = kidsA es (k + 1) := by
            unfold tailK
            rw [endF_leaf hk hnC hn, if_neg (by omega)]
            congr 1
          rw [this]
        rw [if_neg c5] at hs
        by_cases c3 : e.kind = 3 ∨ e.kind = 4
        · rw [if_pos c3] at hs
          have hCk : isC (evA es k) := by rw [he]; exact c3
          have hstk := stk_C hCk
          cases hnn : nodeN s with
          | none => rw [hnn] at hs; cases hs
          | some u =>
            have hc := node_cnts hk (isC_isN hCk) hC hnn
            have hud : u.doc = 2 := by
              rcases nodeN_cases hnn with ⟨_, rfl⟩ | ⟨h0, rfl⟩
              · rfl
              · rcases hC.2.1 with h | h
                · exact h
                · exact absurd h h0
            rw [hnn] at hs; cases hs
            refine ⟨⟨by rw [hstk, List.length_append, List.length_append, hc.1]; rfl, .inl hud, fun p hp => ?_⟩, fun ej => by subst ej; omega⟩
            rw [hstk, List.length_append, List.length_singleton] at hp ⊢
            by_cases e1 : p = (stk es k).length
            · simp only
              rw [getDp2 (e1.trans hc.1.symm), getDp2 e1]
              exact ⟨hke.symm, [], rfl, by rw [if_pos (by omega)]; rfl⟩
            · have hp2 : p < (stk es k).length := by omega
              obtain ⟨a1, pre, a2, a3⟩ := hc.2.2 p hp2
              simp only
              rw [getDp1 (by omega), getDp1 hp2]
              refine ⟨a1, pre, a2, ?_⟩
              rw [a3, if_neg (show ¬ p + 1 = (stk es k).length + 1 by omega)]
              by_cases e2 : p + 1 = (stk es k).length
              · rw [if_pos e2, getDp2 e2]
              · rw [if_neg e2, getDp1 (by omega)]
        rw [if_neg c3] at hs
        by_cases c7 : e.kind = 7
        · rw [if_pos c7] at hs
          have h7k : kd es k = 7 := hke.trans c7
          have hstk := stk_7 h7k
          have hne := hB k hk h7k
          have hp0 := List.length_pos_iff.2 hne
          have htop := end_top es hB hk h7k
          by_cases hc : s.st = [] ∨ (s.top.1 = 4 ∧ s.top.2 % 2 ≠ 0)
          · rw [if_pos hc] at hs; cases hs
          · rw [if_neg hc] at hs; cases hs
            have hkA : kidsA es k = [] := by rw [kidsA_eq es hk, if_neg (by unfold isN; have : (evA es k).kind = 7 := h7k; omega)]
            refine ⟨⟨by rw [hstk, List.length_dropLast, List.length_dropLast, hC.1], by rcases hC.2.1 with h | h; exact .inl h; exact absurd (.inl h) hc, fun p hp => ?_⟩, fun ej => ?_⟩
            · rw [hstk, List.length_dropLast] at hp ⊢
              obtain ⟨a1, pre, a2, a3⟩ := hC.2.2 p (by omega)
              have := hC.1
              simp only
              rw [getDdl (by omega), getDdl hp]
              refine ⟨a1, pre, a2, ?_⟩
              rw [a3, if_neg (show ¬ p + 1 = (stk es k).length by omega)]
              by_cases e2 : p + 1 = (stk es k).length - 1
              · rw [if_pos e2, e2]
                unfold tailK
                rw [htop, if_neg (by omega)]
                congr 1
              · rw [if_neg e2, getDdl (by omega)]
            · subst ej
              obtain ⟨a1, pre, a2, a3⟩ := hC.2.2 ((stk es j).length - 1) (by omega)
              have hst : s.top = s.st.getD ((stk es j).length - 1) (0, 0) := by unfold NS.top; rw [hC.1]
              rw [← hst] at a1 a2
              rw [h4] at a1
              have : s.top.2 % 2 = 0 := by
                apply Classical.byContradiction
                intro hx
                exact hc (.inr ⟨a1, hx⟩)
              rw [if_pos (by omega), hkA, List.append_nil] at a3
              rw [a3]; omega
        rw [if_neg c7] at hs
        by_cases c8 : e.kind = 8
        · rw [if_pos c8] at hs
          by_cases hd0 : s.doc = 2 ∧ s.st = []
          · rw [if_pos hd0] at hs; cases hs
            have hl := hC.1
            rw [hd0.2] at hl
            have hl : (stk es k).length = 0 := hl.symm
            have hstk := stk_O (es := es) (k := k) (by rw [he]; unfold isC; omega) (by omega)
            refine ⟨⟨by rw [hstk, hd0.2]; exact hl.symm, .inr hd0.2, fun p hp => by rw [hstk] at hp; omega⟩, fun ej => by subst ej; omega⟩
          · rw [if_neg hd0] at hs; cases hs
        · rw [if_neg c8] at hs; cases hs
      by_cases ej : j = k
      · rw [ej]; exact key.2 ej
      · exact goN_even r t es (k + 1) h hr hB key.1 j (by omega) hj h7 h4
theorem kids_even {es : List Ev} (hw : wholeM es = true) {i : Nat} (hi : i < es.length) (h4 : kd es i = 4) : (kidsF es i).length % 2 = 0 := by
  have hst := stk_end hw
  have hn : nestedM es = true := by
    unfold wholeM tiedM at hw
    simp only [Bool.and_eq_true] at hw
    exact hw.1.1
  have hB := nestedM_bal hn
  have hC : isC (evA es i) := .inr h4
  rw [kidsF_A es i hi, if_pos hC]
  rcases popped hC es.length hi with h1 | ⟨j, h0, h1, h2, h3, h5⟩
  · rw [hst] at h1; cases h1
  · cases es with
    | nil => cases hi
    | cons e r =>
      have h := hn
      simp only [nestedM, Bool.and_eq_true, decide_eq_true_eq] at h
      have hs1 : stk (e :: r) 1 = [] := by
        have : stk (e :: r) 1 = if isC e then [] ++ [0] else if e.kind = 7 then [] else [] := rfl
        rw [this, if_neg (by unfold isC; omega), if_neg (by omega)]
      have := goN_even r ⟨0, []⟩ (e :: r) 1 h.2 rfl hB ⟨by rw [hs1]; rfl, .inr rfl, fun p hp => by rw [hs1] at hp; cases hp⟩ j (by omega) h1 h2
      rw [h5] at this
      exact this h4
/-- a root stands behind the beginning of its document -/
theorem roots_few (es : List Ev) : ∀ k, 2 * ((List.range k).filter (rootB es)).length ≤ k ∧ (0 < k → kd es (k - 1) = 2 → 2 * ((List.range k).filter (rootB es)).length + 1 ≤ k)
  | 0 => ⟨by simp, fun h => absurd h (Nat.lt_irrefl _)⟩
  | k + 1 => by
    have ih := roots_few es k
    rw [List.range_succ, List.filter_append, List.length_append, Nat.add_sub_cancel]
    by_cases h : rootB es k = true
    · have hr := of_decide_eq_true h
      have h1 := ih.2 hr.1 hr.2.1
      have h2 : kd es k ≠ 2 := fun e => by have := hr.2.2; unfold isN at this; have e : (evA es k).kind = 2 := e; omega
      simp only [List.filter_cons, h, if_true, List.filter_nil, List.length_singleton]
      exact ⟨by omega, fun _ e => absurd e h2⟩
    · simp only [List.filter_cons, h, if_false, List.filter_nil, List.length_nil, Bool.false_eq_true]
      exact ⟨by omega, fun _ _ => by omega⟩
theorem rootsF_few (es : List Ev) : 2 * (rootsF es).length ≤ es.length := (roots_few es es.length).1
theorem rootsF_in (es : List Ev) : ∀ r ∈ rootsF es, r < es.length ∧ isN (evA es r) := fun r hr => by
  unfold rootsF at hr
  rw [List.mem_filter] at hr
  exact ⟨by simpa using hr.1, (of_decide_eq_true hr.2).2.2⟩
end Go.Proofs.YtcbjmggbbnpbpaaDoor.Lg
