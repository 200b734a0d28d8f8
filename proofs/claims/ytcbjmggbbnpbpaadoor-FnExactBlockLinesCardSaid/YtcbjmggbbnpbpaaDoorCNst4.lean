/- Nested: the reference's function. No condition. -/
import Derived.Test.YtcbjmggbbnpbpaaDoorCNst3
namespace Go.Proofs.YtcbjmggbbnpbpaaDoor.Lg
set_option linter.unusedSimpArgs false
set_option linter.unusedVariables false
set_option maxRecDepth 100000
set_option maxHeartbeats 40000000
open Go.Proofs.YtcbjmggbbnpbpaaDoor

/-- what the reference keeps of what is open -/
def opn (l : List (Int × Int)) : List V := l.map (fun x => .int .i64 (if x.1 = 3 then -1 else x.2))
theorem opn_len (l : List (Int × Int)) : (opn l).length = l.length := by simp [opn]
theorem opn_cell {l : List (Int × Int)} {i : Nat} (h : i < l.length) (g : List V) : (opn l ++ g)[i]? = some (.int .i64 (if (l.getD i (0, 0)).1 = 3 then -1 else (l.getD i (0, 0)).2)) := by
  rw [List.getElem?_append_left (by rw [opn_len]; exact h)]
  simp [opn, List.getElem?_map, h, List.getD_eq_getElem?_getD]
def SAt (f : Nat) (H : LH) (v : V) (st : List (Int × Int)) : Prop :=
  ∃ kb g, v = .sl kb 0 1 st.length (st.length + g.length) ∧ H.cellsAt kb = some (opn st ++ g) ∧ f ≤ kb
def Kd (s : NS) : Prop := ∀ x ∈ s.st, x.1 = 3 ∨ x.1 = 4
theorem nodeN_kd {s t : NS} (h : Kd s) (hs : nodeN s = some t) : Kd t := by
  unfold nodeN at hs
  by_cases h0 : s.st = []
  · rw [if_pos h0] at hs
    by_cases h1 : s.doc = 1
    · rw [if_pos h1] at hs; cases hs; exact fun x hx => by cases hx
    · rw [if_neg h1] at hs; cases hs
  · rw [if_neg h0] at hs
    cases hs
    intro x hx
    rcases List.mem_or_eq_of_mem_set hx with hx | hx
    · exact h x hx
    · have := h _ (top_mem h0); subst hx; exact this
theorem stepN_kd {s t : NS} {k : Int} (h : Kd s) (hs : stepN s k = some t) : Kd t := by
  unfold stepN at hs
  by_cases k2 : k = 2
  · rw [if_pos k2] at hs
    by_cases hd : s.doc = 0
    · rw [if_pos hd] at hs; cases hs; exact h
    · rw [if_neg hd] at hs; cases hs
  rw [if_neg k2] at hs
  by_cases k5 : k = 5 ∨ k = 6
  · rw [if_pos k5] at hs; exact nodeN_kd h hs
  rw [if_neg k5] at hs
  by_cases k3 : k = 3 ∨ k = 4
  · rw [if_pos k3] at hs
    cases hn : nodeN s with
    | none => rw [hn] at hs; cases hs
    | some u =>
      rw [hn] at hs
      cases hs
      intro x hx
      rcases List.mem_append.1 hx with hx | hx
      · exact nodeN_kd h hn x hx
      · rw [List.mem_singleton.1 hx]; exact k3
  rw [if_neg k3] at hs
  by_cases k7 : k = 7
  · rw [if_pos k7] at hs
    by_cases hc : s.st = [] ∨ (s.top.1 = 4 ∧ s.top.2 % 2 ≠ 0)
    · rw [if_pos hc] at hs; cases hs
    · rw [if_neg hc] at hs; cases hs
      exact fun x hx => h x (List.dropLast_subset _ hx)
  rw [if_neg k7] at hs
  by_cases k8 : k = 8
  · rw [if_pos k8] at hs
    by_cases hd : s.doc = 2 ∧ s.st = []
    · rw [if_pos hd] at hs; cases hs; exact h
    · rw [if_neg hd] at hs; cases hs
  · rw [if_neg k8] at hs; cases hs
theorem opn_app (l : List (Int × Int)) (k m : Int) : opn (l ++ [(k, m)]) = opn l ++ [.int .i64 (if k = 3 then -1 else m)] := by simp [opn]
theorem push_full {fl kb n : Nat} {X L : LH} {W : List V} {x : V} (hc : X.cellsAt kb = some W) (hn : W.length = n) (hf : fl ≤ kb) (hb : n ≤ 1048576) :
    appendV fl 1 8 (X ++ L) 1 [x] (.sl kb 0 1 n n) = some (.sl (X.length + L.length) 0 1 (n + 1) (n + 1), X.set kb .dead ++ (L ++ [.cells (W ++ [x])])) := by
  rw [ap_full (cellsAt_left hc) hn hf 8 (by omega), List.length_append, List.set_append_left _ _ (cellsAt_lt hc), List.append_assoc]
theorem push_room {fl kb n : Nat} {X L : LH} {W g : List V} {x y : V} (hc : X.cellsAt kb = some (W ++ y :: g)) (hn : W.length = n) (hf : fl ≤ kb) :
    appendV fl 1 8 (X ++ L) 1 [x] (.sl kb 0 1 n (n + (g.length + 1))) = some (.sl kb 0 1 (n + 1) (n + (g.length + 1)), X.set kb (.cells (W ++ x :: g)) ++ L) := by
  rw [ap_room (cellsAt_left hc) (by rw [List.length_append, hn, List.length_cons]) (by omega) hf 8 x, set_mid hn, List.set_append_left _ _ (cellsAt_lt hc)]
theorem opn_same {st : List (Int × Int)} {n : Nat} {tp : Int × Int} (hn : st.length = n + 1) (htp : st.getD n (0, 0) = tp) (h3 : tp.1 = 3) : opn (st.set n (tp.1, tp.2 + 1)) = opn st := by
  unfold opn
  rw [List.map_set]
  apply List.ext_getElem?
  intro i
  rw [List.getElem?_set, List.length_map]
  by_cases hi : n = i
  · subst hi
    rw [if_pos rfl, if_pos (by omega), List.getElem?_map, List.getElem?_eq_getElem (by omega)]
    have : st[n]'(by omega) = tp := by rw [← htp, List.getD_eq_getElem?_getD, List.getElem?_eq_getElem (by omega)]; rfl
    rw [this]; simp [h3]
  · rw [if_neg hi]
theorem opn_up {st : List (Int × Int)} {n : Nat} {tp : Int × Int} (hn : st.length = n + 1) (h4 : tp.1 = 4) (g : List V) : (opn st ++ g).set n (.int .i64 (tp.2 + 1)) = opn (st.set n (tp.1, tp.2 + 1)) ++ g := by
  rw [List.set_append_left _ _ (by rw [opn_len]; omega)]
  unfold opn
  rw [List.map_set]
  simp [h4]
/-- the first loop of a code -/
def loopOf : Code → Option Code
  | .seq a b => match loopOf a with | some x => some x | none => loopOf b
  | .block _ c => loopOf c
  | .loop c => some c
  | _ => none
def afterN (s : NS) (k : Int) (r : List Ev) : Bool := match stepN s k with | none => false | some t => goN t r
end Go.Proofs.YtcbjmggbbnpbpaaDoor.Lg
