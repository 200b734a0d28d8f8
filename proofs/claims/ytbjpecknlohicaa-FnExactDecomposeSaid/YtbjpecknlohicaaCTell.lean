/- Telling a graph: the model. Plain. -/
import Derived.Test.YtbjpecknlohicaaCMetSp
import Derived.Test.YtbjpecknlohicaaCTEvent
namespace Go.Proofs.Ytbjpecknlohicaa.Lg
set_option linter.unusedSimpArgs false
set_option linter.unusedVariables false
set_option maxRecDepth 100000
set_option maxHeartbeats 4000000
open Go.Proofs.Ytbjpecknlohicaa

structure TS where
  told : List Bool
  out : List Ev
def evA (t : ByteArray) : Ev := ⟨6, 0, false, t, ⟨#[]⟩, ⟨#[]⟩, 0, 0⟩
def evT (n : Nd) (a : ByteArray) : Ev := ⟨n.kind, 3, false, n.text, a, n.tag, 0, 0⟩
def evO (n : Nd) (a : ByteArray) : Ev := ⟨n.kind, 6, false, ⟨#[]⟩, a, n.tag, 0, 0⟩
def evK (k : Int) (b : Bool) : Ev := ⟨k, 0, b, ⟨#[]⟩, ⟨#[]⟩, ⟨#[]⟩, 0, 0⟩
def tell (g : Gr) (al an : Nat → ByteArray) : Nat → TS → Int → TS
  | 0, s, _ => s
  | d + 1, s, k =>
    if s.told.getD k.toNat false = true then ⟨s.told, s.out ++ [evA (al k.toNat)]⟩
    else if (g.nodes.getD k.toNat nd0).kind = 5 then ⟨s.told.set k.toNat true, s.out ++ [evT (g.nodes.getD k.toNat nd0) (an k.toNat)]⟩
    else ⟨((g.nodes.getD k.toNat nd0).kids.foldl (tell g al an d) ⟨s.told.set k.toNat true, s.out ++ [evO (g.nodes.getD k.toNat nd0) (an k.toNat)]⟩).told,
      ((g.nodes.getD k.toNat nd0).kids.foldl (tell g al an d) ⟨s.told.set k.toNat true, s.out ++ [evO (g.nodes.getD k.toNat nd0) (an k.toNat)]⟩).out ++ [evK 7 false]⟩
def decR (g : Gr) (al an : Nat → ByteArray) : List Int → TS → TS
  | [], s => s
  | r :: rs, s => decR g al an rs ⟨(tell g al an (g.nodes.length + 1) ⟨s.told, s.out ++ [evK 2 true]⟩ r).told, (tell g al an (g.nodes.length + 1) ⟨s.told, s.out ++ [evK 2 true]⟩ r).out ++ [evK 8 false]⟩
def decG (g : Gr) (al an : Nat → ByteArray) : List Ev := (decR g al an g.roots ⟨List.replicate g.nodes.length false, [evK 1 false]⟩).out ++ [evK 9 false]
/-- how many were not told -/
def cntF : List Bool → Nat
  | [] => 0
  | b :: l => (if b = true then 0 else 1) + cntF l
/-- twice the references of what was not told -/
def wt : List Bool → List Nd → Nat
  | b :: l, n :: ns => (if b = true then 0 else 2 * n.kids.length) + wt l ns
  | _, _ => 0
theorem cntF_le : ∀ l : List Bool, cntF l ≤ l.length
  | [] => Nat.le_refl _
  | b :: l => by
    have := cntF_le l
    unfold cntF
    rw [List.length_cons]
    split <;> omega
theorem cntF_set : ∀ (l : List Bool) (i : Nat), i < l.length → l.getD i false = false → cntF (l.set i true) + 1 = cntF l
  | [], i, h, _ => by simp at h
  | b :: l, 0, h, h2 => by
    have h2 : b = false := h2
    simp [cntF, h2]; omega
  | b :: l, i + 1, h, h2 => by
    have := cntF_set l i (by simpa using h) h2
    simp only [List.set_cons_succ, cntF]
    omega
theorem wt_set : ∀ (l : List Bool) (ns : List Nd) (i : Nat), i < l.length → l.length = ns.length → l.getD i false = false → wt (l.set i true) ns + 2 * (ns.getD i nd0).kids.length = wt l ns
  | [], _, i, h, _, _ => by simp at h
  | b :: l, [], i, h, h1, _ => by simp at h1
  | b :: l, n :: ns, 0, h, h1, h2 => by
    have h2 : b = false := h2
    simp [wt, h2]; omega
  | b :: l, n :: ns, i + 1, h, h1, h2 => by
    have := wt_set l ns i (by simpa using h) (by simpa using h1) h2
    simp only [List.set_cons_succ, wt, List.getD_cons_succ]
    omega
theorem wt_le : ∀ (l : List Bool) (ns : List Nd), (wt l ns : Int) ≤ 2 * sumZ ndW ns
  | [], ns => by
    have := sumZ_nonneg ndW0 ns
    simp only [wt]; omega
  | b :: l, [] => by simp [wt, sumZ_nil]
  | b :: l, n :: ns => by
    have := wt_le l ns
    have h2 : ndW n = n.tag.size + n.text.size + n.kids.length := rfl
    rw [sumZ_cons]
    simp only [wt]
    split <;> omega
structure TInv (N : Nat) (s t : TS) : Prop where
  len : t.told.length = N
  cnt : cntF t.told ≤ cntF s.told
  keep : ∀ j : Nat, s.told.getD j false = true → t.told.getD j false = true
theorem getD_setB (l : List Bool) (i j : Nat) (h : l.getD j false = true) : (l.set i true).getD j false = true := by
  simp only [List.getD_eq_getElem?_getD, List.getElem?_set] at h ⊢
  by_cases e : i = j
  · subst e
    by_cases h2 : i < l.length
    · simp [h2]
    · rw [List.getElem?_eq_none (by omega)] at h
      exact absurd h (by simp)
  · simp only [e, if_false]; exact h
section
variable {g : Gr} (hg : GrOk g) (al an : Nat → ByteArray)
include hg
/-- telling tells more, and no more than two events for each reference -/
theorem tell_inv : ∀ (d : Nat) (s : TS) (k : Int), s.told.length = g.nodes.length → 0 ≤ k → k < g.nodes.length →
    TInv g.nodes.length s (tell g al an d s k) ∧ (tell g al an d s k).out.length + wt (tell g al an d s k).told g.nodes ≤ s.out.length + wt s.told g.nodes + 2
  | 0, s, k, h, _, _ => ⟨⟨h, Nat.le_refl _, fun _ h => h⟩, by simp only [tell]; omega⟩
  | d + 1, s, k, h, h0, h1 => by
    have fold : ∀ (ks : List Int) (t : TS), (∀ k ∈ ks, 0 ≤ k ∧ k < g.nodes.length) → t.told.length = g.nodes.length →
        TInv g.nodes.length t (ks.foldl (tell g al an d) t) ∧ (ks.foldl (tell g al an d) t).out.length + wt (ks.foldl (tell g al an d) t).told g.nodes ≤ t.out.length + wt t.told g.nodes + 2 * ks.length := by
      intro ks
      induction ks with
      | nil => intro t _ ht; exact ⟨⟨ht, Nat.le_refl _, fun _ h => h⟩, by simp⟩
      | cons k ks ih =>
        intro t hks ht
        have a := tell_inv d t k ht (hks k (by simp)).1 (hks k (by simp)).2
        have b := ih (tell g al an d t k) (fun x hx => hks x (by simp [hx])) a.1.len
        rw [List.foldl_cons, List.length_cons]
        exact ⟨⟨b.1.len, Nat.le_trans b.1.cnt a.1.cnt, fun j hj => b.1.keep j (a.1.keep j hj)⟩, by have := a.2; have := b.2; omega⟩
    have hi : k.toNat < g.nodes.length := by omega
    unfold tell
    by_cases w : s.told.getD k.toNat false = true
    · rw [if_pos w]
      exact ⟨⟨h, Nat.le_refl _, fun _ h => h⟩, by simp only [List.length_append, List.length_cons, List.length_nil]; omega⟩
    rw [if_neg w]
    have w0 : s.told.getD k.toNat false = false := by simpa using w
    have c1 := cntF_set s.told k.toNat (by omega) w0
    have c2 := wt_set s.told g.nodes k.toNat (by omega) h w0
    by_cases w2 : (g.nodes.getD k.toNat nd0).kind = 5
    · rw [if_pos w2]
      refine ⟨⟨by simp only [List.length_set]; exact h, by simp only; omega, fun j hj => getD_setB _ _ _ hj⟩, ?_⟩
      simp only [List.length_append, List.length_cons, List.length_nil]; omega
    rw [if_neg w2]
    have hm := hg.kids _ (show g.nodes.getD k.toNat nd0 ∈ g.nodes by rw [getD_of hi]; exact List.getElem_mem _)
    have f := fold (g.nodes.getD k.toNat nd0).kids ⟨s.told.set k.toNat true, s.out ++ [evO (g.nodes.getD k.toNat nd0) (an k.toNat)]⟩ hm.2 (by simp only [List.length_set]; exact h)
    refine ⟨⟨f.1.len, Nat.le_trans f.1.cnt (by simp only; omega), fun j hj => f.1.keep j (getD_setB _ _ _ hj)⟩, ?_⟩
    have := f.2
    simp only [List.length_append, List.length_cons, List.length_nil] at this ⊢
    omega
theorem fold_inv (d : Nat) : ∀ (ks : List Int) (t : TS), (∀ k ∈ ks, 0 ≤ k ∧ k < g.nodes.length) → t.told.length = g.nodes.length →
    TInv g.nodes.length t (ks.foldl (tell g al an d) t) ∧ (ks.foldl (tell g al an d) t).out.length + wt (ks.foldl (tell g al an d) t).told g.nodes ≤ t.out.length + wt t.told g.nodes + 2 * ks.length := by
  intro ks
  induction ks with
  | nil => intro t _ ht; exact ⟨⟨ht, Nat.le_refl _, fun _ h => h⟩, by simp⟩
  | cons k ks ih =>
    intro t hks ht
    have a := tell_inv hg al an d t k ht (hks k (by simp)).1 (hks k (by simp)).2
    have b := ih (tell g al an d t k) (fun x hx => hks x (by simp [hx])) a.1.len
    rw [List.foldl_cons, List.length_cons]
    exact ⟨⟨b.1.len, Nat.le_trans b.1.cnt a.1.cnt, fun j hj => b.1.keep j (a.1.keep j hj)⟩, by have := a.2; have := b.2; omega⟩
end
end Go.Proofs.Ytbjpecknlohicaa.Lg
