/- The two ways through a graph agree. Plain. -/
import Derived.Test.YtbjpecknlohicaaCGok4
namespace Go.Proofs.Ytbjpecknlohicaa.Lg
set_option linter.unusedSimpArgs false
set_option linter.unusedVariables false
set_option maxRecDepth 100000
set_option maxHeartbeats 4000000
open Go.Proofs.Ytbjpecknlohicaa

/-- what was met since, stands as it stood, or is closed and this root's -/
structure Kept (root : Int) (s t : MW) : Prop where
  met : s.met ≤ t.met
  old : ∀ j : Nat, (j : Int) < s.met → t.owner.getD j 0 = s.owner.getD j 0 ∧ t.opn.getD j false = s.opn.getD j false
  new : ∀ j : Nat, s.met ≤ (j : Int) → (j : Int) < t.met → t.owner.getD j 0 = root ∧ t.opn.getD j false = false
theorem Kept.refl {root : Int} (s : MW) : Kept root s s := ⟨Int.le_refl _, fun _ _ => ⟨rfl, rfl⟩, fun j h1 h2 => by omega⟩
theorem Kept.trans {root : Int} {s t u : MW} (a : Kept root s t) (b : Kept root t u) : Kept root s u := by
  have h1 := a.met; have h2 := b.met
  refine ⟨by omega, fun j hj => ?_, fun j h3 h4 => ?_⟩
  · have h5 := a.old j hj
    have h6 := b.old j (by omega)
    exact ⟨h6.1.trans h5.1, h6.2.trans h5.2⟩
  · by_cases h : (j : Int) < t.met
    · have h5 := a.new j h3 h
      have h6 := b.old j h
      exact ⟨h6.1.trans h5.1, h6.2.trans h5.2⟩
    · exact b.new j (by omega) h4
theorem setI {l : List Int} {i j : Nat} {v : Int} (hi : i < l.length) : (l.set i v).getD j 0 = if i = j then v else l.getD j 0 := by
  simp only [List.getD_eq_getElem?_getD, List.getElem?_set]
  by_cases h : i = j
  · subst h; simp [hi]
  · simp [h]
theorem setB {l : List Bool} {i j : Nat} {v : Bool} (hi : i < l.length) : (l.set i v).getD j false = if i = j then v else l.getD j false := by
  simp only [List.getD_eq_getElem?_getD, List.getElem?_set]
  by_cases h : i = j
  · subst h; simp [hi]
  · simp [h]
section
variable (g : Gr) (root : Int) (hk : ∀ n ∈ g.nodes, n.kids.length ≤ 1048576 ∧ ∀ k ∈ n.kids, 0 ≤ k ∧ k < g.nodes.length)
include hk
theorem kidsM_inv (d : Nat) : ∀ (ks : List Int) (t : MW), (∀ k ∈ ks, 0 ≤ k ∧ k < g.nodes.length) → MInv g.nodes.length t → MInv g.nodes.length (kidsM (imGo g root d) ks t).1 ∧ t.met ≤ (kidsM (imGo g root d) ks t).1.met := by
  intro ks
  induction ks with
  | nil => intro t _ ht; exact ⟨ht, Int.le_refl _⟩
  | cons k ks ih =>
    intro t hks ht
    have a := imGo_inv g root hk d t k ht (hks k (by simp)).1 (hks k (by simp)).2
    have b := ih (imGo g root d t k).1 (fun x hx => hks x (by simp [hx])) a.1
    simp only [kidsM]
    refine ite_elim (P := fun r : MW × Bool => MInv g.nodes.length r.1 ∧ t.met ≤ r.1.met) (fun _ => ?_) (fun _ => ?_)
    · exact ⟨b.1, by omega⟩
    · exact a
theorem imGo_kept : ∀ (d : Nat) (s : MW) (k : Int), MInv g.nodes.length s → 0 ≤ k → k < g.nodes.length → (imGo g root d s k).2 = true → Kept root s (imGo g root d s k).1
  | 0, s, k, h, _, _, e => Kept.refl s
  | d + 1, s, k, h, h0, h1, e => by
    have fold : ∀ (ks : List Int) (t : MW), (∀ k ∈ ks, 0 ≤ k ∧ k < g.nodes.length) → MInv g.nodes.length t → (kidsM (imGo g root d) ks t).2 = true → Kept root t (kidsM (imGo g root d) ks t).1 := by
      intro ks
      induction ks with
      | nil => intro t _ ht _; exact Kept.refl t
      | cons k ks ih =>
        intro t hks ht he
        simp only [kidsM] at he ⊢
        by_cases h2 : (imGo g root d t k).2 = true
        · rw [if_pos h2] at he ⊢
          have a := imGo_kept d t k ht (hks k (by simp)).1 (hks k (by simp)).2 h2
          have iv := imGo_inv g root hk d t k ht (hks k (by simp)).1 (hks k (by simp)).2
          exact a.trans (ih _ (fun x hx => hks x (by simp [hx])) iv.1 he)
        · rw [if_neg h2] at he
          exact absurd he (by simp)
    have hi : k.toNat < g.nodes.length := by omega
    have hlo := h.lo; have hhi := h.hi; have hle := h.len1; have hle2 := h.len2
    unfold imGo at e ⊢
    by_cases w : k < s.met
    · rw [if_pos w]; exact Kept.refl s
    rw [if_neg w] at e ⊢
    by_cases w2 : k = s.met
    · rw [if_neg (fun h => h w2)] at e ⊢
      have hin : (g.nodes.getD k.toNat nd0) ∈ g.nodes := by rw [getD_of hi]; exact List.getElem_mem _
      have h2 : MInv g.nodes.length ⟨s.met + 1, s.owner.set k.toNat root, s.opn.set k.toNat true⟩ :=
        ⟨by simp only [List.length_set]; exact hle, by simp only [List.length_set]; exact hle2, by simp only; omega, by simp only; omega⟩
      have hf := fold _ _ (hk _ hin).2 h2
      have hl : (kidsM (imGo g root d) (g.nodes.getD k.toNat nd0).kids ⟨s.met + 1, s.owner.set k.toNat root, s.opn.set k.toNat true⟩).2 = true := by
        unfold finM at e
        cases hh : (kidsM (imGo g root d) (g.nodes.getD k.toNat nd0).kids ⟨s.met + 1, s.owner.set k.toNat root, s.opn.set k.toNat true⟩).2
        · rw [hh] at e; exact absurd e (by simp)
        · rfl
      have hq := hf hl
      unfold finM
      rw [if_pos hl]
      have iv := kidsM_inv g root hk d _ _ (hk _ hin).2 h2
      generalize (kidsM (imGo g root d) (g.nodes.getD k.toNat nd0).kids ⟨s.met + 1, s.owner.set k.toNat root, s.opn.set k.toNat true⟩).1 = r at hq iv ⊢
      have m1 := hq.met
      simp only at m1
      have i1 : k.toNat < s.owner.length := by omega
      have i2 : k.toNat < s.opn.length := by omega
      have i3 : k.toNat < r.opn.length := by have := iv.1.len2; omega
      refine ⟨by simp only; omega, fun j hj => ?_, fun j h3 h4 => ?_⟩
      · have h5 := hq.old j (by simp only; omega)
        simp only [setI i1, setB i2, setB i3] at h5 ⊢
        rw [if_neg (show ¬ k.toNat = j by omega), if_neg (show ¬ k.toNat = j by omega)] at h5
        rw [if_neg (show ¬ k.toNat = j by omega)]
        exact h5
      · simp only [setB i3]
        by_cases hj : k.toNat = j
        · subst hj
          have h5 := hq.old k.toNat (by simp only; omega)
          simp only [setI i1, setB i2, if_true] at h5 ⊢
          exact ⟨h5.1, trivial⟩
        · rw [if_neg hj]
          exact hq.new j (by simp only; omega) h4
    · rw [if_pos w2] at e; exact absurd e (by simp)
theorem kidsM_kept (d : Nat) : ∀ (ks : List Int) (t : MW), (∀ k ∈ ks, 0 ≤ k ∧ k < g.nodes.length) → MInv g.nodes.length t → (kidsM (imGo g root d) ks t).2 = true → Kept root t (kidsM (imGo g root d) ks t).1 := by
  intro ks
  induction ks with
  | nil => intro t _ ht _; exact Kept.refl t
  | cons k ks ih =>
    intro t hks ht he
    simp only [kidsM] at he ⊢
    by_cases h2 : (imGo g root d t k).2 = true
    · rw [if_pos h2] at he ⊢
      have a := imGo_kept g root hk d t k ht (hks k (by simp)).1 (hks k (by simp)).2 h2
      have iv := imGo_inv g root hk d t k ht (hks k (by simp)).1 (hks k (by simp)).2
      exact a.trans (ih _ (fun x hx => hks x (by simp [hx])) iv.1 he)
    · rw [if_neg h2] at he
      exact absurd he (by simp)
end
/-- how a node stands, as the reference tells it -/
def sv (t : MW) (root : Int) (i : Nat) : Int := if t.met ≤ i then 0 else if t.opn.getD i false = true then 1 else if t.owner.getD i 0 = root then 2 else 3
structure Both (N : Nat) (root : Int) (s : SW) (t : MW) : Prop where
  bad : s.bad = false
  next : s.next = t.met
  len : s.seen.length = N
  vals : ∀ i, i < N → s.seen.getD i 0 = sv t root i
theorem spGo_bad (g : Gr) : ∀ (d : Nat) (s : SW) (k : Int), s.bad = true → (spGo g d s k).bad = true
  | 0, s, k, h => h
  | d + 1, s, k, h => by
    unfold spGo
    rw [if_pos (.inl h)]
theorem fold_bad (g : Gr) (d : Nat) : ∀ (ks : List Int) (s : SW), s.bad = true → (ks.foldl (spGo g d) s).bad = true
  | [], s, h => h
  | k :: ks, s, h => fold_bad g d ks _ (spGo_bad g d s k h)
theorem go_both (g : Gr) (root : Int) (hk : ∀ n ∈ g.nodes, n.kids.length ≤ 1048576 ∧ ∀ k ∈ n.kids, 0 ≤ k ∧ k < g.nodes.length) :
    ∀ (d : Nat) (s : SW) (t : MW) (k : Int), Both g.nodes.length root s t → MInv g.nodes.length t → 0 ≤ k → k < g.nodes.length → (g.nodes.length : Int) - t.met ≤ d →
      ((imGo g root (d + 1) t k).2 = true → Both g.nodes.length root (spGo g (d + 1) s k) (imGo g root (d + 1) t k).1) ∧ ((imGo g root (d + 1) t k).2 = false → (spGo g (d + 1) s k).bad = true) := by
  intro d
  induction d using Nat.strongRecOn with
  | _ d ih =>
  intro s t k hB hI h0 h1 hd
  have hi : k.toNat < g.nodes.length := by omega
  have hlo := hI.lo; have hhi := hI.hi; have hle := hI.len1; have hle2 := hI.len2
  have hv := hB.vals _ hi
  have hbd := hB.bad; have hnx := hB.next; have hsl := hB.len
  unfold sv at hv
  have e1 : imGo g root (d + 1) t k = if k < t.met then (t, decide (t.owner.getD k.toNat 0 = root) && !t.opn.getD k.toNat false)
    else if k ≠ t.met then (t, false)
    else finM k.toNat (kidsM (imGo g root d) (g.nodes.getD k.toNat nd0).kids ⟨t.met + 1, t.owner.set k.toNat root, t.opn.set k.toNat true⟩) := rfl
  have e2 : spGo g (d + 1) s k = if s.bad = true ∨ s.seen.getD k.toNat 0 = 1 ∨ (s.seen.getD k.toNat 0 = 0 ∧ k ≠ s.next) ∨ s.seen.getD k.toNat 0 = 3 then { s with bad := true }
    else if s.seen.getD k.toNat 0 = 2 then s
    else { (g.nodes.getD k.toNat nd0).kids.foldl (spGo g d) { s with seen := s.seen.set k.toNat 1, next := s.next + 1 } with seen := ((g.nodes.getD k.toNat nd0).kids.foldl (spGo g d) { s with seen := s.seen.set k.toNat 1, next := s.next + 1 }).seen.set k.toNat 2 } := rfl
  by_cases w : k < t.met
  · rw [if_pos w] at e1
    rw [if_neg (show ¬ t.met ≤ (k.toNat : Int) by omega)] at hv
    rw [e1]
    cases ho : t.opn.getD k.toNat false
    · rw [ho, if_neg (by simp)] at hv
      by_cases hr : t.owner.getD k.toNat 0 = root
      · rw [if_pos hr] at hv
        rw [if_neg (by rw [hbd, hv]; simp), if_pos hv] at e2
        rw [e2]
        exact ⟨fun _ => hB, fun h => by rw [decide_eq_true hr] at h; exact absurd h (by simp)⟩
      · rw [if_neg hr] at hv
        rw [if_pos (by right; right; right; exact hv)] at e2
        rw [e2]
        exact ⟨fun h => by rw [decide_eq_false hr] at h; exact absurd h (by simp), fun _ => rfl⟩
    · rw [ho, if_pos rfl] at hv
      rw [if_pos (by right; left; exact hv)] at e2
      rw [e2]
      exact ⟨fun h => absurd h (by simp), fun _ => rfl⟩
  rw [if_neg w] at e1
  rw [if_pos (show t.met ≤ (k.toNat : Int) by omega)] at hv
  by_cases w2 : k = t.met
  · rw [if_neg (show ¬ (k ≠ t.met) from fun h => h w2)] at e1
    rw [if_neg (by rw [hbd, hv, hnx, w2]; simp), if_neg (by rw [hv]; decide)] at e2
    rw [e1, e2]
    clear e1 e2
    have hd1 : 1 ≤ d := by omega
    obtain ⟨d, rfl⟩ : ∃ d', d = d' + 1 := ⟨d - 1, by omega⟩
    have hin : (g.nodes.getD k.toNat nd0) ∈ g.nodes := by rw [getD_of hi]; exact List.getElem_mem _
    have h2 : MInv g.nodes.length ⟨t.met + 1, t.owner.set k.toNat root, t.opn.set k.toNat true⟩ :=
      ⟨by simp only [List.length_set]; exact hle, by simp only [List.length_set]; exact hle2, by simp only; omega, by simp only; omega⟩
    have hB2 : Both g.nodes.length root { s with seen := s.seen.set k.toNat 1, next := s.next + 1 } ⟨t.met + 1, t.owner.set k.toNat root, t.opn.set k.toNat true⟩ := by
      refine ⟨hbd, by simp only; omega, by simp only [List.length_set]; exact hsl, fun i hi2 => ?_⟩
      have h3 := hB.vals i hi2
      unfold sv at h3 ⊢
      simp only [setI (show k.toNat < s.seen.length by omega), setI (show k.toNat < t.owner.length by omega), setB (show k.toNat < t.opn.length by omega)]
      by_cases hj : k.toNat = i
      · subst hj
        rw [if_pos rfl, if_neg (show ¬ t.met + 1 ≤ (k.toNat : Int) by omega), if_pos rfl, if_pos rfl]
      · rw [if_neg hj, if_neg hj, if_neg hj, h3]
        by_cases hm : t.met ≤ (i : Int)
        · rw [if_pos hm, if_pos (show t.met + 1 ≤ (i : Int) by omega)]
        · rw [if_neg hm, if_neg (show ¬ t.met + 1 ≤ (i : Int) by omega)]
    have fold : ∀ (ks : List Int) (s : SW) (t : MW), (∀ k ∈ ks, 0 ≤ k ∧ k < g.nodes.length) → MInv g.nodes.length t → Both g.nodes.length root s t → (g.nodes.length : Int) - t.met ≤ d →
        ((kidsM (imGo g root (d + 1)) ks t).2 = true → Both g.nodes.length root (ks.foldl (spGo g (d + 1)) s) (kidsM (imGo g root (d + 1)) ks t).1) ∧ ((kidsM (imGo g root (d + 1)) ks t).2 = false → (ks.foldl (spGo g (d + 1)) s).bad = true) := by
      intro ks
      induction ks with
      | nil => intro s t _ _ hb _; exact ⟨fun _ => hb, fun h => absurd h (by simp [kidsM])⟩
      | cons x ks ihk =>
        intro s t hks ht hb hm
        have a := ih d (by omega) s t x hb ht (hks x (by simp)).1 (hks x (by simp)).2 hm
        have iv := imGo_inv g root hk (d + 1) t x ht (hks x (by simp)).1 (hks x (by simp)).2
        rw [List.foldl_cons]
        by_cases hx : (imGo g root (d + 1) t x).2 = true
        · have e3 : kidsM (imGo g root (d + 1)) (x :: ks) t = kidsM (imGo g root (d + 1)) ks (imGo g root (d + 1) t x).1 := by simp only [kidsM]; rw [if_pos hx]
          rw [e3]
          exact ihk _ _ (fun y hy => hks y (by simp [hy])) iv.1 (a.1 hx) (by omega)
        · have e3 : kidsM (imGo g root (d + 1)) (x :: ks) t = ((imGo g root (d + 1) t x).1, false) := by simp only [kidsM]; rw [if_neg hx]
          rw [e3]
          exact ⟨fun h => absurd h (by simp), fun _ => fold_bad g _ ks _ (a.2 (by simpa using hx))⟩
    have hf := fold _ _ _ (hk _ hin).2 h2 hB2 (by simp only; omega)
    have iv := kidsM_inv g root hk (d + 1) _ _ (hk _ hin).2 h2
    have kp : (kidsM (imGo g root (d + 1)) (g.nodes.getD k.toNat nd0).kids ⟨t.met + 1, t.owner.set k.toNat root, t.opn.set k.toNat true⟩).2 = true → Kept root ⟨t.met + 1, t.owner.set k.toNat root, t.opn.set k.toNat true⟩ (kidsM (imGo g root (d + 1)) (g.nodes.getD k.toNat nd0).kids ⟨t.met + 1, t.owner.set k.toNat root, t.opn.set k.toNat true⟩).1 :=
      kidsM_kept g root hk (d + 1) _ _ (hk _ hin).2 h2
    generalize kidsM (imGo g root (d + 1)) (g.nodes.getD k.toNat nd0).kids ⟨t.met + 1, t.owner.set k.toNat root, t.opn.set k.toNat true⟩ = r at hf iv kp ⊢
    generalize (g.nodes.getD k.toNat nd0).kids.foldl (spGo g (d + 1)) { s with seen := s.seen.set k.toNat 1, next := s.next + 1 } = u at hf ⊢
    cases hr : r.2
    · have e3 : finM k.toNat r = (r.1, false) := by unfold finM; rw [hr]; rfl
      rw [e3]
      exact ⟨fun h => absurd h (by simp), fun _ => hf.2 hr⟩
    · have e3 : finM k.toNat r = (⟨r.1.met, r.1.owner, r.1.opn.set k.toNat false⟩, true) := by unfold finM; rw [hr]; rfl
      rw [e3]
      refine ⟨fun _ => ?_, fun h => absurd h (by simp)⟩
      have hf := hf.1 hr
      have kq := kp hr
      have m1 := kq.met
      simp only at m1
      refine ⟨hf.bad, hf.next, by simp only [List.length_set]; exact hf.len, fun i hi2 => ?_⟩
      have h3 := hf.vals i hi2
      have l3 := hf.len
      have l4 := iv.1.len2
      unfold sv at h3 ⊢
      simp only [setI (show k.toNat < u.seen.length by omega), setB (show k.toNat < r.1.opn.length by omega)]
      by_cases hj : k.toNat = i
      · subst hj
        have h5 := (kq.old k.toNat (by simp only; omega)).1
        simp only [setI (show k.toNat < t.owner.length by omega), if_true] at h5
        rw [if_pos rfl, if_neg (show ¬ r.1.met ≤ (k.toNat : Int) by omega), if_pos rfl, if_neg Bool.false_ne_true, if_pos h5]
      · rw [if_neg hj, if_neg hj]
        exact h3
  · rw [if_pos (show k ≠ t.met from w2)] at e1
    rw [if_pos (by right; right; left; exact ⟨hv, by rw [hnx]; exact w2⟩)] at e2
    rw [e1, e2]
    exact ⟨fun h => absurd h (by simp), fun _ => rfl⟩
end Go.Proofs.Ytbjpecknlohicaa.Lg
