/- Decompose: both ways tell the same. Plain. -/
import Derived.Test.YtbjpecknlohicaaCTell3
namespace Go.Proofs.Ytbjpecknlohicaa.Lg
set_option linter.unusedSimpArgs false
set_option linter.unusedVariables false
set_option maxRecDepth 100000
set_option maxHeartbeats 4000000
open Go.Proofs.Ytbjpecknlohicaa

/-- references of what was not told -/
def uk : List Bool → List Nd → Int → Nat
  | b :: l, n :: ns, j => (if b = true then 0 else n.kids.count j) + uk l ns j
  | _, _, _ => 0
def refs (g : Gr) (j : Int) : Nat := g.roots.count j + (g.nodes.map (fun n => n.kids.count j)).sum
theorem uk_set : ∀ (l : List Bool) (ns : List Nd) (i : Nat) (j : Int), i < l.length → l.length = ns.length → l.getD i false = false → uk (l.set i true) ns j + (ns.getD i nd0).kids.count j = uk l ns j
  | [], _, i, _, h, _, _ => by simp at h
  | b :: l, [], i, _, h, h1, _ => by simp at h1
  | b :: l, n :: ns, 0, j, h, h1, h2 => by
    have h2 : b = false := h2
    simp [uk, h2]; omega
  | b :: l, n :: ns, i + 1, j, h, h1, h2 => by
    have := uk_set l ns i j (by simpa using h) (by simpa using h1) h2
    simp only [List.set_cons_succ, uk, List.getD_cons_succ]
    omega
theorem uk_all : ∀ (ns : List Nd) (j : Int), uk (List.replicate ns.length false) ns j = (ns.map (fun n => n.kids.count j)).sum
  | [], _ => rfl
  | n :: ns, j => by
    have := uk_all ns j
    simp only [List.length_cons, List.replicate_succ, uk, List.map_cons, List.sum_cons, this]
    simp
def Pend (g : Gr) (told : List Bool) (P : List Int) : Prop := ∃ v : Nat → Nat, (∀ j : Nat, told.getD j false = true → 1 ≤ v j) ∧ ∀ j : Nat, v j + P.count (j : Int) + uk told g.nodes j ≤ refs g j
theorem Pend.two {g : Gr} {told : List Bool} {P : List Int} {k : Nat} (h : Pend g told ((k : Int) :: P)) (ht : told.getD k false = true) : 2 ≤ refs g k := by
  obtain ⟨v, h1, h2⟩ := h
  have := h1 k ht
  have := h2 k
  rw [List.count_cons_self] at this
  omega
theorem Pend.skip {g : Gr} {told : List Bool} {P : List Int} {k : Int} (h : Pend g told (k :: P)) : Pend g told P := by
  obtain ⟨v, h1, h2⟩ := h
  refine ⟨v, h1, fun j => ?_⟩
  have := h2 j
  rw [List.count_cons] at this
  omega
theorem Pend.tell {g : Gr} {told : List Bool} {P : List Int} {k : Nat} (h : Pend g told ((k : Int) :: P)) (hk : k < told.length) (hl : told.length = g.nodes.length) (ht : told.getD k false = false) : Pend g (told.set k true) ((g.nodes.getD k nd0).kids ++ P) := by
  obtain ⟨v, h1, h2⟩ := h
  refine ⟨fun j => if k = j then v j + 1 else v j, fun j hj => ?_, fun j => ?_⟩
  · by_cases e : k = j
    · simp only [e, if_true]; omega
    · simp only [e, if_false]
      rw [setB hk, if_neg e] at hj
      exact h1 j hj
  · have a := h2 j
    have b := uk_set told g.nodes k j hk hl ht
    rw [List.count_append]
    rw [List.count_cons] at a
    by_cases e : k = j
    · subst e
      simp only [if_true]
      simp only [beq_self_eq_true, if_true] at a
      omega
    · simp only [e, if_false]
      omega
section
variable {g : Gr} (hg : GrOk g) (an : Nat → ByteArray) (han : ∀ k : Nat, k < g.nodes.length → 2 ≤ refs g k → an k = nmT k)
include hg han
theorem tell_eq : ∀ (d : Nat) (s : TS) (k : Int) (P : List Int), Pend g s.told (k :: P) → s.told.length = g.nodes.length → 0 ≤ k → k < g.nodes.length →
    tell g nmT an d s k = tell g an an d s k ∧ Pend g (tell g an an d s k).told P
  | 0, s, k, P, h, _, _, _ => ⟨rfl, h.skip⟩
  | d + 1, s, k, P, h, hl, h0, h1 => by
    have fold : ∀ (ks : List Int) (t : TS) (P : List Int), (∀ k ∈ ks, 0 ≤ k ∧ k < g.nodes.length) → Pend g t.told (ks ++ P) → t.told.length = g.nodes.length →
        ks.foldl (tell g nmT an d) t = ks.foldl (tell g an an d) t ∧ Pend g (ks.foldl (tell g an an d) t).told P := by
      intro ks
      induction ks with
      | nil => intro t P _ hp _; exact ⟨rfl, hp⟩
      | cons x ks ih =>
        intro t P hks hp ht
        have a := tell_eq d t x (ks ++ P) hp ht (hks x (by simp)).1 (hks x (by simp)).2
        have iv := tell_inv hg an an d t x ht (hks x (by simp)).1 (hks x (by simp)).2
        rw [List.foldl_cons, List.foldl_cons, a.1]
        exact ih _ P (fun y hy => hks y (by simp [hy])) a.2 iv.1.len
    obtain ⟨n, rfl⟩ : ∃ n : Nat, k = n := ⟨k.toNat, by omega⟩
    have hn : n < g.nodes.length := by omega
    cases hto : s.told.getD n false
    · by_cases h5 : (g.nodes.getD n nd0).kind = 5
      · rw [tell_leaf hto h5, tell_leaf hto h5]
        refine ⟨rfl, ?_⟩
        have hp := h.tell (by omega) hl hto
        obtain ⟨v, p1, p2⟩ := hp
        refine ⟨v, p1, fun j => ?_⟩
        have := p2 j
        rw [List.count_append] at this
        simp only
        omega
      · rw [tell_node hto h5, tell_node hto h5]
        have hm := hg.kids _ (show g.nodes.getD n nd0 ∈ g.nodes by rw [getD_of hn]; exact List.getElem_mem _)
        have f := fold (g.nodes.getD n nd0).kids ⟨s.told.set n true, s.out ++ [evO (g.nodes.getD n nd0) (an n)]⟩ P hm.2 (h.tell (by omega) hl hto) (by simp only [List.length_set]; exact hl)
        rw [f.1]
        exact ⟨rfl, f.2⟩
    · rw [tell_told hto, tell_told hto, han n hn (h.two hto)]
      exact ⟨rfl, h.skip⟩
theorem decR_eq : ∀ (rs : List Int) (s : TS), (∀ r ∈ rs, 0 ≤ r ∧ r < g.nodes.length) → Pend g s.told rs → s.told.length = g.nodes.length → decR g nmT an rs s = decR g an an rs s
  | [], s, _, _, _ => rfl
  | r :: rs, s, hr, hp, hl => by
    unfold decR
    have a := tell_eq hg an han (g.nodes.length + 1) ⟨s.told, s.out ++ [evK 2 true]⟩ r rs hp hl (hr r (by simp)).1 (hr r (by simp)).2
    have iv := tell_inv hg an an (g.nodes.length + 1) ⟨s.told, s.out ++ [evK 2 true]⟩ r hl (hr r (by simp)).1 (hr r (by simp)).2
    rw [a.1]
    exact decR_eq rs _ (fun x hx => hr x (by simp [hx])) a.2 iv.1.len
theorem decG_eq : decG g nmT an = decG g an an := by
  unfold decG
  rw [decR_eq hg an han g.roots _ hg.roots ⟨fun _ => 0, fun j hj => by
    simp only [List.getD_eq_getElem?_getD, List.getElem?_replicate] at hj
    by_cases h : j < g.nodes.length
    · rw [if_pos h] at hj; exact absurd hj (by simp)
    · rw [if_neg h] at hj; exact absurd hj (by simp), fun j => by
    rw [uk_all]
    unfold refs
    simp only [Nat.zero_add]
    omega⟩ (by simp)]
end
theorem bump_getD {ts : List Int} {k : Int} {j : Nat} (h0 : 0 ≤ k) (h1 : k < ts.length) : (bump ts k).getD j 0 = ts.getD j 0 + (if k = j then 1 else 0) := by
  unfold bump
  rw [setI (show k.toNat < ts.length by omega)]
  by_cases e : k = j
  · subst e; simp
  · rw [if_neg (show ¬ k.toNat = j by omega), if_neg e]; omega
theorem fold_getD : ∀ (ks : List Int) (ts : List Int) (j : Nat), (∀ k ∈ ks, 0 ≤ k ∧ k < ts.length) → (ks.foldl bump ts).getD j 0 = ts.getD j 0 + (ks.count (j : Int) : Nat)
  | [], ts, j, _ => by simp
  | k :: ks, ts, j, h => by
    have hb := bump_getD (j := j) (h k (by simp)).1 (h k (by simp)).2
    have hl : (bump ts k).length = ts.length := by simp [bump]
    rw [List.foldl_cons, fold_getD ks _ j (fun x hx => by rw [hl]; exact h x (by simp [hx])), hb, List.count_cons]
    by_cases e : k = (j : Int)
    · subst e; simp; omega
    · simp [e]
theorem tmN_getD : ∀ (ns : List Nd) (ts : List Int) (j : Nat), (∀ n ∈ ns, ∀ k ∈ n.kids, 0 ≤ k ∧ k < ts.length) → (tmN ts ns).getD j 0 = ts.getD j 0 + ((ns.map (fun n => n.kids.count (j : Int))).sum : Nat)
  | [], ts, j, _ => by simp [tmN]
  | n :: ns, ts, j, h => by
    have e : tmN ts (n :: ns) = tmN (n.kids.foldl bump ts) ns := rfl
    have hl := fold_len n.kids ts
    rw [e, tmN_getD ns _ j (fun m hm k hk => by rw [hl]; exact h m (by simp [hm]) k hk), fold_getD n.kids ts j (h n (by simp)), List.map_cons, List.sum_cons]
    omega
theorem tm_refs {g : Gr} (hg : GrOk g) (j : Nat) : (tm g).getD j 0 = (refs g j : Nat) := by
  have hz : (List.replicate g.nodes.length (0 : Int)).getD j 0 = 0 := by
    rw [List.getD_eq_getElem?_getD, List.getElem?_replicate]
    by_cases h : j < g.nodes.length
    · rw [if_pos h]; rfl
    · rw [if_neg h]; rfl
  unfold tm
  rw [tmN_getD _ _ j (fun n hn k hk => by rw [fold_len, List.length_replicate]; exact (hg.kids n hn).2 k hk), fold_getD _ _ j (fun k hk => by rw [List.length_replicate]; exact hg.roots k hk), hz]
  unfold refs
  omega
/-- the marks of what is shared -/
def shB (g : Gr) : List Bool := (shG g).foldl (fun l i => l.set i.toNat true) (List.replicate g.nodes.length false)
theorem setF_len : ∀ (is : List Int) (l : List Bool), (is.foldl (fun l i => l.set i.toNat true) l).length = l.length
  | [], l => rfl
  | i :: is, l => by rw [List.foldl_cons, setF_len is, List.length_set]
theorem setF_getD : ∀ (is : List Int) (l : List Bool) (k : Nat), (∀ i ∈ is, 0 ≤ i ∧ i < l.length) → ((is.foldl (fun l i => l.set i.toNat true) l).getD k false = true ↔ l.getD k false = true ∨ (k : Int) ∈ is)
  | [], l, k, _ => by simp
  | i :: is, l, k, h => by
    have h1 := h i (by simp)
    rw [List.foldl_cons, setF_getD is _ k (fun x hx => by rw [List.length_set]; exact h x (by simp [hx])), setB (show i.toNat < l.length by omega)]
    by_cases e : i.toNat = k
    · have : i = (k : Int) := by omega
      rw [if_pos e]
      simp [this]
    · have : ¬ (k : Int) = i := by omega
      rw [if_neg e]
      simp [this]
theorem shIdx_mem : ∀ (ts : List Int) (i x : Int), x ∈ shIdx ts i ↔ ∃ j : Nat, j < ts.length ∧ x = i + j ∧ 1 < ts.getD j 0
  | [], i, x => by simp [shIdx]
  | t :: ts, i, x => by
    have ih := shIdx_mem ts (i + 1) x
    unfold shIdx
    have key : (∃ j : Nat, j < (t :: ts).length ∧ x = i + j ∧ 1 < (t :: ts).getD j 0) ↔ (x = i ∧ 1 < t) ∨ ∃ j : Nat, j < ts.length ∧ x = i + 1 + j ∧ 1 < ts.getD j 0 := by
      constructor
      · rintro ⟨j, h1, h2, h3⟩
        cases j with
        | zero => exact .inl ⟨by simpa using h2, h3⟩
        | succ j => exact .inr ⟨j, by simpa using h1, by omega, h3⟩
      · rintro (⟨h1, h2⟩ | ⟨j, h1, h2, h3⟩)
        · exact ⟨0, by simp, by simpa using h1, h2⟩
        · exact ⟨j + 1, by simpa using h1, by omega, h3⟩
    rw [key]
    by_cases h : 1 < t
    · rw [if_pos h, List.mem_cons, ih]
      simp [h]
    · rw [if_neg h, ih]
      simp [h]
theorem shG_range {g : Gr} : ∀ i ∈ shG g, 0 ≤ i ∧ i < g.nodes.length := by
  intro i hi
  unfold shG at hi
  by_cases h : imOk g = true
  · rw [if_pos h] at hi
    obtain ⟨j, h1, h2, _⟩ := (shIdx_mem _ _ _).1 hi
    rw [tm_len] at h1
    omega
  · rw [if_neg h] at hi; simp at hi
theorem spN_imN {g : Gr} (h : imOk g = true) (k : Nat) (hk : k < g.nodes.length) : spN (shB g) k = imN (tm g) k := by
  unfold spN imN
  have e : (shB g).getD k false = true ↔ 1 < (tm g).getD k 0 := by
    unfold shB
    rw [setF_getD _ _ _ (fun i hi => by rw [List.length_replicate]; exact shG_range i hi)]
    unfold shG
    rw [if_pos h, shIdx_mem]
    have hz : (List.replicate g.nodes.length false).getD k false = false := by
      rw [List.getD_eq_getElem?_getD, List.getElem?_replicate, if_pos hk]; rfl
    rw [hz]
    constructor
    · rintro (h1 | ⟨j, h1, h2, h3⟩)
      · exact absurd h1 (by simp)
      · have : j = k := by omega
        subst this; exact h3
    · intro h1
      exact .inr ⟨k, by rw [tm_len]; exact hk, by omega, h1⟩
  by_cases h1 : 1 < (tm g).getD k 0
  · rw [if_pos (e.2 h1), if_pos h1]
  · rw [if_neg (fun h2 => h1 (e.1 h2)), if_neg h1]
theorem tell_cg {g : Gr} (hg : GrOk g) {al an al' an' : Nat → ByteArray} (h1 : ∀ k, k < g.nodes.length → al k = al' k) (h2 : ∀ k, k < g.nodes.length → an k = an' k) :
    ∀ (d : Nat) (s : TS) (k : Int), 0 ≤ k → k < g.nodes.length → tell g al an d s k = tell g al' an' d s k
  | 0, s, k, _, _ => rfl
  | d + 1, s, k, h3, h4 => by
    obtain ⟨n, rfl⟩ : ∃ n : Nat, k = n := ⟨k.toNat, by omega⟩
    have hn : n < g.nodes.length := by omega
    have fold : ∀ (ks : List Int) (t : TS), (∀ k ∈ ks, 0 ≤ k ∧ k < g.nodes.length) → ks.foldl (tell g al an d) t = ks.foldl (tell g al' an' d) t := by
      intro ks
      induction ks with
      | nil => intro t _; rfl
      | cons x ks ih =>
        intro t hks
        rw [List.foldl_cons, List.foldl_cons, tell_cg hg h1 h2 d t x (hks x (by simp)).1 (hks x (by simp)).2]
        exact ih _ (fun y hy => hks y (by simp [hy]))
    cases hto : s.told.getD n false
    · by_cases h5 : (g.nodes.getD n nd0).kind = 5
      · rw [tell_leaf hto h5, tell_leaf hto h5, h2 n hn]
      · rw [tell_node hto h5, tell_node hto h5, h2 n hn]
        have hm := hg.kids _ (show g.nodes.getD n nd0 ∈ g.nodes by rw [getD_of hn]; exact List.getElem_mem _)
        rw [fold _ _ hm.2]
    · rw [tell_told hto, tell_told hto, h1 n hn]
theorem decR_cg {g : Gr} (hg : GrOk g) {al an al' an' : Nat → ByteArray} (h1 : ∀ k, k < g.nodes.length → al k = al' k) (h2 : ∀ k, k < g.nodes.length → an k = an' k) :
    ∀ (rs : List Int) (s : TS), (∀ r ∈ rs, 0 ≤ r ∧ r < g.nodes.length) → decR g al an rs s = decR g al' an' rs s
  | [], s, _ => rfl
  | r :: rs, s, hr => by
    unfold decR
    rw [tell_cg hg h1 h2 _ _ r (hr r (by simp)).1 (hr r (by simp)).2]
    exact decR_cg hg h1 h2 rs _ (fun x hx => hr x (by simp [hx]))
/-- what Decompose tells of a right graph -/
theorem dec_both {g : Gr} (h : imOk g = true) (hg : GrOk g) : decG g (spN (shB g)) (spN (shB g)) = decG g nmT (imN (tm g)) := by
  rw [decG_eq hg (imN (tm g)) (fun k hk h2 => by
    unfold imN
    have := tm_refs hg k
    rw [if_pos (by omega)])]
  unfold decG
  rw [decR_cg hg (fun k hk => spN_imN h k hk) (fun k hk => spN_imN h k hk) g.roots _ hg.roots]
def decL (g : Gr) : List Ev := if imOk g = true then decG g nmT (imN (tm g)) else []
theorem decR_len {g : Gr} (hg : GrOk g) (al an : Nat → ByteArray) : ∀ (rs : List Int) (s : TS), (∀ r ∈ rs, 0 ≤ r ∧ r < g.nodes.length) → s.told.length = g.nodes.length →
    (decR g al an rs s).out.length + wt (decR g al an rs s).told g.nodes ≤ s.out.length + wt s.told g.nodes + 4 * rs.length
  | [], s, _, _ => by simp [decR]
  | r :: rs, s, hr, hl => by
    unfold decR
    have iv := tell_inv hg al an (g.nodes.length + 1) ⟨s.told, s.out ++ [evK 2 true]⟩ r hl (hr r (by simp)).1 (hr r (by simp)).2
    have := decR_len hg al an rs ⟨(tell g al an (g.nodes.length + 1) ⟨s.told, s.out ++ [evK 2 true]⟩ r).told, (tell g al an (g.nodes.length + 1) ⟨s.told, s.out ++ [evK 2 true]⟩ r).out ++ [evK 8 false]⟩ (fun x hx => hr x (by simp [hx])) iv.1.len
    have h2 := iv.2
    simp only [List.length_append, List.length_cons, List.length_nil] at this h2 ⊢
    omega
theorem decL_len {g : Gr} (kx : ∀ n ∈ g.nodes, n.kids.length ≤ 1048576) (hw : grW g ≤ 1048576) : (decL g).length ≤ 16777216 := by
  unfold decL
  by_cases h : imOk g = true
  · rw [if_pos h]
    have hg := grOk h kx
    unfold decG
    have a := decR_len hg nmT (imN (tm g)) g.roots ⟨List.replicate g.nodes.length false, [evK 1 false]⟩ hg.roots (by simp)
    have b := wt_le (List.replicate g.nodes.length false) g.nodes
    have c := grW_bnd hw
    have d := sumZ_nonneg ndW0 g.nodes
    unfold grW at hw
    simp only [List.length_append, List.length_cons, List.length_nil] at a ⊢
    omega
  · rw [if_neg h]; simp
end Go.Proofs.Ytbjpecknlohicaa.Lg
