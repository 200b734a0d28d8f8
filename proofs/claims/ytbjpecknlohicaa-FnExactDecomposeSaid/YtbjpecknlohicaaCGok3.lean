/- Going through a graph, the reference's way. No condition. -/
import Derived.Test.YtbjpecknlohicaaCGok2
namespace Go.Proofs.Ytbjpecknlohicaa.Lg
set_option linter.unusedSimpArgs false
set_option linter.unusedVariables false
set_option maxRecDepth 100000
set_option maxHeartbeats 40000000
open Go.Proofs.Ytbjpecknlohicaa

theorem ite_elim {α : Type} {c : Prop} [Decidable c] {P : α → Prop} {a b : α} (ha : c → P a) (hb : ¬ c → P b) : P (if c then a else b) := by
  by_cases h : c
  · rw [if_pos h]; exact ha h
  · rw [if_neg h]; exact hb h
structure SW where
  seen : List Int
  next : Int
  bad : Bool
def swC (nv rv : V) (sB : Nat) (s : SW) : List V := [nv, rv, .sl sB 0 1 s.seen.length s.seen.length, .int .i64 s.next, .bool s.bad]
def WH (H : LH) (b sB : Nat) (nv rv : V) (s : SW) : LH := (H.set b (.cells (swC nv rv sB s))).set sB (.cells (rows inC s.seen))
def spGo (g : Gr) : Nat → SW → Int → SW
  | 0, s, _ => s
  | d + 1, s, i =>
    if s.bad = true ∨ s.seen.getD i.toNat 0 = 1 ∨ (s.seen.getD i.toNat 0 = 0 ∧ i ≠ s.next) ∨ s.seen.getD i.toNat 0 = 3 then { s with bad := true }
    else if s.seen.getD i.toNat 0 = 2 then s
    else
      let s2 := (g.nodes.getD i.toNat nd0).kids.foldl (spGo g d) { s with seen := s.seen.set i.toNat 1, next := s.next + 1 }
      { s2 with seen := s2.seen.set i.toNat 2 }
structure SInv (N : Nat) (s : SW) : Prop where
  len : s.seen.length = N
  lo : 0 ≤ s.next
  hi : s.next ≤ N
  vals : ∀ i, i < N → s.seen.getD i 0 = 0 ∨ s.seen.getD i 0 = 1 ∨ s.seen.getD i 0 = 2 ∨ s.seen.getD i 0 = 3
def swSt (H : LH) (b sB : Nat) (nv rv : V) (s : SW) : Prop := H.cellsAt b = some (swC nv rv sB s) ∧ H.cellsAt sB = some (rows inC s.seen)
theorem cell_inC {xs : List Int} {i : Nat} (hi : i < xs.length) (n : Nat) (K : LH) : cellO K false i n (some (rows inC xs)) = some (.int .i64 (xs.getD i 0), K) := by
  have e := rows_cell inC_len hi (show 0 < 1 by omega)
  rw [Nat.mul_one, Nat.add_zero] at e
  rw [getD_of hi]
  simp only [cellO, e]; rfl
theorem getD_set0 (l : List Int) (i j : Nat) (v : Int) : (l.set i v).getD j 0 = v ∨ (l.set i v).getD j 0 = l.getD j 0 := by
  simp only [List.getD_eq_getElem?_getD, List.getElem?_set]
  by_cases h : i = j
  · subst h
    by_cases h2 : i < l.length
    · left; simp [h2]
    · right; simp [h2]
  · right; simp [h]
theorem spGo_inv (g : Gr) (hk : ∀ n ∈ g.nodes, n.kids.length ≤ 1048576 ∧ ∀ k ∈ n.kids, 0 ≤ k ∧ k < g.nodes.length) :
    ∀ (d : Nat) (s : SW) (i : Int), SInv g.nodes.length s → 0 ≤ i → i < g.nodes.length → SInv g.nodes.length (spGo g d s i) ∧ s.next ≤ (spGo g d s i).next
  | 0, s, i, h, _, _ => ⟨h, Int.le_refl _⟩
  | d + 1, s, i, h, h0, h1 => by
    have fold : ∀ (ks : List Int) (t : SW), (∀ k ∈ ks, 0 ≤ k ∧ k < g.nodes.length) → SInv g.nodes.length t → SInv g.nodes.length (ks.foldl (spGo g d) t) ∧ t.next ≤ (ks.foldl (spGo g d) t).next := by
      intro ks
      induction ks with
      | nil => intro t _ ht; exact ⟨ht, Int.le_refl _⟩
      | cons k ks ih =>
        intro t hks ht
        have a := spGo_inv g hk d t k ht (hks k (by simp)).1 (hks k (by simp)).2
        have b := ih (spGo g d t k) (fun x hx => hks x (by simp [hx])) a.1
        exact ⟨b.1, by rw [List.foldl_cons]; omega⟩
    have hi : i.toNat < g.nodes.length := by omega
    have hv := h.vals _ hi
    have hlo := h.lo; have hhi := h.hi; have hle := h.len
    unfold spGo
    refine ite_elim (P := fun r => SInv g.nodes.length r ∧ s.next ≤ r.next) (fun w => ?_) (fun w => ?_)
    · exact ⟨⟨h.len, h.lo, h.hi, h.vals⟩, Int.le_refl _⟩
    refine ite_elim (P := fun r => SInv g.nodes.length r ∧ s.next ≤ r.next) (fun w2 => ?_) (fun w2 => ?_)
    · exact ⟨h, Int.le_refl _⟩
    have hx0 : s.seen.getD i.toNat 0 = 0 := by
      rcases hv with h | h | h | h
      · exact h
      · exact absurd (.inr (.inl h)) w
      · exact absurd h w2
      · exact absurd (.inr (.inr (.inr h))) w
    have hx1 : i = s.next := Decidable.byContradiction fun h => w (.inr (.inr (.inl ⟨hx0, h⟩)))
    have hin : (g.nodes.getD i.toNat nd0) ∈ g.nodes := by rw [getD_of hi]; exact List.getElem_mem _
    have h2 : SInv g.nodes.length { s with seen := s.seen.set i.toNat 1, next := s.next + 1 } := by
      refine ⟨by simp only [List.length_set]; exact hle, by simp only; omega, by simp only; omega, fun j hj => ?_⟩
      have h3 := getD_set0 s.seen i.toNat j 1
      have h4 := h.vals j hj
      simp only
      rcases h3 with h3 | h3 <;> rw [h3] <;> omega
    have h5 := fold _ _ (hk _ hin).2 h2
    refine ⟨⟨by simp only [List.length_set]; exact h5.1.len, h5.1.lo, h5.1.hi, fun j hj => ?_⟩, by have := h5.2; simp only at this ⊢; omega⟩
    have h3 := getD_set0 ((g.nodes.getD i.toNat nd0).kids.foldl (spGo g d) { s with seen := s.seen.set i.toNat 1, next := s.next + 1 }).seen i.toNat j 2
    have h4 := h5.1.vals j hj
    simp only
    rcases h3 with h3 | h3 <;> rw [h3] <;> omega
theorem run_l15Go (H0 : LH) (nv rv : V) (cs : List NC) (g : Gr) (hA : At H0 ncC 4 nv cs) (hlen : cs.length = g.nodes.length)
    (hR : ∀ i, i < g.nodes.length → Rel1 H0 (cs.getD i nc0) (g.nodes.getD i nd0)) (hN : g.nodes.length ≤ 3000) (hk : ∀ n ∈ g.nodes, n.kids.length ≤ 1048576 ∧ ∀ k ∈ n.kids, 0 ≤ k ∧ k < g.nodes.length)
    (b sB : Nat) (hb : H0.length ≤ b) (hsB : H0.length ≤ sB) (hne : b ≠ sB) :
    ∀ (d : Nat) (H : LH) (s : SW) (i : Nat) (fl : Nat), Hx H0 H → swSt H b sB nv rv s → SInv g.nodes.length s → i < g.nodes.length → (g.nodes.length : Int) - s.next ≤ d → fl ≤ b → fl ≤ sB →
      run 69 [.ptr b 0, .int .i64 (i : Int)] fl H = some (und, WH H b sB nv rv (spGo g (d + 1) s i)) := by
  intro d
  induction d using Nat.strongRecOn with
  | _ d ih =>
    intro H s i fl hX hS hI hi hd hf1 hf2
    obtain ⟨hs1, hs2⟩ := hS
    have l1 := hI.len; have l2 := hI.lo; have l3 := hI.hi; have l4 := hI.vals i hi
    have f6 := fun n K => cell_inC (xs := s.seen) (i := i) (by omega) n K
    have hbH := cellsAt_lt hs1
    have hsH := cellsAt_lt hs2
    have u1 : ∀ x, LH.cellsAt (H.set b (.cells x)) b = some x := fun x => cellsAt_set hbH
    have u2 : ∀ x, LH.cellsAt (H.set b x) sB = some (rows inC s.seen) := fun x => by rw [cellsAt_set_ne hne]; exact hs2
    have u3 : ∀ x y, LH.cellsAt ((H.set b (.cells x)).set sB y) b = some x := fun x y => by rw [cellsAt_set_ne (Ne.symm hne)]; exact u1 x
    have u4 : ∀ x y, LH.cellsAt ((H.set b x).set sB (.cells y)) sB = some y := fun x y => cellsAt_set (by rw [List.length_set]; exact hsH)
    have hX2 : ∀ x y, Hx H0 ((H.set b x).set sB y) := fun x y => (hX.set hb).set hsB
    have n1 := hA.isTup; have n2 := hA.len
    have n4 := fun x y (hp : 0 < cs.length) => (hA.ext (hX2 x y)).con hp
    have n5 := hA.idx (T := ty Try.prog) (t := 60) (by simp only [elemI, sizeO, ty3, ty9, ty55, ty60, ty100])
    have n6 := fun x y => (hA.ext (hX2 x y)).loadDF ncC_len nc0 NC.kv (j := 3) (fun _ => rfl)
    have ki := hR i hi
    have k1 := ki.kids.isTup; have k2 := ki.kids.len; have k3 := ki.kids.lenOk ty55
    have p1 : (rows inC s.seen).length = s.seen.length := by rw [rows_len inC_len]; omega
    have p2 : ∀ w : Int, putAt (rows inC s.seen) i [.int .i64 w] = rows inC (s.seen.set i w) := fun w => by
      have := rows_putD (enc := inC) (j := 0) (xs := s.seen) inC_len 0 i (by omega) (ws := inC w) (by simp [inC_len]) _ rfl
      simpa [inC, putAt] using this
    simp only [putAt] at p2
    unfold swC at hs1
    unfold run at *
    rw [Run_z Try.func69 rfl (by rfl : ok 69 = true) (by rfl : cfg.keep 69 = [0, 1, 5, 47, 58, 80, 81, 82, 83]) (by rfl : cfg.mode 69 = .any)]
    simp (config := {contextual := true, maxSteps := 10000000, implicitDefEqProofs := false}) (disch := first | (and_intros <;> omega -splitDisjunctions) | (simp only [List.length_set, List.length_append, List.length_cons, List.length_nil]; and_intros <;> omega -splitDisjunctions) | fail) only [hs1, hs2, f6, hf1, hf2, u1, u2, u3, u4, n1, n2, n4, n5, n6, k1, k2, k3, p1, p2, Try.f69, go_sem, ↓reduceIte, Nat.reduceEqDiff, Nat.reduceAdd, Nat.reduceMul, Nat.reduceLT, Nat.reduceLeDiff, reduceCtorEq, Int.reduceNe, Int.reduceEq, Int.reduceLT, Int.reduceLE, Int.reduceAdd, Int.reduceSub, Int.reduceMul, Int.reduceNeg, Int.reduceToNat, UInt8.reduceToNat, natLit, ty3, ty4, ty9, ty55, ty60, ty62, ty100, ty104]
    have hw1 : ∀ t : SW, swSt (WH H b sB nv rv t) b sB nv rv t := fun t => ⟨u3 _ _, u4 _ _⟩
    have hw2 : ∀ t t' : SW, WH (WH H b sB nv rv t) b sB nv rv t' = WH H b sB nv rv t' := fun t t' => by
      simp only [WH]
      rw [List.set_comm _ _ (Ne.symm hne), List.set_set, List.set_set]
    have hg : spGo g (d + 1) s i = if s.bad = true ∨ s.seen.getD i 0 = 1 ∨ (s.seen.getD i 0 = 0 ∧ (i : Int) ≠ s.next) ∨ s.seen.getD i 0 = 3 then { s with bad := true }
        else if s.seen.getD i 0 = 2 then s
        else { (g.nodes.getD i nd0).kids.foldl (spGo g d) { s with seen := s.seen.set i 1, next := s.next + 1 } with seen := ((g.nodes.getD i nd0).kids.foldl (spGo g d) { s with seen := s.seen.set i 1, next := s.next + 1 }).seen.set i 2 } := rfl
    rw [hg]
    refine ite_E (fun w => ?_) (fun w => ?_)
    · rw [or_assoc, or_assoc] at w
      rw [if_pos w]
      simp only [WH, swC]
      rw [set_same (u2 _)]
    rw [or_assoc, or_assoc] at w
    rw [if_neg w]
    refine ite_E (fun w2 => ?_) (fun w2 => ?_)
    · rw [if_pos w2]
      simp only [WH, swC]
      rw [set_same hs1, set_same hs2]
    rw [if_neg w2]
    have hbd : s.bad = false := by
      cases hb : s.bad
      · rfl
      · exact absurd (.inl hb) w
    have hx0 : s.seen.getD i 0 = 0 := by
      rcases l4 with h | h | h | h
      · exact h
      · exact absurd (.inr (.inl h)) w
      · exact absurd h w2
      · exact absurd (.inr (.inr (.inr h))) w
    have hx1 : (i : Int) = s.next := Decidable.byContradiction fun h => w (.inr (.inr (.inl ⟨hx0, h⟩)))
    have hd1 : 1 ≤ d := by omega
    obtain ⟨d, rfl⟩ : ∃ d', d = d' + 1 := ⟨d - 1, by omega⟩
    have ki := hk _ (show g.nodes.getD i nd0 ∈ g.nodes by rw [getD_of hi]; exact List.getElem_mem _)
    have kA := (hR i hi).kids
    clear p1 p2 f6 hg
    generalize (cs.getD i nc0).kv = kv at *
    generalize (g.nodes.getD i nd0).kids = ks at *
    have c4 := fun x y (hp : 0 < ks.length) => (kA.ext (hX2 x y)).con hp
    have c5 := kA.idx (T := ty Try.prog) (t := 55) (by simp only [elemI, sizeO, ty3, ty55])
    have c6 := fun x y => (kA.ext (hX2 x y)).load1 0 (fun x => .int .i64 x) (fun _ => rfl)
    refine at_loopE fun c0 R hc0 hR => ?_
    have key : ∀ (m j : Nat) (x5 x47 x58 x83 : Option V) (t : SW) (jj : Int), ks.length - j ≤ m → j ≤ ks.length → jj = j → SInv g.nodes.length t → (g.nodes.length : Int) - t.next ≤ d →
        zEv (leaveX (mkR Try.prog cfg ok [0, 1, 5, 47, 58, 80, 81, 82, 83] fl) .any H []) (mkR Try.prog cfg ok [0, 1, 5, 47, 58, 80, 81, 82, 83] fl) (K.code (Code.loop c0) :: K.blk 0 :: R) .nrm [some (.ptr b 0), some (.int .i64 (i : Int)), x5, x47, x58, some kv, some (.int .i64 ks.length), some (.int .i64 jj), x83]
          ((H.set b (.cells [nv, rv, .sl sB 0 1 t.seen.length t.seen.length, .int .i64 t.next, .bool t.bad])).set sB (.cells (rows inC t.seen))) =
        some (und, WH H b sB nv rv { (ks.drop j).foldl (spGo g (d + 1)) t with seen := ((ks.drop j).foldl (spGo g (d + 1)) t).seen.set i 2 }) := by
      intro m
      induction m with
      | zero =>
        intro j x5 x47 x58 x83 t jj hd hj2 hj hT hn
        subst hj
        have l1 := hT.len
        have q1 : (rows inC t.seen).length = t.seen.length := by rw [rows_len inC_len]; omega
        have q2 : ∀ w : Int, (rows inC t.seen).set i (.int .i64 w) = rows inC (t.seen.set i w) := fun w => by
          have := rows_putD (enc := inC) (j := 0) (xs := t.seen) inC_len 0 i (by omega) (ws := inC w) (by simp [inC_len]) _ rfl
          simpa [inC, putAt] using this
        have hr : j < ks.length → 0 ≤ ks.getD j 0 ∧ ks.getD j 0 < g.nodes.length := fun h => by rw [getD_of h]; exact ki.2 _ (List.getElem_mem _)
        have e1 : ∀ (h : j < ks.length), run 69 [.ptr b 0, .int .i64 (ks.getD j 0)] fl ((H.set b (.cells [nv, rv, .sl sB 0 1 t.seen.length t.seen.length, .int .i64 t.next, .bool t.bad])).set sB (.cells (rows inC t.seen))) =
            some (und, (H.set b (.cells [nv, rv, .sl sB 0 1 (spGo g (d + 1) t (ks.getD j 0)).seen.length (spGo g (d + 1) t (ks.getD j 0)).seen.length, .int .i64 (spGo g (d + 1) t (ks.getD j 0)).next, .bool (spGo g (d + 1) t (ks.getD j 0)).bad])).set sB (.cells (rows inC (spGo g (d + 1) t (ks.getD j 0)).seen))) := fun h => by
          have := ih d (by omega) (WH H b sB nv rv t) t (ks.getD j 0).toNat fl (hX2 _ _) (hw1 t) hT (by have := hr h; omega) hn hf1 hf2
          rw [hw2, Int.toNat_of_nonneg (hr h).1] at this
          exact this
        unfold run at e1
        rw [zEv_round hc0, ← hR]
        simp (config := {contextual := true, maxSteps := 10000000, implicitDefEqProofs := false}) (disch := first | (and_intros <;> omega -splitDisjunctions) | (simp only [List.length_set, List.length_append, List.length_cons, List.length_nil]; and_intros <;> omega -splitDisjunctions) | fail) only [e1, hf1, hf2, u3, u4, c4, c5, c6, q1, q2, k1, k2, k3, Try.f69, go_sem, ↓reduceIte, Nat.reduceEqDiff, Nat.reduceAdd, Nat.reduceMul, Nat.reduceLT, Nat.reduceLeDiff, reduceCtorEq, Int.reduceNe, Int.reduceEq, Int.reduceLT, Int.reduceLE, Int.reduceAdd, Int.reduceSub, Int.reduceMul, Int.reduceNeg, Int.reduceToNat, UInt8.reduceToNat, natLit, ty3, ty4, ty9, ty55, ty60, ty62, ty100, ty104]
        rw [List.drop_of_length_le (by omega)]
        exact ite_E (fun h => by omega) (fun _ => by simp only [List.foldl_nil, WH, swC, List.length_set])
      | succ m ihm =>
        intro j x5 x47 x58 x83 t jj hd hj2 hj hT hn
        subst hj
        have l1 := hT.len
        have q1 : (rows inC t.seen).length = t.seen.length := by rw [rows_len inC_len]; omega
        have q2 : ∀ w : Int, (rows inC t.seen).set i (.int .i64 w) = rows inC (t.seen.set i w) := fun w => by
          have := rows_putD (enc := inC) (j := 0) (xs := t.seen) inC_len 0 i (by omega) (ws := inC w) (by simp [inC_len]) _ rfl
          simpa [inC, putAt] using this
        have hr : j < ks.length → 0 ≤ ks.getD j 0 ∧ ks.getD j 0 < g.nodes.length := fun h => by rw [getD_of h]; exact ki.2 _ (List.getElem_mem _)
        have e1 : ∀ (h : j < ks.length), run 69 [.ptr b 0, .int .i64 (ks.getD j 0)] fl ((H.set b (.cells [nv, rv, .sl sB 0 1 t.seen.length t.seen.length, .int .i64 t.next, .bool t.bad])).set sB (.cells (rows inC t.seen))) =
            some (und, (H.set b (.cells [nv, rv, .sl sB 0 1 (spGo g (d + 1) t (ks.getD j 0)).seen.length (spGo g (d + 1) t (ks.getD j 0)).seen.length, .int .i64 (spGo g (d + 1) t (ks.getD j 0)).next, .bool (spGo g (d + 1) t (ks.getD j 0)).bad])).set sB (.cells (rows inC (spGo g (d + 1) t (ks.getD j 0)).seen))) := fun h => by
          have := ih d (by omega) (WH H b sB nv rv t) t (ks.getD j 0).toNat fl (hX2 _ _) (hw1 t) hT (by have := hr h; omega) hn hf1 hf2
          rw [hw2, Int.toNat_of_nonneg (hr h).1] at this
          exact this
        unfold run at e1
        rw [zEv_round hc0, ← hR]
        simp (config := {contextual := true, maxSteps := 10000000, implicitDefEqProofs := false}) (disch := first | (and_intros <;> omega -splitDisjunctions) | (simp only [List.length_set, List.length_append, List.length_cons, List.length_nil]; and_intros <;> omega -splitDisjunctions) | fail) only [e1, hf1, hf2, u3, u4, c4, c5, c6, q1, q2, k1, k2, k3, Try.f69, go_sem, ↓reduceIte, Nat.reduceEqDiff, Nat.reduceAdd, Nat.reduceMul, Nat.reduceLT, Nat.reduceLeDiff, reduceCtorEq, Int.reduceNe, Int.reduceEq, Int.reduceLT, Int.reduceLE, Int.reduceAdd, Int.reduceSub, Int.reduceMul, Int.reduceNeg, Int.reduceToNat, UInt8.reduceToNat, natLit, ty3, ty4, ty9, ty55, ty60, ty62, ty100, ty104]
        rw [hR]
        refine ite_E (fun hlt => ?_) (fun hge => ?_)
        · have hlt : j < ks.length := by omega
          have hv := spGo_inv g hk (d + 1) t (ks.getD j 0) hT (hr hlt).1 (hr hlt).2
          rw [List.drop_eq_getElem_cons hlt, ← getD_of hlt 0, List.foldl_cons]
          exact ihm (j + 1) _ _ _ _ (spGo g (d + 1) t (ks.getD j 0)) ((j : Int) + 1) (by omega) (by omega) rfl hv.1 (by have := hv.2; omega)
        · rw [List.drop_of_length_le (by omega)]
          simp only [List.foldl_nil, WH, swC, List.length_set]
    have hI2 : SInv g.nodes.length { s with seen := s.seen.set i 1, next := s.next + 1 } := by
      refine ⟨by simp only [List.length_set]; exact l1, by simp only; omega, by simp only; omega, fun j hj => ?_⟩
      have h3 := getD_set0 s.seen i j 1
      have h4 := hI.vals j hj
      simp only
      rcases h3 with h3 | h3 <;> rw [h3] <;> omega
    have := fun x5 x47 x58 x83 => key ks.length 0 x5 x47 x58 x83 _ 0 (by omega) (by omega) rfl hI2 (by simp only; omega)
    simp only [List.drop_zero, List.length_set, hbd] at this ⊢
    exact this _ _ _ _
end Go.Proofs.Ytbjpecknlohicaa.Lg
