/- Going through a graph, the program's way. No condition. -/
import Derived.Test.YtbjpecknlohicaaCGok3
namespace Go.Proofs.Ytbjpecknlohicaa.Lg
set_option linter.unusedSimpArgs false
set_option linter.unusedVariables false
set_option maxRecDepth 100000
set_option maxHeartbeats 40000000
open Go.Proofs.Ytbjpecknlohicaa

def boC (x : Bool) : List V := [.bool x]
theorem boC_len (x : Bool) : (boC x).length = 1 := rfl
structure MW where
  met : Int
  owner : List Int
  opn : List Bool
def mwC (nv rv : V) (oB pB : Nat) (s : MW) : List V := [nv, rv, .int .i64 s.met, .sl oB 0 1 s.owner.length s.owner.length, .sl pB 0 1 s.opn.length s.opn.length]
def MH (H : LH) (b oB pB : Nat) (nv rv : V) (s : MW) : LH := ((H.set b (.cells (mwC nv rv oB pB s))).set oB (.cells (rows inC s.owner))).set pB (.cells (rows boC s.opn))
def kidsM (f : MW → Int → MW × Bool) : List Int → MW → MW × Bool
  | [], s => (s, true)
  | k :: ks, s => if (f s k).2 = true then kidsM f ks (f s k).1 else ((f s k).1, false)
def finM (i : Nat) (r : MW × Bool) : MW × Bool := if r.2 = true then (⟨r.1.met, r.1.owner, r.1.opn.set i false⟩, true) else (r.1, false)
def imGo (g : Gr) (root : Int) : Nat → MW → Int → MW × Bool
  | 0, s, _ => (s, false)
  | d + 1, s, k =>
    if k < s.met then (s, decide (s.owner.getD k.toNat 0 = root) && !s.opn.getD k.toNat false)
    else if k ≠ s.met then (s, false)
    else finM k.toNat (kidsM (imGo g root d) (g.nodes.getD k.toNat nd0).kids ⟨s.met + 1, s.owner.set k.toNat root, s.opn.set k.toNat true⟩)
structure MInv (N : Nat) (s : MW) : Prop where
  len1 : s.owner.length = N
  len2 : s.opn.length = N
  lo : 0 ≤ s.met
  hi : s.met ≤ N
def mwSt (H : LH) (b oB pB : Nat) (nv rv : V) (s : MW) : Prop := H.cellsAt b = some (mwC nv rv oB pB s) ∧ H.cellsAt oB = some (rows inC s.owner) ∧ H.cellsAt pB = some (rows boC s.opn)
theorem cell_boC {xs : List Bool} {i : Nat} (hi : i < xs.length) (n : Nat) (K : LH) : cellO K false i n (some (rows boC xs)) = some (.bool (xs.getD i false), K) := by
  have e := rows_cell boC_len hi (show 0 < 1 by omega)
  rw [Nat.mul_one, Nat.add_zero] at e
  rw [getD_of hi]
  simp only [cellO, e]; rfl
theorem imGo_inv (g : Gr) (root : Int) (hk : ∀ n ∈ g.nodes, n.kids.length ≤ 1048576 ∧ ∀ k ∈ n.kids, 0 ≤ k ∧ k < g.nodes.length) :
    ∀ (d : Nat) (s : MW) (k : Int), MInv g.nodes.length s → 0 ≤ k → k < g.nodes.length → MInv g.nodes.length (imGo g root d s k).1 ∧ s.met ≤ (imGo g root d s k).1.met
  | 0, s, i, h, _, _ => ⟨h, Int.le_refl _⟩
  | d + 1, s, i, h, h0, h1 => by
    have fold : ∀ (ks : List Int) (t : MW), (∀ k ∈ ks, 0 ≤ k ∧ k < g.nodes.length) → MInv g.nodes.length t → MInv g.nodes.length (kidsM (imGo g root d) ks t).1 ∧ t.met ≤ (kidsM (imGo g root d) ks t).1.met := by
      intro ks
      induction ks with
      | nil => intro t _ ht; exact ⟨ht, Int.le_refl _⟩
      | cons k ks ih =>
        intro t hks ht
        have a := imGo_inv g root hk d t k ht (hks k (by simp)).1 (hks k (by simp)).2
        have b := ih (imGo g root d t k).1 (fun x hx => hks x (by simp [hx])) a.1
        simp only [kidsM]
        refine ite_elim (P := fun r : MW × Bool => MInv g.nodes.length r.1 ∧ t.met ≤ r.1.met) (fun _ => ?_) (fun _ => ?_)
        · exact ⟨b.1, by omega⟩
        · exact a
    have hi : i.toNat < g.nodes.length := by omega
    have hlo := h.lo; have hhi := h.hi; have hle := h.len1; have hle2 := h.len2
    unfold imGo
    refine ite_elim (P := fun r : MW × Bool => MInv g.nodes.length r.1 ∧ s.met ≤ r.1.met) (fun w => ?_) (fun w => ?_)
    · exact ⟨h, Int.le_refl _⟩
    refine ite_elim (P := fun r : MW × Bool => MInv g.nodes.length r.1 ∧ s.met ≤ r.1.met) (fun w2 => ?_) (fun w2 => ?_)
    · exact ⟨h, Int.le_refl _⟩
    have hin : (g.nodes.getD i.toNat nd0) ∈ g.nodes := by rw [getD_of hi]; exact List.getElem_mem _
    have h2 : MInv g.nodes.length ⟨s.met + 1, s.owner.set i.toNat root, s.opn.set i.toNat true⟩ :=
      ⟨by simp only [List.length_set]; exact hle, by simp only [List.length_set]; exact hle2, by simp only; omega, by simp only; omega⟩
    have h5 := fold _ _ (hk _ hin).2 h2
    have h6 := h5.2
    simp only at h6
    unfold finM
    refine ite_elim (P := fun r : MW × Bool => MInv g.nodes.length r.1 ∧ s.met ≤ r.1.met) (fun w3 => ?_) (fun w3 => ?_)
    · exact ⟨⟨h5.1.len1, by simp only [List.length_set]; exact h5.1.len2, h5.1.lo, h5.1.hi⟩, by simp only; omega⟩
    · exact ⟨h5.1, by simp only; omega⟩
theorem run_visit (H0 : LH) (nv rv : V) (cs : List NC) (g : Gr) (hA : At H0 ncC 4 nv cs) (hlen : cs.length = g.nodes.length)
    (hR : ∀ i, i < g.nodes.length → Rel1 H0 (cs.getD i nc0) (g.nodes.getD i nd0)) (hN : g.nodes.length ≤ 3000) (hk : ∀ n ∈ g.nodes, n.kids.length ≤ 1048576 ∧ ∀ k ∈ n.kids, 0 ≤ k ∧ k < g.nodes.length)
    (b oB pB : Nat) (hb : H0.length ≤ b) (hoB : H0.length ≤ oB) (hpB : H0.length ≤ pB) (hne : b ≠ oB) (hne2 : b ≠ pB) (hne3 : oB ≠ pB) (root : Int) :
    ∀ (d : Nat) (H : LH) (s : MW) (i : Nat) (fl : Nat), Hx H0 H → mwSt H b oB pB nv rv s → MInv g.nodes.length s → i < g.nodes.length → (g.nodes.length : Int) - s.met ≤ d → fl ≤ b → fl ≤ oB → fl ≤ pB →
      run 75 [.ptr b 0, .int .i64 (i : Int), .int .i64 root] fl H = some (.bool (imGo g root (d + 1) s i).2, MH H b oB pB nv rv (imGo g root (d + 1) s i).1) := by
  intro d
  induction d using Nat.strongRecOn with
  | _ d ih =>
    intro H s i fl hX hS hI hi hd hf1 hf2 hf3
    obtain ⟨hs1, hs2, hs3⟩ := hS
    have l1 := hI.len1; have l5 := hI.len2; have l2 := hI.lo; have l3 := hI.hi
    have f6 := fun n K => cell_inC (xs := s.owner) (i := i) (by omega) n K
    have f7 := fun n K => cell_boC (xs := s.opn) (i := i) (by omega) n K
    have hbH := cellsAt_lt hs1
    have hoH := cellsAt_lt hs2
    have hpH := cellsAt_lt hs3
    have u1 : ∀ x, LH.cellsAt (H.set b (.cells x)) b = some x := fun x => cellsAt_set hbH
    have u2 : ∀ x, LH.cellsAt (H.set b x) oB = some (rows inC s.owner) := fun x => by rw [cellsAt_set_ne hne]; exact hs2
    have u2p : ∀ x, LH.cellsAt (H.set b x) pB = some (rows boC s.opn) := fun x => by rw [cellsAt_set_ne hne2]; exact hs3
    have u3 : ∀ x y, LH.cellsAt ((H.set b (.cells x)).set oB y) b = some x := fun x y => by rw [cellsAt_set_ne (Ne.symm hne)]; exact u1 x
    have u3p : ∀ x y, LH.cellsAt ((H.set b x).set oB y) pB = some (rows boC s.opn) := fun x y => by rw [cellsAt_set_ne hne3]; exact u2p x
    have u4 : ∀ x y z, LH.cellsAt (((H.set b (.cells x)).set oB y).set pB z) b = some x := fun x y z => by rw [cellsAt_set_ne (Ne.symm hne2)]; exact u3 x y
    have u5 : ∀ x y z, LH.cellsAt (((H.set b x).set oB (.cells y)).set pB z) oB = some y := fun x y z => by rw [cellsAt_set_ne (Ne.symm hne3)]; exact cellsAt_set (by rw [List.length_set]; exact hoH)
    have u6 : ∀ x y z, LH.cellsAt (((H.set b x).set oB y).set pB (.cells z)) pB = some z := fun x y z => cellsAt_set (by rw [List.length_set, List.length_set]; exact hpH)
    have hX2 : ∀ x y z, Hx H0 (((H.set b x).set oB y).set pB z) := fun x y z => ((hX.set hb).set hoB).set hpB
    have n1 := hA.isTup; have n2 := hA.len
    have n4 := fun x y z (hp : 0 < cs.length) => (hA.ext (hX2 x y z)).con hp
    have n5 := hA.idx (T := ty Try.prog) (t := 60) (by simp only [elemI, sizeO, ty3, ty9, ty55, ty60, ty100])
    have n6 := fun x y z => (hA.ext (hX2 x y z)).loadDF ncC_len nc0 NC.kv (j := 3) (fun _ => rfl)
    have ki := hR i hi
    have k1 := ki.kids.isTup; have k2 := ki.kids.len; have k3 := ki.kids.lenOk ty55
    have p1 : (rows inC s.owner).length = s.owner.length := by rw [rows_len inC_len]; omega
    have p2 : ∀ w : Int, (rows inC s.owner).set i (.int .i64 w) = rows inC (s.owner.set i w) := fun w => by
      have := rows_putD (enc := inC) (j := 0) (xs := s.owner) inC_len 0 i (by omega) (ws := inC w) (by simp [inC_len]) _ rfl
      simpa [inC, putAt] using this
    have p3 : (rows boC s.opn).length = s.opn.length := by rw [rows_len boC_len]; omega
    have p4 : ∀ w : Bool, (rows boC s.opn).set i (.bool w) = rows boC (s.opn.set i w) := fun w => by
      have := rows_putD (enc := boC) (j := 0) (xs := s.opn) boC_len false i (by omega) (ws := boC w) (by simp [boC_len]) _ rfl
      simpa [boC, putAt] using this
    unfold mwC at hs1
    unfold run at *
    rw [Run_z Try.func75 rfl (by rfl : ok 75 = true) (by rfl : cfg.keep 75 = [0, 1, 2, 6, 8, 14, 39, 68, 69, 70, 71, 78]) (by rfl : cfg.mode 75 = .any)]
    simp (config := {contextual := true, maxSteps := 10000000, implicitDefEqProofs := false}) (disch := first | (and_intros <;> omega -splitDisjunctions) | (simp only [List.length_set, List.length_append, List.length_cons, List.length_nil]; and_intros <;> omega -splitDisjunctions) | fail) only [hs1, hs2, hs3, f6, f7, hf1, hf2, hf3, u1, u2, u2p, u3, u3p, u4, u5, u6, n1, n2, n4, n5, n6, k1, k2, k3, p1, p2, p3, p4, Try.f75, go_sem, ↓reduceIte, Nat.reduceEqDiff, Nat.reduceAdd, Nat.reduceMul, Nat.reduceLT, Nat.reduceLeDiff, reduceCtorEq, Int.reduceNe, Int.reduceEq, Int.reduceLT, Int.reduceLE, Int.reduceAdd, Int.reduceSub, Int.reduceMul, Int.reduceNeg, Int.reduceToNat, UInt8.reduceToNat, natLit, ty3, ty4, ty9, ty55, ty60, ty62, ty100, ty111, ty113]
    have hw1 : ∀ t : MW, mwSt (MH H b oB pB nv rv t) b oB pB nv rv t := fun t => ⟨u4 _ _ _, u5 _ _ _, u6 _ _ _⟩
    have hw2 : ∀ t t' : MW, MH (MH H b oB pB nv rv t) b oB pB nv rv t' = MH H b oB pB nv rv t' := fun t t' => by
      simp only [MH]
      rw [List.set_comm _ _ (Ne.symm hne2), List.set_comm _ _ (Ne.symm hne), List.set_set, List.set_comm _ _ (Ne.symm hne3), List.set_set, List.set_set]
    have hg : imGo g root (d + 1) s i = if (i : Int) < s.met then (s, decide (s.owner.getD i 0 = root) && !s.opn.getD i false)
        else if (i : Int) ≠ s.met then (s, false)
        else finM i (kidsM (imGo g root d) (g.nodes.getD i nd0).kids ⟨s.met + 1, s.owner.set i root, s.opn.set i true⟩) := rfl
    have hMH : MH H b oB pB nv rv s = H := by
      simp only [MH, mwC]
      rw [set_same hs1, set_same hs2, set_same hs3]
    rw [hg]
    refine ite_E (fun w => ?_) (fun w => ?_)
    · rw [if_pos w, hMH]
    rw [if_neg w]
    refine ite_E2 (fun w2 => ?_) (fun w2 => ?_)
    · rw [if_pos w2, hMH]
    rw [if_neg (fun h => h w2)]
    have hd1 : 1 ≤ d := by omega
    obtain ⟨d, rfl⟩ : ∃ d', d = d' + 1 := ⟨d - 1, by omega⟩
    have ki := hk _ (show g.nodes.getD i nd0 ∈ g.nodes by rw [getD_of hi]; exact List.getElem_mem _)
    have kA := (hR i hi).kids
    clear p1 p2 p3 p4 f6 f7 hg
    generalize (cs.getD i nc0).kv = kv at *
    generalize (g.nodes.getD i nd0).kids = ks at *
    have c4 := fun x y z (hp : 0 < ks.length) => (kA.ext (hX2 x y z)).con hp
    have c5 := kA.idx (T := ty Try.prog) (t := 55) (by simp only [elemI, sizeO, ty3, ty55])
    have c6 := fun x y z => (kA.ext (hX2 x y z)).load1 0 (fun x => .int .i64 x) (fun _ => rfl)
    refine at_loopE fun c0 R hc0 hR => ?_
    have key : ∀ (m j : Nat) (x6 x8 x14 x39 x71 x78 : Option V) (t : MW) (jj : Int), ks.length - j ≤ m → j ≤ ks.length → jj = j → MInv g.nodes.length t → (g.nodes.length : Int) - t.met ≤ d →
        zEv (leaveX (mkR Try.prog cfg ok [0, 1, 2, 6, 8, 14, 39, 68, 69, 70, 71, 78] fl) .any H [ResultVar.tmp 6]) (mkR Try.prog cfg ok [0, 1, 2, 6, 8, 14, 39, 68, 69, 70, 71, 78] fl) (K.code (Code.loop c0) :: K.blk 0 :: R) .nrm [some (.ptr b 0), some (.int .i64 (i : Int)), some (.int .i64 root), x6, x8, x14, x39, some kv, some (.int .i64 ks.length), some (.int .i64 jj), x71, x78]
          (((H.set b (.cells [nv, rv, .int .i64 t.met, .sl oB 0 1 t.owner.length t.owner.length, .sl pB 0 1 t.opn.length t.opn.length])).set oB (.cells (rows inC t.owner))).set pB (.cells (rows boC t.opn))) =
        some (.bool (finM i (kidsM (imGo g root (d + 1)) (ks.drop j) t)).2, MH H b oB pB nv rv (finM i (kidsM (imGo g root (d + 1)) (ks.drop j) t)).1) := by
      intro m
      induction m with
      | zero =>
        intro j x6 x8 x14 x39 x71 x78 t jj hd hj2 hj hT hn
        subst hj
        have l1 := hT.len1; have l5 := hT.len2
        have q1 : (rows boC t.opn).length = t.opn.length := by rw [rows_len boC_len]; omega
        have q2 : ∀ w : Bool, (rows boC t.opn).set i (.bool w) = rows boC (t.opn.set i w) := fun w => by
          have := rows_putD (enc := boC) (j := 0) (xs := t.opn) boC_len false i (by omega) (ws := boC w) (by simp [boC_len]) _ rfl
          simpa [boC, putAt] using this
        have hr : j < ks.length → 0 ≤ ks.getD j 0 ∧ ks.getD j 0 < g.nodes.length := fun h => by rw [getD_of h]; exact ki.2 _ (List.getElem_mem _)
        have e1 : ∀ (h : j < ks.length), run 75 [.ptr b 0, .int .i64 (ks.getD j 0), .int .i64 root] fl (((H.set b (.cells [nv, rv, .int .i64 t.met, .sl oB 0 1 t.owner.length t.owner.length, .sl pB 0 1 t.opn.length t.opn.length])).set oB (.cells (rows inC t.owner))).set pB (.cells (rows boC t.opn))) =
            some (.bool (imGo g root (d + 1) t (ks.getD j 0)).2, ((H.set b (.cells [nv, rv, .int .i64 (imGo g root (d + 1) t (ks.getD j 0)).1.met, .sl oB 0 1 (imGo g root (d + 1) t (ks.getD j 0)).1.owner.length (imGo g root (d + 1) t (ks.getD j 0)).1.owner.length, .sl pB 0 1 (imGo g root (d + 1) t (ks.getD j 0)).1.opn.length (imGo g root (d + 1) t (ks.getD j 0)).1.opn.length])).set oB (.cells (rows inC (imGo g root (d + 1) t (ks.getD j 0)).1.owner))).set pB (.cells (rows boC (imGo g root (d + 1) t (ks.getD j 0)).1.opn))) := fun h => by
          have := ih d (by omega) (MH H b oB pB nv rv t) t (ks.getD j 0).toNat fl (hX2 _ _ _) (hw1 t) hT (by have := hr h; omega) hn hf1 hf2 hf3
          rw [hw2, Int.toNat_of_nonneg (hr h).1] at this
          exact this
        unfold run at e1
        rw [zEv_round hc0, ← hR]
        simp (config := {contextual := true, maxSteps := 10000000, implicitDefEqProofs := false}) (disch := first | (and_intros <;> omega -splitDisjunctions) | (simp only [List.length_set, List.length_append, List.length_cons, List.length_nil]; and_intros <;> omega -splitDisjunctions) | fail) only [e1, hf1, hf2, hf3, u4, u5, u6, c4, c5, c6, q1, q2, k1, k2, k3, Try.f75, go_sem, ↓reduceIte, Nat.reduceEqDiff, Nat.reduceAdd, Nat.reduceMul, Nat.reduceLT, Nat.reduceLeDiff, reduceCtorEq, Int.reduceNe, Int.reduceEq, Int.reduceLT, Int.reduceLE, Int.reduceAdd, Int.reduceSub, Int.reduceMul, Int.reduceNeg, Int.reduceToNat, UInt8.reduceToNat, natLit, ty3, ty4, ty9, ty55, ty60, ty62, ty100, ty111, ty113]
        rw [List.drop_of_length_le (by omega)]
        exact ite_E (fun h => by omega) (fun _ => by simp only [kidsM, finM, if_true, MH, mwC, List.length_set])
      | succ m ihm =>
        intro j x6 x8 x14 x39 x71 x78 t jj hd hj2 hj hT hn
        subst hj
        have l1 := hT.len1; have l5 := hT.len2
        have q1 : (rows boC t.opn).length = t.opn.length := by rw [rows_len boC_len]; omega
        have q2 : ∀ w : Bool, (rows boC t.opn).set i (.bool w) = rows boC (t.opn.set i w) := fun w => by
          have := rows_putD (enc := boC) (j := 0) (xs := t.opn) boC_len false i (by omega) (ws := boC w) (by simp [boC_len]) _ rfl
          simpa [boC, putAt] using this
        have hr : j < ks.length → 0 ≤ ks.getD j 0 ∧ ks.getD j 0 < g.nodes.length := fun h => by rw [getD_of h]; exact ki.2 _ (List.getElem_mem _)
        have e1 : ∀ (h : j < ks.length), run 75 [.ptr b 0, .int .i64 (ks.getD j 0), .int .i64 root] fl (((H.set b (.cells [nv, rv, .int .i64 t.met, .sl oB 0 1 t.owner.length t.owner.length, .sl pB 0 1 t.opn.length t.opn.length])).set oB (.cells (rows inC t.owner))).set pB (.cells (rows boC t.opn))) =
            some (.bool (imGo g root (d + 1) t (ks.getD j 0)).2, ((H.set b (.cells [nv, rv, .int .i64 (imGo g root (d + 1) t (ks.getD j 0)).1.met, .sl oB 0 1 (imGo g root (d + 1) t (ks.getD j 0)).1.owner.length (imGo g root (d + 1) t (ks.getD j 0)).1.owner.length, .sl pB 0 1 (imGo g root (d + 1) t (ks.getD j 0)).1.opn.length (imGo g root (d + 1) t (ks.getD j 0)).1.opn.length])).set oB (.cells (rows inC (imGo g root (d + 1) t (ks.getD j 0)).1.owner))).set pB (.cells (rows boC (imGo g root (d + 1) t (ks.getD j 0)).1.opn))) := fun h => by
          have := ih d (by omega) (MH H b oB pB nv rv t) t (ks.getD j 0).toNat fl (hX2 _ _ _) (hw1 t) hT (by have := hr h; omega) hn hf1 hf2 hf3
          rw [hw2, Int.toNat_of_nonneg (hr h).1] at this
          exact this
        unfold run at e1
        rw [zEv_round hc0, ← hR]
        simp (config := {contextual := true, maxSteps := 10000000, implicitDefEqProofs := false}) (disch := first | (and_intros <;> omega -splitDisjunctions) | (simp only [List.length_set, List.length_append, List.length_cons, List.length_nil]; and_intros <;> omega -splitDisjunctions) | fail) only [e1, hf1, hf2, hf3, u4, u5, u6, c4, c5, c6, q1, q2, k1, k2, k3, Try.f75, go_sem, ↓reduceIte, Nat.reduceEqDiff, Nat.reduceAdd, Nat.reduceMul, Nat.reduceLT, Nat.reduceLeDiff, reduceCtorEq, Int.reduceNe, Int.reduceEq, Int.reduceLT, Int.reduceLE, Int.reduceAdd, Int.reduceSub, Int.reduceMul, Int.reduceNeg, Int.reduceToNat, UInt8.reduceToNat, natLit, ty3, ty4, ty9, ty55, ty60, ty62, ty100, ty111, ty113]
        rw [hR]
        refine ite_E (fun hlt => ?_) (fun hge => ?_)
        · have hlt : j < ks.length := by omega
          have hv := imGo_inv g root hk (d + 1) t (ks.getD j 0) hT (hr hlt).1 (hr hlt).2
          rw [List.drop_eq_getElem_cons hlt, ← getD_of hlt 0]
          simp only [kidsM]
          refine ite_E (fun hf => ?_) (fun hf => ?_)
          · rw [if_neg (by rw [hf]; exact Bool.false_ne_true)]
            simp only [finM, MH, mwC, Bool.false_eq_true, if_false]
          · have hf : (imGo g root (d + 1) t (ks.getD j 0)).2 = true := by
              cases h : (imGo g root (d + 1) t (ks.getD j 0)).2
              · exact absurd h hf
              · rfl
            rw [if_pos hf]
            exact ihm (j + 1) _ _ _ _ _ _ (imGo g root (d + 1) t (ks.getD j 0)).1 ((j : Int) + 1) (by omega) (by omega) rfl hv.1 (by have := hv.2; omega)
        · rw [List.drop_of_length_le (by omega)]
          simp only [kidsM, finM, if_true, MH, mwC, List.length_set]
    have hI2 : MInv g.nodes.length ⟨s.met + 1, s.owner.set i root, s.opn.set i true⟩ :=
      ⟨by simp only [List.length_set]; exact l1, by simp only [List.length_set]; exact l5, by simp only; omega, by simp only; omega⟩
    have := fun x6 x8 x14 x39 x71 x78 => key ks.length 0 x6 x8 x14 x39 x71 x78 _ 0 (by omega) (by omega) rfl hI2 (by simp only; omega)
    simp only [List.drop_zero, List.length_set] at this ⊢
    rw [w2] at this
    exact this _ _ _ _ _ _
end Go.Proofs.Ytbjpecknlohicaa.Lg
