/- A text split at its breaks, over the logical machine. No condition. -/
import Derived.Test.YtbjpecknlohicaaDoorCLines
import Derived.Test.YtbjpecknlohicaaDoorCCut
namespace Go.Proofs.YtbjpecknlohicaaDoor.Lg
set_option linter.unusedSimpArgs false
set_option linter.unusedVariables false
set_option maxRecDepth 100000
set_option maxHeartbeats 40000000
open Go.Proofs.YtbjpecknlohicaaDoor

def stC (t : ByteArray) : List V := [.str t]
theorem stC_len (t : ByteArray) : (stC t).length = 1 := rfl
theorem run_cntS (s : ByteArray) (c : Int) (fl : Nat) (H : LH) : run 41 [.str s, .int .u8 c] fl H = some (.int .i64 (cntB s (UInt8.ofNat c.toNat)), H) := by
  unfold run
  rw [Run_ext Tryd.func41 rfl]
  unfold ext
  rw [if_neg (by decide), if_pos ⟨rfl, rfl⟩]
  rfl
theorem run_sCount (s : ByteArray) (fl : Nat) (H : LH) : run 36 [.str s, .str ⟨#[10]⟩] fl H = some (.int .i64 (cntB s 10), H) := by
  have e1 := fun fl H => run_cntS s 10 fl H
  rw [show UInt8.ofNat (10 : Int).toNat = 10 from rfl] at e1
  unfold run at *
  rw [Run_z Tryd.func36 rfl (by rfl : ok 36 = true) (by rfl : cfg.keep 36 = [0, 1, 4, 5, 6, 9, 15, 24]) (by rfl : cfg.mode 36 = .pure)]
  simp (config := {contextual := true, maxSteps := 10000000, implicitDefEqProofs := false}) (disch := first | (and_intros <;> omega -splitDisjunctions) | (simp only [List.length_set, List.length_append, List.length_cons, List.length_nil]; and_intros <;> omega -splitDisjunctions) | fail) only [e1, Tryd.f36, go_sem, ↓reduceIte, Nat.reduceEqDiff, Nat.reduceAdd, Nat.reduceMul, Nat.reduceLT, Nat.reduceLeDiff, reduceCtorEq, Int.reduceNe, Int.reduceEq, Int.reduceLT, Int.reduceLE, Int.reduceAdd, Int.reduceSub, Int.reduceMul, Int.reduceNeg, Int.reduceToNat, UInt8.reduceToNat, natLit, ty3, ty9]
theorem run_sIndex (s : ByteArray) (fl : Nat) (H : LH) : run 37 [.str s, .str ⟨#[10]⟩] fl H = some (.int .i64 (idxB s 10), H) := by
  have e1 := fun fl H => run_index1 s 10 fl H
  unfold run at *
  rw [Run_z Tryd.func37 rfl (by rfl : ok 37 = true) (by rfl : cfg.keep 37 = [0, 1, 4]) (by rfl : cfg.mode 37 = .pure)]
  simp (config := {contextual := true, maxSteps := 10000000, implicitDefEqProofs := false}) (disch := first | (and_intros <;> omega -splitDisjunctions) | (simp only [List.length_set, List.length_append, List.length_cons, List.length_nil]; and_intros <;> omega -splitDisjunctions) | fail) only [e1, Tryd.f37, go_sem, ↓reduceIte, Nat.reduceEqDiff, Nat.reduceAdd, Nat.reduceMul, Nat.reduceLT, Nat.reduceLeDiff, reduceCtorEq, Int.reduceNe, Int.reduceEq, Int.reduceLT, Int.reduceLE, Int.reduceAdd, Int.reduceSub, Int.reduceMul, Int.reduceNeg, Int.reduceToNat, UInt8.reduceToNat, natLit]
theorem lnF_fuel (s : ByteArray) : ∀ (d d' p : Nat), s.size - p ≤ d → s.size - p ≤ d' → p ≤ s.size → lnF s d p = lnF s d' p := by
  intro d
  induction d with
  | zero =>
    intro d' p h1 h2 h3
    have e : ¬ endN s p < s.size := by have := endN_lo h3; omega
    cases d' with
    | zero => rfl
    | succ d' => simp only [lnF, if_neg e]
  | succ d ih =>
    intro d' p h1 h2 h3
    have l1 := endN_lo h3
    cases d' with
    | zero =>
      have e : ¬ endN s p < s.size := by omega
      simp only [lnF, if_neg e]
    | succ d' =>
      simp only [lnF]
      by_cases e : endN s p < s.size
      · rw [if_pos e, if_pos e, ih d' (endN s p + 1) (by omega) (by omega) (by omega)]
      · rw [if_neg e, if_neg e]
theorem run_genSplit (s : ByteArray) (fl : Nat) (H : LH) (hs : s.size ≤ 16777216) :
    run 29 [.str s, .str ⟨#[10]⟩, .int .i64 0, .int .i64 (-1)] fl H = some (.sl H.length 0 1 (cnL 10 (bs s) + 1) (cnL 10 (bs s) + 1), H ++ [.cells (rows stC (lnF s s.size 0))]) := by
  have e1 := fun s fl H => run_sIndex s fl H
  have e2 := fun fl H => run_sCount s fl H
  have c1 := cntB_eq s 10
  have c2 := cn_le (bs s)
  rw [bs_len] at c2
  generalize hC : cnL 10 (bs s) = C at *
  rw [c1] at e2
  unfold run at *
  rw [Run_z Tryd.func29 rfl (by rfl : ok 29 = true) (by rfl : cfg.keep 29 = [0, 1, 2, 3, 8, 9, 10, 11, 13, 15, 20, 36, 41]) (by rfl : cfg.mode 29 = .fresh)]
  have hmin : ¬ ((s.size : Int) + 1 < (C : Int) + 1) := by omega
  have hlit : ((⟨#[10]⟩ : ByteArray) = ⟨#[]⟩) = False := eq_false (by decide)
  have htn : ((C : Int) + 1).toNat = C + 1 := by omega
  simp (config := {contextual := true, maxSteps := 10000000, implicitDefEqProofs := false}) (disch := first | (and_intros <;> omega -splitDisjunctions) | (simp only [List.length_set, List.length_append, List.length_cons, List.length_nil]; and_intros <;> omega -splitDisjunctions) | fail) only [e1, e2, minV, hmin, hlit, htn, Tryd.f29, go_sem, ↓reduceIte, Nat.reduceEqDiff, Nat.reduceAdd, Nat.reduceMul, Nat.reduceLT, Nat.reduceLeDiff, reduceCtorEq, Int.reduceNe, Int.reduceEq, Int.reduceLT, Int.reduceLE, Int.reduceAdd, Int.reduceSub, Int.reduceMul, Int.reduceNeg, Int.reduceToNat, UInt8.reduceToNat, natLit, ty3, ty9, ty39]
  refine at_loopE fun c0 R hc0 hR => ?_
  have key : ∀ (d : Nat) (x11 x13 x15 x20 x36 x41 : Option V) (p i : Nat) (j w : Int) (t : ByteArray) (done : List ByteArray), w = C → s.size - p ≤ d → p ≤ s.size → i = done.length → i + cnL 10 ((bs s).drop p) = C → t = s.extract p s.size → j = i →
      zEv (leaveX (mkR Tryd.prog cfg ok [0, 1, 2, 3, 8, 9, 10, 11, 13, 15, 20, 36, 41] H.length) .fresh H [ResultVar.tmp 8]) (mkR Tryd.prog cfg ok [0, 1, 2, 3, 8, 9, 10, 11, 13, 15, 20, 36, 41] H.length) (K.code (Code.loop c0) :: K.blk 0 :: R) .nrm [some (.str t), some (.str ⟨#[10]⟩), some (.int .i64 0), some (.int .i64 w), some .nilsl, some (.sl H.length 0 1 (C + 1) (C + 1)), some (.int .i64 j), x11, x13, x15, x20, x36, x41] (H ++ [.cells (rows stC (done ++ List.replicate (C + 1 - i) ⟨#[]⟩))]) =
        some (.sl H.length 0 1 (C + 1) (C + 1), H ++ [.cells (rows stC (done ++ lnF s d p))]) := by
    intro d
    induction d with
    | zero =>
      intro x11 x13 x15 x20 x36 x41 p i j w t done hw hd hp hi hc ht hj
      subst hj; subst hw
      have l1 := endN_lo hp
      have l2 := endN_hi hp
      have hx := idx_suf hp
      rw [← ht] at hx
      have hsz : t.size = s.size - p := by rw [ht, exts_size (Nat.le_refl _)]
      have hcs := cn_step hp
      have hlen : (done ++ List.replicate (C + 1 - i) (⟨#[]⟩ : ByteArray)).length = C + 1 := by rw [List.length_append, List.length_replicate]; omega
      have g1 := rows_len stC_len (done ++ List.replicate (C + 1 - i) (⟨#[]⟩ : ByteArray))
      rw [hlen, Nat.mul_one] at g1
      have hrep : List.replicate (C + 1 - i) (⟨#[]⟩ : ByteArray) = ⟨#[]⟩ :: List.replicate (C + 1 - (i + 1)) ⟨#[]⟩ := by rw [show C + 1 - i = (C + 1 - (i + 1)) + 1 by omega, List.replicate_succ]
      have hset : ∀ u : ByteArray, (rows stC (done ++ List.replicate (C + 1 - i) ⟨#[]⟩)).set i (.str u) = rows stC (done ++ u :: List.replicate (C + 1 - (i + 1)) ⟨#[]⟩) := by
        intro u
        have e := rows_putD (enc := stC) (j := 0) (xs := done ++ List.replicate (C + 1 - i) ⟨#[]⟩) (ws := [.str u]) stC_len ⟨#[]⟩ i (by omega) (by simp) u rfl
        rw [Nat.mul_one, Nat.add_zero] at e
        refine Eq.trans e ?_
        rw [hrep, List.set_append_right _ _ (by omega), show i - done.length = 0 by omega, List.set_cons_zero]
      obtain ⟨z, hz⟩ : ∃ z, s.size = p + z := ⟨s.size - p, by omega⟩
      rw [show s.size - p = z by omega] at hsz
      have hlt : ¬ endN s p < s.size := by omega
      rw [if_neg hlt] at hx hcs
      rw [zEv_round hc0, ← hR]
      simp (config := {contextual := true, maxSteps := 10000000, implicitDefEqProofs := false}) (disch := first | (and_intros <;> omega -splitDisjunctions) | (simp only [List.length_set, List.length_append, List.length_cons, List.length_nil]; and_intros <;> omega -splitDisjunctions) | fail) only [e1, hx, hsz, g1, hset, Nat.sub_zero, Tryd.f29, go_sem, ↓reduceIte, Nat.reduceEqDiff, Nat.reduceAdd, Nat.reduceMul, Nat.reduceLT, Nat.reduceLeDiff, reduceCtorEq, Int.reduceNe, Int.reduceEq, Int.reduceLT, Int.reduceLE, Int.reduceAdd, Int.reduceSub, Int.reduceMul, Int.reduceNeg, Int.reduceToNat, UInt8.reduceToNat, natLit, ty3, ty9, ty39]
      have hfin : (H ++ [Blk.cells (rows stC (done ++ t :: List.replicate (C + 1 - (i + 1)) ⟨#[]⟩))]) = H ++ [Blk.cells (rows stC (done ++ lnF s 0 p))] := by
        simp only [lnF]
        rw [show C + 1 - (i + 1) = 0 by omega, List.replicate_zero, ht, show endN s p = s.size by omega]
      rw [hfin, show ((i : Int) + 1).toNat = C + 1 by omega]
      exact ite_E (fun _ => rfl) (fun _ => rfl)
    | succ d ih =>
      intro x11 x13 x15 x20 x36 x41 p i j w t done hw hd hp hi hc ht hj
      subst hj; subst hw
      have l1 := endN_lo hp
      have l2 := endN_hi hp
      have hx := idx_suf hp
      rw [← ht] at hx
      have hsz : t.size = s.size - p := by rw [ht, exts_size (Nat.le_refl _)]
      have hcs := cn_step hp
      have hlen : (done ++ List.replicate (C + 1 - i) (⟨#[]⟩ : ByteArray)).length = C + 1 := by rw [List.length_append, List.length_replicate]; omega
      have g1 := rows_len stC_len (done ++ List.replicate (C + 1 - i) (⟨#[]⟩ : ByteArray))
      rw [hlen, Nat.mul_one] at g1
      have hrep : List.replicate (C + 1 - i) (⟨#[]⟩ : ByteArray) = ⟨#[]⟩ :: List.replicate (C + 1 - (i + 1)) ⟨#[]⟩ := by rw [show C + 1 - i = (C + 1 - (i + 1)) + 1 by omega, List.replicate_succ]
      have hset : ∀ u : ByteArray, (rows stC (done ++ List.replicate (C + 1 - i) ⟨#[]⟩)).set i (.str u) = rows stC (done ++ u :: List.replicate (C + 1 - (i + 1)) ⟨#[]⟩) := by
        intro u
        have e := rows_putD (enc := stC) (j := 0) (xs := done ++ List.replicate (C + 1 - i) ⟨#[]⟩) (ws := [.str u]) stC_len ⟨#[]⟩ i (by omega) (by simp) u rfl
        rw [Nat.mul_one, Nat.add_zero] at e
        refine Eq.trans e ?_
        rw [hrep, List.set_append_right _ _ (by omega), show i - done.length = 0 by omega, List.set_cons_zero]
      obtain ⟨z, hz⟩ : ∃ z, s.size = p + z := ⟨s.size - p, by omega⟩
      rw [show s.size - p = z by omega] at hsz
      by_cases hlt : endN s p < s.size
      · rw [if_pos hlt] at hx hcs
        obtain ⟨m, hm⟩ : ∃ m, endN s p = p + m := ⟨endN s p - p, by omega⟩
        rw [show endN s p - p = m by omega] at hx
        rw [zEv_round hc0, ← hR]
        simp (config := {contextual := true, maxSteps := 10000000, implicitDefEqProofs := false}) (disch := first | (and_intros <;> omega -splitDisjunctions) | (simp only [List.length_set, List.length_append, List.length_cons, List.length_nil]; and_intros <;> omega -splitDisjunctions) | fail) only [e1, hx, hsz, g1, hset, Int.add_zero, Tryd.f29, go_sem, ↓reduceIte, Nat.reduceEqDiff, Nat.reduceAdd, Nat.reduceMul, Nat.reduceLT, Nat.reduceLeDiff, reduceCtorEq, Int.reduceNe, Int.reduceEq, Int.reduceLT, Int.reduceLE, Int.reduceAdd, Int.reduceSub, Int.reduceMul, Int.reduceNeg, Int.reduceToNat, UInt8.reduceToNat, natLit, ty3, ty9, ty39]
        rw [hR]
        refine ite_E (fun hlt2 => ?_) (fun h => by omega)
        refine ite_E (fun h => by omega) (fun _ => ?_)
        simp only [lnF, if_pos hlt]
        have a1 : t.extract 0 m = s.extract p (endN s p) := by
          have := ext_ext (s := s) (p := p) (q := 0) (e := m) (by omega)
          rw [ht, this, hm, Nat.add_zero]
        have a2 : t.extract ((m : Int) + 1).toNat z = s.extract (endN s p + 1) s.size := by
          have := ext_ext (s := s) (p := p) (q := m + 1) (e := z) (by omega)
          rw [show ((m : Int) + 1).toNat = m + 1 by omega, ht, this, hm, hz]
          rfl
        have := fun x11 x13 x15 x20 x36 x41 => ih x11 x13 x15 x20 x36 x41 (endN s p + 1) (i + 1) ((i : Int) + 1) C (s.extract (endN s p + 1) s.size) (done ++ [s.extract p (endN s p)]) rfl (by omega) (by omega) (by simp; omega) (by omega) rfl (by omega)
        simp only [List.append_assoc, List.cons_append, List.nil_append] at this
        rw [a1, a2]
        exact this _ _ _ _ _ _
      · rw [if_neg hlt] at hx hcs
        rw [zEv_round hc0, ← hR]
        simp (config := {contextual := true, maxSteps := 10000000, implicitDefEqProofs := false}) (disch := first | (and_intros <;> omega -splitDisjunctions) | (simp only [List.length_set, List.length_append, List.length_cons, List.length_nil]; and_intros <;> omega -splitDisjunctions) | fail) only [e1, hx, hsz, g1, hset, Nat.sub_zero, Tryd.f29, go_sem, ↓reduceIte, Nat.reduceEqDiff, Nat.reduceAdd, Nat.reduceMul, Nat.reduceLT, Nat.reduceLeDiff, reduceCtorEq, Int.reduceNe, Int.reduceEq, Int.reduceLT, Int.reduceLE, Int.reduceAdd, Int.reduceSub, Int.reduceMul, Int.reduceNeg, Int.reduceToNat, UInt8.reduceToNat, natLit, ty3, ty9, ty39]
        have hfin : (H ++ [Blk.cells (rows stC (done ++ t :: List.replicate (C + 1 - (i + 1)) ⟨#[]⟩))]) = H ++ [Blk.cells (rows stC (done ++ lnF s (d + 1) p))] := by
          simp only [lnF, if_neg hlt]
          rw [show C + 1 - (i + 1) = 0 by omega, List.replicate_zero, ht, show endN s p = s.size by omega]
        rw [hfin, show ((i : Int) + 1).toNat = C + 1 by omega]
        exact ite_E (fun _ => rfl) (fun _ => rfl)
  have := fun x11 x13 x15 x20 x36 x41 => key s.size x11 x13 x15 x20 x36 x41 0 0 0 (C + 1 - 1) s [] (by omega) (by omega) (by omega) rfl (by rw [List.drop_zero]; omega) (by rw [ByteArray.extract_zero_size]) rfl
  rw [List.nil_append, List.nil_append, rows_replicate] at this
  exact this _ _ _ _ _ _
end Go.Proofs.YtbjpecknlohicaaDoor.Lg
