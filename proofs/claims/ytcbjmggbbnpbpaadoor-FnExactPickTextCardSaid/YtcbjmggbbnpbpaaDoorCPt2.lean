/- Bare and quoted texts of keys, in the reference. No condition. -/
import Derived.Test.YtcbjmggbbnpbpaaDoorCPt1
namespace Go.Proofs.YtcbjmggbbnpbpaaDoor.Lg
set_option linter.unusedSimpArgs false
set_option linter.unusedVariables false
set_option maxRecDepth 100000
set_option maxHeartbeats 40000000
open Go.Proofs.YtcbjmggbbnpbpaaDoor
set_option linter.unusedSectionVars false
variable [ML]

def letB (b : Int) : Prop := (97 ≤ b ∧ b ≤ 122) ∨ (65 ≤ b ∧ b ≤ 90) ∨ b = 95 ∨ b = 45
instance (b : Int) : Decidable (letB b) := by unfold letB; infer_instance
def l17G (s : ByteArray) : Nat → Nat → Bool
  | 0, _ => false
  | d + 1, p => if p < s.size then (if letB (bA s p) ∨ ((48 ≤ bA s p ∧ bA s p ≤ 57) ∧ p ≠ 0) then l17G s d (p + 1) else false) else decide (s ≠ ⟨#[]⟩)
theorem l17G_s {s : ByteArray} {d p : Nat} : l17G s (d + 1) p = if p < s.size then (if letB (bA s p) ∨ ((48 ≤ bA s p ∧ bA s p ≤ 57) ∧ p ≠ 0) then l17G s d (p + 1) else false) else decide (s ≠ ⟨#[]⟩) := rfl
theorem let_word (b : Int) : (wordB b ∨ b = 95) ↔ (letB b ∨ (48 ≤ b ∧ b ≤ 57)) := by unfold wordB letB; omega
theorem l17G_bare (s : ByteArray) (hne : s ≠ ⟨#[]⟩) : ∀ (d p : Nat), s.size - p < d → 0 < p → l17G s d p = bareG s (s.size - p) p
  | 0, p, h, _ => by omega
  | d + 1, p, h, hp => by
    rw [l17G_s]
    by_cases hlt : p < s.size
    · rw [if_pos hlt, show s.size - p = (s.size - (p + 1)) + 1 by omega, bareG_s, if_pos hlt]
      have := let_word (bA s p)
      by_cases hw : wordB (bA s p) ∨ bA s p = 95
      · rw [if_pos hw, if_pos ((this.1 hw).imp id (fun h => ⟨h, by omega⟩)), l17G_bare s hne d (p + 1) (by omega) (by omega)]
      · rw [if_neg hw, if_neg (fun h => hw (this.2 (h.imp id (fun h => h.1))))]
    · rw [if_neg hlt, show s.size - p = 0 by omega, decide_eq_true hne]; rfl
theorem l17_bare (s : ByteArray) : l17G s (s.size + 1) 0 = bareB s := by
  unfold bareB
  by_cases h0 : s.size = 0
  · have := (sz0q s).1 h0
    subst this
    rfl
  have hne : s ≠ ⟨#[]⟩ := fun e => h0 (by rw [e]; rfl)
  rw [l17G_s, if_pos (by omega)]
  have hw := let_word (bA s 0)
  by_cases h1 : 48 ≤ bA s 0 ∧ bA s 0 ≤ 57
  · rw [decide_eq_false (fun h => h.2 h1), Bool.false_and, if_neg]
    rintro (h | h)
    · unfold letB at h
      have h : (97 ≤ bA s 0 ∧ bA s 0 ≤ 122) ∨ (65 ≤ bA s 0 ∧ bA s 0 ≤ 90) ∨ bA s 0 = 95 ∨ bA s 0 = 45 := h
      omega
    · exact h.2 rfl
  rw [decide_eq_true ⟨h0, h1⟩, Bool.true_and]
  have hs : bareG s s.size 0 = (if wordB (bA s 0) ∨ bA s 0 = 95 then bareG s (s.size - 1) 1 else false) := by
    obtain ⟨n, hn⟩ : ∃ n, s.size = n + 1 := ⟨s.size - 1, by omega⟩
    rw [hn, bareG_s, if_pos (by omega)]; rfl
  rw [hs]
  by_cases h2 : letB (bA s 0)
  · rw [if_pos (.inl h2), if_pos (hw.2 (.inl h2)), l17G_bare s hne s.size 1 (by omega) (by omega)]
  · rw [if_neg (fun h => h.elim h2 (fun h => h.2 rfl)), if_neg (fun h => (hw.1 h).elim h2 h1)]
theorem run_l17Word (s : ByteArray) (fl : Nat) (H : LH) (hs : s.size ≤ 1099511627776) : run 80 [.str s] fl H = some (.bool (bareB s), H) := by
  rw [← l17_bare]
  generalize hres : l17G s (s.size + 1) 0 = res
  unfold run
  rw [Run_z Tryd.func80 rfl (by rfl : ok 80 = true) (by rfl : cfg.keep 80 = [0, 2, 3, 4, 5, 9, 50]) (by rfl : cfg.mode 80 = .pure) (by rfl : cfg.ord 80 = [])]
  simp (config := {contextual := true, maxSteps := 10000000, implicitDefEqProofs := false}) (disch := first | (and_intros <;> omega -splitDisjunctions) | (simp only [List.length_set, List.length_append, List.length_cons, List.length_nil]; and_intros <;> omega -splitDisjunctions) | fail) only [Tryd.f80, go_sem, ↓reduceIte, Nat.reduceEqDiff, Nat.reduceAdd, Nat.reduceMul, Nat.reduceLT, Nat.reduceLeDiff, reduceCtorEq, Int.reduceNe, Int.reduceEq, Int.reduceLT, Int.reduceLE, Int.reduceAdd, Int.reduceSub, Int.reduceMul, Int.reduceNeg, Int.reduceToNat, UInt8.reduceToNat, natLit, ty3, ty4, ty5, ty9]
  refine at_loopE fun c R hc hR => ?_
  have key : ∀ (m : Nat) (i : Nat) (j : Int) (x2 x4 x5 x9 x50 : Option V), s.size - i < m → j = i → i ≤ s.size → (∃ d, s.size - i < d ∧ l17G s d i = res) →
      zEv (leaveX (mkR Tryd.prog cfg ok [0, 2, 3, 4, 5, 9, 50] H.length) .pure H [ResultVar.tmp 2]) (mkR Tryd.prog cfg ok [0, 2, 3, 4, 5, 9, 50] H.length) (K.code (Code.loop c) :: K.blk 0 :: R) .nrm [some (.str s), x2, some (.int .i64 j), x4, x5, x9, x50] (H) = some (.bool res, H) := by
    intro m
    induction m with
    | zero => intro i j x2 x4 x5 x9 x50 hm; omega
    | succ m ih =>
      intro i j x2 x4 x5 x9 x50 hm hj hi hf
      subst hj
      obtain ⟨d, hd, hf⟩ := hf
      obtain ⟨d, rfl⟩ : ∃ d', d = d' + 1 := ⟨d - 1, by omega⟩
      rw [l17G_s] at hf
      by_cases hlt : i < s.size
      · rw [if_pos hlt] at hf
        have t3 : ((i : Int) < s.size) = True := eq_true (by omega)
        have hb0 := bA_in (s := s) (p := i) (by omega) (by omega)
        by_cases hl : letB (bA s i)
        · rw [if_pos (.inl hl)] at hf
          unfold letB at hl
          have ih2 := ih (i + 1) ((i : Int) + 1)
          rw [zEv_round hc]
          rcases hl with ⟨a, b⟩ | ⟨a, b⟩ | a | a
          · simp (config := {contextual := true, maxSteps := 10000000, implicitDefEqProofs := false}) (disch := first | (and_intros <;> omega -splitDisjunctions) | (simp only [List.length_set, List.length_append, List.length_cons, List.length_nil]; and_intros <;> omega -splitDisjunctions) | fail) only [t3, show (97 ≤ bA s (i : Int)) = True from eq_true a, show (bA s (i : Int) ≤ 122) = True from eq_true b, Tryd.f80, go_sem, ↓reduceIte, Nat.reduceEqDiff, Nat.reduceAdd, Nat.reduceMul, Nat.reduceLT, Nat.reduceLeDiff, reduceCtorEq, Int.reduceNe, Int.reduceEq, Int.reduceLT, Int.reduceLE, Int.reduceAdd, Int.reduceSub, Int.reduceMul, Int.reduceNeg, Int.reduceToNat, UInt8.reduceToNat, natLit, ty3, ty4, ty5, ty9]
            exact ih2 _ _ _ _ _ (by omega) (by omega) (by omega) ⟨d, by omega, hf⟩
          · simp (config := {contextual := true, maxSteps := 10000000, implicitDefEqProofs := false}) (disch := first | (and_intros <;> omega -splitDisjunctions) | (simp only [List.length_set, List.length_append, List.length_cons, List.length_nil]; and_intros <;> omega -splitDisjunctions) | fail) only [t3, show (97 ≤ bA s (i : Int)) = False from eq_false (by omega), show (65 ≤ bA s (i : Int)) = True from eq_true a, show (bA s (i : Int) ≤ 90) = True from eq_true b, Tryd.f80, go_sem, ↓reduceIte, Nat.reduceEqDiff, Nat.reduceAdd, Nat.reduceMul, Nat.reduceLT, Nat.reduceLeDiff, reduceCtorEq, Int.reduceNe, Int.reduceEq, Int.reduceLT, Int.reduceLE, Int.reduceAdd, Int.reduceSub, Int.reduceMul, Int.reduceNeg, Int.reduceToNat, UInt8.reduceToNat, natLit, ty3, ty4, ty5, ty9]
            exact ih2 _ _ _ _ _ (by omega) (by omega) (by omega) ⟨d, by omega, hf⟩
          · simp (config := {contextual := true, maxSteps := 10000000, implicitDefEqProofs := false}) (disch := first | (and_intros <;> omega -splitDisjunctions) | (simp only [List.length_set, List.length_append, List.length_cons, List.length_nil]; and_intros <;> omega -splitDisjunctions) | fail) only [t3, a, Tryd.f80, go_sem, ↓reduceIte, Nat.reduceEqDiff, Nat.reduceAdd, Nat.reduceMul, Nat.reduceLT, Nat.reduceLeDiff, reduceCtorEq, Int.reduceNe, Int.reduceEq, Int.reduceLT, Int.reduceLE, Int.reduceAdd, Int.reduceSub, Int.reduceMul, Int.reduceNeg, Int.reduceToNat, UInt8.reduceToNat, natLit, ty3, ty4, ty5, ty9]
            exact ih2 _ _ _ _ _ (by omega) (by omega) (by omega) ⟨d, by omega, hf⟩
          · simp (config := {contextual := true, maxSteps := 10000000, implicitDefEqProofs := false}) (disch := first | (and_intros <;> omega -splitDisjunctions) | (simp only [List.length_set, List.length_append, List.length_cons, List.length_nil]; and_intros <;> omega -splitDisjunctions) | fail) only [t3, a, Tryd.f80, go_sem, ↓reduceIte, Nat.reduceEqDiff, Nat.reduceAdd, Nat.reduceMul, Nat.reduceLT, Nat.reduceLeDiff, reduceCtorEq, Int.reduceNe, Int.reduceEq, Int.reduceLT, Int.reduceLE, Int.reduceAdd, Int.reduceSub, Int.reduceMul, Int.reduceNeg, Int.reduceToNat, UInt8.reduceToNat, natLit, ty3, ty4, ty5, ty9]
            exact ih2 _ _ _ _ _ (by omega) (by omega) (by omega) ⟨d, by omega, hf⟩
        · have n1 : (decide ((97 ≤ bA s (i : Int) ∧ bA s (i : Int) ≤ 122) ∨ (65 ≤ bA s (i : Int) ∧ bA s (i : Int) ≤ 90) ∨ bA s (i : Int) = 95 ∨ bA s (i : Int) = 45)) = false := decide_eq_false hl
          rw [zEv_round hc, ← hR]
          simp (config := {contextual := true, maxSteps := 10000000, implicitDefEqProofs := false}) (disch := first | (and_intros <;> omega -splitDisjunctions) | (simp only [List.length_set, List.length_append, List.length_cons, List.length_nil]; and_intros <;> omega -splitDisjunctions) | fail) only [t3, Tryd.f80, go_sem, ↓reduceIte, Nat.reduceEqDiff, Nat.reduceAdd, Nat.reduceMul, Nat.reduceLT, Nat.reduceLeDiff, reduceCtorEq, Int.reduceNe, Int.reduceEq, Int.reduceLT, Int.reduceLE, Int.reduceAdd, Int.reduceSub, Int.reduceMul, Int.reduceNeg, Int.reduceToNat, UInt8.reduceToNat, natLit, ty3, ty4, ty5, ty9]
          rw [hR]
          unfold letB at hl
          by_cases hdg : (48 ≤ bA s i ∧ bA s i ≤ 57) ∧ i ≠ 0
          · rw [if_pos (.inr hdg)] at hf
            rw [if_neg (by omega)]
            exact ih (i + 1) _ _ _ _ _ _ (by omega) (by omega) (by omega) ⟨d, by omega, hf⟩
          · rw [if_neg (fun h => h.elim hl hdg)] at hf
            rw [if_pos (by omega), hf]
      · rw [if_neg hlt] at hf
        have t3 : ((i : Int) < s.size) = False := eq_false (by omega)
        rw [zEv_round hc, ← hR]
        simp (config := {contextual := true, maxSteps := 10000000, implicitDefEqProofs := false}) (disch := first | (and_intros <;> omega -splitDisjunctions) | (simp only [List.length_set, List.length_append, List.length_cons, List.length_nil]; and_intros <;> omega -splitDisjunctions) | fail) only [t3, Tryd.f80, go_sem, ↓reduceIte, Nat.reduceEqDiff, Nat.reduceAdd, Nat.reduceMul, Nat.reduceLT, Nat.reduceLeDiff, reduceCtorEq, Int.reduceNe, Int.reduceEq, Int.reduceLT, Int.reduceLE, Int.reduceAdd, Int.reduceSub, Int.reduceMul, Int.reduceNeg, Int.reduceToNat, UInt8.reduceToNat, natLit, ty3, ty4, ty5, ty9]
        rw [← hf]
  exact key (s.size + 1) 0 0 _ _ _ _ _ (by omega) rfl (Nat.zero_le _) ⟨s.size + 1, by omega, hres⟩
theorem flat_take {X : List UInt8} {i : Nat} (h : i < X.length) : (X.take (i + 1)).flatMap dbq = (X.take i).flatMap dbq ++ dbq (X.getD i 0) := by
  rw [List.take_add_one, List.getElem?_eq_getElem h, List.flatMap_append, getD_of h]
  simp
/-- one byte more -/
theorem app_by {G B : LH} {v : V} {xs : List UInt8} (hx : Hx G B) (ho : Own G.length B byC 1 v xs) (hn : xs.length + 1 ≤ 1099511627776) (L : LH) (x : UInt8) :
    ∃ b W cs, appendV G.length 1 1 (B ++ L) 1 [V.int .u8 (x.toNat : Nat)] v = some (.sl b 0 1 (xs.length + 1) (xs.length + 1), W) ∧ Own G.length W byC 1 (.sl b 0 1 (xs.length + 1) (xs.length + 1)) (xs ++ [x]) ∧ Hx G W
      ∧ W.cellsAt b = some cs ∧ cs.length = xs.length + 1 ∧ cs.take (xs.length + 1) = cs ∧ toBytes cs = some (xs ++ [x]) := by
  have ap := app_own1 (fl := G.length) (ho.ext (Hx.app (L := L))) byC_len (Nat.le_refl _) 1 (by unfold mostCells; omega) x
  have an := app_new (enc := byC) (z := 1) (v := v) (H := B ++ L) (f0 := G.length) (by have := hx.len; rw [List.length_append]; omega) (xs ++ [x])
  have e : (xs ++ [x]).length = xs.length + 1 := by rw [List.length_append]; rfl
  rw [e] at an
  have hl : (rows byC (xs ++ [x])).length = xs.length + 1 := by rw [rows_len byC_len, e, Nat.mul_one]
  refine ⟨_, _, rows byC (xs ++ [x]), ap, an, app_hx (hx.trans Hx.app) (ho.ext Hx.app) (Nat.le_refl _), ?_, hl, List.take_of_length_le (by omega), toBytes_rows _⟩
  have := cellsAt_app0 (killV (B ++ L) v) [.cells (rows byC (xs ++ [x]))]
  rw [killV_len] at this
  exact this
theorem run_l17Quote (s : ByteArray) (fl : Nat) (H : LH) (hs : s.size ≤ 16777216) : run 81 [.str s] fl H = some (.str (qtT s), H) := by
  unfold run
  rw [Run_z Tryd.func81 rfl (by rfl : ok 81 = true) (by rfl : cfg.keep 81 = [0, 2, 3, 4, 9, 15]) (by rfl : cfg.mode 81 = .pure) (by rfl : cfg.ord 81 = [])]
  simp (config := {contextual := true, maxSteps := 10000000, implicitDefEqProofs := false}) (disch := first | (and_intros <;> omega -splitDisjunctions) | (simp only [List.length_set, List.length_append, List.length_cons, List.length_nil]; and_intros <;> omega -splitDisjunctions) | fail) only [Tryd.f81, go_sem, ↓reduceIte, Nat.reduceEqDiff, Nat.reduceAdd, Nat.reduceMul, Nat.reduceLT, Nat.reduceLeDiff, reduceCtorEq, Int.reduceNe, Int.reduceEq, Int.reduceLT, Int.reduceLE, Int.reduceAdd, Int.reduceSub, Int.reduceMul, Int.reduceNeg, Int.reduceToNat, UInt8.reduceToNat, natLit, ty3, ty5, ty9, ty46]
  refine at_loopE fun c R hc hR => ?_
  have key : ∀ (m : Nat) (i : Nat) (j : Int) (v : V) (B : LH) (xs : List UInt8) (x2 x9 x15 : Option V), s.size - i < m → j = i → i ≤ s.size → xs = [39] ++ ((bs s).take i).flatMap dbq → Hx H B → Own H.length B byC 1 v xs →
      zEv (leaveX (mkR Tryd.prog cfg ok [0, 2, 3, 4, 9, 15] H.length) .pure H [ResultVar.tmp 2]) (mkR Tryd.prog cfg ok [0, 2, 3, 4, 9, 15] H.length) (K.code (Code.loop c) :: K.blk 0 :: R) .nrm [some (.str s), x2, some v, some (.int .i64 j), x9, x15] (B) = some (.str (qtT s), H) := by
    intro m
    induction m with
    | zero => intro i j v B xs x2 x9 x15 hm; omega
    | succ m ih =>
      intro i j v B xs x2 x9 x15 hm hj hi hxs hx ho
      subst hj
      have hxl := hx.len
      have o1 := (ho.at byC_len).isTup; have o2 := (ho.at byC_len).one
      have hln : xs.length ≤ 2 * s.size + 1 := by
        have := dbq_len ((bs s).take i)
        rw [List.length_take, bs_len] at this
        rw [hxs]
        simp only [List.length_append, List.length_cons, List.length_nil]; omega
      obtain ⟨b1, W1, cs, a1, p1, q1, c1, c2, c3, c4⟩ := app_by hx ho (by omega) [Blk.cells [V.int .u8 39]] 39
      have e39 : V.int .u8 (((39 : UInt8).toNat : Nat) : Int) = V.int .u8 39 := rfl
      rw [e39] at a1
      by_cases hlt : i < s.size
      rotate_left
      · have t3 : ((i : Int) < s.size) = False := eq_false (by omega)
        rw [List.take_of_length_le (by rw [bs_len]; omega)] at hxs
        rw [zEv_round hc, ← hR]
        simp (config := {contextual := true, maxSteps := 10000000, implicitDefEqProofs := false}) (disch := first | (and_intros <;> omega -splitDisjunctions) | (simp only [List.length_set, List.length_append, List.length_cons, List.length_nil]; and_intros <;> omega -splitDisjunctions) | fail) only [t3, o1, o2, a1, c1, c2, c3, c4, Tryd.f81, go_sem, ↓reduceIte, Nat.reduceEqDiff, Nat.reduceAdd, Nat.reduceMul, Nat.reduceLT, Nat.reduceLeDiff, reduceCtorEq, Int.reduceNe, Int.reduceEq, Int.reduceLT, Int.reduceLE, Int.reduceAdd, Int.reduceSub, Int.reduceMul, Int.reduceNeg, Int.reduceToNat, UInt8.reduceToNat, natLit, ty3, ty5, ty9, ty46]
        rw [hxs]
        unfold qtT
        rw [List.append_assoc]
      have t3 : ((i : Int) < s.size) = True := eq_true (by omega)
      have hb : bA s (i : Int) = ((((bs s).getD i 0).toNat : Nat) : Int) := by rw [bA_nat hlt, getD_of (by exact hlt)]
      have htk := flat_take (X := bs s) (i := i) hlt
      generalize hy : (bs s).getD i 0 = y at *
      by_cases h39 : y = 39
      · subst h39
        have hb : bA s (i : Int) = 39 := hb
        obtain ⟨b2, W2, cs2, a2, p2, q2, d1, d2, d3, d4⟩ := app_by q1 p1 (by rw [List.length_append]; simp only [List.length_cons, List.length_nil]; omega) [Blk.cells [V.int .u8 39]] 39
        rw [e39] at a2
        rw [show (xs ++ [(39 : UInt8)]).length = xs.length + 1 by rw [List.length_append]; rfl] at a2 p2
        rw [zEv_round hc, ← hR]
        simp (config := {contextual := true, maxSteps := 10000000, implicitDefEqProofs := false}) (disch := first | (and_intros <;> omega -splitDisjunctions) | (simp only [List.length_set, List.length_append, List.length_cons, List.length_nil]; and_intros <;> omega -splitDisjunctions) | fail) only [t3, hb, o1, o2, a1, a2, Tryd.f81, go_sem, ↓reduceIte, Nat.reduceEqDiff, Nat.reduceAdd, Nat.reduceMul, Nat.reduceLT, Nat.reduceLeDiff, reduceCtorEq, Int.reduceNe, Int.reduceEq, Int.reduceLT, Int.reduceLE, Int.reduceAdd, Int.reduceSub, Int.reduceMul, Int.reduceNeg, Int.reduceToNat, UInt8.reduceToNat, natLit, ty3, ty5, ty9, ty46]
        rw [hR]
        refine ih (i + 1) ((i : Int) + 1) _ W2 _ _ _ _ (by omega) (by omega) (by omega) ?_ q2 p2
        rw [htk, hxs]
        simp [dbq]
      · have hn0 : ¬ (((y.toNat : Nat) : Int) = 39) := by
          intro e
          have e2 : y.toNat = 39 := by omega
          exact h39 (UInt8.toNat_inj.1 e2)
        have hn : (((y.toNat : Nat) : Int) = 39) = False := eq_false hn0
        obtain ⟨b2, W2, cs2, a2, p2, q2, d1, d2, d3, d4⟩ := app_by hx ho (by omega) [Blk.cells [V.int .u8 (y.toNat : Nat)]] y
        rw [zEv_round hc, ← hR]
        simp (config := {contextual := true, maxSteps := 10000000, implicitDefEqProofs := false}) (disch := first | (and_intros <;> omega -splitDisjunctions) | (simp only [List.length_set, List.length_append, List.length_cons, List.length_nil]; and_intros <;> omega -splitDisjunctions) | fail) only [t3, hb, o1, o2, a2, hn, Tryd.f81, go_sem, ↓reduceIte, Nat.reduceEqDiff, Nat.reduceAdd, Nat.reduceMul, Nat.reduceLT, Nat.reduceLeDiff, reduceCtorEq, Int.reduceNe, Int.reduceEq, Int.reduceLT, Int.reduceLE, Int.reduceAdd, Int.reduceSub, Int.reduceMul, Int.reduceNeg, Int.reduceToNat, UInt8.reduceToNat, natLit, ty3, ty5, ty9, ty46]
        rw [hR]
        refine ih (i + 1) ((i : Int) + 1) _ W2 _ _ _ _ (by omega) (by omega) (by omega) ?_ q2 p2
        rw [htk, hxs]
        simp [dbq, h39]
  have ho0 : Own H.length (H ++ [.cells [.int .u8 39]]) byC 1 (.sl H.length 0 1 1 1) ([39] : List UInt8) := .inr ⟨H.length, rfl, cellsAt_app0 _ _, Nat.le_refl _⟩
  exact key (s.size + 1) 0 0 _ _ [39] _ _ _ (by omega) rfl (Nat.zero_le _) (by simp) Hx.app ho0
end Go.Proofs.YtcbjmggbbnpbpaaDoor.Lg
