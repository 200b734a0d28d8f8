/- FnQuote over the logical machine. No condition. -/
import Derived.Test.YtcbjmggbbnpbpaaDoorCQp2
namespace Go.Proofs.YtcbjmggbbnpbpaaDoor.Lg
set_option linter.unusedSimpArgs false
set_option linter.unusedVariables false
set_option maxRecDepth 100000
set_option maxHeartbeats 40000000
open Go.Proofs.YtcbjmggbbnpbpaaDoor

theorem runesP_size {s : ByteArray} (h : RunesP s) : s.size ≤ 32 := by
  obtain ⟨ks, h1, h2, rfl⟩ := h
  have := catK_size ks
  omega
theorem quoF_size (s : ByteArray) : ∀ (d p : Nat) (l : List UInt8), (quoF s d p l).size ≤ l.length + 10 * d + 1
  | 0, p, l => by show (l ++ [34]).length ≤ _; simp
  | d + 1, p, l => by
    unfold quoF
    by_cases h1 : p < s.size
    · rw [if_pos h1]
      by_cases h2 : (runeA s p).2 = 0
      · rw [if_pos h2]; show 0 ≤ _; omega
      · rw [if_neg h2]
        have := quoF_size s d (p + (runeA s p).2.toNat) (l ++ quoP (runeA s p).1)
        have h3 := quoP_len (runeA s p).1
        rw [List.length_append] at this
        omega
    · rw [if_neg h1]; show (l ++ [34]).length ≤ _; simp
theorem take_flat {X : List UInt8} {i : Nat} (h : i < X.length) : (X.take (i + 1)).flatMap dbl = (X.take i).flatMap dbl ++ dbl (X.getD i 0) := by
  rw [List.take_add_one, List.getElem?_eq_getElem h, List.flatMap_append, getD_of h]
  simp
theorem dbl_len (X : List UInt8) : (X.flatMap dbl).length ≤ 2 * X.length := by
  induction X with
  | nil => simp
  | cons x X ih =>
    rw [List.flatMap_cons, List.length_append, List.length_cons]
    have : (dbl x).length ≤ 2 := by unfold dbl; by_cases h : x = 39 <;> simp [h]
    omega
theorem exts1 {s : ByteArray} {i : Nat} (h : i < s.size) : s.extract i (i + 1) = mkA [(bs s).getD i 0] := by
  have : bs (s.extract i (i + 1)) = [(bs s).getD i 0] := by
    rw [bs_exts, show i + 1 - i = 1 by omega, getD_of (by exact h), List.drop_eq_getElem_cons (by exact h)]
    rfl
  rw [← mk_bs (s.extract i (i + 1)), this]
theorem run_FnQuote (cv : V) (code : List UInt8) (fl : Nat) (H : LH) (h : At H byC 1 cv code) (hl : code.length ≤ 9223372036854775807) : run 8 [cv] fl H = some (.bool true, H) := by
  have p1 := h.isTup; have p2 := h.one; have f2 := h.len; have f3 := h.lenOk ty46
  by_cases hbig : 1048576 < code.length
  · have t1 : ((code.length : Int) > 1048576) = True := eq_true (by omega)
    have t2 : (1048576 < (code.length : Int)) = True := eq_true (by omega)
    unfold run
    rw [Run_z Tryd.func8 rfl (by rfl : ok 8 = true) (by rfl : cfg.keep 8 = [0, 2, 3, 4, 5, 6, 7, 8, 9, 10, 11, 12, 15, 29, 35]) (by rfl : cfg.mode 8 = .pure) (by rfl : cfg.ord 8 = [])]
    simp (config := {contextual := true, maxSteps := 10000000, implicitDefEqProofs := false}) (disch := first | (and_intros <;> omega -splitDisjunctions) | (simp only [List.length_set, List.length_append, List.length_cons, List.length_nil]; and_intros <;> omega -splitDisjunctions) | fail) only [p1, p2, f2, f3, t1, t2, Tryd.f8, go_sem, ↓reduceIte, Nat.reduceEqDiff, Nat.reduceAdd, Nat.reduceMul, Nat.reduceLT, Nat.reduceLeDiff, reduceCtorEq, Int.reduceNe, Int.reduceEq, Int.reduceLT, Int.reduceLE, Int.reduceAdd, Int.reduceSub, Int.reduceMul, Int.reduceNeg, Int.reduceToNat, UInt8.reduceToNat, natLit, ty3, ty5, ty9, ty46]
  have t1 : ((code.length : Int) > 1048576) = False := eq_false (by omega)
  have t2 : (1048576 < (code.length : Int)) = False := eq_false (by omega)
  obtain ⟨s, hs, e1⟩ := run_MakeRunes h (by omega) H.length
  have hsz := runesP_size hs
  have hq : (quoT s).size ≤ 400 := by
    have := quoF_size s s.size 0 [34]
    unfold quoT
    simp only [List.length_cons, List.length_nil] at this
    omega
  have e2 := fun fl H => run_imQuote s fl H (by omega)
  have e3 := fun fl H => run_DoubleAt (quoT s) 0 fl H (by omega)
  have e5 := fun fl H => run_imClean (quoT s) fl H (by omega)
  rw [show spt (quoT s) 0 = 0 from spt_in (p := 0) (Nat.zero_le _), double_quo hs] at e3
  rw [clean_quo hs] at e5
  have hdl := dbl_len (bs s)
  rw [bs_len] at hdl
  have e4 := fun fl H => run_SingleAt (mkA ([39] ++ ((bs s).flatMap dbl ++ [39, 32, 120]))) 0 fl H (by rw [mkA_size]; simp only [List.length_append, List.length_cons, List.length_nil]; omega)
  rw [show spt (mkA ([39] ++ ((bs s).flatMap dbl ++ [39, 32, 120]))) 0 = 0 from spt_in (p := 0) (Nat.zero_le _), single_quo hs] at e4
  unfold t3V at e3 e4
  dsimp only at e3 e4
  unfold run at *
  rw [Run_z Tryd.func8 rfl (by rfl : ok 8 = true) (by rfl : cfg.keep 8 = [0, 2, 3, 4, 5, 6, 7, 8, 9, 10, 11, 12, 15, 29, 35]) (by rfl : cfg.mode 8 = .pure) (by rfl : cfg.ord 8 = [])]
  simp (config := {contextual := true, maxSteps := 10000000, implicitDefEqProofs := false}) (disch := first | (and_intros <;> omega -splitDisjunctions) | (simp only [List.length_set, List.length_append, List.length_cons, List.length_nil]; and_intros <;> omega -splitDisjunctions) | fail) only [p1, p2, f2, f3, t1, t2, e1, e2, e3, Tryd.f8, go_sem, ↓reduceIte, Nat.reduceEqDiff, Nat.reduceAdd, Nat.reduceMul, Nat.reduceLT, Nat.reduceLeDiff, reduceCtorEq, Int.reduceNe, Int.reduceEq, Int.reduceLT, Int.reduceLE, Int.reduceAdd, Int.reduceSub, Int.reduceMul, Int.reduceNeg, Int.reduceToNat, UInt8.reduceToNat, natLit, ty3, ty5, ty9, ty46]
  refine at_loopE fun c R hc hR => ?_
  have key : ∀ (m : Nat) (i : Nat) (j : Int) (x0 x2 x10 x11 x12 x15 x29 x35 : Option V), s.size - i < m → j = i → i ≤ s.size →
      zEv (leaveX (mkR Tryd.prog cfg ok [0, 2, 3, 4, 5, 6, 7, 8, 9, 10, 11, 12, 15, 29, 35] H.length) .pure H [ResultVar.tmp 2]) (mkR Tryd.prog cfg ok [0, 2, 3, 4, 5, 6, 7, 8, 9, 10, 11, 12, 15, 29, 35] H.length) (K.code (Code.loop c) :: K.blk 0 :: R) .nrm [x0, x2, some (.str s), some (.str (quoT s)), some (.str s), some (.int .i64 (quoT s).size), some (.int .i64 0), some (.str (mkA ([39] ++ ((bs s).take i).flatMap dbl))), some (.int .i64 j), x10, x11, x12, x15, x29, x35] (H) = some (.bool true, H) := by
    intro m
    induction m with
    | zero => intro i j x0 x2 x10 x11 x12 x15 x29 x35 hm; omega
    | succ m ih =>
      intro i j x0 x2 x10 x11 x12 x15 x29 x35 hm hj hi
      subst hj
      by_cases hlt : i < s.size
      rotate_left
      · have hii : i = s.size := by omega
        have t3 : ((i : Int) < s.size) = False := eq_false (by omega)
        have hm : mkA ([39] ++ (bs s).flatMap dbl) ++ mkA [39, 32, 120] = mkA ([39] ++ ((bs s).flatMap dbl ++ [39, 32, 120])) := by rw [mkA_app]; simp
        have hsm : (mkA ([39] ++ (bs s).flatMap dbl)).size = ([39] ++ (bs s).flatMap dbl).length := rfl
        rw [List.take_of_length_le (by rw [bs_len]; omega)]
        generalize mkA ([39] ++ (bs s).flatMap dbl) = sg at *
        generalize mkA ([39] ++ ((bs s).flatMap dbl ++ [39, 32, 120])) = sg2 at *
        rw [← hsm] at e4
        have hsl : sg.size ≤ 100 := by rw [hsm]; simp only [List.length_append, List.length_cons, List.length_nil]; omega
        rw [zEv_round hc, ← hR]
        simp (config := {contextual := true, maxSteps := 10000000, implicitDefEqProofs := false}) (disch := first | (and_intros <;> omega -splitDisjunctions) | (simp only [List.length_set, List.length_append, List.length_cons, List.length_nil]; and_intros <;> omega -splitDisjunctions) | fail) only [t3, hm, e4, e5, Tryd.f8, go_sem, ↓reduceIte, Nat.reduceEqDiff, Nat.reduceAdd, Nat.reduceMul, Nat.reduceLT, Nat.reduceLeDiff, reduceCtorEq, Int.reduceNe, Int.reduceEq, Int.reduceLT, Int.reduceLE, Int.reduceAdd, Int.reduceSub, Int.reduceMul, Int.reduceNeg, Int.reduceToNat, UInt8.reduceToNat, natLit, ty3, ty5, ty9, ty46]
      have t3 : ((i : Int) < s.size) = True := eq_true (by omega)
      have hb : bA s (i : Int) = ((((bs s).getD i 0).toNat : Nat) : Int) := by rw [bA_nat hlt, getD_of (by exact hlt)]
      have hx := exts1 hlt
      have htk := take_flat (X := bs s) (i := i) hlt
      have hln : ((List.take i (bs s)).flatMap dbl).length ≤ 2 * i := by
        have := dbl_len (List.take i (bs s))
        rw [List.length_take] at this
        omega
      have hsl : (mkA ([39] ++ ((bs s).take i).flatMap dbl)).size ≤ 100 := by rw [mkA_size]; simp only [List.length_append, List.length_cons, List.length_nil]; omega
      have i1 : ((i : Int) + 1).toNat = i + 1 := by omega
      generalize hy : (bs s).getD i 0 = y at *
      have hres : mkA ([39] ++ ((bs s).take (i + 1)).flatMap dbl) = (if y = 39 then mkA ([39] ++ ((bs s).take i).flatMap dbl) ++ ⟨#[39]⟩ else mkA ([39] ++ ((bs s).take i).flatMap dbl)) ++ mkA [y] := by
        rw [htk]
        by_cases h39 : y = 39
        · subst h39
          rw [if_pos rfl, show (⟨#[39]⟩ : ByteArray) = mkA [39] from rfl, mkA_app, mkA_app, show dbl 39 = [39, 39] from rfl]; simp
        · rw [if_neg h39, mkA_app, show dbl y = [y] by unfold dbl; rw [if_neg h39]]; simp
      have hy1 : (mkA [y]).size = 1 := rfl
      generalize mkA ([39] ++ ((bs s).take i).flatMap dbl) = sg at *
      generalize mkA [y] = sy at *
      by_cases h39 : y = 39
      · subst h39
        rw [if_pos rfl] at hres
        have hb : bA s (i : Int) = 39 := hb
        rw [zEv_round hc]
        simp (config := {contextual := true, maxSteps := 10000000, implicitDefEqProofs := false}) (disch := first | (and_intros <;> omega -splitDisjunctions) | (simp only [List.length_set, List.length_append, List.length_cons, List.length_nil]; and_intros <;> omega -splitDisjunctions) | fail) only [t3, hb, hx, hy1, i1, Int.toNat_natCast, Tryd.f8, go_sem, ↓reduceIte, Nat.reduceEqDiff, Nat.reduceAdd, Nat.reduceMul, Nat.reduceLT, Nat.reduceLeDiff, reduceCtorEq, Int.reduceNe, Int.reduceEq, Int.reduceLT, Int.reduceLE, Int.reduceAdd, Int.reduceSub, Int.reduceMul, Int.reduceNeg, Int.reduceToNat, UInt8.reduceToNat, natLit, ty3, ty5, ty9, ty46]
        rw [← hres]
        exact ih (i + 1) _ _ _ _ _ _ _ _ _ (by omega) (by omega) (by omega)
      · rw [if_neg h39] at hres
        have hyn : ¬ ((y.toNat : Nat) : Int) = 39 := fun e => h39 (UInt8.toNat_inj.1 (by show y.toNat = 39; omega))
        have t4 : (((y.toNat : Nat) : Int) = 39) = False := eq_false hyn
        rw [zEv_round hc]
        simp (config := {contextual := true, maxSteps := 10000000, implicitDefEqProofs := false}) (disch := first | (and_intros <;> omega -splitDisjunctions) | (simp only [List.length_set, List.length_append, List.length_cons, List.length_nil]; and_intros <;> omega -splitDisjunctions) | fail) only [t3, t4, hb, hx, hy1, i1, Int.toNat_natCast, Tryd.f8, go_sem, ↓reduceIte, Nat.reduceEqDiff, Nat.reduceAdd, Nat.reduceMul, Nat.reduceLT, Nat.reduceLeDiff, reduceCtorEq, Int.reduceNe, Int.reduceEq, Int.reduceLT, Int.reduceLE, Int.reduceAdd, Int.reduceSub, Int.reduceMul, Int.reduceNeg, Int.reduceToNat, UInt8.reduceToNat, natLit, ty3, ty5, ty9, ty46]
        rw [← hres]
        exact ih (i + 1) _ _ _ _ _ _ _ _ _ (by omega) (by omega) (by omega)
  exact key (s.size + 1) 0 0 _ _ _ _ _ _ _ _ (by omega) rfl (Nat.zero_le _)
end Go.Proofs.YtcbjmggbbnpbpaaDoor.Lg
