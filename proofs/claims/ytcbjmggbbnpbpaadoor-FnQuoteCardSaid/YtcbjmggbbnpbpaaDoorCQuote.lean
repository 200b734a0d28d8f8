/- Quote, as the program has it twice, over the logical machine. No condition. -/
import Derived.Test.YtcbjmggbbnpbpaaDoorCRune3
import Derived.Test.YtcbjmggbbnpbpaaDoorCNum
namespace Go.Proofs.YtcbjmggbbnpbpaaDoor.Lg
set_option linter.unusedSimpArgs false
set_option linter.unusedVariables false
set_option maxRecDepth 100000
set_option maxHeartbeats 40000000
open Go.Proofs.YtcbjmggbbnpbpaaDoor

def hxL : List UInt8 := [48, 49, 50, 51, 52, 53, 54, 55, 56, 57, 97, 98, 99, 100, 101, 102]
def hx (d : Int) : UInt8 := hxL.getD d.toNat 0
/-- so many digits of 16 -/
def hexM : Nat → Int → List UInt8
  | 0, _ => []
  | k + 1, r => hexM k (r / 16) ++ [hx (r % 16)]
theorem hexM_len : ∀ (k : Nat) (r : Int), (hexM k r).length = k
  | 0, _ => rfl
  | k + 1, r => by simp [hexM, hexM_len k]
def hexS (k : Nat) (r : Int) : ByteArray := ⟨(hexM k r).toArray⟩
theorem hexS_size (k : Nat) (r : Int) : (hexS k r).size = k := hexM_len k r
theorem tdiv16 {x : Int} (h : 0 ≤ x) : x.tdiv 16 = x / 16 := Int.tdiv_eq_ediv_of_nonneg h
theorem tmod16 {x : Int} (h : 0 ≤ x) : x.tmod 16 = x % 16 := Int.tmod_eq_emod_of_nonneg h
theorem hx_str {x : Int} (h : 0 ≤ x) (h2 : x < 16) : ByteArray.extract ⟨#[48, 49, 50, 51, 52, 53, 54, 55, 56, 57, 97, 98, 99, 100, 101, 102]⟩ x.toNat (x + 1).toNat = ⟨#[hx x]⟩ := by
  have : x = 0 ∨ x = 1 ∨ x = 2 ∨ x = 3 ∨ x = 4 ∨ x = 5 ∨ x = 6 ∨ x = 7 ∨ x = 8 ∨ x = 9 ∨ x = 10 ∨ x = 11 ∨ x = 12 ∨ x = 13 ∨ x = 14 ∨ x = 15 := by omega
  rcases this with rfl | rfl | rfl | rfl | rfl | rfl | rfl | rfl | rfl | rfl | rfl | rfl | rfl | rfl | rfl | rfl <;> rfl
theorem run_l20Hex : ∀ (k : Nat) (r : Int) (fl : Nat) (H : LH), 0 ≤ r ∧ r ≤ 1114111 → k ≤ 8 → run 119 [.int .i64 r, .int .i64 k] fl H = some (.str (hexS k r), H)
  | 0, r, fl, H, h, hk => by
    unfold run
    rw [Run_z Tryd.func119 rfl (by rfl : ok 119 = true) (by rfl : cfg.keep 119 = [0, 1, 4, 6]) (by rfl : cfg.mode 119 = .pure) (by rfl : cfg.ord 119 = [])]
    simp (config := {contextual := true, maxSteps := 10000000, implicitDefEqProofs := false}) (disch := first | (and_intros <;> omega -splitDisjunctions) | (simp only [List.length_set, List.length_append, List.length_cons, List.length_nil]; and_intros <;> omega -splitDisjunctions) | fail) only [Int.natCast_zero, Tryd.f119, go_sem, ↓reduceIte, Nat.reduceEqDiff, Nat.reduceAdd, Nat.reduceMul, Nat.reduceLT, Nat.reduceLeDiff, reduceCtorEq, Int.reduceNe, Int.reduceEq, Int.reduceLT, Int.reduceLE, Int.reduceAdd, Int.reduceSub, Int.reduceMul, Int.reduceNeg, Int.reduceToNat, UInt8.reduceToNat, natLit, ty3, ty9]
    rfl
  | k + 1, r, fl, H, h, hk => by
    have e1 := fun fl H => run_l20Hex k (r / 16) fl H (by omega) (by omega)
    have h0 : ¬ ((k + 1 : Nat) : Int) = 0 := by omega
    have h1 : ((k + 1 : Nat) : Int) - 1 = k := by omega
    have h2 := hexS_size k (r / 16)
    have h3 := hx_str (x := r % 16) (by omega) (by omega)
    unfold run at *
    rw [Run_z Tryd.func119 rfl (by rfl : ok 119 = true) (by rfl : cfg.keep 119 = [0, 1, 4, 6]) (by rfl : cfg.mode 119 = .pure) (by rfl : cfg.ord 119 = [])]
    simp (config := {contextual := true, maxSteps := 10000000, implicitDefEqProofs := false}) (disch := first | (and_intros <;> omega -splitDisjunctions) | (simp only [List.length_set, List.length_append, List.length_cons, List.length_nil]; and_intros <;> omega -splitDisjunctions) | fail) only [e1, h0, h1, tdiv16, tmod16, h3, hexS_size, Tryd.f119, go_sem, ↓reduceIte, Nat.reduceEqDiff, Nat.reduceAdd, Nat.reduceMul, Nat.reduceLT, Nat.reduceLeDiff, reduceCtorEq, Int.reduceNe, Int.reduceEq, Int.reduceLT, Int.reduceLE, Int.reduceAdd, Int.reduceSub, Int.reduceMul, Int.reduceNeg, Int.reduceToNat, UInt8.reduceToNat, natLit, ty3, ty9]
    simp only [hexS, hexM, mkB_app]
theorem run_l20Hex2 (r : Int) (fl : Nat) (H : LH) (h : 0 ≤ r ∧ r ≤ 1114111) : run 119 [.int .i64 r, .int .i64 2] fl H = some (.str (hexS 2 r), H) := run_l20Hex 2 r fl H h (by decide)
theorem run_l20Hex4 (r : Int) (fl : Nat) (H : LH) (h : 0 ≤ r ∧ r ≤ 1114111) : run 119 [.int .i64 r, .int .i64 4] fl H = some (.str (hexS 4 r), H) := run_l20Hex 4 r fl H h (by decide)
theorem run_l20Hex8 (r : Int) (fl : Nat) (H : LH) (h : 0 ≤ r ∧ r ≤ 1114111) : run 119 [.int .i64 r, .int .i64 8] fl H = some (.str (hexS 8 r), H) := run_l20Hex 8 r fl H h (by decide)
theorem hx_fold (x : Int) : List.getD [48, 49, 50, 51, 52, 53, 54, 55, 56, 57, 97, 98, 99, 100, 101, 102] x.toNat (0 : UInt8) = hx x := rfl
theorem run_hexText2 (r : Int) (fl : Nat) (H : LH) (h : 0 ≤ r ∧ r ≤ 1114111) : run 69 [.int .i64 r, .int .i64 2] fl H = some (.str (hexS 2 r), H) := by
  unfold run
  rw [Run_z Tryd.func69 rfl (by rfl : ok 69 = true) (by rfl : cfg.keep 69 = [0, 1, 4, 5, 6, 12]) (by rfl : cfg.mode 69 = .pure) (by rfl : cfg.ord 69 = [])]
  simp (config := {contextual := true, maxSteps := 10000000, implicitDefEqProofs := false}) (disch := first | (and_intros <;> omega -splitDisjunctions) | (simp only [List.length_set, List.length_append, List.length_cons, List.length_nil]; and_intros <;> omega -splitDisjunctions) | fail) only [zEv_loop, tdiv16, tmod16, hx_fold, UInt8.ofNat_toNat, Tryd.f69, go_sem, ↓reduceIte, Nat.reduceEqDiff, Nat.reduceAdd, Nat.reduceMul, Nat.reduceLT, Nat.reduceLeDiff, reduceCtorEq, Int.reduceNe, Int.reduceEq, Int.reduceLT, Int.reduceLE, Int.reduceAdd, Int.reduceSub, Int.reduceMul, Int.reduceNeg, Int.reduceToNat, UInt8.reduceToNat, natLit, ty3, ty5, ty9, ty46]
  simp only [hexS, hexM, List.nil_append, List.cons_append]
theorem run_hexText4 (r : Int) (fl : Nat) (H : LH) (h : 0 ≤ r ∧ r ≤ 1114111) : run 69 [.int .i64 r, .int .i64 4] fl H = some (.str (hexS 4 r), H) := by
  unfold run
  rw [Run_z Tryd.func69 rfl (by rfl : ok 69 = true) (by rfl : cfg.keep 69 = [0, 1, 4, 5, 6, 12]) (by rfl : cfg.mode 69 = .pure) (by rfl : cfg.ord 69 = [])]
  simp (config := {contextual := true, maxSteps := 10000000, implicitDefEqProofs := false}) (disch := first | (and_intros <;> omega -splitDisjunctions) | (simp only [List.length_set, List.length_append, List.length_cons, List.length_nil]; and_intros <;> omega -splitDisjunctions) | fail) only [zEv_loop, tdiv16, tmod16, hx_fold, UInt8.ofNat_toNat, Tryd.f69, go_sem, ↓reduceIte, Nat.reduceEqDiff, Nat.reduceAdd, Nat.reduceMul, Nat.reduceLT, Nat.reduceLeDiff, reduceCtorEq, Int.reduceNe, Int.reduceEq, Int.reduceLT, Int.reduceLE, Int.reduceAdd, Int.reduceSub, Int.reduceMul, Int.reduceNeg, Int.reduceToNat, UInt8.reduceToNat, natLit, ty3, ty5, ty9, ty46]
  simp only [hexS, hexM, List.nil_append, List.cons_append]
theorem run_hexText8 (r : Int) (fl : Nat) (H : LH) (h : 0 ≤ r ∧ r ≤ 1114111) : run 69 [.int .i64 r, .int .i64 8] fl H = some (.str (hexS 8 r), H) := by
  unfold run
  rw [Run_z Tryd.func69 rfl (by rfl : ok 69 = true) (by rfl : cfg.keep 69 = [0, 1, 4, 5, 6, 12]) (by rfl : cfg.mode 69 = .pure) (by rfl : cfg.ord 69 = [])]
  simp (config := {contextual := true, maxSteps := 10000000, implicitDefEqProofs := false}) (disch := first | (and_intros <;> omega -splitDisjunctions) | (simp only [List.length_set, List.length_append, List.length_cons, List.length_nil]; and_intros <;> omega -splitDisjunctions) | fail) only [zEv_loop, tdiv16, tmod16, hx_fold, UInt8.ofNat_toNat, Tryd.f69, go_sem, ↓reduceIte, Nat.reduceEqDiff, Nat.reduceAdd, Nat.reduceMul, Nat.reduceLT, Nat.reduceLeDiff, reduceCtorEq, Int.reduceNe, Int.reduceEq, Int.reduceLT, Int.reduceLE, Int.reduceAdd, Int.reduceSub, Int.reduceMul, Int.reduceNeg, Int.reduceToNat, UInt8.reduceToNat, natLit, ty3, ty5, ty9, ty46]
  simp only [hexS, hexM, List.nil_append, List.cons_append]
/-- what is written for a rune -/
def quoP (r : Int) : List UInt8 :=
  if r = 34 ∨ r = 92 then [92, u8I r] else if 32 ≤ r ∧ r ≤ 126 then [u8I r] else if r < 256 then [92, 120] ++ hexM 2 r else if r < 65536 then [92, 117] ++ hexM 4 r else [92, 85] ++ hexM 8 r
theorem u8I_cell {r : Int} (h : 0 ≤ r) (h2 : r < 256) : byC (u8I r) = [.int .u8 r] := by
  unfold byC u8I
  rw [UInt8.toNat_ofNat', Nat.mod_eq_of_lt (by omega), Int.toNat_of_nonneg h]
theorem quoP_len (r : Int) : (quoP r).length ≤ 10 := by
  unfold quoP
  by_cases c1 : r = 34 ∨ r = 92
  · rw [if_pos c1]; simp
  · rw [if_neg c1]
    by_cases c2 : 32 ≤ r ∧ r ≤ 126
    · rw [if_pos c2]; simp
    · rw [if_neg c2]
      by_cases c3 : r < 256
      · rw [if_pos c3]; simp [hexM_len]
      · rw [if_neg c3]
        by_cases c4 : r < 65536
        · rw [if_pos c4]; simp [hexM_len]
        · rw [if_neg c4]; simp [hexM_len]
def quoF (s : ByteArray) : Nat → Nat → List UInt8 → ByteArray
  | 0, _, l => ⟨(l ++ [34]).toArray⟩
  | d + 1, p, l => if p < s.size then (if (runeA s p).2 = 0 then ⟨#[]⟩ else quoF s d (p + (runeA s p).2.toNat) (l ++ quoP (runeA s p).1)) else ⟨(l ++ [34]).toArray⟩
def quoT (s : ByteArray) : ByteArray := quoF s s.size 0 [34]
theorem runeA_r (s : ByteArray) (p : Int) : 0 ≤ (runeA s p).1 ∧ (runeA s p).1 ≤ 1114111 := decM_r _ _ _ _ (bA_hi _ _) (bA_hi _ _) (bA_hi _ _)
theorem runeA_n (s : ByteArray) (p : Int) : 0 ≤ (runeA s p).2 ∧ (runeA s p).2 ≤ 4 := decM_n _ _ _ _
theorem toB34 (l : List UInt8) : toBytes (rows byC l ++ [.int .u8 34]) = some (l ++ [34]) := by
  have := toBytes_rows (l ++ [34])
  rw [rows_byC1] at this
  exact this
theorem run_imQuote (s : ByteArray) (fl : Nat) (H : LH) (hs : s.size ≤ 16777216) : run 26 [.str s] fl H = some (.str (quoT s), H) := by
  have e1 := fun p fl H => run_imRuneAt s p fl H (by omega)
  have e2 := fun r fl H (h : 0 ≤ r ∧ r ≤ 1114111) => run_hexText2 r fl H h
  have e4 := fun r fl H (h : 0 ≤ r ∧ r ≤ 1114111) => run_hexText4 r fl H h
  have e8 := fun r fl H (h : 0 ≤ r ∧ r ≤ 1114111) => run_hexText8 r fl H h
  have e3 := fun a b c fl H => run_within a b c fl H
  unfold run at *
  rw [Run_z Tryd.func26 rfl (by rfl : ok 26 = true) (by rfl : cfg.keep 26 = [0, 2, 3, 4, 5, 6, 11, 23, 26, 38, 46, 54]) (by rfl : cfg.mode 26 = .pure) (by rfl : cfg.ord 26 = [])]
  simp (config := {contextual := true, maxSteps := 10000000, implicitDefEqProofs := false}) (disch := first | (and_intros <;> omega -splitDisjunctions) | (simp only [List.length_set, List.length_append, List.length_cons, List.length_nil]; and_intros <;> omega -splitDisjunctions) | fail) only [Tryd.f26, go_sem, ↓reduceIte, Nat.reduceEqDiff, Nat.reduceAdd, Nat.reduceMul, Nat.reduceLT, Nat.reduceLeDiff, reduceCtorEq, Int.reduceNe, Int.reduceEq, Int.reduceLT, Int.reduceLE, Int.reduceAdd, Int.reduceSub, Int.reduceMul, Int.reduceNeg, Int.reduceToNat, UInt8.reduceToNat, natLit, ty3, ty5, ty9, ty46]
  refine at_loopE fun c0 R hc0 hR => ?_
  have key : ∀ (d : Nat) (x2 x5 x6 x11 x23 x26 x38 x46 x54 : Option V) (p n b : Nat) (j : Int) (l : List UInt8) (H1 : LH), s.size - p ≤ d → l.length ≤ 10 * p + 1 → p ≤ s.size + 4 → H.length ≤ b → H1.cellsAt b = some (rows byC l) → n = l.length → j = p →
      zEv (leaveX (mkR Tryd.prog cfg ok [0, 2, 3, 4, 5, 6, 11, 23, 26, 38, 46, 54] H.length) .pure H [ResultVar.tmp 2]) (mkR Tryd.prog cfg ok [0, 2, 3, 4, 5, 6, 11, 23, 26, 38, 46, 54] H.length) (K.code (Code.loop c0) :: K.blk 0 :: R) .nrm [some (.str s), x2, some (.sl b 0 1 n n), some (.int .i64 j), x5, x6, x11, x23, x26, x38, x46, x54] H1 = some (.str (quoF s d p l), H) := by
    intro d
    induction d with
    | zero =>
      intro x2 x5 x6 x11 x23 x26 x38 x46 x54 p n b j l H1 hd hl hp hb hc hn hj
      subst hn; subst hj
      have hb1 := cellsAt_lt hc
      have g1 := rows_len byC_len l
      rw [Nat.mul_one] at g1
      have g2 := take_rows byC_len (xs := l) (n := l.length) (by omega)
      have g4 := toB34 l
      have g5 : (rows byC l ++ [V.int .u8 34]).take (l.length + 1) = rows byC l ++ [V.int .u8 34] := List.take_of_length_le (by simp [g1])
      rw [zEv_round hc0, ← hR]
      simp (config := {contextual := true, maxSteps := 10000000, implicitDefEqProofs := false}) (disch := first | (and_intros <;> omega -splitDisjunctions) | (simp only [List.length_set, List.length_append, List.length_cons, List.length_nil]; and_intros <;> omega -splitDisjunctions) | fail) only [e1, hc, cellsAt_set, cellsAt_set_ne, cellsAt_old, set_old, nle_self, g1, g2, g4, g5, Tryd.f26, go_sem, ↓reduceIte, Nat.reduceEqDiff, Nat.reduceAdd, Nat.reduceMul, Nat.reduceLT, Nat.reduceLeDiff, reduceCtorEq, Int.reduceNe, Int.reduceEq, Int.reduceLT, Int.reduceLE, Int.reduceAdd, Int.reduceSub, Int.reduceMul, Int.reduceNeg, Int.reduceToNat, UInt8.reduceToNat, natLit, ty3, ty5, ty9, ty46]
      rw [if_neg (by omega)]
      rfl
    | succ d ih =>
      intro x2 x5 x6 x11 x23 x26 x38 x46 x54 p n b j l H1 hd hl hp hb hc hn hj
      subst hn; subst hj
      have hb1 := cellsAt_lt hc
      have g1 := rows_len byC_len l
      rw [Nat.mul_one] at g1
      have g2 := take_rows byC_len (xs := l) (n := l.length) (by omega)
      have g4 := toB34 l
      have g5 : (rows byC l ++ [V.int .u8 34]).take (l.length + 1) = rows byC l ++ [V.int .u8 34] := List.take_of_length_le (by simp [g1])
      have q1 := runeA_r s p
      have q2 := runeA_n s p
      rw [zEv_round hc0, ← hR]
      simp (config := {contextual := true, maxSteps := 10000000, implicitDefEqProofs := false}) (disch := first | (and_intros <;> omega -splitDisjunctions) | (simp only [List.length_set, List.length_append, List.length_cons, List.length_nil]; and_intros <;> omega -splitDisjunctions) | fail) only [e1, e2, e3, e4, e8, hexS_size, hc, cellsAt_set, cellsAt_set_ne, cellsAt_old, set_old, nle_self, g1, g2, g4, g5, Tryd.f26, go_sem, ↓reduceIte, Nat.reduceEqDiff, Nat.reduceAdd, Nat.reduceMul, Nat.reduceLT, Nat.reduceLeDiff, reduceCtorEq, Int.reduceNe, Int.reduceEq, Int.reduceLT, Int.reduceLE, Int.reduceAdd, Int.reduceSub, Int.reduceMul, Int.reduceNeg, Int.reduceToNat, UInt8.reduceToNat, natLit, ty3, ty5, ty9, ty46]
      rw [hR]
      simp only [quoF]
      have go := fun x2 x5 x6 x11 x23 x26 x38 x46 x54 p n b j l H1 => ih x2 x5 x6 x11 x23 x26 x38 x46 x54 p n b j l H1
      clear ih e1 e2 e4 e8 g4 g5 g2
      generalize runeA s (p : Int) = rn at *
      obtain ⟨r, n⟩ := rn
      dsimp only at *
      refine ite_E (fun hlt => ?_) (fun hge => ?_)
      · rw [if_pos (show p < s.size by omega)]
        refine ite_E (fun hn0 => ?_) (fun hn0 => ?_)
        · rw [if_pos hn0]
        · rw [if_neg hn0]
          have hq := quoP_len r
          (repeat' (refine ite_E (fun _ => ?_) (fun _ => ?_))) <;> refine go _ _ _ _ _ _ _ _ _ (p + n.toNat) _ _ _ (l ++ quoP r) _ (by omega) (by rw [List.length_append]; omega) (by omega) ?_ ?_ ?_ (by omega)
          all_goals try simp only [quoP, *, if_true, if_false, List.length_append, List.length_cons, List.length_nil, hexM_len, or_self, and_self, List.cons_append, List.nil_append]
          all_goals try omega
          · rw [cellsAt_appS, IntWalk.u8_in r (by omega), rows_app, rows_cons, rows_one, u8I_cell (by omega) (by omega)]; rfl
          · rw [cellsAt_appS, rows_app, rows_one, u8I_cell (by omega) (by omega)]; rfl
          all_goals rw [cellsAt_appS0, bs_app, bs_mk, hexS, bs_mk, cellsAt_zero, rows_app (xs := l)]; rfl
      · rw [if_neg (show ¬ p < s.size by omega)]
  exact key s.size _ _ _ _ _ _ _ _ _ 0 1 H.length 0 [34] _ (by omega) (by simp) (by omega) (Nat.le_refl _) (by rw [cellsAt_app0]; rfl) rfl rfl
theorem run_spQuote (s : ByteArray) (fl : Nat) (H : LH) (hs : s.size ≤ 16777216) : run 91 [.str s] fl H = some (.str (quoT s), H) := by
  have e1 := fun p fl H => run_spRuneAt s p fl H (by omega)
  have e2 := fun r fl H (h : 0 ≤ r ∧ r ≤ 1114111) => run_l20Hex2 r fl H h
  have e4 := fun r fl H (h : 0 ≤ r ∧ r ≤ 1114111) => run_l20Hex4 r fl H h
  have e8 := fun r fl H (h : 0 ≤ r ∧ r ≤ 1114111) => run_l20Hex8 r fl H h
  unfold run at *
  rw [Run_z Tryd.func91 rfl (by rfl : ok 91 = true) (by rfl : cfg.keep 91 = [0, 2, 3, 4, 5, 6, 11, 19, 25, 37, 49, 57]) (by rfl : cfg.mode 91 = .pure) (by rfl : cfg.ord 91 = [])]
  simp (config := {contextual := true, maxSteps := 10000000, implicitDefEqProofs := false}) (disch := first | (and_intros <;> omega -splitDisjunctions) | (simp only [List.length_set, List.length_append, List.length_cons, List.length_nil]; and_intros <;> omega -splitDisjunctions) | fail) only [Tryd.f91, go_sem, ↓reduceIte, Nat.reduceEqDiff, Nat.reduceAdd, Nat.reduceMul, Nat.reduceLT, Nat.reduceLeDiff, reduceCtorEq, Int.reduceNe, Int.reduceEq, Int.reduceLT, Int.reduceLE, Int.reduceAdd, Int.reduceSub, Int.reduceMul, Int.reduceNeg, Int.reduceToNat, UInt8.reduceToNat, natLit, ty3, ty5, ty9, ty46]
  refine at_loopE fun c0 R hc0 hR => ?_
  have key : ∀ (d : Nat) (x2 x5 x6 x11 x19 x25 x37 x49 x57 : Option V) (p n b : Nat) (j : Int) (l : List UInt8) (H1 : LH), s.size - p ≤ d → l.length ≤ 10 * p + 1 → p ≤ s.size + 4 → H.length ≤ b → H1.cellsAt b = some (rows byC l) → n = l.length → j = p →
      zEv (leaveX (mkR Tryd.prog cfg ok [0, 2, 3, 4, 5, 6, 11, 19, 25, 37, 49, 57] H.length) .pure H [ResultVar.tmp 2]) (mkR Tryd.prog cfg ok [0, 2, 3, 4, 5, 6, 11, 19, 25, 37, 49, 57] H.length) (K.code (Code.loop c0) :: K.blk 0 :: R) .nrm [some (.str s), x2, some (.sl b 0 1 n n), some (.int .i64 j), x5, x6, x11, x19, x25, x37, x49, x57] H1 = some (.str (quoF s d p l), H) := by
    intro d
    induction d with
    | zero =>
      intro x2 x5 x6 x11 x19 x25 x37 x49 x57 p n b j l H1 hd hl hp hb hc hn hj
      subst hn; subst hj
      have hb1 := cellsAt_lt hc
      have g1 := rows_len byC_len l
      rw [Nat.mul_one] at g1
      have g2 := take_rows byC_len (xs := l) (n := l.length) (by omega)
      have g4 := toB34 l
      have g5 : (rows byC l ++ [V.int .u8 34]).take (l.length + 1) = rows byC l ++ [V.int .u8 34] := List.take_of_length_le (by simp [g1])
      rw [zEv_round hc0, ← hR]
      simp (config := {contextual := true, maxSteps := 10000000, implicitDefEqProofs := false}) (disch := first | (and_intros <;> omega -splitDisjunctions) | (simp only [List.length_set, List.length_append, List.length_cons, List.length_nil]; and_intros <;> omega -splitDisjunctions) | fail) only [e1, hc, cellsAt_set, cellsAt_set_ne, cellsAt_old, set_old, nle_self, g1, g2, g4, g5, Tryd.f91, go_sem, ↓reduceIte, Nat.reduceEqDiff, Nat.reduceAdd, Nat.reduceMul, Nat.reduceLT, Nat.reduceLeDiff, reduceCtorEq, Int.reduceNe, Int.reduceEq, Int.reduceLT, Int.reduceLE, Int.reduceAdd, Int.reduceSub, Int.reduceMul, Int.reduceNeg, Int.reduceToNat, UInt8.reduceToNat, natLit, ty3, ty5, ty9, ty46]
      rw [if_neg (by omega)]
      rfl
    | succ d ih =>
      intro x2 x5 x6 x11 x19 x25 x37 x49 x57 p n b j l H1 hd hl hp hb hc hn hj
      subst hn; subst hj
      have hb1 := cellsAt_lt hc
      have g1 := rows_len byC_len l
      rw [Nat.mul_one] at g1
      have g2 := take_rows byC_len (xs := l) (n := l.length) (by omega)
      have g4 := toB34 l
      have g5 : (rows byC l ++ [V.int .u8 34]).take (l.length + 1) = rows byC l ++ [V.int .u8 34] := List.take_of_length_le (by simp [g1])
      have q1 := runeA_r s p
      have q2 := runeA_n s p
      rw [zEv_round hc0, ← hR]
      simp (config := {contextual := true, maxSteps := 10000000, implicitDefEqProofs := false}) (disch := first | (and_intros <;> omega -splitDisjunctions) | (simp only [List.length_set, List.length_append, List.length_cons, List.length_nil]; and_intros <;> omega -splitDisjunctions) | fail) only [e1, e2, e4, e8, hexS_size, hc, cellsAt_set, cellsAt_set_ne, cellsAt_old, set_old, nle_self, g1, g2, g4, g5, Tryd.f91, go_sem, ↓reduceIte, Nat.reduceEqDiff, Nat.reduceAdd, Nat.reduceMul, Nat.reduceLT, Nat.reduceLeDiff, reduceCtorEq, Int.reduceNe, Int.reduceEq, Int.reduceLT, Int.reduceLE, Int.reduceAdd, Int.reduceSub, Int.reduceMul, Int.reduceNeg, Int.reduceToNat, UInt8.reduceToNat, natLit, ty3, ty5, ty9, ty46]
      rw [hR]
      simp only [quoF]
      have go := fun x2 x5 x6 x11 x19 x25 x37 x49 x57 p n b j l H1 => ih x2 x5 x6 x11 x19 x25 x37 x49 x57 p n b j l H1
      clear ih e1 e2 e4 e8 g4 g5 g2
      generalize runeA s (p : Int) = rn at *
      obtain ⟨r, n⟩ := rn
      dsimp only at *
      refine ite_E (fun hlt => ?_) (fun hge => ?_)
      · rw [if_pos (show p < s.size by omega)]
        refine ite_E (fun hn0 => ?_) (fun hn0 => ?_)
        · rw [if_pos hn0]
        · rw [if_neg hn0]
          have hq := quoP_len r
          (repeat' (refine ite_E (fun _ => ?_) (fun _ => ?_))) <;> refine go _ _ _ _ _ _ _ _ _ (p + n.toNat) _ _ _ (l ++ quoP r) _ (by omega) (by rw [List.length_append]; omega) (by omega) ?_ ?_ ?_ (by omega)
          all_goals try simp only [quoP, *, if_true, if_false, List.length_append, List.length_cons, List.length_nil, hexM_len, or_self, and_self, List.cons_append, List.nil_append]
          all_goals try omega
          · rw [cellsAt_appS, IntWalk.u8_in r (by omega), rows_app, rows_cons, rows_one, u8I_cell (by omega) (by omega)]; rfl
          · rw [cellsAt_appS, rows_app, rows_one, u8I_cell (by omega) (by omega)]; rfl
          all_goals rw [cellsAt_appS0, bs_app, bs_mk, hexS, bs_mk, cellsAt_zero, rows_app (xs := l)]; rfl
      · rw [if_neg (show ¬ p < s.size by omega)]
  exact key s.size _ _ _ _ _ _ _ _ _ 0 1 H.length 0 [34] _ (by omega) (by simp) (by omega) (Nat.le_refl _) (by rw [cellsAt_app0]; rfl) rfl rfl
end Go.Proofs.YtcbjmggbbnpbpaaDoor.Lg
