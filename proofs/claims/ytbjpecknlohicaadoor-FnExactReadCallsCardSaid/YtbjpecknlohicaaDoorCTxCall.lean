/- TextCall, as the program has it twice, over the logical machine. No condition. -/
import Derived.Test.YtbjpecknlohicaaDoorCCallT
import Derived.Test.YtbjpecknlohicaaDoorCTextNum
import Derived.Test.YtbjpecknlohicaaDoorCCut
namespace Go.Proofs.YtbjpecknlohicaaDoor.Lg
set_option linter.unusedSimpArgs false
set_option linter.unusedVariables false
set_option maxRecDepth 100000
set_option maxHeartbeats 40000000
open Go.Proofs.YtbjpecknlohicaaDoor

/-- the first kind whose text is this one, with numbers 'N' -/
def tcF (s : ByteArray) (N : Int → Int) : Nat → Int → Ca × Bool
  | 0, _ => (ca0, false)
  | d + 1, k => if s ≠ ⟨#[]⟩ ∧ callT k (N k) = s then (⟨k, N k⟩, true) else tcF s N d (k + 1)
def imN (s : ByteArray) (k : Int) : Int := if 11 ≤ k then (tnum (cutA s 32)).1 else 0
theorem run_imTextCall (s : ByteArray) (fl : Nat) (H : LH) (hs : s.size ≤ 9223372036854775807) :
    run 20 [.str s] fl H = some (.tup [.agg (caC (tcF s (imN s) 12 1).1), .bool (tcF s (imN s) 12 1).2], H) := by
  have e1 := fun fl H => run_sCut1 s 32 fl H hs
  have e2 := fun fl H => run_imTextNum (cutA s 32) fl H
  have e3 := fun k n fl H => run_imCallText k n fl H
  unfold run caC at *
  rw [Run_z Tryd.func20 rfl (by rfl : ok 20 = true) (by rfl : cfg.keep 20 = [0, 2, 3, 5, 7, 9, 10, 23, 29, 39]) (by rfl : cfg.mode 20 = .pure)]
  simp (config := {contextual := true, maxSteps := 10000000, implicitDefEqProofs := false}) (disch := first | (and_intros <;> omega -splitDisjunctions) | (simp only [List.length_set, List.length_append, List.length_cons, List.length_nil]; and_intros <;> omega -splitDisjunctions) | fail) only [e1, e2, e3, Tryd.f20, go_sem, ↓reduceIte, Nat.reduceEqDiff, Nat.reduceAdd, Nat.reduceMul, Nat.reduceLT, Nat.reduceLeDiff, reduceCtorEq, Int.reduceNe, Int.reduceEq, Int.reduceLT, Int.reduceLE, Int.reduceAdd, Int.reduceSub, Int.reduceMul, Int.reduceNeg, Int.reduceToNat, UInt8.reduceToNat, natLit, ty3, ty9, ty36]
  refine at_loopE fun c0 R hc0 hR => ?_
  have key : ∀ (d : Nat) (x5 x10 x23 x29 x39 : Option V) (k : Int) (H1 : LH), d ≤ 12 → k = 13 - d → H.length < H1.length → H1.cellsAt H.length = some [.int .i64 0, .int .i64 0] →
      zEv (leaveX (mkR Tryd.prog cfg ok [0, 2, 3, 5, 7, 9, 10, 23, 29, 39] H.length) .pure H [ResultVar.cell 2 36, ResultVar.tmp 3]) (mkR Tryd.prog cfg ok [0, 2, 3, 5, 7, 9, 10, 23, 29, 39] H.length) (K.code (Code.loop c0) :: K.blk 0 :: R) .nrm [some (.str s), some (.ptr H.length 0), some (.bool false), x5, some (.int .i64 (tnum (cutA s 32)).1), some (.int .i64 k), x10, x23, x29, x39] H1 =
        some (.tup [.agg [.int .i64 (tcF s (imN s) d k).1.kind, .int .i64 (tcF s (imN s) d k).1.n], .bool (tcF s (imN s) d k).2], H) := by
    intro d
    induction d with
    | zero =>
      intro x5 x10 x23 x29 x39 k H1 hd hk hl hc
      subst hk
      rw [zEv_round hc0, ← hR]
      simp (config := {contextual := true, maxSteps := 10000000, implicitDefEqProofs := false}) (disch := first | (and_intros <;> omega -splitDisjunctions) | (simp only [List.length_set, List.length_append, List.length_cons, List.length_nil]; and_intros <;> omega -splitDisjunctions) | fail) only [e3, hc, cellsAt_set, cellsAt_set_ne, cellsAt_old, set_old, Tryd.f20, go_sem, ↓reduceIte, Nat.reduceEqDiff, Nat.reduceAdd, Nat.reduceMul, Nat.reduceLT, Nat.reduceLeDiff, reduceCtorEq, Int.reduceNe, Int.reduceEq, Int.reduceLT, Int.reduceLE, Int.reduceAdd, Int.reduceSub, Int.reduceMul, Int.reduceNeg, Int.reduceToNat, UInt8.reduceToNat, natLit, ty3, ty9, ty36]
      rfl
    | succ d ih =>
      intro x5 x10 x23 x29 x39 k H1 hd hk hl hc
      rw [zEv_round hc0, ← hR]
      simp (config := {contextual := true, maxSteps := 10000000, implicitDefEqProofs := false}) (disch := first | (and_intros <;> omega -splitDisjunctions) | (simp only [List.length_set, List.length_append, List.length_cons, List.length_nil]; and_intros <;> omega -splitDisjunctions) | fail) only [e3, hc, cellsAt_set, cellsAt_set_ne, cellsAt_old, set_old, Tryd.f20, go_sem, ↓reduceIte, Nat.reduceEqDiff, Nat.reduceAdd, Nat.reduceMul, Nat.reduceLT, Nat.reduceLeDiff, reduceCtorEq, Int.reduceNe, Int.reduceEq, Int.reduceLT, Int.reduceLE, Int.reduceAdd, Int.reduceSub, Int.reduceMul, Int.reduceNeg, Int.reduceToNat, UInt8.reduceToNat, natLit, ty3, ty9, ty36]
      rw [hR]
      simp only [tcF, imN]
      refine ite_E (fun hk12 => ?_) (fun h => by omega)
      refine ite_E (fun h11 => ?_) (fun h11 => ?_)
      all_goals
        simp only [h11, if_true, if_false]
        refine ite_E (fun hs => ?_) (fun hs => ?_)
        · rw [if_pos hs]
        · rw [if_neg hs]
          exact ih _ _ _ _ _ _ _ (by omega) (by omega) (by simp; omega) (by rw [cellsAt_old hl]; exact hc)
  exact key 12 _ _ _ _ _ 1 _ (Nat.le_refl _) rfl (by simp) (by rw [cellsAt_app0]; rfl)
def wordN (j : Int) : ByteArray := wordsL.getD j.toNat ⟨#[]⟩
def spM (s : ByteArray) (j : Int) : Int := if ((wordN j).size : Int) < s.size ∧ 11 ≤ j + 1 then (tnum (s.extract (((wordN j).size : Int) + 1).toNat s.size)).1 else 0
def spN (s : ByteArray) (k : Int) : Int := spM s (k - 1)
theorem wordsV_get {j : Int} (h : 0 ≤ j) (h2 : j < 12) : wordsV[j.toNat]? = some (.str (wordN j)) := by
  have : j = 0 ∨ j = 1 ∨ j = 2 ∨ j = 3 ∨ j = 4 ∨ j = 5 ∨ j = 6 ∨ j = 7 ∨ j = 8 ∨ j = 9 ∨ j = 10 ∨ j = 11 := by omega
  rcases this with rfl | rfl | rfl | rfl | rfl | rfl | rfl | rfl | rfl | rfl | rfl | rfl <;> rfl
theorem run_spTextCall (s : ByteArray) (fl : Nat) (H : LH) (hs : s.size ≤ 9223372036854775807) :
    run 18 [.str s] fl H = some (.tup [.agg (caC (tcF s (spN s) 12 1).1), .bool (tcF s (spN s) 12 1).2], H) := by
  have e1 := fun fl H => run_words fl H
  have e2 := fun s fl H => run_spTextNum s fl H
  have e3 := fun k n fl H => run_spCallText k n fl H
  unfold run caC at *
  rw [Run_z Tryd.func18 rfl (by rfl : ok 18 = true) (by rfl : cfg.keep 18 = [0, 2, 3, 4, 5, 6, 7, 8, 9, 10, 26, 44]) (by rfl : cfg.mode 18 = .pure)]
  simp (config := {contextual := true, maxSteps := 10000000, implicitDefEqProofs := false}) (disch := first | (and_intros <;> omega -splitDisjunctions) | (simp only [List.length_set, List.length_append, List.length_cons, List.length_nil]; and_intros <;> omega -splitDisjunctions) | fail) only [e1, e2, e3, Tryd.f18, go_sem, ↓reduceIte, Nat.reduceEqDiff, Nat.reduceAdd, Nat.reduceMul, Nat.reduceLT, Nat.reduceLeDiff, reduceCtorEq, Int.reduceNe, Int.reduceEq, Int.reduceLT, Int.reduceLE, Int.reduceAdd, Int.reduceSub, Int.reduceMul, Int.reduceNeg, Int.reduceToNat, UInt8.reduceToNat, natLit, ty3, ty9, ty36, ty39]
  refine at_loopE fun c0 R hc0 hR => ?_
  have key : ∀ (d : Nat) (x4 x5 x6 x10 x26 x44 : Option V) (j : Int) (H1 : LH), d ≤ 12 → j = 12 - d → H.length + 1 < H1.length → H1.cellsAt H.length = some [.int .i64 0, .int .i64 0] → H1.cellsAt (H.length + 1) = some wordsV →
      zEv (leaveX (mkR Tryd.prog cfg ok [0, 2, 3, 4, 5, 6, 7, 8, 9, 10, 26, 44] H.length) .pure H [ResultVar.cell 2 36, ResultVar.tmp 3]) (mkR Tryd.prog cfg ok [0, 2, 3, 4, 5, 6, 7, 8, 9, 10, 26, 44] H.length) (K.code (Code.loop c0) :: K.blk 0 :: R) .nrm [some (.str s), some (.ptr H.length 0), some (.bool false), x4, x5, x6, some (.sl (H.length + 1) 0 1 12 12), some (.int .i64 12), some (.int .i64 j), x10, x26, x44] H1 =
        some (.tup [.agg [.int .i64 (tcF s (spN s) d (j + 1)).1.kind, .int .i64 (tcF s (spN s) d (j + 1)).1.n], .bool (tcF s (spN s) d (j + 1)).2], H) := by
    intro d
    induction d with
    | zero =>
      intro x4 x5 x6 x10 x26 x44 j H1 hd hk hl hc hw
      subst hk
      rw [zEv_round hc0, ← hR]
      simp (config := {contextual := true, maxSteps := 10000000, implicitDefEqProofs := false}) (disch := first | (and_intros <;> omega -splitDisjunctions) | (simp only [List.length_set, List.length_append, List.length_cons, List.length_nil]; and_intros <;> omega -splitDisjunctions) | fail) only [e3, hc, hw, cellsAt_set, cellsAt_set_ne, cellsAt_old, set_old, Tryd.f18, go_sem, ↓reduceIte, Nat.reduceEqDiff, Nat.reduceAdd, Nat.reduceMul, Nat.reduceLT, Nat.reduceLeDiff, reduceCtorEq, Int.reduceNe, Int.reduceEq, Int.reduceLT, Int.reduceLE, Int.reduceAdd, Int.reduceSub, Int.reduceMul, Int.reduceNeg, Int.reduceToNat, UInt8.reduceToNat, natLit, ty3, ty9, ty36, ty39]
      rfl
    | succ d ih =>
      intro x4 x5 x6 x10 x26 x44 j H1 hd hk hl hc hw
      have hg := wordsV_get (j := j) (by omega) (by omega)
      have hz : (wordN j).size ≤ 6 := by
        have : j = 0 ∨ j = 1 ∨ j = 2 ∨ j = 3 ∨ j = 4 ∨ j = 5 ∨ j = 6 ∨ j = 7 ∨ j = 8 ∨ j = 9 ∨ j = 10 ∨ j = 11 := by omega
        rcases this with rfl | rfl | rfl | rfl | rfl | rfl | rfl | rfl | rfl | rfl | rfl | rfl <;> decide
      rw [zEv_round hc0, ← hR]
      simp (config := {contextual := true, maxSteps := 10000000, implicitDefEqProofs := false}) (disch := first | (and_intros <;> omega -splitDisjunctions) | (simp only [List.length_set, List.length_append, List.length_cons, List.length_nil]; and_intros <;> omega -splitDisjunctions) | fail) only [e2, e3, hc, hw, hg, cellsAt_set, cellsAt_set_ne, cellsAt_old, set_old, Tryd.f18, go_sem, ↓reduceIte, Nat.reduceEqDiff, Nat.reduceAdd, Nat.reduceMul, Nat.reduceLT, Nat.reduceLeDiff, reduceCtorEq, Int.reduceNe, Int.reduceEq, Int.reduceLT, Int.reduceLE, Int.reduceAdd, Int.reduceSub, Int.reduceMul, Int.reduceNeg, Int.reduceToNat, UInt8.reduceToNat, natLit, ty3, ty9, ty36, ty39]
      rw [hR]
      simp only [tcF, spN, spM, Int.add_sub_cancel]
      refine ite_E (fun hk12 => ?_) (fun h => by omega)
      by_cases hb : ((wordN j).size : Int) < s.size ∧ 11 ≤ j + 1
      · simp only [hb, and_self, if_true]
        refine ite_E (fun hs => ?_) (fun hs => ?_)
        · rw [if_pos hs]
        · rw [if_neg hs]
          exact ih _ _ _ _ _ _ _ _ (by omega) (by omega) (by simp; omega) (by rw [cellsAt_old (by omega)]; exact hc) (by rw [cellsAt_old hl]; exact hw)
      · rw [if_neg hb]
        simp only [if_neg hb]
        refine ite_E (fun hs => ?_) (fun hs => ?_)
        · rw [if_pos hs]
        · rw [if_neg hs]
          exact ih _ _ _ _ _ _ _ _ (by omega) (by omega) (by simp; omega) (by rw [cellsAt_old (by omega)]; exact hc) (by rw [cellsAt_old hl]; exact hw)
  exact key 12 _ _ _ _ _ _ 0 _ (Nat.le_refl _) rfl (by simp) (by rw [cellsAt_app0]; rfl) (by rw [cellsAt_app]; rfl)
theorem tcF_congr {s : ByteArray} {N N' : Int → Int} (h : ∀ k, 1 ≤ k → k ≤ 12 → s ≠ ⟨#[]⟩ → (callT k (N k) = s → N k = N' k) ∧ (callT k (N' k) = s → N k = N' k)) :
    ∀ (d : Nat) (k : Int), d ≤ 12 → k = 13 - d → tcF s N d k = tcF s N' d k := by
  intro d
  induction d with
  | zero => intro k _ _; rfl
  | succ d ih =>
    intro k hd hk
    simp only [tcF]
    by_cases hs : s = ⟨#[]⟩
    · simp only [hs, ne_eq, not_true_eq_false, false_and, if_false]
      have := ih (k + 1) (by omega) (by omega)
      rwa [hs] at this
    · have h2 := h k (by omega) (by omega) hs
      by_cases h3 : callT k (N k) = s
      · have h4 := h2.1 h3
        rw [if_pos ⟨hs, h3⟩, if_pos ⟨hs, by rw [← h4]; exact h3⟩, ← h4]
      · have h5 : ¬ callT k (N' k) = s := fun e => h3 (by rw [h2.2 e]; exact e)
        rw [if_neg (fun e => h3 e.2), if_neg (fun e => h5 e.2)]
        exact ih (k + 1) (by omega) (by omega)
theorem digs_app : ∀ (a b : List UInt8) (n : Int), digs (a ++ b) n = (digs a n).bind (digs b ·)
  | [], b, n => rfl
  | x :: a, b, n => by
    simp only [List.cons_append, digs]
    split
    · rfl
    · exact digs_app a b _
theorem digs_dig {m : Nat} (h : m < 10) (n : Int) : digs (bs (dig m)) n = some (10 * n + m) := by
  have h1 : bs (dig m) = [UInt8.ofNat (48 + m)] := rfl
  have h2 : (UInt8.ofNat (48 + m)).toNat = 48 + m := by rw [UInt8.toNat_ofNat', Nat.mod_eq_of_lt (by omega)]
  rw [h1, digs, h2, if_neg (by omega), digs]
  congr 1
  omega
theorem digs_dec (m : Nat) : digs (bs (decT m)) 0 = some (m : Int) := by
  induction m using Nat.strongRecOn with
  | _ m ih =>
    unfold decT
    split
    · rename_i h; rw [digs_dig h]; simp
    · rename_i h
      rw [bs_app, digs_app, ih (m / 10) (by omega), Option.bind_some, digs_dig (by omega)]
      congr 1
      omega
theorem decT_len : ∀ (k m : Nat), m < 10 ^ (k + 1) → 1 ≤ (decT m).size ∧ (decT m).size ≤ k + 1
  | 0, m, h => by
    unfold decT
    rw [if_pos (by omega)]
    exact ⟨Nat.le_refl _, Nat.le_refl _⟩
  | k + 1, m, h => by
    unfold decT
    split
    · exact ⟨Nat.le_refl _, by show 1 ≤ _; omega⟩
    · have := decT_len k (m / 10) (by rw [Nat.pow_succ] at h; omega)
      rw [ByteArray.size_append]
      have h2 : (dig (m % 10)).size = 1 := rfl
      omega
theorem tnum_num {n : Int} (h : numT n ≠ ⟨#[]⟩) : tnum (numT n) = (n, true) := by
  have h2 : ¬ (n < 0 ∨ 4294967295 < n) := fun e => h (by rw [numT, if_pos e])
  have h3 : numT n = decT n.toNat := by rw [numT, if_neg h2]
  have h4 := decT_len 9 n.toNat (by omega)
  unfold tnum
  rw [h3, if_pos ⟨h4.1, h4.2⟩, digs_dec, show ((n.toNat : Nat) : Int) = n by omega]
  simp only [h3, if_true]
theorem extr_app {a b : ByteArray} : (a ++ b).extract a.size (a ++ b).size = b := by
  apply ByteArray.ext
  rw [ByteArray.data_extract, ByteArray.data_append, ByteArray.size_append]
  apply Array.ext'
  rw [Array.toList_extract, Array.toList_append]
  show (a.data.toList ++ b.data.toList).extract a.data.size (a.data.size + b.data.size) = _
  simp [List.extract_eq_take_drop, ← Array.length_toList]
theorem lit_app' {a b : List UInt8} : (⟨a.toArray⟩ : ByteArray) ++ ⟨b.toArray⟩ = ⟨(a ++ b).toArray⟩ := (mkB_app a b).symm
theorem bA_lit {l : List UInt8} {t : ByteArray} {j : Nat} (h : j < l.length) : bA ((⟨l.toArray⟩ : ByteArray) ++ t) (j : Int) = ((l[j]).toNat : Int) := by
  have hs : j < ((⟨l.toArray⟩ : ByteArray) ++ t).size := by rw [ByteArray.size_append, size_lit]; omega
  have hl : bs ((⟨l.toArray⟩ : ByteArray) ++ t) = l ++ bs t := by rw [bs_app, bs_mk]
  rw [bA_nat hs]
  simp only [hl]
  rw [List.getElem_append_left h]
theorem cut_lit {l : List UInt8} {t : ByteArray} (h : ∀ (j : Nat) (hj : j < l.length), (l[j]).toNat ≠ 32) : cutA ((⟨(l ++ [32]).toArray⟩ : ByteArray) ++ t) 32 = t := by
  have hlen : (l ++ [(32 : UInt8)]).length = l.length + 1 := by simp
  have h32 : bA ((⟨(l ++ [32]).toArray⟩ : ByteArray) ++ t) (l.length : Nat) = 32 := by
    rw [bA_lit (by omega)]; simp
  have hsz : ((⟨(l ++ [32]).toArray⟩ : ByteArray)).size = l.length + 1 := by rw [size_lit, hlen]
  rcases idxB_or ((⟨(l ++ [32]).toArray⟩ : ByteArray) ++ t) 32 with ⟨_, h2⟩ | ⟨i, h1, h2, h3, h4⟩
  · exact absurd h32 (h2 l.length (by rw [ByteArray.size_append, hsz]; omega))
  · have hi : i = l.length := by
      rcases Nat.lt_trichotomy i l.length with hl | hl | hl
      · exfalso
        rw [bA_lit (by omega), List.getElem_append_left hl] at h3
        exact h i hl (by have h3 : (l[i].toNat : Int) = 32 := h3; omega)
      · exact hl
      · exact absurd h32 (h4 _ hl)
    unfold cutA
    rw [h1, if_pos (by omega), hi, show ((l.length : Int) + 1).toNat = l.length + 1 by omega]
    have := extr_app (a := (⟨(l ++ [32]).toArray⟩ : ByteArray)) (b := t)
    rw [hsz] at this
    exact this
def w11L : List UInt8 := [114, 101, 119, 105, 110, 100]
def w12L : List UInt8 := [100, 114, 111, 112]
theorem tc_canon {s : ByteArray} {k n : Int} (hk : k = 11 ∨ k = 12) (hs : s ≠ ⟨#[]⟩) (h : callT k n = s) : imN s k = n ∧ spN s k = n := by
  have hn : numT n ≠ ⟨#[]⟩ := by
    intro e
    apply hs
    rw [← h]
    rcases hk with rfl | rfl <;> simp only [callT, e, if_true, Int.reduceLT, or_self, if_false]
  have ht := tnum_num hn
  rcases hk with rfl | rfl
  · have h1 : s = ⟨((w11L ++ [32] : List UInt8)).toArray⟩ ++ numT n := by
      rw [← h]
      simp only [callT, hn, if_false, Int.reduceLT, or_self, wordsL]
      rfl
    constructor
    · rw [imN, if_pos (by decide), h1]
      rw [cut_lit (by decide), ht]
    · have hz : (wordN 10).size = 6 := rfl
      have h2 := extr_app (a := (⟨((w11L ++ [32] : List UInt8)).toArray⟩ : ByteArray)) (b := numT n)
      have h3 : (⟨((w11L ++ [32] : List UInt8)).toArray⟩ : ByteArray).size = 7 := rfl
      have h4 : s.size = 7 + (numT n).size := by rw [h1, ByteArray.size_append, h3]
      rw [h3, ← h1] at h2
      show spM s 10 = n
      rw [spM, hz, if_pos ⟨by omega, by decide⟩, show ((6 : Nat) : Int) + 1 = 7 from rfl, show (7 : Int).toNat = 7 from rfl, h2, ht]
  · have h1 : s = ⟨((w12L ++ [32] : List UInt8)).toArray⟩ ++ numT n := by
      rw [← h]
      simp only [callT, hn, if_false, Int.reduceLT, or_self, wordsL]
      rfl
    constructor
    · rw [imN, if_pos (by decide), h1]
      rw [cut_lit (by decide), ht]
    · have hz : (wordN 11).size = 4 := rfl
      have h2 := extr_app (a := (⟨((w12L ++ [32] : List UInt8)).toArray⟩ : ByteArray)) (b := numT n)
      have h3 : (⟨((w12L ++ [32] : List UInt8)).toArray⟩ : ByteArray).size = 5 := rfl
      have h4 : s.size = 5 + (numT n).size := by rw [h1, ByteArray.size_append, h3]
      rw [h3, ← h1] at h2
      show spM s 11 = n
      rw [spM, hz, if_pos ⟨by omega, by decide⟩, show ((4 : Nat) : Int) + 1 = 5 from rfl, show (5 : Int).toNat = 5 from rfl, h2, ht]
theorem tc_same (s : ByteArray) : tcF s (imN s) 12 1 = tcF s (spN s) 12 1 := by
  refine tcF_congr (fun k h1 h2 hs => ?_) 12 1 (Nat.le_refl _) rfl
  by_cases hk : k = 11 ∨ k = 12
  · exact ⟨fun e => (tc_canon hk hs e).2.symm, fun e => (tc_canon hk hs e).1⟩
  · have a1 : imN s k = 0 := by rw [imN, if_neg (by omega)]
    have a2 : spN s k = 0 := by rw [spN, spM, if_neg (by omega)]
    rw [a1, a2]
    exact ⟨fun _ => rfl, fun _ => rfl⟩
end Go.Proofs.YtbjpecknlohicaaDoor.Lg
