/- A draw of some runes; clean texts. No condition. -/
import Derived.Test.YtcbjmggbbnpbpaaDoorCDr1
import Derived.Test.YtcbjmggbbnpbpaaDoorCRune3
import Derived.Test.YtcbjmggbbnpbpaaDoorCNum
namespace Go.Proofs.YtcbjmggbbnpbpaaDoor.Lg
set_option linter.unusedSimpArgs false
set_option linter.unusedVariables false
set_option maxRecDepth 100000
set_option maxHeartbeats 40000000
open Go.Proofs.YtcbjmggbbnpbpaaDoor

/-- the pieces that are drawn -/
def pcs : List ByteArray := [⟨#[97]⟩, ⟨#[39]⟩, ⟨#[34]⟩, ⟨#[92]⟩, ⟨#[32]⟩, ⟨#[9]⟩, ⟨#[195, 169]⟩, ⟨#[240, 159, 152, 128]⟩, ⟨#[0]⟩, ⟨#[194, 133]⟩, ⟨#[120, 32, 121]⟩]
def catK (ks : List Nat) : ByteArray := ks.foldl (fun s k => s ++ pcs.getD k ⟨#[]⟩) ⟨#[]⟩
theorem catK_app (ks : List Nat) (k : Nat) : catK (ks ++ [k]) = catK ks ++ pcs.getD k ⟨#[]⟩ := by simp [catK]
theorem pcs_size (k : Nat) : (pcs.getD k ⟨#[]⟩).size ≤ 4 := by
  match k with
  | 0 | 1 | 2 | 3 | 4 | 5 | 6 | 7 | 8 | 9 | 10 => decide
  | k + 11 => show 0 ≤ 4; omega
theorem catK_size (ks : List Nat) : (catK ks).size ≤ 4 * ks.length := by
  have : ∀ (ks : List Nat) (s : ByteArray), (ks.foldl (fun s k => s ++ pcs.getD k ⟨#[]⟩) s).size ≤ s.size + 4 * ks.length := by
    intro ks
    induction ks with
    | nil => intro s; show s.size ≤ _; omega
    | cons k ks ih =>
      intro s
      have h1 := ih (s ++ pcs.getD k ⟨#[]⟩)
      have h2 := pcs_size k
      rw [ByteArray.size_append] at h1
      rw [List.foldl_cons, List.length_cons]; omega
  have h := this ks ⟨#[]⟩
  have h0 : ByteArray.size ⟨#[]⟩ = 0 := rfl
  unfold catK; omega
def RunesP (s : ByteArray) : Prop := ∃ ks : List Nat, ks.length ≤ 8 ∧ (∀ k ∈ ks, k < 11) ∧ s = catK ks
theorem run_MakeRunes {H : LH} {cv : V} {code : List UInt8} (h : At H byC 1 cv code) (hl : code.length ≤ 1099511627776) (fl : Nat) :
    ∃ s, RunesP s ∧ run 25 [cv] fl H = some (.str s, H) := by
  have p1 := h.isTup; have p2 := h.one
  obtain ⟨_, A, e1, rfl, hA, lA⟩ := run_l01New h hl H.length
  obtain ⟨_, B, e2, n, rfl, n0, n1, hB, cB⟩ := run_l01Below hA 9 (by decide) H.length (Nat.le_refl _)
  have n1 : n < 9 := n1.resolve_right (fun h => by omega)
  have key : Ret (fun w C => ∃ s, RunesP s ∧ w = .str s ∧ C = H) (run 25 [cv] fl H) := by
    unfold run at e1 e2 ⊢
    rw [Run_z Tryd.func25 rfl (by rfl : ok 25 = true) (by rfl : cfg.keep 25 = [0, 2, 3, 4, 5, 11]) (by rfl : cfg.mode 25 = .pure) (by rfl : cfg.ord 25 = [])]
    simp (config := {contextual := true, maxSteps := 10000000, implicitDefEqProofs := false}) (disch := first | (and_intros <;> omega -splitDisjunctions) | (simp only [List.length_set, List.length_append, List.length_cons, List.length_nil]; and_intros <;> omega -splitDisjunctions) | fail) only [p1, p2, e1, e2, Tryd.f25, go_sem, ↓reduceIte, Nat.reduceEqDiff, Nat.reduceAdd, Nat.reduceMul, Nat.reduceLT, Nat.reduceLeDiff, reduceCtorEq, Int.reduceNe, Int.reduceEq, Int.reduceLT, Int.reduceLE, Int.reduceAdd, Int.reduceSub, Int.reduceMul, Int.reduceNeg, Int.reduceToNat, UInt8.reduceToNat, natLit, ty3, ty9, ty85]
    refine at_loopR fun c R hc hR => ?_
    have key : ∀ (m : Nat) (i : Nat) (j : Int) (ks : List Nat) (C : LH) (x0 x2 x11 : Option V), i < m → j = i → ks.length + i ≤ 8 → (∀ k ∈ ks, k < 11) → DAt H C H.length cv code →
        Ret (fun w C => ∃ s, RunesP s ∧ w = .str s ∧ C = H) (zEv (leaveX (mkR Tryd.prog cfg ok [0, 2, 3, 4, 5, 11] H.length) .pure H [ResultVar.tmp 2]) (mkR Tryd.prog cfg ok [0, 2, 3, 4, 5, 11] H.length) (K.code (Code.loop c) :: K.blk 0 :: R) .nrm [x0, x2, some (.ptr H.length 0), some (.str (catK ks)), some (.int .i64 j), x11] (C)) := by
      intro m
      induction m with
      | zero => intro i j ks C x0 x2 x11 hm; omega
      | succ m ih =>
        intro i j ks C x0 x2 x11 hm hj hi hks hC
        subst hj
        by_cases h0 : i = 0
        · subst h0
          rw [zEv_round hc, ← hR]
          simp (config := {contextual := true, maxSteps := 10000000, implicitDefEqProofs := false}) (disch := first | (and_intros <;> omega -splitDisjunctions) | (simp only [List.length_set, List.length_append, List.length_cons, List.length_nil]; and_intros <;> omega -splitDisjunctions) | fail) only [Int.natCast_zero, Tryd.f25, go_sem, ↓reduceIte, Nat.reduceEqDiff, Nat.reduceAdd, Nat.reduceMul, Nat.reduceLT, Nat.reduceLeDiff, reduceCtorEq, Int.reduceNe, Int.reduceEq, Int.reduceLT, Int.reduceLE, Int.reduceAdd, Int.reduceSub, Int.reduceMul, Int.reduceNeg, Int.reduceToNat, UInt8.reduceToNat, natLit, ty3, ty9, ty85]
          exact ⟨_, ⟨ks, by omega, hks, rfl⟩, rfl⟩
        have t1 : ((i : Int) > 0) = True := eq_true (by omega)
        have t2 : (0 < (i : Int)) = True := eq_true (by omega)
        have hsz := catK_size ks
        have hlC := hC.hx.len
        have hbC : H.length < C.length := by
          obtain ⟨_, _, _, _, a, b, c, _⟩ := hC
          exact cellsAt_lt c
        obtain ⟨_, D, e3, r, hr, rfl, hD, cD⟩ := run_l01Of (hC.left (L := [Blk.cells (rows stC1 pcs)])) (lv := .sl C.length 0 1 11 11) (ss := pcs) (Own.at (fl := 0) (.inr ⟨C.length, rfl, by rw [cellsAt_app0]; rfl, Nat.zero_le _⟩) (fun _ => rfl)) (by simp only [blkV]; omega) (by decide) (by decide) H.length (Nat.le_refl _)
        have hr2 := pcs_size r
        have hr : r < 11 := hr
        have hcat := catK_app ks r
        generalize pcs.getD r ⟨#[]⟩ = x at *
        unfold run at e3
        simp only [pcs, rows, stC1, List.cons_append, List.nil_append, List.append_nil] at e3
        rw [zEv_round hc]
        simp (config := {contextual := true, maxSteps := 10000000, implicitDefEqProofs := false}) (disch := first | (and_intros <;> omega -splitDisjunctions) | (simp only [List.length_set, List.length_append, List.length_cons, List.length_nil]; and_intros <;> omega -splitDisjunctions) | fail) only [t1, t2, e3, Tryd.f25, go_sem, ↓reduceIte, Nat.reduceEqDiff, Nat.reduceAdd, Nat.reduceMul, Nat.reduceLT, Nat.reduceLeDiff, reduceCtorEq, Int.reduceNe, Int.reduceEq, Int.reduceLT, Int.reduceLE, Int.reduceAdd, Int.reduceSub, Int.reduceMul, Int.reduceNeg, Int.reduceToNat, UInt8.reduceToNat, natLit, ty3, ty9, ty85]
        obtain ⟨i, rfl⟩ : ∃ i', i = i' + 1 := ⟨i - 1, by omega⟩
        rw [← hcat]
        exact ih i _ (ks ++ [r]) D _ _ _ (by omega) (by omega) (by rw [List.length_append, List.length_singleton]; omega) (fun k hk => by
          rcases List.mem_append.1 hk with hk | hk
          · exact hks k hk
          · rw [List.mem_singleton.1 hk]; exact hr) hD
    exact key 9 n.toNat n [] B _ _ _ (by omega) (by omega) (by show 0 + n.toNat ≤ 8; omega) (by simp) hB
  obtain ⟨_, C, e, s, hs, rfl, rfl⟩ := key
  exact ⟨s, hs, e⟩
theorem runeA_n2 (s : ByteArray) (p : Int) : 0 ≤ (runeA s p).2 ∧ (runeA s p).2 ≤ 4 := decM_n _ _ _ _
def mayB (r : Int) : Prop := (r = 9 ∨ r = 10 ∨ (32 ≤ r ∧ r ≤ 126)) ∨ (159 < r ∧ r ≠ 65279 ∧ r ≠ 65534 ∧ r ≠ 65535)
instance (r : Int) : Decidable (mayB r) := by unfold mayB; infer_instance
theorem run_mayStand (r : Int) (fl : Nat) (H : LH) : run 77 [.int .i64 r] fl H = some (.bool (decide (mayB r)), H) := by
  have e1 := fun a b c fl H => run_within a b c fl H
  unfold run at *
  rw [Run_z Tryd.func77 rfl (by rfl : ok 77 = true) (by rfl : cfg.keep 77 = [0, 2]) (by rfl : cfg.mode 77 = .pure) (by rfl : cfg.ord 77 = [])]
  simp (config := {contextual := true, maxSteps := 10000000, implicitDefEqProofs := false}) (disch := first | (and_intros <;> omega -splitDisjunctions) | (simp only [List.length_set, List.length_append, List.length_cons, List.length_nil]; and_intros <;> omega -splitDisjunctions) | fail) only [e1, Tryd.f77, go_sem, ↓reduceIte, Nat.reduceEqDiff, Nat.reduceAdd, Nat.reduceMul, Nat.reduceLT, Nat.reduceLeDiff, reduceCtorEq, Int.reduceNe, Int.reduceEq, Int.reduceLT, Int.reduceLE, Int.reduceAdd, Int.reduceSub, Int.reduceMul, Int.reduceNeg, Int.reduceToNat, UInt8.reduceToNat, natLit, ty3]
  unfold mayB
  congr 3
  grind
/-- how far a text is clean -/
def clnG (s : ByteArray) : Nat → Nat → Nat
  | 0, _ => 0
  | d + 1, p => if p < s.size then (if (runeA s p).2 = 0 ∨ ¬ mayB (runeA s p).1 then p else clnG s d (p + (runeA s p).2.toNat)) else s.size
theorem clnG_s {s : ByteArray} {d p : Nat} : clnG s (d + 1) p = if p < s.size then (if (runeA s p).2 = 0 ∨ ¬ mayB (runeA s p).1 then p else clnG s d (p + (runeA s p).2.toNat)) else s.size := rfl
def clnM (s : ByteArray) : Nat := clnG s (s.size + 1) 0
theorem run_imClean (s : ByteArray) (fl : Nat) (H : LH) (hs : s.size ≤ 1099511627776) : run 29 [.str s] fl H = some (.int .i64 (clnM s), H) := by
  have e1 := fun p fl H => run_imRuneAt s p fl H (by omega)
  have e2 := fun r fl H => run_mayStand r fl H
  unfold clnM
  generalize hres : clnG s (s.size + 1) 0 = res
  unfold run at *
  rw [Run_z Tryd.func29 rfl (by rfl : ok 29 = true) (by rfl : cfg.keep 29 = [0, 2, 3, 4, 5, 9, 22]) (by rfl : cfg.mode 29 = .pure) (by rfl : cfg.ord 29 = [])]
  simp (config := {contextual := true, maxSteps := 10000000, implicitDefEqProofs := false}) (disch := first | (and_intros <;> omega -splitDisjunctions) | (simp only [List.length_set, List.length_append, List.length_cons, List.length_nil]; and_intros <;> omega -splitDisjunctions) | fail) only [Tryd.f29, go_sem, ↓reduceIte, Nat.reduceEqDiff, Nat.reduceAdd, Nat.reduceMul, Nat.reduceLT, Nat.reduceLeDiff, reduceCtorEq, Int.reduceNe, Int.reduceEq, Int.reduceLT, Int.reduceLE, Int.reduceAdd, Int.reduceSub, Int.reduceMul, Int.reduceNeg, Int.reduceToNat, UInt8.reduceToNat, natLit, ty3, ty4, ty9]
  refine at_loopE fun c R hc hR => ?_
  have key : ∀ (m : Nat) (p : Nat) (j : Int) (x2 x4 x5 x9 x22 : Option V), s.size - p < m → j = p → p ≤ s.size + 4 → (∃ d, s.size - p < d ∧ clnG s d p = res) →
      zEv (leaveX (mkR Tryd.prog cfg ok [0, 2, 3, 4, 5, 9, 22] H.length) .pure H [ResultVar.tmp 2]) (mkR Tryd.prog cfg ok [0, 2, 3, 4, 5, 9, 22] H.length) (K.code (Code.loop c) :: K.blk 0 :: R) .nrm [some (.str s), x2, some (.int .i64 j), x4, x5, x9, x22] (H) = some (.int .i64 res, H) := by
    intro m
    induction m with
    | zero => intro p j x2 x4 x5 x9 x22 hm; omega
    | succ m ih =>
      intro p j x2 x4 x5 x9 x22 hm hj hp hf
      subst hj
      obtain ⟨d, hd, hf⟩ := hf
      obtain ⟨d, rfl⟩ : ∃ d', d = d' + 1 := ⟨d - 1, by omega⟩
      rw [clnG_s] at hf
      have q2 := runeA_n2 s p
      by_cases hlt : p < s.size
      · rw [if_pos hlt] at hf
        have t1 : ((p : Int) < s.size) = True := eq_true (by omega)
        by_cases hb : (runeA s p).2 = 0 ∨ ¬ mayB (runeA s p).1
        · rw [if_pos hb] at hf
          rw [zEv_round hc, ← hR]
          rcases hb with hb | hb
          · have t2 : ((runeA s (p : Int)).2 = 0) = True := eq_true hb
            simp (config := {contextual := true, maxSteps := 10000000, implicitDefEqProofs := false}) (disch := first | (and_intros <;> omega -splitDisjunctions) | (simp only [List.length_set, List.length_append, List.length_cons, List.length_nil]; and_intros <;> omega -splitDisjunctions) | fail) only [t1, t2, e1, e2, Tryd.f29, go_sem, ↓reduceIte, Nat.reduceEqDiff, Nat.reduceAdd, Nat.reduceMul, Nat.reduceLT, Nat.reduceLeDiff, reduceCtorEq, Int.reduceNe, Int.reduceEq, Int.reduceLT, Int.reduceLE, Int.reduceAdd, Int.reduceSub, Int.reduceMul, Int.reduceNeg, Int.reduceToNat, UInt8.reduceToNat, natLit, ty3, ty4, ty9]
            rw [← hf]
          · have t3 : mayB (runeA s (p : Int)).1 = False := eq_false hb
            by_cases hb0 : (runeA s (p : Int)).2 = 0
            · have t2 : ((runeA s (p : Int)).2 = 0) = True := eq_true hb0
              simp (config := {contextual := true, maxSteps := 10000000, implicitDefEqProofs := false}) (disch := first | (and_intros <;> omega -splitDisjunctions) | (simp only [List.length_set, List.length_append, List.length_cons, List.length_nil]; and_intros <;> omega -splitDisjunctions) | fail) only [t1, t2, e1, e2, Tryd.f29, go_sem, ↓reduceIte, Nat.reduceEqDiff, Nat.reduceAdd, Nat.reduceMul, Nat.reduceLT, Nat.reduceLeDiff, reduceCtorEq, Int.reduceNe, Int.reduceEq, Int.reduceLT, Int.reduceLE, Int.reduceAdd, Int.reduceSub, Int.reduceMul, Int.reduceNeg, Int.reduceToNat, UInt8.reduceToNat, natLit, ty3, ty4, ty9]
              rw [← hf]
            · have t2 : ((runeA s (p : Int)).2 = 0) = False := eq_false hb0
              simp (config := {contextual := true, maxSteps := 10000000, implicitDefEqProofs := false}) (disch := first | (and_intros <;> omega -splitDisjunctions) | (simp only [List.length_set, List.length_append, List.length_cons, List.length_nil]; and_intros <;> omega -splitDisjunctions) | fail) only [t1, t2, t3, e1, e2, not_false_eq_true, Tryd.f29, go_sem, ↓reduceIte, Nat.reduceEqDiff, Nat.reduceAdd, Nat.reduceMul, Nat.reduceLT, Nat.reduceLeDiff, reduceCtorEq, Int.reduceNe, Int.reduceEq, Int.reduceLT, Int.reduceLE, Int.reduceAdd, Int.reduceSub, Int.reduceMul, Int.reduceNeg, Int.reduceToNat, UInt8.reduceToNat, natLit, ty3, ty4, ty9]
              rw [← hf]
        · rw [if_neg hb] at hf
          have t2 : ((runeA s (p : Int)).2 = 0) = False := eq_false (fun h => hb (.inl h))
          have t3 : mayB (runeA s (p : Int)).1 = True := eq_true (Classical.byContradiction fun h => hb (.inr h))
          have hn0 : (runeA s (p : Int)).2 ≠ 0 := fun h => hb (.inl h)
          rw [zEv_round hc]
          simp (config := {contextual := true, maxSteps := 10000000, implicitDefEqProofs := false}) (disch := first | (and_intros <;> omega -splitDisjunctions) | (simp only [List.length_set, List.length_append, List.length_cons, List.length_nil]; and_intros <;> omega -splitDisjunctions) | fail) only [t1, t2, t3, e1, e2, not_true, Tryd.f29, go_sem, ↓reduceIte, Nat.reduceEqDiff, Nat.reduceAdd, Nat.reduceMul, Nat.reduceLT, Nat.reduceLeDiff, reduceCtorEq, Int.reduceNe, Int.reduceEq, Int.reduceLT, Int.reduceLE, Int.reduceAdd, Int.reduceSub, Int.reduceMul, Int.reduceNeg, Int.reduceToNat, UInt8.reduceToNat, natLit, ty3, ty4, ty9]
          exact ih (p + (runeA s p).2.toNat) _ _ _ _ _ _ (by omega) (by omega) (by omega) ⟨d, by omega, hf⟩
      · rw [if_neg hlt] at hf
        have t1 : ((p : Int) < s.size) = False := eq_false (by omega)
        rw [zEv_round hc, ← hR]
        simp (config := {contextual := true, maxSteps := 10000000, implicitDefEqProofs := false}) (disch := first | (and_intros <;> omega -splitDisjunctions) | (simp only [List.length_set, List.length_append, List.length_cons, List.length_nil]; and_intros <;> omega -splitDisjunctions) | fail) only [t1, Tryd.f29, go_sem, ↓reduceIte, Nat.reduceEqDiff, Nat.reduceAdd, Nat.reduceMul, Nat.reduceLT, Nat.reduceLeDiff, reduceCtorEq, Int.reduceNe, Int.reduceEq, Int.reduceLT, Int.reduceLE, Int.reduceAdd, Int.reduceSub, Int.reduceMul, Int.reduceNeg, Int.reduceToNat, UInt8.reduceToNat, natLit, ty3, ty4, ty9]
        rw [← hf]
  exact key (s.size + 1) 0 0 _ _ _ _ _ (by omega) rfl (by omega) ⟨s.size + 1, by omega, hres⟩
end Go.Proofs.YtcbjmggbbnpbpaaDoor.Lg
