/- CanWrite: whether an event can be written, as the program has it twice. No condition. -/
import Derived.Test.YtcbjmggbbnpbpaaDoorCNc7
import Derived.Test.YtcbjmggbbnpbpaaDoorCCut
import Derived.Test.YtcbjmggbbnpbpaaDoorCQuote
namespace Go.Proofs.YtcbjmggbbnpbpaaDoor.Lg
set_option linter.unusedSimpArgs false
set_option linter.unusedVariables false
set_option maxRecDepth 100000
set_option maxHeartbeats 40000000
open Go.Proofs.YtcbjmggbbnpbpaaDoor

def okB (b : UInt8) : Bool := decide (33 ≤ b.toNat ∧ b.toNat ≤ 126)
def seenT (s : ByteArray) : Bool := (bs s).all okB
def gtT (s : ByteArray) : Bool := (bs s).any (fun b => b == 62)
def wrE (e : Ev) : Bool := seenT e.anchor && seenT e.tag && !(decide (e.kind = 6) && !seenT e.text) && !gtT e.tag && decide (e.tag.size ≤ 57) && (decide (e.kind ≠ 5) || decide (quoT e.text ≠ ⟨#[]⟩))
theorem bs_drop {s : ByteArray} {k : Nat} (h : k < s.size) : (bs s).drop k = (bs s)[k]'h :: (bs s).drop (k + 1) := List.drop_eq_getElem_cons h
theorem okB_bA {s : ByteArray} {k : Nat} (h : k < s.size) : okB ((bs s)[k]'h) = !(decide (bA s k < 33) || decide (126 < bA s k)) := by
  rw [bA_nat h, Bool.eq_iff_iff]
  unfold okB
  simp only [decide_eq_true_eq, Bool.not_eq_true', Bool.or_eq_false_iff, decide_eq_false_iff_not]
  omega
theorem run_isPrint (s : ByteArray) (fl : Nat) (H : LH) (hs : s.size ≤ 9223372036854775807) : run 95 [.str s] fl H = some (.bool (seenT s), H) := by
  unfold run
  rw [Run_z Tryd.func95 rfl (by rfl : ok 95 = true) (by rfl : cfg.keep 95 = [0, 2, 3, 5, 6, 7, 18]) (by rfl : cfg.mode 95 = .pure) (by rfl : cfg.ord 95 = [])]
  simp (config := {contextual := true, maxSteps := 10000000, implicitDefEqProofs := false}) (disch := first | (and_intros <;> omega -splitDisjunctions) | (simp only [List.length_set, List.length_append, List.length_cons, List.length_nil]; and_intros <;> omega -splitDisjunctions) | fail) only [Tryd.f95, go_sem, ↓reduceIte, Nat.reduceEqDiff, Nat.reduceAdd, Nat.reduceMul, Nat.reduceLT, Nat.reduceLeDiff, reduceCtorEq, Int.reduceNe, Int.reduceEq, Int.reduceLT, Int.reduceLE, Int.reduceAdd, Int.reduceSub, Int.reduceMul, Int.reduceNeg, Int.reduceToNat, UInt8.reduceToNat, natLit, ty3, ty5, ty9]
  unfold seenT
  refine at_loopE fun c R hc hR => ?_
  have key : ∀ (m : Nat) (k : Nat) (kk : Int) (x2 x3 x7 x18 : Option V), s.size - k < m → kk = k → k ≤ s.size →
      zEv (leaveX (mkR Tryd.prog cfg ok [0, 2, 3, 5, 6, 7, 18] H.length) .pure H [ResultVar.tmp 2]) (mkR Tryd.prog cfg ok [0, 2, 3, 5, 6, 7, 18] H.length) (K.code (Code.loop c) :: K.blk 0 :: R) .nrm [some (.str s), x2, x3, some (.int .i64 s.size), some (.int .i64 kk), x7, x18] (H) = some (.bool (((bs s).drop k).all okB), H) := by
    intro m
    induction m with
    | zero => intro k kk x2 x3 x7 x18 hm; omega
    | succ m ih =>
      intro k kk x2 x3 x7 x18 hm hk hkl
      subst hk
      by_cases hlt : k < s.size
      rotate_left
      · have t1 : ((k : Int) < s.size) = False := eq_false (by omega)
        rw [List.drop_of_length_le (by rw [bs_len]; omega)]
        rw [zEv_round hc, ← hR]
        simp (config := {contextual := true, maxSteps := 10000000, implicitDefEqProofs := false}) (disch := first | (and_intros <;> omega -splitDisjunctions) | (simp only [List.length_set, List.length_append, List.length_cons, List.length_nil]; and_intros <;> omega -splitDisjunctions) | fail) only [t1, Tryd.f95, go_sem, ↓reduceIte, Nat.reduceEqDiff, Nat.reduceAdd, Nat.reduceMul, Nat.reduceLT, Nat.reduceLeDiff, reduceCtorEq, Int.reduceNe, Int.reduceEq, Int.reduceLT, Int.reduceLE, Int.reduceAdd, Int.reduceSub, Int.reduceMul, Int.reduceNeg, Int.reduceToNat, UInt8.reduceToNat, natLit, ty3, ty5, ty9]
        rfl
      have t1 : ((k : Int) < s.size) = True := eq_true (by omega)
      have l1 := bA_in (s := s) (p := k) (by omega) (by omega)
      have l2 := bA_hi s k
      rw [zEv_round hc, ← hR]
      simp (config := {contextual := true, maxSteps := 10000000, implicitDefEqProofs := false}) (disch := first | (and_intros <;> omega -splitDisjunctions) | (simp only [List.length_set, List.length_append, List.length_cons, List.length_nil]; and_intros <;> omega -splitDisjunctions) | fail) only [t1, Tryd.f95, go_sem, ↓reduceIte, Nat.reduceEqDiff, Nat.reduceAdd, Nat.reduceMul, Nat.reduceLT, Nat.reduceLeDiff, reduceCtorEq, Int.reduceNe, Int.reduceEq, Int.reduceLT, Int.reduceLE, Int.reduceAdd, Int.reduceSub, Int.reduceMul, Int.reduceNeg, Int.reduceToNat, UInt8.reduceToNat, natLit, ty3, ty5, ty9]
      rw [hR]
      rw [bs_drop hlt, List.all_cons, okB_bA hlt]
      refine ite_E (fun w => ?_) (fun w => ?_)
      · have : (!(decide (bA s k < 33) || decide (126 < bA s k))) = false := by rcases w with w | w <;> simp [w]
        rw [this, Bool.false_and]
      · have : (!(decide (bA s k < 33) || decide (126 < bA s k))) = true := by simp only [not_or] at w; simp [w.1, w.2]
        rw [this, Bool.true_and]
        exact ih (k + 1) ((k : Int) + 1) _ _ _ _ (by omega) (by omega) (by omega)
  exact key (s.size + 1) 0 0 _ _ _ _ (by omega) rfl (by omega)
theorem run_contains1 (s : ByteArray) (c : UInt8) (fl : Nat) (H : LH) : run 96 [.str s, .str ⟨#[c]⟩] fl H = some (.bool ((bs s).any (fun b => b == c)), H) := by
  have e1 := fun fl H => run_index1 s c fl H
  have e2 : ∀ fl H, run 124 [.str s, .str ⟨#[c]⟩] fl H = some (.int .i64 (idxB s c), H) := by
    intro fl H
    unfold run at *
    rw [Run_z Tryd.func124 rfl (by rfl : ok 124 = true) (by rfl : cfg.keep 124 = [0, 1, 4]) (by rfl : cfg.mode 124 = .pure) (by rfl : cfg.ord 124 = [])]
    simp (config := {contextual := true, maxSteps := 10000000, implicitDefEqProofs := false}) (disch := first | (and_intros <;> omega -splitDisjunctions) | (simp only [List.length_set, List.length_append, List.length_cons, List.length_nil]; and_intros <;> omega -splitDisjunctions) | fail) only [e1, Tryd.f124, go_sem, ↓reduceIte, Nat.reduceEqDiff, Nat.reduceAdd, Nat.reduceMul, Nat.reduceLT, Nat.reduceLeDiff, reduceCtorEq, Int.reduceNe, Int.reduceEq, Int.reduceLT, Int.reduceLE, Int.reduceAdd, Int.reduceSub, Int.reduceMul, Int.reduceNeg, Int.reduceToNat, UInt8.reduceToNat, natLit]
  have hany : (bs s).any (fun b => b == c) = decide (0 ≤ idxB s c) := by
    rw [Bool.eq_iff_iff, List.any_eq_true, decide_eq_true_iff]
    rcases idxB_or s c with ⟨h1, h2⟩ | ⟨i, h1, h2, h3, _⟩
    · rw [h1]
      constructor
      · rintro ⟨x, hx, e⟩
        obtain ⟨j, hj, rfl⟩ := List.getElem_of_mem hx
        have := h2 j hj
        rw [bA_nat hj] at this
        exact absurd (by rw [beq_iff_eq.1 e]) this
      · intro h; omega
    · rw [h1]
      refine ⟨fun _ => by omega, fun _ => ⟨(bs s)[i]'h2, List.getElem_mem _, ?_⟩⟩
      rw [bA_nat h2] at h3
      rw [beq_iff_eq]
      exact UInt8.toNat_inj.1 (by omega)
  rw [hany]
  unfold run at *
  rw [Run_z Tryd.func96 rfl (by rfl : ok 96 = true) (by rfl : cfg.keep 96 = [0, 1, 4]) (by rfl : cfg.mode 96 = .pure) (by rfl : cfg.ord 96 = [])]
  simp (config := {contextual := true, maxSteps := 10000000, implicitDefEqProofs := false}) (disch := first | (and_intros <;> omega -splitDisjunctions) | (simp only [List.length_set, List.length_append, List.length_cons, List.length_nil]; and_intros <;> omega -splitDisjunctions) | fail) only [e2, Tryd.f96, go_sem, ↓reduceIte, Nat.reduceEqDiff, Nat.reduceAdd, Nat.reduceMul, Nat.reduceLT, Nat.reduceLeDiff, reduceCtorEq, Int.reduceNe, Int.reduceEq, Int.reduceLT, Int.reduceLE, Int.reduceAdd, Int.reduceSub, Int.reduceMul, Int.reduceNeg, Int.reduceToNat, UInt8.reduceToNat, natLit, ty3]
theorem run_writable (e : Ev) (fl : Nat) (H : LH) (he : evCFit e) (ht : e.text.size ≤ 16777216) : run 50 [.agg (evC e)] fl H = some (.bool (wrE e), H) := by
  have e1 := fun fl H => run_isPrint e.anchor fl H he.2.1
  have e2 := fun fl H => run_isPrint e.text fl H he.1
  have e3 := fun fl H => run_isPrint e.tag fl H he.2.2
  have e4 := fun fl H => run_contains1 e.tag 62 fl H
  have e5 := fun fl H => run_imQuote e.text fl H ht
  have hz := he.2.2
  obtain ⟨kind, style, flag, text, anchor, tag, place, code⟩ := e
  obtain ⟨Z, hZ⟩ : ∃ Z, wrE ⟨kind, style, flag, text, anchor, tag, place, code⟩ = Z := ⟨_, rfl⟩
  rw [hZ]
  unfold wrE gtT at hZ
  unfold run evC at *
  simp only at *
  generalize seenT anchor = b1 at *
  generalize seenT text = b2 at *
  generalize seenT tag = b3 at *
  generalize List.any (bs tag) _ = b4 at *
  rw [Run_z Tryd.func50 rfl (by rfl : ok 50 = true) (by rfl : cfg.keep 50 = [0, 1, 2, 23, 32]) (by rfl : cfg.mode 50 = .pure) (by rfl : cfg.ord 50 = [])]
  cases b1 with
  | false =>
    simp (config := {contextual := true, maxSteps := 10000000, implicitDefEqProofs := false}) (disch := first | (and_intros <;> omega -splitDisjunctions) | (simp only [List.length_set, List.length_append, List.length_cons, List.length_nil]; and_intros <;> omega -splitDisjunctions) | fail) only [e1, e2, e3, e4, e5, Tryd.f50, go_sem, ↓reduceIte, Nat.reduceEqDiff, Nat.reduceAdd, Nat.reduceMul, Nat.reduceLT, Nat.reduceLeDiff, reduceCtorEq, Int.reduceNe, Int.reduceEq, Int.reduceLT, Int.reduceLE, Int.reduceAdd, Int.reduceSub, Int.reduceMul, Int.reduceNeg, Int.reduceToNat, UInt8.reduceToNat, natLit, ty3, ty4, ty9, ty65]
    rw [← hZ]; rfl
  | true =>
    by_cases h6 : kind = 6
    · subst h6
      simp (config := {contextual := true, maxSteps := 10000000, implicitDefEqProofs := false}) (disch := first | (and_intros <;> omega -splitDisjunctions) | (simp only [List.length_set, List.length_append, List.length_cons, List.length_nil]; and_intros <;> omega -splitDisjunctions) | fail) only [e1, e2, e3, e4, e5, Tryd.f50, go_sem, ↓reduceIte, Nat.reduceEqDiff, Nat.reduceAdd, Nat.reduceMul, Nat.reduceLT, Nat.reduceLeDiff, reduceCtorEq, Int.reduceNe, Int.reduceEq, Int.reduceLT, Int.reduceLE, Int.reduceAdd, Int.reduceSub, Int.reduceMul, Int.reduceNeg, Int.reduceToNat, UInt8.reduceToNat, natLit, ty3, ty4, ty9, ty65]
      rw [← hZ]
      cases b2 <;> cases b3 <;> cases b4 <;> by_cases w : 57 < (tag.size : Int) <;> first | (simp [w, show ¬ tag.size ≤ 57 by omega]; done) | (simp [w, show tag.size ≤ 57 by omega]; done) | (by_cases h5 : kind = 5 <;> simp [w, show tag.size ≤ 57 by omega, h5, h6])
    · simp (config := {contextual := true, maxSteps := 10000000, implicitDefEqProofs := false}) (disch := first | (and_intros <;> omega -splitDisjunctions) | (simp only [List.length_set, List.length_append, List.length_cons, List.length_nil]; and_intros <;> omega -splitDisjunctions) | fail) only [h6, e1, e2, e3, e4, e5, Tryd.f50, go_sem, ↓reduceIte, Nat.reduceEqDiff, Nat.reduceAdd, Nat.reduceMul, Nat.reduceLT, Nat.reduceLeDiff, reduceCtorEq, Int.reduceNe, Int.reduceEq, Int.reduceLT, Int.reduceLE, Int.reduceAdd, Int.reduceSub, Int.reduceMul, Int.reduceNeg, Int.reduceToNat, UInt8.reduceToNat, natLit, ty3, ty4, ty9, ty65]
      rw [← hZ]
      cases b2 <;> cases b3 <;> cases b4 <;> by_cases w : 57 < (tag.size : Int) <;> first | (simp [w, show ¬ tag.size ≤ 57 by omega]; done) | (simp [w, show tag.size ≤ 57 by omega]; done) | (by_cases h5 : kind = 5 <;> simp [w, show tag.size ≤ 57 by omega, h5, h6])
theorem run_l20Seen (s : ByteArray) (fl : Nat) (H : LH) (hs : s.size ≤ 9223372036854775807) : run 90 [.str s] fl H = some (.bool (seenT s), H) := by
  unfold run
  rw [Run_z Tryd.func90 rfl (by rfl : ok 90 = true) (by rfl : cfg.keep 90 = [0, 2, 3, 7, 19]) (by rfl : cfg.mode 90 = .pure) (by rfl : cfg.ord 90 = [])]
  simp (config := {contextual := true, maxSteps := 10000000, implicitDefEqProofs := false}) (disch := first | (and_intros <;> omega -splitDisjunctions) | (simp only [List.length_set, List.length_append, List.length_cons, List.length_nil]; and_intros <;> omega -splitDisjunctions) | fail) only [Tryd.f90, go_sem, ↓reduceIte, Nat.reduceEqDiff, Nat.reduceAdd, Nat.reduceMul, Nat.reduceLT, Nat.reduceLeDiff, reduceCtorEq, Int.reduceNe, Int.reduceEq, Int.reduceLT, Int.reduceLE, Int.reduceAdd, Int.reduceSub, Int.reduceMul, Int.reduceNeg, Int.reduceToNat, UInt8.reduceToNat, natLit, ty3, ty5, ty9]
  unfold seenT
  refine at_loopE fun c R hc hR => ?_
  have key : ∀ (m : Nat) (k : Nat) (kk : Int) (x2 x7 x19 : Option V), s.size - k < m → kk = k → k ≤ s.size →
      zEv (leaveX (mkR Tryd.prog cfg ok [0, 2, 3, 7, 19] H.length) .pure H [ResultVar.tmp 2]) (mkR Tryd.prog cfg ok [0, 2, 3, 7, 19] H.length) (K.code (Code.loop c) :: K.blk 0 :: R) .nrm [some (.str s), x2, some (.int .i64 kk), x7, x19] (H) = some (.bool (((bs s).drop k).all okB), H) := by
    intro m
    induction m with
    | zero => intro k kk x2 x7 x19 hm; omega
    | succ m ih =>
      intro k kk x2 x7 x19 hm hk hkl
      subst hk
      by_cases hlt : k < s.size
      rotate_left
      · have t1 : ((k : Int) < s.size) = False := eq_false (by omega)
        rw [List.drop_of_length_le (by rw [bs_len]; omega)]
        rw [zEv_round hc, ← hR]
        simp (config := {contextual := true, maxSteps := 10000000, implicitDefEqProofs := false}) (disch := first | (and_intros <;> omega -splitDisjunctions) | (simp only [List.length_set, List.length_append, List.length_cons, List.length_nil]; and_intros <;> omega -splitDisjunctions) | fail) only [t1, Tryd.f90, go_sem, ↓reduceIte, Nat.reduceEqDiff, Nat.reduceAdd, Nat.reduceMul, Nat.reduceLT, Nat.reduceLeDiff, reduceCtorEq, Int.reduceNe, Int.reduceEq, Int.reduceLT, Int.reduceLE, Int.reduceAdd, Int.reduceSub, Int.reduceMul, Int.reduceNeg, Int.reduceToNat, UInt8.reduceToNat, natLit, ty3, ty5, ty9]
        rfl
      have t1 : ((k : Int) < s.size) = True := eq_true (by omega)
      have l1 := bA_in (s := s) (p := k) (by omega) (by omega)
      have l2 := bA_hi s k
      rw [zEv_round hc, ← hR]
      simp (config := {contextual := true, maxSteps := 10000000, implicitDefEqProofs := false}) (disch := first | (and_intros <;> omega -splitDisjunctions) | (simp only [List.length_set, List.length_append, List.length_cons, List.length_nil]; and_intros <;> omega -splitDisjunctions) | fail) only [t1, Tryd.f90, go_sem, ↓reduceIte, Nat.reduceEqDiff, Nat.reduceAdd, Nat.reduceMul, Nat.reduceLT, Nat.reduceLeDiff, reduceCtorEq, Int.reduceNe, Int.reduceEq, Int.reduceLT, Int.reduceLE, Int.reduceAdd, Int.reduceSub, Int.reduceMul, Int.reduceNeg, Int.reduceToNat, UInt8.reduceToNat, natLit, ty3, ty5, ty9]
      rw [hR]
      rw [bs_drop hlt, List.all_cons, okB_bA hlt]
      refine ite_E (fun w => ?_) (fun w => ?_)
      · have : (!(decide (bA s k < 33) || decide (126 < bA s k))) = false := by rcases w with w | w <;> simp [w]
        rw [this, Bool.false_and]
      · have : (!(decide (bA s k < 33) || decide (126 < bA s k))) = true := by simp only [not_or] at w; simp [w.1, w.2]
        rw [this, Bool.true_and]
        exact ih (k + 1) ((k : Int) + 1) _ _ _ (by omega) (by omega) (by omega)
  exact key (s.size + 1) 0 0 _ _ _ (by omega) rfl (by omega)
theorem run_l20Event (e : Ev) (fl : Nat) (H : LH) (he : evCFit e) (ht : e.text.size ≤ 16777216) : run 44 [.agg (evC e)] fl H = some (.bool (wrE e), H) := by
  have e1 := fun fl H => run_l20Seen e.anchor fl H he.2.1
  have e2 := fun fl H => run_l20Seen e.text fl H he.1
  have e3 := fun fl H => run_l20Seen e.tag fl H he.2.2
  have e5 := fun fl H => run_spQuote e.text fl H ht
  have hz := he.2.2
  obtain ⟨kind, style, flag, text, anchor, tag, place, code⟩ := e
  obtain ⟨Z, hZ⟩ : ∃ Z, wrE ⟨kind, style, flag, text, anchor, tag, place, code⟩ = Z := ⟨_, rfl⟩
  rw [hZ]
  unfold wrE gtT at hZ
  unfold run evC at *
  simp only at *
  rw [Run_z Tryd.func44 rfl (by rfl : ok 44 = true) (by rfl : cfg.keep 44 = [0, 1, 2, 3, 8, 15, 31, 34]) (by rfl : cfg.mode 44 = .pure) (by rfl : cfg.ord 44 = [])]
  simp (config := {contextual := true, maxSteps := 10000000, implicitDefEqProofs := false}) (disch := first | (and_intros <;> omega -splitDisjunctions) | (simp only [List.length_set, List.length_append, List.length_cons, List.length_nil]; and_intros <;> omega -splitDisjunctions) | fail) only [Tryd.f44, go_sem, ↓reduceIte, Nat.reduceEqDiff, Nat.reduceAdd, Nat.reduceMul, Nat.reduceLT, Nat.reduceLeDiff, reduceCtorEq, Int.reduceNe, Int.reduceEq, Int.reduceLT, Int.reduceLE, Int.reduceAdd, Int.reduceSub, Int.reduceMul, Int.reduceNeg, Int.reduceToNat, UInt8.reduceToNat, natLit, ty3, ty4, ty5, ty9, ty65]
  refine at_loopE fun c R hc hR => ?_
  have key : ∀ (m : Nat) (k : Nat) (kk : Int) (x0 x2 x8 x15 x31 x34 : Option V), tag.size - k < m → kk = k → k ≤ tag.size → (bs tag).any (fun b => b == 62) = ((bs tag).drop k).any (fun b => b == 62) →
      zEv (leaveX (mkR Tryd.prog cfg ok [0, 1, 2, 3, 8, 15, 31, 34] H.length) .pure H [ResultVar.tmp 2]) (mkR Tryd.prog cfg ok [0, 1, 2, 3, 8, 15, 31, 34] H.length) (K.code (Code.loop c) :: K.blk 0 :: R) .nrm [x0, some (.ptr H.length 0), x2, some (.int .i64 kk), x8, x15, x31, x34] (H ++ [.cells [.int .i64 kind, .int .i64 style, .bool flag, .str text, .str anchor, .str tag, .int .i64 place, .int .i64 code]]) = some (.bool Z, H) := by
    intro m
    induction m with
    | zero => intro k kk x0 x2 x8 x15 x31 x34 hm; omega
    | succ m ih =>
      intro k kk x0 x2 x8 x15 x31 x34 hm hk hkl hg
      subst hk
      by_cases hlt : k < tag.size
      rotate_left
      · have t1 : ((k : Int) < tag.size) = False := eq_false (by omega)
        rw [List.drop_of_length_le (by rw [bs_len]; omega), List.any_nil] at hg
        rw [hg] at hZ
        generalize seenT anchor = b1 at *
        generalize seenT text = b2 at *
        generalize seenT tag = b3 at *
        rw [zEv_round hc, ← hR]
        cases b1 with
        | false =>
          simp (config := {contextual := true, maxSteps := 10000000, implicitDefEqProofs := false}) (disch := first | (and_intros <;> omega -splitDisjunctions) | (simp only [List.length_set, List.length_append, List.length_cons, List.length_nil]; and_intros <;> omega -splitDisjunctions) | fail) only [t1, e1, e2, e3, e5, Tryd.f44, go_sem, ↓reduceIte, Nat.reduceEqDiff, Nat.reduceAdd, Nat.reduceMul, Nat.reduceLT, Nat.reduceLeDiff, reduceCtorEq, Int.reduceNe, Int.reduceEq, Int.reduceLT, Int.reduceLE, Int.reduceAdd, Int.reduceSub, Int.reduceMul, Int.reduceNeg, Int.reduceToNat, UInt8.reduceToNat, natLit, ty3, ty4, ty5, ty9, ty65]
          rw [← hZ]; rfl
        | true =>
          by_cases h6 : kind = 6
          · subst h6
            simp (config := {contextual := true, maxSteps := 10000000, implicitDefEqProofs := false}) (disch := first | (and_intros <;> omega -splitDisjunctions) | (simp only [List.length_set, List.length_append, List.length_cons, List.length_nil]; and_intros <;> omega -splitDisjunctions) | fail) only [t1, e1, e2, e3, e5, Tryd.f44, go_sem, ↓reduceIte, Nat.reduceEqDiff, Nat.reduceAdd, Nat.reduceMul, Nat.reduceLT, Nat.reduceLeDiff, reduceCtorEq, Int.reduceNe, Int.reduceEq, Int.reduceLT, Int.reduceLE, Int.reduceAdd, Int.reduceSub, Int.reduceMul, Int.reduceNeg, Int.reduceToNat, UInt8.reduceToNat, natLit, ty3, ty4, ty5, ty9, ty65]
            rw [← hZ]
            cases b2 <;> cases b3 <;> by_cases w : 57 < (tag.size : Int) <;> first | (simp [w, show ¬ tag.size ≤ 57 by omega]; done) | (simp [w, show tag.size ≤ 57 by omega]; done) | (by_cases h5 : kind = 5 <;> simp [w, show tag.size ≤ 57 by omega, h5, h6])
          · simp (config := {contextual := true, maxSteps := 10000000, implicitDefEqProofs := false}) (disch := first | (and_intros <;> omega -splitDisjunctions) | (simp only [List.length_set, List.length_append, List.length_cons, List.length_nil]; and_intros <;> omega -splitDisjunctions) | fail) only [t1, h6, e1, e2, e3, e5, Tryd.f44, go_sem, ↓reduceIte, Nat.reduceEqDiff, Nat.reduceAdd, Nat.reduceMul, Nat.reduceLT, Nat.reduceLeDiff, reduceCtorEq, Int.reduceNe, Int.reduceEq, Int.reduceLT, Int.reduceLE, Int.reduceAdd, Int.reduceSub, Int.reduceMul, Int.reduceNeg, Int.reduceToNat, UInt8.reduceToNat, natLit, ty3, ty4, ty5, ty9, ty65]
            rw [← hZ]
            cases b2 <;> cases b3 <;> by_cases w : 57 < (tag.size : Int) <;> first | (simp [w, show ¬ tag.size ≤ 57 by omega]; done) | (simp [w, show tag.size ≤ 57 by omega]; done) | (by_cases h5 : kind = 5 <;> simp [w, show tag.size ≤ 57 by omega, h5, h6])
      have t1 : ((k : Int) < tag.size) = True := eq_true (by omega)
      have l1 := bA_in (s := tag) (p := k) (by omega) (by omega)
      have l2 := bA_hi tag k
      rw [bs_drop hlt, List.any_cons] at hg
      have hb : ((bs tag)[k]'hlt == 62) = decide (bA tag k = 62) := by
        rw [bA_nat hlt, Bool.eq_iff_iff, beq_iff_eq, decide_eq_true_iff]
        constructor
        · intro h; rw [h]; rfl
        · intro h; exact UInt8.toNat_inj.1 (by have : ((62 : UInt8).toNat : Int) = 62 := rfl; omega)
      rw [hb] at hg
      rw [zEv_round hc, ← hR]
      simp (config := {contextual := true, maxSteps := 10000000, implicitDefEqProofs := false}) (disch := first | (and_intros <;> omega -splitDisjunctions) | (simp only [List.length_set, List.length_append, List.length_cons, List.length_nil]; and_intros <;> omega -splitDisjunctions) | fail) only [t1, Tryd.f44, go_sem, ↓reduceIte, Nat.reduceEqDiff, Nat.reduceAdd, Nat.reduceMul, Nat.reduceLT, Nat.reduceLeDiff, reduceCtorEq, Int.reduceNe, Int.reduceEq, Int.reduceLT, Int.reduceLE, Int.reduceAdd, Int.reduceSub, Int.reduceMul, Int.reduceNeg, Int.reduceToNat, UInt8.reduceToNat, natLit, ty3, ty4, ty5, ty9, ty65]
      rw [hR]
      refine ite_E (fun w => ?_) (fun w => ?_)
      · rw [decide_eq_true w, Bool.true_or] at hg
        rw [← hZ, hg]; simp
      · rw [decide_eq_false w, Bool.false_or] at hg
        exact ih (k + 1) ((k : Int) + 1) _ _ _ _ _ _ (by omega) (by omega) (by omega) hg
  exact key (tag.size + 1) 0 0 _ _ _ _ _ _ (by omega) rfl (by omega) (by rw [List.drop_zero])
end Go.Proofs.YtcbjmggbbnpbpaaDoor.Lg
