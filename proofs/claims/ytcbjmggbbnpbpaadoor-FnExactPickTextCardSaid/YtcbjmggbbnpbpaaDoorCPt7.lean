/- Texts of hits: both sides, the law. No condition. -/
import Derived.Test.YtcbjmggbbnpbpaaDoorCPt5
import Derived.Test.YtcbjmggbbnpbpaaDoorCPt6
import Derived.Test.YtcbjmggbbnpbpaaDoorCTPat
namespace Go.Proofs.YtcbjmggbbnpbpaaDoor.Lg
set_option linter.unusedSimpArgs false
set_option linter.unusedVariables false
set_option maxRecDepth 100000
set_option maxHeartbeats 40000000
open Go.Proofs.YtcbjmggbbnpbpaaDoor
set_option linter.unusedSectionVars false
variable [ML]

/-- what a hit writes -/
def hitT (h : Ht) : ByteArray := if numT h.doc = ⟨#[]⟩ ∨ pathT h.path = ⟨#[]⟩ ∨ valT h.val = ⟨#[]⟩ then ⟨#[]⟩ else numT h.doc ++ ⟨#[32]⟩ ++ pathT h.path ++ ⟨#[32]⟩ ++ valT h.val
theorem pathT_sz (l : List Sg) (hz : ∀ s ∈ l, s.text.size ≤ 1048576) : (pathT l).size ≤ 125829840 := by
  have h1 := pathB_sz l hz
  have h2 := s47
  have h0 : (⟨#[]⟩ : ByteArray).size = 0 := rfl
  unfold pathT
  by_cases h : l.length ≤ 60 ∧ l.all sgOk = true
  · rw [if_pos h]
    by_cases h3 : l = []
    · rw [if_pos h3]; omega
    · rw [if_neg h3]; omega
  · rw [if_neg h]; omega
theorem s32 : (⟨#[32]⟩ : ByteArray).size = 1 := rfl
theorem run_imPickText {H : LH} {c : HC} {h : Ht} (r : RelA H c h) (fl : Nat) (hl : h.path.length ≤ 1048576) (hz : ∀ s ∈ h.path, s.text.size ≤ 1048576) (hs : h.val.s.size ≤ 1048576) :
    run 12 [.agg (htC c)] fl H = some (.str (hitT h), H) := by
  have e1 := fun fl H => run_imNum h.doc fl H
  have e2 := fun L fl => run_imPathText c.pv h.path fl (H ++ L) r.path.left hl hz
  have e3 := fun fl H => run_imValueText h.val fl H hs
  have f1 := r.path.isTup
  have n1 := numT_few h.doc; have n2 := pathT_sz h.path hz; have n3 := valT_sz h.val
  have k1 := r.doc; have k2 := r.val; have k0 := s32
  have hap : ∀ a b : ByteArray, (a ++ b).size = a.size + b.size := fun a b => ByteArray.size_append
  obtain ⟨dk, dp, dv⟩ := c
  obtain ⟨mk, ml, mv⟩ := h
  dsimp only [htC] at *
  subst k1; subst k2
  unfold hitT
  dsimp only
  unfold vaC at e3
  generalize numT dk = A at *
  generalize pathT ml = B at *
  generalize valT dv = C at *
  unfold run at *
  rw [Run_z Tryd.func12 rfl (by rfl : ok 12 = true) (by rfl : cfg.keep 12 = [0, 1, 2, 3, 4, 5, 24]) (by rfl : cfg.mode 12 = .pure) (by rfl : cfg.ord 12 = [])]
  simp (config := {contextual := true, maxSteps := 10000000, implicitDefEqProofs := false}) (disch := first | (and_intros <;> omega -splitDisjunctions) | (simp only [List.length_set, List.length_append, List.length_cons, List.length_nil]; and_intros <;> omega -splitDisjunctions) | fail) only [e1, e2, e3, f1, k0, n1, n2, n3, Tryd.f12, go_sem, ↓reduceIte, Nat.reduceEqDiff, Nat.reduceAdd, Nat.reduceMul, Nat.reduceLT, Nat.reduceLeDiff, reduceCtorEq, Int.reduceNe, Int.reduceEq, Int.reduceLT, Int.reduceLE, Int.reduceAdd, Int.reduceSub, Int.reduceMul, Int.reduceNeg, Int.reduceToNat, UInt8.reduceToNat, natLit, ty3, ty4, ty9, ty29, ty30, ty32, ty102]
  grind
theorem run_spPickText {H : LH} {c : HC} {h : Ht} (r : RelA H c h) (fl : Nat) (hl : h.path.length ≤ 1048576) (hz : ∀ s ∈ h.path, s.text.size ≤ 1048576) (hs : h.val.s.size ≤ 1048576) :
    run 10 [.agg (htC c)] fl H = some (.str (hitT h), H) := by
  have e1 := fun fl H => run_spNum h.doc fl H
  have e2 := fun L fl => run_spPathText c.pv h.path fl (H ++ L) r.path.left hl hz
  have e3 := fun fl H => run_spValueText h.val fl H hs
  have f1 := r.path.isTup
  have n1 := numT_few h.doc; have n2 := pathT_sz h.path hz; have n3 := valT_sz h.val
  have k1 := r.doc; have k2 := r.val; have k0 := s32
  obtain ⟨dk, dp, dv⟩ := c
  obtain ⟨mk, ml, mv⟩ := h
  dsimp only [htC] at *
  subst k1; subst k2
  unfold hitT
  dsimp only
  unfold vaC at e3
  generalize numT dk = A at *
  generalize pathT ml = B at *
  generalize valT dv = C at *
  unfold run at *
  rw [Run_z Tryd.func10 rfl (by rfl : ok 10 = true) (by rfl : cfg.keep 10 = [0, 1, 2, 3, 4, 5, 24]) (by rfl : cfg.mode 10 = .pure) (by rfl : cfg.ord 10 = [])]
  simp (config := {contextual := true, maxSteps := 10000000, implicitDefEqProofs := false}) (disch := first | (and_intros <;> omega -splitDisjunctions) | (simp only [List.length_set, List.length_append, List.length_cons, List.length_nil]; and_intros <;> omega -splitDisjunctions) | fail) only [e1, e2, e3, f1, k0, n1, n2, n3, Tryd.f10, go_sem, ↓reduceIte, Nat.reduceEqDiff, Nat.reduceAdd, Nat.reduceMul, Nat.reduceLT, Nat.reduceLeDiff, reduceCtorEq, Int.reduceNe, Int.reduceEq, Int.reduceLT, Int.reduceLE, Int.reduceAdd, Int.reduceSub, Int.reduceMul, Int.reduceNeg, Int.reduceToNat, UInt8.reduceToNat, natLit, ty3, ty4, ty9, ty29, ty30, ty32, ty102]
  grind
theorem run_toValue (v : Val) (fl : Nat) (H : LH) : run 36 [.agg (vaC v)] fl H = some (.agg (vaC v), H) := by
  unfold run vaC
  rw [Run_z Tryd.func36 rfl (by rfl : ok 36 = true) (by rfl : cfg.keep 36 = [0, 1, 2, 3]) (by rfl : cfg.mode 36 = .pure) (by rfl : cfg.ord 36 = [])]
  simp (config := {contextual := true, maxSteps := 10000000, implicitDefEqProofs := false}) (disch := first | (and_intros <;> omega -splitDisjunctions) | (simp only [List.length_set, List.length_append, List.length_cons, List.length_nil]; and_intros <;> omega -splitDisjunctions) | fail) only [Tryd.f36, go_sem, ↓reduceIte, Nat.reduceEqDiff, Nat.reduceAdd, Nat.reduceMul, Nat.reduceLT, Nat.reduceLeDiff, reduceCtorEq, Int.reduceNe, Int.reduceEq, Int.reduceLT, Int.reduceLE, Int.reduceAdd, Int.reduceSub, Int.reduceMul, Int.reduceNeg, Int.reduceToNat, UInt8.reduceToNat, natLit, ty3, ty4, ty9, ty24, ty30]
theorem run_toHit {H : LH} {c : HC} {h : Ht} (r : RelA H c h) (fl : Nat) (hl : h.path.length ≤ 1048576) :
    Ret (fun w H' => ∃ c', w = .agg (htC c') ∧ Hx H H' ∧ RelA H' c' h) (run 11 [.agg (htC c)] fl H) := by
  have e1 := fun L fl => run_toSegS c.pv h.path fl (H ++ L) r.path.left hl
  have e2 := fun fl H => run_toValue c.val fl H
  have f1 := r.path.isTup
  have f2 := r.path.one
  have k1 := r.doc; have k2 := r.val
  obtain ⟨dk, dp, dv⟩ := c
  obtain ⟨mk, ml, mv⟩ := h
  dsimp only [htC] at *
  subst k1; subst k2
  unfold vaC at e2
  unfold run at *
  rw [Run_z Tryd.func11 rfl (by rfl : ok 11 = true) (by rfl : cfg.keep 11 = [0, 1, 2, 3]) (by rfl : cfg.mode 11 = .fresh) (by rfl : cfg.ord 11 = [])]
  simp (config := {contextual := true, maxSteps := 10000000, implicitDefEqProofs := false}) (disch := first | (and_intros <;> omega -splitDisjunctions) | (simp only [List.length_set, List.length_append, List.length_cons, List.length_nil]; and_intros <;> omega -splitDisjunctions) | fail) only [e1, e2, f1, f2, Tryd.f11, go_sem, ↓reduceIte, Nat.reduceEqDiff, Nat.reduceAdd, Nat.reduceMul, Nat.reduceLT, Nat.reduceLeDiff, reduceCtorEq, Int.reduceNe, Int.reduceEq, Int.reduceLT, Int.reduceLE, Int.reduceAdd, Int.reduceSub, Int.reduceMul, Int.reduceNeg, Int.reduceToNat, UInt8.reduceToNat, natLit, ty3, ty4, ty9, ty22, ty24, ty26, ty29, ty30, ty32, ty101, ty102]
  exact ⟨⟨dk, .sl (H.length + 3) 0 3 ml.length ml.length, dv⟩, rfl, Hx.app, rfl, rfl, Own.at (fl := 0) (.inr ⟨H.length + 3, rfl, by rw [cellsAt_app]; rfl, Nat.zero_le _⟩) sgC_len⟩
theorem RelA.ext {A B : LH} {c : HC} {h : Ht} (r : RelA A c h) (e : Hx A B) : RelA B c h := ⟨r.doc, r.val, r.path.ext e⟩
theorem sumZ_mh {α : Type} {w : α → Int} (h : ∀ x, 0 ≤ w x) {xs : List α} {x : α} (hx : x ∈ xs) : w x ≤ sumZ w xs := by
  induction xs with
  | nil => cases hx
  | cons y ys ih =>
    have := sumZ_nonneg h ys
    have := h y
    simp only [sumZ]
    rcases List.mem_cons.1 hx with rfl | hx
    · omega
    · have := ih hx; omega
/-- a hit's measure -/
def htW (h : Ht) : Int := h.path.length + sumZ sgCW h.path + h.val.s.size
theorem run_szValue (v : Val) (left : Int) (fl : Nat) (H : LH) (h0 : 0 ≤ left) (h2 : left ≤ 1048576) (hs : v.s.size ≤ 9223372036854775807) :
    run 31 [.agg (vaC v), .int .i64 left] fl H = some (.int .i64 (if left < v.s.size then -1 else left - v.s.size), H) := by
  unfold run vaC
  rw [Run_z Tryd.func31 rfl (by rfl : ok 31 = true) (by rfl : cfg.keep 31 = [0, 1, 2, 4, 11]) (by rfl : cfg.mode 31 = .pure) (by rfl : cfg.ord 31 = [])]
  simp (config := {contextual := true, maxSteps := 10000000, implicitDefEqProofs := false}) (disch := first | (and_intros <;> omega -splitDisjunctions) | (simp only [List.length_set, List.length_append, List.length_cons, List.length_nil]; and_intros <;> omega -splitDisjunctions) | fail) only [Tryd.f31, go_sem, ↓reduceIte, Nat.reduceEqDiff, Nat.reduceAdd, Nat.reduceMul, Nat.reduceLT, Nat.reduceLeDiff, reduceCtorEq, Int.reduceNe, Int.reduceEq, Int.reduceLT, Int.reduceLE, Int.reduceAdd, Int.reduceSub, Int.reduceMul, Int.reduceNeg, Int.reduceToNat, UInt8.reduceToNat, natLit, ty3, ty4, ty9, ty24]
  (repeat' split) <;> first | (exfalso; omega) | rfl | (congr 3; omega)
theorem run_szHit {H : LH} {c : HC} {h : Ht} (r : RelA H c h) (fl : Nat) (left : Int) (h0 : 0 ≤ left) (h2 : left ≤ 1048576) (hl : h.path.length ≤ 9223372036854775807) (hf : ∀ x ∈ h.path, sgCFit x) (hs : h.val.s.size ≤ 9223372036854775807) :
    run 9 [.agg (htC c), .int .i64 left] fl H = some (.int .i64 (if left < htW h then -1 else left - htW h), H) := by
  have e1 := fun L l hl0 hl2 fl => run_szSegS c.pv h.path l fl (H ++ L) r.path.left hl0 hl2 hl hf
  have e2 := fun l hl0 hl2 fl H => run_szValue h.val l fl H hl0 hl2 hs
  have f1 := r.path.isTup
  have f2 := r.path.one
  have k1 := r.doc; have k2 := r.val
  have w1 := sumZ_nonneg (w := sgCW) (fun x => by unfold sgCW; omega) h.path
  obtain ⟨dk, dp, dv⟩ := c
  obtain ⟨mk, ml, mv⟩ := h
  dsimp only [htC] at *
  subst k1; subst k2
  unfold htW
  dsimp only
  unfold vaC at e2
  have hp : (0 : Int) ≤ ml.length := by omega
  generalize hW : (ml.length : Int) + sumZ sgCW ml = W at *
  have hW0 : 0 ≤ W := by omega
  have e3 := fun L fl => e1 L left h0 h2 fl
  clear e1
  unfold run at *
  rw [Run_z Tryd.func9 rfl (by rfl : ok 9 = true) (by rfl : cfg.keep 9 = [0, 1, 2, 4, 10, 16]) (by rfl : cfg.mode 9 = .pure) (by rfl : cfg.ord 9 = [])]
  by_cases a : left < W
  · simp only [if_pos a] at e3
    rw [if_pos (by omega)]
    simp (config := {contextual := true, maxSteps := 10000000, implicitDefEqProofs := false}) (disch := first | (and_intros <;> omega -splitDisjunctions) | (simp only [List.length_set, List.length_append, List.length_cons, List.length_nil]; and_intros <;> omega -splitDisjunctions) | fail) only [e3, f1, f2, Tryd.f9, go_sem, ↓reduceIte, Nat.reduceEqDiff, Nat.reduceAdd, Nat.reduceMul, Nat.reduceLT, Nat.reduceLeDiff, reduceCtorEq, Int.reduceNe, Int.reduceEq, Int.reduceLT, Int.reduceLE, Int.reduceAdd, Int.reduceSub, Int.reduceMul, Int.reduceNeg, Int.reduceToNat, UInt8.reduceToNat, natLit, ty3, ty4, ty9, ty22, ty24, ty26, ty101]
  · simp only [if_neg a] at e3
    have e4 := fun fl H => e2 (left - W) (by omega) (by omega) fl H
    clear e2
    have b1 : (left - W < 0) = False := eq_false (by omega)
    by_cases b : left - W < dv.s.size
    · simp only [if_pos b] at e4
      rw [if_pos (by omega)]
      simp (config := {contextual := true, maxSteps := 10000000, implicitDefEqProofs := false}) (disch := first | (and_intros <;> omega -splitDisjunctions) | (simp only [List.length_set, List.length_append, List.length_cons, List.length_nil]; and_intros <;> omega -splitDisjunctions) | fail) only [e3, e4, f1, f2, b1, Tryd.f9, go_sem, ↓reduceIte, Nat.reduceEqDiff, Nat.reduceAdd, Nat.reduceMul, Nat.reduceLT, Nat.reduceLeDiff, reduceCtorEq, Int.reduceNe, Int.reduceEq, Int.reduceLT, Int.reduceLE, Int.reduceAdd, Int.reduceSub, Int.reduceMul, Int.reduceNeg, Int.reduceToNat, UInt8.reduceToNat, natLit, ty3, ty4, ty9, ty22, ty24, ty26, ty101]
    · simp only [if_neg b] at e4
      rw [if_neg (by omega)]
      have b2 : (left - W - dv.s.size < 0) = False := eq_false (by omega)
      simp (config := {contextual := true, maxSteps := 10000000, implicitDefEqProofs := false}) (disch := first | (and_intros <;> omega -splitDisjunctions) | (simp only [List.length_set, List.length_append, List.length_cons, List.length_nil]; and_intros <;> omega -splitDisjunctions) | fail) only [e3, e4, f1, f2, b1, b2, Tryd.f9, go_sem, ↓reduceIte, Nat.reduceEqDiff, Nat.reduceAdd, Nat.reduceMul, Nat.reduceLT, Nat.reduceLeDiff, reduceCtorEq, Int.reduceNe, Int.reduceEq, Int.reduceLT, Int.reduceLE, Int.reduceAdd, Int.reduceSub, Int.reduceMul, Int.reduceNeg, Int.reduceToNat, UInt8.reduceToNat, natLit, ty3, ty4, ty9, ty22, ty24, ty26, ty101]
      congr 3
      omega
theorem run_FnExactPickText {H : LH} {c : HC} {h : Ht} (r : RelA H c h) (fl : Nat) (hl : h.path.length ≤ 9223372036854775807) (hf : ∀ x ∈ h.path, sgCFit x) (hs : h.val.s.size ≤ 9223372036854775807) :
    run 3 [.agg (htC c)] fl H = some (.bool true, H) := by
  have r0 := r.ext (Hx.app (L := [.cells (htC c)]))
  have e0 := run_szHit r0 H.length 1048576 (by decide) (by decide) hl hf hs
  have w1 := sumZ_nonneg (w := sgCW) (fun x => by unfold sgCW; omega) h.path
  have f1 := r.path.isTup
  have f2 := r.path.one
  by_cases hb : (1048576 : Int) < htW h
  · rw [if_pos hb] at e0
    obtain ⟨dk, dp, dv⟩ := c
    dsimp only [htC] at *
    unfold run at *
    rw [Run_z Tryd.func3 rfl (by rfl : ok 3 = true) (by rfl : cfg.keep 3 = [0, 1, 2, 3, 4, 5, 6, 11, 21, 26]) (by rfl : cfg.mode 3 = .pure) (by rfl : cfg.ord 3 = [])]
    simp (config := {contextual := true, maxSteps := 10000000, implicitDefEqProofs := false}) (disch := first | (and_intros <;> omega -splitDisjunctions) | (simp only [List.length_set, List.length_append, List.length_cons, List.length_nil]; and_intros <;> omega -splitDisjunctions) | fail) only [e0, f1, f2, Tryd.f3, go_sem, ↓reduceIte, Nat.reduceEqDiff, Nat.reduceAdd, Nat.reduceMul, Nat.reduceLT, Nat.reduceLeDiff, reduceCtorEq, Int.reduceNe, Int.reduceEq, Int.reduceLT, Int.reduceLE, Int.reduceAdd, Int.reduceSub, Int.reduceMul, Int.reduceNeg, Int.reduceToNat, UInt8.reduceToNat, natLit, ty3, ty4, ty9, ty22, ty24, ty26, ty29, ty30, ty32, ty101, ty102]
  rw [if_neg hb] at e0
  have hW : htW h = (h.path.length : Int) + sumZ sgCW h.path + h.val.s.size := rfl
  have hl2 : h.path.length ≤ 1048576 := by omega
  have hs2 : h.val.s.size ≤ 1048576 := by omega
  have hz : ∀ s ∈ h.path, s.text.size ≤ 1048576 := fun s hm => by
    have h1 : sgCW s ≤ sumZ sgCW h.path := sumZ_mh (fun x => by unfold sgCW; omega) hm
    have h2 : sgCW s = (s.text.size : Int) := rfl
    omega
  obtain ⟨_, H1, e2, c1, rfl, x1, r1⟩ := run_toHit r0 H.length hl2
  have e3 := run_spPickText r1 H.length hl2 hz hs2
  obtain ⟨_, H2, e4, c2, rfl, x2, r2⟩ := run_toHit (r0.ext x1) H.length hl2
  have x3 : Hx H2 (H2 ++ [.cells (htC c2)]) := Hx.app
  have e5 := run_imPickText (r2.ext x3) H.length hl2 hz hs2
  obtain ⟨_, H4, e6, c3, rfl, x4, r3⟩ := run_toHit (((r0.ext x1).ext x2).ext x3) H.length hl2
  have e7 := run_eqHit c2 c3 h h H.length H4 ((r2.ext x3).ext x4) r3 (by omega) (by omega)
  have hle : H.length ≤ H2.length := by
    have l1 := x1.len; have l2 := x2.len
    rw [List.length_append] at l1; omega
  have g0 : LH.cellsAt (H ++ [.cells (htC c)]) H.length = some (htC c) := cellsAt_app0 _ _
  have g1 := x1.cells g0
  have g2 := x2.cells g1
  have g3 := x3.cells g2
  have g4 := x4.cells g3
  have g5 : LH.cellsAt (H2 ++ [.cells (htC c2)]) H2.length = some (htC c2) := cellsAt_app0 _ _
  have g6 := x4.cells g5
  have f3 := r1.path.isTup; have f4 := r1.path.one
  have f5 := r2.path.isTup; have f6 := r2.path.one
  have f7 := r3.path.isTup; have f8 := r3.path.one
  have b1 : ¬ (1048576 - htW h < 0) := by omega
  generalize htW h = W at *
  rw [decide_eq_true rfl] at e7
  obtain ⟨dk, dp, dv⟩ := c
  obtain ⟨dk1, dp1, dv1⟩ := c1
  obtain ⟨dk2, dp2, dv2⟩ := c2
  obtain ⟨dk3, dp3, dv3⟩ := c3
  dsimp only [htC] at *
  unfold run at *
  rw [Run_z Tryd.func3 rfl (by rfl : ok 3 = true) (by rfl : cfg.keep 3 = [0, 1, 2, 3, 4, 5, 6, 11, 21, 26]) (by rfl : cfg.mode 3 = .pure) (by rfl : cfg.ord 3 = [])]
  simp (config := {contextual := true, maxSteps := 10000000, implicitDefEqProofs := false}) (disch := first | (and_intros <;> omega -splitDisjunctions) | (simp only [List.length_set, List.length_append, List.length_cons, List.length_nil]; and_intros <;> omega -splitDisjunctions) | fail) only [e0, e2, e3, e4, e5, e6, e7, g1, g2, g3, g4, g5, g6, b1, f1, f2, f3, f4, f5, f6, f7, f8, hle, Tryd.f3, go_sem, ↓reduceIte, Nat.reduceEqDiff, Nat.reduceAdd, Nat.reduceMul, Nat.reduceLT, Nat.reduceLeDiff, reduceCtorEq, Int.reduceNe, Int.reduceEq, Int.reduceLT, Int.reduceLE, Int.reduceAdd, Int.reduceSub, Int.reduceMul, Int.reduceNeg, Int.reduceToNat, UInt8.reduceToNat, natLit, ty3, ty4, ty9, ty22, ty24, ty26, ty29, ty30, ty32, ty101, ty102]
end Go.Proofs.YtcbjmggbbnpbpaaDoor.Lg
