/- FnExactAnswerText over the logical machine. No condition. -/
import Derived.Test.YtbjpecknlohicaaCEText
namespace Go.Proofs.Ytbjpecknlohicaa.Lg
set_option linter.unusedSimpArgs false
set_option linter.unusedVariables false
set_option maxRecDepth 100000
set_option maxHeartbeats 40000000
open Go.Proofs.Ytbjpecknlohicaa

def codeT (n : Int) : ByteArray := ⟨#[99, 111, 100, 101, 32]⟩ ++ numT n
def ansT (c : Int) (e : Ev) : ByteArray := if c = 0 then evText e else if c = 3 then codeT 3 ++ ⟨#[32]⟩ ++ evText e else codeT c
theorem styleB_size (n : Int) : (styleB n).size = 1 := by
  unfold styleB
  (repeat' split) <;> rfl
theorem ite_size {c : Prop} [Decidable c] {a b : ByteArray} {n : Nat} (h1 : c → a.size ≤ n) (h2 : ¬ c → b.size ≤ n) : (if c then a else b).size ≤ n := by
  by_cases h : c
  · rw [if_pos h]; exact h1 h
  · rw [if_neg h]; exact h2 h
theorem evText_size (e : Ev) : (evText e).size ≤ 2 * e.text.size + e.anchor.size + e.tag.size + 8589934700 := by
  have s1 := propsT_size e
  have s2 := escT_size e.text
  have s3 := numT_size e.code
  have s4 := numT_size e.place
  have s5 := styleB_size e.style
  have s6 : (if e.style = 6 then (⟨#[43, 83, 69, 81, 32, 91, 93]⟩ : ByteArray) else ⟨#[43, 83, 69, 81]⟩).size ≤ 7 := ite_size (fun _ => by decide) (fun _ => by decide)
  have s7 : (if e.style = 6 then (⟨#[43, 77, 65, 80, 32, 123, 125]⟩ : ByteArray) else ⟨#[43, 77, 65, 80]⟩).size ≤ 7 := ite_size (fun _ => by decide) (fun _ => by decide)
  unfold evText
  (repeat' (refine ite_size (fun _ => ?_) (fun _ => ?_))) <;> (try simp only [ByteArray.size_append, size_lit, List.length_cons, List.length_nil]) <;> omega
theorem codeT_size (n : Int) : (codeT n).size ≤ 4294967301 := by
  have := numT_size n
  simp only [codeT, ByteArray.size_append, size_lit, List.length_cons, List.length_nil]; omega
theorem run_codeText (n : Int) (fl : Nat) (H : LH) : run 87 [.int .i64 n] fl H = some (.str (codeT n), H) := by
  have e1 := fun n fl H => run_imNum n fl H
  have s1 := numT_size n
  unfold run at *
  rw [Run_z Try.func87 rfl (by rfl : ok 87 = true) (by rfl : cfg.keep 87 = [0, 2]) (by rfl : cfg.mode 87 = .pure)]
  simp (config := {contextual := true, maxSteps := 10000000, implicitDefEqProofs := false}) (disch := first | (and_intros <;> omega -splitDisjunctions) | fail) only [e1, Try.f87, go_sem, ↓reduceIte, Nat.reduceEqDiff, Nat.reduceAdd, Nat.reduceMul, Nat.reduceLT, Nat.reduceLeDiff, reduceCtorEq, Int.reduceNe, Int.reduceEq, Int.reduceLT, Int.reduceLE, Int.reduceAdd, Int.reduceSub, Int.reduceMul, Int.reduceNeg, Int.reduceToNat, UInt8.reduceToNat, natLit, ty9]
  rfl
theorem run_l22Code (n : Int) (fl : Nat) (H : LH) : run 85 [.int .i64 n] fl H = some (.str (codeT n), H) := by
  have e1 := fun n fl H => run_spNum n fl H
  have s1 := numT_size n
  unfold run at *
  rw [Run_z Try.func85 rfl (by rfl : ok 85 = true) (by rfl : cfg.keep 85 = [0, 2]) (by rfl : cfg.mode 85 = .pure)]
  simp (config := {contextual := true, maxSteps := 10000000, implicitDefEqProofs := false}) (disch := first | (and_intros <;> omega -splitDisjunctions) | fail) only [e1, Try.f85, go_sem, ↓reduceIte, Nat.reduceEqDiff, Nat.reduceAdd, Nat.reduceMul, Nat.reduceLT, Nat.reduceLeDiff, reduceCtorEq, Int.reduceNe, Int.reduceEq, Int.reduceLT, Int.reduceLE, Int.reduceAdd, Int.reduceSub, Int.reduceMul, Int.reduceNeg, Int.reduceToNat, UInt8.reduceToNat, natLit, ty9]
  rfl
theorem run_imAnswerText (c : Int) (e : Ev) (fl : Nat) (H : LH) (h3 : e.text.size + e.anchor.size + e.tag.size ≤ 1073741824) : run 45 [.agg (.int .i64 c :: evC e)] fl H = some (.str (ansT c e), H) := by
  have e1 := fun fl H => run_imEventText e fl H h3
  have e2 := fun n fl H => run_codeText n fl H
  have s1 := evText_size e
  have s2 := codeT_size 3
  unfold run evC at *
  rw [Run_z Try.func45 rfl (by rfl : ok 45 = true) (by rfl : cfg.keep 45 = [0, 1, 2, 4, 5, 10]) (by rfl : cfg.mode 45 = .pure)]
  simp (config := {contextual := true, maxSteps := 10000000, implicitDefEqProofs := false}) (disch := first | (and_intros <;> omega -splitDisjunctions) | fail) only [e1, e2, Try.f45, go_sem, ↓reduceIte, Nat.reduceEqDiff, Nat.reduceAdd, Nat.reduceMul, Nat.reduceLT, Nat.reduceLeDiff, reduceCtorEq, Int.reduceNe, Int.reduceEq, Int.reduceLT, Int.reduceLE, Int.reduceAdd, Int.reduceSub, Int.reduceMul, Int.reduceNeg, Int.reduceToNat, UInt8.reduceToNat, natLit, ty3, ty4, ty9, ty26, ty76]
  unfold ansT
  (repeat' (refine ite_E (fun _ => ?_) (fun _ => ?_))) <;> simp only [*, if_true, if_false, Int.reduceEq]
theorem run_spAnswerText (c : Int) (e : Ev) (fl : Nat) (H : LH) (h3 : e.text.size + e.anchor.size + e.tag.size ≤ 1073741824) : run 43 [.agg (.int .i64 c :: evC e)] fl H = some (.str (ansT c e), H) := by
  have e1 := fun fl H => run_spEventText e fl H h3
  have e2 := fun n fl H => run_l22Code n fl H
  have s1 := evText_size e
  have s2 := codeT_size 3
  unfold run evC at *
  rw [Run_z Try.func43 rfl (by rfl : ok 43 = true) (by rfl : cfg.keep 43 = [0, 1, 2, 4, 5, 10]) (by rfl : cfg.mode 43 = .pure)]
  simp (config := {contextual := true, maxSteps := 10000000, implicitDefEqProofs := false}) (disch := first | (and_intros <;> omega -splitDisjunctions) | fail) only [e1, e2, Try.f43, go_sem, ↓reduceIte, Nat.reduceEqDiff, Nat.reduceAdd, Nat.reduceMul, Nat.reduceLT, Nat.reduceLeDiff, reduceCtorEq, Int.reduceNe, Int.reduceEq, Int.reduceLT, Int.reduceLE, Int.reduceAdd, Int.reduceSub, Int.reduceMul, Int.reduceNeg, Int.reduceToNat, UInt8.reduceToNat, natLit, ty3, ty4, ty9, ty26, ty76]
  unfold ansT
  (repeat' (refine ite_E (fun _ => ?_) (fun _ => ?_))) <;> simp only [*, if_true, if_false, Int.reduceEq]
theorem run_toAnswer (c : Int) (e : Ev) (fl : Nat) (H : LH) : run 44 [.agg (.int .i64 c :: evC e)] fl H = some (.agg (.int .i64 c :: evC e), H) := by
  have e1 := fun fl H => run_toEvent e fl H
  unfold run evC at *
  rw [Run_z Try.func44 rfl (by rfl : ok 44 = true) (by rfl : cfg.keep 44 = [0, 1, 2, 3]) (by rfl : cfg.mode 44 = .pure)]
  simp (config := {contextual := true, maxSteps := 10000000, implicitDefEqProofs := false}) (disch := first | (and_intros <;> omega -splitDisjunctions) | fail) only [e1, Try.f44, go_sem, ↓reduceIte, Nat.reduceEqDiff, Nat.reduceAdd, Nat.reduceMul, Nat.reduceLT, Nat.reduceLeDiff, reduceCtorEq, Int.reduceNe, Int.reduceEq, Int.reduceLT, Int.reduceLE, Int.reduceAdd, Int.reduceSub, Int.reduceMul, Int.reduceNeg, Int.reduceToNat, UInt8.reduceToNat, natLit, ty3, ty4, ty9, ty23, ty26, ty72, ty76]
theorem run_szAnswer (c : Int) (e : Ev) (left : Int) (fl : Nat) (H : LH) (h : 0 ≤ left) (h2 : left ≤ 1048576) (h3 : evCFit e) :
    run 42 [.agg (.int .i64 c :: evC e), .int .i64 left] fl H = some (.int .i64 (if left < evCW e then -1 else left - evCW e), H) := by
  have e1 := fun fl H => run_szEvent e left fl H h h2 h3
  have w0 : 0 ≤ evCW e := by unfold evCW; omega
  by_cases hl : left < evCW e
  · simp only [hl, if_true] at e1 ⊢
    unfold run evC at *
    rw [Run_z Try.func42 rfl (by rfl : ok 42 = true) (by rfl : cfg.keep 42 = [0, 1, 2, 4, 10]) (by rfl : cfg.mode 42 = .pure)]
    simp (config := {contextual := true, maxSteps := 10000000, implicitDefEqProofs := false}) (disch := first | (and_intros <;> omega -splitDisjunctions) | fail) only [e1, Try.f42, go_sem, ↓reduceIte, Nat.reduceEqDiff, Nat.reduceAdd, Nat.reduceMul, Nat.reduceLT, Nat.reduceLeDiff, reduceCtorEq, Int.reduceNe, Int.reduceEq, Int.reduceLT, Int.reduceLE, Int.reduceAdd, Int.reduceSub, Int.reduceMul, Int.reduceNeg, Int.reduceToNat, UInt8.reduceToNat, natLit, ty3, ty4, ty9, ty23, ty72]
  · simp only [hl, if_false] at e1 ⊢
    unfold run evC at *
    rw [Run_z Try.func42 rfl (by rfl : ok 42 = true) (by rfl : cfg.keep 42 = [0, 1, 2, 4, 10]) (by rfl : cfg.mode 42 = .pure)]
    simp (config := {contextual := true, maxSteps := 10000000, implicitDefEqProofs := false}) (disch := first | (and_intros <;> omega -splitDisjunctions) | fail) only [e1, show ¬ left - evCW e < 0 by omega, Try.f42, go_sem, ↓reduceIte, Nat.reduceEqDiff, Nat.reduceAdd, Nat.reduceMul, Nat.reduceLT, Nat.reduceLeDiff, reduceCtorEq, Int.reduceNe, Int.reduceEq, Int.reduceLT, Int.reduceLE, Int.reduceAdd, Int.reduceSub, Int.reduceMul, Int.reduceNeg, Int.reduceToNat, UInt8.reduceToNat, natLit, ty3, ty4, ty9, ty23, ty72]
theorem run_FnExactAnswerText (c : Int) (e : Ev) (fl : Nat) (H : LH) (h3 : evCFit e) : run 10 [.agg (.int .i64 c :: evC e)] fl H = some (.bool true, H) := by
  have e1 := fun fl H => run_szAnswer c e 1048576 fl H (by decide) (by decide) h3
  have e2 := fun fl H => run_toAnswer c e fl H
  by_cases hl : 1048576 < evCW e
  · simp only [hl, if_true] at e1
    unfold run evC at *
    rw [Run_z Try.func10 rfl (by rfl : ok 10 = true) (by rfl : cfg.keep 10 = [0, 1, 2, 3, 4, 5, 10, 19]) (by rfl : cfg.mode 10 = .pure)]
    simp (config := {contextual := true, maxSteps := 10000000, implicitDefEqProofs := false}) (disch := first | (and_intros <;> omega -splitDisjunctions) | fail) only [e1, Try.f10, go_sem, ↓reduceIte, Nat.reduceEqDiff, Nat.reduceAdd, Nat.reduceMul, Nat.reduceLT, Nat.reduceLeDiff, reduceCtorEq, Int.reduceNe, Int.reduceEq, Int.reduceLT, Int.reduceLE, Int.reduceAdd, Int.reduceSub, Int.reduceMul, Int.reduceNeg, Int.reduceToNat, UInt8.reduceToNat, natLit, ty3, ty4, ty9, ty23, ty72]
  · have hsz : e.text.size + e.anchor.size + e.tag.size ≤ 1073741824 := by unfold evCW at hl; omega
    have e3 := fun fl H => run_imAnswerText c e fl H hsz
    have e4 := fun fl H => run_spAnswerText c e fl H hsz
    simp only [hl, if_false] at e1
    unfold run evC at *
    rw [Run_z Try.func10 rfl (by rfl : ok 10 = true) (by rfl : cfg.keep 10 = [0, 1, 2, 3, 4, 5, 10, 19]) (by rfl : cfg.mode 10 = .pure)]
    simp (config := {contextual := true, maxSteps := 10000000, implicitDefEqProofs := false}) (disch := first | (and_intros <;> omega -splitDisjunctions) | fail) only [e1, e2, e3, e4, show ¬ (1048576 : Int) - evCW e < 0 by omega, Try.f10, go_sem, ↓reduceIte, Nat.reduceEqDiff, Nat.reduceAdd, Nat.reduceMul, Nat.reduceLT, Nat.reduceLeDiff, reduceCtorEq, Int.reduceNe, Int.reduceEq, Int.reduceLT, Int.reduceLE, Int.reduceAdd, Int.reduceSub, Int.reduceMul, Int.reduceNeg, Int.reduceToNat, UInt8.reduceToNat, natLit, ty3, ty4, ty9, ty23, ty72]
theorem opn_Answer {H : LH} {x : V} (h : ShpA (ty Try.prog) 12 72 H x) : ∃ y : Int × Ev, x = .agg (.int .i64 y.1 :: evC y.2) ∧ evCFit y.2 := by
  unfold ShpA at h
  rw [ty72] at h
  obtain ⟨cs, rfl, h⟩ := h
  rw [Shp, ty72] at h
  obtain ⟨p, q, rfl, h1, p2, q2, rfl, h2, rfl⟩ := h
  simp only [Shp, ty3] at h1
  obtain ⟨m, rfl, _⟩ := h1
  obtain ⟨e, rfl, f⟩ := shp_Event (n := 9) _ h2
  exact ⟨(m, e), by simp, f⟩
end Go.Proofs.Ytbjpecknlohicaa.Lg
