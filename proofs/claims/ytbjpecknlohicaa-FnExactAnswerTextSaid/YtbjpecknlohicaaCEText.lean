/- EventText and AnswerText, as the program has them twice, over the logical machine. No condition. -/
import Derived.Test.YtbjpecknlohicaaCEvText
import Derived.Test.YtbjpecknlohicaaCEsc
namespace Go.Proofs.Ytbjpecknlohicaa.Lg
set_option linter.unusedSimpArgs false
set_option linter.unusedVariables false
set_option maxRecDepth 100000
set_option maxHeartbeats 40000000
open Go.Proofs.Ytbjpecknlohicaa

/-- the anchor and the tag of an event -/
def propsT (e : Ev) : ByteArray :=
  if e.tag = ⟨#[]⟩ then (if e.anchor = ⟨#[]⟩ then ⟨#[]⟩ else ⟨#[32, 38]⟩ ++ e.anchor)
  else (if e.anchor = ⟨#[]⟩ then ⟨#[]⟩ else ⟨#[32, 38]⟩ ++ e.anchor) ++ ⟨#[32, 60]⟩ ++ e.tag ++ ⟨#[62]⟩
theorem size_nil : ByteArray.size ⟨#[]⟩ = 0 := rfl
theorem propsT_size (e : Ev) : (propsT e).size ≤ e.anchor.size + e.tag.size + 5 := by
  unfold propsT
  (repeat' split) <;> simp only [ByteArray.size_append, size_lit, List.length_cons, List.length_nil] <;> omega
theorem escT_size (s : ByteArray) : (escT s).size ≤ 2 * s.size := esc_len (bs s)
theorem numT_size (n : Int) : (numT n).size ≤ 4294967296 := by
  unfold numT
  split
  · simp [size_nil]
  · have := decT_size n.toNat; omega
theorem run_marked (e : Ev) (fl : Nat) (H : LH) (h1 : e.anchor.size ≤ 1073741824) (h2 : e.tag.size ≤ 1073741824) : run 108 [.agg (evC e)] fl H = some (.str (propsT e), H) := by
  unfold run evC propsT
  rw [Run_z Try.func108 rfl (by rfl : ok 108 = true) (by rfl : cfg.keep 108 = [0, 1, 2, 3, 6, 12]) (by rfl : cfg.mode 108 = .pure)]
  simp (config := {contextual := true, maxSteps := 10000000, implicitDefEqProofs := false}) (disch := first | (and_intros <;> omega -splitDisjunctions) | fail) only [Try.f108, go_sem, ↓reduceIte, Nat.reduceEqDiff, Nat.reduceAdd, Nat.reduceMul, Nat.reduceLT, Nat.reduceLeDiff, reduceCtorEq, Int.reduceNe, Int.reduceEq, Int.reduceLT, Int.reduceLE, Int.reduceAdd, Int.reduceSub, Int.reduceMul, Int.reduceNeg, Int.reduceToNat, UInt8.reduceToNat, natLit, ty3, ty4, ty9, ty26]
  (repeat' (refine ite_E (fun _ => ?_) (fun _ => ?_))) <;> simp only [*, if_true, if_false]
theorem run_l09Props (e : Ev) (fl : Nat) (H : LH) (h1 : e.anchor.size ≤ 1073741824) (h2 : e.tag.size ≤ 1073741824) : run 105 [.agg (evC e)] fl H = some (.str (propsT e), H) := by
  unfold run evC propsT
  rw [Run_z Try.func105 rfl (by rfl : ok 105 = true) (by rfl : cfg.keep 105 = [0, 1, 2, 3, 6, 12]) (by rfl : cfg.mode 105 = .pure)]
  simp (config := {contextual := true, maxSteps := 10000000, implicitDefEqProofs := false}) (disch := first | (and_intros <;> omega -splitDisjunctions) | fail) only [Try.f105, go_sem, ↓reduceIte, Nat.reduceEqDiff, Nat.reduceAdd, Nat.reduceMul, Nat.reduceLT, Nat.reduceLeDiff, reduceCtorEq, Int.reduceNe, Int.reduceEq, Int.reduceLT, Int.reduceLE, Int.reduceAdd, Int.reduceSub, Int.reduceMul, Int.reduceNeg, Int.reduceToNat, UInt8.reduceToNat, natLit, ty3, ty4, ty9, ty26]
  (repeat' (refine ite_E (fun _ => ?_) (fun _ => ?_))) <;> simp only [*, if_true, if_false]
def styleB (n : Int) : ByteArray := if n = 1 then ⟨#[58]⟩ else if n = 2 then ⟨#[39]⟩ else if n = 3 then ⟨#[34]⟩ else if n = 4 then ⟨#[124]⟩ else ⟨#[62]⟩
/-- the text of an event -/
def evText (e : Ev) : ByteArray :=
  if EvOk e then
    if e.kind = 1 then ⟨#[43, 83, 84, 82]⟩
    else if e.kind = 2 then (if e.flag = true then ⟨#[43, 68, 79, 67, 32, 45, 45, 45]⟩ else ⟨#[43, 68, 79, 67]⟩)
    else if e.kind = 3 then (if e.style = 6 then ⟨#[43, 83, 69, 81, 32, 91, 93]⟩ else ⟨#[43, 83, 69, 81]⟩) ++ propsT e
    else if e.kind = 4 then (if e.style = 6 then ⟨#[43, 77, 65, 80, 32, 123, 125]⟩ else ⟨#[43, 77, 65, 80]⟩) ++ propsT e
    else if e.kind = 5 then ⟨#[61, 86, 65, 76]⟩ ++ propsT e ++ ⟨#[32]⟩ ++ styleB e.style ++ escT e.text
    else if e.kind = 6 then ⟨#[61, 65, 76, 73, 32, 42]⟩ ++ e.text
    else if e.kind = 7 then ⟨#[45, 69, 78, 68]⟩
    else if e.kind = 8 then (if e.flag = true then ⟨#[45, 68, 79, 67, 32, 46, 46, 46]⟩ else ⟨#[45, 68, 79, 67]⟩)
    else if e.kind = 9 then ⟨#[45, 83, 84, 82]⟩
    else ⟨#[33, 70, 65, 85, 76, 84, 32]⟩ ++ numT e.code ++ ⟨#[32]⟩ ++ numT e.place
  else ⟨#[]⟩
theorem lit_app {a b : List UInt8} : (⟨a.toArray⟩ : ByteArray) ++ ⟨b.toArray⟩ = ⟨(a ++ b).toArray⟩ := (mkB_app a b).symm
theorem extr_lit {a : List UInt8} {l h : Nat} : ByteArray.extract ⟨a.toArray⟩ l h = ⟨((a.drop l).take (h - l)).toArray⟩ := by
  apply ByteArray.ext
  simp [ByteArray.data_extract]
theorem run_imEventText (e : Ev) (fl : Nat) (H : LH) (h3 : e.text.size + e.anchor.size + e.tag.size ≤ 1073741824) : run 86 [.agg (evC e)] fl H = some (.str (evText e), H) := by
  have hF : evCFit e := ⟨by omega, by omega, by omega⟩
  have e1 := fun fl H => run_imEventOk e fl H hF
  have e2 := fun fl H => run_marked e fl H (by omega) (by omega)
  have e3 := fun fl H => run_escaped e.text fl H (by omega)
  have e4 := fun n fl H => run_imNum n fl H
  have s1 := propsT_size e
  have s2 := escT_size e.text
  have s3 := numT_size e.code
  have s4 := numT_size e.place
  by_cases hok : EvOk e
  · have hk := hok.1
    have hst := hok.2.2.2.2.1
    have hst3 := hok.2.2.2.1
    obtain ⟨k, st, fg, tx, an, tg, pl, cd⟩ := e
    unfold run at *
    rw [Run_z Try.func86 rfl (by rfl : ok 86 = true) (by rfl : cfg.keep 86 = [0, 1, 2, 3, 4, 7, 9, 10, 12, 15, 16, 21, 24, 31, 48, 53, 55, 58, 59]) (by rfl : cfg.mode 86 = .pure)]
    dsimp only [evC] at *
    rcases ten hk.1 hk.2 with rfl | rfl | rfl | rfl | rfl | rfl | rfl | rfl | rfl | rfl
    case inr.inr.inr.inr.inl =>
      have hst := hst rfl
      have : st = 1 ∨ st = 2 ∨ st = 3 ∨ st = 4 ∨ st = 5 := by omega
      rcases this with rfl | rfl | rfl | rfl | rfl <;> (simp (config := {contextual := true, maxSteps := 10000000, implicitDefEqProofs := false}) (disch := first | (and_intros <;> omega -splitDisjunctions) | fail) only [hok, e1, e2, e3, e4, extr_lit, Try.f86, go_sem, ↓reduceIte, Nat.reduceEqDiff, Nat.reduceAdd, Nat.reduceMul, Nat.reduceLT, Nat.reduceLeDiff, reduceCtorEq, Int.reduceNe, Int.reduceEq, Int.reduceLT, Int.reduceLE, Int.reduceAdd, Int.reduceSub, Int.reduceMul, Int.reduceNeg, Int.reduceToNat, UInt8.reduceToNat, natLit, ty3, ty4, ty9, ty26]; simp only [evText, styleB, hok, if_true, if_false, Int.reduceEq]; try rfl)
    case inr.inr.inl =>
      have hst := hst3 (.inl rfl)
      have : st = 6 ∨ st = 7 := by omega
      rcases this with rfl | rfl <;> (simp (config := {contextual := true, maxSteps := 10000000, implicitDefEqProofs := false}) (disch := first | (and_intros <;> omega -splitDisjunctions) | fail) only [hok, e1, e2, e3, e4, Try.f86, go_sem, ↓reduceIte, Nat.reduceEqDiff, Nat.reduceAdd, Nat.reduceMul, Nat.reduceLT, Nat.reduceLeDiff, reduceCtorEq, Int.reduceNe, Int.reduceEq, Int.reduceLT, Int.reduceLE, Int.reduceAdd, Int.reduceSub, Int.reduceMul, Int.reduceNeg, Int.reduceToNat, UInt8.reduceToNat, natLit, ty3, ty4, ty9, ty26]; simp only [evText, hok, if_true, if_false, Int.reduceEq]; try rfl)
    case inr.inr.inr.inl =>
      have hst := hst3 (.inr rfl)
      have : st = 6 ∨ st = 7 := by omega
      rcases this with rfl | rfl <;> (simp (config := {contextual := true, maxSteps := 10000000, implicitDefEqProofs := false}) (disch := first | (and_intros <;> omega -splitDisjunctions) | fail) only [hok, e1, e2, e3, e4, Try.f86, go_sem, ↓reduceIte, Nat.reduceEqDiff, Nat.reduceAdd, Nat.reduceMul, Nat.reduceLT, Nat.reduceLeDiff, reduceCtorEq, Int.reduceNe, Int.reduceEq, Int.reduceLT, Int.reduceLE, Int.reduceAdd, Int.reduceSub, Int.reduceMul, Int.reduceNeg, Int.reduceToNat, UInt8.reduceToNat, natLit, ty3, ty4, ty9, ty26]; simp only [evText, hok, if_true, if_false, Int.reduceEq]; try rfl)
    all_goals
      simp (config := {contextual := true, maxSteps := 10000000, implicitDefEqProofs := false}) (disch := first | (and_intros <;> omega -splitDisjunctions) | fail) only [hok, e1, e2, e3, e4, Try.f86, go_sem, ↓reduceIte, Nat.reduceEqDiff, Nat.reduceAdd, Nat.reduceMul, Nat.reduceLT, Nat.reduceLeDiff, reduceCtorEq, Int.reduceNe, Int.reduceEq, Int.reduceLT, Int.reduceLE, Int.reduceAdd, Int.reduceSub, Int.reduceMul, Int.reduceNeg, Int.reduceToNat, UInt8.reduceToNat, natLit, ty3, ty4, ty9, ty26]
      simp only [evText, hok, if_true, if_false, Int.reduceEq]
      try ((repeat' (refine ite_E (fun _ => ?_) (fun _ => ?_))) <;> simp only [*, if_true, if_false, lit_app, app_nil, List.cons_append, List.nil_append, Bool.false_eq_true])
  · unfold run evC at *
    rw [Run_z Try.func86 rfl (by rfl : ok 86 = true) (by rfl : cfg.keep 86 = [0, 1, 2, 3, 4, 7, 9, 10, 12, 15, 16, 21, 24, 31, 48, 53, 55, 58, 59]) (by rfl : cfg.mode 86 = .pure)]
    simp (config := {contextual := true, maxSteps := 10000000, implicitDefEqProofs := false}) (disch := first | (and_intros <;> omega -splitDisjunctions) | fail) only [hok, e1, e2, e3, e4, Try.f86, go_sem, ↓reduceIte, Nat.reduceEqDiff, Nat.reduceAdd, Nat.reduceMul, Nat.reduceLT, Nat.reduceLeDiff, reduceCtorEq, Int.reduceNe, Int.reduceEq, Int.reduceLT, Int.reduceLE, Int.reduceAdd, Int.reduceSub, Int.reduceMul, Int.reduceNeg, Int.reduceToNat, UInt8.reduceToNat, natLit, ty3, ty4, ty9, ty26]
    simp only [evText, hok, if_false]
theorem run_spEventText (e : Ev) (fl : Nat) (H : LH) (h3 : e.text.size + e.anchor.size + e.tag.size ≤ 1073741824) : run 84 [.agg (evC e)] fl H = some (.str (evText e), H) := by
  have hF : evCFit e := ⟨by omega, by omega, by omega⟩
  have e1 := fun fl H => run_spEventOk e fl H hF
  have e2 := fun fl H => run_l09Props e fl H (by omega) (by omega)
  have e3 := fun fl H => run_l09Escape e.text fl H (by omega)
  have e4 := fun n fl H => run_spNum n fl H
  have s1 := propsT_size e
  have s2 := escT_size e.text
  have s3 := numT_size e.code
  have s4 := numT_size e.place
  by_cases hok : EvOk e
  · have hk := hok.1
    have hst := hok.2.2.2.2.1
    have hst3 := hok.2.2.2.1
    obtain ⟨k, st, fg, tx, an, tg, pl, cd⟩ := e
    unfold run at *
    rw [Run_z Try.func84 rfl (by rfl : ok 84 = true) (by rfl : cfg.keep 84 = [0, 1, 2, 3, 6, 11, 12, 14, 17, 18, 20, 27, 29, 36, 53, 58, 60, 63, 64]) (by rfl : cfg.mode 84 = .pure)]
    dsimp only [evC] at *
    rcases ten hk.1 hk.2 with rfl | rfl | rfl | rfl | rfl | rfl | rfl | rfl | rfl | rfl
    case inr.inr.inr.inr.inl =>
      have hst := hst rfl
      have : st = 1 ∨ st = 2 ∨ st = 3 ∨ st = 4 ∨ st = 5 := by omega
      rcases this with rfl | rfl | rfl | rfl | rfl <;> (simp (config := {contextual := true, maxSteps := 10000000, implicitDefEqProofs := false}) (disch := first | (and_intros <;> omega -splitDisjunctions) | fail) only [hok, e1, e2, e3, e4, extr_lit, Try.f84, go_sem, ↓reduceIte, Nat.reduceEqDiff, Nat.reduceAdd, Nat.reduceMul, Nat.reduceLT, Nat.reduceLeDiff, reduceCtorEq, Int.reduceNe, Int.reduceEq, Int.reduceLT, Int.reduceLE, Int.reduceAdd, Int.reduceSub, Int.reduceMul, Int.reduceNeg, Int.reduceToNat, UInt8.reduceToNat, natLit, ty3, ty4, ty9, ty26]; simp only [evText, styleB, hok, if_true, if_false, Int.reduceEq]; try rfl)
    case inr.inr.inl =>
      have hst := hst3 (.inl rfl)
      have : st = 6 ∨ st = 7 := by omega
      rcases this with rfl | rfl <;> (simp (config := {contextual := true, maxSteps := 10000000, implicitDefEqProofs := false}) (disch := first | (and_intros <;> omega -splitDisjunctions) | fail) only [hok, e1, e2, e3, e4, Try.f84, go_sem, ↓reduceIte, Nat.reduceEqDiff, Nat.reduceAdd, Nat.reduceMul, Nat.reduceLT, Nat.reduceLeDiff, reduceCtorEq, Int.reduceNe, Int.reduceEq, Int.reduceLT, Int.reduceLE, Int.reduceAdd, Int.reduceSub, Int.reduceMul, Int.reduceNeg, Int.reduceToNat, UInt8.reduceToNat, natLit, ty3, ty4, ty9, ty26]; simp only [evText, hok, if_true, if_false, Int.reduceEq]; try rfl)
    case inr.inr.inr.inl =>
      have hst := hst3 (.inr rfl)
      have : st = 6 ∨ st = 7 := by omega
      rcases this with rfl | rfl <;> (simp (config := {contextual := true, maxSteps := 10000000, implicitDefEqProofs := false}) (disch := first | (and_intros <;> omega -splitDisjunctions) | fail) only [hok, e1, e2, e3, e4, Try.f84, go_sem, ↓reduceIte, Nat.reduceEqDiff, Nat.reduceAdd, Nat.reduceMul, Nat.reduceLT, Nat.reduceLeDiff, reduceCtorEq, Int.reduceNe, Int.reduceEq, Int.reduceLT, Int.reduceLE, Int.reduceAdd, Int.reduceSub, Int.reduceMul, Int.reduceNeg, Int.reduceToNat, UInt8.reduceToNat, natLit, ty3, ty4, ty9, ty26]; simp only [evText, hok, if_true, if_false, Int.reduceEq]; try rfl)
    all_goals
      simp (config := {contextual := true, maxSteps := 10000000, implicitDefEqProofs := false}) (disch := first | (and_intros <;> omega -splitDisjunctions) | fail) only [hok, e1, e2, e3, e4, Try.f84, go_sem, ↓reduceIte, Nat.reduceEqDiff, Nat.reduceAdd, Nat.reduceMul, Nat.reduceLT, Nat.reduceLeDiff, reduceCtorEq, Int.reduceNe, Int.reduceEq, Int.reduceLT, Int.reduceLE, Int.reduceAdd, Int.reduceSub, Int.reduceMul, Int.reduceNeg, Int.reduceToNat, UInt8.reduceToNat, natLit, ty3, ty4, ty9, ty26]
      simp only [evText, hok, if_true, if_false, Int.reduceEq]
      try ((repeat' (refine ite_E (fun _ => ?_) (fun _ => ?_))) <;> simp only [*, if_true, if_false, lit_app, app_nil, List.cons_append, List.nil_append, Bool.false_eq_true])
  · unfold run evC at *
    rw [Run_z Try.func84 rfl (by rfl : ok 84 = true) (by rfl : cfg.keep 84 = [0, 1, 2, 3, 6, 11, 12, 14, 17, 18, 20, 27, 29, 36, 53, 58, 60, 63, 64]) (by rfl : cfg.mode 84 = .pure)]
    simp (config := {contextual := true, maxSteps := 10000000, implicitDefEqProofs := false}) (disch := first | (and_intros <;> omega -splitDisjunctions) | fail) only [hok, e1, e2, e3, e4, Try.f84, go_sem, ↓reduceIte, Nat.reduceEqDiff, Nat.reduceAdd, Nat.reduceMul, Nat.reduceLT, Nat.reduceLeDiff, reduceCtorEq, Int.reduceNe, Int.reduceEq, Int.reduceLT, Int.reduceLE, Int.reduceAdd, Int.reduceSub, Int.reduceMul, Int.reduceNeg, Int.reduceToNat, UInt8.reduceToNat, natLit, ty3, ty4, ty9, ty26]
    simp only [evText, hok, if_false]
end Go.Proofs.Ytbjpecknlohicaa.Lg
