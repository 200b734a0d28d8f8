/- Texts of steps. No condition. -/
import Derived.Test.YtcbjmggbbnpbpaaDoorCPt2
namespace Go.Proofs.YtcbjmggbbnpbpaaDoor.Lg
set_option linter.unusedSimpArgs false
set_option linter.unusedVariables false
set_option maxRecDepth 100000
set_option maxHeartbeats 40000000
open Go.Proofs.YtcbjmggbbnpbpaaDoor
set_option linter.unusedSectionVars false
variable [ML]

theorem run_segText (e : Sg) (fl : Nat) (H : LH) (hs : e.text.size ≤ 1048576) : run 86 [.agg (sgC e)] fl H = some (.str (segT e), H) := by
  have e1 := fun fl H => run_imNum e.n fl H
  have e2 := fun fl H => run_isBare e.text fl H (by omega)
  have e3 := fun fl H => run_repl e.text ⟨#[39]⟩ ⟨#[39, 39]⟩ hs (by decide) (by decide) fl H
  have n1 := numT_few e.n
  have hq : (⟨#[39]⟩ : ByteArray) ++ ⟨(Lib.replaceAll e.text.data.toList (⟨#[39]⟩ : ByteArray).data.toList (⟨#[39, 39]⟩ : ByteArray).data.toList).toArray⟩ ++ ⟨#[39]⟩ = qtT e.text := by
    have := repl_q (bs e.text)
    unfold bs at this
    show (⟨#[39]⟩ : ByteArray) ++ ⟨(Lib.replaceAll e.text.data.toList [39] [39, 39]).toArray⟩ ++ ⟨#[39]⟩ = _
    rw [this]
    unfold qtT bs
    apply ByteArray.ext
    simp [ByteArray.data_append]
  have hz : (⟨(Lib.replaceAll e.text.data.toList (⟨#[39]⟩ : ByteArray).data.toList (⟨#[39, 39]⟩ : ByteArray).data.toList).toArray⟩ : ByteArray).size ≤ 2097152 := by
    have := repl_q (bs e.text)
    unfold bs at this
    show (Lib.replaceAll e.text.data.toList [39] [39, 39]).length ≤ _
    rw [this]
    have := dbq_len (bs e.text)
    rw [bs_len] at this
    exact Nat.le_trans this (by omega)
  generalize (⟨(Lib.replaceAll e.text.data.toList (⟨#[39]⟩ : ByteArray).data.toList (⟨#[39, 39]⟩ : ByteArray).data.toList).toArray⟩ : ByteArray) = Z at *
  unfold segT
  rw [← hq]
  generalize numT e.n = N at *
  generalize bareB e.text = b at *
  unfold run sgC at *
  rw [Run_z Tryd.func86 rfl (by rfl : ok 86 = true) (by rfl : cfg.keep 86 = [0, 1, 2, 4, 5, 10, 16, 18, 22]) (by rfl : cfg.mode 86 = .pure) (by rfl : cfg.ord 86 = [])]
  simp (config := {contextual := true, maxSteps := 10000000, implicitDefEqProofs := false}) (disch := first | (and_intros <;> omega -splitDisjunctions) | (simp only [List.length_set, List.length_append, List.length_cons, List.length_nil]; and_intros <;> omega -splitDisjunctions) | fail) only [e1, e2, e3, n1, hz, Tryd.f86, go_sem, ↓reduceIte, Nat.reduceEqDiff, Nat.reduceAdd, Nat.reduceMul, Nat.reduceLT, Nat.reduceLeDiff, reduceCtorEq, Int.reduceNe, Int.reduceEq, Int.reduceLT, Int.reduceLE, Int.reduceAdd, Int.reduceSub, Int.reduceMul, Int.reduceNeg, Int.reduceToNat, UInt8.reduceToNat, natLit, ty3, ty9, ty102]
  (repeat' split) <;> rfl
end Go.Proofs.YtcbjmggbbnpbpaaDoor.Lg
