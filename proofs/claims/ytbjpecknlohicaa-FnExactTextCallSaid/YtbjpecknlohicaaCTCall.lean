/- What the laws do with values of Call, over the logical machine. No condition. -/
import Derived.Test.YtbjpecknlohicaaLc
import Derived.Test.YtbjpecknlohicaaCMk
namespace Go.Proofs.Ytbjpecknlohicaa.Lg
set_option linter.unusedSimpArgs false
set_option linter.unusedVariables false
set_option maxRecDepth 100000
set_option maxHeartbeats 40000000
open Go.Proofs.Ytbjpecknlohicaa

/-- a value of Call -/
structure Ca where
  kind : Int
  n : Int
  deriving DecidableEq
def caC (e : Ca) : List V := [.int .i64 e.kind, .int .i64 e.n]
theorem caC_len (e : Ca) : (caC e).length = 2 := rfl
def ca0 : Ca := ⟨0, 0⟩
/-- its measure -/
def caCW (e : Ca) : Int := 0
def caCFit (e : Ca) : Prop := True
theorem run_toCall (e : Ca) (fl : Nat) (H : LH) : run 18 [.agg (caC e)] fl H = some (.agg (caC e), H) := by
  unfold run caC
  rw [Run_z Try.func18 rfl (by rfl : ok 18 = true) (by rfl : cfg.keep 18 = [0, 1, 2, 3]) (by rfl : cfg.mode 18 = .pure)]
  simp (config := {contextual := true, maxSteps := 10000000, implicitDefEqProofs := false}) (disch := first | (and_intros <;> omega -splitDisjunctions) | (simp only [List.length_set, List.length_append, List.length_cons, List.length_nil]; and_intros <;> omega -splitDisjunctions) | fail) only [Try.f18, go_sem, ↓reduceIte, Nat.reduceEqDiff, Nat.reduceAdd, Nat.reduceMul, Nat.reduceLT, Nat.reduceLeDiff, reduceCtorEq, Int.reduceNe, Int.reduceEq, Int.reduceLT, Int.reduceLE, Int.reduceAdd, Int.reduceSub, Int.reduceMul, Int.reduceNeg, Int.reduceToNat, UInt8.reduceToNat, natLit, ty3, ty30, ty32]
theorem run_eqCall (a b : Ca) (fl : Nat) (H : LH) : run 39 [.agg (caC a), .agg (caC b)] fl H = some (.bool (decide (a = b)), H) := by
  unfold run caC
  rw [Run_z Try.func39 rfl (by rfl : ok 39 = true) (by rfl : cfg.keep 39 = [0, 1, 2, 3, 4, 9, 14]) (by rfl : cfg.mode 39 = .pure)]
  simp (config := {contextual := true, maxSteps := 10000000, implicitDefEqProofs := false}) (disch := first | (and_intros <;> omega -splitDisjunctions) | (simp only [List.length_set, List.length_append, List.length_cons, List.length_nil]; and_intros <;> omega -splitDisjunctions) | fail) only [Try.f39, go_sem, ↓reduceIte, Nat.reduceEqDiff, Nat.reduceAdd, Nat.reduceMul, Nat.reduceLT, Nat.reduceLeDiff, reduceCtorEq, Int.reduceNe, Int.reduceEq, Int.reduceLT, Int.reduceLE, Int.reduceAdd, Int.reduceSub, Int.reduceMul, Int.reduceNeg, Int.reduceToNat, UInt8.reduceToNat, natLit, ty3, ty32]
  cases a; cases b
  simp only [Ca.mk.injEq]
  grind
theorem shp_Call {n : Nat} {H : LH} (cs : List V) (h : Shp (ty Try.prog) (n + 2) 30 H cs) : ∃ e : Ca, cs = caC e ∧ caCFit e := by
  simp only [Shp, ShpF, ty3, ty30] at h
  obtain ⟨_, _, rfl, ⟨a0, rfl, _⟩, _, _, rfl, ⟨a1, rfl, _⟩, rfl⟩ := h
  exact ⟨⟨a0, a1⟩, rfl, trivial⟩
theorem opn_Call {H : LH} {x : V} (h : ShpA (ty Try.prog) 12 30 H x) : ∃ e : Ca, x = .agg (caC e) ∧ caCFit e := by
  unfold ShpA at h
  rw [ty30] at h
  obtain ⟨cs, rfl, h⟩ := h
  obtain ⟨e, rfl, f⟩ := shp_Call (n := 10) cs h
  exact ⟨e, rfl, f⟩

end Go.Proofs.Ytbjpecknlohicaa.Lg
