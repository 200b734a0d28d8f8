/- Comparing patterns and hits. No condition. -/
import Derived.Test.YtcbjmggbbnpbpaaDoorCPkH
namespace Go.Proofs.YtcbjmggbbnpbpaaDoor.Lg
set_option linter.unusedSimpArgs false
set_option linter.unusedVariables false
set_option maxRecDepth 100000
set_option maxHeartbeats 40000000
open Go.Proofs.YtcbjmggbbnpbpaaDoor
set_option linter.unusedSectionVars false
variable [ML]

structure RelA (H : LH) (c : HC) (h : Ht) : Prop where
  doc : c.doc = h.doc
  val : c.val = h.val
  path : At H sgC 3 c.pv h.path
structure HAt (H : LH) (v : V) (cs : List HC) (hs : List Ht) : Prop where
  at_ : At H htC 6 v cs
  len : cs.length = hs.length
  row : ∀ i, i < hs.length → RelA H (cs.getD i hc0) (hs.getD i ht0)
theorem HOwn.hat {f : Nat} {H : LH} {v : V} {cs : List HC} {hs : List Ht} (h : HOwn f H v cs hs) : HAt H v cs hs :=
  ⟨h.own.at htC_len, h.len, fun i hi => ⟨(h.row i hi).doc, (h.row i hi).val, (h.row i hi).path.at sgC_len⟩⟩
theorem HAt.ext {A B : LH} {v : V} {cs : List HC} {hs : List Ht} (h : HAt A v cs hs) (e : Hx A B) : HAt B v cs hs :=
  ⟨h.at_.ext e, h.len, fun i hi => ⟨(h.row i hi).doc, (h.row i hi).val, (h.row i hi).path.ext e⟩⟩
theorem run_eqValue (a b : Val) (fl : Nat) (H : LH) : run 41 [.agg (vaC a), .agg (vaC b)] fl H = some (.bool (decide (a = b)), H) := by
  unfold run vaC
  rw [Run_z Tryd.func41 rfl (by rfl : ok 41 = true) (by rfl : cfg.keep 41 = [0, 1, 2, 3, 4, 9, 14, 19, 24]) (by rfl : cfg.mode 41 = .pure) (by rfl : cfg.ord 41 = [])]
  simp (config := {contextual := true, maxSteps := 10000000, implicitDefEqProofs := false}) (disch := first | (and_intros <;> omega -splitDisjunctions) | (simp only [List.length_set, List.length_append, List.length_cons, List.length_nil]; and_intros <;> omega -splitDisjunctions) | fail) only [Tryd.f41, go_sem, ↓reduceIte, Nat.reduceEqDiff, Nat.reduceAdd, Nat.reduceMul, Nat.reduceLT, Nat.reduceLeDiff, reduceCtorEq, Int.reduceNe, Int.reduceEq, Int.reduceLT, Int.reduceLE, Int.reduceAdd, Int.reduceSub, Int.reduceMul, Int.reduceNeg, Int.reduceToNat, UInt8.reduceToNat, natLit, ty3, ty4, ty9, ty30]
  cases a; cases b
  simp only [Val.mk.injEq]
  grind
theorem run_eqHit (a b : HC) (n m : Ht) (fl : Nat) (H : LH) (ha : RelA H a n) (hb : RelA H b m) (h1 : n.path.length ≤ 1099511627776) (h2 : m.path.length ≤ 1099511627776) :
    run 13 [.agg (htC a), .agg (htC b)] fl H = some (.bool (decide (n = m)), H) := by
  have e1 := fun L fl => run_eqSegS a.pv b.pv n.path m.path fl (H ++ L) ha.path.left hb.path.left h1 h2
  have e2 := fun fl H => run_eqValue n.val m.val fl H
  have k1 := ha.doc; have k2 := ha.val
  have j1 := hb.doc; have j2 := hb.val
  have f1 := ha.path.isTup; have f2 := hb.path.isTup
  obtain ⟨ck, cp, cv⟩ := a
  obtain ⟨dk, dp, dv⟩ := b
  obtain ⟨nk, nl, nv⟩ := n
  obtain ⟨mk, ml, mv⟩ := m
  dsimp only [htC] at *
  subst k1; subst k2; subst j1; subst j2
  unfold vaC at e2
  unfold run at *
  rw [Run_z Tryd.func13 rfl (by rfl : ok 13 = true) (by rfl : cfg.keep 13 = [0, 1, 2, 3, 4, 9, 15, 21]) (by rfl : cfg.mode 13 = .pure) (by rfl : cfg.ord 13 = [])]
  simp (config := {contextual := true, maxSteps := 10000000, implicitDefEqProofs := false}) (disch := first | (and_intros <;> omega -splitDisjunctions) | (simp only [List.length_set, List.length_append, List.length_cons, List.length_nil]; and_intros <;> omega -splitDisjunctions) | fail) only [e1, e2, f1, f2, Tryd.f13, go_sem, ↓reduceIte, Nat.reduceEqDiff, Nat.reduceAdd, Nat.reduceMul, Nat.reduceLT, Nat.reduceLeDiff, reduceCtorEq, Int.reduceNe, Int.reduceEq, Int.reduceLT, Int.reduceLE, Int.reduceAdd, Int.reduceSub, Int.reduceMul, Int.reduceNeg, Int.reduceToNat, UInt8.reduceToNat, natLit, ty3, ty4, ty9, ty29, ty30, ty32, ty102]
  simp only [Ht.mk.injEq]
  grind
end Go.Proofs.YtcbjmggbbnpbpaaDoor.Lg
