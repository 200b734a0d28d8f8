/- GraphOk, over all nodes; going through. No condition. -/
import Derived.Test.YtbjpecknlohicaaCGok
namespace Go.Proofs.Ytbjpecknlohicaa.Lg
set_option linter.unusedSimpArgs false
set_option linter.unusedVariables false
set_option maxRecDepth 100000
set_option maxHeartbeats 40000000
open Go.Proofs.Ytbjpecknlohicaa

theorem run_IdxN (v : V) (xs : List NC) (ns : List Nd) (hn : xs.length = ns.length) (f : FuncId) (cp : List V) (p : Nd → Bool) (fl : Nat) (H : LH) (h : At H ncC 4 v xs) (hx : xs.length ≤ 1099511627776)
    (hf : ∀ i, i < xs.length → ∀ fl, run f (.agg (ncC (xs.getD i nc0)) :: cp) fl H = some (.bool (p (ns.getD i nd0)), H)) :
    run 99 [v, .fn f cp] fl H = some (.int .i64 (fstP p ns 0), H) := by
  have f1 := h.isTup; have f2 := h.len; have f3 := h.lenOk ty60
  have f4 := fun (hp : 0 < xs.length) => h.con hp
  have f5 := h.idx (T := ty Try.prog) (t := 60) (by simp only [elemI, sizeO, ty3, ty9, ty55, ty60, ty100])
  have f6 := h.loadD ncC_len nc0
  unfold run at *
  rw [Run_z Try.func99 rfl (by rfl : ok 99 = true) (by rfl : cfg.keep 99 = [0, 1, 4, 5, 7, 8, 9, 16]) (by rfl : cfg.mode 99 = .pure)]
  simp (config := {contextual := true, maxSteps := 10000000, implicitDefEqProofs := false}) (disch := first | (and_intros <;> omega -splitDisjunctions) | (simp only [List.length_set, List.length_append, List.length_cons, List.length_nil]; and_intros <;> omega -splitDisjunctions) | fail) only [f1, f2, f3, Try.f99, go_sem, ↓reduceIte, Nat.reduceEqDiff, Nat.reduceAdd, Nat.reduceMul, Nat.reduceLT, Nat.reduceLeDiff, reduceCtorEq, Int.reduceNe, Int.reduceEq, Int.reduceLT, Int.reduceLE, Int.reduceAdd, Int.reduceSub, Int.reduceMul, Int.reduceNeg, Int.reduceToNat, UInt8.reduceToNat, natLit, ty3, ty9, ty55, ty60, ty100]
  refine at_loopE fun c0 R hc0 hR => ?_
  have key : ∀ (d i : Nat) (x4 x5 x9 x16 : Option V) (j : Int), xs.length - i ≤ d → i ≤ xs.length → j = i →
      zEv (leaveX (mkR Try.prog cfg ok [0, 1, 4, 5, 7, 8, 9, 16] H.length) .pure H [ResultVar.tmp 4]) (mkR Try.prog cfg ok [0, 1, 4, 5, 7, 8, 9, 16] H.length) (K.code (Code.loop c0) :: K.blk 0 :: R) .nrm [some v, some (.fn f cp), x4, x5, some (.int .i64 xs.length), some (.int .i64 j), x9, x16] H =
      some (.int .i64 (fstP p (ns.drop i) i), H) := by
    intro d
    induction d with
    | zero =>
      intro i x4 x5 x9 x16 j hd hi hj
      subst hj
      rw [zEv_round hc0, ← hR]
      simp (config := {contextual := true, maxSteps := 10000000, implicitDefEqProofs := false}) (disch := first | (and_intros <;> omega -splitDisjunctions) | (simp only [List.length_set, List.length_append, List.length_cons, List.length_nil]; and_intros <;> omega -splitDisjunctions) | fail) only [f1, f2, f3, f4, f5, f6, hf, callV_fn, List.cons_append, List.nil_append, Try.f99, go_sem, ↓reduceIte, Nat.reduceEqDiff, Nat.reduceAdd, Nat.reduceMul, Nat.reduceLT, Nat.reduceLeDiff, reduceCtorEq, Int.reduceNe, Int.reduceEq, Int.reduceLT, Int.reduceLE, Int.reduceAdd, Int.reduceSub, Int.reduceMul, Int.reduceNeg, Int.reduceToNat, UInt8.reduceToNat, natLit, ty3, ty9, ty55, ty60, ty100]
      rw [List.drop_of_length_le (by omega)]
      exact ite_E (fun h => by omega) (fun _ => rfl)
    | succ d ih =>
      intro i x4 x5 x9 x16 j hd hi hj
      subst hj
      rw [zEv_round hc0, ← hR]
      simp (config := {contextual := true, maxSteps := 10000000, implicitDefEqProofs := false}) (disch := first | (and_intros <;> omega -splitDisjunctions) | (simp only [List.length_set, List.length_append, List.length_cons, List.length_nil]; and_intros <;> omega -splitDisjunctions) | fail) only [f1, f2, f3, f4, f5, f6, hf, callV_fn, List.cons_append, List.nil_append, Try.f99, go_sem, ↓reduceIte, Nat.reduceEqDiff, Nat.reduceAdd, Nat.reduceMul, Nat.reduceLT, Nat.reduceLeDiff, reduceCtorEq, Int.reduceNe, Int.reduceEq, Int.reduceLT, Int.reduceLE, Int.reduceAdd, Int.reduceSub, Int.reduceMul, Int.reduceNeg, Int.reduceToNat, UInt8.reduceToNat, natLit, ty3, ty9, ty55, ty60, ty100]
      rw [hR]
      refine ite_E (fun hlt => ?_) (fun hge => ?_)
      · have hlt : i < xs.length := by omega
        have hlt2 : i < ns.length := by omega
        rw [List.drop_eq_getElem_cons hlt2, ← getD_of hlt2 nd0]
        simp only [fstP]
        refine ite_E (fun hp => ?_) (fun hp => ?_)
        · rw [if_pos hp]
        · rw [if_neg hp]
          exact ih (i + 1) _ _ _ _ ((i : Int) + 1) (by omega) (by omega) rfl
      · rw [List.drop_of_length_le (by omega)]; rfl
  exact key xs.length 0 _ _ _ _ 0 (by omega) (by omega) rfl
theorem run_ConN (v : V) (xs : List NC) (ns : List Nd) (hn : xs.length = ns.length) (f : FuncId) (cp : List V) (p : Nd → Bool) (fl : Nat) (H : LH) (h : At H ncC 4 v xs) (hx : xs.length ≤ 1099511627776)
    (hf : ∀ i, i < xs.length → ∀ fl, run f (.agg (ncC (xs.getD i nc0)) :: cp) fl H = some (.bool (p (ns.getD i nd0)), H)) :
    run 72 [v, .fn f cp] fl H = some (.bool (ns.any p), H) := by
  have e1 := fun fl => run_IdxN v xs ns hn f cp p fl H h hx hf
  have e2 := fstP_iff p ns 0 (by omega)
  have f1 := h.isTup
  unfold run at *
  rw [Run_z Try.func72 rfl (by rfl : ok 72 = true) (by rfl : cfg.keep 72 = [0, 1, 4]) (by rfl : cfg.mode 72 = .pure)]
  simp (config := {contextual := true, maxSteps := 10000000, implicitDefEqProofs := false}) (disch := first | (and_intros <;> omega -splitDisjunctions) | (simp only [List.length_set, List.length_append, List.length_cons, List.length_nil]; and_intros <;> omega -splitDisjunctions) | fail) only [e1, f1, Try.f72, go_sem, ↓reduceIte, Nat.reduceEqDiff, Nat.reduceAdd, Nat.reduceMul, Nat.reduceLT, Nat.reduceLeDiff, reduceCtorEq, Int.reduceNe, Int.reduceEq, Int.reduceLT, Int.reduceLE, Int.reduceAdd, Int.reduceSub, Int.reduceMul, Int.reduceNeg, Int.reduceToNat, UInt8.reduceToNat, natLit, ty3]
  cases hb : ns.any p
  · rw [hb] at e2
    simp at e2 ⊢; omega
  · rw [hb] at e2
    simp at e2 ⊢; omega
theorem run_go1 (c : NC) (n : Nd) (many : Int) (b : Nat) (fl : Nat) (H : LH) (h : Rel1 H c n) (hb : H.cellsAt b = some [.int .i64 many]) (h0 : 0 ≤ many) (h1 : many ≤ 1099511627776) (hk : n.kids.length ≤ 1048576) (ht : n.tag.size ≤ 1099511627776) :
    run 73 [.agg (ncC c), .ptr b 0] fl H = some (.bool (!ndOk many n), H) := by
  have e1 := fun L g => run_plainNode c n many g (H ++ L) ⟨h.kind, h.tag, h.text, h.kids.left⟩ h0 h1 hk ht
  have hb2 := fun L => cellsAt_left (L := L) hb
  have f1 := h.kids.isTup; have f2 := h.kids.one
  obtain ⟨ck, ct, cx, kv⟩ := c
  dsimp only [ncC] at *
  unfold run at *
  rw [Run_z Try.func73 rfl (by rfl : ok 73 = true) (by rfl : cfg.keep 73 = [0, 1, 2, 3]) (by rfl : cfg.mode 73 = .pure)]
  simp (config := {contextual := true, maxSteps := 10000000, implicitDefEqProofs := false}) (disch := first | (and_intros <;> omega -splitDisjunctions) | (simp only [List.length_set, List.length_append, List.length_cons, List.length_nil]; and_intros <;> omega -splitDisjunctions) | fail) only [e1, hb, hb2, f1, f2, Try.f73, go_sem, ↓reduceIte, Nat.reduceEqDiff, Nat.reduceAdd, Nat.reduceMul, Nat.reduceLT, Nat.reduceLeDiff, reduceCtorEq, Int.reduceNe, Int.reduceEq, Int.reduceLT, Int.reduceLE, Int.reduceAdd, Int.reduceSub, Int.reduceMul, Int.reduceNeg, Int.reduceToNat, UInt8.reduceToNat, natLit, ty3, ty4, ty9, ty55, ty100]
  done
end Go.Proofs.Ytbjpecknlohicaa.Lg
