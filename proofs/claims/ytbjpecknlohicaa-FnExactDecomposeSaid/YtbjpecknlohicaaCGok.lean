/- GraphOk, its nodes: both sides. No condition. -/
import Derived.Test.YtbjpecknlohicaaCTNode
import Derived.Test.YtbjpecknlohicaaCNum
namespace Go.Proofs.Ytbjpecknlohicaa.Lg
set_option linter.unusedSimpArgs false
set_option linter.unusedVariables false
set_option maxRecDepth 100000
set_option maxHeartbeats 40000000
open Go.Proofs.Ytbjpecknlohicaa

def fstP {α : Type} (p : α → Bool) : List α → Int → Int
  | [], _ => -1
  | x :: xs, i => if p x = true then i else fstP p xs (i + 1)
theorem fstP_iff {α : Type} (p : α → Bool) : ∀ (xs : List α) (i : Int), 0 ≤ i → (0 ≤ fstP p xs i ↔ xs.any p = true)
  | [], i, _ => by simp [fstP]
  | x :: xs, i, h => by
    simp only [fstP, List.any_cons, Bool.or_eq_true]
    by_cases hp : p x = true
    · simp [hp, h]
    · rw [if_neg hp, fstP_iff p xs (i + 1) (by omega)]
      simp [hp]
theorem run_IdxI (v : V) (xs : List Int) (f : FuncId) (cp : List V) (p : Int → Bool) (fl : Nat) (H : LH) (h : At H inC 1 v xs) (hx : xs.length ≤ 1099511627776)
    (hf : ∀ i, i < xs.length → ∀ fl, run f (.int .i64 (xs.getD i 0) :: cp) fl H = some (.bool (p (xs.getD i 0)), H)) :
    run 110 [v, .fn f cp] fl H = some (.int .i64 (fstP p xs 0), H) := by
  have f1 := h.isTup; have f2 := h.len; have f3 := h.lenOk ty55
  have f4 := fun (hp : 0 < xs.length) => h.con hp
  have f5 := h.idx (T := ty Try.prog) (t := 55) (by simp only [elemI, sizeO, ty3, ty55])
  have f6 := h.load1 0 (fun x => .int .i64 x) (fun _ => rfl)
  unfold run at *
  rw [Run_z Try.func110 rfl (by rfl : ok 110 = true) (by rfl : cfg.keep 110 = [0, 1, 4, 5, 7, 8, 9, 16]) (by rfl : cfg.mode 110 = .pure)]
  simp (config := {contextual := true, maxSteps := 10000000, implicitDefEqProofs := false}) (disch := first | (and_intros <;> omega -splitDisjunctions) | (simp only [List.length_set, List.length_append, List.length_cons, List.length_nil]; and_intros <;> omega -splitDisjunctions) | fail) only [f1, f2, f3, Try.f110, go_sem, ↓reduceIte, Nat.reduceEqDiff, Nat.reduceAdd, Nat.reduceMul, Nat.reduceLT, Nat.reduceLeDiff, reduceCtorEq, Int.reduceNe, Int.reduceEq, Int.reduceLT, Int.reduceLE, Int.reduceAdd, Int.reduceSub, Int.reduceMul, Int.reduceNeg, Int.reduceToNat, UInt8.reduceToNat, natLit, ty3, ty55]
  refine at_loopE fun c0 R hc0 hR => ?_
  have key : ∀ (d i : Nat) (x4 x5 x9 x16 : Option V) (j : Int), xs.length - i ≤ d → i ≤ xs.length → j = i →
      zEv (leaveX (mkR Try.prog cfg ok [0, 1, 4, 5, 7, 8, 9, 16] H.length) .pure H [ResultVar.tmp 4]) (mkR Try.prog cfg ok [0, 1, 4, 5, 7, 8, 9, 16] H.length) (K.code (Code.loop c0) :: K.blk 0 :: R) .nrm [some v, some (.fn f cp), x4, x5, some (.int .i64 xs.length), some (.int .i64 j), x9, x16] H =
      some (.int .i64 (fstP p (xs.drop i) i), H) := by
    intro d
    induction d with
    | zero =>
      intro i x4 x5 x9 x16 j hd hi hj
      subst hj
      rw [zEv_round hc0, ← hR]
      simp (config := {contextual := true, maxSteps := 10000000, implicitDefEqProofs := false}) (disch := first | (and_intros <;> omega -splitDisjunctions) | (simp only [List.length_set, List.length_append, List.length_cons, List.length_nil]; and_intros <;> omega -splitDisjunctions) | fail) only [f1, f2, f3, f4, f5, f6, hf, callV_fn, List.cons_append, List.nil_append, Try.f110, go_sem, ↓reduceIte, Nat.reduceEqDiff, Nat.reduceAdd, Nat.reduceMul, Nat.reduceLT, Nat.reduceLeDiff, reduceCtorEq, Int.reduceNe, Int.reduceEq, Int.reduceLT, Int.reduceLE, Int.reduceAdd, Int.reduceSub, Int.reduceMul, Int.reduceNeg, Int.reduceToNat, UInt8.reduceToNat, natLit, ty3, ty55]
      rw [List.drop_of_length_le (by omega)]
      exact ite_E (fun h => by omega) (fun _ => rfl)
    | succ d ih =>
      intro i x4 x5 x9 x16 j hd hi hj
      subst hj
      rw [zEv_round hc0, ← hR]
      simp (config := {contextual := true, maxSteps := 10000000, implicitDefEqProofs := false}) (disch := first | (and_intros <;> omega -splitDisjunctions) | (simp only [List.length_set, List.length_append, List.length_cons, List.length_nil]; and_intros <;> omega -splitDisjunctions) | fail) only [f1, f2, f3, f4, f5, f6, hf, callV_fn, List.cons_append, List.nil_append, Try.f110, go_sem, ↓reduceIte, Nat.reduceEqDiff, Nat.reduceAdd, Nat.reduceMul, Nat.reduceLT, Nat.reduceLeDiff, reduceCtorEq, Int.reduceNe, Int.reduceEq, Int.reduceLT, Int.reduceLE, Int.reduceAdd, Int.reduceSub, Int.reduceMul, Int.reduceNeg, Int.reduceToNat, UInt8.reduceToNat, natLit, ty3, ty55]
      rw [hR]
      refine ite_E (fun hlt => ?_) (fun hge => ?_)
      · have hlt : i < xs.length := by omega
        rw [List.drop_eq_getElem_cons hlt, ← getD_of hlt 0]
        simp only [fstP]
        refine ite_E (fun hp => ?_) (fun hp => ?_)
        · rw [if_pos hp]
        · rw [if_neg hp]
          exact ih (i + 1) _ _ _ _ ((i : Int) + 1) (by omega) (by omega) rfl
      · rw [List.drop_of_length_le (by omega)]; rfl
  exact key xs.length 0 _ _ _ _ 0 (by omega) (by omega) rfl
theorem run_ConI (v : V) (xs : List Int) (f : FuncId) (cp : List V) (p : Int → Bool) (fl : Nat) (H : LH) (h : At H inC 1 v xs) (hx : xs.length ≤ 1099511627776)
    (hf : ∀ i, i < xs.length → ∀ fl, run f (.int .i64 (xs.getD i 0) :: cp) fl H = some (.bool (p (xs.getD i 0)), H)) :
    run 100 [v, .fn f cp] fl H = some (.bool (xs.any p), H) := by
  have e1 := fun fl => run_IdxI v xs f cp p fl H h hx hf
  have e2 := fstP_iff p xs 0 (by omega)
  have f1 := h.isTup
  unfold run at *
  rw [Run_z Try.func100 rfl (by rfl : ok 100 = true) (by rfl : cfg.keep 100 = [0, 1, 4]) (by rfl : cfg.mode 100 = .pure)]
  simp (config := {contextual := true, maxSteps := 10000000, implicitDefEqProofs := false}) (disch := first | (and_intros <;> omega -splitDisjunctions) | (simp only [List.length_set, List.length_append, List.length_cons, List.length_nil]; and_intros <;> omega -splitDisjunctions) | fail) only [e1, f1, Try.f100, go_sem, ↓reduceIte, Nat.reduceEqDiff, Nat.reduceAdd, Nat.reduceMul, Nat.reduceLT, Nat.reduceLeDiff, reduceCtorEq, Int.reduceNe, Int.reduceEq, Int.reduceLT, Int.reduceLE, Int.reduceAdd, Int.reduceSub, Int.reduceMul, Int.reduceNeg, Int.reduceToNat, UInt8.reduceToNat, natLit, ty3]
  cases hb : xs.any p
  · rw [hb] at e2
    simp at e2 ⊢; omega
  · rw [hb] at e2
    simp at e2 ⊢; omega
def outK (many : Int) (k : Int) : Bool := decide ¬(0 ≤ k ∧ k ≤ many - 1)
theorem run_pn1 (k many : Int) (b : Nat) (fl : Nat) (H : LH) (hb : H.cellsAt b = some [.int .i64 many]) (h0 : 0 ≤ many) (h1 : many ≤ 1099511627776) :
    run 101 [.int .i64 k, .ptr b 0] fl H = some (.bool (outK many k), H) := by
  have e1 := run_within
  unfold run at *
  rw [Run_z Try.func101 rfl (by rfl : ok 101 = true) (by rfl : cfg.keep 101 = [0, 1, 3]) (by rfl : cfg.mode 101 = .pure)]
  simp (config := {contextual := true, maxSteps := 10000000, implicitDefEqProofs := false}) (disch := first | (and_intros <;> omega -splitDisjunctions) | (simp only [List.length_set, List.length_append, List.length_cons, List.length_nil]; and_intros <;> omega -splitDisjunctions) | fail) only [e1, hb, Try.f101, go_sem, ↓reduceIte, Nat.reduceEqDiff, Nat.reduceAdd, Nat.reduceMul, Nat.reduceLT, Nat.reduceLeDiff, reduceCtorEq, Int.reduceNe, Int.reduceEq, Int.reduceLT, Int.reduceLE, Int.reduceAdd, Int.reduceSub, Int.reduceMul, Int.reduceNeg, Int.reduceToNat, UInt8.reduceToNat, natLit, ty3, ty4]
  rfl
def ndOk (many : Int) (n : Nd) : Bool := decide (3 ≤ n.kind ∧ n.kind ≤ 5 ∧ (n.kind = 5 ∨ n.text = ⟨#[]⟩) ∧ n.tag.size ≤ 120 ∧ ¬ (n.kind = 4 ∧ n.kids.length % 2 = 1) ∧ ¬ (n.kind = 5 ∧ 0 < n.kids.length) ∧ n.kids.any (outK many) = false)
theorem run_plainNode (c : NC) (n : Nd) (many : Int) (fl : Nat) (H : LH) (h : Rel1 H c n) (h0 : 0 ≤ many) (h1 : many ≤ 1099511627776) (hk : n.kids.length ≤ 1048576) (ht : n.tag.size ≤ 1099511627776) :
    run 74 [.agg (ncC c), .int .i64 many] fl H = some (.bool (ndOk many n), H) := by
  have e1 := run_within
  have e2 : ∀ (A : Blk) (g : Nat), run 100 [c.kv, .fn 101 [.ptr (H.length + 1) 0]] g (H ++ [A, .cells [.int .i64 many]]) = some (.bool (n.kids.any (outK many)), H ++ [A, .cells [.int .i64 many]]) := fun A g =>
    run_ConI c.kv n.kids _ _ (outK many) g _ h.kids.left (by omega) (fun i hi g2 => run_pn1 _ many _ g2 _ (by rw [cellsAt_app]; rfl) h0 h1)
  have t2 : ((n.kids.length : Int)).tmod 2 = ((n.kids.length % 2 : Nat) : Int) := by rw [Int.tmod_eq_emod_of_nonneg (by omega)]; omega
  have k1 := h.kind; have k2 := h.tag; have k3 := h.text
  have f1 := h.kids.isTup; have f2 := h.kids.len; have f3 := h.kids.lenOk ty55
  obtain ⟨ck, ct, cx, kv⟩ := c
  dsimp only [ncC] at *
  subst k1; subst k2; subst k3
  unfold run at *
  rw [Run_z Try.func74 rfl (by rfl : ok 74 = true) (by rfl : cfg.keep 74 = [0, 1, 2, 3, 4, 24, 45]) (by rfl : cfg.mode 74 = .pure)]
  by_cases q1 : n.kind = 5 <;> by_cases q2 : n.text = ⟨#[]⟩ <;> by_cases q3 : n.kind = 4
  all_goals try omega
  all_goals simp (config := {contextual := true, maxSteps := 10000000, implicitDefEqProofs := false}) (disch := first | (and_intros <;> omega -splitDisjunctions) | (simp only [List.length_set, List.length_append, List.length_cons, List.length_nil]; and_intros <;> omega -splitDisjunctions) | fail) only [q1, q2, q3, e1, e2, f1, f2, f3, Try.f74, go_sem, ↓reduceIte, Nat.reduceEqDiff, Nat.reduceAdd, Nat.reduceMul, Nat.reduceLT, Nat.reduceLeDiff, reduceCtorEq, Int.reduceNe, Int.reduceEq, Int.reduceLT, Int.reduceLE, Int.reduceAdd, Int.reduceSub, Int.reduceMul, Int.reduceNeg, Int.reduceToNat, UInt8.reduceToNat, natLit, ty3, ty4, ty9, ty55, ty100]
  all_goals try rw [t2]
  all_goals unfold ndOk
  all_goals generalize n.kids.any (outK many) = bb
  all_goals clear e1 e2 f1 f2 f3 h t2
  all_goals generalize n.kids.length = len at *
  all_goals generalize n.tag.size = ts at *
  all_goals cases bb <;> simp only [q1, q2, q3, true_and, and_true, true_or, or_true, false_or, not_true_eq_false, not_false_eq_true, false_and, and_false, decide_false, if_true, if_false, reduceCtorEq, Bool.not_true, Bool.not_false, Bool.true_eq_false]
  all_goals (repeat' (refine ite_E (fun _ => ?_) (fun _ => ?_)))
  all_goals refine congrArg (fun b => some (V.bool b, H)) ?_
  all_goals first | rfl | exact (decide_eq_true (by omega)).symm | exact (decide_eq_false (by omega)).symm
theorem run_l15Node (c : NC) (n : Nd) (many : Int) (fl : Nat) (H : LH) (h : Rel1 H c n) (h0 : 0 ≤ many) (h1 : many ≤ 1099511627776) (hk : n.kids.length ≤ 1048576) (ht : n.tag.size ≤ 1099511627776) :
    run 68 [.agg (ncC c), .int .i64 many] fl H = some (.bool (ndOk many n), H) := by
  have t2 : ((n.kids.length : Int)).tmod 2 = ((n.kids.length % 2 : Nat) : Int) := by rw [Int.tmod_eq_emod_of_nonneg (by omega)]; omega
  have k1 := h.kind; have k2 := h.tag; have k3 := h.text
  have f1 := h.kids.isTup; have f2 := h.kids.len; have f3 := h.kids.lenOk ty55
  have f4 := fun L (hp : 0 < n.kids.length) => (h.kids.left (L := L)).con hp
  have f5 := h.kids.idx (T := ty Try.prog) (t := 55) (by simp only [elemI, sizeO, ty3, ty55])
  have f6 := fun L => (h.kids.left (L := L)).load1 0 (fun x => .int .i64 x) (fun _ => rfl)
  obtain ⟨ck, ct, cx, kv⟩ := c
  dsimp only [ncC] at *
  subst k1; subst k2; subst k3
  unfold run at *
  rw [Run_z Try.func68 rfl (by rfl : ok 68 = true) (by rfl : cfg.keep 68 = [0, 1, 2, 4, 6, 53, 55, 56, 57, 58, 67]) (by rfl : cfg.mode 68 = .pure)]
  by_cases q1 : n.kind = 5 <;> by_cases q2 : n.text = ⟨#[]⟩ <;> by_cases q3 : n.kind = 4
  all_goals try omega
  all_goals simp (config := {contextual := true, maxSteps := 10000000, implicitDefEqProofs := false}) (disch := first | (and_intros <;> omega -splitDisjunctions) | (simp only [List.length_set, List.length_append, List.length_cons, List.length_nil]; and_intros <;> omega -splitDisjunctions) | fail) only [q1, q2, q3, f1, f2, f3, Try.f68, go_sem, ↓reduceIte, Nat.reduceEqDiff, Nat.reduceAdd, Nat.reduceMul, Nat.reduceLT, Nat.reduceLeDiff, reduceCtorEq, Int.reduceNe, Int.reduceEq, Int.reduceLT, Int.reduceLE, Int.reduceAdd, Int.reduceSub, Int.reduceMul, Int.reduceNeg, Int.reduceToNat, UInt8.reduceToNat, natLit, ty3, ty9, ty55, ty100]
  all_goals try rw [t2]
  all_goals try refine ite_E (fun w => ?_) (fun w => ?_)
  all_goals first
    | refine congrArg (fun b => some (V.bool b, H)) ?_
      unfold ndOk
      simp only [q1, q2, q3, true_and, and_true, true_or, or_true, false_or, not_true_eq_false, not_false_eq_true, false_and, and_false, decide_false]
      all_goals first | rfl | exact (decide_eq_false (by omega)).symm
    | have hno : ndOk many n = !n.kids.any (outK many) := by
        unfold ndOk
        simp only [q1, q2, q3, true_and, and_true, true_or, or_true, false_or, not_true_eq_false, not_false_eq_true, false_and, and_false, decide_false]
        generalize n.kids.any (outK many) = bb
        cases bb
        · simp only [eq_self, and_true, Bool.not_false]
          exact decide_eq_true (by omega)
        · simp
      rw [hno]
      clear w hno
      refine at_loopE fun c0 R hc0 hR => ?_
      have key : ∀ (d i : Nat) (x2 x6 x53 x58 x67 : Option V) (j : Int) (A : V) (B : Blk), n.kids.length - i ≤ d → i ≤ n.kids.length → j = i →
          zEv (leaveX (mkR Try.prog cfg ok [0, 1, 2, 4, 6, 53, 55, 56, 57, 58, 67] H.length) .pure H [ResultVar.tmp 4]) (mkR Try.prog cfg ok [0, 1, 2, 4, 6, 53, 55, 56, 57, 58, 67] H.length) (K.code (Code.loop c0) :: K.blk 0 :: R) .nrm [some A, some (.int .i64 many), x2, some (.bool false), x6, x53, some kv, some (.int .i64 n.kids.length), some (.int .i64 j), x58, x67] (H ++ [B]) =
          some (.bool (!(n.kids.drop i).any (outK many)), H) := by
        intro d
        induction d with
        | zero =>
          intro i x2 x6 x53 x58 x67 j A B hd hi hj
          subst hj
          rw [zEv_round hc0, ← hR]
          simp (config := {contextual := true, maxSteps := 10000000, implicitDefEqProofs := false}) (disch := first | (and_intros <;> omega -splitDisjunctions) | (simp only [List.length_set, List.length_append, List.length_cons, List.length_nil]; and_intros <;> omega -splitDisjunctions) | fail) only [f1, f2, f3, f4, f5, f6, Try.f68, go_sem, ↓reduceIte, Nat.reduceEqDiff, Nat.reduceAdd, Nat.reduceMul, Nat.reduceLT, Nat.reduceLeDiff, reduceCtorEq, Int.reduceNe, Int.reduceEq, Int.reduceLT, Int.reduceLE, Int.reduceAdd, Int.reduceSub, Int.reduceMul, Int.reduceNeg, Int.reduceToNat, UInt8.reduceToNat, natLit, ty3, ty9, ty55, ty100]
          rw [List.drop_of_length_le (by omega)]
          exact ite_E (fun h => by omega) (fun _ => rfl)
        | succ d ih =>
          intro i x2 x6 x53 x58 x67 j A B hd hi hj
          subst hj
          rw [zEv_round hc0, ← hR]
          simp (config := {contextual := true, maxSteps := 10000000, implicitDefEqProofs := false}) (disch := first | (and_intros <;> omega -splitDisjunctions) | (simp only [List.length_set, List.length_append, List.length_cons, List.length_nil]; and_intros <;> omega -splitDisjunctions) | fail) only [f1, f2, f3, f4, f5, f6, Try.f68, go_sem, ↓reduceIte, Nat.reduceEqDiff, Nat.reduceAdd, Nat.reduceMul, Nat.reduceLT, Nat.reduceLeDiff, reduceCtorEq, Int.reduceNe, Int.reduceEq, Int.reduceLT, Int.reduceLE, Int.reduceAdd, Int.reduceSub, Int.reduceMul, Int.reduceNeg, Int.reduceToNat, UInt8.reduceToNat, natLit, ty3, ty9, ty55, ty100]
          rw [hR]
          refine ite_E (fun hlt => ?_) (fun hge => ?_)
          · have hlt : i < n.kids.length := by omega
            rw [List.drop_eq_getElem_cons hlt, ← getD_of hlt 0, List.any_cons]
            refine ite_E (fun hp => ?_) (fun hp => ?_)
            · rw [show outK many (n.kids.getD i 0) = true from decide_eq_true (by omega)]; rfl
            · rw [show outK many (n.kids.getD i 0) = false from decide_eq_false (by omega), Bool.false_or]
              exact ih (i + 1) _ _ _ _ _ ((i : Int) + 1) _ _ (by omega) (by omega) rfl
          · rw [List.drop_of_length_le (by omega)]; rfl
      exact key n.kids.length 0 _ _ _ _ _ 0 _ _ (by omega) (by omega) rfl
end Go.Proofs.Ytbjpecknlohicaa.Lg
