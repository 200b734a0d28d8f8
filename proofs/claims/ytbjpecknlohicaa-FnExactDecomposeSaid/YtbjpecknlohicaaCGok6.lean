/- GraphOk, both sides. No condition. -/
import Derived.Test.YtbjpecknlohicaaCGok5
namespace Go.Proofs.Ytbjpecknlohicaa.Lg
set_option linter.unusedSimpArgs false
set_option linter.unusedVariables false
set_option maxRecDepth 100000
set_option maxHeartbeats 40000000
open Go.Proofs.Ytbjpecknlohicaa

theorem MH_app (H : LH) (a0 a1 a2 a3 a4 : Blk) (nv rv : V) (s : MW) : MH (H ++ [a0, a1, a2, a3, a4]) (H.length + 4) (H.length + 2) (H.length + 3) nv rv s =
    H ++ [a0, a1, .cells (rows inC s.owner), .cells (rows boC s.opn), .cells (mwC nv rv (H.length + 2) (H.length + 3) s)] := by
  simp [MH, List.set_append]
def imR (g : Gr) : List Int → Int → MW → Bool
  | [], _, t => decide (t.met = g.nodes.length)
  | k :: ks, i, t => if ¬ (0 ≤ k ∧ k ≤ (g.nodes.length : Int) - 1) ∨ k < t.met ∨ (imGo g i (g.nodes.length + 1) t k).2 = false then false else imR g ks (i + 1) (imGo g i (g.nodes.length + 1) t k).1
def ndsOk (g : Gr) : Bool := !g.nodes.any (fun n => !ndOk g.nodes.length n)
def imOk (g : Gr) : Bool := if 3000 < g.nodes.length ∨ ndsOk g = false then false else imR g g.roots 0 ⟨0, List.replicate g.nodes.length 0, List.replicate g.nodes.length false⟩
theorem run_imGraphOk (nv rv : V) (g : Gr) (fl : Nat) (H : LH) (h : GAt H nv rv g) (hx : g.nodes.length ≤ 1048576) (kx : ∀ n ∈ g.nodes, n.kids.length ≤ 1048576 ∧ n.tag.size ≤ 1048576) (hr : g.roots.length ≤ 1048576) :
    run 35 [.agg [nv, rv]] fl H = some (.bool (imOk g), H) := by
  obtain ⟨⟨cs, hA, hlen, hR⟩, hr0⟩ := h
  have eC : ∀ (A : Blk) (f : Nat), run 72 [nv, .fn 73 [.ptr (H.length + 1) 0]] f (H ++ [A, .cells [.int .i64 g.nodes.length]]) = some (.bool (!ndsOk g), H ++ [A, .cells [.int .i64 g.nodes.length]]) := by
    intro A f
    have := run_ConN nv cs g.nodes hlen 73 [.ptr (H.length + 1) 0] (fun n => !ndOk g.nodes.length n) f (H ++ [A, .cells [.int .i64 g.nodes.length]]) hA.left (by omega) (fun i hi g2 => by
      have hn := getD_of (show i < g.nodes.length by omega) nd0
      have hm : g.nodes.getD i nd0 ∈ g.nodes := by rw [hn]; exact List.getElem_mem _
      have kk := kx _ hm
      exact run_go1 (cs.getD i nc0) (g.nodes.getD i nd0) g.nodes.length (H.length + 1) g2 (H ++ [A, .cells [.int .i64 g.nodes.length]]) ((hR i (by omega)).ext Hx.app) (by rw [cellsAt_app]; rfl) (by omega) (by omega) kk.1 (by omega))
    rw [this]
    unfold ndsOk
    rw [Bool.not_not]
  have f1 := hA.isTup; have f2 := hA.len; have f3 := hA.lenOk ty60; have f0 := hA.one
  have r1 := hr0.isTup; have r2 := hr0.len; have r3 := hr0.lenOk ty55; have r0 := hr0.one
  rw [hlen] at f2
  unfold run at *
  rw [Run_z Try.func35 rfl (by rfl : ok 35 = true) (by rfl : cfg.keep 35 = [0, 1, 2, 3, 4, 5, 6, 17, 26, 27, 28, 29, 52]) (by rfl : cfg.mode 35 = .pure)]
  simp (config := {contextual := true, maxSteps := 10000000, implicitDefEqProofs := false}) (disch := first | (and_intros <;> omega -splitDisjunctions) | (simp only [List.length_set, List.length_append, List.length_cons, List.length_nil]; and_intros <;> omega -splitDisjunctions) | fail) only [eC, f0, f1, f2, f3, r0, r1, r2, r3, Try.f35, go_sem, ↓reduceIte, Nat.reduceEqDiff, Nat.reduceAdd, Nat.reduceMul, Nat.reduceLT, Nat.reduceLeDiff, reduceCtorEq, Int.reduceNe, Int.reduceEq, Int.reduceLT, Int.reduceLE, Int.reduceAdd, Int.reduceSub, Int.reduceMul, Int.reduceNeg, Int.reduceToNat, UInt8.reduceToNat, natLit, ty3, ty4, ty9, ty55, ty60, ty62, ty100, ty111, ty113]
  refine ite_E (fun w => ?_) (fun w => ?_)
  · unfold imOk
    rw [if_pos (by rcases w with w | w; exact .inl (by omega); exact .inr w)]
  have w1 : g.nodes.length ≤ 3000 := by omega
  have w2 : ndsOk g = true := by
    cases hh : ndsOk g
    · exact absurd (.inr hh) w
    · rfl
  unfold imOk
  rw [if_neg (by rintro (h | h); omega; rw [w2] at h; exact absurd h (by simp))]
  have hk : ∀ n ∈ g.nodes, n.kids.length ≤ 1048576 ∧ ∀ k ∈ n.kids, 0 ≤ k ∧ k < g.nodes.length := fun n hn => by
    refine ⟨(kx n hn).1, fun k hk2 => ?_⟩
    have h1 : ndOk g.nodes.length n = true := by
      cases hh : ndOk g.nodes.length n
      · have : g.nodes.any (fun n => !ndOk g.nodes.length n) = true := List.any_eq_true.2 ⟨n, hn, by rw [hh]; rfl⟩
        unfold ndsOk at w2
        rw [this] at w2
        exact absurd w2 (by simp)
      · rfl
    have h2 := (of_decide_eq_true h1).2.2.2.2.2.2
    have h3 : outK g.nodes.length k = false := by
      cases hh : outK g.nodes.length k
      · rfl
      · rw [List.any_eq_true.2 ⟨k, hk2, hh⟩] at h2; exact absurd h2 (by simp)
    have h4 := of_decide_eq_false h3
    omega
  clear w w2 eC
  refine at_loopE fun c0 R hc0 hRt => ?_
  have r4 := fun L (hp : 0 < g.roots.length) => (hr0.left (L := L)).con hp
  have r5 := hr0.idx (T := ty Try.prog) (t := 55) (by simp only [elemI, sizeO, ty3, ty55])
  have r6 := fun L => (hr0.left (L := L)).load1 0 (fun x => .int .i64 x) (fun _ => rfl)
  have key : ∀ (m j : Nat) (x0 x1 x5 x6 x17 x29 x52 : Option V) (t : MW) (jj : Int) (A : Blk), g.roots.length - j ≤ m → j ≤ g.roots.length → jj = j → MInv g.nodes.length t →
      zEv (leaveX (mkR Try.prog cfg ok [0, 1, 2, 3, 4, 5, 6, 17, 26, 27, 28, 29, 52] H.length) .pure H [ResultVar.tmp 2]) (mkR Try.prog cfg ok [0, 1, 2, 3, 4, 5, 6, 17, 26, 27, 28, 29, 52] H.length) (K.code (Code.loop c0) :: K.blk 0 :: R) .nrm [x0, x1, some (.bool false), some (.ptr (H.length + 1) 0), some (.ptr (H.length + 4) 0), x5, x6, x17, some rv, some (.int .i64 g.roots.length), some (.int .i64 jj), x29, x52]
        (H ++ [A, .cells [.int .i64 g.nodes.length], .cells (rows inC t.owner), .cells (rows boC t.opn), .cells [nv, rv, .int .i64 t.met, .sl (H.length + 2) 0 1 t.owner.length t.owner.length, .sl (H.length + 3) 0 1 t.opn.length t.opn.length]]) =
      some (.bool (imR g (g.roots.drop j) j t), H) := by
    intro m
    induction m with
    | zero =>
      intro j x0 x1 x5 x6 x17 x29 x52 t jj A hd hj2 hj hT
      subst hj
      rw [zEv_round hc0, ← hRt]
      simp (config := {contextual := true, maxSteps := 10000000, implicitDefEqProofs := false}) (disch := first | (and_intros <;> omega -splitDisjunctions) | (simp only [List.length_set, List.length_append, List.length_cons, List.length_nil]; and_intros <;> omega -splitDisjunctions) | fail) only [r4, r5, r6, Try.f35, go_sem, ↓reduceIte, Nat.reduceEqDiff, Nat.reduceAdd, Nat.reduceMul, Nat.reduceLT, Nat.reduceLeDiff, reduceCtorEq, Int.reduceNe, Int.reduceEq, Int.reduceLT, Int.reduceLE, Int.reduceAdd, Int.reduceSub, Int.reduceMul, Int.reduceNeg, Int.reduceToNat, UInt8.reduceToNat, natLit, ty3, ty4, ty9, ty55, ty60, ty62, ty100, ty111, ty113]
      rw [List.drop_of_length_le (by omega)]
      exact ite_E (fun h => by omega) (fun _ => rfl)
    | succ m ihm =>
      intro j x0 x1 x5 x6 x17 x29 x52 t jj A hd hj2 hj hT
      subst hj
      have e0 := run_within
      have hm1 := hT.lo; have hm2 := hT.hi
      have e1 : ∀ (h : j < g.roots.length) (h1 : 0 ≤ g.roots.getD j 0) (h2 : g.roots.getD j 0 ≤ (g.nodes.length : Int) - 1), run 75 [.ptr (H.length + 4) 0, .int .i64 (g.roots.getD j 0), .int .i64 (j : Int)] H.length
          (H ++ [A, .cells [.int .i64 g.nodes.length], .cells (rows inC t.owner), .cells (rows boC t.opn), .cells [nv, rv, .int .i64 t.met, .sl (H.length + 2) 0 1 t.owner.length t.owner.length, .sl (H.length + 3) 0 1 t.opn.length t.opn.length]]) =
          some (.bool (imGo g j (g.nodes.length + 1) t (g.roots.getD j 0)).2, H ++ [A, .cells [.int .i64 g.nodes.length], .cells (rows inC (imGo g j (g.nodes.length + 1) t (g.roots.getD j 0)).1.owner), .cells (rows boC (imGo g j (g.nodes.length + 1) t (g.roots.getD j 0)).1.opn), .cells [nv, rv, .int .i64 (imGo g j (g.nodes.length + 1) t (g.roots.getD j 0)).1.met, .sl (H.length + 2) 0 1 (imGo g j (g.nodes.length + 1) t (g.roots.getD j 0)).1.owner.length (imGo g j (g.nodes.length + 1) t (g.roots.getD j 0)).1.owner.length, .sl (H.length + 3) 0 1 (imGo g j (g.nodes.length + 1) t (g.roots.getD j 0)).1.opn.length (imGo g j (g.nodes.length + 1) t (g.roots.getD j 0)).1.opn.length]]) := by
        intro h h1 h2
        have := run_visit H nv rv cs g hA hlen hR w1 hk (H.length + 4) (H.length + 2) (H.length + 3) (by omega) (by omega) (by omega) (by omega) (by omega) (by omega) (j : Int) g.nodes.length
          (H ++ [A, .cells [.int .i64 g.nodes.length], .cells (rows inC t.owner), .cells (rows boC t.opn), .cells [nv, rv, .int .i64 t.met, .sl (H.length + 2) 0 1 t.owner.length t.owner.length, .sl (H.length + 3) 0 1 t.opn.length t.opn.length]])
          t (g.roots.getD j 0).toNat H.length Hx.app ⟨by rw [cellsAt_app]; rfl, by rw [cellsAt_app]; rfl, by rw [cellsAt_app]; rfl⟩ hT (by omega) (by omega) (by omega) (by omega) (by omega)
        rw [MH_app, Int.toNat_of_nonneg h1] at this
        exact this
      unfold run at e0 e1
      rw [zEv_round hc0, ← hRt]
      by_cases hW : 0 ≤ g.roots.getD j 0 ∧ g.roots.getD j 0 ≤ (g.nodes.length : Int) - 1
      · by_cases hm : g.roots.getD j 0 < t.met
        · simp (config := {contextual := true, maxSteps := 10000000, implicitDefEqProofs := false}) (disch := first | (and_intros <;> omega -splitDisjunctions) | (simp only [List.length_set, List.length_append, List.length_cons, List.length_nil]; and_intros <;> omega -splitDisjunctions) | fail) only [hW, hm, and_self, e0, e1, r4, r5, r6, Try.f35, go_sem, ↓reduceIte, Nat.reduceEqDiff, Nat.reduceAdd, Nat.reduceMul, Nat.reduceLT, Nat.reduceLeDiff, reduceCtorEq, Int.reduceNe, Int.reduceEq, Int.reduceLT, Int.reduceLE, Int.reduceAdd, Int.reduceSub, Int.reduceMul, Int.reduceNeg, Int.reduceToNat, UInt8.reduceToNat, natLit, ty3, ty4, ty9, ty55, ty60, ty62, ty100, ty111, ty113]
          try rw [hRt]
          refine ite_E (fun hlt => ?_) (fun hge => ?_)
          rotate_left
          · rw [List.drop_of_length_le (by omega)]; rfl
          have hlt : j < g.roots.length := by omega
          rw [List.drop_eq_getElem_cons hlt, ← getD_of hlt 0]
          simp only [imR]
          rw [if_pos (.inr (.inl hm))]
        · simp (config := {contextual := true, maxSteps := 10000000, implicitDefEqProofs := false}) (disch := first | (and_intros <;> omega -splitDisjunctions) | (simp only [List.length_set, List.length_append, List.length_cons, List.length_nil]; and_intros <;> omega -splitDisjunctions) | fail) only [hW, hm, and_self, e0, e1, r4, r5, r6, Try.f35, go_sem, ↓reduceIte, Nat.reduceEqDiff, Nat.reduceAdd, Nat.reduceMul, Nat.reduceLT, Nat.reduceLeDiff, reduceCtorEq, Int.reduceNe, Int.reduceEq, Int.reduceLT, Int.reduceLE, Int.reduceAdd, Int.reduceSub, Int.reduceMul, Int.reduceNeg, Int.reduceToNat, UInt8.reduceToNat, natLit, ty3, ty4, ty9, ty55, ty60, ty62, ty100, ty111, ty113]
          try rw [hRt]
          refine ite_E (fun hlt => ?_) (fun hge => ?_)
          rotate_left
          · rw [List.drop_of_length_le (by omega)]; rfl
          have hlt : j < g.roots.length := by omega
          rw [List.drop_eq_getElem_cons hlt, ← getD_of hlt 0]
          simp only [imR]
          have hv := imGo_inv g j hk (g.nodes.length + 1) t (g.roots.getD j 0) hT hW.1 (by omega)
          refine ite_E (fun hf => ?_) (fun hf => ?_)
          · rw [if_pos (.inr (.inr hf))]
          · rw [if_neg (by rintro (h | h | h); exact h hW; exact hm h; exact hf h)]
            exact ihm (j + 1) _ _ _ _ _ _ _ (imGo g j (g.nodes.length + 1) t (g.roots.getD j 0)).1 ((j : Int) + 1) A (by omega) (by omega) rfl hv.1
      · simp (config := {contextual := true, maxSteps := 10000000, implicitDefEqProofs := false}) (disch := first | (and_intros <;> omega -splitDisjunctions) | (simp only [List.length_set, List.length_append, List.length_cons, List.length_nil]; and_intros <;> omega -splitDisjunctions) | fail) only [hW, e0, e1, r4, r5, r6, Try.f35, go_sem, ↓reduceIte, Nat.reduceEqDiff, Nat.reduceAdd, Nat.reduceMul, Nat.reduceLT, Nat.reduceLeDiff, reduceCtorEq, Int.reduceNe, Int.reduceEq, Int.reduceLT, Int.reduceLE, Int.reduceAdd, Int.reduceSub, Int.reduceMul, Int.reduceNeg, Int.reduceToNat, UInt8.reduceToNat, natLit, ty3, ty4, ty9, ty55, ty60, ty62, ty100, ty111, ty113]
        try rw [hRt]
        refine ite_E (fun hlt => ?_) (fun hge => ?_)
        rotate_left
        · rw [List.drop_of_length_le (by omega)]; rfl
        have hlt : j < g.roots.length := by omega
        rw [List.drop_eq_getElem_cons hlt, ← getD_of hlt 0]
        simp only [imR]
        rw [if_pos (.inl hW)]
  have := fun x0 x1 x5 x6 x17 x29 x52 => key g.roots.length 0 x0 x1 x5 x6 x17 x29 x52 ⟨0, List.replicate g.nodes.length 0, List.replicate g.nodes.length false⟩ 0 (.cells [nv, rv]) (by omega) (by omega) rfl ⟨by simp, by simp, by simp, by simp⟩
  simp only [List.drop_zero, rows_replicate, List.length_replicate] at this
  exact this _ _ _ _ _ _ _
end Go.Proofs.Ytbjpecknlohicaa.Lg
