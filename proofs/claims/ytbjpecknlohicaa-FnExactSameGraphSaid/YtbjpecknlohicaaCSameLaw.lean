/- FnExactSameGraph over the logical machine. No condition. -/
import Derived.Test.YtbjpecknlohicaaCSame
namespace Go.Proofs.Ytbjpecknlohicaa.Lg
set_option linter.unusedSimpArgs false
set_option linter.unusedVariables false
set_option maxRecDepth 100000
set_option maxHeartbeats 40000000
open Go.Proofs.Ytbjpecknlohicaa

def sameG (a b : Gr) : Bool := decide (imOk a = true ∧ imOk b = true ∧ a.nodes = b.nodes ∧ a.roots = b.roots)
theorem nd_ext : ∀ {a b : Nd}, a.kind = b.kind → a.tag = b.tag → a.text = b.text → a.kids = b.kids → a = b
  | ⟨_, _, _, _⟩, ⟨_, _, _, _⟩, h1, h2, h3, h4 => by
    simp only at h1 h2 h3 h4
    rw [h1, h2, h3, h4]
theorem run_imSame (nv rv nv' rv' : V) (a b : Gr) (fl : Nat) (H : LH) (h : GAt H nv rv a) (h' : GAt H nv' rv' b) (hw : grW a ≤ 1048576) (hw' : grW b ≤ 1048576) :
    run 41 [.agg [nv, rv], .agg [nv', rv']] fl H = some (.bool (sameG a b), H) := by
  have ba := grW_bnd hw
  have bb := grW_bnd hw'
  have e1 := fun L fl => run_eqNds nv nv' a.nodes b.nodes fl (H ++ L) (h.1.ext Hx.app) (h'.1.ext Hx.app) (by omega) (by omega) (fun n hn => by have := ba.2.2 n hn; omega) (fun n hn => by have := bb.2.2 n hn; omega)
  have e2 := fun L fl => run_imOk nv rv a fl (H ++ L) (h.ext Hx.app) hw
  have e3 := fun L fl => run_imOk nv' rv' b fl (H ++ L) (h'.ext Hx.app) hw'
  have e4 := fun L fl => run_eqInts rv rv' a.roots b.roots fl (H ++ L) (h.2.ext Hx.app) (h'.2.ext Hx.app) (by omega) (by omega)
  have f1 := h.1.isTup; have f2 := h.2.isTup; have f3 := h.1.one; have f4 := h.2.one
  have g1 := h'.1.isTup; have g2 := h'.2.isTup; have g3 := h'.1.one; have g4 := h'.2.one
  unfold run at *
  rw [Run_z Try.func41 rfl (by rfl : ok 41 = true) (by rfl : cfg.keep 41 = [0, 1, 2, 3, 4, 5]) (by rfl : cfg.mode 41 = .pure)]
  simp (config := {contextual := true, maxSteps := 10000000, implicitDefEqProofs := false}) (disch := first | (and_intros <;> omega -splitDisjunctions) | (simp only [List.length_set, List.length_append, List.length_cons, List.length_nil]; and_intros <;> omega -splitDisjunctions) | fail) only [e1, e2, e3, e4, f1, f2, f3, f4, g1, g2, g3, g4, Try.f41, go_sem, ↓reduceIte, Nat.reduceEqDiff, Nat.reduceAdd, Nat.reduceMul, Nat.reduceLT, Nat.reduceLeDiff, reduceCtorEq, Int.reduceNe, Int.reduceEq, Int.reduceLT, Int.reduceLE, Int.reduceAdd, Int.reduceSub, Int.reduceMul, Int.reduceNeg, Int.reduceToNat, UInt8.reduceToNat, natLit, ty3, ty9, ty55, ty60, ty62, ty100]
  unfold sameG
  cases imOk a <;> cases imOk b <;> simp
theorem run_spSame (nv rv nv' rv' : V) (a b : Gr) (fl : Nat) (H : LH) (h : GAt H nv rv a) (h' : GAt H nv' rv' b) (hw : grW a ≤ 1048576) (hw' : grW b ≤ 1048576) :
    run 40 [.agg [nv, rv], .agg [nv', rv']] fl H = some (.bool (sameG a b), H) := by
  have ba := grW_bnd hw
  have bb := grW_bnd hw'
  have e2 := fun L fl => run_spOk nv rv a fl (H ++ L) (h.ext Hx.app) hw
  have e3 := fun L fl => run_spOk nv' rv' b fl (H ++ L) (h'.ext Hx.app) hw'
  have e4 := fun L fl => run_l15Ints rv rv' a.roots b.roots fl (H ++ L) (h.2.ext Hx.app) (h'.2.ext Hx.app) (by omega) (by omega)
  have t1 := h.2.isTup; have t2 := h.2.one
  have s1 := h'.2.isTup; have s2 := h'.2.one
  obtain ⟨⟨cs, hA, hlen, hRl⟩, hr⟩ := h
  obtain ⟨⟨ds, hB, hlen', hR'⟩, hr'⟩ := h'
  have f1 := hA.isTup; have f2 := hA.len; have f3 := hA.lenOk ty60; have f0 := hA.one
  have f4 := fun L hp => (hA.left (L := L)).con hp
  have f5 := hA.idx (T := ty Try.prog) (t := 60) (by simp only [elemI, sizeO, ty3, ty9, ty55, ty60, ty100])
  have f6 := fun L => (hA.left (L := L)).loadD ncC_len nc0
  have g1 := hB.isTup; have g2 := hB.len; have g3 := hB.lenOk ty60; have g0 := hB.one
  have g4 := fun L hp => (hB.left (L := L)).con hp
  have g5 := hB.idx (T := ty Try.prog) (t := 60) (by simp only [elemI, sizeO, ty3, ty9, ty55, ty60, ty100])
  have g6 := fun L => (hB.left (L := L)).loadD ncC_len nc0
  rw [hlen] at f2
  rw [hlen'] at g2
  have e5 := fun i (hi : i < cs.length ∧ i < ds.length) fl L => run_l15Ints (cs.getD i nc0).kv (ds.getD i nc0).kv (a.nodes.getD i nd0).kids (b.nodes.getD i nd0).kids fl (H ++ L) ((hRl i (by omega)).kids.ext Hx.app) ((hR' i (by omega)).kids.ext Hx.app)
    (by rw [getD_of (by omega)]; have := ba.2.2 _ (List.getElem_mem (show i < a.nodes.length by omega)); omega) (by rw [getD_of (by omega)]; have := bb.2.2 _ (List.getElem_mem (show i < b.nodes.length by omega)); omega)
  have c1 := fun i (hi : i < cs.length) => (hRl i (by omega)).kids.isTup
  have c2 := fun i (hi : i < ds.length) => (hR' i (by omega)).kids.isTup
  have c3 := fun i (hi : i < cs.length) => (hRl i (by omega)).kids.one
  have c4 := fun i (hi : i < ds.length) => (hR' i (by omega)).kids.one
  unfold run at *
  simp only [ncC] at f6 g6
  rw [Run_z Try.func40 rfl (by rfl : ok 40 = true) (by rfl : cfg.keep 40 = [0, 1, 2, 3, 4, 5, 6, 7, 32, 35, 36, 37, 75]) (by rfl : cfg.mode 40 = .pure)]
  simp (config := {contextual := true, maxSteps := 10000000, implicitDefEqProofs := false}) (disch := first | (and_intros <;> omega -splitDisjunctions) | (simp only [List.length_set, List.length_append, List.length_cons, List.length_nil]; and_intros <;> omega -splitDisjunctions) | fail) only [e2, e3, e4, t1, t2, s1, s2, f0, f1, f2, f3, f4, f5, f6, g0, g1, g2, g3, g4, g5, g6, Try.f40, go_sem, ↓reduceIte, Nat.reduceEqDiff, Nat.reduceAdd, Nat.reduceMul, Nat.reduceLT, Nat.reduceLeDiff, reduceCtorEq, Int.reduceNe, Int.reduceEq, Int.reduceLT, Int.reduceLE, Int.reduceAdd, Int.reduceSub, Int.reduceMul, Int.reduceNeg, Int.reduceToNat, UInt8.reduceToNat, natLit, ty3, ty4, ty9, ty55, ty60, ty62, ty100]
  unfold sameG
  refine ite_E (fun w => ?_) (fun w => ?_)
  · refine congrArg (fun b => some (V.bool b, H)) (decide_eq_false ?_).symm
    rintro ⟨h1, h2, h3, h4⟩
    rw [h1, h2, h4] at w
    have h5 : a.nodes.length = b.nodes.length := by rw [h3]
    simp at w
    omega
  have w1 : imOk a = true ∧ imOk b = true ∧ a.roots = b.roots ∧ a.nodes.length = b.nodes.length := by
    simp only [not_or, Decidable.not_not, Bool.not_eq_false] at w
    obtain ⟨⟨⟨w1, w2⟩, w3⟩, w4⟩ := w
    exact ⟨w1, w2, w4, by omega⟩
  have w2 := w1.2.2.2
  rw [show decide (imOk a = true ∧ imOk b = true ∧ a.nodes = b.nodes ∧ a.roots = b.roots) = decide (a.nodes = b.nodes) by rw [w1.1, w1.2.1, w1.2.2.1]; simp]
  refine at_loopE fun c R hc hR => ?_
  have key : ∀ (m : Nat) (j : Nat) (jj : Int) (L : LH) (x0 x1 x5 x6 x7 x32 x37 x75 : Option V), a.nodes.length - j < m → jj = j → j ≤ a.nodes.length →
      zEv (leaveX (mkR Try.prog cfg ok [0, 1, 2, 3, 4, 5, 6, 7, 32, 35, 36, 37, 75] H.length) .pure H [ResultVar.tmp 4]) (mkR Try.prog cfg ok [0, 1, 2, 3, 4, 5, 6, 7, 32, 35, 36, 37, 75] H.length) (K.code (Code.loop c) :: K.blk 0 :: R) .nrm [x0, x1, some (.ptr H.length 0), some (.ptr (H.length + 1) 0), some (.bool false), x5, x6, x7, x32, some (.int .i64 b.nodes.length), some (.int .i64 jj), x37, x75] (H ++ .cells [nv, rv] :: .cells [nv', rv'] :: L) = some (.bool (decide (a.nodes.drop j = b.nodes.drop j)), H) := by
    intro m
    induction m with
    | zero => intro j jj L x0 x1 x5 x6 x7 x32 x37 x75 hm; omega
    | succ m ih =>
      intro j jj L x0 x1 x5 x6 x7 x32 x37 x75 hm hj hle
      subst hj
      rw [zEv_round hc, ← hR]
      simp (config := {contextual := true, maxSteps := 10000000, implicitDefEqProofs := false}) (disch := first | (and_intros <;> omega -splitDisjunctions) | (simp only [List.length_set, List.length_append, List.length_cons, List.length_nil]; and_intros <;> omega -splitDisjunctions) | fail) only [e5, c1, c2, c3, c4, f0, f1, f2, f3, f4, f5, f6, g0, g1, g2, g3, g4, g5, g6, Try.f40, go_sem, ↓reduceIte, Nat.reduceEqDiff, Nat.reduceAdd, Nat.reduceMul, Nat.reduceLT, Nat.reduceLeDiff, reduceCtorEq, Int.reduceNe, Int.reduceEq, Int.reduceLT, Int.reduceLE, Int.reduceAdd, Int.reduceSub, Int.reduceMul, Int.reduceNeg, Int.reduceToNat, UInt8.reduceToNat, natLit, ty3, ty4, ty9, ty55, ty60, ty62, ty100]
      try rw [hR]
      refine ite_E (fun hlt => ?_) (fun hge => ?_)
      · have hlt : j < a.nodes.length := by omega
        have hlt' : j < b.nodes.length := by omega
        rw [List.drop_eq_getElem_cons hlt, List.drop_eq_getElem_cons hlt', ← getD_of hlt nd0, ← getD_of hlt' nd0]
        have r1 := hRl j hlt
        have r2 := hR' j hlt'
        refine ite_E (fun q1 => ite_E (fun q2 => ite_E (fun q3 => ite_E (fun q4 => ?_) (fun q => ?_)) (fun q => ?_)) (fun q => ?_)) (fun q => ?_)
        · rw [r1.kind, r2.kind] at q1
          rw [r1.tag, r2.tag] at q2
          rw [r1.text, r2.text] at q3
          refine (ih (j + 1) ((j : Int) + 1) _ _ _ _ _ _ _ _ _ (by omega) rfl (by omega)).trans ?_
          simp only [nd_ext q1 q2 q3 q4, List.cons.injEq, true_and]
        · rw [decide_eq_false (fun e => q (by rw [(List.cons.inj e).1]))]
        · rw [decide_eq_false (fun e => q (by rw [r1.text, r2.text, (List.cons.inj e).1]))]
        · rw [decide_eq_false (fun e => q (by rw [r1.tag, r2.tag, (List.cons.inj e).1]))]
        · rw [decide_eq_false (fun e => q (by rw [r1.kind, r2.kind, (List.cons.inj e).1]))]
      · rw [List.drop_of_length_le (by omega), List.drop_of_length_le (by omega)]; rfl
  have := fun x0 x1 x5 x6 x7 x32 x37 x75 => key (a.nodes.length + 1) 0 0 [] x0 x1 x5 x6 x7 x32 x37 x75 (by omega) rfl (by omega)
  simp only [List.drop_zero] at this ⊢
  exact this _ _ _ _ _ _ _ _
theorem run_FnExactSameGraph (nv rv : V) (g : Gr) (nu ru : V) (h : Gr) (fl : Nat) (H : LH) (a : GAt H nv rv g) (hf : grFit g) (b : GAt H nu ru h) (hg : grFit h) :
    run 9 [.agg [nv, rv], .agg [nu, ru]] fl H = some (.bool true, H) := by
  have f1 := a.1.isTup; have f2 := a.2.isTup; have f3 := a.1.one; have f4 := a.2.one
  have k1 := b.1.isTup; have k2 := b.2.isTup; have k3 := b.1.one; have k4 := b.2.one
  have w0 := @grW_lo g
  have w1 := @grW_lo h
  have d0 := fun L => run_szGraphW nv rv g 1048576 H.length (H ++ L) (a.ext Hx.app) (by decide) (by decide) hf
  by_cases hs : (1048576 : Int) < grW g
  · unfold run at *
    simp only [if_pos hs] at d0
    rw [Run_z Try.func9 rfl (by rfl : ok 9 = true) (by rfl : cfg.keep 9 = [0, 1, 2, 3, 4, 5, 6, 7, 8, 9, 14, 19, 34, 39, 44]) (by rfl : cfg.mode 9 = .pure)]
    simp (config := {contextual := true, maxSteps := 10000000, implicitDefEqProofs := false}) (disch := first | (and_intros <;> omega -splitDisjunctions) | (simp only [List.length_set, List.length_append, List.length_cons, List.length_nil]; and_intros <;> omega -splitDisjunctions) | fail) only [d0, f1, f2, f3, f4, k1, k2, k3, k4, Try.f9, go_sem, ↓reduceIte, Nat.reduceEqDiff, Nat.reduceAdd, Nat.reduceMul, Nat.reduceLT, Nat.reduceLeDiff, reduceCtorEq, Int.reduceNe, Int.reduceEq, Int.reduceLT, Int.reduceLE, Int.reduceAdd, Int.reduceSub, Int.reduceMul, Int.reduceNeg, Int.reduceToNat, UInt8.reduceToNat, natLit, ty3, ty4, ty9, ty54, ty55, ty57, ty60, ty62, ty100, ty134]
  have d1 := fun L => run_szGraphW nu ru h (1048576 - grW g) H.length (H ++ L) (b.ext Hx.app) (by omega) (by omega) hg
  simp only [if_neg hs] at d0
  have hb : ¬ (1048576 : Int) - grW g < 0 := by omega
  by_cases hs2 : (1048576 : Int) - grW g < grW h
  · unfold run at *
    simp only [if_pos hs2] at d1
    rw [Run_z Try.func9 rfl (by rfl : ok 9 = true) (by rfl : cfg.keep 9 = [0, 1, 2, 3, 4, 5, 6, 7, 8, 9, 14, 19, 34, 39, 44]) (by rfl : cfg.mode 9 = .pure)]
    simp (config := {contextual := true, maxSteps := 10000000, implicitDefEqProofs := false}) (disch := first | (and_intros <;> omega -splitDisjunctions) | (simp only [List.length_set, List.length_append, List.length_cons, List.length_nil]; and_intros <;> omega -splitDisjunctions) | fail) only [d0, d1, hb, f1, f2, f3, f4, k1, k2, k3, k4, Try.f9, go_sem, ↓reduceIte, Nat.reduceEqDiff, Nat.reduceAdd, Nat.reduceMul, Nat.reduceLT, Nat.reduceLeDiff, reduceCtorEq, Int.reduceNe, Int.reduceEq, Int.reduceLT, Int.reduceLE, Int.reduceAdd, Int.reduceSub, Int.reduceMul, Int.reduceNeg, Int.reduceToNat, UInt8.reduceToNat, natLit, ty3, ty4, ty9, ty54, ty55, ty57, ty60, ty62, ty100, ty134]
  simp only [if_neg hs2] at d1
  have hb2 : ¬ (1048576 : Int) - grW g - grW h < 0 := by omega
  have hw : grW g ≤ 1048576 := by omega
  have hv : grW h ≤ 1048576 := by omega
  obtain ⟨H1, n1, r1, e1, c1⟩ := run_copy nv rv g H.length (H ++ [.cells [nv, rv], .cells [nu, ru]]) (a.ext Hx.app) hw
  have x1 : Hx H H1 := Hx.app.trans c1.ext
  obtain ⟨H2, n2, r2, e2, c2⟩ := run_copy nu ru h H.length H1 (b.ext x1) hv
  have x2 := x1.trans c2.ext
  have e3 := run_spSame n1 r1 n2 r2 g h H.length H2 (c1.at.ext c2.ext) c2.at hw hv
  obtain ⟨H3, n3, r3, e4, c3⟩ := run_copy nv rv g H.length H2 (a.ext x2) hw
  have x3 := x2.trans c3.ext
  obtain ⟨H4, n4, r4, e5, c4⟩ := run_copy nu ru h H.length (H3 ++ [.cells [n3, r3]]) ((b.ext x3).ext Hx.app) hv
  have y4 : Hx H3 H4 := Hx.app.trans c4.ext
  have x4 := x3.trans y4
  have e6 := run_imSame n3 r3 n4 r4 g h H.length (H4 ++ [.cells [n4, r4]]) ((c3.at.ext y4).ext Hx.app) (c4.at.ext Hx.app) hw hv
  obtain ⟨H5, n5, r5, e7, c5⟩ := run_copy nv rv g H.length (H4 ++ [.cells [n4, r4]]) ((a.ext x4).ext Hx.app) hw
  have y5 : Hx H4 H5 := Hx.app.trans c5.ext
  have x5 := x4.trans y5
  have e8 := run_eqGraphW n3 r3 n5 r5 g H.length H5 (c3.at.ext (y4.trans y5)) c5.at hw
  obtain ⟨H6, n6, r6, e9, c6⟩ := run_copy nu ru h H.length H5 (b.ext x5) hv
  have e10 := run_eqGraphW n4 r4 n6 r6 h H.length H6 (c4.at.ext (y5.trans c6.ext)) c6.at hv
  have g1 := c1.at.1.isTup; have g2 := c1.at.2.isTup; have g3 := c2.at.1.isTup; have g4 := c2.at.2.isTup; have g5 := c3.at.1.isTup; have g6 := c3.at.2.isTup
  have i1 := c4.at.1.isTup; have i2 := c4.at.2.isTup; have i3 := c5.at.1.isTup; have i4 := c5.at.2.isTup; have i5 := c6.at.1.isTup; have i6 := c6.at.2.isTup
  have j1 := c3.at.1.one; have j2 := c3.at.2.one; have j3 := c4.at.1.one; have j4 := c4.at.2.one
  have m0 : LH.cellsAt H1 H.length = some [nv, rv] := c1.ext.cells (by rw [cellsAt_app0]; rfl)
  have m1 : LH.cellsAt H1 (H.length + 1) = some [nu, ru] := c1.ext.cells (by rw [cellsAt_app]; rfl)
  have m2 := c2.ext.cells m0
  have m3 : ∀ L, LH.cellsAt (H3 ++ L) (H.length + 1) = some [nu, ru] := fun L => (c2.ext.trans (c3.ext.trans Hx.app)).cells m1
  have m4 : ∀ L, LH.cellsAt (H4 ++ L) H.length = some [nv, rv] := fun L => (c3.ext.trans (y4.trans Hx.app)).cells m2
  have m5 : LH.cellsAt H5 (H.length + 1) = some [nu, ru] := (c2.ext.trans (c3.ext.trans (y4.trans y5))).cells m1
  have m6 : ∀ L, LH.cellsAt (H4 ++ L) H3.length = some [n3, r3] := fun L => (c4.ext.trans Hx.app).cells (by rw [cellsAt_app0]; rfl)
  have m7 : LH.cellsAt H5 H3.length = some [n3, r3] := (c4.ext.trans y5).cells (by rw [cellsAt_app0]; rfl)
  have m8 : LH.cellsAt H6 H4.length = some [n4, r4] := (c5.ext.trans c6.ext).cells (by rw [cellsAt_app0]; rfl)
  have m9 : LH.cellsAt H5 H4.length = some [n4, r4] := c5.ext.cells (by rw [cellsAt_app0]; rfl)
  have l1 := x1.len; have l2 := x2.len; have l3 := x3.len; have l4 := x4.len; have l5 := x5.len; have l6 := y4.len; have l7 := y5.len
  unfold run at *
  rw [Run_z Try.func9 rfl (by rfl : ok 9 = true) (by rfl : cfg.keep 9 = [0, 1, 2, 3, 4, 5, 6, 7, 8, 9, 14, 19, 34, 39, 44]) (by rfl : cfg.mode 9 = .pure)]
  simp (config := {contextual := true, maxSteps := 10000000, implicitDefEqProofs := false}) (disch := first | (and_intros <;> omega -splitDisjunctions) | (simp only [List.length_set, List.length_append, List.length_cons, List.length_nil]; and_intros <;> omega -splitDisjunctions) | fail) only [d0, d1, hb, hb2, e1, e2, e3, e4, e5, e6, e7, e8, e9, e10, f1, f2, f3, f4, k1, k2, k3, k4, g1, g2, g3, g4, g5, g6, i1, i2, i3, i4, i5, i6, j1, j2, j3, j4, m0, m1, m2, m3, m4, m5, m6, m7, m8, m9, Try.f9, go_sem, ↓reduceIte, Nat.reduceEqDiff, Nat.reduceAdd, Nat.reduceMul, Nat.reduceLT, Nat.reduceLeDiff, reduceCtorEq, Int.reduceNe, Int.reduceEq, Int.reduceLT, Int.reduceLE, Int.reduceAdd, Int.reduceSub, Int.reduceMul, Int.reduceNeg, Int.reduceToNat, UInt8.reduceToNat, natLit, ty3, ty4, ty9, ty54, ty55, ty57, ty60, ty62, ty100, ty134]
end Go.Proofs.Ytbjpecknlohicaa.Lg
