/- Decompose, the reference's side. No condition. -/
import Derived.Test.YtbjpecknlohicaaCDecRun
import Derived.Test.YtbjpecknlohicaaCShLaw
namespace Go.Proofs.Ytbjpecknlohicaa.Lg
set_option linter.unusedSimpArgs false
set_option linter.unusedVariables false
set_option maxRecDepth 100000
set_option maxHeartbeats 40000000
open Go.Proofs.Ytbjpecknlohicaa

theorem run_spDec (nv rv : V) (g : Gr) (fl : Nat) (H : LH) (h : GAt H nv rv g) (hw : grW g ≤ 1048576) :
    Ret (fun w H' => Hx H H' ∧ Own H.length H' evC 8 w (decL g)) (run 52 [.agg [nv, rv]] fl H) := by
  have hbd := grW_bnd hw
  have e0 := fun L fl => run_spOk nv rv g fl (H ++ L) (h.ext Hx.app) hw
  have f1 := h.1.isTup; have f2 := h.2.isTup; have f3 := h.1.one; have f4 := h.2.one
  by_cases w : imOk g = true
  rotate_left
  · have w2 : imOk g = false := by simpa using w
    unfold decL
    rw [if_neg w]
    unfold run at *
    rw [Run_z Try.func52 rfl (by rfl : ok 52 = true) (by rfl : cfg.keep 52 = [0, 1, 2, 3, 5, 6, 7, 9, 12, 18, 19, 20, 21, 35, 36, 37, 38]) (by rfl : cfg.mode 52 = .fresh)]
    simp (config := {contextual := true, maxSteps := 10000000, implicitDefEqProofs := false}) (disch := first | (and_intros <;> omega -splitDisjunctions) | (simp only [List.length_set, List.length_append, List.length_cons, List.length_nil]; and_intros <;> omega -splitDisjunctions) | fail) only [w2, e0, f1, f2, f3, f4, Try.f52, go_sem, ↓reduceIte, Nat.reduceEqDiff, Nat.reduceAdd, Nat.reduceMul, Nat.reduceLT, Nat.reduceLeDiff, reduceCtorEq, Int.reduceNe, Int.reduceEq, Int.reduceLT, Int.reduceLE, Int.reduceAdd, Int.reduceSub, Int.reduceMul, Int.reduceNeg, Int.reduceToNat, UInt8.reduceToNat, natLit, ty3, ty4, ty9, ty26, ty48, ty55, ty60, ty62, ty100, ty111]
    exact ⟨Hx.app, .inl ⟨rfl, .inl rfl⟩⟩
  unfold decL
  rw [if_pos w]
  have hg := grOk w (fun n hn => by have := hbd.2.2 n hn; omega)
  have hN := hg.few
  rw [← dec_both w hg]
  have hsl : (shB g).length = g.nodes.length := by unfold shB; rw [setF_len, List.length_replicate]
  have hgr := h
  obtain ⟨⟨cs, hA, hlen, hRl⟩, hB⟩ := h
  have f1 := hA.isTup; have f2 := hA.len; have f3 := hA.lenOk ty60; have f0 := hA.one
  have f4 := fun L hp => (hA.left (L := L)).con hp
  have f5 := hA.idx (T := ty Try.prog) (t := 60) (by simp only [elemI, sizeO, ty3, ty9, ty55, ty60, ty100])
  have f6 := fun L => (hA.left (L := L)).loadD ncC_len nc0
  have r1 := hB.isTup; have r2 := hB.len; have r3 := hB.lenOk ty55; have r0 := hB.one
  have r4 := fun L hp => (hB.left (L := L)).con hp
  have r5 := hB.idx (T := ty Try.prog) (t := 55) (by simp only [elemI, sizeO, ty3, ty55])
  have r6 := fun L => (hB.left (L := L)).load1 0 (fun x => .int .i64 x) (fun _ => rfl)
  rw [hlen] at f2
  obtain ⟨v, G, e2, hxG, hv⟩ := run_spShared nv rv g H.length (H ++ [.cells [nv, rv], .cells (rows boC (List.replicate g.nodes.length false))]) (hgr.ext Hx.app) hw
  have hvl : (H ++ [Blk.cells [nv, rv], Blk.cells (rows boC (List.replicate g.nodes.length false))]).length = H.length + 2 := by simp
  rw [hvl] at hv
  have hGl := hxG.len
  rw [hvl] at hGl
  have g2 : LH.cellsAt G H.length = some [nv, rv] := hxG.cells (by rw [cellsAt_app0]; rfl)
  have g1 : LH.cellsAt G (H.length + 1) = some (rows boC (List.replicate g.nodes.length false)) := hxG.cells (by rw [cellsAt_app]; rfl)
  have hxx : Hx H G := Hx.app.trans hxG
  have hvA := hv.at inC_len
  have v1 := hvA.isTup; have v2 := hvA.len; have v3 := hvA.lenOk ty55; have v0 := hvA.one
  have v4 := fun hp => hvA.con hp
  have v5 := hvA.idx (T := ty Try.prog) (t := 55) (by simp only [elemI, sizeO, ty3, ty55])
  have v6 := hvA.load1 0 (fun x => .int .i64 x) (fun _ => rfl)
  have hshl := shG_len g
  have hrep : (List.replicate g.nodes.length [V.bool false]).flatten = rows boC (List.replicate g.nodes.length false) := (rows_replicate (enc := boC)).symm
  unfold run at *
  rw [Run_z Try.func52 rfl (by rfl : ok 52 = true) (by rfl : cfg.keep 52 = [0, 1, 2, 3, 5, 6, 7, 9, 12, 18, 19, 20, 21, 35, 36, 37, 38]) (by rfl : cfg.mode 52 = .fresh)]
  simp (config := {contextual := true, maxSteps := 10000000, implicitDefEqProofs := false}) (disch := first | (and_intros <;> omega -splitDisjunctions) | (simp only [List.length_set, List.length_append, List.length_cons, List.length_nil]; and_intros <;> omega -splitDisjunctions) | fail) only [w, e0, hrep, e2, g1, g2, f0, f1, f2, f3, f4, f5, f6, r0, r1, r2, r3, r4, r5, r6, v0, v1, v2, v3, v4, v5, v6, Try.f52, go_sem, ↓reduceIte, Nat.reduceEqDiff, Nat.reduceAdd, Nat.reduceMul, Nat.reduceLT, Nat.reduceLeDiff, reduceCtorEq, Int.reduceNe, Int.reduceEq, Int.reduceLT, Int.reduceLE, Int.reduceAdd, Int.reduceSub, Int.reduceMul, Int.reduceNeg, Int.reduceToNat, UInt8.reduceToNat, natLit, ty3, ty4, ty9, ty26, ty48, ty55, ty60, ty62, ty100, ty111]
  generalize hss : shG g = ss at *
  refine at_loopR fun c3 R3 hc3 hR3 => ?_
  have key3 : ∀ (P : Option (V × LH) → Prop) (hk3 : ∀  (x0 x2 x5 x6 x7 x9 x12 x18 x19 x20 x21 x35 x36 x37 x38 : Option V), P (zEv (leaveX (mkR Try.prog cfg ok [0, 1, 2, 3, 5, 6, 7, 9, 12, 18, 19, 20, 21, 35, 36, 37, 38] H.length) .fresh H [ResultVar.tmp 2]) (mkR Try.prog cfg ok [0, 1, 2, 3, 5, 6, 7, 9, 12, 18, 19, 20, 21, 35, 36, 37, 38] H.length) R3 .nrm [x0, some (.ptr H.length 0), x2, some (.sl (H.length + 1) 0 1 g.nodes.length g.nodes.length), x5, x6, x7, x9, x12, x18, x19, x20, x21, x35, x36, x37, x38] (G.set (H.length + 1) (.cells (rows boC (shB g))))))
      (m : Nat) (j : Nat) (jj : Int) (l : List Bool) (x0 x2 x5 x6 x7 x9 x12 x21 x35 x36 x37 x38 : Option V), ss.length - j < m → jj = j → j ≤ ss.length → l.length = g.nodes.length → (ss.drop j).foldl (fun l i => l.set i.toNat true) l = shB g →
      P (zEv (leaveX (mkR Try.prog cfg ok [0, 1, 2, 3, 5, 6, 7, 9, 12, 18, 19, 20, 21, 35, 36, 37, 38] H.length) .fresh H [ResultVar.tmp 2]) (mkR Try.prog cfg ok [0, 1, 2, 3, 5, 6, 7, 9, 12, 18, 19, 20, 21, 35, 36, 37, 38] H.length) (K.code (Code.loop c3) :: K.blk 0 :: R3) .nrm [x0, some (.ptr H.length 0), x2, some (.sl (H.length + 1) 0 1 g.nodes.length g.nodes.length), x5, x6, x7, x9, x12, some v, some (.int .i64 ss.length), some (.int .i64 jj), x21, x35, x36, x37, x38] (G.set (H.length + 1) (.cells (rows boC l)))) := by
    intro P hk3 m
    induction m with
    | zero => intro j jj l x0 x2 x5 x6 x7 x9 x12 x21 x35 x36 x37 x38 hm; omega
    | succ m ih3 =>
      intro j jj l x0 x2 x5 x6 x7 x9 x12 x21 x35 x36 x37 x38 hm hj hle hll hfold
      subst hj
      have u1 : ∀ x, LH.cellsAt (G.set (H.length + 1) (.cells x)) (H.length + 1) = some x := fun x => cellsAt_set (by omega)
      have vB := (hv.setNe (b := H.length + 1) (x := .cells (rows boC l)) (by omega)).at inC_len
      have v4 := fun hp => vB.con hp
      have v6 := vB.load1 0 (fun x => .int .i64 x) (fun _ => rfl)
      have q1 : (rows boC l).length = g.nodes.length := by rw [rows_len boC_len]; omega
      by_cases hlt : j < ss.length
      · have t1 : ((j : Int) < ss.length) = True := eq_true (by omega)
        have kr := shG_range (g := g) ss[j] (by rw [hss]; exact List.getElem_mem hlt)
        rw [← getD_of hlt 0] at kr
        have hkn : (ss.getD j 0).toNat + 1 ≤ g.nodes.length := by omega
        have q2 := set_boC (ts := l) (i := (ss.getD j 0).toNat) (by omega) true
        rw [zEv_round hc3]
        simp (config := {contextual := true, maxSteps := 10000000, implicitDefEqProofs := false}) (disch := first | (and_intros <;> omega -splitDisjunctions) | (simp only [List.length_set, List.length_append, List.length_cons, List.length_nil]; and_intros <;> omega -splitDisjunctions) | fail) only [t1, u1, q1, q2, v0, v1, v2, v3, v4, v5, v6, List.set_set, Try.f52, go_sem, ↓reduceIte, Nat.reduceEqDiff, Nat.reduceAdd, Nat.reduceMul, Nat.reduceLT, Nat.reduceLeDiff, reduceCtorEq, Int.reduceNe, Int.reduceEq, Int.reduceLT, Int.reduceLE, Int.reduceAdd, Int.reduceSub, Int.reduceMul, Int.reduceNeg, Int.reduceToNat, UInt8.reduceToNat, natLit, ty3, ty4, ty9, ty26, ty48, ty55, ty60, ty62, ty100, ty111]
        refine ih3 (j + 1) ((j : Int) + 1) (l.set (ss.getD j 0).toNat true) _ _ _ _ _ _ _ _ _ _ _ _ (by omega) rfl (by omega) (by rw [List.length_set]; exact hll) ?_
        rw [← hfold, List.drop_eq_getElem_cons hlt, getD_of hlt, List.foldl_cons]
      · have t1 : ((j : Int) < ss.length) = False := eq_false (by omega)
        rw [zEv_round hc3]
        simp (config := {contextual := true, maxSteps := 10000000, implicitDefEqProofs := false}) (disch := first | (and_intros <;> omega -splitDisjunctions) | (simp only [List.length_set, List.length_append, List.length_cons, List.length_nil]; and_intros <;> omega -splitDisjunctions) | fail) only [t1, v0, v1, v2, v3, v4, v5, v6, Try.f52, go_sem, ↓reduceIte, Nat.reduceEqDiff, Nat.reduceAdd, Nat.reduceMul, Nat.reduceLT, Nat.reduceLeDiff, reduceCtorEq, Int.reduceNe, Int.reduceEq, Int.reduceLT, Int.reduceLE, Int.reduceAdd, Int.reduceSub, Int.reduceMul, Int.reduceNeg, Int.reduceToNat, UInt8.reduceToNat, natLit, ty3, ty4, ty9, ty26, ty48, ty55, ty60, ty62, ty100, ty111]
        rw [List.drop_of_length_le (by omega), List.foldl_nil] at hfold
        rw [hfold]
        exact hk3 _ _ _ _ _ _ _ _ _ _ _ _ _ _ _
  have st : G.set (H.length + 1) (.cells (rows boC (List.replicate g.nodes.length false))) = G := set_same g1
  have k3 := fun x0 x2 x5 x6 x7 x9 x12 x21 x35 x36 x37 x38 hk => key3 (Ret (fun w H' => Hx H H' ∧ Own H.length H' evC 8 w (decG g (spN (shB g)) (spN (shB g))))) hk (ss.length + 1) 0 0 (List.replicate g.nodes.length false) x0 x2 x5 x6 x7 x9 x12 x21 x35 x36 x37 x38 (by omega) rfl (by omega) (by simp) (by rw [List.drop_zero, ← hss]; rfl)
  rw [st] at k3
  refine k3 _ _ _ _ _ _ _ _ _ _ _ _ (fun x0 x2 x5 x6 x7 x9 x12 x18 x19 x20 x21 x35 x36 x37 x38 => ?_)
  clear k3 key3
  rw [← hR3]
  have g3 : LH.cellsAt (G.set (H.length + 1) (.cells (rows boC (shB g)))) H.length = some [nv, rv] := by rw [cellsAt_set_ne (by omega)]; exact g2
  have g4 : LH.cellsAt (G.set (H.length + 1) (.cells (rows boC (shB g)))) (H.length + 1) = some (rows boC (shB g)) := cellsAt_set (by omega)
  have hx4 : Hx H (G.set (H.length + 1) (.cells (rows boC (shB g)))) := hxx.set (by omega)
  have hl4 : (G.set (H.length + 1) (.cells (rows boC (shB g)))).length = G.length := by rw [List.length_set]
  generalize G.set (H.length + 1) (.cells (rows boC (shB g))) = G1 at *
  have g5 : ∀ L, LH.cellsAt (G1 ++ L) H.length = some [nv, rv] := fun L => cellsAt_left g3
  simp (config := {contextual := true, maxSteps := 10000000, implicitDefEqProofs := false}) (disch := first | (and_intros <;> omega -splitDisjunctions) | (simp only [List.length_set, List.length_append, List.length_cons, List.length_nil]; and_intros <;> omega -splitDisjunctions) | fail) only [g3, g5, hl4, f0, f1, f2, f3, f4, f5, f6, r0, r1, r2, r3, r4, r5, r6, Try.f52, go_sem, ↓reduceIte, Nat.reduceEqDiff, Nat.reduceAdd, Nat.reduceMul, Nat.reduceLT, Nat.reduceLeDiff, reduceCtorEq, Int.reduceNe, Int.reduceEq, Int.reduceLT, Int.reduceLE, Int.reduceAdd, Int.reduceSub, Int.reduceMul, Int.reduceNeg, Int.reduceToNat, UInt8.reduceToNat, natLit, ty3, ty4, ty9, ty26, ty48, ty55, ty60, ty62, ty100, ty111]
  rw [hrep]
  have hD : (decR g (spN (shB g)) (spN (shB g)) g.roots ⟨List.replicate g.nodes.length false, [evK 1 false]⟩).out ++ [evK 9 false] = decG g (spN (shB g)) (spN (shB g)) := rfl
  have hwt := wt_le (List.replicate g.nodes.length false) g.nodes
  have hw2 : 2 * sumZ ndW g.nodes + 4 * g.roots.length + 1 ≤ 16000000 := by
    unfold grW at hw
    omega
  generalize hsN : spN (shB g) = sn at *
  refine at_loopR fun c R hc hR => ?_
  have key : ∀ (m : Nat) (j : Nat) (jj : Int) (t : TS) (o : V) (B : LH) (x0 x2 x5 x9 x12 x18 x19 x20 x21 x38 : Option V), g.roots.length - j < m → jj = j → j ≤ g.roots.length → Hx H B → G.length + 1 ≤ B.length → LH.cellsAt B H.length = some [nv, rv] → LH.cellsAt B G.length = some (rows boC t.told) → LH.cellsAt B (H.length + 1) = some (rows boC (shB g)) → Own (G.length + 1) B evC 8 o t.out → t.told.length = g.nodes.length → (t.out.length + wt t.told g.nodes : Int) + 4 * (g.roots.length - j) ≤ 16000000 → (decR g sn sn (g.roots.drop j) t).out ++ [evK 9 false] = decG g sn sn →
      Ret (fun w H' => Hx H H' ∧ Own H.length H' evC 8 w (decG g sn sn)) (zEv (leaveX (mkR Try.prog cfg ok [0, 1, 2, 3, 5, 6, 7, 9, 12, 18, 19, 20, 21, 35, 36, 37, 38] H.length) .fresh H [ResultVar.tmp 2]) (mkR Try.prog cfg ok [0, 1, 2, 3, 5, 6, 7, 9, 12, 18, 19, 20, 21, 35, 36, 37, 38] H.length) (K.code (Code.loop c) :: K.blk 2 :: R) .nrm [x0, some (.ptr H.length 0), x2, some (.sl (H.length + 1) 0 1 g.nodes.length g.nodes.length), x5, some (.sl G.length 0 1 g.nodes.length g.nodes.length), some o, x9, x12, x18, x19, x20, x21, some rv, some (.int .i64 g.roots.length), some (.int .i64 jj), x38] (B)) := by
    intro m
    induction m with
    | zero => intro j jj t o B x0 x2 x5 x9 x12 x18 x19 x20 x21 x38 hm; omega
    | succ m ih =>
      intro j jj t o B x0 x2 x5 x9 x12 x18 x19 x20 x21 x38 hm hj hle hxB hlB hbb hbt hbm hob htl hpot hfold
      subst hj
      have b1 := (hob.at evC_len).isTup; have b2 := (hob.at evC_len).one
      have apB := fun L => ap_ev (fl := H.length) (hob.ext (Hx.app (L := L))) (by omega)
      have kbB : ∀ L M, LH.cellsAt (killV (B ++ L) o ++ M) H.length = some [nv, rv] := fun L M => app_old (cellsAt_left hbb) (hob.ext Hx.app) (by omega) M
      have rB := hB.ext hxB
      have k4 := fun (hp : 0 < g.roots.length) => rB.con hp
      have k6 := rB.load1 0 (fun x => .int .i64 x) (fun _ => rfl)
      by_cases hlt : j < g.roots.length
      · have t1 : ((j : Int) < g.roots.length) = True := eq_true (by omega)
        have kr := hg.roots _ (List.getElem_mem hlt)
        rw [← getD_of hlt 0] at kr
        have tv := tell_inv hg sn sn (g.nodes.length + 1) ⟨t.told, t.out ++ [evK 2 true]⟩ (g.roots.getD j 0) htl kr.1 kr.2
        have p := put_ev (hob.ext (Hx.app (L := [.cells (evC (evK 2 true))]))) (by rw [List.length_append]; omega) (evK 2 true)
        have l1 : (B ++ [Blk.cells (evC (evK 2 true))]).length = B.length + 1 := by simp
        have po := p.own
        rw [l1] at po
        have l2 : (killV (B ++ [Blk.cells (evC (evK 2 true))]) o ++ [Blk.cells (rows evC (t.out ++ [evK 2 true]))]).length = B.length + 2 := by rw [List.length_append, killV_len, l1]; rfl
        have xX : Hx H (killV (B ++ [Blk.cells (evC (evK 2 true))]) o ++ [Blk.cells (rows evC (t.out ++ [evK 2 true]))]) := app_hx (hxB.trans Hx.app) (hob.ext Hx.app) (by omega)
        have y1 := p.old _ _ (show G.length < G.length + 1 by omega) (cellsAt_left hbt)
        have y2 := p.old _ _ (show H.length + 1 < G.length + 1 by omega) (cellsAt_left hbm)
        have y3 := p.old _ _ (show H.length < G.length + 1 by omega) (cellsAt_left hbb)
        generalize hX0 : killV (B ++ [Blk.cells (evC (evK 2 true))]) o ++ [Blk.cells (rows evC (t.out ++ [evK 2 true]))] = X0 at *
        have cr := run_l15Tell H nv rv cs g hA r1 r0 hlen hRl hg (H.length + 1) G.length (by omega) (by omega) (by omega) (shB g) hsl g.nodes.length
          X0 ⟨t.told, t.out ++ [evK 2 true]⟩ (.sl (B.length + 1) 0 8 (t.out.length + 1) (t.out.length + 1)) (g.roots.getD j 0).toNat H.length (G.length + 1)
          xX y2 y1 (po.down (by omega)) htl (by omega) (by have := cntF_le t.told; simp only; omega)
          (by simp only [List.length_append, List.length_cons, List.length_nil]; omega) (by omega) (by omega) (by omega) (by omega) (by omega)
        rw [Int.toNat_of_nonneg kr.1, hsN] at cr
        obtain ⟨w3, C, e3, fr3, tb3, ow3⟩ := cr
        have lC := fr3.len
        rw [l2] at lC
        have xC : Hx H C := fr3.hx xX (by omega) (by simp only [List.mem_cons, List.not_mem_nil, or_false]; rintro c rfl; omega)
        have mC : LH.cellsAt C (H.length + 1) = some (rows boC (shB g)) := fr3.cells y2 (by omega) (by simp only [List.mem_cons, List.not_mem_nil, or_false]; omega)
        have bC : LH.cellsAt C H.length = some [nv, rv] := fr3.cells y3 (by omega) (by simp only [List.mem_cons, List.not_mem_nil, or_false]; omega)
        have c1 := (ow3.at evC_len).isTup; have c2 := (ow3.at evC_len).one
        have cB := tv.2
        simp only [List.length_append, List.length_cons, List.length_nil] at cB
        have apC := fun L => ap_ev (fl := H.length) (ow3.ext (Hx.app (L := L))) (by omega)
        rw [← hX0] at e3
        simp only [evC, evK] at e3
        rw [zEv_round hc]
        simp (config := {contextual := true, maxSteps := 10000000, implicitDefEqProofs := false}) (disch := first | (and_intros <;> omega -splitDisjunctions) | (simp only [List.length_set, List.length_append, List.length_cons, List.length_nil]; and_intros <;> omega -splitDisjunctions) | fail) only [t1, f0, f1, b1, b2, hbb, kbB, apB, r0, r1, r2, r3, k4, r5, k6, e3, c1, c2, apC, Try.f52, go_sem, ↓reduceIte, Nat.reduceEqDiff, Nat.reduceAdd, Nat.reduceMul, Nat.reduceLT, Nat.reduceLeDiff, reduceCtorEq, Int.reduceNe, Int.reduceEq, Int.reduceLT, Int.reduceLE, Int.reduceAdd, Int.reduceSub, Int.reduceMul, Int.reduceNeg, Int.reduceToNat, UInt8.reduceToNat, natLit, ty3, ty4, ty9, ty26, ty48, ty55, ty60, ty62, ty100, ty111]
        have p3 := put_ev (ow3.ext (Hx.app (L := [.cells (evC (evK 8 false))]))) (by rw [List.length_append]; omega) (evK 8 false)
        have po3 := p3.own
        have fr4 := (Fr.app (f := G.length + 1) (E := [G.length]) (A := C) (L := [Blk.cells (evC (evK 8 false))]) (by omega)).trans (p3.fr _)
        have l4 := fr4.len
        rw [List.length_append] at po3
        refine ih (j + 1) ((j : Int) + 1) ⟨(tell g sn sn (g.nodes.length + 1) ⟨t.told, t.out ++ [evK 2 true]⟩ (g.roots.getD j 0)).told, (tell g sn sn (g.nodes.length + 1) ⟨t.told, t.out ++ [evK 2 true]⟩ (g.roots.getD j 0)).out ++ [evK 8 false]⟩ _ _ _ _ _ _ _ _ _ _ _ _ (by omega) rfl (by omega) (fr4.hx xC (by omega) (by simp only [List.mem_cons, List.not_mem_nil, or_false]; rintro c rfl; omega))
          (Nat.le_trans (show G.length + 1 ≤ C.length by omega) l4) (p3.old _ _ (by omega) (cellsAt_left bC)) (p3.old _ _ (by omega) (cellsAt_left tb3)) (p3.old _ _ (by omega) (cellsAt_left mC)) (po3.down (by omega)) tv.1.len (by simp only [List.length_append, List.length_cons, List.length_nil]; omega) ?_
        rw [← hfold, List.drop_eq_getElem_cons hlt, getD_of hlt, decR_cons]
      · have t1 : ((j : Int) < g.roots.length) = False := eq_false (by omega)
        rw [zEv_round hc, ← hR]
        simp (config := {contextual := true, maxSteps := 10000000, implicitDefEqProofs := false}) (disch := first | (and_intros <;> omega -splitDisjunctions) | (simp only [List.length_set, List.length_append, List.length_cons, List.length_nil]; and_intros <;> omega -splitDisjunctions) | fail) only [t1, f0, f1, b1, b2, hbb, kbB, apB, r0, r1, r2, r3, k4, r5, k6, Try.f52, go_sem, ↓reduceIte, Nat.reduceEqDiff, Nat.reduceAdd, Nat.reduceMul, Nat.reduceLT, Nat.reduceLeDiff, reduceCtorEq, Int.reduceNe, Int.reduceEq, Int.reduceLT, Int.reduceLE, Int.reduceAdd, Int.reduceSub, Int.reduceMul, Int.reduceNeg, Int.reduceToNat, UInt8.reduceToNat, natLit, ty3, ty4, ty9, ty26, ty48, ty55, ty60, ty62, ty100, ty111]
        rw [List.drop_of_length_le (by omega)] at hfold
        have hfold : t.out ++ [evK 9 false] = decG g sn sn := hfold
        rw [← hfold]
        have p := put_ev (hob.ext (Hx.app (L := [.cells (evC (evK 9 false))]))) (by rw [List.length_append]; omega) (evK 9 false)
        have po := p.own
        rw [List.length_append] at po
        exact ⟨app_hx (hxB.trans Hx.app) (hob.ext Hx.app) (by omega), po.down (by omega)⟩
  have z0 : ∀ L, LH.cellsAt (G1 ++ L) G.length = LH.cellsAt L 0 := fun L => by rw [← hl4]; exact cellsAt_app0 G1 L
  have z1 : ∀ L i, LH.cellsAt (G1 ++ L) (G.length + i) = LH.cellsAt L i := fun L i => by rw [← hl4]; exact cellsAt_app G1 L i
  refine key (g.roots.length + 1) 0 0 ⟨List.replicate g.nodes.length false, [evK 1 false]⟩ (.sl (G.length + 1) 0 8 1 1) _ _ _ _ _ _ _ _ _ _ _ (by omega) rfl (by omega) (hx4.trans Hx.app) (by simp only [List.length_append, List.length_cons, List.length_nil]; omega) (cellsAt_left g3) (by rw [z0]; rfl) (cellsAt_left g4) (.inr ⟨G.length + 1, rfl, by rw [z1]; rfl, by omega⟩) (by simp) (by simp only [List.length_cons, List.length_nil]; omega) hD
end Go.Proofs.Ytbjpecknlohicaa.Lg
