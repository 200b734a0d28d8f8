/- Decompose, both sides. No condition. -/
import Derived.Test.YtbjpecknlohicaaCDec
namespace Go.Proofs.Ytbjpecknlohicaa.Lg
set_option linter.unusedSimpArgs false
set_option linter.unusedVariables false
set_option maxRecDepth 100000
set_option maxHeartbeats 40000000
open Go.Proofs.Ytbjpecknlohicaa

theorem decR_cons {g : Gr} {al an : Nat → ByteArray} {r : Int} {rs : List Int} {s : TS} : decR g al an (r :: rs) s = decR g al an rs ⟨(tell g al an (g.nodes.length + 1) ⟨s.told, s.out ++ [evK 2 true]⟩ r).told, (tell g al an (g.nodes.length + 1) ⟨s.told, s.out ++ [evK 2 true]⟩ r).out ++ [evK 8 false]⟩ := rfl
theorem run_imDec (nv rv : V) (g : Gr) (fl : Nat) (H : LH) (h : GAt H nv rv g) (hw : grW g ≤ 1048576) :
    Ret (fun w H' => Hx H H' ∧ Own H.length H' evC 8 w (decL g)) (run 53 [.agg [nv, rv]] fl H) := by
  have hbd := grW_bnd hw
  have e0 := fun L fl => run_imOk nv rv g fl (H ++ L) (h.ext Hx.app) hw
  have f1 := h.1.isTup; have f2 := h.2.isTup; have f3 := h.1.one; have f4 := h.2.one
  by_cases w : imOk g = true
  rotate_left
  · have w2 : imOk g = false := by simpa using w
    unfold decL
    rw [if_neg w]
    unfold run at *
    rw [Run_z Try.func53 rfl (by rfl : ok 53 = true) (by rfl : cfg.keep 53 = [0, 1, 2, 3, 5, 8, 21, 22, 23, 24]) (by rfl : cfg.mode 53 = .fresh)]
    simp (config := {contextual := true, maxSteps := 10000000, implicitDefEqProofs := false}) (disch := first | (and_intros <;> omega -splitDisjunctions) | (simp only [List.length_set, List.length_append, List.length_cons, List.length_nil]; and_intros <;> omega -splitDisjunctions) | fail) only [w2, e0, f1, f2, f3, f4, Try.f53, go_sem, ↓reduceIte, Nat.reduceEqDiff, Nat.reduceAdd, Nat.reduceMul, Nat.reduceLT, Nat.reduceLeDiff, reduceCtorEq, Int.reduceNe, Int.reduceEq, Int.reduceLT, Int.reduceLE, Int.reduceAdd, Int.reduceSub, Int.reduceMul, Int.reduceNeg, Int.reduceToNat, UInt8.reduceToNat, natLit, ty3, ty4, ty9, ty26, ty48, ty55, ty60, ty62, ty100, ty111, ty126]
    exact ⟨Hx.app, .inl ⟨rfl, .inl rfl⟩⟩
  unfold decL
  rw [if_pos w]
  have hg := grOk w (fun n hn => by have := hbd.2.2 n hn; omega)
  have hN := hg.few
  have e1 := fun L fl => run_timesMet nv rv g fl (H ++ L) (h.ext Hx.app) hg (by omega)
  have hgr := h
  obtain ⟨⟨cs, hA, hlen, hRl⟩, hB⟩ := h
  have f1 := hA.isTup; have f2 := hA.len; have f3 := hA.lenOk ty60; have f0 := hA.one
  have f4 := fun L hp => (hA.left (L := L)).con hp
  have f5 := hA.idx (T := ty Try.prog) (t := 60) (by simp only [elemI, sizeO, ty3, ty9, ty55, ty60, ty100])
  have f6 := fun L => (hA.left (L := L)).loadD ncC_len nc0
  have r1 := hB.isTup; have r2 := hB.len; have r3 := hB.lenOk ty55; have r0 := hB.one
  have r4 := fun L hp => (hB.left (L := L)).con hp
  have r5 := hB.idx (T := ty Try.prog) (t := 55) (by simp only [elemI, sizeO, ty3, ty55])
  have r6 := fun L => (hB.left (L := L)).load1 0 (fun x => .int .i64 x) (fun _ => rfl)
  rw [hlen] at f2
  obtain ⟨v, G, e2, hv, L, hGe⟩ := e1 [.cells [nv, rv]] H.length
  subst hv
  have ltm := tm_len g
  have hGl : G.length = H.length + 3 + L.length := by rw [hGe]; simp; omega
  have g0 : ∀ M, LH.cellsAt (G ++ M) H.length = some [nv, rv] := fun M => cellsAt_left (by rw [hGe, List.append_assoc, cellsAt_app0]; rfl)
  have g1 : LH.cellsAt G (H.length + 2) = some (rows inC (tm g)) := by rw [hGe, List.append_assoc, cellsAt_app]; rfl
  have g2 : LH.cellsAt G H.length = some [nv, rv] := by rw [hGe, List.append_assoc, cellsAt_app0]; rfl
  have hxG : Hx H G := by rw [hGe, List.append_assoc]; exact Hx.app
  clear hGe e1
  unfold run at *
  rw [Run_z Try.func53 rfl (by rfl : ok 53 = true) (by rfl : cfg.keep 53 = [0, 1, 2, 3, 5, 8, 21, 22, 23, 24]) (by rfl : cfg.mode 53 = .fresh)]
  simp (config := {contextual := true, maxSteps := 10000000, implicitDefEqProofs := false}) (disch := first | (and_intros <;> omega -splitDisjunctions) | (simp only [List.length_set, List.length_append, List.length_cons, List.length_nil]; and_intros <;> omega -splitDisjunctions) | fail) only [w, e0, e2, g0, g1, g2, f0, f1, f2, f3, f4, f5, f6, r0, r1, r2, r3, r4, r5, r6, Try.f53, go_sem, ↓reduceIte, Nat.reduceEqDiff, Nat.reduceAdd, Nat.reduceMul, Nat.reduceLT, Nat.reduceLeDiff, reduceCtorEq, Int.reduceNe, Int.reduceEq, Int.reduceLT, Int.reduceLE, Int.reduceAdd, Int.reduceSub, Int.reduceMul, Int.reduceNeg, Int.reduceToNat, UInt8.reduceToNat, natLit, ty3, ty4, ty9, ty26, ty48, ty55, ty60, ty62, ty100, ty111, ty126]
  rw [show (List.replicate g.nodes.length [V.bool false]).flatten = rows boC (List.replicate g.nodes.length false) from (rows_replicate (enc := boC)).symm]
  have hD : (decR g nmT (imN (tm g)) g.roots ⟨List.replicate g.nodes.length false, [evK 1 false]⟩).out ++ [evK 9 false] = decG g nmT (imN (tm g)) := rfl
  have hwt := wt_le (List.replicate g.nodes.length false) g.nodes
  have hw2 : 2 * sumZ ndW g.nodes + 4 * g.roots.length + 1 ≤ 16000000 := by
    unfold grW at hw
    omega
  have hmd := Nat.add_assoc H.length 1 1
  rw [hmd]
  refine at_loopR fun c R hc hR => ?_
  have key : ∀ (m : Nat) (j : Nat) (jj : Int) (t : TS) (o : V) (B : LH) (x0 x1 x2 x5 x8 x24 : Option V), g.roots.length - j < m → jj = j → j ≤ g.roots.length → Hx H B → G.length + 3 ≤ B.length → LH.cellsAt B (G.length + 2) = some [nv, rv, .sl (H.length + 2) 0 1 g.nodes.length g.nodes.length, .sl G.length 0 1 g.nodes.length g.nodes.length, o] → LH.cellsAt B G.length = some (rows boC t.told) → LH.cellsAt B (H.length + 2) = some (rows inC (tm g)) → Own (G.length + 1) B evC 8 o t.out → blkV o ≠ G.length + 2 → t.told.length = g.nodes.length → (t.out.length + wt t.told g.nodes : Int) + 4 * (g.roots.length - j) ≤ 16000000 → (decR g nmT (imN (tm g)) (g.roots.drop j) t).out ++ [evK 9 false] = decG g nmT (imN (tm g)) →
      Ret (fun w H' => Hx H H' ∧ Own H.length H' evC 8 w (decG g nmT (imN (tm g)))) (zEv (leaveX (mkR Try.prog cfg ok [0, 1, 2, 3, 5, 8, 21, 22, 23, 24] H.length) .fresh H [ResultVar.tmp 2]) (mkR Try.prog cfg ok [0, 1, 2, 3, 5, 8, 21, 22, 23, 24] H.length) (K.code (Code.loop c) :: K.blk 0 :: R) .nrm [x0, x1, x2, some (.ptr (G.length + 2) 0), x5, x8, some rv, some (.int .i64 g.roots.length), some (.int .i64 jj), x24] (B)) := by
    intro m
    induction m with
    | zero => intro j jj t o B x0 x1 x2 x5 x8 x24 hm; omega
    | succ m ih =>
      intro j jj t o B x0 x1 x2 x5 x8 x24 hm hj hle hxB hlB hbb hbt hbm hob hne htl hpot hfold
      subst hj
      have b1 := (hob.at evC_len).isTup; have b2 := (hob.at evC_len).one
      have apB := fun L => ap_ev (fl := H.length) (hob.ext (Hx.app (L := L))) (by omega)
      have kbB : ∀ L M, LH.cellsAt (killV (B ++ L) o ++ M) (G.length + 2) = some [nv, rv, .sl (H.length + 2) 0 1 g.nodes.length g.nodes.length, .sl G.length 0 1 g.nodes.length g.nodes.length, o] := fun L M => app_ne (cellsAt_left hbb) hne M
      have rB := hB.ext hxB
      have k4 := fun (hp : 0 < g.roots.length) => rB.con hp
      have k6 := rB.load1 0 (fun x => .int .i64 x) (fun _ => rfl)
      by_cases hlt : j < g.roots.length
      · have t1 : ((j : Int) < g.roots.length) = True := eq_true (by omega)
        have kr := hg.roots _ (List.getElem_mem hlt)
        rw [← getD_of hlt 0] at kr
        have tv := tell_inv hg nmT (imN (tm g)) (g.nodes.length + 1) ⟨t.told, t.out ++ [evK 2 true]⟩ (g.roots.getD j 0) htl kr.1 kr.2
        have p := put_ev (hob.ext (Hx.app (L := [.cells (evC (evK 2 true))]))) (by rw [List.length_append]; omega) (evK 2 true)
        have l1 : (B ++ [Blk.cells (evC (evK 2 true))]).length = B.length + 1 := by simp
        have po := p.own
        rw [l1] at po
        have l2 : (killV (B ++ [Blk.cells (evC (evK 2 true))]) o ++ [Blk.cells (rows evC (t.out ++ [evK 2 true]))]).length = B.length + 2 := by rw [List.length_append, killV_len, l1]; rfl
        have xX : Hx H (killV (B ++ [Blk.cells (evC (evK 2 true))]) o ++ [Blk.cells (rows evC (t.out ++ [evK 2 true]))]) := app_hx (hxB.trans Hx.app) (hob.ext Hx.app) (by omega)
        have y1 := p.old _ _ (show G.length < G.length + 1 by omega) (cellsAt_left hbt)
        have y2 := p.old _ _ (show H.length + 2 < G.length + 1 by omega) (cellsAt_left hbm)
        generalize hX0 : killV (B ++ [Blk.cells (evC (evK 2 true))]) o ++ [Blk.cells (rows evC (t.out ++ [evK 2 true]))] = X0 at *
        obtain ⟨w3, C, e3, rfl, fr3, tb3, o3, cb3, ow3⟩ := run_node H nv rv cs g hA hlen hRl hg (G.length + 2) (H.length + 2) G.length (by omega) (by omega) (by omega) (by omega) (by omega) (tm g) ltm g.nodes.length
          (X0.set (G.length + 2) (.cells [nv, rv, .sl (H.length + 2) 0 1 g.nodes.length g.nodes.length, .sl G.length 0 1 g.nodes.length g.nodes.length, .sl (B.length + 1) 0 8 (t.out.length + 1) (t.out.length + 1)])) ⟨t.told, t.out ++ [evK 2 true]⟩ (.sl (B.length + 1) 0 8 (t.out.length + 1) (t.out.length + 1)) (g.roots.getD j 0).toNat H.length (G.length + 3)
          (xX.set (by omega)) (cellsAt_set (by omega)) (by rw [cellsAt_set_ne (by omega)]; exact y2) (by rw [cellsAt_set_ne (by omega)]; exact y1) ((po.down (by omega)).setNe (by omega)) htl (by omega) (by have := cntF_le t.told; simp only; omega)
          (by simp only [List.length_append, List.length_cons, List.length_nil]; omega) (by omega) (by omega) (by omega) (by omega) (by omega) (by omega) (by rw [List.length_set]; omega)
        rw [Int.toNat_of_nonneg kr.1] at e3 tb3 ow3
        have lC := fr3.len
        rw [List.length_set, l2] at lC
        have xC : Hx H C := fr3.hx (xX.set (by omega)) (by omega) (by simp only [List.mem_cons, List.not_mem_nil, or_false]; rintro c (rfl | rfl) <;> omega)
        have mC : LH.cellsAt C (H.length + 2) = some (rows inC (tm g)) := fr3.cells (by rw [cellsAt_set_ne (by omega)]; exact y2) (by omega) (by simp only [List.mem_cons, List.not_mem_nil, or_false]; omega)
        have c1 := (ow3.at evC_len).isTup; have c2 := (ow3.at evC_len).one
        have cB := tv.2
        simp only [List.length_append, List.length_cons, List.length_nil] at cB
        have apC := fun L => ap_ev (fl := H.length) (ow3.ext (Hx.app (L := L))) (by omega)
        have kbC : ∀ L M, LH.cellsAt (killV (C ++ L) o3 ++ M) (G.length + 2) = some [nv, rv, .sl (H.length + 2) 0 1 g.nodes.length g.nodes.length, .sl G.length 0 1 g.nodes.length g.nodes.length, o3] := fun L M => app_old (cellsAt_left cb3) (ow3.ext Hx.app) (by omega) M
        rw [← hX0] at e3
        simp only [evC, evK] at e3
        rw [zEv_round hc]
        simp (config := {contextual := true, maxSteps := 10000000, implicitDefEqProofs := false}) (disch := first | (and_intros <;> omega -splitDisjunctions) | (simp only [List.length_set, List.length_append, List.length_cons, List.length_nil]; and_intros <;> omega -splitDisjunctions) | fail) only [t1, b1, b2, hbb, kbB, apB, r0, r1, r2, r3, k4, r5, k6, e3, c1, c2, cb3, kbC, apC, Try.f53, go_sem, ↓reduceIte, Nat.reduceEqDiff, Nat.reduceAdd, Nat.reduceMul, Nat.reduceLT, Nat.reduceLeDiff, reduceCtorEq, Int.reduceNe, Int.reduceEq, Int.reduceLT, Int.reduceLE, Int.reduceAdd, Int.reduceSub, Int.reduceMul, Int.reduceNeg, Int.reduceToNat, UInt8.reduceToNat, natLit, ty3, ty4, ty9, ty26, ty48, ty55, ty60, ty62, ty100, ty111, ty126]
        have p3 := put_b (ow3.ext (Hx.app (L := [.cells (evC (evK 8 false))]))) (by rw [List.length_append]; omega) (show G.length + 2 < G.length + 3 by omega) (evK 8 false) [nv, rv, .sl (H.length + 2) 0 1 g.nodes.length g.nodes.length, .sl G.length 0 1 g.nodes.length g.nodes.length, .sl (C.length + 1) 0 8 ((tell g nmT (imN (tm g)) (g.nodes.length + 1) ⟨t.told, t.out ++ [evK 2 true]⟩ (g.roots.getD j 0)).out.length + 1) ((tell g nmT (imN (tm g)) (g.nodes.length + 1) ⟨t.told, t.out ++ [evK 2 true]⟩ (g.roots.getD j 0)).out.length + 1)]
        have po3 := p3.own
        have l3 := p3.len
        have fr4 := (Fr.app (f := G.length + 3) (E := [G.length, G.length + 2]) (A := C) (L := [Blk.cells (evC (evK 8 false))]) (by omega)).trans (p3.fr _ (by simp))
        have l4 := fr4.len
        rw [List.length_append] at po3
        refine ih (j + 1) ((j : Int) + 1) ⟨(tell g nmT (imN (tm g)) (g.nodes.length + 1) ⟨t.told, t.out ++ [evK 2 true]⟩ (g.roots.getD j 0)).told, (tell g nmT (imN (tm g)) (g.nodes.length + 1) ⟨t.told, t.out ++ [evK 2 true]⟩ (g.roots.getD j 0)).out ++ [evK 8 false]⟩ _ _ _ _ _ _ _ _ (by omega) rfl (by omega) (fr4.hx xC (by omega) (by simp only [List.mem_cons, List.not_mem_nil, or_false]; rintro c (rfl | rfl) <;> omega))
          (Nat.le_trans (show G.length + 3 ≤ C.length by omega) l4) p3.got (p3.old _ _ (by omega) (by omega) (cellsAt_left tb3)) (p3.old _ _ (by omega) (by omega) (cellsAt_left mC)) (po3.down (by omega)) (by simp only [blkV]; omega) tv.1.len (by simp only [List.length_append, List.length_cons, List.length_nil]; omega) ?_
        rw [← hfold, List.drop_eq_getElem_cons hlt, getD_of hlt, decR_cons]
      · have t1 : ((j : Int) < g.roots.length) = False := eq_false (by omega)
        rw [zEv_round hc, ← hR]
        simp (config := {contextual := true, maxSteps := 10000000, implicitDefEqProofs := false}) (disch := first | (and_intros <;> omega -splitDisjunctions) | (simp only [List.length_set, List.length_append, List.length_cons, List.length_nil]; and_intros <;> omega -splitDisjunctions) | fail) only [t1, b1, b2, hbb, kbB, apB, r0, r1, r2, r3, k4, r5, k6, Try.f53, go_sem, ↓reduceIte, Nat.reduceEqDiff, Nat.reduceAdd, Nat.reduceMul, Nat.reduceLT, Nat.reduceLeDiff, reduceCtorEq, Int.reduceNe, Int.reduceEq, Int.reduceLT, Int.reduceLE, Int.reduceAdd, Int.reduceSub, Int.reduceMul, Int.reduceNeg, Int.reduceToNat, UInt8.reduceToNat, natLit, ty3, ty4, ty9, ty26, ty48, ty55, ty60, ty62, ty100, ty111, ty126]
        rw [List.drop_of_length_le (by omega)] at hfold
        have hfold : t.out ++ [evK 9 false] = decG g nmT (imN (tm g)) := hfold
        rw [← hfold]
        have p := put_ev (hob.ext (Hx.app (L := [.cells (evC (evK 9 false))]))) (by rw [List.length_append]; omega) (evK 9 false)
        have po := p.own
        rw [List.length_append] at po
        exact ⟨app_hx (hxB.trans Hx.app) (hob.ext Hx.app) (by omega), po.down (by omega)⟩
  refine key (g.roots.length + 1) 0 0 ⟨List.replicate g.nodes.length false, [evK 1 false]⟩ (.sl (G.length + 1) 0 8 1 1) _ _ _ _ _ _ _ (by omega) rfl (by omega) (hxG.trans Hx.app) (by simp) (by rw [cellsAt_app]; rfl) (by rw [cellsAt_app0]; rfl) (cellsAt_left g1) (.inr ⟨G.length + 1, rfl, by rw [cellsAt_app]; rfl, by omega⟩) (by simp only [blkV]; omega) (by simp) (by simp only [List.length_cons, List.length_nil]; omega) hD
end Go.Proofs.Ytbjpecknlohicaa.Lg
