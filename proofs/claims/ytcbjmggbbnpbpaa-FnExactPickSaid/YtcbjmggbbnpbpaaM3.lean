/- Contracts over the logical machine (Nst8 Nc3 Nc4 Nc5 Nc6). No condition. -/
import Derived.Test.YtcbjmggbbnpbpaaM2
namespace Go.Proofs.Ytcbjmggbbnpbpaa.Lg
set_option linter.unusedSimpArgs false
set_option linter.unusedVariables false
set_option maxRecDepth 100000
set_option maxHeartbeats 40000000
open Go.Proofs.Ytcbjmggbbnpbpaa

theorem run_spNested (v : V) (es : List Ev) (fl : Nat) (H : LH) (h : At H evC 8 v es) (hes : ∀ e ∈ es, evCFit e) (hl : es.length ≤ 1048576) :
    run 42 [v] fl H = some (.bool (nestedM es), H) := by
  have e1 := fun e (he : evCFit e) fl H => run_spEventOk e fl H he
  have i1 := h.isTup
  have f1 := h.isTup; have f2 := h.len; have f3 := h.lenOk ty29; have f0 := h.one
  have f4 := fun hp => h.con hp
  have f5 := h.idx (T := ty Try.prog) (t := 29) (by simp only [elemI, sizeO, ty3, ty4, ty9, ty29, ty58])
  have f6 := h.loadD evC_len evZ
  unfold run
  rw [Run_z Try.func42 rfl (by rfl : ok 42 = true) (by rfl : cfg.keep 42 = [0, 2, 3, 4, 5, 6, 7, 8, 9, 11, 12, 13, 14, 33, 36, 49, 54, 55, 62, 64, 69, 78, 84, 88, 108, 112, 121, 122]) (by rfl : cfg.mode 42 = .pure) (by rfl : cfg.ord 42 = [])]
  simp (config := {contextual := true, maxSteps := 10000000, implicitDefEqProofs := false}) (disch := first | (and_intros <;> omega -splitDisjunctions) | (simp only [List.length_set, List.length_append, List.length_cons, List.length_nil]; and_intros <;> omega -splitDisjunctions) | fail) only [f0, f1, f2, f3, f4, f5, f6, Try.f42, go_sem, ↓reduceIte, Nat.reduceEqDiff, Nat.reduceAdd, Nat.reduceMul, Nat.reduceLT, Nat.reduceLeDiff, reduceCtorEq, Int.reduceNe, Int.reduceEq, Int.reduceLT, Int.reduceLE, Int.reduceAdd, Int.reduceSub, Int.reduceMul, Int.reduceNeg, Int.reduceToNat, UInt8.reduceToNat, natLit, ty3, ty4, ty9, ty29, ty55, ty58]
  refine at_loopE fun c R hc hR => ?_
  have key : ∀ (m : Nat) (j : Nat) (jj : Int) (s : NS) (u : V) (B : LH) (x2 x5 x6 x7 x8 x9 x14 x33 x36 x49 x54 x55 x62 x64 x69 x78 x84 x88 x108 x112 x121 x122 : Option V), es.length - j < m → jj = j → j ≤ es.length → Hx H B → SAt H.length B u s.st → Few j s → Kd s → 0 < j →
      zEv (leaveX (mkR Try.prog cfg ok [0, 2, 3, 4, 5, 6, 7, 8, 9, 11, 12, 13, 14, 33, 36, 49, 54, 55, 62, 64, 69, 78, 84, 88, 108, 112, 121, 122] H.length) .pure H [ResultVar.tmp 2]) (mkR Try.prog cfg ok [0, 2, 3, 4, 5, 6, 7, 8, 9, 11, 12, 13, 14, 33, 36, 49, 54, 55, 62, 64, 69, 78, 84, 88, 108, 112, 121, 122] H.length) (K.code (Code.loop c) :: K.blk 0 :: R) .nrm [some v, x2, some u, some (.int .i64 s.doc), x5, x6, x7, x8, x9, some v, some (.int .i64 es.length), some (.int .i64 jj), x14, x33, x36, x49, x54, x55, x62, x64, x69, x78, x84, x88, x108, x112, x121, x122] (B) = some (.bool (goN s (es.drop j)), H) := by
    intro m
    induction m with
    | zero => intro j jj s u B x2 x5 x6 x7 x8 x9 x14 x33 x36 x49 x54 x55 x62 x64 x69 x78 x84 x88 x108 x112 x121 x122 hm; omega
    | succ m ih =>
      intro j jj s u B x2 x5 x6 x7 x8 x9 x14 x33 x36 x49 x54 x55 x62 x64 x69 x78 x84 x88 x108 x112 x121 x122 hm hj hle hxB hS hF hKd hj0
      subst hj
      by_cases hlt : j < es.length
      rotate_left
      · have t1 : ((j : Int) < es.length) = False := eq_false (by omega)
        rw [List.drop_of_length_le (by omega)]
        unfold goN
        rw [zEv_round hc, ← hR]
        simp (config := {contextual := true, maxSteps := 10000000, implicitDefEqProofs := false}) (disch := first | (and_intros <;> omega -splitDisjunctions) | (simp only [List.length_set, List.length_append, List.length_cons, List.length_nil]; and_intros <;> omega -splitDisjunctions) | fail) only [t1, Try.f42, go_sem, ↓reduceIte, Nat.reduceEqDiff, Nat.reduceAdd, Nat.reduceMul, Nat.reduceLT, Nat.reduceLeDiff, reduceCtorEq, Int.reduceNe, Int.reduceEq, Int.reduceLT, Int.reduceLE, Int.reduceAdd, Int.reduceSub, Int.reduceMul, Int.reduceNeg, Int.reduceToNat, UInt8.reduceToNat, natLit, ty3, ty4, ty9, ty29, ty55, ty58]
      have t1 : ((j : Int) < es.length) = True := eq_true (by omega)
      have t2 : ((j : Int) = 0) = False := eq_false (by omega)
      have hlB := hxB.len
      have rB := h.ext hxB
      have k1 := rB.isTup; have k2 := rB.len; have k3 := rB.lenOk ty29; have k0 := rB.one
      have k4 := fun hp => rB.con hp
      have k5 := rB.idx (T := ty Try.prog) (t := 29) (by simp only [elemI, sizeO, ty3, ty4, ty9, ty29, ty58])
      have k6 := rB.loadD evC_len evZ
      have k6 := k6 j hlt
      have hd := List.drop_eq_getElem_cons hlt
      rw [← getD_of hlt evZ] at hd
      have hfe := hes _ (show es.getD j evZ ∈ es by rw [getD_of hlt]; exact List.getElem_mem _)
      have e2 := e1 _ hfe
      have hem : (es.drop (j + 1)).isEmpty = decide ((j : Int) = (es.length : Int) - 1) := by
        rw [Bool.eq_iff_iff, List.isEmpty_iff, List.drop_eq_nil_iff, decide_eq_true_iff]; omega
      rw [hd]
      unfold goN
      by_cases ho : EvOk (es.getD j evZ)
      rotate_left
      · rw [if_pos ho]
        simp only [decide_eq_false ho] at e2
        generalize es.getD j evZ = ev at *
        obtain ⟨kind, style, flag, text, anchor, tag, place, code⟩ := ev
        unfold run evC at *
        rw [zEv_round hc, ← hR]
        simp (config := {contextual := true, maxSteps := 10000000, implicitDefEqProofs := false}) (disch := first | (and_intros <;> omega -splitDisjunctions) | (simp only [List.length_set, List.length_append, List.length_cons, List.length_nil]; and_intros <;> omega -splitDisjunctions) | fail) only [t1, t2, k0, k1, k2, k3, k4, k5, k6, e2, Try.f42, go_sem, ↓reduceIte, Nat.reduceEqDiff, Nat.reduceAdd, Nat.reduceMul, Nat.reduceLT, Nat.reduceLeDiff, reduceCtorEq, Int.reduceNe, Int.reduceEq, Int.reduceLT, Int.reduceLE, Int.reduceAdd, Int.reduceSub, Int.reduceMul, Int.reduceNeg, Int.reduceToNat, UInt8.reduceToNat, natLit, ty3, ty4, ty9, ty29, ty55, ty58]
      rw [if_neg (by simpa using ho), hem]
      simp only [decide_eq_true ho] at e2
      obtain ⟨kb, g, hu, hcb, hkb⟩ := hS
      have hkB := cellsAt_lt hcb
      have hcB : ∀ L, LH.cellsAt (B ++ L) kb = some (opn s.st ++ g) := fun L => cellsAt_left hcb
      have hmf := fun t hs => stepN_few (t := t) (k := (es.getD j evZ).kind) hF hs
      have hmk := fun t hs => stepN_kd (t := t) (k := (es.getD j evZ).kind) hKd hs
      have hkk := ten ho.1.1 ho.1.2
      obtain ⟨ev, hev2⟩ : ∃ ev, es.getD j evZ = ev := ⟨_, rfl⟩
      have hev3 := hev2
      simp only [hev2] at e2 k6 hmf hmk hkk ⊢
      obtain ⟨kind, style, flag, text, anchor, tag, place, code⟩ := ev
      have hx2 : ∀ L, Hx H (B ++ L) := fun L => hxB.trans Hx.app
      have hx3 : ∀ x L, Hx H (B.set kb x ++ L) := fun x L => (hxB.set hkb).trans Hx.app
      have sw : ∀ L x, List.set (B ++ L) kb x = List.set B kb x ++ L := fun L x => List.set_append_left _ _ hkB
      have sw2 : ∀ L x y, List.set (List.set B kb x ++ L) kb y = List.set B kb y ++ L := fun L x y => by rw [List.set_append_left _ _ (by rw [List.length_set]; exact hkB), List.set_set]
      have c4 : ∀ x L, LH.cellsAt (List.set B kb x ++ L) B.length = LH.cellsAt L 0 := fun x L => cellsAt_appS0 B L kb x
      have c6 : ∀ x L i, LH.cellsAt (List.set B kb x ++ L) (B.length + i) = LH.cellsAt L i := fun x L i => cellsAt_appS B L kb i x
      have c5 : ∀ x L, LH.cellsAt (List.set B kb (.cells x) ++ L) kb = some x := fun x L => cellsAt_left (cellsAt_set hkB)
      obtain ⟨doc, st⟩ := s
      simp only at hmf hmk hkk hu hcb hcB ⊢
      subst hu
      clear hev2 hd hem hfe ho
      have hl0 := hF.1
      simp only at hl0
      rcases hkk with rfl | rfl | rfl | rfl | rfl | rfl | rfl | rfl | rfl | rfl
      · unfold run evC at *
        rw [zEv_round hc, ← hR]
        simp (config := {contextual := true, maxSteps := 10000000, implicitDefEqProofs := false}) (disch := first | (and_intros <;> omega -splitDisjunctions) | (simp only [List.length_set, List.length_append, List.length_cons, List.length_nil]; and_intros <;> omega -splitDisjunctions) | fail) only [t1, t2, k0, k1, k2, k3, k4, k5, k6, e2, Try.f42, go_sem, ↓reduceIte, Nat.reduceEqDiff, Nat.reduceAdd, Nat.reduceMul, Nat.reduceLT, Nat.reduceLeDiff, reduceCtorEq, Int.reduceNe, Int.reduceEq, Int.reduceLT, Int.reduceLE, Int.reduceAdd, Int.reduceSub, Int.reduceMul, Int.reduceNeg, Int.reduceToNat, UInt8.reduceToNat, natLit, ty3, ty4, ty9, ty29, ty55, ty58]
        rfl
      · by_cases hd : doc = 0
        · subst hd
          have hst : stepN ⟨0, st⟩ 2 = some ⟨1, st⟩ := rfl
          rw [hst]
          unfold run evC at *
          rw [zEv_round hc, ← hR]
          simp (config := {contextual := true, maxSteps := 10000000, implicitDefEqProofs := false}) (disch := first | (and_intros <;> omega -splitDisjunctions) | (simp only [List.length_set, List.length_append, List.length_cons, List.length_nil]; and_intros <;> omega -splitDisjunctions) | fail) only [t1, t2, k0, k1, k2, k3, k4, k5, k6, e2, Try.f42, go_sem, ↓reduceIte, Nat.reduceEqDiff, Nat.reduceAdd, Nat.reduceMul, Nat.reduceLT, Nat.reduceLeDiff, reduceCtorEq, Int.reduceNe, Int.reduceEq, Int.reduceLT, Int.reduceLE, Int.reduceAdd, Int.reduceSub, Int.reduceMul, Int.reduceNeg, Int.reduceToNat, UInt8.reduceToNat, natLit, ty3, ty4, ty9, ty29, ty55, ty58]
          rw [hR]
          exact ih (j + 1) ((j : Int) + 1) ⟨_, _⟩ _ _ _ _ _ _ _ _ _ _ _ _ _ _ _ _ _ _ _ _ _ _ _ _ (by omega) (by omega) (by omega) (hx2 _) ⟨kb, g, by simp, hcB _, hkb⟩ (hmf _ hst) (hmk _ hst) (by omega)
        · have hst : stepN ⟨doc, st⟩ 2 = none := if_neg hd
          rw [hst]
          unfold run evC at *
          rw [zEv_round hc, ← hR]
          simp (config := {contextual := true, maxSteps := 10000000, implicitDefEqProofs := false}) (disch := first | (and_intros <;> omega -splitDisjunctions) | (simp only [List.length_set, List.length_append, List.length_cons, List.length_nil]; and_intros <;> omega -splitDisjunctions) | fail) only [t1, t2, k0, k1, k2, k3, k4, k5, k6, e2, hd, Try.f42, go_sem, ↓reduceIte, Nat.reduceEqDiff, Nat.reduceAdd, Nat.reduceMul, Nat.reduceLT, Nat.reduceLeDiff, reduceCtorEq, Int.reduceNe, Int.reduceEq, Int.reduceLT, Int.reduceLE, Int.reduceAdd, Int.reduceSub, Int.reduceMul, Int.reduceNeg, Int.reduceToNat, UInt8.reduceToNat, natLit, ty3, ty4, ty9, ty29, ty55, ty58]
      · by_cases hst : stepN ⟨doc, st⟩ 3 = none
        · rw [hst]
          have hst0 : stepN ⟨doc, st⟩ 3 = (nodeN ⟨doc, st⟩).map (fun t => (⟨t.doc, t.st ++ [(3, 0)]⟩ : NS)) := rfl
          have hno : st = [] ∧ doc ≠ 1 := by
            rw [hst0] at hst
            unfold nodeN at hst
            by_cases h0 : st = []
            · subst h0
              by_cases hd : doc = 1
              · subst hd; cases hst
              · exact ⟨rfl, hd⟩
            · simp only [h0, if_false] at hst; cases hst
          obtain ⟨h0, hd⟩ := hno
          subst h0
          simp only [List.length_nil] at *
          unfold run evC at *
          rw [zEv_round hc, ← hR]
          simp (config := {contextual := true, maxSteps := 10000000, implicitDefEqProofs := false}) (disch := first | (and_intros <;> omega -splitDisjunctions) | (simp only [List.length_set, List.length_append, List.length_cons, List.length_nil]; and_intros <;> omega -splitDisjunctions) | fail) only [t1, t2, k0, k1, k2, k3, k4, k5, k6, e2, hd, Try.f42, go_sem, ↓reduceIte, Nat.reduceEqDiff, Nat.reduceAdd, Nat.reduceMul, Nat.reduceLT, Nat.reduceLeDiff, reduceCtorEq, Int.reduceNe, Int.reduceEq, Int.reduceLT, Int.reduceLE, Int.reduceAdd, Int.reduceSub, Int.reduceMul, Int.reduceNeg, Int.reduceToNat, UInt8.reduceToNat, natLit, ty3, ty4, ty9, ty29, ty55, ty58]
        · simp only [Int.reduceEq, if_false]
          exact nst_rnd3 v es fl H h hl j hlt hj0 B hxB doc st kb g hcb hkb hF hKd (by rw [hev3]; exact e2) (by rw [hev3]) hst c R (by subst hc; rfl) (fun s u B x2 x5 x6 x7 x8 x9 x14 x33 x36 x49 x54 x55 x62 x64 x69 x78 x84 x88 x108 x112 x121 x122 a1 a2 a3 a4 => ih (j + 1) ((j : Int) + 1) s u B _ _ _ _ _ _ _ _ _ _ _ _ _ _ _ _ _ _ _ _ _ _ (by omega) (by omega) (by omega) a1 a2 a3 a4 (by omega)) _ _ _ _ _ _ _ _ _ _ _ _ _ _ _ _ _ _ _ _ _ _
      · by_cases hst : stepN ⟨doc, st⟩ 4 = none
        · rw [hst]
          have hst0 : stepN ⟨doc, st⟩ 4 = (nodeN ⟨doc, st⟩).map (fun t => (⟨t.doc, t.st ++ [(4, 0)]⟩ : NS)) := rfl
          have hno : st = [] ∧ doc ≠ 1 := by
            rw [hst0] at hst
            unfold nodeN at hst
            by_cases h0 : st = []
            · subst h0
              by_cases hd : doc = 1
              · subst hd; cases hst
              · exact ⟨rfl, hd⟩
            · simp only [h0, if_false] at hst; cases hst
          obtain ⟨h0, hd⟩ := hno
          subst h0
          simp only [List.length_nil] at *
          unfold run evC at *
          rw [zEv_round hc, ← hR]
          simp (config := {contextual := true, maxSteps := 10000000, implicitDefEqProofs := false}) (disch := first | (and_intros <;> omega -splitDisjunctions) | (simp only [List.length_set, List.length_append, List.length_cons, List.length_nil]; and_intros <;> omega -splitDisjunctions) | fail) only [t1, t2, k0, k1, k2, k3, k4, k5, k6, e2, hd, Try.f42, go_sem, ↓reduceIte, Nat.reduceEqDiff, Nat.reduceAdd, Nat.reduceMul, Nat.reduceLT, Nat.reduceLeDiff, reduceCtorEq, Int.reduceNe, Int.reduceEq, Int.reduceLT, Int.reduceLE, Int.reduceAdd, Int.reduceSub, Int.reduceMul, Int.reduceNeg, Int.reduceToNat, UInt8.reduceToNat, natLit, ty3, ty4, ty9, ty29, ty55, ty58]
        · simp only [Int.reduceEq, if_false]
          exact nst_rnd4 v es fl H h hl j hlt hj0 B hxB doc st kb g hcb hkb hF hKd (by rw [hev3]; exact e2) (by rw [hev3]) hst c R (by subst hc; rfl) (fun s u B x2 x5 x6 x7 x8 x9 x14 x33 x36 x49 x54 x55 x62 x64 x69 x78 x84 x88 x108 x112 x121 x122 a1 a2 a3 a4 => ih (j + 1) ((j : Int) + 1) s u B _ _ _ _ _ _ _ _ _ _ _ _ _ _ _ _ _ _ _ _ _ _ (by omega) (by omega) (by omega) a1 a2 a3 a4 (by omega)) _ _ _ _ _ _ _ _ _ _ _ _ _ _ _ _ _ _ _ _ _ _
      · by_cases hst : stepN ⟨doc, st⟩ 5 = none
        · rw [hst]
          have hst0 : stepN ⟨doc, st⟩ 5 = nodeN ⟨doc, st⟩ := rfl
          have hno : st = [] ∧ doc ≠ 1 := by
            rw [hst0] at hst
            unfold nodeN at hst
            by_cases h0 : st = []
            · subst h0
              by_cases hd : doc = 1
              · subst hd; cases hst
              · exact ⟨rfl, hd⟩
            · simp only [h0, if_false] at hst; cases hst
          obtain ⟨h0, hd⟩ := hno
          subst h0
          simp only [List.length_nil] at *
          unfold run evC at *
          rw [zEv_round hc, ← hR]
          simp (config := {contextual := true, maxSteps := 10000000, implicitDefEqProofs := false}) (disch := first | (and_intros <;> omega -splitDisjunctions) | (simp only [List.length_set, List.length_append, List.length_cons, List.length_nil]; and_intros <;> omega -splitDisjunctions) | fail) only [t1, t2, k0, k1, k2, k3, k4, k5, k6, e2, hd, Try.f42, go_sem, ↓reduceIte, Nat.reduceEqDiff, Nat.reduceAdd, Nat.reduceMul, Nat.reduceLT, Nat.reduceLeDiff, reduceCtorEq, Int.reduceNe, Int.reduceEq, Int.reduceLT, Int.reduceLE, Int.reduceAdd, Int.reduceSub, Int.reduceMul, Int.reduceNeg, Int.reduceToNat, UInt8.reduceToNat, natLit, ty3, ty4, ty9, ty29, ty55, ty58]
        · simp only [Int.reduceEq, if_false]
          exact nst_rnd5 v es fl H h hl j hlt hj0 B hxB doc st kb g hcb hkb hF hKd (by rw [hev3]; exact e2) (by rw [hev3]) hst c R (by subst hc; rfl) (fun s u B x2 x5 x6 x7 x8 x9 x14 x33 x36 x49 x54 x55 x62 x64 x69 x78 x84 x88 x108 x112 x121 x122 a1 a2 a3 a4 => ih (j + 1) ((j : Int) + 1) s u B _ _ _ _ _ _ _ _ _ _ _ _ _ _ _ _ _ _ _ _ _ _ (by omega) (by omega) (by omega) a1 a2 a3 a4 (by omega)) _ _ _ _ _ _ _ _ _ _ _ _ _ _ _ _ _ _ _ _ _ _
      · by_cases hst : stepN ⟨doc, st⟩ 6 = none
        · rw [hst]
          have hst0 : stepN ⟨doc, st⟩ 6 = nodeN ⟨doc, st⟩ := rfl
          have hno : st = [] ∧ doc ≠ 1 := by
            rw [hst0] at hst
            unfold nodeN at hst
            by_cases h0 : st = []
            · subst h0
              by_cases hd : doc = 1
              · subst hd; cases hst
              · exact ⟨rfl, hd⟩
            · simp only [h0, if_false] at hst; cases hst
          obtain ⟨h0, hd⟩ := hno
          subst h0
          simp only [List.length_nil] at *
          unfold run evC at *
          rw [zEv_round hc, ← hR]
          simp (config := {contextual := true, maxSteps := 10000000, implicitDefEqProofs := false}) (disch := first | (and_intros <;> omega -splitDisjunctions) | (simp only [List.length_set, List.length_append, List.length_cons, List.length_nil]; and_intros <;> omega -splitDisjunctions) | fail) only [t1, t2, k0, k1, k2, k3, k4, k5, k6, e2, hd, Try.f42, go_sem, ↓reduceIte, Nat.reduceEqDiff, Nat.reduceAdd, Nat.reduceMul, Nat.reduceLT, Nat.reduceLeDiff, reduceCtorEq, Int.reduceNe, Int.reduceEq, Int.reduceLT, Int.reduceLE, Int.reduceAdd, Int.reduceSub, Int.reduceMul, Int.reduceNeg, Int.reduceToNat, UInt8.reduceToNat, natLit, ty3, ty4, ty9, ty29, ty55, ty58]
        · simp only [Int.reduceEq, if_false]
          exact nst_rnd6 v es fl H h hl j hlt hj0 B hxB doc st kb g hcb hkb hF hKd (by rw [hev3]; exact e2) (by rw [hev3]) hst c R (by subst hc; rfl) (fun s u B x2 x5 x6 x7 x8 x9 x14 x33 x36 x49 x54 x55 x62 x64 x69 x78 x84 x88 x108 x112 x121 x122 a1 a2 a3 a4 => ih (j + 1) ((j : Int) + 1) s u B _ _ _ _ _ _ _ _ _ _ _ _ _ _ _ _ _ _ _ _ _ _ (by omega) (by omega) (by omega) a1 a2 a3 a4 (by omega)) _ _ _ _ _ _ _ _ _ _ _ _ _ _ _ _ _ _ _ _ _ _
      · by_cases h0 : st = []
        · subst h0
          have hst : stepN ⟨doc, []⟩ 7 = none := rfl
          rw [hst]
          simp only [List.length_nil] at *
          unfold run evC at *
          rw [zEv_round hc, ← hR]
          simp (config := {contextual := true, maxSteps := 10000000, implicitDefEqProofs := false}) (disch := first | (and_intros <;> omega -splitDisjunctions) | (simp only [List.length_set, List.length_append, List.length_cons, List.length_nil]; and_intros <;> omega -splitDisjunctions) | fail) only [t1, t2, k0, k1, k2, k3, k4, k5, k6, e2, Try.f42, go_sem, ↓reduceIte, Nat.reduceEqDiff, Nat.reduceAdd, Nat.reduceMul, Nat.reduceLT, Nat.reduceLeDiff, reduceCtorEq, Int.reduceNe, Int.reduceEq, Int.reduceLT, Int.reduceLE, Int.reduceAdd, Int.reduceSub, Int.reduceMul, Int.reduceNeg, Int.reduceToNat, UInt8.reduceToNat, natLit, ty3, ty4, ty9, ty29, ty55, ty58]
        have hp : 0 < st.length := List.length_pos_iff.2 h0
        obtain ⟨n, hn⟩ : ∃ n, st.length = n + 1 := ⟨st.length - 1, by omega⟩
        have q1 := fun g => opn_cell (l := st) (i := n) (by omega) g
        have q3 : (opn st ++ g).length = n + 1 + g.length := by rw [List.length_append, opn_len, hn]
        have hmem : st.getD n (0, 0) ∈ st := by rw [List.getD_eq_getElem?_getD, List.getElem?_eq_getElem (by omega)]; exact List.getElem_mem _
        have q2 := hF.2 _ hmem
        have q4 := hKd _ hmem
        have hlt2 := drop_last hn (0, 0)
        have htop : (⟨doc, st⟩ : NS).top = st.getD n (0, 0) := by unfold NS.top; simp only [hn, Nat.add_sub_cancel]
        have hs7 : stepN ⟨doc, st⟩ 7 = if st = [] ∨ ((⟨doc, st⟩ : NS).top.1 = 4 ∧ (⟨doc, st⟩ : NS).top.2 % 2 ≠ 0) then none else some ⟨doc, st.dropLast⟩ := rfl
        rw [htop] at hs7
        generalize htp : st.getD n (0, 0) = tp at *
        have t3 : ((((n : Nat) + 1 : Nat) : Int) - 1 < 0) = False := eq_false (by omega)
        have t4 : ((((n : Nat) + 1 : Nat) : Int) - 1).toNat = n := by omega
        have hdl : st.dropLast.length = n := by rw [List.length_dropLast]; omega
        have hfin : ∀ L, SAt H.length (B ++ L) (.sl kb 0 1 n (n + 1 + g.length)) st.dropLast := fun L => by
          refine ⟨kb, .int .i64 (if tp.1 = 3 then -1 else tp.2) :: g, ?_, ?_, hkb⟩
          · simp only [hdl, List.length_cons, show n + 1 + g.length = n + (g.length + 1) by omega]
          · rw [hcB]
            conv => lhs; rw [hlt2]
            simp [opn]
        rcases q4 with q4 | q4
        · have hst : stepN ⟨doc, st⟩ 7 = some ⟨doc, st.dropLast⟩ := by rw [hs7, if_neg (by rintro (h | h); exact h0 h; omega)]
          rw [hst]
          simp only [q4, if_true] at q1
          simp only [hn] at *
          unfold run evC at *
          rw [zEv_round hc, ← hR]
          simp (config := {contextual := true, maxSteps := 10000000, implicitDefEqProofs := false}) (disch := first | (and_intros <;> omega -splitDisjunctions) | (simp only [List.length_set, List.length_append, List.length_cons, List.length_nil]; and_intros <;> omega -splitDisjunctions) | fail) only [t1, t2, t3, t4, q1, q3, hcB, hn, Nat.sub_zero, k0, k1, k2, k3, k4, k5, k6, e2, Try.f42, go_sem, ↓reduceIte, Nat.reduceEqDiff, Nat.reduceAdd, Nat.reduceMul, Nat.reduceLT, Nat.reduceLeDiff, reduceCtorEq, Int.reduceNe, Int.reduceEq, Int.reduceLT, Int.reduceLE, Int.reduceAdd, Int.reduceSub, Int.reduceMul, Int.reduceNeg, Int.reduceToNat, UInt8.reduceToNat, natLit, ty3, ty4, ty9, ty29, ty55, ty58]
          rw [hR]
          exact ih (j + 1) ((j : Int) + 1) ⟨_, _⟩ _ _ _ _ _ _ _ _ _ _ _ _ _ _ _ _ _ _ _ _ _ _ _ _ (by omega) (by omega) (by omega) (hx2 _) (hfin _) (hmf _ hst) (hmk _ hst) (by omega)
        · have t5 : tp.2.tmod 2 = tp.2 % 2 := Int.tmod_eq_emod_of_nonneg q2.1
          simp only [q4, if_false, Int.reduceEq] at q1
          by_cases hm2 : tp.2 % 2 = 0
          · have hst : stepN ⟨doc, st⟩ 7 = some ⟨doc, st.dropLast⟩ := by rw [hs7, if_neg (by rintro (h | h); exact h0 h; exact h.2 hm2)]
            rw [hst]
            have t6 : (tp.2 % 2 = 1) = False := eq_false (by omega)
            simp only [hn] at *
            unfold run evC at *
            rw [zEv_round hc, ← hR]
            simp (config := {contextual := true, maxSteps := 10000000, implicitDefEqProofs := false}) (disch := first | (and_intros <;> omega -splitDisjunctions) | (simp only [List.length_set, List.length_append, List.length_cons, List.length_nil]; and_intros <;> omega -splitDisjunctions) | fail) only [t1, t2, t3, t4, t5, t6, q1, q3, hcB, hn, Nat.sub_zero, k0, k1, k2, k3, k4, k5, k6, e2, Try.f42, go_sem, ↓reduceIte, Nat.reduceEqDiff, Nat.reduceAdd, Nat.reduceMul, Nat.reduceLT, Nat.reduceLeDiff, reduceCtorEq, Int.reduceNe, Int.reduceEq, Int.reduceLT, Int.reduceLE, Int.reduceAdd, Int.reduceSub, Int.reduceMul, Int.reduceNeg, Int.reduceToNat, UInt8.reduceToNat, natLit, ty3, ty4, ty9, ty29, ty55, ty58]
            rw [hR]
            exact ih (j + 1) ((j : Int) + 1) ⟨_, _⟩ _ _ _ _ _ _ _ _ _ _ _ _ _ _ _ _ _ _ _ _ _ _ _ _ (by omega) (by omega) (by omega) (hx2 _) (hfin _) (hmf _ hst) (hmk _ hst) (by omega)
          · have hst : stepN ⟨doc, st⟩ 7 = none := by rw [hs7, if_pos (.inr ⟨q4, hm2⟩)]
            rw [hst]
            have t6 : (tp.2 % 2 = 1) = True := eq_true (by omega)
            have t7 : (0 < tp.2) = True := eq_true (by omega)
            simp only [hn] at *
            unfold run evC at *
            rw [zEv_round hc, ← hR]
            simp (config := {contextual := true, maxSteps := 10000000, implicitDefEqProofs := false}) (disch := first | (and_intros <;> omega -splitDisjunctions) | (simp only [List.length_set, List.length_append, List.length_cons, List.length_nil]; and_intros <;> omega -splitDisjunctions) | fail) only [t1, t2, t3, t4, t5, t6, t7, q1, q3, hcB, hn, Nat.sub_zero, k0, k1, k2, k3, k4, k5, k6, e2, Try.f42, go_sem, ↓reduceIte, Nat.reduceEqDiff, Nat.reduceAdd, Nat.reduceMul, Nat.reduceLT, Nat.reduceLeDiff, reduceCtorEq, Int.reduceNe, Int.reduceEq, Int.reduceLT, Int.reduceLE, Int.reduceAdd, Int.reduceSub, Int.reduceMul, Int.reduceNeg, Int.reduceToNat, UInt8.reduceToNat, natLit, ty3, ty4, ty9, ty29, ty55, ty58]
      · by_cases hd : doc = 2 ∧ st = []
        · obtain ⟨rfl, rfl⟩ := hd
          have hst : stepN ⟨2, []⟩ 8 = some ⟨0, []⟩ := rfl
          rw [hst]
          simp only [List.length_nil] at *
          unfold run evC at *
          rw [zEv_round hc, ← hR]
          simp (config := {contextual := true, maxSteps := 10000000, implicitDefEqProofs := false}) (disch := first | (and_intros <;> omega -splitDisjunctions) | (simp only [List.length_set, List.length_append, List.length_cons, List.length_nil]; and_intros <;> omega -splitDisjunctions) | fail) only [t1, t2, k0, k1, k2, k3, k4, k5, k6, e2, Try.f42, go_sem, ↓reduceIte, Nat.reduceEqDiff, Nat.reduceAdd, Nat.reduceMul, Nat.reduceLT, Nat.reduceLeDiff, reduceCtorEq, Int.reduceNe, Int.reduceEq, Int.reduceLT, Int.reduceLE, Int.reduceAdd, Int.reduceSub, Int.reduceMul, Int.reduceNeg, Int.reduceToNat, UInt8.reduceToNat, natLit, ty3, ty4, ty9, ty29, ty55, ty58]
          rw [hR]
          exact ih (j + 1) ((j : Int) + 1) ⟨_, _⟩ _ _ _ _ _ _ _ _ _ _ _ _ _ _ _ _ _ _ _ _ _ _ _ _ (by omega) (by omega) (by omega) (hx2 _) ⟨kb, g, by simp, hcB _, hkb⟩ (hmf _ hst) (hmk _ hst) (by omega)
        · have hst : stepN ⟨doc, st⟩ 8 = none := if_neg hd
          rw [hst]
          unfold run evC at *
          rw [zEv_round hc, ← hR]
          simp (config := {contextual := true, maxSteps := 10000000, implicitDefEqProofs := false}) (disch := first | (and_intros <;> omega -splitDisjunctions) | (simp only [List.length_set, List.length_append, List.length_cons, List.length_nil]; and_intros <;> omega -splitDisjunctions) | fail) only [t1, t2, k0, k1, k2, k3, k4, k5, k6, e2, Try.f42, go_sem, ↓reduceIte, Nat.reduceEqDiff, Nat.reduceAdd, Nat.reduceMul, Nat.reduceLT, Nat.reduceLeDiff, reduceCtorEq, Int.reduceNe, Int.reduceEq, Int.reduceLT, Int.reduceLE, Int.reduceAdd, Int.reduceSub, Int.reduceMul, Int.reduceNeg, Int.reduceToNat, UInt8.reduceToNat, natLit, ty3, ty4, ty9, ty29, ty55, ty58]
          rw [if_pos (by by_cases e : doc = 2; exact .inr (by have : st ≠ [] := fun e2 => hd ⟨e, e2⟩; have := List.length_pos_iff.2 this; omega); exact .inl e)]
      · unfold run evC at *
        rw [zEv_round hc, ← hR]
        simp (config := {contextual := true, maxSteps := 10000000, implicitDefEqProofs := false}) (disch := first | (and_intros <;> omega -splitDisjunctions) | (simp only [List.length_set, List.length_append, List.length_cons, List.length_nil]; and_intros <;> omega -splitDisjunctions) | fail) only [t1, t2, k0, k1, k2, k3, k4, k5, k6, e2, Try.f42, go_sem, ↓reduceIte, Nat.reduceEqDiff, Nat.reduceAdd, Nat.reduceMul, Nat.reduceLT, Nat.reduceLeDiff, reduceCtorEq, Int.reduceNe, Int.reduceEq, Int.reduceLT, Int.reduceLE, Int.reduceAdd, Int.reduceSub, Int.reduceMul, Int.reduceNeg, Int.reduceToNat, UInt8.reduceToNat, natLit, ty3, ty4, ty9, ty29, ty55, ty58]
      · unfold run evC at *
        rw [zEv_round hc, ← hR]
        simp (config := {contextual := true, maxSteps := 10000000, implicitDefEqProofs := false}) (disch := first | (and_intros <;> omega -splitDisjunctions) | (simp only [List.length_set, List.length_append, List.length_cons, List.length_nil]; and_intros <;> omega -splitDisjunctions) | fail) only [t1, t2, k0, k1, k2, k3, k4, k5, k6, e2, Try.f42, go_sem, ↓reduceIte, Nat.reduceEqDiff, Nat.reduceAdd, Nat.reduceMul, Nat.reduceLT, Nat.reduceLeDiff, reduceCtorEq, Int.reduceNe, Int.reduceEq, Int.reduceLT, Int.reduceLE, Int.reduceAdd, Int.reduceSub, Int.reduceMul, Int.reduceNeg, Int.reduceToNat, UInt8.reduceToNat, natLit, ty3, ty4, ty9, ty29, ty55, ty58]
  have hS0 : ∀ L, SAt H.length (H ++ .cells [] :: L) (.sl H.length 0 1 0 0) [] := fun L => ⟨H.length, [], rfl, by rw [cellsAt_app0]; rfl, Nat.le_refl _⟩
  by_cases h0 : es.length = 0
  · have : es = [] := List.length_eq_zero_iff.1 h0
    subst this
    have t1 : ((0 : Int) < (([] : List Ev).length : Nat)) = False := eq_false (by simp)
    rw [zEv_round hc, ← hR]
    simp (config := {contextual := true, maxSteps := 10000000, implicitDefEqProofs := false}) (disch := first | (and_intros <;> omega -splitDisjunctions) | (simp only [List.length_set, List.length_append, List.length_cons, List.length_nil]; and_intros <;> omega -splitDisjunctions) | fail) only [t1, Try.f42, go_sem, ↓reduceIte, Nat.reduceEqDiff, Nat.reduceAdd, Nat.reduceMul, Nat.reduceLT, Nat.reduceLeDiff, reduceCtorEq, Int.reduceNe, Int.reduceEq, Int.reduceLT, Int.reduceLE, Int.reduceAdd, Int.reduceSub, Int.reduceMul, Int.reduceNeg, Int.reduceToNat, UInt8.reduceToNat, natLit, ty3, ty4, ty9, ty29, ty55, ty58]
    rfl
  have hp0 : 0 < es.length := by omega
  have t1 : ((0 : Int) < es.length) = True := eq_true (by omega)
  have rB := h.ext (Hx.app (L := [.cells []]))
  have k1 := rB.isTup; have k2 := rB.len; have k3 := rB.lenOk ty29; have k0 := rB.one
  have k4 := fun hp => rB.con hp
  have k5 := rB.idx (T := ty Try.prog) (t := 29) (by simp only [elemI, sizeO, ty3, ty4, ty9, ty29, ty58])
  have k6 := rB.loadD evC_len evZ
  have k6 := fun K => k6 0 (by omega) K
  simp only [Nat.zero_mul, Nat.add_zero] at k6
  have hd := List.drop_eq_getElem_cons (show 0 < es.length by omega)
  rw [List.drop_zero, ← getD_of (show 0 < es.length by omega) evZ, Nat.zero_add] at hd
  have hfe := hes _ (show es.getD 0 evZ ∈ es by rw [getD_of (show 0 < es.length by omega)]; exact List.getElem_mem _)
  have e2 := e1 _ hfe
  have hM : nestedM es = (decide (EvOk (es.getD 0 evZ)) && decide ((es.getD 0 evZ).kind = 1) && goN ⟨0, []⟩ (es.drop 1)) := by
    conv => lhs; rw [hd]
    rfl
  rw [hM]
  by_cases ho : EvOk (es.getD 0 evZ)
  rotate_left
  · simp only [decide_eq_false ho, Bool.false_and] at e2 ⊢
    clear hM hd key
    generalize es.getD 0 evZ = ev at *
    obtain ⟨kind, style, flag, text, anchor, tag, place, code⟩ := ev
    unfold run evC at *
    rw [zEv_round hc, ← hR]
    simp (config := {contextual := true, maxSteps := 10000000, implicitDefEqProofs := false}) (disch := first | (and_intros <;> omega -splitDisjunctions) | (simp only [List.length_set, List.length_append, List.length_cons, List.length_nil]; and_intros <;> omega -splitDisjunctions) | fail) only [t1, k0, k1, k2, k3, k4, k5, k6, e2, Try.f42, go_sem, ↓reduceIte, Nat.reduceEqDiff, Nat.reduceAdd, Nat.reduceMul, Nat.reduceLT, Nat.reduceLeDiff, reduceCtorEq, Int.reduceNe, Int.reduceEq, Int.reduceLT, Int.reduceLE, Int.reduceAdd, Int.reduceSub, Int.reduceMul, Int.reduceNeg, Int.reduceToNat, UInt8.reduceToNat, natLit, ty3, ty4, ty9, ty29, ty55, ty58]
  by_cases hk1 : (es.getD 0 evZ).kind = 1
  rotate_left
  · simp only [decide_eq_true ho, decide_eq_false hk1, Bool.true_and, Bool.false_and] at e2 ⊢
    clear hM hd key
    generalize es.getD 0 evZ = ev at *
    obtain ⟨kind, style, flag, text, anchor, tag, place, code⟩ := ev
    simp only at hk1
    unfold run evC at *
    rw [zEv_round hc, ← hR]
    simp (config := {contextual := true, maxSteps := 10000000, implicitDefEqProofs := false}) (disch := first | (and_intros <;> omega -splitDisjunctions) | (simp only [List.length_set, List.length_append, List.length_cons, List.length_nil]; and_intros <;> omega -splitDisjunctions) | fail) only [t1, k0, k1, k2, k3, k4, k5, k6, e2, hk1, Try.f42, go_sem, ↓reduceIte, Nat.reduceEqDiff, Nat.reduceAdd, Nat.reduceMul, Nat.reduceLT, Nat.reduceLeDiff, reduceCtorEq, Int.reduceNe, Int.reduceEq, Int.reduceLT, Int.reduceLE, Int.reduceAdd, Int.reduceSub, Int.reduceMul, Int.reduceNeg, Int.reduceToNat, UInt8.reduceToNat, natLit, ty3, ty4, ty9, ty29, ty55, ty58]
  · simp only [decide_eq_true ho, decide_eq_true hk1, Bool.true_and] at e2 ⊢
    clear hM hd
    generalize es.getD 0 evZ = ev at *
    obtain ⟨kind, style, flag, text, anchor, tag, place, code⟩ := ev
    simp only at hk1
    subst hk1
    unfold run evC at *
    rw [zEv_round hc, ← hR]
    simp (config := {contextual := true, maxSteps := 10000000, implicitDefEqProofs := false}) (disch := first | (and_intros <;> omega -splitDisjunctions) | (simp only [List.length_set, List.length_append, List.length_cons, List.length_nil]; and_intros <;> omega -splitDisjunctions) | fail) only [t1, k0, k1, k2, k3, k4, k5, k6, e2, Try.f42, go_sem, ↓reduceIte, Nat.reduceEqDiff, Nat.reduceAdd, Nat.reduceMul, Nat.reduceLT, Nat.reduceLeDiff, reduceCtorEq, Int.reduceNe, Int.reduceEq, Int.reduceLT, Int.reduceLE, Int.reduceAdd, Int.reduceSub, Int.reduceMul, Int.reduceNeg, Int.reduceToNat, UInt8.reduceToNat, natLit, ty3, ty4, ty9, ty29, ty55, ty58]
    rw [hR]
    exact key (es.length + 1) 1 1 ⟨0, []⟩ _ _ _ _ _ _ _ _ _ _ _ _ _ _ _ _ _ _ _ _ _ _ _ _ (by omega) rfl (by omega) Hx.app (hS0 _) ⟨Nat.zero_le _, fun x hx => by cases hx⟩ (fun x hx => by cases hx) (by omega)
end Go.Proofs.Ytcbjmggbbnpbpaa.Lg
namespace Go.Proofs.Ytcbjmggbbnpbpaa.Lg
set_option linter.unusedSimpArgs false
set_option linter.unusedVariables false
set_option maxRecDepth 100000
set_option maxHeartbeats 40000000
open Go.Proofs.Ytcbjmggbbnpbpaa

theorem range_drop {n k : Nat} (h : k < n) : (List.range n).drop k = k :: (List.range n).drop (k + 1) := by
  rw [List.drop_eq_getElem_cons (by simpa using h)]
  simp
theorem range_end {n k : Nat} (h : n ≤ k) : (List.range n).drop k = [] := List.drop_of_length_le (by simpa using h)
def okAl (es : List Ev) (i : Nat) : Bool := !(decide (kd es i = 6) && decide (defF es i < 0))
theorem tiedM_al (es : List Ev) : tiedM es = (nestedM es && (List.range es.length).all (okAl es)) := rfl
theorem run_spRootsOf {v : V} {es : List Ev} {H : LH} (h : At H evC 8 v es) (hes : ∀ e ∈ es, evCFit e) (hl : es.length ≤ 1048576) (hn : nestedM es = true) (fl : Nat) :
    Ret (fun w H' => Hx H H' ∧ Own H.length H' inN 1 w (rootsF es)) (run 21 [v] fl H) := by
  have i1 := h.isTup; have i2 := h.len; have i3 := h.lenOk ty29
  unfold run
  rw [Run_z Try.func21 rfl (by rfl : ok 21 = true) (by rfl : cfg.keep 21 = [0, 2, 3, 4, 7, 8, 9, 32]) (by rfl : cfg.mode 21 = .fresh) (by rfl : cfg.ord 21 = [])]
  simp (config := {contextual := true, maxSteps := 10000000, implicitDefEqProofs := false}) (disch := first | (and_intros <;> omega -splitDisjunctions) | (simp only [List.length_set, List.length_append, List.length_cons, List.length_nil]; and_intros <;> omega -splitDisjunctions) | fail) only [i1, i2, i3, Try.f21, go_sem, ↓reduceIte, Nat.reduceEqDiff, Nat.reduceAdd, Nat.reduceMul, Nat.reduceLT, Nat.reduceLeDiff, reduceCtorEq, Int.reduceNe, Int.reduceEq, Int.reduceLT, Int.reduceLE, Int.reduceAdd, Int.reduceSub, Int.reduceMul, Int.reduceNeg, Int.reduceToNat, UInt8.reduceToNat, natLit, ty3, ty4, ty9, ty29, ty55, ty58]
  refine at_loopR fun c R hc hR => ?_
  have key : ∀ (m : Nat) (k : Nat) (kk : Int) (o : V) (xs : List Nat) (B : LH) (x2 x4 x9 x32 : Option V), es.length - k < m → kk = k → k ≤ es.length → Hx H B → Own H.length B inN 1 o xs → xs.length ≤ k → xs ++ ((List.range es.length).drop k).filter (rootB es) = rootsF es →
      Ret (fun w H' => Hx H H' ∧ Own H.length H' inN 1 w (rootsF es)) (zEv (leaveX (mkR Try.prog cfg ok [0, 2, 3, 4, 7, 8, 9, 32] H.length) .fresh H [ResultVar.tmp 2]) (mkR Try.prog cfg ok [0, 2, 3, 4, 7, 8, 9, 32] H.length) (K.code (Code.loop c) :: K.blk 0 :: R) .nrm [some v, x2, some o, x4, some (.int .i64 es.length), some (.int .i64 kk), x9, x32] (B)) := by
    intro m
    induction m with
    | zero => intro k kk o xs B x2 x4 x9 x32 hm; omega
    | succ m ih =>
      intro k kk o xs B x2 x4 x9 x32 hm hk hkl hx ho hlx hfin
      subst hk
      have hlB := hx.len
      have o1 := (ho.at inN_len).isTup; have o2 := (ho.at inN_len).one
      by_cases hlt : k < es.length
      rotate_left
      · have t1 : ((k : Int) < es.length) = False := eq_false (by omega)
        rw [range_end (by omega), List.filter_nil, List.append_nil] at hfin
        rw [zEv_round hc, ← hR]
        simp (config := {contextual := true, maxSteps := 10000000, implicitDefEqProofs := false}) (disch := first | (and_intros <;> omega -splitDisjunctions) | (simp only [List.length_set, List.length_append, List.length_cons, List.length_nil]; and_intros <;> omega -splitDisjunctions) | fail) only [t1, o1, o2, Try.f21, go_sem, ↓reduceIte, Nat.reduceEqDiff, Nat.reduceAdd, Nat.reduceMul, Nat.reduceLT, Nat.reduceLeDiff, reduceCtorEq, Int.reduceNe, Int.reduceEq, Int.reduceLT, Int.reduceLE, Int.reduceAdd, Int.reduceSub, Int.reduceMul, Int.reduceNeg, Int.reduceToNat, UInt8.reduceToNat, natLit, ty3, ty4, ty9, ty29, ty55, ty58]
        rw [← hfin]
        exact ⟨hx, ho⟩
      have t1 : ((k : Int) < es.length) = True := eq_true (by omega)
      have rB := h.ext hx
      have f1 := rB.isTup; have f2 := rB.len; have f3 := rB.lenOk ty29; have f0 := rB.one
      have f4 := fun hp => rB.con hp
      have f5 := rB.idx (T := ty Try.prog) (t := 29) (by simp only [elemI, sizeO, ty3, ty4, ty9, ty29, ty58])
      have f6 := rB.loadD evC_len evZ
      have g6 := f6 k hlt
      have n1 := fun fl H => run_l13Node (es.getD k evZ) fl H
      have n2 := fun fl => run_spNested v es fl B rB hes hl
      rw [hn] at n2
      rw [range_drop hlt, List.filter_cons] at hfin
      have hfin : xs ++ (if rootB es k = true then k :: ((List.range es.length).drop (k + 1)).filter (rootB es) else ((List.range es.length).drop (k + 1)).filter (rootB es)) = rootsF es := hfin
      cases k with
      | zero =>
        have hb : ¬ (rootB es 0 = true) := by simp [rootB]
        have t1 : ((0 : Int) < es.length) = True := eq_true (by omega)
        rw [if_neg hb] at hfin
        unfold run at n1 n2
        rw [zEv_round hc, ← hR]
        simp (config := {contextual := true, maxSteps := 10000000, implicitDefEqProofs := false}) (disch := first | (and_intros <;> omega -splitDisjunctions) | (simp only [List.length_set, List.length_append, List.length_cons, List.length_nil]; and_intros <;> omega -splitDisjunctions) | fail) only [t1, g6, n1, n2, o1, o2, f0, f1, f2, f3, f4, f5, f6, Try.f21, go_sem, ↓reduceIte, Nat.reduceEqDiff, Nat.reduceAdd, Nat.reduceMul, Nat.reduceLT, Nat.reduceLeDiff, reduceCtorEq, Int.reduceNe, Int.reduceEq, Int.reduceLT, Int.reduceLE, Int.reduceAdd, Int.reduceSub, Int.reduceMul, Int.reduceNeg, Int.reduceToNat, UInt8.reduceToNat, natLit, ty3, ty4, ty9, ty29, ty55, ty58]
        rw [hR]
        exact ih 1 1 o xs B _ _ _ _ (by omega) rfl (by omega) hx ho (by omega) hfin
      | succ k =>
        have t2 : (((k + 1 : Nat) : Int) - 1) = (k : Int) := by omega
        have t3 : (((k + 1 : Nat) : Int) > 0) = True := eq_true (by omega)
        have t4 : (((k + 1 : Nat) : Int) - 1).toNat = k := by omega
        have g0 := fun n K => rB.loadD0 evC_len evZ (fun e => .int .i64 e.kind) (fun _ => rfl) k (by omega) n K
        have ap := fun L => app_own1 (fl := H.length) (ho.ext (Hx.app (L := L))) inN_len (Nat.le_refl _) 8 (by unfold mostCells; omega) (k + 1)
        simp only [inN] at ap
        have hx2 : Hx H (killV (B ++ [Blk.cells [V.int .i64 ((k + 1 : Nat) : Int)]]) o ++ [.cells (rows inN (xs ++ [k + 1]))]) := app_hx (hx.trans Hx.app) (ho.ext Hx.app) (Nat.le_refl _)
        have an := app_new (enc := inN) (z := 1) (v := o) (show H.length ≤ (B ++ [Blk.cells [V.int .i64 ((k + 1 : Nat) : Int)]]).length by rw [List.length_append]; omega) (xs ++ [k + 1])
        simp only [List.length_append, List.length_cons, List.length_nil, Nat.zero_add] at an
        unfold run at n1 n2
        rw [zEv_round hc, ← hR]
        simp (config := {contextual := true, maxSteps := 10000000, implicitDefEqProofs := false}) (disch := first | (and_intros <;> omega -splitDisjunctions) | (simp only [List.length_set, List.length_append, List.length_cons, List.length_nil]; and_intros <;> omega -splitDisjunctions) | fail) only [t1, t2, t3, t4, g0, g6, n1, n2, ap, o1, o2, f0, f1, f2, f3, f4, f5, f6, Try.f21, go_sem, ↓reduceIte, Nat.reduceEqDiff, Nat.reduceAdd, Nat.reduceMul, Nat.reduceLT, Nat.reduceLeDiff, reduceCtorEq, Int.reduceNe, Int.reduceEq, Int.reduceLT, Int.reduceLE, Int.reduceAdd, Int.reduceSub, Int.reduceMul, Int.reduceNeg, Int.reduceToNat, UInt8.reduceToNat, natLit, ty3, ty4, ty9, ty29, ty55, ty58]
        rw [hR]
        refine Ret_ite (fun w => ?_) (fun w => ?_)
        · have hb : rootB es (k + 1) = true := decide_eq_true ⟨Nat.succ_pos _, w.1, w.2⟩
          rw [if_pos hb] at hfin
          exact ih (k + 1 + 1) (((k + 1 : Nat) : Int) + 1) _ (xs ++ [k + 1]) _ _ _ _ _ (by omega) (by omega) (by omega) hx2 an (by simp; omega) (by rw [List.append_assoc]; exact hfin)
        · have hb : ¬ (rootB es (k + 1) = true) := fun h => w ⟨(of_decide_eq_true h).2.1, (of_decide_eq_true h).2.2⟩
          rw [if_neg hb] at hfin
          exact ih (k + 1 + 1) (((k + 1 : Nat) : Int) + 1) o xs B _ _ _ _ (by omega) (by omega) (by omega) hx ho (by omega) hfin
  exact key (es.length + 1) 0 0 (.sl H.length 0 1 0 0) [] _ _ _ _ _ (by omega) rfl (by omega) Hx.app (.inr ⟨H.length, rfl, by rw [cellsAt_app0]; rfl, Nat.le_refl _⟩) (by simp) (by rw [List.nil_append, List.drop_zero]; rfl)
theorem run_spTied {v : V} {es : List Ev} {H : LH} (h : At H evC 8 v es) (hes : ∀ e ∈ es, evCFit e) (hl : es.length ≤ 1048576) (fl : Nat) :
    run 20 [v] fl H = some (.bool (tiedM es), H) := by
  have i1 := h.isTup; have i2 := h.len; have i3 := h.lenOk ty29
  have n2 := fun fl => run_spNested v es fl H h hes hl
  rw [tiedM_al]
  unfold run at *
  rw [Run_z Try.func20 rfl (by rfl : ok 20 = true) (by rfl : cfg.keep 20 = [0, 2, 3, 4, 7, 8, 9, 10, 11, 23]) (by rfl : cfg.mode 20 = .pure) (by rfl : cfg.ord 20 = [])]
  by_cases hn : nestedM es = true
  rotate_left
  · have hn : nestedM es = false := by simpa using hn
    rw [hn] at n2 ⊢
    simp (config := {contextual := true, maxSteps := 10000000, implicitDefEqProofs := false}) (disch := first | (and_intros <;> omega -splitDisjunctions) | (simp only [List.length_set, List.length_append, List.length_cons, List.length_nil]; and_intros <;> omega -splitDisjunctions) | fail) only [i1, i2, i3, n2, Try.f20, go_sem, ↓reduceIte, Nat.reduceEqDiff, Nat.reduceAdd, Nat.reduceMul, Nat.reduceLT, Nat.reduceLeDiff, reduceCtorEq, Int.reduceNe, Int.reduceEq, Int.reduceLT, Int.reduceLE, Int.reduceAdd, Int.reduceSub, Int.reduceMul, Int.reduceNeg, Int.reduceToNat, UInt8.reduceToNat, natLit, ty3, ty4, ty9, ty29, ty58]
  rw [hn] at n2 ⊢
  simp (config := {contextual := true, maxSteps := 10000000, implicitDefEqProofs := false}) (disch := first | (and_intros <;> omega -splitDisjunctions) | (simp only [List.length_set, List.length_append, List.length_cons, List.length_nil]; and_intros <;> omega -splitDisjunctions) | fail) only [i1, i2, i3, n2, Try.f20, go_sem, ↓reduceIte, Nat.reduceEqDiff, Nat.reduceAdd, Nat.reduceMul, Nat.reduceLT, Nat.reduceLeDiff, reduceCtorEq, Int.reduceNe, Int.reduceEq, Int.reduceLT, Int.reduceLE, Int.reduceAdd, Int.reduceSub, Int.reduceMul, Int.reduceNeg, Int.reduceToNat, UInt8.reduceToNat, natLit, ty3, ty4, ty9, ty29, ty58]
  refine at_loopE fun c R hc hR => ?_
  have key : ∀ (m : Nat) (k : Nat) (kk : Int) (B : LH) (x2 x3 x4 x7 x11 x23 : Option V), es.length - k < m → kk = k → k ≤ es.length → Hx H B →
      zEv (leaveX (mkR Try.prog cfg ok [0, 2, 3, 4, 7, 8, 9, 10, 11, 23] H.length) .pure H [ResultVar.tmp 2]) (mkR Try.prog cfg ok [0, 2, 3, 4, 7, 8, 9, 10, 11, 23] H.length) (K.code (Code.loop c) :: K.blk 0 :: R) .nrm [some v, x2, x3, x4, x7, some v, some (.int .i64 es.length), some (.int .i64 kk), x11, x23] (B) = some (.bool (((List.range es.length).drop k).all (okAl es)), H) := by
    intro m
    induction m with
    | zero => intro k kk B x2 x3 x4 x7 x11 x23 hm; omega
    | succ m ih =>
      intro k kk B x2 x3 x4 x7 x11 x23 hm hk hkl hx
      subst hk
      by_cases hlt : k < es.length
      rotate_left
      · have t1 : ((k : Int) < es.length) = False := eq_false (by omega)
        rw [range_end (by omega)]
        rw [zEv_round hc, ← hR]
        simp (config := {contextual := true, maxSteps := 10000000, implicitDefEqProofs := false}) (disch := first | (and_intros <;> omega -splitDisjunctions) | (simp only [List.length_set, List.length_append, List.length_cons, List.length_nil]; and_intros <;> omega -splitDisjunctions) | fail) only [t1, Try.f20, go_sem, ↓reduceIte, Nat.reduceEqDiff, Nat.reduceAdd, Nat.reduceMul, Nat.reduceLT, Nat.reduceLeDiff, reduceCtorEq, Int.reduceNe, Int.reduceEq, Int.reduceLT, Int.reduceLE, Int.reduceAdd, Int.reduceSub, Int.reduceMul, Int.reduceNeg, Int.reduceToNat, UInt8.reduceToNat, natLit, ty3, ty4, ty9, ty29, ty58]
        rfl
      have t1 : ((k : Int) < es.length) = True := eq_true (by omega)
      have rB := h.ext hx
      have f1 := rB.isTup; have f2 := rB.len; have f3 := rB.lenOk ty29; have f0 := rB.one
      have f4 := fun hp => rB.con hp
      have f5 := rB.idx (T := ty Try.prog) (t := 29) (by simp only [elemI, sizeO, ty3, ty4, ty9, ty29, ty58])
      have f6 := rB.loadD evC_len evZ
      have g6 := f6 k hlt
      have hlB := hx.len
      have e1 := fun L fl => run_l13Def (rB.ext (Hx.app (L := L))) hl hlt fl
      rw [range_drop hlt, List.all_cons]
      unfold run evC at *
      rw [zEv_round hc, ← hR]
      simp (config := {contextual := true, maxSteps := 10000000, implicitDefEqProofs := false}) (disch := first | (and_intros <;> omega -splitDisjunctions) | (simp only [List.length_set, List.length_append, List.length_cons, List.length_nil]; and_intros <;> omega -splitDisjunctions) | fail) only [t1, g6, e1, f0, f1, f2, f3, f4, f5, f6, Try.f20, go_sem, ↓reduceIte, Nat.reduceEqDiff, Nat.reduceAdd, Nat.reduceMul, Nat.reduceLT, Nat.reduceLeDiff, reduceCtorEq, Int.reduceNe, Int.reduceEq, Int.reduceLT, Int.reduceLE, Int.reduceAdd, Int.reduceSub, Int.reduceMul, Int.reduceNeg, Int.reduceToNat, UInt8.reduceToNat, natLit, ty3, ty4, ty9, ty29, ty58]
      rw [hR]
      have yes : ¬ (kd es k = 6 ∧ defF es k < 0) → okAl es k = true := fun w => by
        unfold okAl
        by_cases h6 : kd es k = 6
        · rw [decide_eq_false (fun h => w ⟨h6, h⟩), Bool.and_false]; rfl
        · rw [decide_eq_false h6, Bool.false_and]; rfl
      refine ite_E (fun w6 => ?_) (fun w6 => ?_)
      · refine ite_E (fun w => ?_) (fun w => ?_)
        · have : okAl es k = false := by unfold okAl; rw [decide_eq_true (show kd es k = 6 from w6), decide_eq_true w]; rfl
          rw [this, Bool.false_and]
        · rw [yes (fun h => w h.2), Bool.true_and]
          exact ih (k + 1) ((k : Int) + 1) _ _ _ _ _ _ _ (by omega) (by omega) (by omega) (hx.trans Hx.app)
      · rw [yes (fun h => w6 h.1), Bool.true_and]
        exact ih (k + 1) ((k : Int) + 1) _ _ _ _ _ _ _ (by omega) (by omega) (by omega) (hx.trans Hx.app)
  exact key (es.length + 1) 0 0 H _ _ _ _ _ _ (by omega) rfl (by omega) (Hx.refl _)
theorem run_spWhole {v : V} {es : List Ev} {H : LH} (h : At H evC 8 v es) (hes : ∀ e ∈ es, evCFit e) (hl : es.length ≤ 1048576) (fl : Nat) :
    run 23 [v] fl H = some (.bool (wholeM es), H) := by
  have n2 := fun fl => run_spTied h hes hl fl
  have f1 := h.isTup; have f2 := h.len; have f3 := h.lenOk ty29; have f0 := h.one
  have f4 := fun hp => h.con hp
  have f5 := h.idx (T := ty Try.prog) (t := 29) (by simp only [elemI, sizeO, ty3, ty4, ty9, ty29, ty58])
  have f6 := h.loadD evC_len evZ
  unfold wholeM
  unfold run at *
  rw [Run_z Try.func23 rfl (by rfl : ok 23 = true) (by rfl : cfg.keep 23 = [0, 2]) (by rfl : cfg.mode 23 = .pure) (by rfl : cfg.ord 23 = [])]
  by_cases hn : tiedM es = true
  rotate_left
  · have hn : tiedM es = false := by simpa using hn
    rw [hn] at n2 ⊢
    simp (config := {contextual := true, maxSteps := 10000000, implicitDefEqProofs := false}) (disch := first | (and_intros <;> omega -splitDisjunctions) | (simp only [List.length_set, List.length_append, List.length_cons, List.length_nil]; and_intros <;> omega -splitDisjunctions) | fail) only [f0, f1, f2, f3, f4, f5, f6, n2, Try.f23, go_sem, ↓reduceIte, Nat.reduceEqDiff, Nat.reduceAdd, Nat.reduceMul, Nat.reduceLT, Nat.reduceLeDiff, reduceCtorEq, Int.reduceNe, Int.reduceEq, Int.reduceLT, Int.reduceLE, Int.reduceAdd, Int.reduceSub, Int.reduceMul, Int.reduceNeg, Int.reduceToNat, UInt8.reduceToNat, natLit, ty3, ty4, ty9, ty29, ty58]
  rw [hn] at n2 ⊢
  have hn2 : nestedM es = true := by unfold tiedM at hn; rw [Bool.and_eq_true] at hn; exact hn.1
  have hlen := (nestedM_ok hn2).1
  have g0 := fun n K => h.loadD0 evC_len evZ (fun e => .int .i64 e.kind) (fun _ => rfl) (es.length - 1) (by omega) n K
  have t2 : ((es.length : Int) - 1).toNat = es.length - 1 := by omega
  simp (config := {contextual := true, maxSteps := 10000000, implicitDefEqProofs := false}) (disch := first | (and_intros <;> omega -splitDisjunctions) | (simp only [List.length_set, List.length_append, List.length_cons, List.length_nil]; and_intros <;> omega -splitDisjunctions) | fail) only [f0, f1, f2, f3, f4, f5, f6, g0, t2, n2, Try.f23, go_sem, ↓reduceIte, Nat.reduceEqDiff, Nat.reduceAdd, Nat.reduceMul, Nat.reduceLT, Nat.reduceLeDiff, reduceCtorEq, Int.reduceNe, Int.reduceEq, Int.reduceLT, Int.reduceLE, Int.reduceAdd, Int.reduceSub, Int.reduceMul, Int.reduceNeg, Int.reduceToNat, UInt8.reduceToNat, natLit, ty3, ty4, ty9, ty29, ty58]
end Go.Proofs.Ytcbjmggbbnpbpaa.Lg
namespace Go.Proofs.Ytcbjmggbbnpbpaa.Lg
set_option linter.unusedSimpArgs false
set_option linter.unusedVariables false
set_option maxRecDepth 100000
set_option maxHeartbeats 40000000
open Go.Proofs.Ytcbjmggbbnpbpaa

def ints (l : List Int) : List V := l.map (V.int .i64)
theorem ints_len (l : List Int) : (ints l).length = l.length := by simp [ints]
theorem ints_set (l : List Int) (i : Nat) (x : Int) : (ints l).set i (.int .i64 x) = ints (l.set i x) := by simp [ints, List.map_set]
theorem ints_rep (n : Nat) : (List.replicate n [V.int .i64 0]).flatten = ints (List.replicate n 0) := by
  induction n with
  | zero => rfl
  | succ n ih => rw [List.replicate_succ, List.flatten_cons, ih]; rfl
theorem ints_get {l : List Int} {i : Nat} (h : i < l.length) (g : List V) : (ints l ++ g)[i]? = some (.int .i64 (l.getD i 0)) := by
  rw [List.getElem?_append_left (by rw [ints_len]; exact h)]
  simp [ints, List.getElem?_map, h, List.getD_eq_getElem?_getD]
theorem ints_rows (l : List Int) : rows inI l = ints l := by
  induction l with
  | nil => rfl
  | cons x l ih => rw [rows_cons, ih]; rfl
/-- a row that is right up to 'k' -/
def Upto (l : List Int) (n k : Nat) (f : Nat → Int) : Prop := l.length = n ∧ ∀ m, m < k → l.getD m 0 = f m
theorem Upto.set {l : List Int} {n k i : Nat} {f f' : Nat → Int} {x : Int} (h : Upto l n k f) (hi : i < n) (hk : k < n) (hx : f' i = x) (ho : ∀ m, m < k + 1 → m ≠ i → m < k ∧ f' m = f m) : Upto (l.set i x) n (k + 1) f' := by
  refine ⟨by rw [List.length_set]; exact h.1, fun m hm => ?_⟩
  rw [List.getD_eq_getElem?_getD, List.getElem?_set]
  by_cases e : i = m
  · subst e; rw [if_pos rfl, if_pos (by rw [h.1]; exact hi), hx]; rfl
  · rw [if_neg e, ← List.getD_eq_getElem?_getD, h.2 m (ho m hm (fun h => e h.symm)).1, (ho m hm (fun h => e h.symm)).2]
/-- the open places -/
def StA (f : Nat) (H : LH) (v : V) (s : List Nat) : Prop := ∃ kb g, v = .sl kb 0 1 s.length (s.length + g.length) ∧ H.cellsAt kb = some (ints (s.map Int.ofNat) ++ g) ∧ f ≤ kb
theorem run_isColl (e : Ev) (fl : Nat) (H : LH) : run 54 [.agg (evC e)] fl H = some (.bool (decide (isC e)), H) := by
  unfold run evC
  rw [Run_z Try.func54 rfl (by rfl : ok 54 = true) (by rfl : cfg.keep 54 = [0, 1, 2]) (by rfl : cfg.mode 54 = .pure) (by rfl : cfg.ord 54 = [])]
  simp (config := {contextual := true, maxSteps := 10000000, implicitDefEqProofs := false}) (disch := first | (and_intros <;> omega -splitDisjunctions) | (simp only [List.length_set, List.length_append, List.length_cons, List.length_nil]; and_intros <;> omega -splitDisjunctions) | fail) only [Try.f54, go_sem, ↓reduceIte, Nat.reduceEqDiff, Nat.reduceAdd, Nat.reduceMul, Nat.reduceLT, Nat.reduceLeDiff, reduceCtorEq, Int.reduceNe, Int.reduceEq, Int.reduceLT, Int.reduceLE, Int.reduceAdd, Int.reduceSub, Int.reduceMul, Int.reduceNeg, Int.reduceToNat, UInt8.reduceToNat, natLit, ty3, ty4, ty9, ty58]
  have : decide (isC e) = (decide (e.kind = 3) || decide (e.kind = 4)) := by rw [Bool.eq_iff_iff]; simp only [decide_eq_true_eq, Bool.or_eq_true]; exact Iff.rfl
  rw [this]
  by_cases h : e.kind = 3 <;> simp [h]
theorem run_isNode (e : Ev) (fl : Nat) (H : LH) : run 55 [.agg (evC e)] fl H = some (.bool (decide (isN e)), H) := by
  have e1 := fun fl H => run_isColl e fl H
  unfold run evC at *
  rw [Run_z Try.func55 rfl (by rfl : ok 55 = true) (by rfl : cfg.keep 55 = [0, 1, 2]) (by rfl : cfg.mode 55 = .pure) (by rfl : cfg.ord 55 = [])]
  simp (config := {contextual := true, maxSteps := 10000000, implicitDefEqProofs := false}) (disch := first | (and_intros <;> omega -splitDisjunctions) | (simp only [List.length_set, List.length_append, List.length_cons, List.length_nil]; and_intros <;> omega -splitDisjunctions) | fail) only [e1, Try.f55, go_sem, ↓reduceIte, Nat.reduceEqDiff, Nat.reduceAdd, Nat.reduceMul, Nat.reduceLT, Nat.reduceLeDiff, reduceCtorEq, Int.reduceNe, Int.reduceEq, Int.reduceLT, Int.reduceLE, Int.reduceAdd, Int.reduceSub, Int.reduceMul, Int.reduceNeg, Int.reduceToNat, UInt8.reduceToNat, natLit, ty3, ty4, ty9, ty58]
  have : decide (isN e) = (decide (isC e) || (decide (e.kind = 5) || decide (e.kind = 6))) := by
    rw [Bool.eq_iff_iff]; simp only [decide_eq_true_eq, Bool.or_eq_true]; unfold isN isC; omega
  rw [this]
  by_cases h : isC e <;> by_cases h2 : e.kind = 5 <;> simp [h, h2]
theorem run_nestOf {v : V} {es : List Ev} {H : LH} (h : At H evC 8 v es) (hl : es.length ≤ 1048576) (hB : Bal es) (fl : Nat) :
    Ret (fun w H' => Hx H H' ∧ ∃ ve vu vd, w = .agg [v, ve, vu, vd] ∧ Own H.length H' inI 1 ve ((List.range es.length).map (endF es)) ∧ Own H.length H' inI 1 vu ((List.range es.length).map (upF es)) ∧
      Own H.length H' inI 1 vd ((List.range es.length).map (fun i => (docGo es (i + 1) : Int)))) (run 30 [v] fl H) := by
  have i1 := h.isTup; have i2 := h.len; have i3 := h.lenOk ty29; have i4 := h.one
  unfold run
  rw [Run_z Try.func30 rfl (by rfl : ok 30 = true) (by rfl : cfg.keep 30 = [0, 2, 3, 4, 5, 6, 7, 8, 21, 22, 23, 24, 35, 47, 58, 65, 84]) (by rfl : cfg.mode 30 = .fresh) (by rfl : cfg.ord 30 = [])]
  simp (config := {contextual := true, maxSteps := 10000000, implicitDefEqProofs := false}) (disch := first | (and_intros <;> omega -splitDisjunctions) | (simp only [List.length_set, List.length_append, List.length_cons, List.length_nil]; and_intros <;> omega -splitDisjunctions) | fail) only [i1, i2, i3, i4, Try.f30, go_sem, ↓reduceIte, Nat.reduceEqDiff, Nat.reduceAdd, Nat.reduceMul, Nat.reduceLT, Nat.reduceLeDiff, reduceCtorEq, Int.reduceNe, Int.reduceEq, Int.reduceLT, Int.reduceLE, Int.reduceAdd, Int.reduceSub, Int.reduceMul, Int.reduceNeg, Int.reduceToNat, UInt8.reduceToNat, natLit, ty3, ty4, ty9, ty29, ty55, ty58, ty64]
  rw [ints_rep]
  refine at_loopR fun c R hc hR => ?_
  have key : ∀ (m : Nat) (k : Nat) (kk dd : Int) (u : V) (B : LH) (E U D : List Int) (x0 x6 x7 x8 x24 x35 x47 x58 x65 x84 : Option V), es.length - k < m → kk = k → k ≤ es.length → Hx H B → H.length + 6 ≤ B.length → (∃ cs, B.cellsAt H.length = some cs ∧ cs.length = 4) → B.cellsAt (H.length + 4) = some [v, .sl (H.length + 1) 0 1 es.length es.length, .sl (H.length + 2) 0 1 es.length es.length, .sl (H.length + 3) 0 1 es.length es.length] → B.cellsAt (H.length + 1) = some (ints E) → B.cellsAt (H.length + 2) = some (ints U) → B.cellsAt (H.length + 3) = some (ints D) → Upto E es.length k (endV es k) → Upto U es.length k (upF es) → Upto D es.length k (fun i => (docGo es (i + 1) : Int)) → StA (H.length + 5) B u (stk es k) → dd = docGo es k →
      Ret (fun w H' => Hx H H' ∧ ∃ ve vu vd, w = .agg [v, ve, vu, vd] ∧ Own H.length H' inI 1 ve ((List.range es.length).map (endF es)) ∧ Own H.length H' inI 1 vu ((List.range es.length).map (upF es)) ∧ Own H.length H' inI 1 vd ((List.range es.length).map (fun i => (docGo es (i + 1) : Int)))) (zEv (leaveX (mkR Try.prog cfg ok [0, 2, 3, 4, 5, 6, 7, 8, 21, 22, 23, 24, 35, 47, 58, 65, 84] H.length) .fresh H [ResultVar.cell 2 64]) (mkR Try.prog cfg ok [0, 2, 3, 4, 5, 6, 7, 8, 21, 22, 23, 24, 35, 47, 58, 65, 84] H.length) (K.code (Code.loop c) :: K.blk 0 :: R) .nrm [x0, some (.ptr H.length 0), some (.ptr (H.length + 4) 0), some u, some (.int .i64 dd), x6, x7, x8, some v, some (.int .i64 es.length), some (.int .i64 kk), x24, x35, x47, x58, x65, x84] (B)) := by
    intro m
    induction m with
    | zero => intro k kk dd u B E U D x0 x6 x7 x8 x24 x35 x47 x58 x65 x84 hm; omega
    | succ m ih =>
      intro k kk dd u B E U D x0 x6 x7 x8 x24 x35 x47 x58 x65 x84 hm hk hkl hx hlB c0 c4 cE cU cD hE hU hD hS hd
      subst hk
      obtain ⟨cs0, c0, hcs0⟩ := c0
      by_cases hlt : k < es.length
      rotate_left
      · have t1 : ((k : Int) < es.length) = False := eq_false (by omega)
        obtain ⟨z0, z1, z2, z3, rfl⟩ : ∃ z0 z1 z2 z3, cs0 = [z0, z1, z2, z3] := by
          match cs0, hcs0 with
          | [z0, z1, z2, z3], _ => exact ⟨_, _, _, _, rfl⟩
        rw [zEv_round hc, ← hR]
        simp (config := {contextual := true, maxSteps := 10000000, implicitDefEqProofs := false}) (disch := first | (and_intros <;> omega -splitDisjunctions) | (simp only [List.length_set, List.length_append, List.length_cons, List.length_nil]; and_intros <;> omega -splitDisjunctions) | fail) only [t1, c0, c4, i1, cellsAt_set, cellsAt_set_ne, cellsAt_old, set_old, Try.f30, go_sem, ↓reduceIte, Nat.reduceEqDiff, Nat.reduceAdd, Nat.reduceMul, Nat.reduceLT, Nat.reduceLeDiff, reduceCtorEq, Int.reduceNe, Int.reduceEq, Int.reduceLT, Int.reduceLE, Int.reduceAdd, Int.reduceSub, Int.reduceMul, Int.reduceNeg, Int.reduceToNat, UInt8.reduceToNat, natLit, ty3, ty4, ty9, ty29, ty55, ty58, ty64]
        have hsx : Hx H (B.set H.length (.cells [v, .sl (H.length + 1) 0 1 es.length es.length, .sl (H.length + 2) 0 1 es.length es.length, .sl (H.length + 3) 0 1 es.length es.length])) := hx.set (Nat.le_refl _)
        have fin : ∀ (b : Nat) (l : List Int) (f : Nat → Int), H.length < b → b < B.length → B.cellsAt b = some (ints l) → Upto l es.length k f → Own H.length (B.set H.length (.cells [v, .sl (H.length + 1) 0 1 es.length es.length, .sl (H.length + 2) 0 1 es.length es.length, .sl (H.length + 3) 0 1 es.length es.length])) inI 1 (.sl b 0 1 es.length es.length) ((List.range es.length).map f) := by
          intro b l f h1 h2 h3 h4
          refine .inr ⟨b, by simp, ?_, by omega⟩
          rw [cellsAt_set_ne (by omega), h3]
          have : l = (List.range es.length).map f := by
            apply List.ext_getElem
            · simp [h4.1]
            · intro i h5 h6
              have hl1 := h4.1
              have := h4.2 i (by omega)
              rw [getD_of h5] at this
              simp [this]
          rw [this, ints_rows]
        have hk : k = es.length := by omega
        have hE : Upto E es.length k (endF es) := ⟨hE.1, fun m hm => by rw [hE.2 m hm, hk, endV_all es hB]⟩
        exact ⟨hsx, _, _, _, rfl, fin _ _ _ (by omega) (by omega) cE hE, fin _ _ _ (by omega) (by omega) cU hU, fin _ _ _ (by omega) (by omega) cD hD⟩
      have t1 : ((k : Int) < es.length) = True := eq_true (by omega)
      have rB := h.ext hx
      have f1 := rB.isTup; have f2 := rB.len; have f3 := rB.lenOk ty29; have f0 := rB.one
      have f4 := fun hp => rB.con hp
      have f5 := rB.idx (T := ty Try.prog) (t := 29) (by simp only [elemI, sizeO, ty3, ty4, ty9, ty29, ty58])
      have f6 := rB.loadD evC_len evZ
      have g6 := f6 k hlt
      have n1 := fun fl H => run_isColl (es.getD k evZ) fl H
      have n2 := fun fl H => run_isNode (es.getD k evZ) fl H
      obtain ⟨kb, g, hu, hcb, hkb⟩ := hS
      subst hu
      have lE : (ints E).length = es.length := by rw [ints_len, hE.1]
      have lU : (ints U).length = es.length := by rw [ints_len, hU.1]
      have lD : (ints D).length = es.length := by rw [ints_len, hD.1]
      have lE2 : ∀ i x, (ints (E.set i x)).length = es.length := fun i x => by rw [ints_len, List.length_set, hE.1]
      have lU2 : ∀ i x, (ints (U.set i x)).length = es.length := fun i x => by rw [ints_len, List.length_set, hU.1]
      have lD2 : ∀ i x, (ints (D.set i x)).length = es.length := fun i x => by rw [ints_len, List.length_set, hD.1]
      have hslen := stk_len es k
      have hkB := cellsAt_lt hcb
      have hcb3 : ∀ x y z, LH.cellsAt (((B.set (H.length + 2) x).set (H.length + 3) y).set (H.length + 1) z) kb = some (ints ((stk es k).map Int.ofNat) ++ g) := fun x y z => by
        rw [cellsAt_set_ne (by omega), cellsAt_set_ne (by omega), cellsAt_set_ne (by omega)]; exact hcb
      have hcb1 : ∀ x L, LH.cellsAt (B.set (H.length + 2) x ++ L) kb = some (ints ((stk es k).map Int.ofNat) ++ g) := fun x L => cellsAt_left (by rw [cellsAt_set_ne (by omega)]; exact hcb)
      have hcb2 : ∀ x y z L, LH.cellsAt (((B.set (H.length + 2) x).set (H.length + 3) y).set (H.length + 1) z ++ L) kb = some (ints ((stk es k).map Int.ofNat) ++ g) := fun x y z L => cellsAt_left (hcb3 x y z)
      have q3 : ∀ x y z L, LH.cellsAt (((B.set (H.length + 2) x).set (H.length + 3) y).set (H.length + 1) z ++ L) B.length = LH.cellsAt L 0 := fun x y z L => cellsAt_at (by simp only [List.length_set])
      have q5 : ∀ x y z L i, LH.cellsAt (((B.set (H.length + 2) x).set (H.length + 3) y).set (H.length + 1) z ++ L) (B.length + i) = LH.cellsAt L i := fun x y z L i => by
        have := cellsAt_app (((B.set (H.length + 2) x).set (H.length + 3) y).set (H.length + 1) z) L i
        simpa only [List.length_set] using this
      have q2 : ∀ x L, LH.cellsAt (B.set (H.length + 2) x ++ L) B.length = LH.cellsAt L 0 := fun x L => cellsAt_at (by simp only [List.length_set])
      have q4 : ∀ x y z w L i, LH.cellsAt ((((B.set (H.length + 2) x).set (H.length + 3) y).set (H.length + 1) z).set kb w ++ L) (B.length + i) = LH.cellsAt L i := fun x y z w L i => by
        have := cellsAt_app ((((B.set (H.length + 2) x).set (H.length + 3) y).set (H.length + 1) z).set kb w) L i
        simpa only [List.length_set] using this
      have q6 : ∀ x y z w L, LH.cellsAt ((((B.set (H.length + 2) x).set (H.length + 3) y).set (H.length + 1) z).set kb (.cells w) ++ L) kb = some w := fun x y z w L => cellsAt_left (cellsAt_set (by simp only [List.length_set]; exact hkB))
      have l3 : ∀ x y z, (((B.set (H.length + 2) x).set (H.length + 3) y).set (H.length + 1) z).length = B.length := fun x y z => by simp only [List.length_set]
      -- the next round's facts
      have nU : ∀ x, upF es k = x → Upto (U.set k x) es.length (k + 1) (upF es) := fun x hx => hU.set hlt hlt hx (fun m h1 h2 => ⟨by omega, rfl⟩)
      have nD : ∀ x, (docGo es (k + 1) : Int) = x → Upto (D.set k x) es.length (k + 1) (fun i => (docGo es (i + 1) : Int)) := fun x hx => hD.set hlt hlt hx (fun m h1 h2 => ⟨by omega, rfl⟩)
      have frA : ∀ x y z L, Fr (H.length + 5) [H.length + 1, H.length + 2, H.length + 3] B (((B.set (H.length + 2) x).set (H.length + 3) y).set (H.length + 1) z ++ L) := fun x y z L =>
        (Fr.set (.inl (by simp))).trans ((Fr.set (.inl (by simp))).trans ((Fr.set (.inl (by simp))).trans (Fr.app (by simp only [List.length_set]; omega))))
      have frB : ∀ x y z w L, Fr (H.length + 5) [H.length + 1, H.length + 2, H.length + 3] B ((((B.set (H.length + 2) x).set (H.length + 3) y).set (H.length + 1) z).set kb w ++ L) := fun x y z w L =>
        (Fr.set (.inl (by simp))).trans ((Fr.set (.inl (by simp))).trans ((Fr.set (.inl (by simp))).trans ((Fr.set (.inr hkb)).trans (Fr.app (by simp only [List.length_set]; omega)))))
      have nx : ∀ (B' : LH), Fr (H.length + 5) [H.length + 1, H.length + 2, H.length + 3] B B' → Hx H B' ∧ H.length + 6 ≤ B'.length ∧ (∃ cs, B'.cellsAt H.length = some cs ∧ cs.length = 4) ∧ B'.cellsAt (H.length + 4) = some [v, .sl (H.length + 1) 0 1 es.length es.length, .sl (H.length + 2) 0 1 es.length es.length, .sl (H.length + 3) 0 1 es.length es.length] := fun B' hf =>
        ⟨hf.hx hx (by omega) (fun b hb => by simp at hb; omega), by have := hf.len; omega, ⟨cs0, hf.cells c0 (by omega) (by simp), hcs0⟩, hf.cells c4 (by omega) (by simp)⟩
      have xA : ∀ x y z L, LH.cellsAt (((B.set (H.length + 2) (.cells x)).set (H.length + 3) (.cells y)).set (H.length + 1) (.cells z) ++ L) (H.length + 1) = some z ∧ LH.cellsAt (((B.set (H.length + 2) (.cells x)).set (H.length + 3) (.cells y)).set (H.length + 1) (.cells z) ++ L) (H.length + 2) = some x ∧ LH.cellsAt (((B.set (H.length + 2) (.cells x)).set (H.length + 3) (.cells y)).set (H.length + 1) (.cells z) ++ L) (H.length + 3) = some y := fun x y z L =>
        ⟨cellsAt_left (cellsAt_set (by simp only [List.length_set]; omega)), cellsAt_left (by rw [cellsAt_set_ne (by omega), cellsAt_set_ne (by omega), cellsAt_set (by omega)]), cellsAt_left (by rw [cellsAt_set_ne (by omega), cellsAt_set (by simp only [List.length_set]; omega)])⟩
      have xB : ∀ x y z w L, LH.cellsAt ((((B.set (H.length + 2) (.cells x)).set (H.length + 3) (.cells y)).set (H.length + 1) (.cells z)).set kb w ++ L) (H.length + 1) = some z ∧ LH.cellsAt ((((B.set (H.length + 2) (.cells x)).set (H.length + 3) (.cells y)).set (H.length + 1) (.cells z)).set kb w ++ L) (H.length + 2) = some x ∧ LH.cellsAt ((((B.set (H.length + 2) (.cells x)).set (H.length + 3) (.cells y)).set (H.length + 1) (.cells z)).set kb w ++ L) (H.length + 3) = some y := fun x y z w L =>
        ⟨cellsAt_left (by rw [cellsAt_set_ne (by omega)]; exact cellsAt_set (by simp only [List.length_set]; omega)), cellsAt_left (by rw [cellsAt_set_ne (by omega), cellsAt_set_ne (by omega), cellsAt_set_ne (by omega), cellsAt_set (by omega)]), cellsAt_left (by rw [cellsAt_set_ne (by omega), cellsAt_set_ne (by omega), cellsAt_set (by simp only [List.length_set]; omega)])⟩
      have hup : upF es k = if stk es k = [] then -1 else (((stk es k).getD ((stk es k).length - 1) 0 : Nat) : Int) := upF_stk es hB (by omega)
      have hdoc : (docGo es (k + 1) : Int) = if (es.getD k evZ).kind = 2 then (k : Int) else dd := by
        rw [hd]
        show ((if kd es k = 2 then k else docGo es k : Nat) : Int) = _
        by_cases h2 : kd es k = 2
        · rw [if_pos h2, if_pos h2]
        · rw [if_neg h2, if_neg h2]
      -- the stack has one more, or is as it was
      have ints_app : ∀ (s : List Nat), ints (s.map Int.ofNat) ++ [V.int .i64 (k : Int)] = ints ((s ++ [k]).map Int.ofNat) := fun s => by simp [ints]
      have go := fun (dd' : Int) u (B' : LH) (E' U' D' : List Int) x0 x6 x7 x8 x24 x35 x47 x58 x65 x84 hfr (hx : _ ∧ _ ∧ _) hE hU hD hS hd' => ih (k + 1) ((k : Int) + 1) dd' u B' E' U' D' x0 x6 x7 x8 x24 x35 x47 x58 x65 x84 (by omega) (by omega) (by omega) (nx B' hfr).1 (nx B' hfr).2.1 (nx B' hfr).2.2.1 (nx B' hfr).2.2.2 hx.1 hx.2.1 hx.2.2 hE hU hD hS hd'
      by_cases hC : isC (evA es k)
      · rw [decide_eq_true hC] at n1
        have hC2 : (es.getD k evZ).kind = 3 ∨ (es.getD k evZ).kind = 4 := hC
        have h2 : ¬ (es.getD k evZ).kind = 2 := by omega
        rw [if_neg h2] at hdoc
        have hs1 : stk es (k + 1) = stk es k ++ [k] := if_pos hC
        have nE : Upto (E.set k (-1)) es.length (k + 1) (endV es (k + 1)) := hE.set hlt hlt (by rw [endV_C es hC (by omega), if_pos rfl]) (fun m h1 h3 => ⟨by omega, by rw [endV_C es hC (by omega), if_neg h3]⟩)
        have hl1 : (stk es (k + 1)).length = (stk es k).length + 1 := by rw [hs1, List.length_append]; rfl
        have hi1 : ints ((stk es (k + 1)).map Int.ofNat) = ints ((stk es k).map Int.ofNat) ++ [V.int .i64 (k : Int)] := by rw [hs1, ints_app]
        have hW : (ints ((stk es k).map Int.ofNat)).length = (stk es k).length := by simp [ints]
        clear hC hC2 hs1 ints_app
        cases g with
        | nil =>
          have hn1 : ∀ (B' : LH), LH.cellsAt B' (B.length + 2) = some (ints ((stk es k).map Int.ofNat) ++ [V.int .i64 (k : Int)]) → StA (H.length + 5) B' (.sl (B.length + 2) 0 1 ((stk es k).length + 1) ((stk es k).length + 1)) (stk es (k + 1)) := fun B' hb =>
            ⟨B.length + 2, [], by rw [hl1]; rfl, by rw [hi1, List.append_nil]; exact hb, by omega⟩
          have ap := fun x y z L t => push_full (fl := H.length) (L := L) (x := t) (n := (stk es k).length) (hcb3 x y z) (by rw [List.append_nil]; exact hW) (by omega) (by omega)
          by_cases hne : stk es k = []
          · rw [if_pos hne] at hup
            generalize stk es k = S at *
            subst hne
            simp only [List.append_nil, List.length_nil, Nat.add_zero, List.map_nil] at *
            unfold run evC at *
            rw [zEv_round hc, ← hR]
            simp (config := {contextual := true, maxSteps := 10000000, implicitDefEqProofs := false}) (disch := first | (and_intros <;> omega -splitDisjunctions) | (simp only [List.length_set, List.length_append, List.length_cons, List.length_nil]; and_intros <;> omega -splitDisjunctions) | fail) only [t1, h2, ap, g6, n1, n2, q2, q3, q4, q5, q6, l3, c4, cE, cU, cD, lE, lU, lD, lE2, lU2, lD2, ints_set, List.set_set, Nat.sub_zero, f0, f1, f2, f3, f4, f5, f6, cellsAt_set, cellsAt_set_ne, cellsAt_old, set_old, Try.f30, go_sem, ↓reduceIte, Nat.reduceEqDiff, Nat.reduceAdd, Nat.reduceMul, Nat.reduceLT, Nat.reduceLeDiff, reduceCtorEq, Int.reduceNe, Int.reduceEq, Int.reduceLT, Int.reduceLE, Int.reduceAdd, Int.reduceSub, Int.reduceMul, Int.reduceNeg, Int.reduceToNat, UInt8.reduceToNat, natLit, ty3, ty4, ty9, ty29, ty55, ty58, ty64]
            rw [hR]
            refine go _ _ _ _ _ _ _ _ _ _ _ _ _ _ _ _ (frB _ _ _ _ _) (xB _ _ _ _ _) nE (nU _ hup) (nD _ hdoc) (hn1 _ ?_) hdoc.symm
            rw [q4]; rfl
          · simp only [List.append_nil, List.length_nil, Nat.add_zero] at *
            obtain ⟨n, hn⟩ : ∃ n, (stk es k).length = n + 1 := ⟨(stk es k).length - 1, by have := List.length_pos_iff.2 hne; omega⟩
            have hnb : n + 1 ≤ 1048576 := by omega
            have p1 := fun g => ints_get (l := (stk es k).map Int.ofNat) (i := n) (by rw [List.length_map]; omega) g
            have p2 : (((stk es k).map Int.ofNat).getD n 0) = (((stk es k).getD n 0 : Nat) : Int) := by
              rw [List.getD_eq_getElem?_getD, List.getD_eq_getElem?_getD, List.getElem?_map, List.getElem?_eq_getElem (by omega)]; rfl
            rw [if_neg hne, hn, Nat.add_sub_cancel] at hup
            rw [p2] at p1
            generalize (stk es k).getD n 0 = T at *
            generalize stk es k = S at *
            have t3 : ((((n : Nat) + 1 : Nat) : Int) > 0) = True := eq_true (by omega)
            have t4 : ((((n : Nat) + 1 : Nat) : Int) - 1).toNat = n := by omega
            have p3 := p1 []
            rw [List.append_nil] at p3
            have hWl : (ints (S.map Int.ofNat)).length = n + 1 := by simp [ints, hn]
            have hWg : ∀ g, (ints (S.map Int.ofNat) ++ g).length = n + 1 + g.length := fun g => by rw [List.length_append, hWl]
            have hq : PLift (S.length = n + 1) := ⟨hn⟩
            simp only [hn] at *
            unfold run evC at *
            rw [zEv_round hc, ← hR]
            simp (config := {contextual := true, maxSteps := 10000000, implicitDefEqProofs := false}) (disch := first | (and_intros <;> omega -splitDisjunctions) | (simp only [List.length_set, List.length_append, List.length_cons, List.length_nil]; and_intros <;> omega -splitDisjunctions) | fail) only [t1, h2, ap, t3, t4, p1, p3, hWl, hcb1, g6, n1, n2, q2, q3, q4, q5, q6, l3, c4, cE, cU, cD, lE, lU, lD, lE2, lU2, lD2, ints_set, List.set_set, Nat.sub_zero, f0, f1, f2, f3, f4, f5, f6, cellsAt_set, cellsAt_set_ne, cellsAt_old, set_old, Try.f30, go_sem, ↓reduceIte, Nat.reduceEqDiff, Nat.reduceAdd, Nat.reduceMul, Nat.reduceLT, Nat.reduceLeDiff, reduceCtorEq, Int.reduceNe, Int.reduceEq, Int.reduceLT, Int.reduceLE, Int.reduceAdd, Int.reduceSub, Int.reduceMul, Int.reduceNeg, Int.reduceToNat, UInt8.reduceToNat, natLit, ty3, ty4, ty9, ty29, ty55, ty58, ty64]
            rw [hR]
            refine go _ _ _ _ _ _ _ _ _ _ _ _ _ _ _ _ (frB _ _ _ _ _) (xB _ _ _ _ _) nE (nU _ hup) (nD _ hdoc) (hn1 _ ?_) hdoc.symm
            rw [q4]; rfl
        | cons y g =>
          have hn1 : ∀ (B' : LH), LH.cellsAt B' kb = some (ints ((stk es k).map Int.ofNat) ++ V.int .i64 (k : Int) :: g) → StA (H.length + 5) B' (.sl kb 0 1 ((stk es k).length + 1) ((stk es k).length + (g.length + 1))) (stk es (k + 1)) := fun B' hb =>
            ⟨kb, g, by rw [hl1, show (stk es k).length + 1 + g.length = (stk es k).length + (g.length + 1) by omega], by rw [hi1, List.append_assoc]; exact hb, hkb⟩
          have ap := fun x y' z L t => push_room (fl := H.length) (L := L) (x := t) (n := (stk es k).length) (y := y) (g := g) (hcb3 x y' z) hW (by omega)
          by_cases hne : stk es k = []
          · rw [if_pos hne] at hup
            generalize stk es k = S at *
            subst hne
            simp only [List.length_cons, List.length_nil, Nat.zero_add, List.map_nil] at *
            unfold run evC at *
            rw [zEv_round hc, ← hR]
            simp (config := {contextual := true, maxSteps := 10000000, implicitDefEqProofs := false}) (disch := first | (and_intros <;> omega -splitDisjunctions) | (simp only [List.length_set, List.length_append, List.length_cons, List.length_nil]; and_intros <;> omega -splitDisjunctions) | fail) only [t1, h2, ap, g6, n1, n2, q2, q3, q4, q5, q6, l3, c4, cE, cU, cD, lE, lU, lD, lE2, lU2, lD2, ints_set, List.set_set, Nat.sub_zero, f0, f1, f2, f3, f4, f5, f6, cellsAt_set, cellsAt_set_ne, cellsAt_old, set_old, Try.f30, go_sem, ↓reduceIte, Nat.reduceEqDiff, Nat.reduceAdd, Nat.reduceMul, Nat.reduceLT, Nat.reduceLeDiff, reduceCtorEq, Int.reduceNe, Int.reduceEq, Int.reduceLT, Int.reduceLE, Int.reduceAdd, Int.reduceSub, Int.reduceMul, Int.reduceNeg, Int.reduceToNat, UInt8.reduceToNat, natLit, ty3, ty4, ty9, ty29, ty55, ty58, ty64]
            rw [hR]
            refine go _ _ _ _ _ _ _ _ _ _ _ _ _ _ _ _ (frB _ _ _ _ _) (xB _ _ _ _ _) nE (nU _ hup) (nD _ hdoc) (hn1 _ ?_) hdoc.symm
            rw [q6]
          · simp only [List.length_cons] at *
            obtain ⟨n, hn⟩ : ∃ n, (stk es k).length = n + 1 := ⟨(stk es k).length - 1, by have := List.length_pos_iff.2 hne; omega⟩
            have hnb : n + 1 ≤ 1048576 := by omega
            have p1 := fun g => ints_get (l := (stk es k).map Int.ofNat) (i := n) (by rw [List.length_map]; omega) g
            have p2 : (((stk es k).map Int.ofNat).getD n 0) = (((stk es k).getD n 0 : Nat) : Int) := by
              rw [List.getD_eq_getElem?_getD, List.getD_eq_getElem?_getD, List.getElem?_map, List.getElem?_eq_getElem (by omega)]; rfl
            rw [if_neg hne, hn, Nat.add_sub_cancel] at hup
            rw [p2] at p1
            generalize (stk es k).getD n 0 = T at *
            generalize stk es k = S at *
            have t3 : ((((n : Nat) + 1 : Nat) : Int) > 0) = True := eq_true (by omega)
            have t4 : ((((n : Nat) + 1 : Nat) : Int) - 1).toNat = n := by omega
            have p3 := p1 []
            rw [List.append_nil] at p3
            have hWl : (ints (S.map Int.ofNat)).length = n + 1 := by simp [ints, hn]
            have hWg : ∀ g, (ints (S.map Int.ofNat) ++ g).length = n + 1 + g.length := fun g => by rw [List.length_append, hWl]
            have hq : PLift (S.length = n + 1) := ⟨hn⟩
            simp only [hn] at *
            unfold run evC at *
            rw [zEv_round hc, ← hR]
            simp (config := {contextual := true, maxSteps := 10000000, implicitDefEqProofs := false}) (disch := first | (and_intros <;> omega -splitDisjunctions) | (simp only [List.length_set, List.length_append, List.length_cons, List.length_nil]; and_intros <;> omega -splitDisjunctions) | fail) only [t1, h2, ap, t3, t4, p1, p3, hWl, hWg, hcb1, g6, n1, n2, q2, q3, q4, q5, q6, l3, c4, cE, cU, cD, lE, lU, lD, lE2, lU2, lD2, ints_set, List.set_set, Nat.sub_zero, f0, f1, f2, f3, f4, f5, f6, cellsAt_set, cellsAt_set_ne, cellsAt_old, set_old, Try.f30, go_sem, ↓reduceIte, Nat.reduceEqDiff, Nat.reduceAdd, Nat.reduceMul, Nat.reduceLT, Nat.reduceLeDiff, reduceCtorEq, Int.reduceNe, Int.reduceEq, Int.reduceLT, Int.reduceLE, Int.reduceAdd, Int.reduceSub, Int.reduceMul, Int.reduceNeg, Int.reduceToNat, UInt8.reduceToNat, natLit, ty3, ty4, ty9, ty29, ty55, ty58, ty64]
            rw [hR]
            refine go _ _ _ _ _ _ _ _ _ _ _ _ _ _ _ _ (frB _ _ _ _ _) (xB _ _ _ _ _) nE (nU _ hup) (nD _ hdoc) (hn1 _ ?_) hdoc.symm
            rw [q6]
      · rw [decide_eq_false hC] at n1
        by_cases h7 : (es.getD k evZ).kind = 7
        · have hs1 : stk es (k + 1) = (stk es k).dropLast := by show (if _ then _ else _) = _; rw [if_neg hC, if_pos h7]
          have hne := hB k hlt h7
          rw [if_neg (by omega)] at hdoc
          have hkT : ∀ n, (stk es k).length = n + 1 → (stk es k).getD n 0 < k := fun n hn => by rw [getD_of (show n < (stk es k).length by omega)]; exact stk_lt es k _ (List.getElem_mem _)
          have nE : ∀ n, (stk es k).length = n + 1 → Upto ((E.set k (-1)).set ((stk es k).getD n 0) k) es.length (k + 1) (endV es (k + 1)) := fun n hn => by
            have hT := hkT n hn
            have h7' := fun m (hm : m < k + 1) => endV_7 es hB hlt h7 hm
            rw [hn, Nat.add_sub_cancel] at h7'
            generalize (stk es k).getD n 0 = T at *
            have hE1 : Upto (E.set k (-1)) es.length (k + 1) (fun j => if j = k then -1 else endV es k j) := hE.set hlt hlt (if_pos rfl) (fun m h1 h3 => ⟨by omega, if_neg h3⟩)
            refine ⟨by rw [List.length_set]; exact hE1.1, fun m hm => ?_⟩
            rw [h7' m hm, List.getD_eq_getElem?_getD, List.getElem?_set]
            by_cases e : T = m
            · rw [if_pos e, if_pos (by rw [hE1.1]; omega), if_pos e.symm]; rfl
            · rw [if_neg e, if_neg (fun h => e h.symm), ← List.getD_eq_getElem?_getD, hE1.2 m hm]
          have hn1 : ∀ n, (stk es k).length = n + 1 → ∀ (B' : LH), LH.cellsAt B' kb = some (ints ((stk es k).map Int.ofNat) ++ g) → StA (H.length + 5) B' (.sl kb 0 1 n (n + 1 + g.length)) (stk es (k + 1)) := fun n hn B' hb => by
            have hsp := List.dropLast_concat_getLast hne
            refine ⟨kb, ints [Int.ofNat ((stk es k).getLast hne)] ++ g, ?_, ?_, hkb⟩
            · rw [hs1, List.length_dropLast, hn, List.length_append, ints_len]; simp only [Nat.add_sub_cancel, List.length_singleton]; rw [show n + 1 + g.length = n + (1 + g.length) by omega]
            · rw [hb, hs1]
              conv => lhs; rw [← hsp]
              simp [ints]
          clear hs1
          obtain ⟨n, hn⟩ : ∃ n, (stk es k).length = n + 1 := ⟨(stk es k).length - 1, by have := List.length_pos_iff.2 hne; omega⟩
          have hnb : n + 1 ≤ 1048576 := by omega
          have p1 := fun g => ints_get (l := (stk es k).map Int.ofNat) (i := n) (by rw [List.length_map]; omega) g
          have p2 : (((stk es k).map Int.ofNat).getD n 0) = (((stk es k).getD n 0 : Nat) : Int) := by
            rw [List.getD_eq_getElem?_getD, List.getD_eq_getElem?_getD, List.getElem?_map, List.getElem?_eq_getElem (by omega)]; rfl
          rw [if_neg hne, hn, Nat.add_sub_cancel] at hup
          rw [p2] at p1
          have nE1 := nE n hn
          have hn2 := hn1 n hn
          have hkT1 := hkT n hn
          clear nE hn1 hkT
          generalize (stk es k).getD n 0 = T at *
          generalize stk es k = S at *
          have t3 : ((((n : Nat) + 1 : Nat) : Int) > 0) = True := eq_true (by omega)
          have t4 : ((((n : Nat) + 1 : Nat) : Int) - 1).toNat = n := by omega
          have p3 := p1 []
          rw [List.append_nil] at p3
          have hWl : (ints (S.map Int.ofNat)).length = n + 1 := by simp [ints, hn]
          have hWg : ∀ g, (ints (S.map Int.ofNat) ++ g).length = n + 1 + g.length := fun g => by rw [List.length_append, hWl]
          have hq : PLift (S.length = n + 1) := ⟨hn⟩
          simp only [hn] at *
          have hTl : (T : Int) < es.length := by omega
          have hTn : T + 1 ≤ es.length := by omega
          unfold run evC at *
          simp only [h7] at n1 n2 g6
          rw [zEv_round hc, ← hR]
          simp (config := {contextual := true, maxSteps := 10000000, implicitDefEqProofs := false}) (disch := first | (and_intros <;> omega -splitDisjunctions) | (simp only [List.length_set, List.length_append, List.length_cons, List.length_nil]; and_intros <;> omega -splitDisjunctions) | fail) only [t1, t3, t4, p1, p3, hWl, hWg, hcb1, hcb2, hTn, g6, n1, n2, q2, q3, q4, q5, q6, l3, c4, cE, cU, cD, lE, lU, lD, lE2, lU2, lD2, ints_set, List.set_set, Nat.sub_zero, f0, f1, f2, f3, f4, f5, f6, cellsAt_set, cellsAt_set_ne, cellsAt_old, set_old, Try.f30, go_sem, ↓reduceIte, Nat.reduceEqDiff, Nat.reduceAdd, Nat.reduceMul, Nat.reduceLT, Nat.reduceLeDiff, reduceCtorEq, Int.reduceNe, Int.reduceEq, Int.reduceLT, Int.reduceLE, Int.reduceAdd, Int.reduceSub, Int.reduceMul, Int.reduceNeg, Int.reduceToNat, UInt8.reduceToNat, natLit, ty3, ty4, ty9, ty29, ty55, ty58, ty64]
          rw [hR]
          refine go _ _ _ _ _ _ _ _ _ _ _ _ _ _ _ _ (frA _ _ _ _) (xA _ _ _ _) nE1 (nU _ hup) (nD _ hdoc) (hn2 _ ?_) hdoc.symm
          rw [hcb2]
        have hs1 : stk es (k + 1) = stk es k := by show (if _ then _ else _) = _; rw [if_neg hC, if_neg h7]
        have hn1 : ∀ (B' : LH), LH.cellsAt B' kb = some (ints ((stk es k).map Int.ofNat) ++ g) → StA (H.length + 5) B' (.sl kb 0 1 (stk es k).length ((stk es k).length + g.length)) (stk es (k + 1)) := fun B' hb => by
          rw [hs1]; exact ⟨kb, g, rfl, hb, hkb⟩
        by_cases hN : isN (evA es k)
        · rw [decide_eq_true hN] at n2
          have h2 : ¬ (es.getD k evZ).kind = 2 := by have : 3 ≤ (es.getD k evZ).kind ∧ (es.getD k evZ).kind ≤ 6 := hN; omega
          rw [if_neg h2] at hdoc
          have nE : Upto (E.set k k) es.length (k + 1) (endV es (k + 1)) := hE.set hlt hlt (by rw [endV_O es hlt hC h7 (by omega), if_pos rfl, if_pos hN]) (fun m h1 h3 => ⟨by omega, by rw [endV_O es hlt hC h7 (by omega), if_neg h3]⟩)
          clear hs1 ints_app
          by_cases hne : stk es k = []
          · rw [if_pos hne] at hup
            generalize stk es k = S at *
            subst hne
            simp only [List.length_nil, Nat.zero_add, List.map_nil] at *
            unfold run evC at *
            rw [zEv_round hc, ← hR]
            simp (config := {contextual := true, maxSteps := 10000000, implicitDefEqProofs := false}) (disch := first | (and_intros <;> omega -splitDisjunctions) | (simp only [List.length_set, List.length_append, List.length_cons, List.length_nil]; and_intros <;> omega -splitDisjunctions) | fail) only [t1, h2, h7, g6, n1, n2, q2, q3, q4, q5, q6, l3, c4, cE, cU, cD, lE, lU, lD, lE2, lU2, lD2, ints_set, List.set_set, Nat.sub_zero, f0, f1, f2, f3, f4, f5, f6, cellsAt_set, cellsAt_set_ne, cellsAt_old, set_old, Try.f30, go_sem, ↓reduceIte, Nat.reduceEqDiff, Nat.reduceAdd, Nat.reduceMul, Nat.reduceLT, Nat.reduceLeDiff, reduceCtorEq, Int.reduceNe, Int.reduceEq, Int.reduceLT, Int.reduceLE, Int.reduceAdd, Int.reduceSub, Int.reduceMul, Int.reduceNeg, Int.reduceToNat, UInt8.reduceToNat, natLit, ty3, ty4, ty9, ty29, ty55, ty58, ty64]
            rw [hR]
            refine go _ _ _ _ _ _ _ _ _ _ _ _ _ _ _ _ (frA _ _ _ _) (xA _ _ _ _) nE (nU _ hup) (nD _ hdoc) (hn1 _ ?_) hdoc.symm
            rw [hcb2]
          · skip
            obtain ⟨n, hn⟩ : ∃ n, (stk es k).length = n + 1 := ⟨(stk es k).length - 1, by have := List.length_pos_iff.2 hne; omega⟩
            have hnb : n + 1 ≤ 1048576 := by omega
            have p1 := fun g => ints_get (l := (stk es k).map Int.ofNat) (i := n) (by rw [List.length_map]; omega) g
            have p2 : (((stk es k).map Int.ofNat).getD n 0) = (((stk es k).getD n 0 : Nat) : Int) := by
              rw [List.getD_eq_getElem?_getD, List.getD_eq_getElem?_getD, List.getElem?_map, List.getElem?_eq_getElem (by omega)]; rfl
            rw [if_neg hne, hn, Nat.add_sub_cancel] at hup
            rw [p2] at p1
            generalize (stk es k).getD n 0 = T at *
            generalize stk es k = S at *
            have t3 : ((((n : Nat) + 1 : Nat) : Int) > 0) = True := eq_true (by omega)
            have t4 : ((((n : Nat) + 1 : Nat) : Int) - 1).toNat = n := by omega
            have p3 := p1 []
            rw [List.append_nil] at p3
            have hWl : (ints (S.map Int.ofNat)).length = n + 1 := by simp [ints, hn]
            have hWg : ∀ g, (ints (S.map Int.ofNat) ++ g).length = n + 1 + g.length := fun g => by rw [List.length_append, hWl]
            have hq : PLift (S.length = n + 1) := ⟨hn⟩
            simp only [hn] at *
            unfold run evC at *
            rw [zEv_round hc, ← hR]
            simp (config := {contextual := true, maxSteps := 10000000, implicitDefEqProofs := false}) (disch := first | (and_intros <;> omega -splitDisjunctions) | (simp only [List.length_set, List.length_append, List.length_cons, List.length_nil]; and_intros <;> omega -splitDisjunctions) | fail) only [t1, h2, h7, t3, t4, p1, p3, hWl, hWg, hcb1, g6, n1, n2, q2, q3, q4, q5, q6, l3, c4, cE, cU, cD, lE, lU, lD, lE2, lU2, lD2, ints_set, List.set_set, Nat.sub_zero, f0, f1, f2, f3, f4, f5, f6, cellsAt_set, cellsAt_set_ne, cellsAt_old, set_old, Try.f30, go_sem, ↓reduceIte, Nat.reduceEqDiff, Nat.reduceAdd, Nat.reduceMul, Nat.reduceLT, Nat.reduceLeDiff, reduceCtorEq, Int.reduceNe, Int.reduceEq, Int.reduceLT, Int.reduceLE, Int.reduceAdd, Int.reduceSub, Int.reduceMul, Int.reduceNeg, Int.reduceToNat, UInt8.reduceToNat, natLit, ty3, ty4, ty9, ty29, ty55, ty58, ty64]
            rw [hR]
            refine go _ _ _ _ _ _ _ _ _ _ _ _ _ _ _ _ (frA _ _ _ _) (xA _ _ _ _) nE (nU _ hup) (nD _ hdoc) (hn1 _ ?_) hdoc.symm
            rw [hcb2]
        rw [decide_eq_false hN] at n2
        have nE : Upto (E.set k (-1)) es.length (k + 1) (endV es (k + 1)) := hE.set hlt hlt (by rw [endV_O es hlt hC h7 (by omega), if_pos rfl, if_neg hN]) (fun m h1 h3 => ⟨by omega, by rw [endV_O es hlt hC h7 (by omega), if_neg h3]⟩)
        clear hs1 ints_app
        by_cases h2 : (es.getD k evZ).kind = 2
        · rw [if_pos h2] at hdoc
          by_cases hne : stk es k = []
          · rw [if_pos hne] at hup
            generalize stk es k = S at *
            subst hne
            simp only [List.length_nil, Nat.zero_add, List.map_nil] at *
            unfold run evC at *
            simp only [h2] at n1 n2 g6
            rw [zEv_round hc, ← hR]
            simp (config := {contextual := true, maxSteps := 10000000, implicitDefEqProofs := false}) (disch := first | (and_intros <;> omega -splitDisjunctions) | (simp only [List.length_set, List.length_append, List.length_cons, List.length_nil]; and_intros <;> omega -splitDisjunctions) | fail) only [t1, hcb2, g6, n1, n2, q2, q3, q4, q5, q6, l3, c4, cE, cU, cD, lE, lU, lD, lE2, lU2, lD2, ints_set, List.set_set, Nat.sub_zero, f0, f1, f2, f3, f4, f5, f6, cellsAt_set, cellsAt_set_ne, cellsAt_old, set_old, Try.f30, go_sem, ↓reduceIte, Nat.reduceEqDiff, Nat.reduceAdd, Nat.reduceMul, Nat.reduceLT, Nat.reduceLeDiff, reduceCtorEq, Int.reduceNe, Int.reduceEq, Int.reduceLT, Int.reduceLE, Int.reduceAdd, Int.reduceSub, Int.reduceMul, Int.reduceNeg, Int.reduceToNat, UInt8.reduceToNat, natLit, ty3, ty4, ty9, ty29, ty55, ty58, ty64]
            rw [hR]
            refine go _ _ _ _ _ _ _ _ _ _ _ _ _ _ _ _ (frA _ _ _ _) (xA _ _ _ _) nE (nU _ hup) (nD _ hdoc) (hn1 _ ?_) hdoc.symm
            rw [hcb2]
          · skip
            obtain ⟨n, hn⟩ : ∃ n, (stk es k).length = n + 1 := ⟨(stk es k).length - 1, by have := List.length_pos_iff.2 hne; omega⟩
            have hnb : n + 1 ≤ 1048576 := by omega
            have p1 := fun g => ints_get (l := (stk es k).map Int.ofNat) (i := n) (by rw [List.length_map]; omega) g
            have p2 : (((stk es k).map Int.ofNat).getD n 0) = (((stk es k).getD n 0 : Nat) : Int) := by
              rw [List.getD_eq_getElem?_getD, List.getD_eq_getElem?_getD, List.getElem?_map, List.getElem?_eq_getElem (by omega)]; rfl
            rw [if_neg hne, hn, Nat.add_sub_cancel] at hup
            rw [p2] at p1
            generalize (stk es k).getD n 0 = T at *
            generalize stk es k = S at *
            have t3 : ((((n : Nat) + 1 : Nat) : Int) > 0) = True := eq_true (by omega)
            have t4 : ((((n : Nat) + 1 : Nat) : Int) - 1).toNat = n := by omega
            have p3 := p1 []
            rw [List.append_nil] at p3
            have hWl : (ints (S.map Int.ofNat)).length = n + 1 := by simp [ints, hn]
            have hWg : ∀ g, (ints (S.map Int.ofNat) ++ g).length = n + 1 + g.length := fun g => by rw [List.length_append, hWl]
            have hq : PLift (S.length = n + 1) := ⟨hn⟩
            simp only [hn] at *
            unfold run evC at *
            simp only [h2] at n1 n2 g6
            rw [zEv_round hc, ← hR]
            simp (config := {contextual := true, maxSteps := 10000000, implicitDefEqProofs := false}) (disch := first | (and_intros <;> omega -splitDisjunctions) | (simp only [List.length_set, List.length_append, List.length_cons, List.length_nil]; and_intros <;> omega -splitDisjunctions) | fail) only [t1, t3, t4, p1, p3, hWl, hWg, hcb1, g6, n1, n2, q2, q3, q4, q5, q6, l3, c4, cE, cU, cD, lE, lU, lD, lE2, lU2, lD2, ints_set, List.set_set, Nat.sub_zero, f0, f1, f2, f3, f4, f5, f6, cellsAt_set, cellsAt_set_ne, cellsAt_old, set_old, Try.f30, go_sem, ↓reduceIte, Nat.reduceEqDiff, Nat.reduceAdd, Nat.reduceMul, Nat.reduceLT, Nat.reduceLeDiff, reduceCtorEq, Int.reduceNe, Int.reduceEq, Int.reduceLT, Int.reduceLE, Int.reduceAdd, Int.reduceSub, Int.reduceMul, Int.reduceNeg, Int.reduceToNat, UInt8.reduceToNat, natLit, ty3, ty4, ty9, ty29, ty55, ty58, ty64]
            rw [hR]
            refine go _ _ _ _ _ _ _ _ _ _ _ _ _ _ _ _ (frA _ _ _ _) (xA _ _ _ _) nE (nU _ hup) (nD _ hdoc) (hn1 _ ?_) hdoc.symm
            rw [hcb2]
        · rw [if_neg h2] at hdoc
          by_cases hne : stk es k = []
          · rw [if_pos hne] at hup
            generalize stk es k = S at *
            subst hne
            simp only [List.length_nil, Nat.zero_add, List.map_nil] at *
            unfold run evC at *
            rw [zEv_round hc, ← hR]
            simp (config := {contextual := true, maxSteps := 10000000, implicitDefEqProofs := false}) (disch := first | (and_intros <;> omega -splitDisjunctions) | (simp only [List.length_set, List.length_append, List.length_cons, List.length_nil]; and_intros <;> omega -splitDisjunctions) | fail) only [t1, h2, h7, g6, n1, n2, q2, q3, q4, q5, q6, l3, c4, cE, cU, cD, lE, lU, lD, lE2, lU2, lD2, ints_set, List.set_set, Nat.sub_zero, f0, f1, f2, f3, f4, f5, f6, cellsAt_set, cellsAt_set_ne, cellsAt_old, set_old, Try.f30, go_sem, ↓reduceIte, Nat.reduceEqDiff, Nat.reduceAdd, Nat.reduceMul, Nat.reduceLT, Nat.reduceLeDiff, reduceCtorEq, Int.reduceNe, Int.reduceEq, Int.reduceLT, Int.reduceLE, Int.reduceAdd, Int.reduceSub, Int.reduceMul, Int.reduceNeg, Int.reduceToNat, UInt8.reduceToNat, natLit, ty3, ty4, ty9, ty29, ty55, ty58, ty64]
            rw [hR]
            refine go _ _ _ _ _ _ _ _ _ _ _ _ _ _ _ _ (frA _ _ _ _) (xA _ _ _ _) nE (nU _ hup) (nD _ hdoc) (hn1 _ ?_) hdoc.symm
            rw [hcb2]
          · skip
            obtain ⟨n, hn⟩ : ∃ n, (stk es k).length = n + 1 := ⟨(stk es k).length - 1, by have := List.length_pos_iff.2 hne; omega⟩
            have hnb : n + 1 ≤ 1048576 := by omega
            have p1 := fun g => ints_get (l := (stk es k).map Int.ofNat) (i := n) (by rw [List.length_map]; omega) g
            have p2 : (((stk es k).map Int.ofNat).getD n 0) = (((stk es k).getD n 0 : Nat) : Int) := by
              rw [List.getD_eq_getElem?_getD, List.getD_eq_getElem?_getD, List.getElem?_map, List.getElem?_eq_getElem (by omega)]; rfl
            rw [if_neg hne, hn, Nat.add_sub_cancel] at hup
            rw [p2] at p1
            generalize (stk es k).getD n 0 = T at *
            generalize stk es k = S at *
            have t3 : ((((n : Nat) + 1 : Nat) : Int) > 0) = True := eq_true (by omega)
            have t4 : ((((n : Nat) + 1 : Nat) : Int) - 1).toNat = n := by omega
            have p3 := p1 []
            rw [List.append_nil] at p3
            have hWl : (ints (S.map Int.ofNat)).length = n + 1 := by simp [ints, hn]
            have hWg : ∀ g, (ints (S.map Int.ofNat) ++ g).length = n + 1 + g.length := fun g => by rw [List.length_append, hWl]
            have hq : PLift (S.length = n + 1) := ⟨hn⟩
            simp only [hn] at *
            unfold run evC at *
            rw [zEv_round hc, ← hR]
            simp (config := {contextual := true, maxSteps := 10000000, implicitDefEqProofs := false}) (disch := first | (and_intros <;> omega -splitDisjunctions) | (simp only [List.length_set, List.length_append, List.length_cons, List.length_nil]; and_intros <;> omega -splitDisjunctions) | fail) only [t1, h2, h7, t3, t4, p1, p3, hWl, hWg, hcb1, g6, n1, n2, q2, q3, q4, q5, q6, l3, c4, cE, cU, cD, lE, lU, lD, lE2, lU2, lD2, ints_set, List.set_set, Nat.sub_zero, f0, f1, f2, f3, f4, f5, f6, cellsAt_set, cellsAt_set_ne, cellsAt_old, set_old, Try.f30, go_sem, ↓reduceIte, Nat.reduceEqDiff, Nat.reduceAdd, Nat.reduceMul, Nat.reduceLT, Nat.reduceLeDiff, reduceCtorEq, Int.reduceNe, Int.reduceEq, Int.reduceLT, Int.reduceLE, Int.reduceAdd, Int.reduceSub, Int.reduceMul, Int.reduceNeg, Int.reduceToNat, UInt8.reduceToNat, natLit, ty3, ty4, ty9, ty29, ty55, ty58, ty64]
            rw [hR]
            refine go _ _ _ _ _ _ _ _ _ _ _ _ _ _ _ _ (frA _ _ _ _) (xA _ _ _ _) nE (nU _ hup) (nD _ hdoc) (hn1 _ ?_) hdoc.symm
            rw [hcb2]
  have u0 : ∀ f, Upto (List.replicate es.length 0) es.length 0 f := fun f => ⟨List.length_replicate, fun m h => absurd h (Nat.not_lt_zero _)⟩
  exact key (es.length + 1) 0 0 0 (.sl (H.length + 5) 0 1 0 0) _ (List.replicate es.length 0) (List.replicate es.length 0) (List.replicate es.length 0) _ _ _ _ _ _ _ _ _ _ (by omega) rfl (by omega) Hx.app (by simp) ⟨_, by rw [cellsAt_app0]; rfl, rfl⟩ (by rw [cellsAt_app]; rfl) (by rw [cellsAt_app]; rfl) (by rw [cellsAt_app]; rfl) (by rw [cellsAt_app]; rfl)
    (u0 _) (u0 _) (u0 _) ⟨H.length + 5, [], rfl, by rw [cellsAt_app]; rfl, Nat.le_refl _⟩ rfl
end Go.Proofs.Ytcbjmggbbnpbpaa.Lg
namespace Go.Proofs.Ytcbjmggbbnpbpaa.Lg
set_option linter.unusedSimpArgs false
set_option linter.unusedVariables false
set_option maxRecDepth 100000
set_option maxHeartbeats 40000000
open Go.Proofs.Ytcbjmggbbnpbpaa

/-- the tables of nested events -/
structure NsAt (H : LH) (v ve vu vd : V) (es : List Ev) : Prop where
  l : At H evC 8 v es
  e : At H inI 1 ve ((List.range es.length).map (endF es))
  u : At H inI 1 vu ((List.range es.length).map (upF es))
  d : At H inI 1 vd ((List.range es.length).map (fun i => (docGo es (i + 1) : Int)))
theorem NsAt.ext {H B : LH} {v ve vu vd : V} {es : List Ev} (h : NsAt H v ve vu vd es) (hx : Hx H B) : NsAt B v ve vu vd es := ⟨h.l.ext hx, h.e.ext hx, h.u.ext hx, h.d.ext hx⟩
theorem rangeD {n k : Nat} {f : Nat → Int} (h : k < n) : ((List.range n).map f).getD k 0 = f k := by
  rw [getD_of (by simpa using h)]; simp
theorem NsAt.endL {H : LH} {v ve vu vd : V} {es : List Ev} (h : NsAt H v ve vu vd es) {k : Nat} (hk : k < es.length) (n : Nat) (K : LH) : cellO K false (offV ve + k) n (some (conV H ve)) = some (.int .i64 (endF es k), K) := by
  have := h.e.load1 0 (fun x => .int .i64 x) (fun _ => rfl) k (by simpa using hk) n K
  rwa [rangeD hk] at this
theorem run_has {H : LH} {v ve vu vd : V} {es : List Ev} (h : NsAt H v ve vu vd es) (hl : es.length ≤ 1048576) (i : Int) (fl : Nat) :
    run 80 [.agg [v, ve, vu, vd], .int .i64 i] fl H = some (.bool (decide (0 ≤ i) && decide (i ≤ (es.length : Int) - 1)), H) := by
  have e1 := fun x lo hi fl H => run_within x lo hi fl H
  have i1 := h.l.isTup; have i2 := h.l.len; have i3 := h.l.lenOk ty29; have i4 := h.l.one
  have j1 := h.e.one; have j2 := h.u.one; have j3 := h.d.one
  have j4 := h.e.isTup; have j5 := h.u.isTup; have j6 := h.d.isTup
  unfold run at *
  rw [Run_z Try.func80 rfl (by rfl : ok 80 = true) (by rfl : cfg.keep 80 = [0, 1, 2, 4]) (by rfl : cfg.mode 80 = .pure) (by rfl : cfg.ord 80 = [])]
  simp (config := {contextual := true, maxSteps := 10000000, implicitDefEqProofs := false}) (disch := first | (and_intros <;> omega -splitDisjunctions) | (simp only [List.length_set, List.length_append, List.length_cons, List.length_nil]; and_intros <;> omega -splitDisjunctions) | fail) only [i1, i2, i3, i4, j1, j2, j3, j4, j5, j6, e1, Try.f80, go_sem, ↓reduceIte, Nat.reduceEqDiff, Nat.reduceAdd, Nat.reduceMul, Nat.reduceLT, Nat.reduceLeDiff, reduceCtorEq, Int.reduceNe, Int.reduceEq, Int.reduceLT, Int.reduceLE, Int.reduceAdd, Int.reduceSub, Int.reduceMul, Int.reduceNeg, Int.reduceToNat, UInt8.reduceToNat, natLit, ty3, ty4, ty9, ty29, ty55, ty58, ty64]
theorem run_kidsOf {H : LH} {v ve vu vd : V} {es : List Ev} (h : NsAt H v ve vu vd es) (hl : es.length ≤ 1048576) {i : Nat} (hi : i < es.length) (fl : Nat) :
    Ret (fun w H' => Hx H H' ∧ Own H.length H' inN 1 w (kidsF es i)) (run 61 [.agg [v, ve, vu, vd], .int .i64 i] fl H) := by
  have n2 := fun e fl H => run_isColl e fl H
  rw [kidsF_A es i hi]
  have e1 := fun L fl => run_has (h.ext (Hx.app (L := L))) hl i fl
  have j1 := h.e.one; have j2 := h.u.one; have j3 := h.d.one
  have j4 := h.e.isTup; have j5 := h.u.isTup; have j6 := h.d.isTup
  have hv := h.l
  have f1 := hv.isTup; have f2 := hv.len; have f3 := hv.lenOk ty29; have f0 := hv.one
  have f4 := fun L hp => (hv.left (L := L)).con hp
  have f5 := hv.idx (T := ty Try.prog) (t := 29) (by simp only [elemI, sizeO, ty3, ty4, ty9, ty29, ty58])
  have f6 := fun L => (hv.left (L := L)).loadD evC_len evZ
  have f4 := fun L => (h.ext (Hx.app (L := L))).l.con (List.length_pos_iff.2 (by intro e; subst e; cases hi))
  have g6 := fun L K => f6 L i hi K
  have t1 : ((i : Int) ≥ 0) = True := eq_true (by omega)
  have t2 : (0 ≤ (i : Int)) = True := eq_true (by omega)
  have t3 : ((i : Int) ≤ (es.length : Int) - 1) = True := eq_true (by omega)
  unfold run at *
  rw [Run_z Try.func61 rfl (by rfl : ok 61 = true) (by rfl : cfg.keep 61 = [0, 1, 2, 4, 5, 6, 20, 36, 48]) (by rfl : cfg.mode 61 = .fresh) (by rfl : cfg.ord 61 = [])]
  by_cases hC : isC (evA es i)
  rotate_left
  · have d1 : decide (isC (es.getD i evZ)) = false := decide_eq_false hC
    simp (config := {contextual := true, maxSteps := 10000000, implicitDefEqProofs := false}) (disch := first | (and_intros <;> omega -splitDisjunctions) | (simp only [List.length_set, List.length_append, List.length_cons, List.length_nil]; and_intros <;> omega -splitDisjunctions) | fail) only [f0, f1, f2, f3, f4, f5, f6, g6, n2, d1, e1, t2, t3, j1, j2, j3, j4, j5, j6, Try.f61, go_sem, ↓reduceIte, Nat.reduceEqDiff, Nat.reduceAdd, Nat.reduceMul, Nat.reduceLT, Nat.reduceLeDiff, reduceCtorEq, Int.reduceNe, Int.reduceEq, Int.reduceLT, Int.reduceLE, Int.reduceAdd, Int.reduceSub, Int.reduceMul, Int.reduceNeg, Int.reduceToNat, UInt8.reduceToNat, natLit, ty3, ty4, ty9, ty29, ty55, ty58, ty64]
    rw [if_neg hC]
    exact ⟨Hx.app, .inr ⟨H.length + 1, rfl, by rw [cellsAt_app]; rfl, by omega⟩⟩
  have d1 : decide (isC (es.getD i evZ)) = true := decide_eq_true hC
  simp (config := {contextual := true, maxSteps := 10000000, implicitDefEqProofs := false}) (disch := first | (and_intros <;> omega -splitDisjunctions) | (simp only [List.length_set, List.length_append, List.length_cons, List.length_nil]; and_intros <;> omega -splitDisjunctions) | fail) only [f0, f1, f2, f3, f4, f5, f6, g6, n2, d1, e1, t2, t3, j1, j2, j3, j4, j5, j6, Try.f61, go_sem, ↓reduceIte, Nat.reduceEqDiff, Nat.reduceAdd, Nat.reduceMul, Nat.reduceLT, Nat.reduceLeDiff, reduceCtorEq, Int.reduceNe, Int.reduceEq, Int.reduceLT, Int.reduceLE, Int.reduceAdd, Int.reduceSub, Int.reduceMul, Int.reduceNeg, Int.reduceToNat, UInt8.reduceToNat, natLit, ty3, ty4, ty9, ty29, ty55, ty58, ty64]
  rw [if_pos hC]
  clear g6 f0 f1 f2 f3 f4 f5 f6 e1 j1 j2 j3 hv
  refine at_loopR fun c R hc hR => ?_
  have key : ∀ (m : Nat) (k : Nat) (kk : Int) (o : V) (xs : List Nat) (B : LH) (x0 x1 x4 x20 x36 x48 : Option V), es.length + 1 - k < m → kk = k → k ≤ es.length → Hx H B → B.cellsAt H.length = some [v, ve, vu, vd] → Own (H.length + 1) B inN 1 o xs → xs.length ≤ k → xs ++ kidsA es k = kidsA es (i + 1) →
      Ret (fun w H' => Hx H H' ∧ Own H.length H' inN 1 w (kidsA es (i + 1))) (zEv (leaveX (mkR Try.prog cfg ok [0, 1, 2, 4, 5, 6, 20, 36, 48] H.length) .fresh H [ResultVar.tmp 4]) (mkR Try.prog cfg ok [0, 1, 2, 4, 5, 6, 20, 36, 48] H.length) (K.code (Code.loop c) :: K.blk 0 :: R) .nrm [x0, x1, some (.ptr H.length 0), x4, some o, some (.int .i64 kk), x20, x36, x48] (B)) := by
    intro m
    induction m with
    | zero => intro k kk o xs B x0 x1 x4 x20 x36 x48 hm; omega
    | succ m ih =>
      intro k kk o xs B x0 x1 x4 x20 x36 x48 hm hk hkl hx c2 ho hlx hfin
      subst hk
      have hlB := hx.len
      have o1 := (ho.at inN_len).isTup; have o2 := (ho.at inN_len).one
      have rN := h.ext hx
      have rB := rN.l
      have f1 := rB.isTup; have f2 := rB.len; have f3 := rB.lenOk ty29; have f0 := rB.one
      have f4 := fun hp => rB.con hp
      have f5 := rB.idx (T := ty Try.prog) (t := 29) (by simp only [elemI, sizeO, ty3, ty4, ty9, ty29, ty58])
      have f6 := rB.loadD evC_len evZ
      by_cases hlt : k < es.length
      rotate_left
      · have t1 : ((k : Int) < es.length) = False := eq_false (by omega)
        rw [kidsA_end es (by omega), List.append_nil] at hfin
        rw [zEv_round hc, ← hR]
        simp (config := {contextual := true, maxSteps := 10000000, implicitDefEqProofs := false}) (disch := first | (and_intros <;> omega -splitDisjunctions) | (simp only [List.length_set, List.length_append, List.length_cons, List.length_nil]; and_intros <;> omega -splitDisjunctions) | fail) only [t1, c2, o1, o2, f0, f1, f2, f3, f4, f5, f6, Try.f61, go_sem, ↓reduceIte, Nat.reduceEqDiff, Nat.reduceAdd, Nat.reduceMul, Nat.reduceLT, Nat.reduceLeDiff, reduceCtorEq, Int.reduceNe, Int.reduceEq, Int.reduceLT, Int.reduceLE, Int.reduceAdd, Int.reduceSub, Int.reduceMul, Int.reduceNeg, Int.reduceToNat, UInt8.reduceToNat, natLit, ty3, ty4, ty9, ty29, ty55, ty58, ty64]
        rw [← hfin]
        exact ⟨hx, ho.down (by omega)⟩
      have t1 : ((k : Int) < es.length) = True := eq_true (by omega)
      have g6 := f6 k hlt
      have n1 := fun fl H => run_isNode (es.getD k evZ) fl H
      rw [kidsA_eq es hlt] at hfin
      by_cases hn : isN (evA es k)
      rotate_left
      · rw [decide_eq_false hn] at n1
        rw [if_neg hn, List.append_nil] at hfin
        unfold run at n1
        rw [zEv_round hc, ← hR]
        simp (config := {contextual := true, maxSteps := 10000000, implicitDefEqProofs := false}) (disch := first | (and_intros <;> omega -splitDisjunctions) | (simp only [List.length_set, List.length_append, List.length_cons, List.length_nil]; and_intros <;> omega -splitDisjunctions) | fail) only [t1, c2, g6, n1, o1, o2, f0, f1, f2, f3, f4, f5, f6, Try.f61, go_sem, ↓reduceIte, Nat.reduceEqDiff, Nat.reduceAdd, Nat.reduceMul, Nat.reduceLT, Nat.reduceLeDiff, reduceCtorEq, Int.reduceNe, Int.reduceEq, Int.reduceLT, Int.reduceLE, Int.reduceAdd, Int.reduceSub, Int.reduceMul, Int.reduceNeg, Int.reduceToNat, UInt8.reduceToNat, natLit, ty3, ty4, ty9, ty29, ty55, ty58, ty64]
        rw [← hfin]
        exact ⟨hx, ho.down (by omega)⟩
      rw [decide_eq_true hn] at n1
      rw [if_pos hn] at hfin
      have ap := fun L => app_own1 (fl := H.length) (ho.ext (Hx.app (L := L))) inN_len (by omega) 8 (by unfold mostCells; omega) k
      simp only [inN] at ap
      have hx2 : Hx H (killV (B ++ [Blk.cells [V.int .i64 (k : Int)]]) o ++ [.cells (rows inN (xs ++ [k]))]) := app_hx (hx.trans Hx.app) (ho.ext Hx.app) (by omega)
      have c3 : LH.cellsAt (killV (B ++ [Blk.cells [V.int .i64 (k : Int)]]) o ++ [.cells (rows inN (xs ++ [k]))]) H.length = some [v, ve, vu, vd] := app_old (cellsAt_left c2) (ho.ext Hx.app) (by omega) _
      have an := app_new (enc := inN) (z := 1) (v := o) (show H.length + 1 ≤ (B ++ [Blk.cells [V.int .i64 (k : Int)]]).length by rw [List.length_append, List.length_singleton]; omega) (xs ++ [k])
      have hE := endF_rng es hlt
      have hE1 : -1 ≤ endF es k := by omega
      have hE2 : endF es k < es.length := by omega
      have rM := h.ext hx2
      have s1 := fun n K => rM.endL hlt n K
      have s2 := rM.e.isTup; have s3 := rM.e.len; have s4 := rM.e.one; have s5 := rM.e.con (by simp; omega); have s6 := rM.e.idx (T := ty Try.prog) (t := 55) (by simp only [elemI, sizeO, ty3, ty55])
      simp only [List.length_map, List.length_range] at s3 s6
      simp only [List.length_append, List.length_cons, List.length_nil, Nat.zero_add] at an
      unfold run at n1
      rw [zEv_round hc, ← hR]
      simp (config := {contextual := true, maxSteps := 10000000, implicitDefEqProofs := false}) (disch := first | (and_intros <;> omega -splitDisjunctions) | (simp only [List.length_set, List.length_append, List.length_cons, List.length_nil]; and_intros <;> omega -splitDisjunctions) | fail) only [t1, c2, c3, g6, n1, o1, o2, ap, s1, s2, s3, s4, s5, s6, f0, f1, f2, f3, f4, f5, f6, Try.f61, go_sem, ↓reduceIte, Nat.reduceEqDiff, Nat.reduceAdd, Nat.reduceMul, Nat.reduceLT, Nat.reduceLeDiff, reduceCtorEq, Int.reduceNe, Int.reduceEq, Int.reduceLT, Int.reduceLE, Int.reduceAdd, Int.reduceSub, Int.reduceMul, Int.reduceNeg, Int.reduceToNat, UInt8.reduceToNat, natLit, ty3, ty4, ty9, ty29, ty55, ty58, ty64]
      rw [hR]
      refine Ret_ite (fun hw => ?_) (fun hw => ?_)
      · rw [if_pos hw] at hfin
        rw [← hfin]
        exact Ret_some ▸ ⟨hx2, an.down (by omega)⟩
      · rw [if_neg hw] at hfin
        exact ih (endF es k + 1).toNat (endF es k + 1) _ (xs ++ [k]) _ _ _ _ _ _ _ (by omega) (by omega) (by omega) hx2 c3 an (by simp; omega) (by rw [List.append_assoc]; exact hfin)
  exact key (es.length + 1) (i + 1) ((i : Int) + 1) (.sl (H.length + 1) 0 1 0 0) [] _ _ _ _ _ _ _ (by omega) (by omega) (by omega) Hx.app (by rw [cellsAt_app0]; rfl) (.inr ⟨H.length + 1, rfl, by rw [cellsAt_app]; rfl, Nat.le_refl _⟩) (by simp) (by rw [List.nil_append])
theorem run_roots {H : LH} {v ve vu vd : V} {es : List Ev} (h : NsAt H v ve vu vd es) (hl : es.length ≤ 1048576) (hn : nestedM es = true) (fl : Nat) :
    Ret (fun w H' => Hx H H' ∧ Own H.length H' inN 1 w (rootsF es)) (run 31 [.agg [v, ve, vu, vd]] fl H) := by
  have j1 := h.e.one; have j2 := h.u.one; have j3 := h.d.one; have j0 := h.l.one
  have j4 := h.e.isTup; have j5 := h.u.isTup; have j6 := h.d.isTup
  have i1 := h.l.isTup; have i2 := h.l.len; have i3 := h.l.lenOk ty29
  unfold run
  rw [Run_z Try.func31 rfl (by rfl : ok 31 = true) (by rfl : cfg.keep 31 = [0, 1, 2, 3, 4, 5, 8, 9, 10, 11, 26]) (by rfl : cfg.mode 31 = .fresh) (by rfl : cfg.ord 31 = [])]
  simp (config := {contextual := true, maxSteps := 10000000, implicitDefEqProofs := false}) (disch := first | (and_intros <;> omega -splitDisjunctions) | (simp only [List.length_set, List.length_append, List.length_cons, List.length_nil]; and_intros <;> omega -splitDisjunctions) | fail) only [i1, i2, i3, j0, j1, j2, j3, j4, j5, j6, Try.f31, go_sem, ↓reduceIte, Nat.reduceEqDiff, Nat.reduceAdd, Nat.reduceMul, Nat.reduceLT, Nat.reduceLeDiff, reduceCtorEq, Int.reduceNe, Int.reduceEq, Int.reduceLT, Int.reduceLE, Int.reduceAdd, Int.reduceSub, Int.reduceMul, Int.reduceNeg, Int.reduceToNat, UInt8.reduceToNat, natLit, ty3, ty4, ty9, ty29, ty55, ty58, ty64]
  refine at_loopR fun c R hc hR => ?_
  have key : ∀ (m : Nat) (k : Nat) (kk : Int) (o : V) (xs : List Nat) (B : LH) (x0 x2 x4 x5 x11 x26 : Option V), es.length - k < m → kk = k → k ≤ es.length → Hx H B → B.cellsAt H.length = some [v, ve, vu, vd] → Own (H.length + 1) B inN 1 o xs → xs.length ≤ k → xs ++ ((List.range es.length).drop k).filter (rootB es) = rootsF es →
      Ret (fun w H' => Hx H H' ∧ Own H.length H' inN 1 w (rootsF es)) (zEv (leaveX (mkR Try.prog cfg ok [0, 1, 2, 3, 4, 5, 8, 9, 10, 11, 26] H.length) .fresh H [ResultVar.tmp 2]) (mkR Try.prog cfg ok [0, 1, 2, 3, 4, 5, 8, 9, 10, 11, 26] H.length) (K.code (Code.loop c) :: K.blk 0 :: R) .nrm [x0, some (.ptr H.length 0), x2, some o, x4, x5, some v, some (.int .i64 es.length), some (.int .i64 kk), x11, x26] (B)) := by
    intro m
    induction m with
    | zero => intro k kk o xs B x0 x2 x4 x5 x11 x26 hm; omega
    | succ m ih =>
      intro k kk o xs B x0 x2 x4 x5 x11 x26 hm hk hkl hx c2 ho hlx hfin
      subst hk
      have hlB := hx.len
      have o1 := (ho.at inN_len).isTup; have o2 := (ho.at inN_len).one
      by_cases hlt : k < es.length
      rotate_left
      · have t1 : ((k : Int) < es.length) = False := eq_false (by omega)
        rw [range_end (by omega), List.filter_nil, List.append_nil] at hfin
        rw [zEv_round hc, ← hR]
        simp (config := {contextual := true, maxSteps := 10000000, implicitDefEqProofs := false}) (disch := first | (and_intros <;> omega -splitDisjunctions) | (simp only [List.length_set, List.length_append, List.length_cons, List.length_nil]; and_intros <;> omega -splitDisjunctions) | fail) only [t1, o1, o2, Try.f31, go_sem, ↓reduceIte, Nat.reduceEqDiff, Nat.reduceAdd, Nat.reduceMul, Nat.reduceLT, Nat.reduceLeDiff, reduceCtorEq, Int.reduceNe, Int.reduceEq, Int.reduceLT, Int.reduceLE, Int.reduceAdd, Int.reduceSub, Int.reduceMul, Int.reduceNeg, Int.reduceToNat, UInt8.reduceToNat, natLit, ty3, ty4, ty9, ty29, ty55, ty58, ty64]
        rw [← hfin]
        exact ⟨hx, ho.down (by omega)⟩
      have t1 : ((k : Int) < es.length) = True := eq_true (by omega)
      have rB := (h.ext hx).l
      have f1 := rB.isTup; have f2 := rB.len; have f3 := rB.lenOk ty29; have f0 := rB.one
      have f4 := fun hp => rB.con hp
      have f5 := rB.idx (T := ty Try.prog) (t := 29) (by simp only [elemI, sizeO, ty3, ty4, ty9, ty29, ty58])
      have f6 := rB.loadD evC_len evZ
      have g6 := f6 k hlt
      have n1 := fun fl H => run_isNode (es.getD k evZ) fl H
      have hcl := cellsAt_lt c2
      rw [range_drop hlt, List.filter_cons] at hfin
      have hfin : xs ++ (if rootB es k = true then k :: ((List.range es.length).drop (k + 1)).filter (rootB es) else ((List.range es.length).drop (k + 1)).filter (rootB es)) = rootsF es := hfin
      have c2E : ∀ L, LH.cellsAt (B ++ L) H.length = some [v, ve, vu, vd] := fun L => cellsAt_left c2
      cases k with
      | zero =>
        have hb : ¬ (rootB es 0 = true) := by simp [rootB]
        have t1 : ((0 : Int) < es.length) = True := eq_true (by omega)
        rw [if_neg hb] at hfin
        have h1 := (nestedM_ok hn).2.1
        have h0 : decide (isN (es.getD 0 evZ)) = false := decide_eq_false (by unfold isN; have : (es.getD 0 evZ).kind = 1 := h1; omega)
        rw [h0] at n1
        simp only [Nat.zero_mul, Nat.add_zero] at g6
        unfold run evC at *
        rw [zEv_round hc, ← hR]
        simp (config := {contextual := true, maxSteps := 10000000, implicitDefEqProofs := false}) (disch := first | (and_intros <;> omega -splitDisjunctions) | (simp only [List.length_set, List.length_append, List.length_cons, List.length_nil]; and_intros <;> omega -splitDisjunctions) | fail) only [t1, g6, n1, o1, o2, c2E, f0, f1, f2, f3, f4, f5, f6, Try.f31, go_sem, ↓reduceIte, Nat.reduceEqDiff, Nat.reduceAdd, Nat.reduceMul, Nat.reduceLT, Nat.reduceLeDiff, reduceCtorEq, Int.reduceNe, Int.reduceEq, Int.reduceLT, Int.reduceLE, Int.reduceAdd, Int.reduceSub, Int.reduceMul, Int.reduceNeg, Int.reduceToNat, UInt8.reduceToNat, natLit, ty3, ty4, ty9, ty29, ty55, ty58, ty64]
        rw [hR]
        exact ih 1 1 o xs _ _ _ _ _ _ _ (by omega) rfl (by omega) (hx.trans Hx.app) (c2E _) (ho.ext Hx.app) (by omega) hfin
      | succ k =>
        have t2 : (((k + 1 : Nat) : Int) - 1) = (k : Int) := by omega
        have t4 : (((k + 1 : Nat) : Int) - 1).toNat = k := by omega
        have g0 := fun L n K => (rB.ext (Hx.app (L := L))).loadD0 evC_len evZ (fun e => .int .i64 e.kind) (fun _ => rfl) k (by omega) n K
        have f4L := fun L => (rB.ext (Hx.app (L := L))).con (List.length_pos_iff.2 (by intro e; subst e; cases hlt))
        have ap := fun L => app_own1 (fl := H.length) (ho.ext (Hx.app (L := L))) inN_len (by omega) 8 (by unfold mostCells; omega) (k + 1)
        simp only [inN] at ap
        have hx2 : ∀ L M, Hx H (killV (B ++ L) o ++ M) := fun L M => app_hx (hx.trans Hx.app) (ho.ext Hx.app) (by omega)
        have c3 : ∀ L M, LH.cellsAt (killV (B ++ L) o ++ M) H.length = some [v, ve, vu, vd] := fun L M => app_old (cellsAt_left c2) (ho.ext Hx.app) (by omega) _
        have an := fun L : LH => app_new (H := B ++ L) (enc := inN) (z := 1) (v := o) (show H.length + 1 ≤ (B ++ L).length by rw [List.length_append]; omega) (xs ++ [k + 1])
        simp only [List.length_append, List.length_cons, List.length_nil, Nat.zero_add] at an
        unfold run evC at *
        rw [zEv_round hc, ← hR]
        simp (config := {contextual := true, maxSteps := 10000000, implicitDefEqProofs := false}) (disch := first | (and_intros <;> omega -splitDisjunctions) | (simp only [List.length_set, List.length_append, List.length_cons, List.length_nil]; and_intros <;> omega -splitDisjunctions) | fail) only [t1, t2, t4, g0, g6, f4L, n1, ap, o1, o2, c2E, f0, f1, f2, f3, f4, f5, f6, Try.f31, go_sem, ↓reduceIte, Nat.reduceEqDiff, Nat.reduceAdd, Nat.reduceMul, Nat.reduceLT, Nat.reduceLeDiff, reduceCtorEq, Int.reduceNe, Int.reduceEq, Int.reduceLT, Int.reduceLE, Int.reduceAdd, Int.reduceSub, Int.reduceMul, Int.reduceNeg, Int.reduceToNat, UInt8.reduceToNat, natLit, ty3, ty4, ty9, ty29, ty55, ty58, ty64]
        rw [hR]
        refine Ret_ite (fun w => ?_) (fun w => ?_)
        · have hb : rootB es (k + 1) = true := decide_eq_true ⟨Nat.succ_pos _, w.2, w.1⟩
          rw [if_pos hb] at hfin
          exact ih (k + 1 + 1) (((k + 1 : Nat) : Int) + 1) _ (xs ++ [k + 1]) _ _ _ _ _ _ _ (by omega) (by omega) (by omega) (hx2 _ _) (c3 _ _) (an _) (by simp; omega) (by rw [List.append_assoc]; exact hfin)
        · have hb : ¬ (rootB es (k + 1) = true) := fun h => w ⟨(of_decide_eq_true h).2.2, (of_decide_eq_true h).2.1⟩
          rw [if_neg hb] at hfin
          exact ih (k + 1 + 1) (((k + 1 : Nat) : Int) + 1) o xs _ _ _ _ _ _ _ (by omega) (by omega) (by omega) (hx.trans Hx.app) (c2E _) (ho.ext Hx.app) (by omega) hfin
  exact key (es.length + 1) 0 0 (.sl (H.length + 1) 0 1 0 0) [] _ _ _ _ _ _ _ (by omega) rfl (by omega) Hx.app (by rw [cellsAt_app0]; rfl) (.inr ⟨H.length + 1, rfl, by rw [cellsAt_app]; rfl, Nat.le_refl _⟩) (by simp) (by rw [List.nil_append, List.drop_zero]; rfl)
end Go.Proofs.Ytcbjmggbbnpbpaa.Lg
namespace Go.Proofs.Ytcbjmggbbnpbpaa.Lg
set_option linter.unusedSimpArgs false
set_option linter.unusedVariables false
set_option maxRecDepth 100000
set_option maxHeartbeats 40000000
open Go.Proofs.Ytcbjmggbbnpbpaa

/-! ### a map of texts to places -/
def encM (M : List (ByteArray × Nat)) : List (V × V) := M.map (fun p => (.str p.1, .int .i64 p.2))
def fnd (t : ByteArray) : List (ByteArray × Nat) → Nat → Option (Nat × Nat)
  | [], _ => none
  | (a, x) :: M, i => if t = a then some (i, x) else fnd t M (i + 1)
def mlook (M : List (ByteArray × Nat)) (t : ByteArray) : Option Nat := (fnd t M 0).map (·.2)
theorem findM_enc (t : ByteArray) : ∀ (M : List (ByteArray × Nat)) (i : Nat), findM (.str t) (encM M) i = some ((fnd t M i).map (fun p => (p.1, .int .i64 p.2)))
  | [], i => rfl
  | (a, x) :: M, i => by
    have ih := findM_enc t M (i + 1)
    show (match eqS (.str t) (.str a) with | some true => some (some (i, V.int .i64 (x : Int))) | some false => findM (.str t) (encM M) (i + 1) | none => none) = _
    simp only [eqS, fnd]
    by_cases h : t = a
    · rw [if_pos h, decide_eq_true h]; rfl
    · rw [if_neg h, decide_eq_false h]; exact ih
theorem fnd_at (t : ByteArray) : ∀ (M : List (ByteArray × Nat)) (i j x : Nat), fnd t M i = some (j, x) → i ≤ j ∧ M[j - i]? = some (t, x)
  | [], i, j, x, h => by cases h
  | (a, y) :: M, i, j, x, h => by
    unfold fnd at h
    by_cases e : t = a
    · rw [if_pos e] at h; cases h; subst e; exact ⟨Nat.le_refl _, by simp⟩
    · rw [if_neg e] at h
      have := fnd_at t M (i + 1) j x h
      refine ⟨by omega, ?_⟩
      rw [show j - i = (j - (i + 1)) + 1 by omega, List.getElem?_cons_succ]; exact this.2
theorem fnd_shift (t : ByteArray) : ∀ (M : List (ByteArray × Nat)) (i k : Nat), (fnd t M i).map (·.2) = (fnd t M k).map (·.2)
  | [], i, k => rfl
  | (a, x) :: M, i, k => by
    unfold fnd
    by_cases e : t = a
    · rw [if_pos e, if_pos e]; rfl
    · rw [if_neg e, if_neg e]; exact fnd_shift t M (i + 1) (k + 1)
theorem mlook_cons (a t : ByteArray) (x : Nat) (M : List (ByteArray × Nat)) : mlook ((a, x) :: M) t = if t = a then some x else mlook M t := by
  show (if t = a then some (0, x) else fnd t M (0 + 1)).map (·.2) = _
  by_cases e : t = a
  · rw [if_pos e, if_pos e]; rfl
  · rw [if_neg e, if_neg e]; exact fnd_shift t M 1 0
theorem mlook_new {t u : ByteArray} {x : Nat} : ∀ {M : List (ByteArray × Nat)}, mlook M t = none → mlook (M ++ [(t, x)]) u = if u = t then some x else mlook M u
  | [], _ => by rw [List.nil_append, mlook_cons]
  | (a, y) :: M, h => by
    rw [mlook_cons] at h
    by_cases e : t = a
    · rw [if_pos e] at h; cases h
    · rw [if_neg e] at h
      rw [List.cons_append, mlook_cons, mlook_cons, mlook_new h]
      by_cases e1 : u = a
      · subst e1; rw [if_pos rfl, if_pos rfl, if_neg (fun h => e h.symm)]
      · rw [if_neg e1, if_neg e1]
theorem mlook_set {t u : ByteArray} {x : Nat} : ∀ {M : List (ByteArray × Nat)} {i j y : Nat}, fnd t M i = some (j, y) → mlook (M.set (j - i) (t, x)) u = if u = t then some x else mlook M u
  | [], i, j, y, h => by cases h
  | (a, z) :: M, i, j, y, h => by
    unfold fnd at h
    by_cases e : t = a
    · rw [if_pos e] at h; cases h; subst e
      rw [Nat.sub_self, List.set_cons_zero, mlook_cons, mlook_cons]
      by_cases e1 : u = t
      · rw [if_pos e1, if_pos e1]
      · rw [if_neg e1, if_neg e1, if_neg e1]
    · rw [if_neg e] at h
      have hj := (fnd_at t M (i + 1) j y h).1
      rw [show j - i = (j - (i + 1)) + 1 by omega, List.set_cons_succ, mlook_cons, mlook_cons, mlook_set h]
      by_cases e1 : u = a
      · subst e1; rw [if_pos rfl, if_pos rfl, if_neg (fun h => e h.symm)]
      · rw [if_neg e1, if_neg e1]
theorem encM_set (M : List (ByteArray × Nat)) (j : Nat) (t : ByteArray) (x : Nat) : (encM M).set j (.str t, .int .i64 (x : Int)) = encM (M.set j (t, x)) := by simp [encM, List.map_set]
theorem encM_app (M : List (ByteArray × Nat)) (t : ByteArray) (x : Nat) : encM M ++ [(.str t, .int .i64 (x : Int))] = encM (M ++ [(t, x)]) := by simp [encM]
theorem mapAt_lt {H : LH} {b : Nat} {l} (h : H.mapAt b = some l) : b < H.length := by
  unfold LH.mapAt at h
  cases e : H[b]? with
  | none => rw [e] at h; cases h
  | some x => exact (List.getElem?_eq_some_iff.1 e).1
theorem mapAt_left {H L : LH} {b : Nat} {l} (h : H.mapAt b = some l) : LH.mapAt (H ++ L) b = some l := by
  unfold LH.mapAt at *
  rw [List.getElem?_append_left (mapAt_lt h)]; exact h
theorem mapAt_set {H : LH} {b : Nat} {l} (h : b < H.length) : LH.mapAt (H.set b (.map l)) b = some l := by
  unfold LH.mapAt
  rw [List.getElem?_set_self h]
theorem mapAt_set_ne {H : LH} {b c : Nat} {x : Blk} (h : b ≠ c) : LH.mapAt (H.set b x) c = LH.mapAt H c := by
  unfold LH.mapAt
  rw [List.getElem?_set_ne h]
theorem cells_map_ne {H : LH} {b c : Nat} {l m} (h : H.cellsAt b = some l) (k : H.mapAt c = some m) : b ≠ c := by
  intro e
  subst e
  unfold LH.cellsAt LH.mapAt at *
  cases e : H[b]? with
  | none => rw [e] at h; cases h
  | some x => rw [e] at h k; cases x <;> simp at h k
/-- what the program writes of the aliases -/
def dfI (es : List Ev) (i : Nat) : Int := if kd es i = 6 then defF es i else -1
theorem dfI_6 {es : List Ev} (hok : ∀ i, i < es.length → EvOk (evA es i)) {i : Nat} (hi : i < es.length) (h6 : kd es i = 6) : dfI es i = match lastGo es (evA es i).text i with | none => -1 | some j => if 0 ≤ endF es j ∧ endF es j < i then (j : Int) else -1 := by
  unfold dfI defF
  rw [if_pos h6, defGo_last es hok _ i i (by omega)]
  cases hl : lastGo es (evA es i).text i with
  | none => rfl
  | some j =>
    have hj := lastGo_lt es _ i j hl
    have := endF_ne (es := es) hj (by omega) (by omega)
    simp only
    by_cases h : 0 ≤ endF es j ∧ endF es j < i
    · rw [if_neg (by omega), if_pos h]
    · rw [if_pos (by omega), if_neg h]
theorem run_defs {H : LH} {v ve vu vd : V} {es : List Ev} (h : NsAt H v ve vu vd es) (hl : es.length ≤ 1048576) (hok : ∀ i, i < es.length → EvOk (evA es i)) (fl : Nat) :
    Ret (fun w H' => Hx H H' ∧ At H' inI 1 w ((List.range es.length).map (dfI es))) (run 78 [.agg [v, ve, vu, vd]] fl H) := by
  have j1 := h.e.one; have j2 := h.u.one; have j3 := h.d.one; have j0 := h.l.one
  have j4 := h.e.isTup; have j5 := h.u.isTup; have j6 := h.d.isTup
  have i1 := h.l.isTup; have i2 := h.l.len; have i3 := h.l.lenOk ty29
  unfold run
  rw [Run_z Try.func78 rfl (by rfl : ok 78 = true) (by rfl : cfg.keep 78 = [0, 1, 2, 3, 4, 5, 6, 7, 8, 15, 16, 17, 18, 25, 30, 58, 63]) (by rfl : cfg.mode 78 = .fresh) (by rfl : cfg.ord 78 = [])]
  simp (config := {contextual := true, maxSteps := 10000000, implicitDefEqProofs := false}) (disch := first | (and_intros <;> omega -splitDisjunctions) | (simp only [List.length_set, List.length_append, List.length_cons, List.length_nil]; and_intros <;> omega -splitDisjunctions) | fail) only [i1, i2, i3, j0, j1, j2, j3, j4, j5, j6, Try.f78, go_sem, ↓reduceIte, Nat.reduceEqDiff, Nat.reduceAdd, Nat.reduceMul, Nat.reduceLT, Nat.reduceLeDiff, reduceCtorEq, Int.reduceNe, Int.reduceEq, Int.reduceLT, Int.reduceLE, Int.reduceAdd, Int.reduceSub, Int.reduceMul, Int.reduceNeg, Int.reduceToNat, UInt8.reduceToNat, natLit, ty3, ty4, ty9, ty29, ty55, ty58, ty64, ty116]
  rw [ints_rep]
  refine at_loopR fun c R hc hR => ?_
  have key : ∀ (m : Nat) (k : Nat) (kk : Int) (mb : Nat) (M : List (ByteArray × Nat)) (B : LH) (D : List Int) (x0 x2 x5 x6 x7 x8 x18 x25 x30 x58 x63 : Option V), es.length - k < m → kk = k → k ≤ es.length → Hx H B → B.cellsAt H.length = some [v, ve, vu, vd] → B.cellsAt (H.length + 1) = some (ints D) → Upto D es.length k (dfI es) → B.mapAt mb = some (encM M) → H.length + 2 ≤ mb → (∀ t, mlook M t = lastGo es t k) →
      Ret (fun w H' => Hx H H' ∧ At H' inI 1 w ((List.range es.length).map (dfI es))) (zEv (leaveX (mkR Try.prog cfg ok [0, 1, 2, 3, 4, 5, 6, 7, 8, 15, 16, 17, 18, 25, 30, 58, 63] H.length) .fresh H [ResultVar.tmp 2]) (mkR Try.prog cfg ok [0, 1, 2, 3, 4, 5, 6, 7, 8, 15, 16, 17, 18, 25, 30, 58, 63] H.length) (K.code (Code.loop c) :: K.blk 0 :: R) .nrm [x0, some (.ptr H.length 0), x2, some (.sl (H.length + 1) 0 1 es.length es.length), some (.map mb), x5, x6, x7, x8, some v, some (.int .i64 es.length), some (.int .i64 kk), x18, x25, x30, x58, x63] (B)) := by
    intro m
    induction m with
    | zero => intro k kk mb M B D x0 x2 x5 x6 x7 x8 x18 x25 x30 x58 x63 hm; omega
    | succ m ih =>
      intro k kk mb M B D x0 x2 x5 x6 x7 x8 x18 x25 x30 x58 x63 hm hk hkl hx c2 cD hD cM hmb hM
      subst hk
      have hlB := hx.len
      by_cases hlt : k < es.length
      rotate_left
      · have t1 : ((k : Int) < es.length) = False := eq_false (by omega)
        rw [zEv_round hc, ← hR]
        simp (config := {contextual := true, maxSteps := 10000000, implicitDefEqProofs := false}) (disch := first | (and_intros <;> omega -splitDisjunctions) | (simp only [List.length_set, List.length_append, List.length_cons, List.length_nil]; and_intros <;> omega -splitDisjunctions) | fail) only [t1, Try.f78, go_sem, ↓reduceIte, Nat.reduceEqDiff, Nat.reduceAdd, Nat.reduceMul, Nat.reduceLT, Nat.reduceLeDiff, reduceCtorEq, Int.reduceNe, Int.reduceEq, Int.reduceLT, Int.reduceLE, Int.reduceAdd, Int.reduceSub, Int.reduceMul, Int.reduceNeg, Int.reduceToNat, UInt8.reduceToNat, natLit, ty3, ty4, ty9, ty29, ty55, ty58, ty64, ty116]
        have : D = (List.range es.length).map (dfI es) := by
          apply List.ext_getElem
          · simp [hD.1]
          · intro i h5 h6
            have hl1 := hD.1
            have := hD.2 i (by omega)
            rw [getD_of h5] at this
            simp [this]
        refine ⟨hx, .inr ⟨H.length + 1, 0, es.length, ints D, by simp, cD, by rw [ints_len, hD.1]; simp, ?_⟩⟩
        rw [List.drop_zero, ints_rows, this, List.take_of_length_le (by simp [ints])]
      have t1 : ((k : Int) < es.length) = True := eq_true (by omega)
      have rN := h.ext hx
      have rB := rN.l
      have f1 := rB.isTup; have f2 := rB.len; have f3 := rB.lenOk ty29; have f0 := rB.one
      have f4 := fun hp => rB.con hp
      have f5 := rB.idx (T := ty Try.prog) (t := 29) (by simp only [elemI, sizeO, ty3, ty4, ty9, ty29, ty58])
      have f6 := rB.loadD evC_len evZ
      have g6 := f6 k hlt
      have lD2 : ∀ i x, (ints (D.set i x)).length = es.length := fun i x => by rw [ints_len, List.length_set, hD.1]
      have lD : (ints D).length = es.length := by rw [ints_len, hD.1]
      have c2E : ∀ x L, LH.cellsAt (B.set (H.length + 1) x ++ L) H.length = some [v, ve, vu, vd] := fun x L => cellsAt_left (by rw [cellsAt_set_ne (by omega)]; exact c2)
      have hDl := cellsAt_lt cD
      have hmbl := mapAt_lt cM
      have cME : ∀ x L, LH.mapAt (B.set (H.length + 1) x ++ L) mb = some (encM M) := fun x L => mapAt_left (by rw [mapAt_set_ne (by omega)]; exact cM)
      have q2 : ∀ x L, LH.cellsAt (B.set (H.length + 1) x ++ L) B.length = LH.cellsAt L 0 := fun x L => cellsAt_at (by simp only [List.length_set])
      have cDE : ∀ x L, LH.cellsAt (B.set (H.length + 1) (.cells x) ++ L) (H.length + 1) = some x := fun x L => cellsAt_left (cellsAt_set hDl)
      have hxE : ∀ x L, Hx H (B.set (H.length + 1) x ++ L) := fun x L => (hx.set (by omega)).trans Hx.app
      have nD : ∀ x, dfI es k = x → Upto (D.set k x) es.length (k + 1) (dfI es) := fun x hx => hD.set hlt hlt hx (fun m h1 h2 => ⟨by omega, rfl⟩)
      have hlG : ∀ t, lastGo es t (k + 1) = if kd es k = 2 then none else if kd es k ≠ 6 ∧ (evA es k).anchor ≠ ⟨#[]⟩ ∧ (evA es k).anchor = t then some k else lastGo es t k := fun t => rfl
      have hkd : kd es k = (es.getD k evZ).kind := rfl
      have qm : ∀ x L i, LH.mapAt (B.set (H.length + 1) x ++ L) (B.length + i) = LH.mapAt L i := fun x L i => by
        have := mapAt_app (B.set (H.length + 1) x) L i
        simpa only [List.length_set] using this
      have go := fun (mb' : Nat) M' (B' : LH) (D' : List Int) x0 x2 x5 x6 x7 x8 x18 x25 x30 x58 x63 hx' c2' cD' hD' cM' hmb' hM' => ih (k + 1) ((k : Int) + 1) mb' M' B' D' x0 x2 x5 x6 x7 x8 x18 x25 x30 x58 x63 (by omega) (by omega) (by omega) hx' c2' cD' hD' cM' hmb' hM'
      by_cases h2 : (es.getD k evZ).kind = 2
      · have hd1 : dfI es k = -1 := if_neg (by rw [hkd]; omega)
        have hM2 : ∀ t, mlook [] t = lastGo es t (k + 1) := fun t => by rw [hlG, if_pos h2]; rfl
        unfold run evC at *
        simp only [h2] at g6
        rw [zEv_round hc, ← hR]
        simp (config := {contextual := true, maxSteps := 10000000, implicitDefEqProofs := false}) (disch := first | (and_intros <;> omega -splitDisjunctions) | (simp only [List.length_set, List.length_append, List.length_cons, List.length_nil]; and_intros <;> omega -splitDisjunctions) | fail) only [t1, hlB, g6, c2, cD, lD, lD2, ints_set, List.set_set, c2E, cME, q2, qm, cDE, lookV, mapE, entO, lookO, updV, updO, findM_enc, Option.map_some, Option.map_none, keyOk, f0, f1, f2, f3, f4, f5, f6, cellsAt_set, cellsAt_set_ne, cellsAt_old, set_old, Try.f78, go_sem, ↓reduceIte, Nat.reduceEqDiff, Nat.reduceAdd, Nat.reduceMul, Nat.reduceLT, Nat.reduceLeDiff, reduceCtorEq, Int.reduceNe, Int.reduceEq, Int.reduceLT, Int.reduceLE, Int.reduceAdd, Int.reduceSub, Int.reduceMul, Int.reduceNeg, Int.reduceToNat, UInt8.reduceToNat, natLit, ty3, ty4, ty9, ty29, ty55, ty58, ty64, ty116]
        rw [hR]
        exact go _ [] _ (D.set k (-1)) _ _ _ _ _ _ _ _ _ _ _ (hxE _ _) (c2E _ _) (cDE _ _) (nD _ hd1) (by rw [qm]; rfl) (by omega) hM2
      by_cases h6 : (es.getD k evZ).kind = 6
      · have hM2 : ∀ t, mlook M t = lastGo es t (k + 1) := fun t => by rw [hlG, if_neg h2, if_neg (fun h => h.1 h6)]; exact hM t
        have hdf := dfI_6 hok hlt h6
        rw [← hM] at hdf
        have hT : (evA es k).text = (es.getD k evZ).text := rfl
        rw [hT] at hdf
        cases hf : fnd (es.getD k evZ).text M 0 with
        | none =>
          have hm : mlook M (es.getD k evZ).text = none := by unfold mlook; rw [hf]; rfl
          rw [hm] at hdf
          unfold run evC at *
          simp only [h6] at g6
          rw [zEv_round hc, ← hR]
          simp (config := {contextual := true, maxSteps := 10000000, implicitDefEqProofs := false}) (disch := first | (and_intros <;> omega -splitDisjunctions) | (simp only [List.length_set, List.length_append, List.length_cons, List.length_nil]; and_intros <;> omega -splitDisjunctions) | fail) only [t1, hf, g6, c2, cD, lD, lD2, ints_set, List.set_set, c2E, cME, q2, qm, cDE, lookV, mapE, entO, lookO, updV, updO, findM_enc, Option.map_some, Option.map_none, keyOk, f0, f1, f2, f3, f4, f5, f6, cellsAt_set, cellsAt_set_ne, cellsAt_old, set_old, Try.f78, go_sem, ↓reduceIte, Nat.reduceEqDiff, Nat.reduceAdd, Nat.reduceMul, Nat.reduceLT, Nat.reduceLeDiff, reduceCtorEq, Int.reduceNe, Int.reduceEq, Int.reduceLT, Int.reduceLE, Int.reduceAdd, Int.reduceSub, Int.reduceMul, Int.reduceNeg, Int.reduceToNat, UInt8.reduceToNat, natLit, ty3, ty4, ty9, ty29, ty55, ty58, ty64, ty116]
          rw [hR]
          exact go _ M _ (D.set k (-1)) _ _ _ _ _ _ _ _ _ _ _ (hxE _ _) (c2E _ _) (cDE _ _) (nD _ hdf) (cME _ _) hmb hM2
        | some p =>
          obtain ⟨pj, px⟩ := p
          have hm : mlook M (es.getD k evZ).text = some px := by unfold mlook; rw [hf]; rfl
          have hpx := lastGo_lt es _ k px (by rw [← hM]; exact hm)
          rw [hm] at hdf
          simp only at hdf
          have hpl : px < es.length := by omega
          have rM := fun x L => h.ext (hxE x L)
          have s1 := fun x L n K => (rM x L).endL hpl n K
          have s2 := h.e.isTup; have s3 := h.e.len; have s4 := h.e.one; have s5 := fun x L => (rM x L).e.con (by simp; omega); have s6 := h.e.idx (T := ty Try.prog) (t := 55) (by simp only [elemI, sizeO, ty3, ty55])
          simp only [List.length_map, List.length_range] at s3 s6
          unfold run evC at *
          simp only [h6] at g6
          rw [zEv_round hc, ← hR]
          simp (config := {contextual := true, maxSteps := 10000000, implicitDefEqProofs := false}) (disch := first | (and_intros <;> omega -splitDisjunctions) | (simp only [List.length_set, List.length_append, List.length_cons, List.length_nil]; and_intros <;> omega -splitDisjunctions) | fail) only [t1, hf, s1, s2, s3, s4, s5, s6, hpl, g6, c2, cD, lD, lD2, ints_set, List.set_set, c2E, cME, q2, qm, cDE, lookV, mapE, entO, lookO, updV, updO, findM_enc, Option.map_some, Option.map_none, keyOk, f0, f1, f2, f3, f4, f5, f6, cellsAt_set, cellsAt_set_ne, cellsAt_old, set_old, Try.f78, go_sem, ↓reduceIte, Nat.reduceEqDiff, Nat.reduceAdd, Nat.reduceMul, Nat.reduceLT, Nat.reduceLeDiff, reduceCtorEq, Int.reduceNe, Int.reduceEq, Int.reduceLT, Int.reduceLE, Int.reduceAdd, Int.reduceSub, Int.reduceMul, Int.reduceNeg, Int.reduceToNat, UInt8.reduceToNat, natLit, ty3, ty4, ty9, ty29, ty55, ty58, ty64, ty116]
          rw [hR]
          refine Ret_ite (fun w => ?_) (fun w => ?_)
          · rw [if_pos w] at hdf
            exact go _ M _ (D.set k px) _ _ _ _ _ _ _ _ _ _ _ (hxE _ _) (c2E _ _) (cDE _ _) (nD _ hdf) (cME _ _) hmb hM2
          · rw [if_neg w] at hdf
            exact go _ M _ (D.set k (-1)) _ _ _ _ _ _ _ _ _ _ _ (hxE _ _) (c2E _ _) (cDE _ _) (nD _ hdf) (cME _ _) hmb hM2
      have hd1 : dfI es k = -1 := if_neg h6
      by_cases ha : (es.getD k evZ).anchor = ⟨#[]⟩
      · have hM2 : ∀ t, mlook M t = lastGo es t (k + 1) := fun t => by rw [hlG, if_neg h2, if_neg (fun h => h.2.1 ha)]; exact hM t
        unfold run evC at *
        simp only [ha] at g6
        rw [zEv_round hc, ← hR]
        simp (config := {contextual := true, maxSteps := 10000000, implicitDefEqProofs := false}) (disch := first | (and_intros <;> omega -splitDisjunctions) | (simp only [List.length_set, List.length_append, List.length_cons, List.length_nil]; and_intros <;> omega -splitDisjunctions) | fail) only [t1, h2, h6, g6, c2, cD, lD, lD2, ints_set, List.set_set, c2E, cME, q2, qm, cDE, lookV, mapE, entO, lookO, updV, updO, findM_enc, Option.map_some, Option.map_none, keyOk, f0, f1, f2, f3, f4, f5, f6, cellsAt_set, cellsAt_set_ne, cellsAt_old, set_old, Try.f78, go_sem, ↓reduceIte, Nat.reduceEqDiff, Nat.reduceAdd, Nat.reduceMul, Nat.reduceLT, Nat.reduceLeDiff, reduceCtorEq, Int.reduceNe, Int.reduceEq, Int.reduceLT, Int.reduceLE, Int.reduceAdd, Int.reduceSub, Int.reduceMul, Int.reduceNeg, Int.reduceToNat, UInt8.reduceToNat, natLit, ty3, ty4, ty9, ty29, ty55, ty58, ty64, ty116]
        rw [hR]
        exact go _ M _ (D.set k (-1)) _ _ _ _ _ _ _ _ _ _ _ (hxE _ _) (c2E _ _) (cDE _ _) (nD _ hd1) (cME _ _) hmb hM2
      have hl2 : ∀ t, lastGo es t (k + 1) = if t = (es.getD k evZ).anchor then some k else mlook M t := fun t => by
        rw [hlG, if_neg h2]
        by_cases e : t = (es.getD k evZ).anchor
        · rw [if_pos ⟨h6, ha, e.symm⟩, if_pos e]
        · rw [if_neg (fun h => e h.2.2.symm), if_neg e]; exact (hM t).symm
      have c2M : ∀ x y L, LH.cellsAt ((B.set (H.length + 1) x).set mb y ++ L) H.length = some [v, ve, vu, vd] := fun x y L => cellsAt_left (by rw [cellsAt_set_ne (by omega), cellsAt_set_ne (by omega)]; exact c2)
      have cDM : ∀ x y L, LH.cellsAt ((B.set (H.length + 1) (.cells x)).set mb y ++ L) (H.length + 1) = some x := fun x y L => cellsAt_left (by rw [cellsAt_set_ne (by omega)]; exact cellsAt_set hDl)
      have cMM : ∀ x y L, LH.mapAt ((B.set (H.length + 1) x).set mb (.map y) ++ L) mb = some y := fun x y L => mapAt_left (mapAt_set (by rw [List.length_set]; exact hmbl))
      have hxM : ∀ x y L, Hx H ((B.set (H.length + 1) x).set mb y ++ L) := fun x y L => ((hx.set (by omega)).set (by omega)).trans Hx.app
      have sM : ∀ x y L, List.set (B.set (H.length + 1) x ++ L) mb y = (B.set (H.length + 1) x).set mb y ++ L := fun x y L => List.set_append_left _ _ (by rw [List.length_set]; exact hmbl)
      have hmb0 : H.length ≤ mb := by omega
      cases hf : fnd (es.getD k evZ).anchor M 0 with
      | none =>
        have hm : mlook M (es.getD k evZ).anchor = none := by unfold mlook; rw [hf]; rfl
        have hM2 : ∀ t, mlook (M ++ [((es.getD k evZ).anchor, k)]) t = lastGo es t (k + 1) := fun t => by rw [hl2, mlook_new hm]
        unfold run evC at *
        rw [zEv_round hc, ← hR]
        simp (config := {contextual := true, maxSteps := 10000000, implicitDefEqProofs := false}) (disch := first | (and_intros <;> omega -splitDisjunctions) | (simp only [List.length_set, List.length_append, List.length_cons, List.length_nil]; and_intros <;> omega -splitDisjunctions) | fail) only [t1, h2, h6, ha, hf, sM, hmb0, encM_app, g6, c2, cD, lD, lD2, ints_set, List.set_set, c2E, cME, q2, qm, cDE, lookV, mapE, entO, lookO, updV, updO, findM_enc, Option.map_some, Option.map_none, keyOk, f0, f1, f2, f3, f4, f5, f6, cellsAt_set, cellsAt_set_ne, cellsAt_old, set_old, Try.f78, go_sem, ↓reduceIte, Nat.reduceEqDiff, Nat.reduceAdd, Nat.reduceMul, Nat.reduceLT, Nat.reduceLeDiff, reduceCtorEq, Int.reduceNe, Int.reduceEq, Int.reduceLT, Int.reduceLE, Int.reduceAdd, Int.reduceSub, Int.reduceMul, Int.reduceNeg, Int.reduceToNat, UInt8.reduceToNat, natLit, ty3, ty4, ty9, ty29, ty55, ty58, ty64, ty116]
        rw [hR]
        exact go _ _ _ (D.set k (-1)) _ _ _ _ _ _ _ _ _ _ _ (hxM _ _ _) (c2M _ _ _) (cDM _ _ _) (nD _ hd1) (cMM _ _ _) hmb hM2
      | some p =>
        obtain ⟨pj, px⟩ := p
        have hM2 : ∀ t, mlook (M.set pj ((es.getD k evZ).anchor, k)) t = lastGo es t (k + 1) := fun t => by
          have := mlook_set (u := t) (x := k) hf
          rw [Nat.sub_zero] at this
          rw [hl2, this]
        unfold run evC at *
        rw [zEv_round hc, ← hR]
        simp (config := {contextual := true, maxSteps := 10000000, implicitDefEqProofs := false}) (disch := first | (and_intros <;> omega -splitDisjunctions) | (simp only [List.length_set, List.length_append, List.length_cons, List.length_nil]; and_intros <;> omega -splitDisjunctions) | fail) only [t1, h2, h6, ha, hf, sM, hmb0, encM_set, g6, c2, cD, lD, lD2, ints_set, List.set_set, c2E, cME, q2, qm, cDE, lookV, mapE, entO, lookO, updV, updO, findM_enc, Option.map_some, Option.map_none, keyOk, f0, f1, f2, f3, f4, f5, f6, cellsAt_set, cellsAt_set_ne, cellsAt_old, set_old, Try.f78, go_sem, ↓reduceIte, Nat.reduceEqDiff, Nat.reduceAdd, Nat.reduceMul, Nat.reduceLT, Nat.reduceLeDiff, reduceCtorEq, Int.reduceNe, Int.reduceEq, Int.reduceLT, Int.reduceLE, Int.reduceAdd, Int.reduceSub, Int.reduceMul, Int.reduceNeg, Int.reduceToNat, UInt8.reduceToNat, natLit, ty3, ty4, ty9, ty29, ty55, ty58, ty64, ty116]
        rw [hR]
        exact go _ _ _ (D.set k (-1)) _ _ _ _ _ _ _ _ _ _ _ (hxM _ _ _) (c2M _ _ _) (cDM _ _ _) (nD _ hd1) (cMM _ _ _) hmb hM2
  exact key (es.length + 1) 0 0 (H.length + 2) [] _ (List.replicate es.length 0) _ _ _ _ _ _ _ _ _ _ _ (by omega) rfl (by omega) Hx.app (by rw [cellsAt_app0]; rfl) (by rw [cellsAt_app]; rfl) ⟨List.length_replicate, fun m h => absurd h (Nat.not_lt_zero _)⟩ (by rw [mapAt_app]; rfl) (Nat.le_refl _) (fun t => rfl)
end Go.Proofs.Ytcbjmggbbnpbpaa.Lg
