/- Nested: the reference's function. No condition. -/
import Derived.Test.YtcbjmggbbnpbpaaDoorCNst5
import Derived.Test.YtcbjmggbbnpbpaaDoorCNst6
import Derived.Test.YtcbjmggbbnpbpaaDoorCNst7
namespace Go.Proofs.YtcbjmggbbnpbpaaDoor.Lg
set_option linter.unusedSimpArgs false
set_option linter.unusedVariables false
set_option maxRecDepth 100000
set_option maxHeartbeats 40000000
open Go.Proofs.YtcbjmggbbnpbpaaDoor

theorem run_spNested (v : V) (es : List Ev) (fl : Nat) (H : LH) (h : At H evC 8 v es) (hes : ∀ e ∈ es, evCFit e) (hl : es.length ≤ 1048576) :
    run 98 [v] fl H = some (.bool (nestedM es), H) := by
  have e1 := fun e (he : evCFit e) fl H => run_spEventOk e fl H he
  have i1 := h.isTup
  have f1 := h.isTup; have f2 := h.len; have f3 := h.lenOk ty39; have f0 := h.one
  have f4 := fun hp => h.con hp
  have f5 := h.idx (T := ty Tryd.prog) (t := 39) (by simp only [elemI, sizeO, ty3, ty4, ty9, ty39, ty65])
  have f6 := h.loadD evC_len evZ
  unfold run
  rw [Run_z Tryd.func98 rfl (by rfl : ok 98 = true) (by rfl : cfg.keep 98 = [0, 2, 3, 4, 5, 6, 7, 8, 9, 11, 12, 13, 14, 33, 36, 49, 54, 55, 62, 64, 69, 78, 84, 88, 108, 112, 121, 122]) (by rfl : cfg.mode 98 = .pure) (by rfl : cfg.ord 98 = [])]
  simp (config := {contextual := true, maxSteps := 10000000, implicitDefEqProofs := false}) (disch := first | (and_intros <;> omega -splitDisjunctions) | (simp only [List.length_set, List.length_append, List.length_cons, List.length_nil]; and_intros <;> omega -splitDisjunctions) | fail) only [f0, f1, f2, f3, f4, f5, f6, Tryd.f98, go_sem, ↓reduceIte, Nat.reduceEqDiff, Nat.reduceAdd, Nat.reduceMul, Nat.reduceLT, Nat.reduceLeDiff, reduceCtorEq, Int.reduceNe, Int.reduceEq, Int.reduceLT, Int.reduceLE, Int.reduceAdd, Int.reduceSub, Int.reduceMul, Int.reduceNeg, Int.reduceToNat, UInt8.reduceToNat, natLit, ty3, ty4, ty9, ty39, ty65, ty67]
  refine at_loopE fun c R hc hR => ?_
  have key : ∀ (m : Nat) (j : Nat) (jj : Int) (s : NS) (u : V) (B : LH) (x2 x5 x6 x7 x8 x9 x14 x33 x36 x49 x54 x55 x62 x64 x69 x78 x84 x88 x108 x112 x121 x122 : Option V), es.length - j < m → jj = j → j ≤ es.length → Hx H B → SAt H.length B u s.st → Few j s → Kd s → 0 < j →
      zEv (leaveX (mkR Tryd.prog cfg ok [0, 2, 3, 4, 5, 6, 7, 8, 9, 11, 12, 13, 14, 33, 36, 49, 54, 55, 62, 64, 69, 78, 84, 88, 108, 112, 121, 122] H.length) .pure H [ResultVar.tmp 2]) (mkR Tryd.prog cfg ok [0, 2, 3, 4, 5, 6, 7, 8, 9, 11, 12, 13, 14, 33, 36, 49, 54, 55, 62, 64, 69, 78, 84, 88, 108, 112, 121, 122] H.length) (K.code (Code.loop c) :: K.blk 0 :: R) .nrm [some v, x2, some u, some (.int .i64 s.doc), x5, x6, x7, x8, x9, some v, some (.int .i64 es.length), some (.int .i64 jj), x14, x33, x36, x49, x54, x55, x62, x64, x69, x78, x84, x88, x108, x112, x121, x122] (B) = some (.bool (goN s (es.drop j)), H) := by
    intro m
    induction m with
    | zero => intro j jj s u B x2 x5 x6 x7 x8 x9 x14 x33 x36 x49 x54 x55 x62 x64 x69 x78 x84 x88 x108 x112 x121 x122 hm; omega
    | succ m ih =>
      intro j jj s u B x2 x5 x6 x7 x8 x9 x14 x33 x36 x49 x54 x55 x62 x64 x69 x78 x84 x88 x108 x112 x121 x122 hm hj hle hxB hS hF hKd hj0
      subst hj
      by_cases hlt : j < es.length
      rotate_left
      · have t1 : ((j : Int) < es.length) = False := eq_false (by omega)
        rw [List.drop_of_length_le (by omega)]
        unfold goN
        rw [zEv_round hc, ← hR]
        simp (config := {contextual := true, maxSteps := 10000000, implicitDefEqProofs := false}) (disch := first | (and_intros <;> omega -splitDisjunctions) | (simp only [List.length_set, List.length_append, List.length_cons, List.length_nil]; and_intros <;> omega -splitDisjunctions) | fail) only [t1, Tryd.f98, go_sem, ↓reduceIte, Nat.reduceEqDiff, Nat.reduceAdd, Nat.reduceMul, Nat.reduceLT, Nat.reduceLeDiff, reduceCtorEq, Int.reduceNe, Int.reduceEq, Int.reduceLT, Int.reduceLE, Int.reduceAdd, Int.reduceSub, Int.reduceMul, Int.reduceNeg, Int.reduceToNat, UInt8.reduceToNat, natLit, ty3, ty4, ty9, ty39, ty65, ty67]
      have t1 : ((j : Int) < es.length) = True := eq_true (by omega)
      have t2 : ((j : Int) = 0) = False := eq_false (by omega)
      have hlB := hxB.len
      have rB := h.ext hxB
      have k1 := rB.isTup; have k2 := rB.len; have k3 := rB.lenOk ty39; have k0 := rB.one
      have k4 := fun hp => rB.con hp
      have k5 := rB.idx (T := ty Tryd.prog) (t := 39) (by simp only [elemI, sizeO, ty3, ty4, ty9, ty39, ty65])
      have k6 := rB.loadD evC_len evZ
      have k6 := k6 j hlt
      have hd := List.drop_eq_getElem_cons hlt
      rw [← getD_of hlt evZ] at hd
      have hfe := hes _ (show es.getD j evZ ∈ es by rw [getD_of hlt]; exact List.getElem_mem _)
      have e2 := e1 _ hfe
      have hem : (es.drop (j + 1)).isEmpty = decide ((j : Int) = (es.length : Int) - 1) := by
        rw [Bool.eq_iff_iff, List.isEmpty_iff, List.drop_eq_nil_iff, decide_eq_true_iff]; omega
      rw [hd]
      unfold goN
      by_cases ho : EvOk (es.getD j evZ)
      rotate_left
      · rw [if_pos ho]
        simp only [decide_eq_false ho] at e2
        generalize es.getD j evZ = ev at *
        obtain ⟨kind, style, flag, text, anchor, tag, place, code⟩ := ev
        unfold run evC at *
        rw [zEv_round hc, ← hR]
        simp (config := {contextual := true, maxSteps := 10000000, implicitDefEqProofs := false}) (disch := first | (and_intros <;> omega -splitDisjunctions) | (simp only [List.length_set, List.length_append, List.length_cons, List.length_nil]; and_intros <;> omega -splitDisjunctions) | fail) only [t1, t2, k0, k1, k2, k3, k4, k5, k6, e2, Tryd.f98, go_sem, ↓reduceIte, Nat.reduceEqDiff, Nat.reduceAdd, Nat.reduceMul, Nat.reduceLT, Nat.reduceLeDiff, reduceCtorEq, Int.reduceNe, Int.reduceEq, Int.reduceLT, Int.reduceLE, Int.reduceAdd, Int.reduceSub, Int.reduceMul, Int.reduceNeg, Int.reduceToNat, UInt8.reduceToNat, natLit, ty3, ty4, ty9, ty39, ty65, ty67]
      rw [if_neg (by simpa using ho), hem]
      simp only [decide_eq_true ho] at e2
      obtain ⟨kb, g, hu, hcb, hkb⟩ := hS
      have hkB := cellsAt_lt hcb
      have hcB : ∀ L, LH.cellsAt (B ++ L) kb = some (opn s.st ++ g) := fun L => cellsAt_left hcb
      have hmf := fun t hs => stepN_few (t := t) (k := (es.getD j evZ).kind) hF hs
      have hmk := fun t hs => stepN_kd (t := t) (k := (es.getD j evZ).kind) hKd hs
      have hkk := ten ho.1.1 ho.1.2
      obtain ⟨ev, hev2⟩ : ∃ ev, es.getD j evZ = ev := ⟨_, rfl⟩
      have hev3 := hev2
      simp only [hev2] at e2 k6 hmf hmk hkk ⊢
      obtain ⟨kind, style, flag, text, anchor, tag, place, code⟩ := ev
      have hx2 : ∀ L, Hx H (B ++ L) := fun L => hxB.trans Hx.app
      have hx3 : ∀ x L, Hx H (B.set kb x ++ L) := fun x L => (hxB.set hkb).trans Hx.app
      have sw : ∀ L x, List.set (B ++ L) kb x = List.set B kb x ++ L := fun L x => List.set_append_left _ _ hkB
      have sw2 : ∀ L x y, List.set (List.set B kb x ++ L) kb y = List.set B kb y ++ L := fun L x y => by rw [List.set_append_left _ _ (by rw [List.length_set]; exact hkB), List.set_set]
      have c4 : ∀ x L, LH.cellsAt (List.set B kb x ++ L) B.length = LH.cellsAt L 0 := fun x L => cellsAt_appS0 B L kb x
      have c6 : ∀ x L i, LH.cellsAt (List.set B kb x ++ L) (B.length + i) = LH.cellsAt L i := fun x L i => cellsAt_appS B L kb i x
      have c5 : ∀ x L, LH.cellsAt (List.set B kb (.cells x) ++ L) kb = some x := fun x L => cellsAt_left (cellsAt_set hkB)
      obtain ⟨doc, st⟩ := s
      simp only at hmf hmk hkk hu hcb hcB ⊢
      subst hu
      clear hev2 hd hem hfe ho
      have hl0 := hF.1
      simp only at hl0
      rcases hkk with rfl | rfl | rfl | rfl | rfl | rfl | rfl | rfl | rfl | rfl
      · unfold run evC at *
        rw [zEv_round hc, ← hR]
        simp (config := {contextual := true, maxSteps := 10000000, implicitDefEqProofs := false}) (disch := first | (and_intros <;> omega -splitDisjunctions) | (simp only [List.length_set, List.length_append, List.length_cons, List.length_nil]; and_intros <;> omega -splitDisjunctions) | fail) only [t1, t2, k0, k1, k2, k3, k4, k5, k6, e2, Tryd.f98, go_sem, ↓reduceIte, Nat.reduceEqDiff, Nat.reduceAdd, Nat.reduceMul, Nat.reduceLT, Nat.reduceLeDiff, reduceCtorEq, Int.reduceNe, Int.reduceEq, Int.reduceLT, Int.reduceLE, Int.reduceAdd, Int.reduceSub, Int.reduceMul, Int.reduceNeg, Int.reduceToNat, UInt8.reduceToNat, natLit, ty3, ty4, ty9, ty39, ty65, ty67]
        rfl
      · by_cases hd : doc = 0
        · subst hd
          have hst : stepN ⟨0, st⟩ 2 = some ⟨1, st⟩ := rfl
          rw [hst]
          unfold run evC at *
          rw [zEv_round hc, ← hR]
          simp (config := {contextual := true, maxSteps := 10000000, implicitDefEqProofs := false}) (disch := first | (and_intros <;> omega -splitDisjunctions) | (simp only [List.length_set, List.length_append, List.length_cons, List.length_nil]; and_intros <;> omega -splitDisjunctions) | fail) only [t1, t2, k0, k1, k2, k3, k4, k5, k6, e2, Tryd.f98, go_sem, ↓reduceIte, Nat.reduceEqDiff, Nat.reduceAdd, Nat.reduceMul, Nat.reduceLT, Nat.reduceLeDiff, reduceCtorEq, Int.reduceNe, Int.reduceEq, Int.reduceLT, Int.reduceLE, Int.reduceAdd, Int.reduceSub, Int.reduceMul, Int.reduceNeg, Int.reduceToNat, UInt8.reduceToNat, natLit, ty3, ty4, ty9, ty39, ty65, ty67]
          rw [hR]
          exact ih (j + 1) ((j : Int) + 1) ⟨_, _⟩ _ _ _ _ _ _ _ _ _ _ _ _ _ _ _ _ _ _ _ _ _ _ _ _ (by omega) (by omega) (by omega) (hx2 _) ⟨kb, g, by simp, hcB _, hkb⟩ (hmf _ hst) (hmk _ hst) (by omega)
        · have hst : stepN ⟨doc, st⟩ 2 = none := if_neg hd
          rw [hst]
          unfold run evC at *
          rw [zEv_round hc, ← hR]
          simp (config := {contextual := true, maxSteps := 10000000, implicitDefEqProofs := false}) (disch := first | (and_intros <;> omega -splitDisjunctions) | (simp only [List.length_set, List.length_append, List.length_cons, List.length_nil]; and_intros <;> omega -splitDisjunctions) | fail) only [t1, t2, k0, k1, k2, k3, k4, k5, k6, e2, hd, Tryd.f98, go_sem, ↓reduceIte, Nat.reduceEqDiff, Nat.reduceAdd, Nat.reduceMul, Nat.reduceLT, Nat.reduceLeDiff, reduceCtorEq, Int.reduceNe, Int.reduceEq, Int.reduceLT, Int.reduceLE, Int.reduceAdd, Int.reduceSub, Int.reduceMul, Int.reduceNeg, Int.reduceToNat, UInt8.reduceToNat, natLit, ty3, ty4, ty9, ty39, ty65, ty67]
      · by_cases hst : stepN ⟨doc, st⟩ 3 = none
        · rw [hst]
          have hst0 : stepN ⟨doc, st⟩ 3 = (nodeN ⟨doc, st⟩).map (fun t => (⟨t.doc, t.st ++ [(3, 0)]⟩ : NS)) := rfl
          have hno : st = [] ∧ doc ≠ 1 := by
            rw [hst0] at hst
            unfold nodeN at hst
            by_cases h0 : st = []
            · subst h0
              by_cases hd : doc = 1
              · subst hd; cases hst
              · exact ⟨rfl, hd⟩
            · simp only [h0, if_false] at hst; cases hst
          obtain ⟨h0, hd⟩ := hno
          subst h0
          simp only [List.length_nil] at *
          unfold run evC at *
          rw [zEv_round hc, ← hR]
          simp (config := {contextual := true, maxSteps := 10000000, implicitDefEqProofs := false}) (disch := first | (and_intros <;> omega -splitDisjunctions) | (simp only [List.length_set, List.length_append, List.length_cons, List.length_nil]; and_intros <;> omega -splitDisjunctions) | fail) only [t1, t2, k0, k1, k2, k3, k4, k5, k6, e2, hd, Tryd.f98, go_sem, ↓reduceIte, Nat.reduceEqDiff, Nat.reduceAdd, Nat.reduceMul, Nat.reduceLT, Nat.reduceLeDiff, reduceCtorEq, Int.reduceNe, Int.reduceEq, Int.reduceLT, Int.reduceLE, Int.reduceAdd, Int.reduceSub, Int.reduceMul, Int.reduceNeg, Int.reduceToNat, UInt8.reduceToNat, natLit, ty3, ty4, ty9, ty39, ty65, ty67]
        · simp only [Int.reduceEq, if_false]
          exact nst_rnd3 v es fl H h hl j hlt hj0 B hxB doc st kb g hcb hkb hF hKd (by rw [hev3]; exact e2) (by rw [hev3]) hst c R (by subst hc; rfl) (fun s u B x2 x5 x6 x7 x8 x9 x14 x33 x36 x49 x54 x55 x62 x64 x69 x78 x84 x88 x108 x112 x121 x122 a1 a2 a3 a4 => ih (j + 1) ((j : Int) + 1) s u B _ _ _ _ _ _ _ _ _ _ _ _ _ _ _ _ _ _ _ _ _ _ (by omega) (by omega) (by omega) a1 a2 a3 a4 (by omega)) _ _ _ _ _ _ _ _ _ _ _ _ _ _ _ _ _ _ _ _ _ _
      · by_cases hst : stepN ⟨doc, st⟩ 4 = none
        · rw [hst]
          have hst0 : stepN ⟨doc, st⟩ 4 = (nodeN ⟨doc, st⟩).map (fun t => (⟨t.doc, t.st ++ [(4, 0)]⟩ : NS)) := rfl
          have hno : st = [] ∧ doc ≠ 1 := by
            rw [hst0] at hst
            unfold nodeN at hst
            by_cases h0 : st = []
            · subst h0
              by_cases hd : doc = 1
              · subst hd; cases hst
              · exact ⟨rfl, hd⟩
            · simp only [h0, if_false] at hst; cases hst
          obtain ⟨h0, hd⟩ := hno
          subst h0
          simp only [List.length_nil] at *
          unfold run evC at *
          rw [zEv_round hc, ← hR]
          simp (config := {contextual := true, maxSteps := 10000000, implicitDefEqProofs := false}) (disch := first | (and_intros <;> omega -splitDisjunctions) | (simp only [List.length_set, List.length_append, List.length_cons, List.length_nil]; and_intros <;> omega -splitDisjunctions) | fail) only [t1, t2, k0, k1, k2, k3, k4, k5, k6, e2, hd, Tryd.f98, go_sem, ↓reduceIte, Nat.reduceEqDiff, Nat.reduceAdd, Nat.reduceMul, Nat.reduceLT, Nat.reduceLeDiff, reduceCtorEq, Int.reduceNe, Int.reduceEq, Int.reduceLT, Int.reduceLE, Int.reduceAdd, Int.reduceSub, Int.reduceMul, Int.reduceNeg, Int.reduceToNat, UInt8.reduceToNat, natLit, ty3, ty4, ty9, ty39, ty65, ty67]
        · simp only [Int.reduceEq, if_false]
          exact nst_rnd4 v es fl H h hl j hlt hj0 B hxB doc st kb g hcb hkb hF hKd (by rw [hev3]; exact e2) (by rw [hev3]) hst c R (by subst hc; rfl) (fun s u B x2 x5 x6 x7 x8 x9 x14 x33 x36 x49 x54 x55 x62 x64 x69 x78 x84 x88 x108 x112 x121 x122 a1 a2 a3 a4 => ih (j + 1) ((j : Int) + 1) s u B _ _ _ _ _ _ _ _ _ _ _ _ _ _ _ _ _ _ _ _ _ _ (by omega) (by omega) (by omega) a1 a2 a3 a4 (by omega)) _ _ _ _ _ _ _ _ _ _ _ _ _ _ _ _ _ _ _ _ _ _
      · by_cases hst : stepN ⟨doc, st⟩ 5 = none
        · rw [hst]
          have hst0 : stepN ⟨doc, st⟩ 5 = nodeN ⟨doc, st⟩ := rfl
          have hno : st = [] ∧ doc ≠ 1 := by
            rw [hst0] at hst
            unfold nodeN at hst
            by_cases h0 : st = []
            · subst h0
              by_cases hd : doc = 1
              · subst hd; cases hst
              · exact ⟨rfl, hd⟩
            · simp only [h0, if_false] at hst; cases hst
          obtain ⟨h0, hd⟩ := hno
          subst h0
          simp only [List.length_nil] at *
          unfold run evC at *
          rw [zEv_round hc, ← hR]
          simp (config := {contextual := true, maxSteps := 10000000, implicitDefEqProofs := false}) (disch := first | (and_intros <;> omega -splitDisjunctions) | (simp only [List.length_set, List.length_append, List.length_cons, List.length_nil]; and_intros <;> omega -splitDisjunctions) | fail) only [t1, t2, k0, k1, k2, k3, k4, k5, k6, e2, hd, Tryd.f98, go_sem, ↓reduceIte, Nat.reduceEqDiff, Nat.reduceAdd, Nat.reduceMul, Nat.reduceLT, Nat.reduceLeDiff, reduceCtorEq, Int.reduceNe, Int.reduceEq, Int.reduceLT, Int.reduceLE, Int.reduceAdd, Int.reduceSub, Int.reduceMul, Int.reduceNeg, Int.reduceToNat, UInt8.reduceToNat, natLit, ty3, ty4, ty9, ty39, ty65, ty67]
        · simp only [Int.reduceEq, if_false]
          exact nst_rnd5 v es fl H h hl j hlt hj0 B hxB doc st kb g hcb hkb hF hKd (by rw [hev3]; exact e2) (by rw [hev3]) hst c R (by subst hc; rfl) (fun s u B x2 x5 x6 x7 x8 x9 x14 x33 x36 x49 x54 x55 x62 x64 x69 x78 x84 x88 x108 x112 x121 x122 a1 a2 a3 a4 => ih (j + 1) ((j : Int) + 1) s u B _ _ _ _ _ _ _ _ _ _ _ _ _ _ _ _ _ _ _ _ _ _ (by omega) (by omega) (by omega) a1 a2 a3 a4 (by omega)) _ _ _ _ _ _ _ _ _ _ _ _ _ _ _ _ _ _ _ _ _ _
      · by_cases hst : stepN ⟨doc, st⟩ 6 = none
        · rw [hst]
          have hst0 : stepN ⟨doc, st⟩ 6 = nodeN ⟨doc, st⟩ := rfl
          have hno : st = [] ∧ doc ≠ 1 := by
            rw [hst0] at hst
            unfold nodeN at hst
            by_cases h0 : st = []
            · subst h0
              by_cases hd : doc = 1
              · subst hd; cases hst
              · exact ⟨rfl, hd⟩
            · simp only [h0, if_false] at hst; cases hst
          obtain ⟨h0, hd⟩ := hno
          subst h0
          simp only [List.length_nil] at *
          unfold run evC at *
          rw [zEv_round hc, ← hR]
          simp (config := {contextual := true, maxSteps := 10000000, implicitDefEqProofs := false}) (disch := first | (and_intros <;> omega -splitDisjunctions) | (simp only [List.length_set, List.length_append, List.length_cons, List.length_nil]; and_intros <;> omega -splitDisjunctions) | fail) only [t1, t2, k0, k1, k2, k3, k4, k5, k6, e2, hd, Tryd.f98, go_sem, ↓reduceIte, Nat.reduceEqDiff, Nat.reduceAdd, Nat.reduceMul, Nat.reduceLT, Nat.reduceLeDiff, reduceCtorEq, Int.reduceNe, Int.reduceEq, Int.reduceLT, Int.reduceLE, Int.reduceAdd, Int.reduceSub, Int.reduceMul, Int.reduceNeg, Int.reduceToNat, UInt8.reduceToNat, natLit, ty3, ty4, ty9, ty39, ty65, ty67]
        · simp only [Int.reduceEq, if_false]
          exact nst_rnd6 v es fl H h hl j hlt hj0 B hxB doc st kb g hcb hkb hF hKd (by rw [hev3]; exact e2) (by rw [hev3]) hst c R (by subst hc; rfl) (fun s u B x2 x5 x6 x7 x8 x9 x14 x33 x36 x49 x54 x55 x62 x64 x69 x78 x84 x88 x108 x112 x121 x122 a1 a2 a3 a4 => ih (j + 1) ((j : Int) + 1) s u B _ _ _ _ _ _ _ _ _ _ _ _ _ _ _ _ _ _ _ _ _ _ (by omega) (by omega) (by omega) a1 a2 a3 a4 (by omega)) _ _ _ _ _ _ _ _ _ _ _ _ _ _ _ _ _ _ _ _ _ _
      · by_cases h0 : st = []
        · subst h0
          have hst : stepN ⟨doc, []⟩ 7 = none := rfl
          rw [hst]
          simp only [List.length_nil] at *
          unfold run evC at *
          rw [zEv_round hc, ← hR]
          simp (config := {contextual := true, maxSteps := 10000000, implicitDefEqProofs := false}) (disch := first | (and_intros <;> omega -splitDisjunctions) | (simp only [List.length_set, List.length_append, List.length_cons, List.length_nil]; and_intros <;> omega -splitDisjunctions) | fail) only [t1, t2, k0, k1, k2, k3, k4, k5, k6, e2, Tryd.f98, go_sem, ↓reduceIte, Nat.reduceEqDiff, Nat.reduceAdd, Nat.reduceMul, Nat.reduceLT, Nat.reduceLeDiff, reduceCtorEq, Int.reduceNe, Int.reduceEq, Int.reduceLT, Int.reduceLE, Int.reduceAdd, Int.reduceSub, Int.reduceMul, Int.reduceNeg, Int.reduceToNat, UInt8.reduceToNat, natLit, ty3, ty4, ty9, ty39, ty65, ty67]
        have hp : 0 < st.length := List.length_pos_iff.2 h0
        obtain ⟨n, hn⟩ : ∃ n, st.length = n + 1 := ⟨st.length - 1, by omega⟩
        have q1 := fun g => opn_cell (l := st) (i := n) (by omega) g
        have q3 : (opn st ++ g).length = n + 1 + g.length := by rw [List.length_append, opn_len, hn]
        have hmem : st.getD n (0, 0) ∈ st := by rw [List.getD_eq_getElem?_getD, List.getElem?_eq_getElem (by omega)]; exact List.getElem_mem _
        have q2 := hF.2 _ hmem
        have q4 := hKd _ hmem
        have hlt2 := drop_last hn (0, 0)
        have htop : (⟨doc, st⟩ : NS).top = st.getD n (0, 0) := by unfold NS.top; simp only [hn, Nat.add_sub_cancel]
        have hs7 : stepN ⟨doc, st⟩ 7 = if st = [] ∨ ((⟨doc, st⟩ : NS).top.1 = 4 ∧ (⟨doc, st⟩ : NS).top.2 % 2 ≠ 0) then none else some ⟨doc, st.dropLast⟩ := rfl
        rw [htop] at hs7
        generalize htp : st.getD n (0, 0) = tp at *
        have t3 : ((((n : Nat) + 1 : Nat) : Int) - 1 < 0) = False := eq_false (by omega)
        have t4 : ((((n : Nat) + 1 : Nat) : Int) - 1).toNat = n := by omega
        have hdl : st.dropLast.length = n := by rw [List.length_dropLast]; omega
        have hfin : ∀ L, SAt H.length (B ++ L) (.sl kb 0 1 n (n + 1 + g.length)) st.dropLast := fun L => by
          refine ⟨kb, .int .i64 (if tp.1 = 3 then -1 else tp.2) :: g, ?_, ?_, hkb⟩
          · simp only [hdl, List.length_cons, show n + 1 + g.length = n + (g.length + 1) by omega]
          · rw [hcB]
            conv => lhs; rw [hlt2]
            simp [opn]
        rcases q4 with q4 | q4
        · have hst : stepN ⟨doc, st⟩ 7 = some ⟨doc, st.dropLast⟩ := by rw [hs7, if_neg (by rintro (h | h); exact h0 h; omega)]
          rw [hst]
          simp only [q4, if_true] at q1
          simp only [hn] at *
          unfold run evC at *
          rw [zEv_round hc, ← hR]
          simp (config := {contextual := true, maxSteps := 10000000, implicitDefEqProofs := false}) (disch := first | (and_intros <;> omega -splitDisjunctions) | (simp only [List.length_set, List.length_append, List.length_cons, List.length_nil]; and_intros <;> omega -splitDisjunctions) | fail) only [t1, t2, t3, t4, q1, q3, hcB, hn, Nat.sub_zero, k0, k1, k2, k3, k4, k5, k6, e2, Tryd.f98, go_sem, ↓reduceIte, Nat.reduceEqDiff, Nat.reduceAdd, Nat.reduceMul, Nat.reduceLT, Nat.reduceLeDiff, reduceCtorEq, Int.reduceNe, Int.reduceEq, Int.reduceLT, Int.reduceLE, Int.reduceAdd, Int.reduceSub, Int.reduceMul, Int.reduceNeg, Int.reduceToNat, UInt8.reduceToNat, natLit, ty3, ty4, ty9, ty39, ty65, ty67]
          rw [hR]
          exact ih (j + 1) ((j : Int) + 1) ⟨_, _⟩ _ _ _ _ _ _ _ _ _ _ _ _ _ _ _ _ _ _ _ _ _ _ _ _ (by omega) (by omega) (by omega) (hx2 _) (hfin _) (hmf _ hst) (hmk _ hst) (by omega)
        · have t5 : tp.2.tmod 2 = tp.2 % 2 := Int.tmod_eq_emod_of_nonneg q2.1
          simp only [q4, if_false, Int.reduceEq] at q1
          by_cases hm2 : tp.2 % 2 = 0
          · have hst : stepN ⟨doc, st⟩ 7 = some ⟨doc, st.dropLast⟩ := by rw [hs7, if_neg (by rintro (h | h); exact h0 h; exact h.2 hm2)]
            rw [hst]
            have t6 : (tp.2 % 2 = 1) = False := eq_false (by omega)
            simp only [hn] at *
            unfold run evC at *
            rw [zEv_round hc, ← hR]
            simp (config := {contextual := true, maxSteps := 10000000, implicitDefEqProofs := false}) (disch := first | (and_intros <;> omega -splitDisjunctions) | (simp only [List.length_set, List.length_append, List.length_cons, List.length_nil]; and_intros <;> omega -splitDisjunctions) | fail) only [t1, t2, t3, t4, t5, t6, q1, q3, hcB, hn, Nat.sub_zero, k0, k1, k2, k3, k4, k5, k6, e2, Tryd.f98, go_sem, ↓reduceIte, Nat.reduceEqDiff, Nat.reduceAdd, Nat.reduceMul, Nat.reduceLT, Nat.reduceLeDiff, reduceCtorEq, Int.reduceNe, Int.reduceEq, Int.reduceLT, Int.reduceLE, Int.reduceAdd, Int.reduceSub, Int.reduceMul, Int.reduceNeg, Int.reduceToNat, UInt8.reduceToNat, natLit, ty3, ty4, ty9, ty39, ty65, ty67]
            rw [hR]
            exact ih (j + 1) ((j : Int) + 1) ⟨_, _⟩ _ _ _ _ _ _ _ _ _ _ _ _ _ _ _ _ _ _ _ _ _ _ _ _ (by omega) (by omega) (by omega) (hx2 _) (hfin _) (hmf _ hst) (hmk _ hst) (by omega)
          · have hst : stepN ⟨doc, st⟩ 7 = none := by rw [hs7, if_pos (.inr ⟨q4, hm2⟩)]
            rw [hst]
            have t6 : (tp.2 % 2 = 1) = True := eq_true (by omega)
            have t7 : (0 < tp.2) = True := eq_true (by omega)
            simp only [hn] at *
            unfold run evC at *
            rw [zEv_round hc, ← hR]
            simp (config := {contextual := true, maxSteps := 10000000, implicitDefEqProofs := false}) (disch := first | (and_intros <;> omega -splitDisjunctions) | (simp only [List.length_set, List.length_append, List.length_cons, List.length_nil]; and_intros <;> omega -splitDisjunctions) | fail) only [t1, t2, t3, t4, t5, t6, t7, q1, q3, hcB, hn, Nat.sub_zero, k0, k1, k2, k3, k4, k5, k6, e2, Tryd.f98, go_sem, ↓reduceIte, Nat.reduceEqDiff, Nat.reduceAdd, Nat.reduceMul, Nat.reduceLT, Nat.reduceLeDiff, reduceCtorEq, Int.reduceNe, Int.reduceEq, Int.reduceLT, Int.reduceLE, Int.reduceAdd, Int.reduceSub, Int.reduceMul, Int.reduceNeg, Int.reduceToNat, UInt8.reduceToNat, natLit, ty3, ty4, ty9, ty39, ty65, ty67]
      · by_cases hd : doc = 2 ∧ st = []
        · obtain ⟨rfl, rfl⟩ := hd
          have hst : stepN ⟨2, []⟩ 8 = some ⟨0, []⟩ := rfl
          rw [hst]
          simp only [List.length_nil] at *
          unfold run evC at *
          rw [zEv_round hc, ← hR]
          simp (config := {contextual := true, maxSteps := 10000000, implicitDefEqProofs := false}) (disch := first | (and_intros <;> omega -splitDisjunctions) | (simp only [List.length_set, List.length_append, List.length_cons, List.length_nil]; and_intros <;> omega -splitDisjunctions) | fail) only [t1, t2, k0, k1, k2, k3, k4, k5, k6, e2, Tryd.f98, go_sem, ↓reduceIte, Nat.reduceEqDiff, Nat.reduceAdd, Nat.reduceMul, Nat.reduceLT, Nat.reduceLeDiff, reduceCtorEq, Int.reduceNe, Int.reduceEq, Int.reduceLT, Int.reduceLE, Int.reduceAdd, Int.reduceSub, Int.reduceMul, Int.reduceNeg, Int.reduceToNat, UInt8.reduceToNat, natLit, ty3, ty4, ty9, ty39, ty65, ty67]
          rw [hR]
          exact ih (j + 1) ((j : Int) + 1) ⟨_, _⟩ _ _ _ _ _ _ _ _ _ _ _ _ _ _ _ _ _ _ _ _ _ _ _ _ (by omega) (by omega) (by omega) (hx2 _) ⟨kb, g, by simp, hcB _, hkb⟩ (hmf _ hst) (hmk _ hst) (by omega)
        · have hst : stepN ⟨doc, st⟩ 8 = none := if_neg hd
          rw [hst]
          unfold run evC at *
          rw [zEv_round hc, ← hR]
          simp (config := {contextual := true, maxSteps := 10000000, implicitDefEqProofs := false}) (disch := first | (and_intros <;> omega -splitDisjunctions) | (simp only [List.length_set, List.length_append, List.length_cons, List.length_nil]; and_intros <;> omega -splitDisjunctions) | fail) only [t1, t2, k0, k1, k2, k3, k4, k5, k6, e2, Tryd.f98, go_sem, ↓reduceIte, Nat.reduceEqDiff, Nat.reduceAdd, Nat.reduceMul, Nat.reduceLT, Nat.reduceLeDiff, reduceCtorEq, Int.reduceNe, Int.reduceEq, Int.reduceLT, Int.reduceLE, Int.reduceAdd, Int.reduceSub, Int.reduceMul, Int.reduceNeg, Int.reduceToNat, UInt8.reduceToNat, natLit, ty3, ty4, ty9, ty39, ty65, ty67]
          rw [if_pos (by by_cases e : doc = 2; exact .inr (by have : st ≠ [] := fun e2 => hd ⟨e, e2⟩; have := List.length_pos_iff.2 this; omega); exact .inl e)]
      · unfold run evC at *
        rw [zEv_round hc, ← hR]
        simp (config := {contextual := true, maxSteps := 10000000, implicitDefEqProofs := false}) (disch := first | (and_intros <;> omega -splitDisjunctions) | (simp only [List.length_set, List.length_append, List.length_cons, List.length_nil]; and_intros <;> omega -splitDisjunctions) | fail) only [t1, t2, k0, k1, k2, k3, k4, k5, k6, e2, Tryd.f98, go_sem, ↓reduceIte, Nat.reduceEqDiff, Nat.reduceAdd, Nat.reduceMul, Nat.reduceLT, Nat.reduceLeDiff, reduceCtorEq, Int.reduceNe, Int.reduceEq, Int.reduceLT, Int.reduceLE, Int.reduceAdd, Int.reduceSub, Int.reduceMul, Int.reduceNeg, Int.reduceToNat, UInt8.reduceToNat, natLit, ty3, ty4, ty9, ty39, ty65, ty67]
      · unfold run evC at *
        rw [zEv_round hc, ← hR]
        simp (config := {contextual := true, maxSteps := 10000000, implicitDefEqProofs := false}) (disch := first | (and_intros <;> omega -splitDisjunctions) | (simp only [List.length_set, List.length_append, List.length_cons, List.length_nil]; and_intros <;> omega -splitDisjunctions) | fail) only [t1, t2, k0, k1, k2, k3, k4, k5, k6, e2, Tryd.f98, go_sem, ↓reduceIte, Nat.reduceEqDiff, Nat.reduceAdd, Nat.reduceMul, Nat.reduceLT, Nat.reduceLeDiff, reduceCtorEq, Int.reduceNe, Int.reduceEq, Int.reduceLT, Int.reduceLE, Int.reduceAdd, Int.reduceSub, Int.reduceMul, Int.reduceNeg, Int.reduceToNat, UInt8.reduceToNat, natLit, ty3, ty4, ty9, ty39, ty65, ty67]
  have hS0 : ∀ L, SAt H.length (H ++ .cells [] :: L) (.sl H.length 0 1 0 0) [] := fun L => ⟨H.length, [], rfl, by rw [cellsAt_app0]; rfl, Nat.le_refl _⟩
  by_cases h0 : es.length = 0
  · have : es = [] := List.length_eq_zero_iff.1 h0
    subst this
    have t1 : ((0 : Int) < (([] : List Ev).length : Nat)) = False := eq_false (by simp)
    rw [zEv_round hc, ← hR]
    simp (config := {contextual := true, maxSteps := 10000000, implicitDefEqProofs := false}) (disch := first | (and_intros <;> omega -splitDisjunctions) | (simp only [List.length_set, List.length_append, List.length_cons, List.length_nil]; and_intros <;> omega -splitDisjunctions) | fail) only [t1, Tryd.f98, go_sem, ↓reduceIte, Nat.reduceEqDiff, Nat.reduceAdd, Nat.reduceMul, Nat.reduceLT, Nat.reduceLeDiff, reduceCtorEq, Int.reduceNe, Int.reduceEq, Int.reduceLT, Int.reduceLE, Int.reduceAdd, Int.reduceSub, Int.reduceMul, Int.reduceNeg, Int.reduceToNat, UInt8.reduceToNat, natLit, ty3, ty4, ty9, ty39, ty65, ty67]
    rfl
  have hp0 : 0 < es.length := by omega
  have t1 : ((0 : Int) < es.length) = True := eq_true (by omega)
  have rB := h.ext (Hx.app (L := [.cells []]))
  have k1 := rB.isTup; have k2 := rB.len; have k3 := rB.lenOk ty39; have k0 := rB.one
  have k4 := fun hp => rB.con hp
  have k5 := rB.idx (T := ty Tryd.prog) (t := 39) (by simp only [elemI, sizeO, ty3, ty4, ty9, ty39, ty65])
  have k6 := rB.loadD evC_len evZ
  have k6 := fun K => k6 0 (by omega) K
  simp only [Nat.zero_mul, Nat.add_zero] at k6
  have hd := List.drop_eq_getElem_cons (show 0 < es.length by omega)
  rw [List.drop_zero, ← getD_of (show 0 < es.length by omega) evZ, Nat.zero_add] at hd
  have hfe := hes _ (show es.getD 0 evZ ∈ es by rw [getD_of (show 0 < es.length by omega)]; exact List.getElem_mem _)
  have e2 := e1 _ hfe
  have hM : nestedM es = (decide (EvOk (es.getD 0 evZ)) && decide ((es.getD 0 evZ).kind = 1) && goN ⟨0, []⟩ (es.drop 1)) := by
    conv => lhs; rw [hd]
    rfl
  rw [hM]
  by_cases ho : EvOk (es.getD 0 evZ)
  rotate_left
  · simp only [decide_eq_false ho, Bool.false_and] at e2 ⊢
    clear hM hd key
    generalize es.getD 0 evZ = ev at *
    obtain ⟨kind, style, flag, text, anchor, tag, place, code⟩ := ev
    unfold run evC at *
    rw [zEv_round hc, ← hR]
    simp (config := {contextual := true, maxSteps := 10000000, implicitDefEqProofs := false}) (disch := first | (and_intros <;> omega -splitDisjunctions) | (simp only [List.length_set, List.length_append, List.length_cons, List.length_nil]; and_intros <;> omega -splitDisjunctions) | fail) only [t1, k0, k1, k2, k3, k4, k5, k6, e2, Tryd.f98, go_sem, ↓reduceIte, Nat.reduceEqDiff, Nat.reduceAdd, Nat.reduceMul, Nat.reduceLT, Nat.reduceLeDiff, reduceCtorEq, Int.reduceNe, Int.reduceEq, Int.reduceLT, Int.reduceLE, Int.reduceAdd, Int.reduceSub, Int.reduceMul, Int.reduceNeg, Int.reduceToNat, UInt8.reduceToNat, natLit, ty3, ty4, ty9, ty39, ty65, ty67]
  by_cases hk1 : (es.getD 0 evZ).kind = 1
  rotate_left
  · simp only [decide_eq_true ho, decide_eq_false hk1, Bool.true_and, Bool.false_and] at e2 ⊢
    clear hM hd key
    generalize es.getD 0 evZ = ev at *
    obtain ⟨kind, style, flag, text, anchor, tag, place, code⟩ := ev
    simp only at hk1
    unfold run evC at *
    rw [zEv_round hc, ← hR]
    simp (config := {contextual := true, maxSteps := 10000000, implicitDefEqProofs := false}) (disch := first | (and_intros <;> omega -splitDisjunctions) | (simp only [List.length_set, List.length_append, List.length_cons, List.length_nil]; and_intros <;> omega -splitDisjunctions) | fail) only [t1, k0, k1, k2, k3, k4, k5, k6, e2, hk1, Tryd.f98, go_sem, ↓reduceIte, Nat.reduceEqDiff, Nat.reduceAdd, Nat.reduceMul, Nat.reduceLT, Nat.reduceLeDiff, reduceCtorEq, Int.reduceNe, Int.reduceEq, Int.reduceLT, Int.reduceLE, Int.reduceAdd, Int.reduceSub, Int.reduceMul, Int.reduceNeg, Int.reduceToNat, UInt8.reduceToNat, natLit, ty3, ty4, ty9, ty39, ty65, ty67]
  · simp only [decide_eq_true ho, decide_eq_true hk1, Bool.true_and] at e2 ⊢
    clear hM hd
    generalize es.getD 0 evZ = ev at *
    obtain ⟨kind, style, flag, text, anchor, tag, place, code⟩ := ev
    simp only at hk1
    subst hk1
    unfold run evC at *
    rw [zEv_round hc, ← hR]
    simp (config := {contextual := true, maxSteps := 10000000, implicitDefEqProofs := false}) (disch := first | (and_intros <;> omega -splitDisjunctions) | (simp only [List.length_set, List.length_append, List.length_cons, List.length_nil]; and_intros <;> omega -splitDisjunctions) | fail) only [t1, k0, k1, k2, k3, k4, k5, k6, e2, Tryd.f98, go_sem, ↓reduceIte, Nat.reduceEqDiff, Nat.reduceAdd, Nat.reduceMul, Nat.reduceLT, Nat.reduceLeDiff, reduceCtorEq, Int.reduceNe, Int.reduceEq, Int.reduceLT, Int.reduceLE, Int.reduceAdd, Int.reduceSub, Int.reduceMul, Int.reduceNeg, Int.reduceToNat, UInt8.reduceToNat, natLit, ty3, ty4, ty9, ty39, ty65, ty67]
    rw [hR]
    exact key (es.length + 1) 1 1 ⟨0, []⟩ _ _ _ _ _ _ _ _ _ _ _ _ _ _ _ _ _ _ _ _ _ _ _ _ (by omega) rfl (by omega) Hx.app (hS0 _) ⟨Nat.zero_le _, fun x hx => by cases hx⟩ (fun x hx => by cases hx) (by omega)
end Go.Proofs.YtcbjmggbbnpbpaaDoor.Lg
