/- Nested: the reference's round at a text. No condition. -/
import Derived.Test.YtcbjmggbbnpbpaaDoorCNst4
namespace Go.Proofs.YtcbjmggbbnpbpaaDoor.Lg
set_option linter.unusedSimpArgs false
set_option linter.unusedVariables false
set_option maxRecDepth 100000
set_option maxHeartbeats 40000000
open Go.Proofs.YtcbjmggbbnpbpaaDoor

theorem nst_rnd5 (v : V) (es : List Ev) (fl : Nat) (H : LH) (h : At H evC 8 v es) (hl : es.length ≤ 1048576) (j : Nat) (hlt : j < es.length) (hj0 : 0 < j) (B : LH) (hxB : Hx H B) (doc : Int) (st : List (Int × Int)) (kb : Nat) (g : List V)
    (hcb : B.cellsAt kb = some (opn st ++ g)) (hkb : H.length ≤ kb) (hF : Few j ⟨doc, st⟩) (hKd : Kd ⟨doc, st⟩) (e2 : ∀ fl H, run 125 [.agg (evC (es.getD j evZ))] fl H = some (.bool true, H)) (hk : (es.getD j evZ).kind = 5)
    (hne : stepN ⟨doc, st⟩ 5 ≠ none) (c : Code) (R : List K) (hc0 : Tryd.f98.body.bind loopOf = some c)
    (hih : ∀ (s : NS) (u : V) (B : LH) (x2 x5 x6 x7 x8 x9 x14 x33 x36 x49 x54 x55 x62 x64 x69 x78 x84 x88 x108 x112 x121 x122 : Option V), Hx H B → SAt H.length B u s.st → Few (j + 1) s → Kd s →
      zEv (leaveX (mkR Tryd.prog cfg ok [0, 2, 3, 4, 5, 6, 7, 8, 9, 11, 12, 13, 14, 33, 36, 49, 54, 55, 62, 64, 69, 78, 84, 88, 108, 112, 121, 122] H.length) .pure H [ResultVar.tmp 2]) (mkR Tryd.prog cfg ok [0, 2, 3, 4, 5, 6, 7, 8, 9, 11, 12, 13, 14, 33, 36, 49, 54, 55, 62, 64, 69, 78, 84, 88, 108, 112, 121, 122] H.length) (K.code (Code.loop c) :: K.blk 0 :: R) .nrm [some v, x2, some u, some (.int .i64 s.doc), x5, x6, x7, x8, x9, some v, some (.int .i64 es.length), some (.int .i64 ((j : Int) + 1)), x14, x33, x36, x49, x54, x55, x62, x64, x69, x78, x84, x88, x108, x112, x121, x122] B = some (.bool (goN s (es.drop (j + 1))), H))
    (x2 x5 x6 x7 x8 x9 x14 x33 x36 x49 x54 x55 x62 x64 x69 x78 x84 x88 x108 x112 x121 x122 : Option V) :
    zEv (leaveX (mkR Tryd.prog cfg ok [0, 2, 3, 4, 5, 6, 7, 8, 9, 11, 12, 13, 14, 33, 36, 49, 54, 55, 62, 64, 69, 78, 84, 88, 108, 112, 121, 122] H.length) .pure H [ResultVar.tmp 2]) (mkR Tryd.prog cfg ok [0, 2, 3, 4, 5, 6, 7, 8, 9, 11, 12, 13, 14, 33, 36, 49, 54, 55, 62, 64, 69, 78, 84, 88, 108, 112, 121, 122] H.length) (K.code (Code.loop c) :: K.blk 0 :: R) .nrm [some v, x2, some (.sl kb 0 1 st.length (st.length + g.length)), some (.int .i64 doc), x5, x6, x7, x8, x9, some v, some (.int .i64 es.length), some (.int .i64 (j : Int)), x14, x33, x36, x49, x54, x55, x62, x64, x69, x78, x84, x88, x108, x112, x121, x122] B = some (.bool (afterN ⟨doc, st⟩ 5 (es.drop (j + 1))), H) := by
  have i1 := h.isTup
  simp only [Tryd.f98, Option.bind_some, loopOf] at hc0
  have hc := Option.some.inj hc0
  clear hc0
  have f1 := h.isTup; have f2 := h.len; have f3 := h.lenOk ty39; have f0 := h.one
  have f4 := fun hp => h.con hp
  have f5 := h.idx (T := ty Tryd.prog) (t := 39) (by simp only [elemI, sizeO, ty3, ty4, ty9, ty39, ty65])
  have f6 := h.loadD evC_len evZ
  have t1 : ((j : Int) < es.length) = True := eq_true (by omega)
  have t2 : ((j : Int) = 0) = False := eq_false (by omega)
  have hlB := hxB.len
  have rB := h.ext hxB
  have k1 := rB.isTup; have k2 := rB.len; have k3 := rB.lenOk ty39; have k0 := rB.one
  have k4 := fun hp => rB.con hp
  have k5 := rB.idx (T := ty Tryd.prog) (t := 39) (by simp only [elemI, sizeO, ty3, ty4, ty9, ty39, ty65])
  have k6 := rB.loadD evC_len evZ
  have k6 := k6 j hlt
  have hkB := cellsAt_lt hcb
  have hcB : ∀ L, LH.cellsAt (B ++ L) kb = some (opn st ++ g) := fun L => cellsAt_left hcb
  have hmf := fun t hs => stepN_few (t := t) (k := (es.getD j evZ).kind) hF hs
  have hmk := fun t hs => stepN_kd (t := t) (k := (es.getD j evZ).kind) hKd hs
  generalize hev2 : es.getD j evZ = ev at *
  obtain ⟨kind, style, flag, text, anchor, tag, place, code⟩ := ev
  have hx2 : ∀ L, Hx H (B ++ L) := fun L => hxB.trans Hx.app
  have hx3 : ∀ x L, Hx H (B.set kb x ++ L) := fun x L => (hxB.set hkb).trans Hx.app
  have sw : ∀ L x, List.set (B ++ L) kb x = List.set B kb x ++ L := fun L x => List.set_append_left _ _ hkB
  have sw2 : ∀ L x y, List.set (List.set B kb x ++ L) kb y = List.set B kb y ++ L := fun L x y => by rw [List.set_append_left _ _ (by rw [List.length_set]; exact hkB), List.set_set]
  have c4 : ∀ x L, LH.cellsAt (List.set B kb x ++ L) B.length = LH.cellsAt L 0 := fun x L => cellsAt_appS0 B L kb x
  have c6 : ∀ x L i, LH.cellsAt (List.set B kb x ++ L) (B.length + i) = LH.cellsAt L i := fun x L i => cellsAt_appS B L kb i x
  have c5 : ∀ x L, LH.cellsAt (List.set B kb (.cells x) ++ L) kb = some x := fun x L => cellsAt_left (cellsAt_set hkB)
  simp only at hk
  have hl0 := hF.1
  simp only at hl0
  subst hk
  unfold afterN
  have hst0 : stepN ⟨doc, st⟩ 5 = nodeN ⟨doc, st⟩ := rfl
  rw [hst0] at hmf hmk ⊢
  by_cases h0 : st = []
  · subst h0
    simp only [List.length_nil] at *
    by_cases hd : doc = 1
    · subst hd
      have hst : nodeN ⟨1, []⟩ = some ⟨2, []⟩ := rfl
      rw [hst]
      unfold run evC at *
      rw [zEv_round hc]
      simp (config := {contextual := true, maxSteps := 10000000, implicitDefEqProofs := false}) (disch := first | (and_intros <;> omega -splitDisjunctions) | (simp only [List.length_set, List.length_append, List.length_cons, List.length_nil]; and_intros <;> omega -splitDisjunctions) | fail) only [t1, t2, k0, k1, k2, k3, k4, k5, k6, e2, Tryd.f98, go_sem, ↓reduceIte, Nat.reduceEqDiff, Nat.reduceAdd, Nat.reduceMul, Nat.reduceLT, Nat.reduceLeDiff, reduceCtorEq, Int.reduceNe, Int.reduceEq, Int.reduceLT, Int.reduceLE, Int.reduceAdd, Int.reduceSub, Int.reduceMul, Int.reduceNeg, Int.reduceToNat, UInt8.reduceToNat, natLit, ty3, ty4, ty9, ty39, ty65, ty67]
      exact hih ⟨_, _⟩ _ _ _ _ _ _ _ _ _ _ _ _ _ _ _ _ _ _ _ _ _ _ _ _ (hx2 _) ⟨kb, g, by simp, hcB _, hkb⟩ (hmf _ hst) (hmk _ hst)
    · have hst : nodeN ⟨doc, []⟩ = none := by unfold nodeN; rw [if_pos rfl, if_neg hd]
      exact absurd (by rw [hst0, hst]) hne
  · have hp : 0 < st.length := List.length_pos_iff.2 h0
    obtain ⟨n, hn⟩ : ∃ n, st.length = n + 1 := ⟨st.length - 1, by omega⟩
    have hq : PLift (st.length = n + 1) := ⟨hn⟩
    have q1 := fun g => opn_cell (l := st) (i := n) (by omega) g
    have q3 : (opn st ++ g).length = n + 1 + g.length := by rw [List.length_append, opn_len, hn]
    have hmem : st.getD n (0, 0) ∈ st := by rw [List.getD_eq_getElem?_getD, List.getElem?_eq_getElem (by omega)]; exact List.getElem_mem _
    have q2 := hF.2 _ hmem
    have q4 := hKd _ hmem
    have hst : nodeN ⟨doc, st⟩ = some ⟨doc, st.set n ((st.getD n (0, 0)).1, (st.getD n (0, 0)).2 + 1)⟩ := by
      unfold nodeN NS.top
      simp only [h0, if_false, hn, Nat.add_sub_cancel]
    rw [hst]
    generalize htp : st.getD n (0, 0) = tp at *
    have t3 : ((((n : Nat) + 1 : Nat) : Int) - 1 < 0) = False := eq_false (by omega)
    have t4 : ((((n : Nat) + 1 : Nat) : Int) - 1).toNat = n := by omega
    rcases q4 with q4 | q4
    · simp only [q4, if_true] at q1
      have hw : opn (st.set n (tp.1, tp.2 + 1)) = opn st := opn_same hn htp q4
      simp only [hn] at *
      unfold run evC at *
      rw [zEv_round hc]
      simp (config := {contextual := true, maxSteps := 10000000, implicitDefEqProofs := false}) (disch := first | (and_intros <;> omega -splitDisjunctions) | (simp only [List.length_set, List.length_append, List.length_cons, List.length_nil]; and_intros <;> omega -splitDisjunctions) | fail) only [t1, t2, t3, t4, q1, q3, hcB, hn, k0, k1, k2, k3, k4, k5, k6, e2, Tryd.f98, go_sem, ↓reduceIte, Nat.reduceEqDiff, Nat.reduceAdd, Nat.reduceMul, Nat.reduceLT, Nat.reduceLeDiff, reduceCtorEq, Int.reduceNe, Int.reduceEq, Int.reduceLT, Int.reduceLE, Int.reduceAdd, Int.reduceSub, Int.reduceMul, Int.reduceNeg, Int.reduceToNat, UInt8.reduceToNat, natLit, ty3, ty4, ty9, ty39, ty65, ty67]
      exact hih ⟨_, _⟩ _ _ _ _ _ _ _ _ _ _ _ _ _ _ _ _ _ _ _ _ _ _ _ _ (hx2 _) ⟨kb, g, by simp [hq.down], by rw [hw]; exact hcB _, hkb⟩ (hmf _ hst) (hmk _ hst)
    · simp only [q4, if_false, Int.reduceEq] at q1
      have hw : (opn st ++ g).set n (.int .i64 (tp.2 + 1)) = opn (st.set n (tp.1, tp.2 + 1)) ++ g := opn_up hn q4 g
      simp only [hn] at *
      unfold run evC at *
      rw [zEv_round hc]
      simp (config := {contextual := true, maxSteps := 10000000, implicitDefEqProofs := false}) (disch := first | (and_intros <;> omega -splitDisjunctions) | (simp only [List.length_set, List.length_append, List.length_cons, List.length_nil]; and_intros <;> omega -splitDisjunctions) | fail) only [t1, t2, t3, t4, q1, q2, q3, hw, sw, sw2, c4, c5, hcB, hn, k0, k1, k2, k3, k4, k5, k6, e2, Tryd.f98, go_sem, ↓reduceIte, Nat.reduceEqDiff, Nat.reduceAdd, Nat.reduceMul, Nat.reduceLT, Nat.reduceLeDiff, reduceCtorEq, Int.reduceNe, Int.reduceEq, Int.reduceLT, Int.reduceLE, Int.reduceAdd, Int.reduceSub, Int.reduceMul, Int.reduceNeg, Int.reduceToNat, UInt8.reduceToNat, natLit, ty3, ty4, ty9, ty39, ty65, ty67]
      exact hih ⟨_, _⟩ _ _ _ _ _ _ _ _ _ _ _ _ _ _ _ _ _ _ _ _ _ _ _ _ (hx3 _ _) ⟨kb, g, by simp [hq.down], c5 _ _, hkb⟩ (hmf _ hst) (hmk _ hst)
theorem nst_rnd6 (v : V) (es : List Ev) (fl : Nat) (H : LH) (h : At H evC 8 v es) (hl : es.length ≤ 1048576) (j : Nat) (hlt : j < es.length) (hj0 : 0 < j) (B : LH) (hxB : Hx H B) (doc : Int) (st : List (Int × Int)) (kb : Nat) (g : List V)
    (hcb : B.cellsAt kb = some (opn st ++ g)) (hkb : H.length ≤ kb) (hF : Few j ⟨doc, st⟩) (hKd : Kd ⟨doc, st⟩) (e2 : ∀ fl H, run 125 [.agg (evC (es.getD j evZ))] fl H = some (.bool true, H)) (hk : (es.getD j evZ).kind = 6)
    (hne : stepN ⟨doc, st⟩ 6 ≠ none) (c : Code) (R : List K) (hc0 : Tryd.f98.body.bind loopOf = some c)
    (hih : ∀ (s : NS) (u : V) (B : LH) (x2 x5 x6 x7 x8 x9 x14 x33 x36 x49 x54 x55 x62 x64 x69 x78 x84 x88 x108 x112 x121 x122 : Option V), Hx H B → SAt H.length B u s.st → Few (j + 1) s → Kd s →
      zEv (leaveX (mkR Tryd.prog cfg ok [0, 2, 3, 4, 5, 6, 7, 8, 9, 11, 12, 13, 14, 33, 36, 49, 54, 55, 62, 64, 69, 78, 84, 88, 108, 112, 121, 122] H.length) .pure H [ResultVar.tmp 2]) (mkR Tryd.prog cfg ok [0, 2, 3, 4, 5, 6, 7, 8, 9, 11, 12, 13, 14, 33, 36, 49, 54, 55, 62, 64, 69, 78, 84, 88, 108, 112, 121, 122] H.length) (K.code (Code.loop c) :: K.blk 0 :: R) .nrm [some v, x2, some u, some (.int .i64 s.doc), x5, x6, x7, x8, x9, some v, some (.int .i64 es.length), some (.int .i64 ((j : Int) + 1)), x14, x33, x36, x49, x54, x55, x62, x64, x69, x78, x84, x88, x108, x112, x121, x122] B = some (.bool (goN s (es.drop (j + 1))), H))
    (x2 x5 x6 x7 x8 x9 x14 x33 x36 x49 x54 x55 x62 x64 x69 x78 x84 x88 x108 x112 x121 x122 : Option V) :
    zEv (leaveX (mkR Tryd.prog cfg ok [0, 2, 3, 4, 5, 6, 7, 8, 9, 11, 12, 13, 14, 33, 36, 49, 54, 55, 62, 64, 69, 78, 84, 88, 108, 112, 121, 122] H.length) .pure H [ResultVar.tmp 2]) (mkR Tryd.prog cfg ok [0, 2, 3, 4, 5, 6, 7, 8, 9, 11, 12, 13, 14, 33, 36, 49, 54, 55, 62, 64, 69, 78, 84, 88, 108, 112, 121, 122] H.length) (K.code (Code.loop c) :: K.blk 0 :: R) .nrm [some v, x2, some (.sl kb 0 1 st.length (st.length + g.length)), some (.int .i64 doc), x5, x6, x7, x8, x9, some v, some (.int .i64 es.length), some (.int .i64 (j : Int)), x14, x33, x36, x49, x54, x55, x62, x64, x69, x78, x84, x88, x108, x112, x121, x122] B = some (.bool (afterN ⟨doc, st⟩ 6 (es.drop (j + 1))), H) := by
  have i1 := h.isTup
  simp only [Tryd.f98, Option.bind_some, loopOf] at hc0
  have hc := Option.some.inj hc0
  clear hc0
  have f1 := h.isTup; have f2 := h.len; have f3 := h.lenOk ty39; have f0 := h.one
  have f4 := fun hp => h.con hp
  have f5 := h.idx (T := ty Tryd.prog) (t := 39) (by simp only [elemI, sizeO, ty3, ty4, ty9, ty39, ty65])
  have f6 := h.loadD evC_len evZ
  have t1 : ((j : Int) < es.length) = True := eq_true (by omega)
  have t2 : ((j : Int) = 0) = False := eq_false (by omega)
  have hlB := hxB.len
  have rB := h.ext hxB
  have k1 := rB.isTup; have k2 := rB.len; have k3 := rB.lenOk ty39; have k0 := rB.one
  have k4 := fun hp => rB.con hp
  have k5 := rB.idx (T := ty Tryd.prog) (t := 39) (by simp only [elemI, sizeO, ty3, ty4, ty9, ty39, ty65])
  have k6 := rB.loadD evC_len evZ
  have k6 := k6 j hlt
  have hkB := cellsAt_lt hcb
  have hcB : ∀ L, LH.cellsAt (B ++ L) kb = some (opn st ++ g) := fun L => cellsAt_left hcb
  have hmf := fun t hs => stepN_few (t := t) (k := (es.getD j evZ).kind) hF hs
  have hmk := fun t hs => stepN_kd (t := t) (k := (es.getD j evZ).kind) hKd hs
  generalize hev2 : es.getD j evZ = ev at *
  obtain ⟨kind, style, flag, text, anchor, tag, place, code⟩ := ev
  have hx2 : ∀ L, Hx H (B ++ L) := fun L => hxB.trans Hx.app
  have hx3 : ∀ x L, Hx H (B.set kb x ++ L) := fun x L => (hxB.set hkb).trans Hx.app
  have sw : ∀ L x, List.set (B ++ L) kb x = List.set B kb x ++ L := fun L x => List.set_append_left _ _ hkB
  have sw2 : ∀ L x y, List.set (List.set B kb x ++ L) kb y = List.set B kb y ++ L := fun L x y => by rw [List.set_append_left _ _ (by rw [List.length_set]; exact hkB), List.set_set]
  have c4 : ∀ x L, LH.cellsAt (List.set B kb x ++ L) B.length = LH.cellsAt L 0 := fun x L => cellsAt_appS0 B L kb x
  have c6 : ∀ x L i, LH.cellsAt (List.set B kb x ++ L) (B.length + i) = LH.cellsAt L i := fun x L i => cellsAt_appS B L kb i x
  have c5 : ∀ x L, LH.cellsAt (List.set B kb (.cells x) ++ L) kb = some x := fun x L => cellsAt_left (cellsAt_set hkB)
  simp only at hk
  have hl0 := hF.1
  simp only at hl0
  subst hk
  unfold afterN
  have hst0 : stepN ⟨doc, st⟩ 6 = nodeN ⟨doc, st⟩ := rfl
  rw [hst0] at hmf hmk ⊢
  by_cases h0 : st = []
  · subst h0
    simp only [List.length_nil] at *
    by_cases hd : doc = 1
    · subst hd
      have hst : nodeN ⟨1, []⟩ = some ⟨2, []⟩ := rfl
      rw [hst]
      unfold run evC at *
      rw [zEv_round hc]
      simp (config := {contextual := true, maxSteps := 10000000, implicitDefEqProofs := false}) (disch := first | (and_intros <;> omega -splitDisjunctions) | (simp only [List.length_set, List.length_append, List.length_cons, List.length_nil]; and_intros <;> omega -splitDisjunctions) | fail) only [t1, t2, k0, k1, k2, k3, k4, k5, k6, e2, Tryd.f98, go_sem, ↓reduceIte, Nat.reduceEqDiff, Nat.reduceAdd, Nat.reduceMul, Nat.reduceLT, Nat.reduceLeDiff, reduceCtorEq, Int.reduceNe, Int.reduceEq, Int.reduceLT, Int.reduceLE, Int.reduceAdd, Int.reduceSub, Int.reduceMul, Int.reduceNeg, Int.reduceToNat, UInt8.reduceToNat, natLit, ty3, ty4, ty9, ty39, ty65, ty67]
      exact hih ⟨_, _⟩ _ _ _ _ _ _ _ _ _ _ _ _ _ _ _ _ _ _ _ _ _ _ _ _ (hx2 _) ⟨kb, g, by simp, hcB _, hkb⟩ (hmf _ hst) (hmk _ hst)
    · have hst : nodeN ⟨doc, []⟩ = none := by unfold nodeN; rw [if_pos rfl, if_neg hd]
      exact absurd (by rw [hst0, hst]) hne
  · have hp : 0 < st.length := List.length_pos_iff.2 h0
    obtain ⟨n, hn⟩ : ∃ n, st.length = n + 1 := ⟨st.length - 1, by omega⟩
    have hq : PLift (st.length = n + 1) := ⟨hn⟩
    have q1 := fun g => opn_cell (l := st) (i := n) (by omega) g
    have q3 : (opn st ++ g).length = n + 1 + g.length := by rw [List.length_append, opn_len, hn]
    have hmem : st.getD n (0, 0) ∈ st := by rw [List.getD_eq_getElem?_getD, List.getElem?_eq_getElem (by omega)]; exact List.getElem_mem _
    have q2 := hF.2 _ hmem
    have q4 := hKd _ hmem
    have hst : nodeN ⟨doc, st⟩ = some ⟨doc, st.set n ((st.getD n (0, 0)).1, (st.getD n (0, 0)).2 + 1)⟩ := by
      unfold nodeN NS.top
      simp only [h0, if_false, hn, Nat.add_sub_cancel]
    rw [hst]
    generalize htp : st.getD n (0, 0) = tp at *
    have t3 : ((((n : Nat) + 1 : Nat) : Int) - 1 < 0) = False := eq_false (by omega)
    have t4 : ((((n : Nat) + 1 : Nat) : Int) - 1).toNat = n := by omega
    rcases q4 with q4 | q4
    · simp only [q4, if_true] at q1
      have hw : opn (st.set n (tp.1, tp.2 + 1)) = opn st := opn_same hn htp q4
      simp only [hn] at *
      unfold run evC at *
      rw [zEv_round hc]
      simp (config := {contextual := true, maxSteps := 10000000, implicitDefEqProofs := false}) (disch := first | (and_intros <;> omega -splitDisjunctions) | (simp only [List.length_set, List.length_append, List.length_cons, List.length_nil]; and_intros <;> omega -splitDisjunctions) | fail) only [t1, t2, t3, t4, q1, q3, hcB, hn, k0, k1, k2, k3, k4, k5, k6, e2, Tryd.f98, go_sem, ↓reduceIte, Nat.reduceEqDiff, Nat.reduceAdd, Nat.reduceMul, Nat.reduceLT, Nat.reduceLeDiff, reduceCtorEq, Int.reduceNe, Int.reduceEq, Int.reduceLT, Int.reduceLE, Int.reduceAdd, Int.reduceSub, Int.reduceMul, Int.reduceNeg, Int.reduceToNat, UInt8.reduceToNat, natLit, ty3, ty4, ty9, ty39, ty65, ty67]
      exact hih ⟨_, _⟩ _ _ _ _ _ _ _ _ _ _ _ _ _ _ _ _ _ _ _ _ _ _ _ _ (hx2 _) ⟨kb, g, by simp [hq.down], by rw [hw]; exact hcB _, hkb⟩ (hmf _ hst) (hmk _ hst)
    · simp only [q4, if_false, Int.reduceEq] at q1
      have hw : (opn st ++ g).set n (.int .i64 (tp.2 + 1)) = opn (st.set n (tp.1, tp.2 + 1)) ++ g := opn_up hn q4 g
      simp only [hn] at *
      unfold run evC at *
      rw [zEv_round hc]
      simp (config := {contextual := true, maxSteps := 10000000, implicitDefEqProofs := false}) (disch := first | (and_intros <;> omega -splitDisjunctions) | (simp only [List.length_set, List.length_append, List.length_cons, List.length_nil]; and_intros <;> omega -splitDisjunctions) | fail) only [t1, t2, t3, t4, q1, q2, q3, hw, sw, sw2, c4, c5, hcB, hn, k0, k1, k2, k3, k4, k5, k6, e2, Tryd.f98, go_sem, ↓reduceIte, Nat.reduceEqDiff, Nat.reduceAdd, Nat.reduceMul, Nat.reduceLT, Nat.reduceLeDiff, reduceCtorEq, Int.reduceNe, Int.reduceEq, Int.reduceLT, Int.reduceLE, Int.reduceAdd, Int.reduceSub, Int.reduceMul, Int.reduceNeg, Int.reduceToNat, UInt8.reduceToNat, natLit, ty3, ty4, ty9, ty39, ty65, ty67]
      exact hih ⟨_, _⟩ _ _ _ _ _ _ _ _ _ _ _ _ _ _ _ _ _ _ _ _ _ _ _ _ (hx3 _ _) ⟨kb, g, by simp [hq.down], c5 _ _, hkb⟩ (hmf _ hst) (hmk _ hst)
end Go.Proofs.YtcbjmggbbnpbpaaDoor.Lg
