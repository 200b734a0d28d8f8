/- Nested: the nester goes over an event. No condition. -/
import Derived.Test.YtcbjmggbbnpbpaaDoorCNst
namespace Go.Proofs.YtcbjmggbbnpbpaaDoor.Lg
set_option linter.unusedSimpArgs false
set_option linter.unusedVariables false
set_option maxRecDepth 100000
set_option maxHeartbeats 40000000
open Go.Proofs.YtcbjmggbbnpbpaaDoor

theorem top_mem {s : NS} (h : s.st ≠ []) : s.top ∈ s.st := by
  have hp : 0 < s.st.length := List.length_pos_iff.2 h
  unfold NS.top
  rw [List.getD_eq_getElem?_getD, List.getElem?_eq_getElem (by omega)]
  exact List.getElem_mem _
/-- one more in a slice that has no room, and in one that has -/
theorem ap_full {fl kb n : Nat} {X : LH} {l : List V} (hc : X.cellsAt kb = some l) (hn : l.length = n) (hf : fl ≤ kb) (bytes : Nat) (hb : (n + 1) * bytes ≤ 1099511627776) (x : V) :
    appendV fl 1 bytes X 1 [x] (.sl kb 0 1 n n) = some (.sl X.length 0 1 (n + 1) (n + 1), X.set kb .dead ++ [.cells (l ++ [x])]) := by
  have hm : (n + 1) * bytes ≤ mostCells := by unfold mostCells; omega
  rw [appendV_sl, if_neg (by omega)]
  simp only [grd, if_true, appO, hc, hm, hf, and_self, growO, cut, hn, Nat.zero_add, Nat.mul_one, Nat.le_refl, List.drop_zero]
  rw [if_neg (by omega), List.take_of_length_le (by omega)]
theorem ap_room {fl kb n c : Nat} {X : LH} {l : List V} (hc : X.cellsAt kb = some l) (hn : l.length = c) (h : n < c) (hf : fl ≤ kb) (bytes : Nat) (x : V) :
    appendV fl 1 bytes X 1 [x] (.sl kb 0 1 n c) = some (.sl kb 0 1 (n + 1) c, X.set kb (.cells (l.set n x))) := by
  rw [appendV_sl]
  have h1 : n + 1 ≤ c := h
  have h2 : fl ≤ kb ∧ 0 + (n + 1) * 1 ≤ l.length := ⟨hf, by omega⟩
  rw [if_neg (by omega)]
  simp only [grd, if_true, appO, hc, h1, h2, and_self]
  simp only [Nat.zero_add, Nat.mul_one, putAt]
theorem ap_nil {fl : Nat} {X : LH} (bytes : Nat) (hb : bytes ≤ 1099511627776) (x : V) : appendV fl 1 bytes X 1 [x] .nilsl = some (.sl X.length 0 1 1 1, X ++ [.cells [x]]) := by
  have hm : 1 * bytes ≤ mostCells := by unfold mostCells; omega
  rw [appendV_nilsl, if_neg (by omega)]
  simp only [grd, hm, if_true]
theorem set_mid {l g : List V} {n : Nat} {y x : V} (h : l.length = n) : (l ++ y :: g).set n x = l ++ x :: g := by
  subst h
  rw [List.set_append_right _ _ (Nat.le_refl _), Nat.sub_self, List.set_cons_zero]
theorem nodeN_len {s t : NS} (h : nodeN s = some t) : t.st.length = s.st.length := by
  unfold nodeN at h
  by_cases h0 : s.st = []
  · rw [if_pos h0] at h
    by_cases h1 : s.doc = 1
    · rw [if_pos h1] at h; cases h; rw [h0]
    · rw [if_neg h1] at h; cases h
  · rw [if_neg h0] at h
    cases h
    exact List.length_set
theorem cellsAt_at {X L : LH} {n : Nat} (h : X.length = n) : LH.cellsAt (X ++ L) n = LH.cellsAt L 0 := by subst h; exact cellsAt_app0 X L
def inI (x : Int) : List V := [.int .i64 x]
theorem inI_len (x : Int) : (inI x).length = 1 := rfl
theorem rows_K (l : List (Int × Int)) : rows inI (l.map (·.1)) = stK l := by
  induction l with
  | nil => rfl
  | cons x l ih => simp [rows, stK, inI] at *; exact ih
theorem NAt.kinds {f : Nat} {H : LH} {b : Nat} {s : NS} (h : NAt f H b s) : ∃ kv mv, H.cellsAt b = some [.int .i64 s.doc, kv, mv] ∧ At H inI 1 kv (s.st.map (·.1)) := by
  rcases h with ⟨h1, h2⟩ | ⟨kb, mb, kl, ml, h1, h2, h3, h4, h5, h6, h7⟩
  · exact ⟨_, _, h2, .inl ⟨by rw [h1]; rfl, .inl rfl⟩⟩
  · refine ⟨_, _, h1, .inr ⟨kb, 0, _, _, by rw [List.length_map], h2, ?_, ?_⟩⟩
    · simp only [List.length_map, List.length_append, stK_len]; omega
    · rw [List.drop_zero, rows_K, List.length_map, Nat.mul_one, List.take_left' (stK_len _)]
theorem run_event {f b : Nat} {s : NS} {H : LH} {fl : Nat} (e : Ev) (h : NAt f H b s) (hb : b < f) (hm : ∀ x ∈ s.st, 0 ≤ x.2 ∧ x.2 ≤ 1099511627776) (hl : s.st.length ≤ 16777216) (hf : fl ≤ b) (hfH : f ≤ H.length) :
    Ret (fun w H' => match stepN s e.kind with | none => w = .bool false | some t => w = .bool true ∧ Fr f [b] H H' ∧ NAt f H' b t) (run 139 [.ptr b 0, .agg (evC e)] fl H) := by
  have h1 : NAt f (H ++ [.cells (evC e)]) b s := h.ext
  have hnode := run_node (fl := fl) h1 (h.nin (L := [.cells (evC e)])) hb hm (by omega) hf
  have hends := run_ends (fl := fl) h1 hb hm (by omega) hf
  have fr1 : ∀ L, Fr f [b] H (H ++ L) := fun L => Fr.app hfH
  have hx1 : ∀ L, NAt f (H ++ L) b s := fun L => h.ext
  obtain ⟨kv, mv, hcb, hA⟩ := h.kinds
  have hc : ∀ L, LH.cellsAt (H ++ L) b = some [.int .i64 s.doc, kv, mv] := fun L => cellsAt_left hcb
  have hbl := cellsAt_lt hcb
  obtain ⟨kind, style, flag, text, anchor, tag, place, code⟩ := e
  obtain ⟨doc, st⟩ := s
  have hset : ∀ L x, NAt f ((H ++ L).set b (.cells [.int .i64 x, kv, mv])) b ⟨x, st⟩ := fun L x => by
    rcases h with ⟨h1, h2⟩ | ⟨kb, mb, kl, ml, h1, h2, h3, h4, h5, h6, h7⟩
    · rw [h2] at hcb
      cases hcb
      exact .inl ⟨h1, cellsAt_set (by rw [List.length_append]; omega)⟩
    · rw [h1] at hcb
      cases hcb
      exact .inr ⟨kb, mb, kl, ml, cellsAt_set (by rw [List.length_append]; omega), by rw [cellsAt_set_ne (by omega)]; exact cellsAt_left h2, by rw [cellsAt_set_ne (by omega)]; exact cellsAt_left h3, h4, h5, h6, h7⟩
  have fin : ∀ L x, Fr f [b] H ((H ++ L).set b (.cells [.int .i64 x, kv, mv])) ∧ NAt f ((H ++ L).set b (.cells [.int .i64 x, kv, mv])) b ⟨x, st⟩ := fun L x => ⟨(fr1 L).trans (Fr.set (.inl (by simp))), hset L x⟩
  have frE := fr1 [.cells (evC ⟨kind, style, flag, text, anchor, tag, place, code⟩)]
  unfold evC at *
  simp only at *
  have f1 := hA.isTup; have f2 := hA.len; have f3 := hA.lenOk ty67; have f0 := hA.one
  have f4 := fun L hp => (hA.left (L := L)).con hp
  have f5 := hA.idx (T := ty Tryd.prog) (t := 67) (by simp only [elemI, sizeO, ty3, ty67])
  have f6 := fun L => (hA.left (L := L)).load1 0 (fun x => .int .i64 x) (fun _ => rfl)
  have hg : ∀ L, LH.cellsAt (H ++ L) H.length = LH.cellsAt L 0 := fun L => cellsAt_app0 H L
  rw [List.length_map] at f2
  by_cases k2 : kind = 2
  · subst k2
    unfold run at *
    rw [Run_zr Tryd.func139 rfl (by rfl : ok 139 = true) (by rfl : cfg.keep 139 = [0, 1, 3, 4, 5, 6, 7, 8, 16, 17, 28, 33, 59, 63]) (by rfl : cfg.mode 139 = .any) (by rfl : cfg.ord 139 = [(13, [0, 1, 2, 3, 4, 5, 6, 7, 8, 10, 11, 12, 13, 14, 9, 15, 16, 17, 18, 19, 20, 21], [(9, 13)])])]
    simp (config := {contextual := true, maxSteps := 10000000, implicitDefEqProofs := false}) (disch := first | (and_intros <;> omega -splitDisjunctions) | (simp only [List.length_set, List.length_append, List.length_cons, List.length_nil]; and_intros <;> omega -splitDisjunctions) | fail) only [hc, f0, f1, f2, f3, f4, f5, f6, hl, reC, findR, reR, reL, reO, List.idxOf_cons, List.filter_cons, List.filter_nil, Option.map_some, Option.map_none, Tryd.f139, go_sem, ↓reduceIte, Nat.reduceEqDiff, Nat.reduceAdd, Nat.reduceMul, Nat.reduceLT, Nat.reduceLeDiff, reduceCtorEq, Int.reduceNe, Int.reduceEq, Int.reduceLT, Int.reduceLE, Int.reduceAdd, Int.reduceSub, Int.reduceMul, Int.reduceNeg, Int.reduceToNat, UInt8.reduceToNat, natLit, ty3, ty4, ty9, ty65, ty67, ty148]
    simp only [stepN, if_true]
    by_cases hd : doc = 0
    · rw [if_pos hd]; exact ⟨by rw [hd]; rfl, fin _ _⟩
    · rw [if_neg hd]; simp [hd]
  by_cases k8 : kind = 8
  · subst k8
    unfold run at *
    rw [Run_zr Tryd.func139 rfl (by rfl : ok 139 = true) (by rfl : cfg.keep 139 = [0, 1, 3, 4, 5, 6, 7, 8, 16, 17, 28, 33, 59, 63]) (by rfl : cfg.mode 139 = .any) (by rfl : cfg.ord 139 = [(13, [0, 1, 2, 3, 4, 5, 6, 7, 8, 10, 11, 12, 13, 14, 9, 15, 16, 17, 18, 19, 20, 21], [(9, 13)])])]
    simp (config := {contextual := true, maxSteps := 10000000, implicitDefEqProofs := false}) (disch := first | (and_intros <;> omega -splitDisjunctions) | (simp only [List.length_set, List.length_append, List.length_cons, List.length_nil]; and_intros <;> omega -splitDisjunctions) | fail) only [hc, f0, f1, f2, f3, f4, f5, f6, reC, findR, reR, reL, reO, List.idxOf_cons, List.filter_cons, List.filter_nil, Option.map_some, Option.map_none, Tryd.f139, go_sem, ↓reduceIte, Nat.reduceEqDiff, Nat.reduceAdd, Nat.reduceMul, Nat.reduceLT, Nat.reduceLeDiff, reduceCtorEq, Int.reduceNe, Int.reduceEq, Int.reduceLT, Int.reduceLE, Int.reduceAdd, Int.reduceSub, Int.reduceMul, Int.reduceNeg, Int.reduceToNat, UInt8.reduceToNat, natLit, ty3, ty4, ty9, ty65, ty67, ty148]
    simp only [stepN, Int.reduceEq, if_true, if_false, or_self]
    by_cases hd : doc = 2 ∧ st = []
    · rw [if_pos hd]; exact ⟨by obtain ⟨rfl, rfl⟩ := hd; rfl, fin _ _⟩
    · rw [if_neg hd]
      have : ¬ (doc = 2 ∧ ((st.length : Nat) : Int) ≤ 0) := fun h => hd ⟨h.1, List.length_eq_zero_iff.1 (by omega)⟩
      simp only [this, decide_false]
  by_cases k7 : kind = 7
  · subst k7
    obtain ⟨w, H', e1, hw⟩ := hends
    unfold run at *
    rw [Run_zr Tryd.func139 rfl (by rfl : ok 139 = true) (by rfl : cfg.keep 139 = [0, 1, 3, 4, 5, 6, 7, 8, 16, 17, 28, 33, 59, 63]) (by rfl : cfg.mode 139 = .any) (by rfl : cfg.ord 139 = [(13, [0, 1, 2, 3, 4, 5, 6, 7, 8, 10, 11, 12, 13, 14, 9, 15, 16, 17, 18, 19, 20, 21], [(9, 13)])])]
    simp (config := {contextual := true, maxSteps := 10000000, implicitDefEqProofs := false}) (disch := first | (and_intros <;> omega -splitDisjunctions) | (simp only [List.length_set, List.length_append, List.length_cons, List.length_nil]; and_intros <;> omega -splitDisjunctions) | fail) only [hc, f0, f1, f2, f3, f4, f5, f6, e1, reC, findR, reR, reL, reO, List.idxOf_cons, List.filter_cons, List.filter_nil, Option.map_some, Option.map_none, Tryd.f139, go_sem, ↓reduceIte, Nat.reduceEqDiff, Nat.reduceAdd, Nat.reduceMul, Nat.reduceLT, Nat.reduceLeDiff, reduceCtorEq, Int.reduceNe, Int.reduceEq, Int.reduceLT, Int.reduceLE, Int.reduceAdd, Int.reduceSub, Int.reduceMul, Int.reduceNeg, Int.reduceToNat, UInt8.reduceToNat, natLit, ty3, ty4, ty9, ty65, ty67, ty148]
    cases hs : stepN ⟨doc, st⟩ 7 with
    | none => rw [hs] at hw; exact hw
    | some t => rw [hs] at hw; exact ⟨hw.1, frE.trans hw.2.1, hw.2.2⟩
  by_cases k5 : kind = 5 ∨ kind = 6
  · obtain ⟨w, H', e1, hf2, hN2, hw⟩ := hnode
    have hs : stepN ⟨doc, st⟩ kind = nodeN ⟨doc, st⟩ := by
      unfold stepN
      rw [if_neg (by omega), if_pos k5]
    rw [hs]
    have hfin : match nodeN ⟨doc, st⟩ with | none => w = .bool false | some t => w = .bool true ∧ Fr f [b] H H' ∧ NAt f H' b t := by
      cases hs : nodeN ⟨doc, st⟩ with
      | none => rw [hs] at hw; exact hw.1
      | some t => rw [hs] at hw; exact ⟨hw.1, frE.trans hf2, hw.2⟩
    rcases k5 with rfl | rfl
    all_goals
      unfold run at *
      rw [Run_zr Tryd.func139 rfl (by rfl : ok 139 = true) (by rfl : cfg.keep 139 = [0, 1, 3, 4, 5, 6, 7, 8, 16, 17, 28, 33, 59, 63]) (by rfl : cfg.mode 139 = .any) (by rfl : cfg.ord 139 = [(13, [0, 1, 2, 3, 4, 5, 6, 7, 8, 10, 11, 12, 13, 14, 9, 15, 16, 17, 18, 19, 20, 21], [(9, 13)])])]
      simp (config := {contextual := true, maxSteps := 10000000, implicitDefEqProofs := false}) (disch := first | (and_intros <;> omega -splitDisjunctions) | (simp only [List.length_set, List.length_append, List.length_cons, List.length_nil]; and_intros <;> omega -splitDisjunctions) | fail) only [hc, f0, f1, f2, f3, f4, f5, f6, e1, reC, findR, reR, reL, reO, List.idxOf_cons, List.filter_cons, List.filter_nil, Option.map_some, Option.map_none, Tryd.f139, go_sem, ↓reduceIte, Nat.reduceEqDiff, Nat.reduceAdd, Nat.reduceMul, Nat.reduceLT, Nat.reduceLeDiff, reduceCtorEq, Int.reduceNe, Int.reduceEq, Int.reduceLT, Int.reduceLE, Int.reduceAdd, Int.reduceSub, Int.reduceMul, Int.reduceNeg, Int.reduceToNat, UInt8.reduceToNat, natLit, ty3, ty4, ty9, ty65, ty67, ty148]
      exact hfin
  by_cases k3 : kind = 3 ∨ kind = 4
  · obtain ⟨w, A, e1, hf2, hN2, hw⟩ := hnode
    have hlA : H.length < A.length := by have := hf2.len; rw [List.length_append, List.length_singleton] at this; omega
    have hbox : LH.cellsAt A H.length = some [.int .i64 kind, .int .i64 style, .bool flag, .str text, .str anchor, .str tag, .int .i64 place, .int .i64 code] := by
      rw [cells_get (hN2 H.length (Nat.le_refl _)), hg, cellsAt_zero]
    have hboxL : ∀ L, LH.cellsAt (A ++ L) H.length = some [.int .i64 kind, .int .i64 style, .bool flag, .str text, .str anchor, .str tag, .int .i64 place, .int .i64 code] := fun L => cellsAt_left hbox
    have hs : stepN ⟨doc, st⟩ kind = (nodeN ⟨doc, st⟩).map (fun t => ⟨t.doc, t.st ++ [(kind, 0)]⟩) := by
      unfold stepN
      rw [if_neg (by omega), if_neg k5, if_pos k3]
    rw [hs]
    obtain ⟨t, hn, htl, ht⟩ : ∃ t, NAt f A b t ∧ t.st.length ≤ st.length ∧ ((nodeN ⟨doc, st⟩ = none ∧ w = .bool false) ∨ (nodeN ⟨doc, st⟩ = some t ∧ w = .bool true)) := by
      cases hs : nodeN ⟨doc, st⟩ with
      | none => rw [hs] at hw; obtain ⟨a, t, b, c⟩ := hw; exact ⟨t, b, by rw [c]; exact Nat.zero_le _, .inl ⟨rfl, a⟩⟩
      | some t => rw [hs] at hw; exact ⟨t, hw.2, Nat.le_of_eq (nodeN_len hs), .inr ⟨rfl, hw.1⟩⟩
    obtain ⟨td, ts⟩ := t
    simp only at htl
    have hfA : f ≤ A.length := by have := hf2.len; rw [List.length_append] at this; omega
    have fin3 : ∀ B v, Fr f [b] H B → NAt f B b ⟨td, ts ++ [(kind, 0)]⟩ → v = w →
        (match (nodeN ⟨doc, st⟩).map (fun t => (⟨t.doc, t.st ++ [(kind, 0)]⟩ : NS)) with | none => v = .bool false | some t => v = .bool true ∧ Fr f [b] H B ∧ NAt f B b t) := by
      intro B v hB hN hv
      subst hv
      rcases ht with ⟨e, e2⟩ | ⟨e, e2⟩
      · rw [e]; exact e2
      · rw [e]; exact ⟨e2, hB, hN⟩
    have hbA : b < A.length := by omega
    rcases hn with ⟨n1, n2⟩ | ⟨kb, mb, kl, ml, n1, n2, n3, n4, n5, n6, n7⟩
    · simp only at n1
      subst n1
      have c1 : ∀ L, LH.cellsAt (A ++ L) b = some [.int .i64 td, .nilsl, .nilsl] := fun L => cellsAt_left n2
      have c2 : ∀ L l, LH.cellsAt ((A ++ L).set b (.cells l)) b = some l := fun L l => cellsAt_set (by rw [List.length_append]; omega)
      have ap := fun X x => ap_nil (fl := fl) (X := X) 8 (by decide) x
      rcases k3 with rfl | rfl
      all_goals
        unfold run at *
        rw [Run_zr Tryd.func139 rfl (by rfl : ok 139 = true) (by rfl : cfg.keep 139 = [0, 1, 3, 4, 5, 6, 7, 8, 16, 17, 28, 33, 59, 63]) (by rfl : cfg.mode 139 = .any) (by rfl : cfg.ord 139 = [(13, [0, 1, 2, 3, 4, 5, 6, 7, 8, 10, 11, 12, 13, 14, 9, 15, 16, 17, 18, 19, 20, 21], [(9, 13)])])]
        simp only [reC, findR, reR, reL, reO, List.idxOf_cons, List.filter_cons, List.filter_nil, Option.map_some, Option.map_none, Tryd.f139, if_true, if_false, Nat.reduceEqDiff, Nat.reduceBEq, cond_true, cond_false, Nat.reduceAdd, List.map_cons, List.map_nil, List.append_nil, List.nil_append, List.cons_append, List.getElem?_cons_succ, List.getElem?_cons_zero, BEq.rfl, Nat.succ_ne_zero, Bool.false_eq_true]
        simp (config := {contextual := true, maxSteps := 10000000, implicitDefEqProofs := false}) (disch := first | (and_intros <;> omega -splitDisjunctions) | (simp only [List.length_set, List.length_append, List.length_cons, List.length_nil]; and_intros <;> omega -splitDisjunctions) | fail) only [hc, f0, f1, f2, f3, f4, f5, f6, e1, n2, c1, c2, ap, hbox, hboxL, List.set_set, reC, findR, reR, reL, reO, List.idxOf_cons, List.filter_cons, List.filter_nil, Option.map_some, Option.map_none, Tryd.f139, go_sem, ↓reduceIte, Nat.reduceEqDiff, Nat.reduceAdd, Nat.reduceMul, Nat.reduceLT, Nat.reduceLeDiff, reduceCtorEq, Int.reduceNe, Int.reduceEq, Int.reduceLT, Int.reduceLE, Int.reduceAdd, Int.reduceSub, Int.reduceMul, Int.reduceNeg, Int.reduceToNat, UInt8.reduceToNat, natLit, ty3, ty4, ty9, ty65, ty67, ty148]
        refine fin3 _ _ (frE.trans (hf2.trans ((Fr.app hfA).trans (Fr.set (.inl (by simp)))))) (.inr ⟨A.length + 2, A.length + 3, [], [], c2 _ _, ?_, ?_, rfl, by omega, by omega, by omega⟩) rfl
        · rw [cellsAt_set_ne (by omega), cellsAt_app]; rfl
        · rw [cellsAt_set_ne (by omega), cellsAt_app]; rfl
    · have hkA := cellsAt_lt n2
      have hmA := cellsAt_lt n3
      have c1 : ∀ L, LH.cellsAt (A ++ L) b = some [.int .i64 td, .sl kb 0 1 ts.length (ts.length + kl.length), .sl mb 0 1 ts.length (ts.length + kl.length)] := fun L => cellsAt_left n1
      have d1 : decide (b ≠ kb) = true := decide_eq_true (by omega)
      have d2 : decide (b ≠ mb) = true := decide_eq_true (by omega)
      simp only at *
      cases kl with
      | nil =>
        obtain rfl : ml = [] := by cases ml with | nil => rfl | cons x l => simp at n4
        simp only [List.append_nil, List.length_nil, Nat.add_zero] at *
        have ap1 : ∀ L x, appendV fl 1 8 (A ++ L) 1 [x] (.sl kb 0 1 ts.length ts.length) = some (.sl (A ++ L).length 0 1 (ts.length + 1) (ts.length + 1), (A ++ L).set kb .dead ++ [.cells (stK ts ++ [x])]) :=
          fun L x => ap_full (cellsAt_left n2) (stK_len ts) (by omega) 8 (by omega) x
        have ap2 : ∀ L M x, appendV fl 1 8 ((A ++ L).set kb .dead ++ M) 1 [x] (.sl mb 0 1 ts.length ts.length) = some (.sl ((A ++ L).set kb .dead ++ M).length 0 1 (ts.length + 1) (ts.length + 1), ((A ++ L).set kb .dead ++ M).set mb .dead ++ [.cells (stM ts ++ [x])]) :=
          fun L M x => ap_full (cellsAt_left (by rw [cellsAt_set_ne (by omega)]; exact cellsAt_left n3)) (stM_len ts) (by omega) 8 (by omega) x
        have c2 : ∀ L M N, LH.cellsAt (((A ++ L).set kb .dead ++ M).set mb .dead ++ N) b = some [.int .i64 td, .sl kb 0 1 ts.length ts.length, .sl mb 0 1 ts.length ts.length] := fun L M N =>
          cellsAt_left (by rw [cellsAt_set_ne (by omega)]; exact cellsAt_left (by rw [cellsAt_set_ne (by omega)]; exact c1 L))
        have c3 : ∀ L M N l, LH.cellsAt ((((A ++ L).set kb .dead ++ M).set mb .dead ++ N).set b (.cells l)) b = some l := fun L M N l => cellsAt_set (by simp only [List.length_append, List.length_set]; omega)
        have c4 : ∀ x y M, LH.cellsAt ((A ++ [x, Blk.cells y] : LH).set kb .dead ++ M) (A.length + 1) = some y := fun x y M => cellsAt_left (by rw [cellsAt_set_ne (by omega), cellsAt_app]; rfl)
        have fr : ∀ L M N l, Fr f [b] A ((((A ++ L).set kb .dead ++ M).set mb .dead ++ N).set b (.cells l)) := fun L M N l =>
          (Fr.app hfA).trans ((Fr.set (.inr n5)).trans ((Fr.app (by simp only [List.length_append, List.length_set]; omega)).trans ((Fr.set (.inr n6)).trans ((Fr.app (by simp only [List.length_append, List.length_set]; omega)).trans (Fr.set (.inl (by simp)))))))
        rcases k3 with rfl | rfl
        all_goals
          unfold run at *
          rw [Run_zr Tryd.func139 rfl (by rfl : ok 139 = true) (by rfl : cfg.keep 139 = [0, 1, 3, 4, 5, 6, 7, 8, 16, 17, 28, 33, 59, 63]) (by rfl : cfg.mode 139 = .any) (by rfl : cfg.ord 139 = [(13, [0, 1, 2, 3, 4, 5, 6, 7, 8, 10, 11, 12, 13, 14, 9, 15, 16, 17, 18, 19, 20, 21], [(9, 13)])])]
          simp only [reC, findR, reR, reL, reO, List.idxOf_cons, List.filter_cons, List.filter_nil, Option.map_some, Option.map_none, Tryd.f139, if_true, if_false, Nat.reduceEqDiff, Nat.reduceBEq, cond_true, cond_false, Nat.reduceAdd, List.map_cons, List.map_nil, List.append_nil, List.nil_append, List.cons_append, List.getElem?_cons_succ, List.getElem?_cons_zero, BEq.rfl, Nat.succ_ne_zero, Bool.false_eq_true]
          simp (config := {contextual := true, maxSteps := 10000000, implicitDefEqProofs := false}) (disch := first | (and_intros <;> omega -splitDisjunctions) | (simp only [List.length_set, List.length_append, List.length_cons, List.length_nil]; and_intros <;> omega -splitDisjunctions) | fail) only [hc, f0, f1, f2, f3, f4, f5, f6, e1, n1, c1, c2, c3, c4, d1, d2, ap1, ap2, hbox, hboxL, List.set_set, reC, findR, reR, reL, reO, List.idxOf_cons, List.filter_cons, List.filter_nil, Option.map_some, Option.map_none, Tryd.f139, go_sem, ↓reduceIte, Nat.reduceEqDiff, Nat.reduceAdd, Nat.reduceMul, Nat.reduceLT, Nat.reduceLeDiff, reduceCtorEq, Int.reduceNe, Int.reduceEq, Int.reduceLT, Int.reduceLE, Int.reduceAdd, Int.reduceSub, Int.reduceMul, Int.reduceNeg, Int.reduceToNat, UInt8.reduceToNat, natLit, ty3, ty4, ty9, ty65, ty67, ty148]
          refine fin3 _ _ (frE.trans (hf2.trans (fr _ _ _ _))) (.inr ⟨A.length + 2, A.length + 2 + 1, [], [], ?_, ?_, ?_, rfl, by omega, by omega, by omega⟩) rfl
          · rw [c3]; simp only [List.length_append, List.length_singleton, List.length_nil, Nat.add_zero]
          · rw [cellsAt_set_ne (by omega), cellsAt_left (cs := stK (ts ++ [(_, 0)]) ++ [])]
            rw [cellsAt_set_ne (by omega), cellsAt_at (by simp), cellsAt_zero]
            simp [stK]
          · rw [cellsAt_set_ne (by omega), cellsAt_at (by simp), cellsAt_zero]
            simp [stM]
      | cons k0 kl =>
        obtain ⟨m0, ml, rfl⟩ : ∃ m0 l, ml = m0 :: l := by cases ml with | nil => simp at n4 | cons x l => exact ⟨x, l, rfl⟩
        simp only [List.length_cons] at *
        have ap1 : ∀ L x, appendV fl 1 8 (A ++ L) 1 [x] (.sl kb 0 1 ts.length (ts.length + (kl.length + 1))) = some (.sl kb 0 1 (ts.length + 1) (ts.length + (kl.length + 1)), (A ++ L).set kb (.cells (stK ts ++ (x :: kl)))) := fun L x => by
          rw [ap_room (cellsAt_left n2) (by simp [stK_len]) (by omega) (by omega) 8 x, set_mid (stK_len ts)]
        have ap2 : ∀ L l x, appendV fl 1 8 ((A ++ L).set kb (.cells l)) 1 [x] (.sl mb 0 1 ts.length (ts.length + (kl.length + 1))) = some (.sl mb 0 1 (ts.length + 1) (ts.length + (kl.length + 1)), ((A ++ L).set kb (.cells l)).set mb (.cells (stM ts ++ (x :: ml)))) := fun L l x => by
          rw [ap_room (by rw [cellsAt_set_ne (by omega)]; exact cellsAt_left n3) (by simp [stM_len]; omega) (by omega) (by omega) 8 x, set_mid (stM_len ts)]
        have c2 : ∀ L x y, LH.cellsAt (((A ++ L).set kb x).set mb y) b = some [.int .i64 td, .sl kb 0 1 ts.length (ts.length + (kl.length + 1)), .sl mb 0 1 ts.length (ts.length + (kl.length + 1))] := fun L x y => by
          rw [cellsAt_set_ne (by omega), cellsAt_set_ne (by omega)]; exact c1 L
        have c3 : ∀ L x y l, LH.cellsAt ((((A ++ L).set kb x).set mb y).set b (.cells l)) b = some l := fun L x y l => cellsAt_set (by simp only [List.length_append, List.length_set]; omega)
        have c4 : ∀ x y z, LH.cellsAt ((A ++ [x, Blk.cells y] : LH).set kb z) (A.length + 1) = some y := fun x y z => by rw [cellsAt_set_ne (by omega), cellsAt_app]; rfl
        have fr : ∀ L x y l, Fr f [b] A ((((A ++ L).set kb x).set mb y).set b (.cells l)) := fun L x y l =>
          (Fr.app hfA).trans ((Fr.set (.inr n5)).trans ((Fr.set (.inr n6)).trans (Fr.set (.inl (by simp)))))
        rcases k3 with rfl | rfl
        all_goals
          unfold run at *
          rw [Run_zr Tryd.func139 rfl (by rfl : ok 139 = true) (by rfl : cfg.keep 139 = [0, 1, 3, 4, 5, 6, 7, 8, 16, 17, 28, 33, 59, 63]) (by rfl : cfg.mode 139 = .any) (by rfl : cfg.ord 139 = [(13, [0, 1, 2, 3, 4, 5, 6, 7, 8, 10, 11, 12, 13, 14, 9, 15, 16, 17, 18, 19, 20, 21], [(9, 13)])])]
          simp only [reC, findR, reR, reL, reO, List.idxOf_cons, List.filter_cons, List.filter_nil, Option.map_some, Option.map_none, Tryd.f139, if_true, if_false, Nat.reduceEqDiff, Nat.reduceBEq, cond_true, cond_false, Nat.reduceAdd, List.map_cons, List.map_nil, List.append_nil, List.nil_append, List.cons_append, List.getElem?_cons_succ, List.getElem?_cons_zero, BEq.rfl, Nat.succ_ne_zero, Bool.false_eq_true]
          simp (config := {contextual := true, maxSteps := 10000000, implicitDefEqProofs := false}) (disch := first | (and_intros <;> omega -splitDisjunctions) | (simp only [List.length_set, List.length_append, List.length_cons, List.length_nil]; and_intros <;> omega -splitDisjunctions) | fail) only [hc, f0, f1, f2, f3, f4, f5, f6, e1, n1, c1, c2, c3, c4, d1, d2, ap1, ap2, hbox, hboxL, List.set_set, reC, findR, reR, reL, reO, List.idxOf_cons, List.filter_cons, List.filter_nil, Option.map_some, Option.map_none, Tryd.f139, go_sem, ↓reduceIte, Nat.reduceEqDiff, Nat.reduceAdd, Nat.reduceMul, Nat.reduceLT, Nat.reduceLeDiff, reduceCtorEq, Int.reduceNe, Int.reduceEq, Int.reduceLT, Int.reduceLE, Int.reduceAdd, Int.reduceSub, Int.reduceMul, Int.reduceNeg, Int.reduceToNat, UInt8.reduceToNat, natLit, ty3, ty4, ty9, ty65, ty67, ty148]
          refine fin3 _ _ (frE.trans (hf2.trans (fr _ _ _ _))) (.inr ⟨kb, mb, kl, ml, ?_, ?_, ?_, by omega, by omega, by omega, by omega⟩) rfl
          · rw [c3]; simp only [List.length_append, List.length_singleton, show ts.length + 1 + kl.length = ts.length + (kl.length + 1) by omega]
          · rw [cellsAt_set_ne (by omega), cellsAt_set_ne (by omega), cellsAt_set (by simp only [List.length_append]; omega)]
            simp [stK]
          · rw [cellsAt_set_ne (by omega), cellsAt_set (by simp only [List.length_append, List.length_set]; omega)]
            simp [stM]
  · have hs : stepN ⟨doc, st⟩ kind = none := by
      unfold stepN
      rw [if_neg k2, if_neg k5, if_neg k3, if_neg k7, if_neg k8]
    rw [hs]
    have c2 := fun h => k2 h
    have c3 : ¬ kind = 3 := by omega
    have c4 : ¬ kind = 4 := by omega
    have c5 : ¬ kind = 5 := by omega
    have c6 : ¬ kind = 6 := by omega
    unfold run at *
    rw [Run_zr Tryd.func139 rfl (by rfl : ok 139 = true) (by rfl : cfg.keep 139 = [0, 1, 3, 4, 5, 6, 7, 8, 16, 17, 28, 33, 59, 63]) (by rfl : cfg.mode 139 = .any) (by rfl : cfg.ord 139 = [(13, [0, 1, 2, 3, 4, 5, 6, 7, 8, 10, 11, 12, 13, 14, 9, 15, 16, 17, 18, 19, 20, 21], [(9, 13)])])]
    simp (config := {contextual := true, maxSteps := 10000000, implicitDefEqProofs := false}) (disch := first | (and_intros <;> omega -splitDisjunctions) | (simp only [List.length_set, List.length_append, List.length_cons, List.length_nil]; and_intros <;> omega -splitDisjunctions) | fail) only [hc, f0, f1, f2, f3, f4, f5, f6, k2, k7, k8, c3, c4, c5, c6, reC, findR, reR, reL, reO, List.idxOf_cons, List.filter_cons, List.filter_nil, Option.map_some, Option.map_none, Tryd.f139, go_sem, ↓reduceIte, Nat.reduceEqDiff, Nat.reduceAdd, Nat.reduceMul, Nat.reduceLT, Nat.reduceLeDiff, reduceCtorEq, Int.reduceNe, Int.reduceEq, Int.reduceLT, Int.reduceLE, Int.reduceAdd, Int.reduceSub, Int.reduceMul, Int.reduceNeg, Int.reduceToNat, UInt8.reduceToNat, natLit, ty3, ty4, ty9, ty65, ty67, ty148]
end Go.Proofs.YtcbjmggbbnpbpaaDoor.Lg
