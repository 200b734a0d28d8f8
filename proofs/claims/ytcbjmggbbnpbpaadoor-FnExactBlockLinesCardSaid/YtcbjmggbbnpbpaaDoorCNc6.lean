/- Nested events: whether all aliases are tied, and whether there is a fault, in the program. No condition. -/
import Derived.Test.YtcbjmggbbnpbpaaDoorCNc5
namespace Go.Proofs.YtcbjmggbbnpbpaaDoor.Lg
set_option linter.unusedSimpArgs false
set_option linter.unusedVariables false
set_option maxRecDepth 100000
set_option maxHeartbeats 40000000
open Go.Proofs.YtcbjmggbbnpbpaaDoor

/-! ### a map of texts to places -/
def encM (M : List (ByteArray × Nat)) : List (V × V) := M.map (fun p => (.str p.1, .int .i64 p.2))
def fnd (t : ByteArray) : List (ByteArray × Nat) → Nat → Option (Nat × Nat)
  | [], _ => none
  | (a, x) :: M, i => if t = a then some (i, x) else fnd t M (i + 1)
def mlook (M : List (ByteArray × Nat)) (t : ByteArray) : Option Nat := (fnd t M 0).map (·.2)
theorem findM_enc (t : ByteArray) : ∀ (M : List (ByteArray × Nat)) (i : Nat), findM (.str t) (encM M) i = some ((fnd t M i).map (fun p => (p.1, .int .i64 p.2)))
  | [], i => rfl
  | (a, x) :: M, i => by
    have ih := findM_enc t M (i + 1)
    show (match eqS (.str t) (.str a) with | some true => some (some (i, V.int .i64 (x : Int))) | some false => findM (.str t) (encM M) (i + 1) | none => none) = _
    simp only [eqS, fnd]
    by_cases h : t = a
    · rw [if_pos h, decide_eq_true h]; rfl
    · rw [if_neg h, decide_eq_false h]; exact ih
theorem fnd_at (t : ByteArray) : ∀ (M : List (ByteArray × Nat)) (i j x : Nat), fnd t M i = some (j, x) → i ≤ j ∧ M[j - i]? = some (t, x)
  | [], i, j, x, h => by cases h
  | (a, y) :: M, i, j, x, h => by
    unfold fnd at h
    by_cases e : t = a
    · rw [if_pos e] at h; cases h; subst e; exact ⟨Nat.le_refl _, by simp⟩
    · rw [if_neg e] at h
      have := fnd_at t M (i + 1) j x h
      refine ⟨by omega, ?_⟩
      rw [show j - i = (j - (i + 1)) + 1 by omega, List.getElem?_cons_succ]; exact this.2
theorem fnd_shift (t : ByteArray) : ∀ (M : List (ByteArray × Nat)) (i k : Nat), (fnd t M i).map (·.2) = (fnd t M k).map (·.2)
  | [], i, k => rfl
  | (a, x) :: M, i, k => by
    unfold fnd
    by_cases e : t = a
    · rw [if_pos e, if_pos e]; rfl
    · rw [if_neg e, if_neg e]; exact fnd_shift t M (i + 1) (k + 1)
theorem mlook_cons (a t : ByteArray) (x : Nat) (M : List (ByteArray × Nat)) : mlook ((a, x) :: M) t = if t = a then some x else mlook M t := by
  show (if t = a then some (0, x) else fnd t M (0 + 1)).map (·.2) = _
  by_cases e : t = a
  · rw [if_pos e, if_pos e]; rfl
  · rw [if_neg e, if_neg e]; exact fnd_shift t M 1 0
theorem mlook_new {t u : ByteArray} {x : Nat} : ∀ {M : List (ByteArray × Nat)}, mlook M t = none → mlook (M ++ [(t, x)]) u = if u = t then some x else mlook M u
  | [], _ => by rw [List.nil_append, mlook_cons]
  | (a, y) :: M, h => by
    rw [mlook_cons] at h
    by_cases e : t = a
    · rw [if_pos e] at h; cases h
    · rw [if_neg e] at h
      rw [List.cons_append, mlook_cons, mlook_cons, mlook_new h]
      by_cases e1 : u = a
      · subst e1; rw [if_pos rfl, if_pos rfl, if_neg (fun h => e h.symm)]
      · rw [if_neg e1, if_neg e1]
theorem mlook_set {t u : ByteArray} {x : Nat} : ∀ {M : List (ByteArray × Nat)} {i j y : Nat}, fnd t M i = some (j, y) → mlook (M.set (j - i) (t, x)) u = if u = t then some x else mlook M u
  | [], i, j, y, h => by cases h
  | (a, z) :: M, i, j, y, h => by
    unfold fnd at h
    by_cases e : t = a
    · rw [if_pos e] at h; cases h; subst e
      rw [Nat.sub_self, List.set_cons_zero, mlook_cons, mlook_cons]
      by_cases e1 : u = t
      · rw [if_pos e1, if_pos e1]
      · rw [if_neg e1, if_neg e1, if_neg e1]
    · rw [if_neg e] at h
      have hj := (fnd_at t M (i + 1) j y h).1
      rw [show j - i = (j - (i + 1)) + 1 by omega, List.set_cons_succ, mlook_cons, mlook_cons, mlook_set h]
      by_cases e1 : u = a
      · subst e1; rw [if_pos rfl, if_pos rfl, if_neg (fun h => e h.symm)]
      · rw [if_neg e1, if_neg e1]
theorem encM_set (M : List (ByteArray × Nat)) (j : Nat) (t : ByteArray) (x : Nat) : (encM M).set j (.str t, .int .i64 (x : Int)) = encM (M.set j (t, x)) := by simp [encM, List.map_set]
theorem encM_app (M : List (ByteArray × Nat)) (t : ByteArray) (x : Nat) : encM M ++ [(.str t, .int .i64 (x : Int))] = encM (M ++ [(t, x)]) := by simp [encM]
theorem mapAt_lt {H : LH} {b : Nat} {l} (h : H.mapAt b = some l) : b < H.length := by
  unfold LH.mapAt at h
  cases e : H[b]? with
  | none => rw [e] at h; cases h
  | some x => exact (List.getElem?_eq_some_iff.1 e).1
theorem mapAt_left {H L : LH} {b : Nat} {l} (h : H.mapAt b = some l) : LH.mapAt (H ++ L) b = some l := by
  unfold LH.mapAt at *
  rw [List.getElem?_append_left (mapAt_lt h)]; exact h
theorem mapAt_set {H : LH} {b : Nat} {l} (h : b < H.length) : LH.mapAt (H.set b (.map l)) b = some l := by
  unfold LH.mapAt
  rw [List.getElem?_set_self h]
theorem mapAt_set_ne {H : LH} {b c : Nat} {x : Blk} (h : b ≠ c) : LH.mapAt (H.set b x) c = LH.mapAt H c := by
  unfold LH.mapAt
  rw [List.getElem?_set_ne h]
theorem cells_map_ne {H : LH} {b c : Nat} {l m} (h : H.cellsAt b = some l) (k : H.mapAt c = some m) : b ≠ c := by
  intro e
  subst e
  unfold LH.cellsAt LH.mapAt at *
  cases e : H[b]? with
  | none => rw [e] at h; cases h
  | some x => rw [e] at h k; cases x <;> simp at h k
/-- what the program writes of the aliases -/
def dfI (es : List Ev) (i : Nat) : Int := if kd es i = 6 then defF es i else -1
theorem dfI_6 {es : List Ev} (hok : ∀ i, i < es.length → EvOk (evA es i)) {i : Nat} (hi : i < es.length) (h6 : kd es i = 6) : dfI es i = match lastGo es (evA es i).text i with | none => -1 | some j => if 0 ≤ endF es j ∧ endF es j < i then (j : Int) else -1 := by
  unfold dfI defF
  rw [if_pos h6, defGo_last es hok _ i i (by omega)]
  cases hl : lastGo es (evA es i).text i with
  | none => rfl
  | some j =>
    have hj := lastGo_lt es _ i j hl
    have := endF_ne (es := es) hj (by omega) (by omega)
    simp only
    by_cases h : 0 ≤ endF es j ∧ endF es j < i
    · rw [if_neg (by omega), if_pos h]
    · rw [if_pos (by omega), if_neg h]
theorem run_defs {H : LH} {v ve vu vd : V} {es : List Ev} (h : NsAt H v ve vu vd es) (hl : es.length ≤ 1048576) (hok : ∀ i, i < es.length → EvOk (evA es i)) (fl : Nat) :
    Ret (fun w H' => Hx H H' ∧ At H' inI 1 w ((List.range es.length).map (dfI es))) (run 140 [.agg [v, ve, vu, vd]] fl H) := by
  have j1 := h.e.one; have j2 := h.u.one; have j3 := h.d.one; have j0 := h.l.one
  have j4 := h.e.isTup; have j5 := h.u.isTup; have j6 := h.d.isTup
  have i1 := h.l.isTup; have i2 := h.l.len; have i3 := h.l.lenOk ty39
  unfold run
  rw [Run_z Tryd.func140 rfl (by rfl : ok 140 = true) (by rfl : cfg.keep 140 = [0, 1, 2, 3, 4, 5, 6, 7, 8, 15, 16, 17, 18, 25, 30, 58, 63]) (by rfl : cfg.mode 140 = .fresh) (by rfl : cfg.ord 140 = [])]
  simp (config := {contextual := true, maxSteps := 10000000, implicitDefEqProofs := false}) (disch := first | (and_intros <;> omega -splitDisjunctions) | (simp only [List.length_set, List.length_append, List.length_cons, List.length_nil]; and_intros <;> omega -splitDisjunctions) | fail) only [i1, i2, i3, j0, j1, j2, j3, j4, j5, j6, Tryd.f140, go_sem, ↓reduceIte, Nat.reduceEqDiff, Nat.reduceAdd, Nat.reduceMul, Nat.reduceLT, Nat.reduceLeDiff, reduceCtorEq, Int.reduceNe, Int.reduceEq, Int.reduceLT, Int.reduceLE, Int.reduceAdd, Int.reduceSub, Int.reduceMul, Int.reduceNeg, Int.reduceToNat, UInt8.reduceToNat, natLit, ty3, ty4, ty9, ty39, ty65, ty67, ty71, ty164]
  rw [ints_rep]
  refine at_loopR fun c R hc hR => ?_
  have key : ∀ (m : Nat) (k : Nat) (kk : Int) (mb : Nat) (M : List (ByteArray × Nat)) (B : LH) (D : List Int) (x0 x2 x5 x6 x7 x8 x18 x25 x30 x58 x63 : Option V), es.length - k < m → kk = k → k ≤ es.length → Hx H B → B.cellsAt H.length = some [v, ve, vu, vd] → B.cellsAt (H.length + 1) = some (ints D) → Upto D es.length k (dfI es) → B.mapAt mb = some (encM M) → H.length + 2 ≤ mb → (∀ t, mlook M t = lastGo es t k) →
      Ret (fun w H' => Hx H H' ∧ At H' inI 1 w ((List.range es.length).map (dfI es))) (zEv (leaveX (mkR Tryd.prog cfg ok [0, 1, 2, 3, 4, 5, 6, 7, 8, 15, 16, 17, 18, 25, 30, 58, 63] H.length) .fresh H [ResultVar.tmp 2]) (mkR Tryd.prog cfg ok [0, 1, 2, 3, 4, 5, 6, 7, 8, 15, 16, 17, 18, 25, 30, 58, 63] H.length) (K.code (Code.loop c) :: K.blk 0 :: R) .nrm [x0, some (.ptr H.length 0), x2, some (.sl (H.length + 1) 0 1 es.length es.length), some (.map mb), x5, x6, x7, x8, some v, some (.int .i64 es.length), some (.int .i64 kk), x18, x25, x30, x58, x63] (B)) := by
    intro m
    induction m with
    | zero => intro k kk mb M B D x0 x2 x5 x6 x7 x8 x18 x25 x30 x58 x63 hm; omega
    | succ m ih =>
      intro k kk mb M B D x0 x2 x5 x6 x7 x8 x18 x25 x30 x58 x63 hm hk hkl hx c2 cD hD cM hmb hM
      subst hk
      have hlB := hx.len
      by_cases hlt : k < es.length
      rotate_left
      · have t1 : ((k : Int) < es.length) = False := eq_false (by omega)
        rw [zEv_round hc, ← hR]
        simp (config := {contextual := true, maxSteps := 10000000, implicitDefEqProofs := false}) (disch := first | (and_intros <;> omega -splitDisjunctions) | (simp only [List.length_set, List.length_append, List.length_cons, List.length_nil]; and_intros <;> omega -splitDisjunctions) | fail) only [t1, Tryd.f140, go_sem, ↓reduceIte, Nat.reduceEqDiff, Nat.reduceAdd, Nat.reduceMul, Nat.reduceLT, Nat.reduceLeDiff, reduceCtorEq, Int.reduceNe, Int.reduceEq, Int.reduceLT, Int.reduceLE, Int.reduceAdd, Int.reduceSub, Int.reduceMul, Int.reduceNeg, Int.reduceToNat, UInt8.reduceToNat, natLit, ty3, ty4, ty9, ty39, ty65, ty67, ty71, ty164]
        have : D = (List.range es.length).map (dfI es) := by
          apply List.ext_getElem
          · simp [hD.1]
          · intro i h5 h6
            have hl1 := hD.1
            have := hD.2 i (by omega)
            rw [getD_of h5] at this
            simp [this]
        refine ⟨hx, .inr ⟨H.length + 1, 0, es.length, ints D, by simp, cD, by rw [ints_len, hD.1]; simp, ?_⟩⟩
        rw [List.drop_zero, ints_rows, this, List.take_of_length_le (by simp [ints])]
      have t1 : ((k : Int) < es.length) = True := eq_true (by omega)
      have rN := h.ext hx
      have rB := rN.l
      have f1 := rB.isTup; have f2 := rB.len; have f3 := rB.lenOk ty39; have f0 := rB.one
      have f4 := fun hp => rB.con hp
      have f5 := rB.idx (T := ty Tryd.prog) (t := 39) (by simp only [elemI, sizeO, ty3, ty4, ty9, ty39, ty65])
      have f6 := rB.loadD evC_len evZ
      have g6 := f6 k hlt
      have lD2 : ∀ i x, (ints (D.set i x)).length = es.length := fun i x => by rw [ints_len, List.length_set, hD.1]
      have lD : (ints D).length = es.length := by rw [ints_len, hD.1]
      have c2E : ∀ x L, LH.cellsAt (B.set (H.length + 1) x ++ L) H.length = some [v, ve, vu, vd] := fun x L => cellsAt_left (by rw [cellsAt_set_ne (by omega)]; exact c2)
      have hDl := cellsAt_lt cD
      have hmbl := mapAt_lt cM
      have cME : ∀ x L, LH.mapAt (B.set (H.length + 1) x ++ L) mb = some (encM M) := fun x L => mapAt_left (by rw [mapAt_set_ne (by omega)]; exact cM)
      have q2 : ∀ x L, LH.cellsAt (B.set (H.length + 1) x ++ L) B.length = LH.cellsAt L 0 := fun x L => cellsAt_at (by simp only [List.length_set])
      have cDE : ∀ x L, LH.cellsAt (B.set (H.length + 1) (.cells x) ++ L) (H.length + 1) = some x := fun x L => cellsAt_left (cellsAt_set hDl)
      have hxE : ∀ x L, Hx H (B.set (H.length + 1) x ++ L) := fun x L => (hx.set (by omega)).trans Hx.app
      have nD : ∀ x, dfI es k = x → Upto (D.set k x) es.length (k + 1) (dfI es) := fun x hx => hD.set hlt hlt hx (fun m h1 h2 => ⟨by omega, rfl⟩)
      have hlG : ∀ t, lastGo es t (k + 1) = if kd es k = 2 then none else if kd es k ≠ 6 ∧ (evA es k).anchor ≠ ⟨#[]⟩ ∧ (evA es k).anchor = t then some k else lastGo es t k := fun t => rfl
      have hkd : kd es k = (es.getD k evZ).kind := rfl
      have qm : ∀ x L i, LH.mapAt (B.set (H.length + 1) x ++ L) (B.length + i) = LH.mapAt L i := fun x L i => by
        have := mapAt_app (B.set (H.length + 1) x) L i
        simpa only [List.length_set] using this
      have go := fun (mb' : Nat) M' (B' : LH) (D' : List Int) x0 x2 x5 x6 x7 x8 x18 x25 x30 x58 x63 hx' c2' cD' hD' cM' hmb' hM' => ih (k + 1) ((k : Int) + 1) mb' M' B' D' x0 x2 x5 x6 x7 x8 x18 x25 x30 x58 x63 (by omega) (by omega) (by omega) hx' c2' cD' hD' cM' hmb' hM'
      by_cases h2 : (es.getD k evZ).kind = 2
      · have hd1 : dfI es k = -1 := if_neg (by rw [hkd]; omega)
        have hM2 : ∀ t, mlook [] t = lastGo es t (k + 1) := fun t => by rw [hlG, if_pos h2]; rfl
        unfold run evC at *
        simp only [h2] at g6
        rw [zEv_round hc, ← hR]
        simp (config := {contextual := true, maxSteps := 10000000, implicitDefEqProofs := false}) (disch := first | (and_intros <;> omega -splitDisjunctions) | (simp only [List.length_set, List.length_append, List.length_cons, List.length_nil]; and_intros <;> omega -splitDisjunctions) | fail) only [t1, hlB, g6, c2, cD, lD, lD2, ints_set, List.set_set, c2E, cME, q2, qm, cDE, lookV, mapE, entO, lookO, updV, updO, findM_enc, Option.map_some, Option.map_none, keyOk, f0, f1, f2, f3, f4, f5, f6, cellsAt_set, cellsAt_set_ne, cellsAt_old, set_old, Tryd.f140, go_sem, ↓reduceIte, Nat.reduceEqDiff, Nat.reduceAdd, Nat.reduceMul, Nat.reduceLT, Nat.reduceLeDiff, reduceCtorEq, Int.reduceNe, Int.reduceEq, Int.reduceLT, Int.reduceLE, Int.reduceAdd, Int.reduceSub, Int.reduceMul, Int.reduceNeg, Int.reduceToNat, UInt8.reduceToNat, natLit, ty3, ty4, ty9, ty39, ty65, ty67, ty71, ty164]
        rw [hR]
        exact go _ [] _ (D.set k (-1)) _ _ _ _ _ _ _ _ _ _ _ (hxE _ _) (c2E _ _) (cDE _ _) (nD _ hd1) (by rw [qm]; rfl) (by omega) hM2
      by_cases h6 : (es.getD k evZ).kind = 6
      · have hM2 : ∀ t, mlook M t = lastGo es t (k + 1) := fun t => by rw [hlG, if_neg h2, if_neg (fun h => h.1 h6)]; exact hM t
        have hdf := dfI_6 hok hlt h6
        rw [← hM] at hdf
        have hT : (evA es k).text = (es.getD k evZ).text := rfl
        rw [hT] at hdf
        cases hf : fnd (es.getD k evZ).text M 0 with
        | none =>
          have hm : mlook M (es.getD k evZ).text = none := by unfold mlook; rw [hf]; rfl
          rw [hm] at hdf
          unfold run evC at *
          simp only [h6] at g6
          rw [zEv_round hc, ← hR]
          simp (config := {contextual := true, maxSteps := 10000000, implicitDefEqProofs := false}) (disch := first | (and_intros <;> omega -splitDisjunctions) | (simp only [List.length_set, List.length_append, List.length_cons, List.length_nil]; and_intros <;> omega -splitDisjunctions) | fail) only [t1, hf, g6, c2, cD, lD, lD2, ints_set, List.set_set, c2E, cME, q2, qm, cDE, lookV, mapE, entO, lookO, updV, updO, findM_enc, Option.map_some, Option.map_none, keyOk, f0, f1, f2, f3, f4, f5, f6, cellsAt_set, cellsAt_set_ne, cellsAt_old, set_old, Tryd.f140, go_sem, ↓reduceIte, Nat.reduceEqDiff, Nat.reduceAdd, Nat.reduceMul, Nat.reduceLT, Nat.reduceLeDiff, reduceCtorEq, Int.reduceNe, Int.reduceEq, Int.reduceLT, Int.reduceLE, Int.reduceAdd, Int.reduceSub, Int.reduceMul, Int.reduceNeg, Int.reduceToNat, UInt8.reduceToNat, natLit, ty3, ty4, ty9, ty39, ty65, ty67, ty71, ty164]
          rw [hR]
          exact go _ M _ (D.set k (-1)) _ _ _ _ _ _ _ _ _ _ _ (hxE _ _) (c2E _ _) (cDE _ _) (nD _ hdf) (cME _ _) hmb hM2
        | some p =>
          obtain ⟨pj, px⟩ := p
          have hm : mlook M (es.getD k evZ).text = some px := by unfold mlook; rw [hf]; rfl
          have hpx := lastGo_lt es _ k px (by rw [← hM]; exact hm)
          rw [hm] at hdf
          simp only at hdf
          have hpl : px < es.length := by omega
          have rM := fun x L => h.ext (hxE x L)
          have s1 := fun x L n K => (rM x L).endL hpl n K
          have s2 := h.e.isTup; have s3 := h.e.len; have s4 := h.e.one; have s5 := fun x L => (rM x L).e.con (by simp; omega); have s6 := h.e.idx (T := ty Tryd.prog) (t := 67) (by simp only [elemI, sizeO, ty3, ty67])
          simp only [List.length_map, List.length_range] at s3 s6
          unfold run evC at *
          simp only [h6] at g6
          rw [zEv_round hc, ← hR]
          simp (config := {contextual := true, maxSteps := 10000000, implicitDefEqProofs := false}) (disch := first | (and_intros <;> omega -splitDisjunctions) | (simp only [List.length_set, List.length_append, List.length_cons, List.length_nil]; and_intros <;> omega -splitDisjunctions) | fail) only [t1, hf, s1, s2, s3, s4, s5, s6, hpl, g6, c2, cD, lD, lD2, ints_set, List.set_set, c2E, cME, q2, qm, cDE, lookV, mapE, entO, lookO, updV, updO, findM_enc, Option.map_some, Option.map_none, keyOk, f0, f1, f2, f3, f4, f5, f6, cellsAt_set, cellsAt_set_ne, cellsAt_old, set_old, Tryd.f140, go_sem, ↓reduceIte, Nat.reduceEqDiff, Nat.reduceAdd, Nat.reduceMul, Nat.reduceLT, Nat.reduceLeDiff, reduceCtorEq, Int.reduceNe, Int.reduceEq, Int.reduceLT, Int.reduceLE, Int.reduceAdd, Int.reduceSub, Int.reduceMul, Int.reduceNeg, Int.reduceToNat, UInt8.reduceToNat, natLit, ty3, ty4, ty9, ty39, ty65, ty67, ty71, ty164]
          rw [hR]
          refine Ret_ite (fun w => ?_) (fun w => ?_)
          · rw [if_pos w] at hdf
            exact go _ M _ (D.set k px) _ _ _ _ _ _ _ _ _ _ _ (hxE _ _) (c2E _ _) (cDE _ _) (nD _ hdf) (cME _ _) hmb hM2
          · rw [if_neg w] at hdf
            exact go _ M _ (D.set k (-1)) _ _ _ _ _ _ _ _ _ _ _ (hxE _ _) (c2E _ _) (cDE _ _) (nD _ hdf) (cME _ _) hmb hM2
      have hd1 : dfI es k = -1 := if_neg h6
      by_cases ha : (es.getD k evZ).anchor = ⟨#[]⟩
      · have hM2 : ∀ t, mlook M t = lastGo es t (k + 1) := fun t => by rw [hlG, if_neg h2, if_neg (fun h => h.2.1 ha)]; exact hM t
        unfold run evC at *
        simp only [ha] at g6
        rw [zEv_round hc, ← hR]
        simp (config := {contextual := true, maxSteps := 10000000, implicitDefEqProofs := false}) (disch := first | (and_intros <;> omega -splitDisjunctions) | (simp only [List.length_set, List.length_append, List.length_cons, List.length_nil]; and_intros <;> omega -splitDisjunctions) | fail) only [t1, h2, h6, g6, c2, cD, lD, lD2, ints_set, List.set_set, c2E, cME, q2, qm, cDE, lookV, mapE, entO, lookO, updV, updO, findM_enc, Option.map_some, Option.map_none, keyOk, f0, f1, f2, f3, f4, f5, f6, cellsAt_set, cellsAt_set_ne, cellsAt_old, set_old, Tryd.f140, go_sem, ↓reduceIte, Nat.reduceEqDiff, Nat.reduceAdd, Nat.reduceMul, Nat.reduceLT, Nat.reduceLeDiff, reduceCtorEq, Int.reduceNe, Int.reduceEq, Int.reduceLT, Int.reduceLE, Int.reduceAdd, Int.reduceSub, Int.reduceMul, Int.reduceNeg, Int.reduceToNat, UInt8.reduceToNat, natLit, ty3, ty4, ty9, ty39, ty65, ty67, ty71, ty164]
        rw [hR]
        exact go _ M _ (D.set k (-1)) _ _ _ _ _ _ _ _ _ _ _ (hxE _ _) (c2E _ _) (cDE _ _) (nD _ hd1) (cME _ _) hmb hM2
      have hl2 : ∀ t, lastGo es t (k + 1) = if t = (es.getD k evZ).anchor then some k else mlook M t := fun t => by
        rw [hlG, if_neg h2]
        by_cases e : t = (es.getD k evZ).anchor
        · rw [if_pos ⟨h6, ha, e.symm⟩, if_pos e]
        · rw [if_neg (fun h => e h.2.2.symm), if_neg e]; exact (hM t).symm
      have c2M : ∀ x y L, LH.cellsAt ((B.set (H.length + 1) x).set mb y ++ L) H.length = some [v, ve, vu, vd] := fun x y L => cellsAt_left (by rw [cellsAt_set_ne (by omega), cellsAt_set_ne (by omega)]; exact c2)
      have cDM : ∀ x y L, LH.cellsAt ((B.set (H.length + 1) (.cells x)).set mb y ++ L) (H.length + 1) = some x := fun x y L => cellsAt_left (by rw [cellsAt_set_ne (by omega)]; exact cellsAt_set hDl)
      have cMM : ∀ x y L, LH.mapAt ((B.set (H.length + 1) x).set mb (.map y) ++ L) mb = some y := fun x y L => mapAt_left (mapAt_set (by rw [List.length_set]; exact hmbl))
      have hxM : ∀ x y L, Hx H ((B.set (H.length + 1) x).set mb y ++ L) := fun x y L => ((hx.set (by omega)).set (by omega)).trans Hx.app
      have sM : ∀ x y L, List.set (B.set (H.length + 1) x ++ L) mb y = (B.set (H.length + 1) x).set mb y ++ L := fun x y L => List.set_append_left _ _ (by rw [List.length_set]; exact hmbl)
      have hmb0 : H.length ≤ mb := by omega
      cases hf : fnd (es.getD k evZ).anchor M 0 with
      | none =>
        have hm : mlook M (es.getD k evZ).anchor = none := by unfold mlook; rw [hf]; rfl
        have hM2 : ∀ t, mlook (M ++ [((es.getD k evZ).anchor, k)]) t = lastGo es t (k + 1) := fun t => by rw [hl2, mlook_new hm]
        unfold run evC at *
        rw [zEv_round hc, ← hR]
        simp (config := {contextual := true, maxSteps := 10000000, implicitDefEqProofs := false}) (disch := first | (and_intros <;> omega -splitDisjunctions) | (simp only [List.length_set, List.length_append, List.length_cons, List.length_nil]; and_intros <;> omega -splitDisjunctions) | fail) only [t1, h2, h6, ha, hf, sM, hmb0, encM_app, g6, c2, cD, lD, lD2, ints_set, List.set_set, c2E, cME, q2, qm, cDE, lookV, mapE, entO, lookO, updV, updO, findM_enc, Option.map_some, Option.map_none, keyOk, f0, f1, f2, f3, f4, f5, f6, cellsAt_set, cellsAt_set_ne, cellsAt_old, set_old, Tryd.f140, go_sem, ↓reduceIte, Nat.reduceEqDiff, Nat.reduceAdd, Nat.reduceMul, Nat.reduceLT, Nat.reduceLeDiff, reduceCtorEq, Int.reduceNe, Int.reduceEq, Int.reduceLT, Int.reduceLE, Int.reduceAdd, Int.reduceSub, Int.reduceMul, Int.reduceNeg, Int.reduceToNat, UInt8.reduceToNat, natLit, ty3, ty4, ty9, ty39, ty65, ty67, ty71, ty164]
        rw [hR]
        exact go _ _ _ (D.set k (-1)) _ _ _ _ _ _ _ _ _ _ _ (hxM _ _ _) (c2M _ _ _) (cDM _ _ _) (nD _ hd1) (cMM _ _ _) hmb hM2
      | some p =>
        obtain ⟨pj, px⟩ := p
        have hM2 : ∀ t, mlook (M.set pj ((es.getD k evZ).anchor, k)) t = lastGo es t (k + 1) := fun t => by
          have := mlook_set (u := t) (x := k) hf
          rw [Nat.sub_zero] at this
          rw [hl2, this]
        unfold run evC at *
        rw [zEv_round hc, ← hR]
        simp (config := {contextual := true, maxSteps := 10000000, implicitDefEqProofs := false}) (disch := first | (and_intros <;> omega -splitDisjunctions) | (simp only [List.length_set, List.length_append, List.length_cons, List.length_nil]; and_intros <;> omega -splitDisjunctions) | fail) only [t1, h2, h6, ha, hf, sM, hmb0, encM_set, g6, c2, cD, lD, lD2, ints_set, List.set_set, c2E, cME, q2, qm, cDE, lookV, mapE, entO, lookO, updV, updO, findM_enc, Option.map_some, Option.map_none, keyOk, f0, f1, f2, f3, f4, f5, f6, cellsAt_set, cellsAt_set_ne, cellsAt_old, set_old, Tryd.f140, go_sem, ↓reduceIte, Nat.reduceEqDiff, Nat.reduceAdd, Nat.reduceMul, Nat.reduceLT, Nat.reduceLeDiff, reduceCtorEq, Int.reduceNe, Int.reduceEq, Int.reduceLT, Int.reduceLE, Int.reduceAdd, Int.reduceSub, Int.reduceMul, Int.reduceNeg, Int.reduceToNat, UInt8.reduceToNat, natLit, ty3, ty4, ty9, ty39, ty65, ty67, ty71, ty164]
        rw [hR]
        exact go _ _ _ (D.set k (-1)) _ _ _ _ _ _ _ _ _ _ _ (hxM _ _ _) (c2M _ _ _) (cDM _ _ _) (nD _ hd1) (cMM _ _ _) hmb hM2
  exact key (es.length + 1) 0 0 (H.length + 2) [] _ (List.replicate es.length 0) _ _ _ _ _ _ _ _ _ _ _ (by omega) rfl (by omega) Hx.app (by rw [cellsAt_app0]; rfl) (by rw [cellsAt_app]; rfl) ⟨List.length_replicate, fun m h => absurd h (Nat.not_lt_zero _)⟩ (by rw [mapAt_app]; rfl) (Nat.le_refl _) (fun t => rfl)
end Go.Proofs.YtcbjmggbbnpbpaaDoor.Lg
