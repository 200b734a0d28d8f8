/- Nested events: the tables of the program. No condition. -/
import Derived.Test.YtcbjmggbbnpbpaaDoorCNc2
import Derived.Test.YtcbjmggbbnpbpaaDoorCNst4
namespace Go.Proofs.YtcbjmggbbnpbpaaDoor.Lg
set_option linter.unusedSimpArgs false
set_option linter.unusedVariables false
set_option maxRecDepth 100000
set_option maxHeartbeats 40000000
open Go.Proofs.YtcbjmggbbnpbpaaDoor

def ints (l : List Int) : List V := l.map (V.int .i64)
theorem ints_len (l : List Int) : (ints l).length = l.length := by simp [ints]
theorem ints_set (l : List Int) (i : Nat) (x : Int) : (ints l).set i (.int .i64 x) = ints (l.set i x) := by simp [ints, List.map_set]
theorem ints_rep (n : Nat) : (List.replicate n [V.int .i64 0]).flatten = ints (List.replicate n 0) := by
  induction n with
  | zero => rfl
  | succ n ih => rw [List.replicate_succ, List.flatten_cons, ih]; rfl
theorem ints_get {l : List Int} {i : Nat} (h : i < l.length) (g : List V) : (ints l ++ g)[i]? = some (.int .i64 (l.getD i 0)) := by
  rw [List.getElem?_append_left (by rw [ints_len]; exact h)]
  simp [ints, List.getElem?_map, h, List.getD_eq_getElem?_getD]
theorem ints_rows (l : List Int) : rows inI l = ints l := by
  induction l with
  | nil => rfl
  | cons x l ih => rw [rows_cons, ih]; rfl
/-- a row that is right up to 'k' -/
def Upto (l : List Int) (n k : Nat) (f : Nat → Int) : Prop := l.length = n ∧ ∀ m, m < k → l.getD m 0 = f m
theorem Upto.set {l : List Int} {n k i : Nat} {f f' : Nat → Int} {x : Int} (h : Upto l n k f) (hi : i < n) (hk : k < n) (hx : f' i = x) (ho : ∀ m, m < k + 1 → m ≠ i → m < k ∧ f' m = f m) : Upto (l.set i x) n (k + 1) f' := by
  refine ⟨by rw [List.length_set]; exact h.1, fun m hm => ?_⟩
  rw [List.getD_eq_getElem?_getD, List.getElem?_set]
  by_cases e : i = m
  · subst e; rw [if_pos rfl, if_pos (by rw [h.1]; exact hi), hx]; rfl
  · rw [if_neg e, ← List.getD_eq_getElem?_getD, h.2 m (ho m hm (fun h => e h.symm)).1, (ho m hm (fun h => e h.symm)).2]
/-- the open places -/
def StA (f : Nat) (H : LH) (v : V) (s : List Nat) : Prop := ∃ kb g, v = .sl kb 0 1 s.length (s.length + g.length) ∧ H.cellsAt kb = some (ints (s.map Int.ofNat) ++ g) ∧ f ≤ kb
theorem run_isColl (e : Ev) (fl : Nat) (H : LH) : run 52 [.agg (evC e)] fl H = some (.bool (decide (isC e)), H) := by
  unfold run evC
  rw [Run_z Tryd.func52 rfl (by rfl : ok 52 = true) (by rfl : cfg.keep 52 = [0, 1, 2]) (by rfl : cfg.mode 52 = .pure) (by rfl : cfg.ord 52 = [])]
  simp (config := {contextual := true, maxSteps := 10000000, implicitDefEqProofs := false}) (disch := first | (and_intros <;> omega -splitDisjunctions) | (simp only [List.length_set, List.length_append, List.length_cons, List.length_nil]; and_intros <;> omega -splitDisjunctions) | fail) only [Tryd.f52, go_sem, ↓reduceIte, Nat.reduceEqDiff, Nat.reduceAdd, Nat.reduceMul, Nat.reduceLT, Nat.reduceLeDiff, reduceCtorEq, Int.reduceNe, Int.reduceEq, Int.reduceLT, Int.reduceLE, Int.reduceAdd, Int.reduceSub, Int.reduceMul, Int.reduceNeg, Int.reduceToNat, UInt8.reduceToNat, natLit, ty3, ty4, ty9, ty65]
  have : decide (isC e) = (decide (e.kind = 3) || decide (e.kind = 4)) := by rw [Bool.eq_iff_iff]; simp only [decide_eq_true_eq, Bool.or_eq_true]; exact Iff.rfl
  rw [this]
  by_cases h : e.kind = 3 <;> simp [h]
theorem run_isNode (e : Ev) (fl : Nat) (H : LH) : run 62 [.agg (evC e)] fl H = some (.bool (decide (isN e)), H) := by
  have e1 := fun fl H => run_isColl e fl H
  unfold run evC at *
  rw [Run_z Tryd.func62 rfl (by rfl : ok 62 = true) (by rfl : cfg.keep 62 = [0, 1, 2]) (by rfl : cfg.mode 62 = .pure) (by rfl : cfg.ord 62 = [])]
  simp (config := {contextual := true, maxSteps := 10000000, implicitDefEqProofs := false}) (disch := first | (and_intros <;> omega -splitDisjunctions) | (simp only [List.length_set, List.length_append, List.length_cons, List.length_nil]; and_intros <;> omega -splitDisjunctions) | fail) only [e1, Tryd.f62, go_sem, ↓reduceIte, Nat.reduceEqDiff, Nat.reduceAdd, Nat.reduceMul, Nat.reduceLT, Nat.reduceLeDiff, reduceCtorEq, Int.reduceNe, Int.reduceEq, Int.reduceLT, Int.reduceLE, Int.reduceAdd, Int.reduceSub, Int.reduceMul, Int.reduceNeg, Int.reduceToNat, UInt8.reduceToNat, natLit, ty3, ty4, ty9, ty65]
  have : decide (isN e) = (decide (isC e) || (decide (e.kind = 5) || decide (e.kind = 6))) := by
    rw [Bool.eq_iff_iff]; simp only [decide_eq_true_eq, Bool.or_eq_true]; unfold isN isC; omega
  rw [this]
  by_cases h : isC e <;> by_cases h2 : e.kind = 5 <;> simp [h, h2]
theorem run_nestOf {v : V} {es : List Ev} {H : LH} (h : At H evC 8 v es) (hl : es.length ≤ 1048576) (hB : Bal es) (fl : Nat) :
    Ret (fun w H' => Hx H H' ∧ ∃ ve vu vd, w = .agg [v, ve, vu, vd] ∧ Own H.length H' inI 1 ve ((List.range es.length).map (endF es)) ∧ Own H.length H' inI 1 vu ((List.range es.length).map (upF es)) ∧
      Own H.length H' inI 1 vd ((List.range es.length).map (fun i => (docGo es (i + 1) : Int)))) (run 49 [v] fl H) := by
  have i1 := h.isTup; have i2 := h.len; have i3 := h.lenOk ty39; have i4 := h.one
  unfold run
  rw [Run_z Tryd.func49 rfl (by rfl : ok 49 = true) (by rfl : cfg.keep 49 = [0, 2, 3, 4, 5, 6, 7, 8, 21, 22, 23, 24, 35, 47, 58, 65, 84]) (by rfl : cfg.mode 49 = .fresh) (by rfl : cfg.ord 49 = [])]
  simp (config := {contextual := true, maxSteps := 10000000, implicitDefEqProofs := false}) (disch := first | (and_intros <;> omega -splitDisjunctions) | (simp only [List.length_set, List.length_append, List.length_cons, List.length_nil]; and_intros <;> omega -splitDisjunctions) | fail) only [i1, i2, i3, i4, Tryd.f49, go_sem, ↓reduceIte, Nat.reduceEqDiff, Nat.reduceAdd, Nat.reduceMul, Nat.reduceLT, Nat.reduceLeDiff, reduceCtorEq, Int.reduceNe, Int.reduceEq, Int.reduceLT, Int.reduceLE, Int.reduceAdd, Int.reduceSub, Int.reduceMul, Int.reduceNeg, Int.reduceToNat, UInt8.reduceToNat, natLit, ty3, ty4, ty9, ty39, ty65, ty67, ty71]
  rw [ints_rep]
  refine at_loopR fun c R hc hR => ?_
  have key : ∀ (m : Nat) (k : Nat) (kk dd : Int) (u : V) (B : LH) (E U D : List Int) (x0 x6 x7 x8 x24 x35 x47 x58 x65 x84 : Option V), es.length - k < m → kk = k → k ≤ es.length → Hx H B → H.length + 6 ≤ B.length → (∃ cs, B.cellsAt H.length = some cs ∧ cs.length = 4) → B.cellsAt (H.length + 4) = some [v, .sl (H.length + 1) 0 1 es.length es.length, .sl (H.length + 2) 0 1 es.length es.length, .sl (H.length + 3) 0 1 es.length es.length] → B.cellsAt (H.length + 1) = some (ints E) → B.cellsAt (H.length + 2) = some (ints U) → B.cellsAt (H.length + 3) = some (ints D) → Upto E es.length k (endV es k) → Upto U es.length k (upF es) → Upto D es.length k (fun i => (docGo es (i + 1) : Int)) → StA (H.length + 5) B u (stk es k) → dd = docGo es k →
      Ret (fun w H' => Hx H H' ∧ ∃ ve vu vd, w = .agg [v, ve, vu, vd] ∧ Own H.length H' inI 1 ve ((List.range es.length).map (endF es)) ∧ Own H.length H' inI 1 vu ((List.range es.length).map (upF es)) ∧ Own H.length H' inI 1 vd ((List.range es.length).map (fun i => (docGo es (i + 1) : Int)))) (zEv (leaveX (mkR Tryd.prog cfg ok [0, 2, 3, 4, 5, 6, 7, 8, 21, 22, 23, 24, 35, 47, 58, 65, 84] H.length) .fresh H [ResultVar.cell 2 71]) (mkR Tryd.prog cfg ok [0, 2, 3, 4, 5, 6, 7, 8, 21, 22, 23, 24, 35, 47, 58, 65, 84] H.length) (K.code (Code.loop c) :: K.blk 0 :: R) .nrm [x0, some (.ptr H.length 0), some (.ptr (H.length + 4) 0), some u, some (.int .i64 dd), x6, x7, x8, some v, some (.int .i64 es.length), some (.int .i64 kk), x24, x35, x47, x58, x65, x84] (B)) := by
    intro m
    induction m with
    | zero => intro k kk dd u B E U D x0 x6 x7 x8 x24 x35 x47 x58 x65 x84 hm; omega
    | succ m ih =>
      intro k kk dd u B E U D x0 x6 x7 x8 x24 x35 x47 x58 x65 x84 hm hk hkl hx hlB c0 c4 cE cU cD hE hU hD hS hd
      subst hk
      obtain ⟨cs0, c0, hcs0⟩ := c0
      by_cases hlt : k < es.length
      rotate_left
      · have t1 : ((k : Int) < es.length) = False := eq_false (by omega)
        obtain ⟨z0, z1, z2, z3, rfl⟩ : ∃ z0 z1 z2 z3, cs0 = [z0, z1, z2, z3] := by
          match cs0, hcs0 with
          | [z0, z1, z2, z3], _ => exact ⟨_, _, _, _, rfl⟩
        rw [zEv_round hc, ← hR]
        simp (config := {contextual := true, maxSteps := 10000000, implicitDefEqProofs := false}) (disch := first | (and_intros <;> omega -splitDisjunctions) | (simp only [List.length_set, List.length_append, List.length_cons, List.length_nil]; and_intros <;> omega -splitDisjunctions) | fail) only [t1, c0, c4, i1, cellsAt_set, cellsAt_set_ne, cellsAt_old, set_old, Tryd.f49, go_sem, ↓reduceIte, Nat.reduceEqDiff, Nat.reduceAdd, Nat.reduceMul, Nat.reduceLT, Nat.reduceLeDiff, reduceCtorEq, Int.reduceNe, Int.reduceEq, Int.reduceLT, Int.reduceLE, Int.reduceAdd, Int.reduceSub, Int.reduceMul, Int.reduceNeg, Int.reduceToNat, UInt8.reduceToNat, natLit, ty3, ty4, ty9, ty39, ty65, ty67, ty71]
        have hsx : Hx H (B.set H.length (.cells [v, .sl (H.length + 1) 0 1 es.length es.length, .sl (H.length + 2) 0 1 es.length es.length, .sl (H.length + 3) 0 1 es.length es.length])) := hx.set (Nat.le_refl _)
        have fin : ∀ (b : Nat) (l : List Int) (f : Nat → Int), H.length < b → b < B.length → B.cellsAt b = some (ints l) → Upto l es.length k f → Own H.length (B.set H.length (.cells [v, .sl (H.length + 1) 0 1 es.length es.length, .sl (H.length + 2) 0 1 es.length es.length, .sl (H.length + 3) 0 1 es.length es.length])) inI 1 (.sl b 0 1 es.length es.length) ((List.range es.length).map f) := by
          intro b l f h1 h2 h3 h4
          refine .inr ⟨b, by simp, ?_, by omega⟩
          rw [cellsAt_set_ne (by omega), h3]
          have : l = (List.range es.length).map f := by
            apply List.ext_getElem
            · simp [h4.1]
            · intro i h5 h6
              have hl1 := h4.1
              have := h4.2 i (by omega)
              rw [getD_of h5] at this
              simp [this]
          rw [this, ints_rows]
        have hk : k = es.length := by omega
        have hE : Upto E es.length k (endF es) := ⟨hE.1, fun m hm => by rw [hE.2 m hm, hk, endV_all es hB]⟩
        exact ⟨hsx, _, _, _, rfl, fin _ _ _ (by omega) (by omega) cE hE, fin _ _ _ (by omega) (by omega) cU hU, fin _ _ _ (by omega) (by omega) cD hD⟩
      have t1 : ((k : Int) < es.length) = True := eq_true (by omega)
      have rB := h.ext hx
      have f1 := rB.isTup; have f2 := rB.len; have f3 := rB.lenOk ty39; have f0 := rB.one
      have f4 := fun hp => rB.con hp
      have f5 := rB.idx (T := ty Tryd.prog) (t := 39) (by simp only [elemI, sizeO, ty3, ty4, ty9, ty39, ty65])
      have f6 := rB.loadD evC_len evZ
      have g6 := f6 k hlt
      have n1 := fun fl H => run_isColl (es.getD k evZ) fl H
      have n2 := fun fl H => run_isNode (es.getD k evZ) fl H
      obtain ⟨kb, g, hu, hcb, hkb⟩ := hS
      subst hu
      have lE : (ints E).length = es.length := by rw [ints_len, hE.1]
      have lU : (ints U).length = es.length := by rw [ints_len, hU.1]
      have lD : (ints D).length = es.length := by rw [ints_len, hD.1]
      have lE2 : ∀ i x, (ints (E.set i x)).length = es.length := fun i x => by rw [ints_len, List.length_set, hE.1]
      have lU2 : ∀ i x, (ints (U.set i x)).length = es.length := fun i x => by rw [ints_len, List.length_set, hU.1]
      have lD2 : ∀ i x, (ints (D.set i x)).length = es.length := fun i x => by rw [ints_len, List.length_set, hD.1]
      have hslen := stk_len es k
      have hkB := cellsAt_lt hcb
      have hcb3 : ∀ x y z, LH.cellsAt (((B.set (H.length + 2) x).set (H.length + 3) y).set (H.length + 1) z) kb = some (ints ((stk es k).map Int.ofNat) ++ g) := fun x y z => by
        rw [cellsAt_set_ne (by omega), cellsAt_set_ne (by omega), cellsAt_set_ne (by omega)]; exact hcb
      have hcb1 : ∀ x L, LH.cellsAt (B.set (H.length + 2) x ++ L) kb = some (ints ((stk es k).map Int.ofNat) ++ g) := fun x L => cellsAt_left (by rw [cellsAt_set_ne (by omega)]; exact hcb)
      have hcb2 : ∀ x y z L, LH.cellsAt (((B.set (H.length + 2) x).set (H.length + 3) y).set (H.length + 1) z ++ L) kb = some (ints ((stk es k).map Int.ofNat) ++ g) := fun x y z L => cellsAt_left (hcb3 x y z)
      have q3 : ∀ x y z L, LH.cellsAt (((B.set (H.length + 2) x).set (H.length + 3) y).set (H.length + 1) z ++ L) B.length = LH.cellsAt L 0 := fun x y z L => cellsAt_at (by simp only [List.length_set])
      have q5 : ∀ x y z L i, LH.cellsAt (((B.set (H.length + 2) x).set (H.length + 3) y).set (H.length + 1) z ++ L) (B.length + i) = LH.cellsAt L i := fun x y z L i => by
        have := cellsAt_app (((B.set (H.length + 2) x).set (H.length + 3) y).set (H.length + 1) z) L i
        simpa only [List.length_set] using this
      have q2 : ∀ x L, LH.cellsAt (B.set (H.length + 2) x ++ L) B.length = LH.cellsAt L 0 := fun x L => cellsAt_at (by simp only [List.length_set])
      have q4 : ∀ x y z w L i, LH.cellsAt ((((B.set (H.length + 2) x).set (H.length + 3) y).set (H.length + 1) z).set kb w ++ L) (B.length + i) = LH.cellsAt L i := fun x y z w L i => by
        have := cellsAt_app ((((B.set (H.length + 2) x).set (H.length + 3) y).set (H.length + 1) z).set kb w) L i
        simpa only [List.length_set] using this
      have q6 : ∀ x y z w L, LH.cellsAt ((((B.set (H.length + 2) x).set (H.length + 3) y).set (H.length + 1) z).set kb (.cells w) ++ L) kb = some w := fun x y z w L => cellsAt_left (cellsAt_set (by simp only [List.length_set]; exact hkB))
      have l3 : ∀ x y z, (((B.set (H.length + 2) x).set (H.length + 3) y).set (H.length + 1) z).length = B.length := fun x y z => by simp only [List.length_set]
      -- the next round's facts
      have nU : ∀ x, upF es k = x → Upto (U.set k x) es.length (k + 1) (upF es) := fun x hx => hU.set hlt hlt hx (fun m h1 h2 => ⟨by omega, rfl⟩)
      have nD : ∀ x, (docGo es (k + 1) : Int) = x → Upto (D.set k x) es.length (k + 1) (fun i => (docGo es (i + 1) : Int)) := fun x hx => hD.set hlt hlt hx (fun m h1 h2 => ⟨by omega, rfl⟩)
      have frA : ∀ x y z L, Fr (H.length + 5) [H.length + 1, H.length + 2, H.length + 3] B (((B.set (H.length + 2) x).set (H.length + 3) y).set (H.length + 1) z ++ L) := fun x y z L =>
        (Fr.set (.inl (by simp))).trans ((Fr.set (.inl (by simp))).trans ((Fr.set (.inl (by simp))).trans (Fr.app (by simp only [List.length_set]; omega))))
      have frB : ∀ x y z w L, Fr (H.length + 5) [H.length + 1, H.length + 2, H.length + 3] B ((((B.set (H.length + 2) x).set (H.length + 3) y).set (H.length + 1) z).set kb w ++ L) := fun x y z w L =>
        (Fr.set (.inl (by simp))).trans ((Fr.set (.inl (by simp))).trans ((Fr.set (.inl (by simp))).trans ((Fr.set (.inr hkb)).trans (Fr.app (by simp only [List.length_set]; omega)))))
      have nx : ∀ (B' : LH), Fr (H.length + 5) [H.length + 1, H.length + 2, H.length + 3] B B' → Hx H B' ∧ H.length + 6 ≤ B'.length ∧ (∃ cs, B'.cellsAt H.length = some cs ∧ cs.length = 4) ∧ B'.cellsAt (H.length + 4) = some [v, .sl (H.length + 1) 0 1 es.length es.length, .sl (H.length + 2) 0 1 es.length es.length, .sl (H.length + 3) 0 1 es.length es.length] := fun B' hf =>
        ⟨hf.hx hx (by omega) (fun b hb => by simp at hb; omega), by have := hf.len; omega, ⟨cs0, hf.cells c0 (by omega) (by simp), hcs0⟩, hf.cells c4 (by omega) (by simp)⟩
      have xA : ∀ x y z L, LH.cellsAt (((B.set (H.length + 2) (.cells x)).set (H.length + 3) (.cells y)).set (H.length + 1) (.cells z) ++ L) (H.length + 1) = some z ∧ LH.cellsAt (((B.set (H.length + 2) (.cells x)).set (H.length + 3) (.cells y)).set (H.length + 1) (.cells z) ++ L) (H.length + 2) = some x ∧ LH.cellsAt (((B.set (H.length + 2) (.cells x)).set (H.length + 3) (.cells y)).set (H.length + 1) (.cells z) ++ L) (H.length + 3) = some y := fun x y z L =>
        ⟨cellsAt_left (cellsAt_set (by simp only [List.length_set]; omega)), cellsAt_left (by rw [cellsAt_set_ne (by omega), cellsAt_set_ne (by omega), cellsAt_set (by omega)]), cellsAt_left (by rw [cellsAt_set_ne (by omega), cellsAt_set (by simp only [List.length_set]; omega)])⟩
      have xB : ∀ x y z w L, LH.cellsAt ((((B.set (H.length + 2) (.cells x)).set (H.length + 3) (.cells y)).set (H.length + 1) (.cells z)).set kb w ++ L) (H.length + 1) = some z ∧ LH.cellsAt ((((B.set (H.length + 2) (.cells x)).set (H.length + 3) (.cells y)).set (H.length + 1) (.cells z)).set kb w ++ L) (H.length + 2) = some x ∧ LH.cellsAt ((((B.set (H.length + 2) (.cells x)).set (H.length + 3) (.cells y)).set (H.length + 1) (.cells z)).set kb w ++ L) (H.length + 3) = some y := fun x y z w L =>
        ⟨cellsAt_left (by rw [cellsAt_set_ne (by omega)]; exact cellsAt_set (by simp only [List.length_set]; omega)), cellsAt_left (by rw [cellsAt_set_ne (by omega), cellsAt_set_ne (by omega), cellsAt_set_ne (by omega), cellsAt_set (by omega)]), cellsAt_left (by rw [cellsAt_set_ne (by omega), cellsAt_set_ne (by omega), cellsAt_set (by simp only [List.length_set]; omega)])⟩
      have hup : upF es k = if stk es k = [] then -1 else (((stk es k).getD ((stk es k).length - 1) 0 : Nat) : Int) := upF_stk es hB (by omega)
      have hdoc : (docGo es (k + 1) : Int) = if (es.getD k evZ).kind = 2 then (k : Int) else dd := by
        rw [hd]
        show ((if kd es k = 2 then k else docGo es k : Nat) : Int) = _
        by_cases h2 : kd es k = 2
        · rw [if_pos h2, if_pos h2]
        · rw [if_neg h2, if_neg h2]
      -- the stack has one more, or is as it was
      have ints_app : ∀ (s : List Nat), ints (s.map Int.ofNat) ++ [V.int .i64 (k : Int)] = ints ((s ++ [k]).map Int.ofNat) := fun s => by simp [ints]
      have go := fun (dd' : Int) u (B' : LH) (E' U' D' : List Int) x0 x6 x7 x8 x24 x35 x47 x58 x65 x84 hfr (hx : _ ∧ _ ∧ _) hE hU hD hS hd' => ih (k + 1) ((k : Int) + 1) dd' u B' E' U' D' x0 x6 x7 x8 x24 x35 x47 x58 x65 x84 (by omega) (by omega) (by omega) (nx B' hfr).1 (nx B' hfr).2.1 (nx B' hfr).2.2.1 (nx B' hfr).2.2.2 hx.1 hx.2.1 hx.2.2 hE hU hD hS hd'
      by_cases hC : isC (evA es k)
      · rw [decide_eq_true hC] at n1
        have hC2 : (es.getD k evZ).kind = 3 ∨ (es.getD k evZ).kind = 4 := hC
        have h2 : ¬ (es.getD k evZ).kind = 2 := by omega
        rw [if_neg h2] at hdoc
        have hs1 : stk es (k + 1) = stk es k ++ [k] := if_pos hC
        have nE : Upto (E.set k (-1)) es.length (k + 1) (endV es (k + 1)) := hE.set hlt hlt (by rw [endV_C es hC (by omega), if_pos rfl]) (fun m h1 h3 => ⟨by omega, by rw [endV_C es hC (by omega), if_neg h3]⟩)
        have hl1 : (stk es (k + 1)).length = (stk es k).length + 1 := by rw [hs1, List.length_append]; rfl
        have hi1 : ints ((stk es (k + 1)).map Int.ofNat) = ints ((stk es k).map Int.ofNat) ++ [V.int .i64 (k : Int)] := by rw [hs1, ints_app]
        have hW : (ints ((stk es k).map Int.ofNat)).length = (stk es k).length := by simp [ints]
        clear hC hC2 hs1 ints_app
        cases g with
        | nil =>
          have hn1 : ∀ (B' : LH), LH.cellsAt B' (B.length + 2) = some (ints ((stk es k).map Int.ofNat) ++ [V.int .i64 (k : Int)]) → StA (H.length + 5) B' (.sl (B.length + 2) 0 1 ((stk es k).length + 1) ((stk es k).length + 1)) (stk es (k + 1)) := fun B' hb =>
            ⟨B.length + 2, [], by rw [hl1]; rfl, by rw [hi1, List.append_nil]; exact hb, by omega⟩
          have ap := fun x y z L t => push_full (fl := H.length) (L := L) (x := t) (n := (stk es k).length) (hcb3 x y z) (by rw [List.append_nil]; exact hW) (by omega) (by omega)
          by_cases hne : stk es k = []
          · rw [if_pos hne] at hup
            generalize stk es k = S at *
            subst hne
            simp only [List.append_nil, List.length_nil, Nat.add_zero, List.map_nil] at *
            unfold run evC at *
            rw [zEv_round hc, ← hR]
            simp (config := {contextual := true, maxSteps := 10000000, implicitDefEqProofs := false}) (disch := first | (and_intros <;> omega -splitDisjunctions) | (simp only [List.length_set, List.length_append, List.length_cons, List.length_nil]; and_intros <;> omega -splitDisjunctions) | fail) only [t1, h2, ap, g6, n1, n2, q2, q3, q4, q5, q6, l3, c4, cE, cU, cD, lE, lU, lD, lE2, lU2, lD2, ints_set, List.set_set, Nat.sub_zero, f0, f1, f2, f3, f4, f5, f6, cellsAt_set, cellsAt_set_ne, cellsAt_old, set_old, Tryd.f49, go_sem, ↓reduceIte, Nat.reduceEqDiff, Nat.reduceAdd, Nat.reduceMul, Nat.reduceLT, Nat.reduceLeDiff, reduceCtorEq, Int.reduceNe, Int.reduceEq, Int.reduceLT, Int.reduceLE, Int.reduceAdd, Int.reduceSub, Int.reduceMul, Int.reduceNeg, Int.reduceToNat, UInt8.reduceToNat, natLit, ty3, ty4, ty9, ty39, ty65, ty67, ty71]
            rw [hR]
            refine go _ _ _ _ _ _ _ _ _ _ _ _ _ _ _ _ (frB _ _ _ _ _) (xB _ _ _ _ _) nE (nU _ hup) (nD _ hdoc) (hn1 _ ?_) hdoc.symm
            rw [q4]; rfl
          · simp only [List.append_nil, List.length_nil, Nat.add_zero] at *
            obtain ⟨n, hn⟩ : ∃ n, (stk es k).length = n + 1 := ⟨(stk es k).length - 1, by have := List.length_pos_iff.2 hne; omega⟩
            have hnb : n + 1 ≤ 1048576 := by omega
            have p1 := fun g => ints_get (l := (stk es k).map Int.ofNat) (i := n) (by rw [List.length_map]; omega) g
            have p2 : (((stk es k).map Int.ofNat).getD n 0) = (((stk es k).getD n 0 : Nat) : Int) := by
              rw [List.getD_eq_getElem?_getD, List.getD_eq_getElem?_getD, List.getElem?_map, List.getElem?_eq_getElem (by omega)]; rfl
            rw [if_neg hne, hn, Nat.add_sub_cancel] at hup
            rw [p2] at p1
            generalize (stk es k).getD n 0 = T at *
            generalize stk es k = S at *
            have t3 : ((((n : Nat) + 1 : Nat) : Int) > 0) = True := eq_true (by omega)
            have t4 : ((((n : Nat) + 1 : Nat) : Int) - 1).toNat = n := by omega
            have p3 := p1 []
            rw [List.append_nil] at p3
            have hWl : (ints (S.map Int.ofNat)).length = n + 1 := by simp [ints, hn]
            have hWg : ∀ g, (ints (S.map Int.ofNat) ++ g).length = n + 1 + g.length := fun g => by rw [List.length_append, hWl]
            have hq : PLift (S.length = n + 1) := ⟨hn⟩
            simp only [hn] at *
            unfold run evC at *
            rw [zEv_round hc, ← hR]
            simp (config := {contextual := true, maxSteps := 10000000, implicitDefEqProofs := false}) (disch := first | (and_intros <;> omega -splitDisjunctions) | (simp only [List.length_set, List.length_append, List.length_cons, List.length_nil]; and_intros <;> omega -splitDisjunctions) | fail) only [t1, h2, ap, t3, t4, p1, p3, hWl, hcb1, g6, n1, n2, q2, q3, q4, q5, q6, l3, c4, cE, cU, cD, lE, lU, lD, lE2, lU2, lD2, ints_set, List.set_set, Nat.sub_zero, f0, f1, f2, f3, f4, f5, f6, cellsAt_set, cellsAt_set_ne, cellsAt_old, set_old, Tryd.f49, go_sem, ↓reduceIte, Nat.reduceEqDiff, Nat.reduceAdd, Nat.reduceMul, Nat.reduceLT, Nat.reduceLeDiff, reduceCtorEq, Int.reduceNe, Int.reduceEq, Int.reduceLT, Int.reduceLE, Int.reduceAdd, Int.reduceSub, Int.reduceMul, Int.reduceNeg, Int.reduceToNat, UInt8.reduceToNat, natLit, ty3, ty4, ty9, ty39, ty65, ty67, ty71]
            rw [hR]
            refine go _ _ _ _ _ _ _ _ _ _ _ _ _ _ _ _ (frB _ _ _ _ _) (xB _ _ _ _ _) nE (nU _ hup) (nD _ hdoc) (hn1 _ ?_) hdoc.symm
            rw [q4]; rfl
        | cons y g =>
          have hn1 : ∀ (B' : LH), LH.cellsAt B' kb = some (ints ((stk es k).map Int.ofNat) ++ V.int .i64 (k : Int) :: g) → StA (H.length + 5) B' (.sl kb 0 1 ((stk es k).length + 1) ((stk es k).length + (g.length + 1))) (stk es (k + 1)) := fun B' hb =>
            ⟨kb, g, by rw [hl1, show (stk es k).length + 1 + g.length = (stk es k).length + (g.length + 1) by omega], by rw [hi1, List.append_assoc]; exact hb, hkb⟩
          have ap := fun x y' z L t => push_room (fl := H.length) (L := L) (x := t) (n := (stk es k).length) (y := y) (g := g) (hcb3 x y' z) hW (by omega)
          by_cases hne : stk es k = []
          · rw [if_pos hne] at hup
            generalize stk es k = S at *
            subst hne
            simp only [List.length_cons, List.length_nil, Nat.zero_add, List.map_nil] at *
            unfold run evC at *
            rw [zEv_round hc, ← hR]
            simp (config := {contextual := true, maxSteps := 10000000, implicitDefEqProofs := false}) (disch := first | (and_intros <;> omega -splitDisjunctions) | (simp only [List.length_set, List.length_append, List.length_cons, List.length_nil]; and_intros <;> omega -splitDisjunctions) | fail) only [t1, h2, ap, g6, n1, n2, q2, q3, q4, q5, q6, l3, c4, cE, cU, cD, lE, lU, lD, lE2, lU2, lD2, ints_set, List.set_set, Nat.sub_zero, f0, f1, f2, f3, f4, f5, f6, cellsAt_set, cellsAt_set_ne, cellsAt_old, set_old, Tryd.f49, go_sem, ↓reduceIte, Nat.reduceEqDiff, Nat.reduceAdd, Nat.reduceMul, Nat.reduceLT, Nat.reduceLeDiff, reduceCtorEq, Int.reduceNe, Int.reduceEq, Int.reduceLT, Int.reduceLE, Int.reduceAdd, Int.reduceSub, Int.reduceMul, Int.reduceNeg, Int.reduceToNat, UInt8.reduceToNat, natLit, ty3, ty4, ty9, ty39, ty65, ty67, ty71]
            rw [hR]
            refine go _ _ _ _ _ _ _ _ _ _ _ _ _ _ _ _ (frB _ _ _ _ _) (xB _ _ _ _ _) nE (nU _ hup) (nD _ hdoc) (hn1 _ ?_) hdoc.symm
            rw [q6]
          · simp only [List.length_cons] at *
            obtain ⟨n, hn⟩ : ∃ n, (stk es k).length = n + 1 := ⟨(stk es k).length - 1, by have := List.length_pos_iff.2 hne; omega⟩
            have hnb : n + 1 ≤ 1048576 := by omega
            have p1 := fun g => ints_get (l := (stk es k).map Int.ofNat) (i := n) (by rw [List.length_map]; omega) g
            have p2 : (((stk es k).map Int.ofNat).getD n 0) = (((stk es k).getD n 0 : Nat) : Int) := by
              rw [List.getD_eq_getElem?_getD, List.getD_eq_getElem?_getD, List.getElem?_map, List.getElem?_eq_getElem (by omega)]; rfl
            rw [if_neg hne, hn, Nat.add_sub_cancel] at hup
            rw [p2] at p1
            generalize (stk es k).getD n 0 = T at *
            generalize stk es k = S at *
            have t3 : ((((n : Nat) + 1 : Nat) : Int) > 0) = True := eq_true (by omega)
            have t4 : ((((n : Nat) + 1 : Nat) : Int) - 1).toNat = n := by omega
            have p3 := p1 []
            rw [List.append_nil] at p3
            have hWl : (ints (S.map Int.ofNat)).length = n + 1 := by simp [ints, hn]
            have hWg : ∀ g, (ints (S.map Int.ofNat) ++ g).length = n + 1 + g.length := fun g => by rw [List.length_append, hWl]
            have hq : PLift (S.length = n + 1) := ⟨hn⟩
            simp only [hn] at *
            unfold run evC at *
            rw [zEv_round hc, ← hR]
            simp (config := {contextual := true, maxSteps := 10000000, implicitDefEqProofs := false}) (disch := first | (and_intros <;> omega -splitDisjunctions) | (simp only [List.length_set, List.length_append, List.length_cons, List.length_nil]; and_intros <;> omega -splitDisjunctions) | fail) only [t1, h2, ap, t3, t4, p1, p3, hWl, hWg, hcb1, g6, n1, n2, q2, q3, q4, q5, q6, l3, c4, cE, cU, cD, lE, lU, lD, lE2, lU2, lD2, ints_set, List.set_set, Nat.sub_zero, f0, f1, f2, f3, f4, f5, f6, cellsAt_set, cellsAt_set_ne, cellsAt_old, set_old, Tryd.f49, go_sem, ↓reduceIte, Nat.reduceEqDiff, Nat.reduceAdd, Nat.reduceMul, Nat.reduceLT, Nat.reduceLeDiff, reduceCtorEq, Int.reduceNe, Int.reduceEq, Int.reduceLT, Int.reduceLE, Int.reduceAdd, Int.reduceSub, Int.reduceMul, Int.reduceNeg, Int.reduceToNat, UInt8.reduceToNat, natLit, ty3, ty4, ty9, ty39, ty65, ty67, ty71]
            rw [hR]
            refine go _ _ _ _ _ _ _ _ _ _ _ _ _ _ _ _ (frB _ _ _ _ _) (xB _ _ _ _ _) nE (nU _ hup) (nD _ hdoc) (hn1 _ ?_) hdoc.symm
            rw [q6]
      · rw [decide_eq_false hC] at n1
        by_cases h7 : (es.getD k evZ).kind = 7
        · have hs1 : stk es (k + 1) = (stk es k).dropLast := by show (if _ then _ else _) = _; rw [if_neg hC, if_pos h7]
          have hne := hB k hlt h7
          rw [if_neg (by omega)] at hdoc
          have hkT : ∀ n, (stk es k).length = n + 1 → (stk es k).getD n 0 < k := fun n hn => by rw [getD_of (show n < (stk es k).length by omega)]; exact stk_lt es k _ (List.getElem_mem _)
          have nE : ∀ n, (stk es k).length = n + 1 → Upto ((E.set k (-1)).set ((stk es k).getD n 0) k) es.length (k + 1) (endV es (k + 1)) := fun n hn => by
            have hT := hkT n hn
            have h7' := fun m (hm : m < k + 1) => endV_7 es hB hlt h7 hm
            rw [hn, Nat.add_sub_cancel] at h7'
            generalize (stk es k).getD n 0 = T at *
            have hE1 : Upto (E.set k (-1)) es.length (k + 1) (fun j => if j = k then -1 else endV es k j) := hE.set hlt hlt (if_pos rfl) (fun m h1 h3 => ⟨by omega, if_neg h3⟩)
            refine ⟨by rw [List.length_set]; exact hE1.1, fun m hm => ?_⟩
            rw [h7' m hm, List.getD_eq_getElem?_getD, List.getElem?_set]
            by_cases e : T = m
            · rw [if_pos e, if_pos (by rw [hE1.1]; omega), if_pos e.symm]; rfl
            · rw [if_neg e, if_neg (fun h => e h.symm), ← List.getD_eq_getElem?_getD, hE1.2 m hm]
          have hn1 : ∀ n, (stk es k).length = n + 1 → ∀ (B' : LH), LH.cellsAt B' kb = some (ints ((stk es k).map Int.ofNat) ++ g) → StA (H.length + 5) B' (.sl kb 0 1 n (n + 1 + g.length)) (stk es (k + 1)) := fun n hn B' hb => by
            have hsp := List.dropLast_concat_getLast hne
            refine ⟨kb, ints [Int.ofNat ((stk es k).getLast hne)] ++ g, ?_, ?_, hkb⟩
            · rw [hs1, List.length_dropLast, hn, List.length_append, ints_len]; simp only [Nat.add_sub_cancel, List.length_singleton]; rw [show n + 1 + g.length = n + (1 + g.length) by omega]
            · rw [hb, hs1]
              conv => lhs; rw [← hsp]
              simp [ints]
          clear hs1
          obtain ⟨n, hn⟩ : ∃ n, (stk es k).length = n + 1 := ⟨(stk es k).length - 1, by have := List.length_pos_iff.2 hne; omega⟩
          have hnb : n + 1 ≤ 1048576 := by omega
          have p1 := fun g => ints_get (l := (stk es k).map Int.ofNat) (i := n) (by rw [List.length_map]; omega) g
          have p2 : (((stk es k).map Int.ofNat).getD n 0) = (((stk es k).getD n 0 : Nat) : Int) := by
            rw [List.getD_eq_getElem?_getD, List.getD_eq_getElem?_getD, List.getElem?_map, List.getElem?_eq_getElem (by omega)]; rfl
          rw [if_neg hne, hn, Nat.add_sub_cancel] at hup
          rw [p2] at p1
          have nE1 := nE n hn
          have hn2 := hn1 n hn
          have hkT1 := hkT n hn
          clear nE hn1 hkT
          generalize (stk es k).getD n 0 = T at *
          generalize stk es k = S at *
          have t3 : ((((n : Nat) + 1 : Nat) : Int) > 0) = True := eq_true (by omega)
          have t4 : ((((n : Nat) + 1 : Nat) : Int) - 1).toNat = n := by omega
          have p3 := p1 []
          rw [List.append_nil] at p3
          have hWl : (ints (S.map Int.ofNat)).length = n + 1 := by simp [ints, hn]
          have hWg : ∀ g, (ints (S.map Int.ofNat) ++ g).length = n + 1 + g.length := fun g => by rw [List.length_append, hWl]
          have hq : PLift (S.length = n + 1) := ⟨hn⟩
          simp only [hn] at *
          have hTl : (T : Int) < es.length := by omega
          have hTn : T + 1 ≤ es.length := by omega
          unfold run evC at *
          simp only [h7] at n1 n2 g6
          rw [zEv_round hc, ← hR]
          simp (config := {contextual := true, maxSteps := 10000000, implicitDefEqProofs := false}) (disch := first | (and_intros <;> omega -splitDisjunctions) | (simp only [List.length_set, List.length_append, List.length_cons, List.length_nil]; and_intros <;> omega -splitDisjunctions) | fail) only [t1, t3, t4, p1, p3, hWl, hWg, hcb1, hcb2, hTn, g6, n1, n2, q2, q3, q4, q5, q6, l3, c4, cE, cU, cD, lE, lU, lD, lE2, lU2, lD2, ints_set, List.set_set, Nat.sub_zero, f0, f1, f2, f3, f4, f5, f6, cellsAt_set, cellsAt_set_ne, cellsAt_old, set_old, Tryd.f49, go_sem, ↓reduceIte, Nat.reduceEqDiff, Nat.reduceAdd, Nat.reduceMul, Nat.reduceLT, Nat.reduceLeDiff, reduceCtorEq, Int.reduceNe, Int.reduceEq, Int.reduceLT, Int.reduceLE, Int.reduceAdd, Int.reduceSub, Int.reduceMul, Int.reduceNeg, Int.reduceToNat, UInt8.reduceToNat, natLit, ty3, ty4, ty9, ty39, ty65, ty67, ty71]
          rw [hR]
          refine go _ _ _ _ _ _ _ _ _ _ _ _ _ _ _ _ (frA _ _ _ _) (xA _ _ _ _) nE1 (nU _ hup) (nD _ hdoc) (hn2 _ ?_) hdoc.symm
          rw [hcb2]
        have hs1 : stk es (k + 1) = stk es k := by show (if _ then _ else _) = _; rw [if_neg hC, if_neg h7]
        have hn1 : ∀ (B' : LH), LH.cellsAt B' kb = some (ints ((stk es k).map Int.ofNat) ++ g) → StA (H.length + 5) B' (.sl kb 0 1 (stk es k).length ((stk es k).length + g.length)) (stk es (k + 1)) := fun B' hb => by
          rw [hs1]; exact ⟨kb, g, rfl, hb, hkb⟩
        by_cases hN : isN (evA es k)
        · rw [decide_eq_true hN] at n2
          have h2 : ¬ (es.getD k evZ).kind = 2 := by have : 3 ≤ (es.getD k evZ).kind ∧ (es.getD k evZ).kind ≤ 6 := hN; omega
          rw [if_neg h2] at hdoc
          have nE : Upto (E.set k k) es.length (k + 1) (endV es (k + 1)) := hE.set hlt hlt (by rw [endV_O es hlt hC h7 (by omega), if_pos rfl, if_pos hN]) (fun m h1 h3 => ⟨by omega, by rw [endV_O es hlt hC h7 (by omega), if_neg h3]⟩)
          clear hs1 ints_app
          by_cases hne : stk es k = []
          · rw [if_pos hne] at hup
            generalize stk es k = S at *
            subst hne
            simp only [List.length_nil, Nat.zero_add, List.map_nil] at *
            unfold run evC at *
            rw [zEv_round hc, ← hR]
            simp (config := {contextual := true, maxSteps := 10000000, implicitDefEqProofs := false}) (disch := first | (and_intros <;> omega -splitDisjunctions) | (simp only [List.length_set, List.length_append, List.length_cons, List.length_nil]; and_intros <;> omega -splitDisjunctions) | fail) only [t1, h2, h7, g6, n1, n2, q2, q3, q4, q5, q6, l3, c4, cE, cU, cD, lE, lU, lD, lE2, lU2, lD2, ints_set, List.set_set, Nat.sub_zero, f0, f1, f2, f3, f4, f5, f6, cellsAt_set, cellsAt_set_ne, cellsAt_old, set_old, Tryd.f49, go_sem, ↓reduceIte, Nat.reduceEqDiff, Nat.reduceAdd, Nat.reduceMul, Nat.reduceLT, Nat.reduceLeDiff, reduceCtorEq, Int.reduceNe, Int.reduceEq, Int.reduceLT, Int.reduceLE, Int.reduceAdd, Int.reduceSub, Int.reduceMul, Int.reduceNeg, Int.reduceToNat, UInt8.reduceToNat, natLit, ty3, ty4, ty9, ty39, ty65, ty67, ty71]
            rw [hR]
            refine go _ _ _ _ _ _ _ _ _ _ _ _ _ _ _ _ (frA _ _ _ _) (xA _ _ _ _) nE (nU _ hup) (nD _ hdoc) (hn1 _ ?_) hdoc.symm
            rw [hcb2]
          · skip
            obtain ⟨n, hn⟩ : ∃ n, (stk es k).length = n + 1 := ⟨(stk es k).length - 1, by have := List.length_pos_iff.2 hne; omega⟩
            have hnb : n + 1 ≤ 1048576 := by omega
            have p1 := fun g => ints_get (l := (stk es k).map Int.ofNat) (i := n) (by rw [List.length_map]; omega) g
            have p2 : (((stk es k).map Int.ofNat).getD n 0) = (((stk es k).getD n 0 : Nat) : Int) := by
              rw [List.getD_eq_getElem?_getD, List.getD_eq_getElem?_getD, List.getElem?_map, List.getElem?_eq_getElem (by omega)]; rfl
            rw [if_neg hne, hn, Nat.add_sub_cancel] at hup
            rw [p2] at p1
            generalize (stk es k).getD n 0 = T at *
            generalize stk es k = S at *
            have t3 : ((((n : Nat) + 1 : Nat) : Int) > 0) = True := eq_true (by omega)
            have t4 : ((((n : Nat) + 1 : Nat) : Int) - 1).toNat = n := by omega
            have p3 := p1 []
            rw [List.append_nil] at p3
            have hWl : (ints (S.map Int.ofNat)).length = n + 1 := by simp [ints, hn]
            have hWg : ∀ g, (ints (S.map Int.ofNat) ++ g).length = n + 1 + g.length := fun g => by rw [List.length_append, hWl]
            have hq : PLift (S.length = n + 1) := ⟨hn⟩
            simp only [hn] at *
            unfold run evC at *
            rw [zEv_round hc, ← hR]
            simp (config := {contextual := true, maxSteps := 10000000, implicitDefEqProofs := false}) (disch := first | (and_intros <;> omega -splitDisjunctions) | (simp only [List.length_set, List.length_append, List.length_cons, List.length_nil]; and_intros <;> omega -splitDisjunctions) | fail) only [t1, h2, h7, t3, t4, p1, p3, hWl, hWg, hcb1, g6, n1, n2, q2, q3, q4, q5, q6, l3, c4, cE, cU, cD, lE, lU, lD, lE2, lU2, lD2, ints_set, List.set_set, Nat.sub_zero, f0, f1, f2, f3, f4, f5, f6, cellsAt_set, cellsAt_set_ne, cellsAt_old, set_old, Tryd.f49, go_sem, ↓reduceIte, Nat.reduceEqDiff, Nat.reduceAdd, Nat.reduceMul, Nat.reduceLT, Nat.reduceLeDiff, reduceCtorEq, Int.reduceNe, Int.reduceEq, Int.reduceLT, Int.reduceLE, Int.reduceAdd, Int.reduceSub, Int.reduceMul, Int.reduceNeg, Int.reduceToNat, UInt8.reduceToNat, natLit, ty3, ty4, ty9, ty39, ty65, ty67, ty71]
            rw [hR]
            refine go _ _ _ _ _ _ _ _ _ _ _ _ _ _ _ _ (frA _ _ _ _) (xA _ _ _ _) nE (nU _ hup) (nD _ hdoc) (hn1 _ ?_) hdoc.symm
            rw [hcb2]
        rw [decide_eq_false hN] at n2
        have nE : Upto (E.set k (-1)) es.length (k + 1) (endV es (k + 1)) := hE.set hlt hlt (by rw [endV_O es hlt hC h7 (by omega), if_pos rfl, if_neg hN]) (fun m h1 h3 => ⟨by omega, by rw [endV_O es hlt hC h7 (by omega), if_neg h3]⟩)
        clear hs1 ints_app
        by_cases h2 : (es.getD k evZ).kind = 2
        · rw [if_pos h2] at hdoc
          by_cases hne : stk es k = []
          · rw [if_pos hne] at hup
            generalize stk es k = S at *
            subst hne
            simp only [List.length_nil, Nat.zero_add, List.map_nil] at *
            unfold run evC at *
            simp only [h2] at n1 n2 g6
            rw [zEv_round hc, ← hR]
            simp (config := {contextual := true, maxSteps := 10000000, implicitDefEqProofs := false}) (disch := first | (and_intros <;> omega -splitDisjunctions) | (simp only [List.length_set, List.length_append, List.length_cons, List.length_nil]; and_intros <;> omega -splitDisjunctions) | fail) only [t1, hcb2, g6, n1, n2, q2, q3, q4, q5, q6, l3, c4, cE, cU, cD, lE, lU, lD, lE2, lU2, lD2, ints_set, List.set_set, Nat.sub_zero, f0, f1, f2, f3, f4, f5, f6, cellsAt_set, cellsAt_set_ne, cellsAt_old, set_old, Tryd.f49, go_sem, ↓reduceIte, Nat.reduceEqDiff, Nat.reduceAdd, Nat.reduceMul, Nat.reduceLT, Nat.reduceLeDiff, reduceCtorEq, Int.reduceNe, Int.reduceEq, Int.reduceLT, Int.reduceLE, Int.reduceAdd, Int.reduceSub, Int.reduceMul, Int.reduceNeg, Int.reduceToNat, UInt8.reduceToNat, natLit, ty3, ty4, ty9, ty39, ty65, ty67, ty71]
            rw [hR]
            refine go _ _ _ _ _ _ _ _ _ _ _ _ _ _ _ _ (frA _ _ _ _) (xA _ _ _ _) nE (nU _ hup) (nD _ hdoc) (hn1 _ ?_) hdoc.symm
            rw [hcb2]
          · skip
            obtain ⟨n, hn⟩ : ∃ n, (stk es k).length = n + 1 := ⟨(stk es k).length - 1, by have := List.length_pos_iff.2 hne; omega⟩
            have hnb : n + 1 ≤ 1048576 := by omega
            have p1 := fun g => ints_get (l := (stk es k).map Int.ofNat) (i := n) (by rw [List.length_map]; omega) g
            have p2 : (((stk es k).map Int.ofNat).getD n 0) = (((stk es k).getD n 0 : Nat) : Int) := by
              rw [List.getD_eq_getElem?_getD, List.getD_eq_getElem?_getD, List.getElem?_map, List.getElem?_eq_getElem (by omega)]; rfl
            rw [if_neg hne, hn, Nat.add_sub_cancel] at hup
            rw [p2] at p1
            generalize (stk es k).getD n 0 = T at *
            generalize stk es k = S at *
            have t3 : ((((n : Nat) + 1 : Nat) : Int) > 0) = True := eq_true (by omega)
            have t4 : ((((n : Nat) + 1 : Nat) : Int) - 1).toNat = n := by omega
            have p3 := p1 []
            rw [List.append_nil] at p3
            have hWl : (ints (S.map Int.ofNat)).length = n + 1 := by simp [ints, hn]
            have hWg : ∀ g, (ints (S.map Int.ofNat) ++ g).length = n + 1 + g.length := fun g => by rw [List.length_append, hWl]
            have hq : PLift (S.length = n + 1) := ⟨hn⟩
            simp only [hn] at *
            unfold run evC at *
            simp only [h2] at n1 n2 g6
            rw [zEv_round hc, ← hR]
            simp (config := {contextual := true, maxSteps := 10000000, implicitDefEqProofs := false}) (disch := first | (and_intros <;> omega -splitDisjunctions) | (simp only [List.length_set, List.length_append, List.length_cons, List.length_nil]; and_intros <;> omega -splitDisjunctions) | fail) only [t1, t3, t4, p1, p3, hWl, hWg, hcb1, g6, n1, n2, q2, q3, q4, q5, q6, l3, c4, cE, cU, cD, lE, lU, lD, lE2, lU2, lD2, ints_set, List.set_set, Nat.sub_zero, f0, f1, f2, f3, f4, f5, f6, cellsAt_set, cellsAt_set_ne, cellsAt_old, set_old, Tryd.f49, go_sem, ↓reduceIte, Nat.reduceEqDiff, Nat.reduceAdd, Nat.reduceMul, Nat.reduceLT, Nat.reduceLeDiff, reduceCtorEq, Int.reduceNe, Int.reduceEq, Int.reduceLT, Int.reduceLE, Int.reduceAdd, Int.reduceSub, Int.reduceMul, Int.reduceNeg, Int.reduceToNat, UInt8.reduceToNat, natLit, ty3, ty4, ty9, ty39, ty65, ty67, ty71]
            rw [hR]
            refine go _ _ _ _ _ _ _ _ _ _ _ _ _ _ _ _ (frA _ _ _ _) (xA _ _ _ _) nE (nU _ hup) (nD _ hdoc) (hn1 _ ?_) hdoc.symm
            rw [hcb2]
        · rw [if_neg h2] at hdoc
          by_cases hne : stk es k = []
          · rw [if_pos hne] at hup
            generalize stk es k = S at *
            subst hne
            simp only [List.length_nil, Nat.zero_add, List.map_nil] at *
            unfold run evC at *
            rw [zEv_round hc, ← hR]
            simp (config := {contextual := true, maxSteps := 10000000, implicitDefEqProofs := false}) (disch := first | (and_intros <;> omega -splitDisjunctions) | (simp only [List.length_set, List.length_append, List.length_cons, List.length_nil]; and_intros <;> omega -splitDisjunctions) | fail) only [t1, h2, h7, g6, n1, n2, q2, q3, q4, q5, q6, l3, c4, cE, cU, cD, lE, lU, lD, lE2, lU2, lD2, ints_set, List.set_set, Nat.sub_zero, f0, f1, f2, f3, f4, f5, f6, cellsAt_set, cellsAt_set_ne, cellsAt_old, set_old, Tryd.f49, go_sem, ↓reduceIte, Nat.reduceEqDiff, Nat.reduceAdd, Nat.reduceMul, Nat.reduceLT, Nat.reduceLeDiff, reduceCtorEq, Int.reduceNe, Int.reduceEq, Int.reduceLT, Int.reduceLE, Int.reduceAdd, Int.reduceSub, Int.reduceMul, Int.reduceNeg, Int.reduceToNat, UInt8.reduceToNat, natLit, ty3, ty4, ty9, ty39, ty65, ty67, ty71]
            rw [hR]
            refine go _ _ _ _ _ _ _ _ _ _ _ _ _ _ _ _ (frA _ _ _ _) (xA _ _ _ _) nE (nU _ hup) (nD _ hdoc) (hn1 _ ?_) hdoc.symm
            rw [hcb2]
          · skip
            obtain ⟨n, hn⟩ : ∃ n, (stk es k).length = n + 1 := ⟨(stk es k).length - 1, by have := List.length_pos_iff.2 hne; omega⟩
            have hnb : n + 1 ≤ 1048576 := by omega
            have p1 := fun g => ints_get (l := (stk es k).map Int.ofNat) (i := n) (by rw [List.length_map]; omega) g
            have p2 : (((stk es k).map Int.ofNat).getD n 0) = (((stk es k).getD n 0 : Nat) : Int) := by
              rw [List.getD_eq_getElem?_getD, List.getD_eq_getElem?_getD, List.getElem?_map, List.getElem?_eq_getElem (by omega)]; rfl
            rw [if_neg hne, hn, Nat.add_sub_cancel] at hup
            rw [p2] at p1
            generalize (stk es k).getD n 0 = T at *
            generalize stk es k = S at *
            have t3 : ((((n : Nat) + 1 : Nat) : Int) > 0) = True := eq_true (by omega)
            have t4 : ((((n : Nat) + 1 : Nat) : Int) - 1).toNat = n := by omega
            have p3 := p1 []
            rw [List.append_nil] at p3
            have hWl : (ints (S.map Int.ofNat)).length = n + 1 := by simp [ints, hn]
            have hWg : ∀ g, (ints (S.map Int.ofNat) ++ g).length = n + 1 + g.length := fun g => by rw [List.length_append, hWl]
            have hq : PLift (S.length = n + 1) := ⟨hn⟩
            simp only [hn] at *
            unfold run evC at *
            rw [zEv_round hc, ← hR]
            simp (config := {contextual := true, maxSteps := 10000000, implicitDefEqProofs := false}) (disch := first | (and_intros <;> omega -splitDisjunctions) | (simp only [List.length_set, List.length_append, List.length_cons, List.length_nil]; and_intros <;> omega -splitDisjunctions) | fail) only [t1, h2, h7, t3, t4, p1, p3, hWl, hWg, hcb1, g6, n1, n2, q2, q3, q4, q5, q6, l3, c4, cE, cU, cD, lE, lU, lD, lE2, lU2, lD2, ints_set, List.set_set, Nat.sub_zero, f0, f1, f2, f3, f4, f5, f6, cellsAt_set, cellsAt_set_ne, cellsAt_old, set_old, Tryd.f49, go_sem, ↓reduceIte, Nat.reduceEqDiff, Nat.reduceAdd, Nat.reduceMul, Nat.reduceLT, Nat.reduceLeDiff, reduceCtorEq, Int.reduceNe, Int.reduceEq, Int.reduceLT, Int.reduceLE, Int.reduceAdd, Int.reduceSub, Int.reduceMul, Int.reduceNeg, Int.reduceToNat, UInt8.reduceToNat, natLit, ty3, ty4, ty9, ty39, ty65, ty67, ty71]
            rw [hR]
            refine go _ _ _ _ _ _ _ _ _ _ _ _ _ _ _ _ (frA _ _ _ _) (xA _ _ _ _) nE (nU _ hup) (nD _ hdoc) (hn1 _ ?_) hdoc.symm
            rw [hcb2]
  have u0 : ∀ f, Upto (List.replicate es.length 0) es.length 0 f := fun f => ⟨List.length_replicate, fun m h => absurd h (Nat.not_lt_zero _)⟩
  exact key (es.length + 1) 0 0 0 (.sl (H.length + 5) 0 1 0 0) _ (List.replicate es.length 0) (List.replicate es.length 0) (List.replicate es.length 0) _ _ _ _ _ _ _ _ _ _ (by omega) rfl (by omega) Hx.app (by simp) ⟨_, by rw [cellsAt_app0]; rfl, rfl⟩ (by rw [cellsAt_app]; rfl) (by rw [cellsAt_app]; rfl) (by rw [cellsAt_app]; rfl) (by rw [cellsAt_app]; rfl)
    (u0 _) (u0 _) (u0 _) ⟨H.length + 5, [], rfl, by rw [cellsAt_app]; rfl, Nat.le_refl _⟩ rfl
end Go.Proofs.YtcbjmggbbnpbpaaDoor.Lg
