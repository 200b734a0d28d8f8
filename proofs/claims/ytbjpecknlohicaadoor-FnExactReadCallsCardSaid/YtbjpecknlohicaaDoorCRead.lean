/- ReadCalls, as the program has it twice, over the logical machine. No condition. -/
import Derived.Test.YtbjpecknlohicaaDoorCSplit
import Derived.Test.YtbjpecknlohicaaDoorCTxCall
import Derived.Test.YtbjpecknlohicaaDoorCRune2
namespace Go.Proofs.YtbjpecknlohicaaDoor.Lg
set_option linter.unusedSimpArgs false
set_option linter.unusedVariables false
set_option maxRecDepth 100000
set_option maxHeartbeats 40000000
open Go.Proofs.YtbjpecknlohicaaDoor

def tcM (t : ByteArray) : Ca × Bool := tcF t (spN t) 12 1
theorem tcM_nil : tcM ⟨#[]⟩ = (ca0, false) := by
  have : ∀ (N : Int → Int) (d : Nat) (k : Int), tcF ⟨#[]⟩ N d k = (ca0, false) := by
    intro N d
    induction d with
    | zero => intro k; rfl
    | succ d ih => intro k; simp only [tcF, ne_eq, not_true_eq_false, false_and, if_false]; exact ih (k + 1)
  exact this _ 12 1
/-- the calls of lines; where one is none: its number -/
def rcL : List ByteArray → Int → List Ca → List Ca × Int
  | [], _, l => (l, 0)
  | t :: ts, n, l => if t = ⟨#[]⟩ then rcL ts (n + 1) l else if (tcM t).2 = true then rcL ts (n + 1) (l ++ [(tcM t).1]) else ([], n)
def RCok (H : LH) (r : List Ca × Int) (v : V) (H' : LH) : Prop := ∃ w, v = .tup [w, .int .i64 r.2] ∧ Hx H H' ∧ Own H.length H' caC 2 w r.1
theorem run_imTx (t : ByteArray) (fl : Nat) (H : LH) (hs : t.size ≤ 9223372036854775807) : run 20 [.str t] fl H = some (.tup [.agg [.int .i64 (tcM t).1.kind, .int .i64 (tcM t).1.n], .bool (tcM t).2], H) := by
  have := run_imTextCall t fl H hs
  rw [tc_same] at this
  exact this
theorem run_spTx (t : ByteArray) (fl : Nat) (H : LH) (hs : t.size ≤ 9223372036854775807) : run 18 [.str t] fl H = some (.tup [.agg [.int .i64 (tcM t).1.kind, .int .i64 (tcM t).1.n], .bool (tcM t).2], H) := run_spTextCall t fl H hs
theorem run_EndAt (s : ByteArray) (p : Nat) (fl : Nat) (H : LH) (hp : p ≤ s.size) (hs : s.size ≤ 1099511627776) : run 17 [.str s, .int .i64 (p : Int)] fl H = some (.int .i64 (endN s p), H) := by
  have e1 := fun fl H => run_l01P s p fl H (by omega)
  rw [spotI_in (by omega) (by omega)] at e1
  unfold run at *
  rw [Run_z Tryd.func17 rfl (by rfl : ok 17 = true) (by rfl : cfg.keep 17 = [0, 1, 4, 17]) (by rfl : cfg.mode 17 = .pure)]
  simp (config := {contextual := true, maxSteps := 10000000, implicitDefEqProofs := false}) (disch := first | (and_intros <;> omega -splitDisjunctions) | (simp only [List.length_set, List.length_append, List.length_cons, List.length_nil]; and_intros <;> omega -splitDisjunctions) | fail) only [e1, Tryd.f17, go_sem, ↓reduceIte, Nat.reduceEqDiff, Nat.reduceAdd, Nat.reduceMul, Nat.reduceLT, Nat.reduceLeDiff, reduceCtorEq, Int.reduceNe, Int.reduceEq, Int.reduceLT, Int.reduceLE, Int.reduceAdd, Int.reduceSub, Int.reduceMul, Int.reduceNeg, Int.reduceToNat, UInt8.reduceToNat, natLit, ty3, ty5, ty9]
  refine at_loopE fun c0 R hc0 hR => ?_
  have key : ∀ (d : Nat) (x4 x17 : Option V) (p : Nat) (j : Int), s.size - p ≤ d → p ≤ s.size → j = p →
      zEv (leaveX (mkR Tryd.prog cfg ok [0, 1, 4, 17] H.length) .pure H [ResultVar.tmp 4]) (mkR Tryd.prog cfg ok [0, 1, 4, 17] H.length) (K.code (Code.loop c0) :: K.blk 0 :: R) .nrm [some (.str s), some (.int .i64 j), x4, x17] H = some (.int .i64 (endN s p), H) := by
    intro d
    induction d with
    | zero =>
      intro x4 x17 p j hd hp hj
      subst hj
      rw [zEv_round hc0, ← hR]
      simp (config := {contextual := true, maxSteps := 10000000, implicitDefEqProofs := false}) (disch := first | (and_intros <;> omega -splitDisjunctions) | (simp only [List.length_set, List.length_append, List.length_cons, List.length_nil]; and_intros <;> omega -splitDisjunctions) | fail) only [Tryd.f17, go_sem, ↓reduceIte, Nat.reduceEqDiff, Nat.reduceAdd, Nat.reduceMul, Nat.reduceLT, Nat.reduceLeDiff, reduceCtorEq, Int.reduceNe, Int.reduceEq, Int.reduceLT, Int.reduceLE, Int.reduceAdd, Int.reduceSub, Int.reduceMul, Int.reduceNeg, Int.reduceToNat, UInt8.reduceToNat, natLit, ty3, ty5, ty9]
      rw [endN_here (by omega)]
      exact ite_E (fun h => by omega) (fun _ => rfl)
    | succ d ih =>
      intro x4 x17 p j hd hp hj
      subst hj
      rw [zEv_round hc0, ← hR]
      simp (config := {contextual := true, maxSteps := 10000000, implicitDefEqProofs := false}) (disch := first | (and_intros <;> omega -splitDisjunctions) | (simp only [List.length_set, List.length_append, List.length_cons, List.length_nil]; and_intros <;> omega -splitDisjunctions) | fail) only [Tryd.f17, go_sem, ↓reduceIte, Nat.reduceEqDiff, Nat.reduceAdd, Nat.reduceMul, Nat.reduceLT, Nat.reduceLeDiff, reduceCtorEq, Int.reduceNe, Int.reduceEq, Int.reduceLT, Int.reduceLE, Int.reduceAdd, Int.reduceSub, Int.reduceMul, Int.reduceNeg, Int.reduceToNat, UInt8.reduceToNat, natLit, ty3, ty5, ty9]
      rw [hR]
      refine ite_E (fun h => ?_) (fun h => ?_)
      · rw [endN_go (by omega) h.2]
        exact ih _ _ (p + 1) _ (by omega) (by omega) rfl
      · rw [endN_here (fun h2 => h ⟨by omega, h2.2⟩)]
  exact key s.size _ _ p _ (by omega) hp rfl
theorem lnF_len (s : ByteArray) : ∀ (d p : Nat), (lnF s d p).length ≤ d + 1
  | 0, p => by simp [lnF]
  | d + 1, p => by
    have := lnF_len s d (endN s p + 1)
    simp only [lnF, List.length_cons]
    split
    · omega
    · simp
theorem lnF_size (s : ByteArray) : ∀ (d p : Nat), ∀ t ∈ lnF s d p, t.size ≤ s.size
  | 0, p, t, h => by
    simp only [lnF, List.mem_singleton] at h
    subst h
    rw [ByteArray.size_extract]; omega
  | d + 1, p, t, h => by
    simp only [lnF, List.mem_cons] at h
    rcases h with h | h
    · subst h
      rw [ByteArray.size_extract]; omega
    · split at h
      · exact lnF_size s d _ t h
      · cases h
theorem rows_ca1 {l : List Ca} {k n : Int} : rows caC l ++ [.int .i64 k, .int .i64 n] = rows caC (l ++ [⟨k, n⟩]) := by rw [rows_app]; rfl
theorem run_imReadCalls (s : ByteArray) (fl : Nat) (H : LH) (hs : s.size ≤ 1048576) :
    Ret (RCok H (if 5000 < s.size then ([], 1) else rcL (lnF s s.size 0) 1 [])) (run 8 [.str s] fl H) := by
  have e1 := fun t fl H h => run_imTx t fl H h
  have e2 := fun fl H => run_genSplit s fl H (by omega)
  have eS : ∀ fl (H : LH), run 19 [.str s, .str ⟨#[10]⟩] fl H = some (.sl H.length 0 1 (cnL 10 (bs s) + 1) (cnL 10 (bs s) + 1), H ++ [.cells (rows stC (lnF s s.size 0))]) := by
    intro fl H
    unfold run at *
    rw [Run_z Tryd.func19 rfl (by rfl : ok 19 = true) (by rfl : cfg.keep 19 = [0, 1, 4]) (by rfl : cfg.mode 19 = .fresh)]
    simp (config := {contextual := true, maxSteps := 10000000, implicitDefEqProofs := false}) (disch := first | (and_intros <;> omega -splitDisjunctions) | (simp only [List.length_set, List.length_append, List.length_cons, List.length_nil]; and_intros <;> omega -splitDisjunctions) | fail) only [e2, Tryd.f19, go_sem, ↓reduceIte, Nat.reduceEqDiff, Nat.reduceAdd, Nat.reduceMul, Nat.reduceLT, Nat.reduceLeDiff, reduceCtorEq, Int.reduceNe, Int.reduceEq, Int.reduceLT, Int.reduceLE, Int.reduceAdd, Int.reduceSub, Int.reduceMul, Int.reduceNeg, Int.reduceToNat, UInt8.reduceToNat, natLit]
  have c2 := cn_le (bs s)
  rw [bs_len] at c2
  have hlen : (lnF s s.size 0).length = cnL 10 (bs s) + 1 := by
    have : ∀ (d p : Nat), s.size - p ≤ d → p ≤ s.size → (lnF s d p).length = cnL 10 ((bs s).drop p) + 1 := by
      intro d
      induction d with
      | zero =>
        intro p h1 h2
        have := endN_lo h2
        rw [cn_step h2, if_neg (by omega)]; rfl
      | succ d ih =>
        intro p h1 h2
        have := endN_lo h2
        rw [cn_step h2]
        simp only [lnF, List.length_cons]
        by_cases hlt : endN s p < s.size
        · rw [if_pos hlt, if_pos hlt, ih _ (by omega) (by omega)]; omega
        · rw [if_neg hlt, if_neg hlt]; rfl
    have := this s.size 0 (by omega) (by omega)
    rwa [List.drop_zero] at this
  have hsz := lnF_size s s.size 0
  have c3 : cnL 10 (bs s) + 1 ≤ 1048577 := by omega
  generalize lnF s s.size 0 = ls at *
  generalize cnL 10 (bs s) + 1 = C at *
  unfold run at *
  rw [Run_z Tryd.func8 rfl (by rfl : ok 8 = true) (by rfl : cfg.keep 8 = [0, 2, 3, 4, 5, 6, 7, 8, 11, 14, 15, 16, 17, 22, 29]) (by rfl : cfg.mode 8 = .fresh)]
  simp (config := {contextual := true, maxSteps := 10000000, implicitDefEqProofs := false}) (disch := first | (and_intros <;> omega -splitDisjunctions) | (simp only [List.length_set, List.length_append, List.length_cons, List.length_nil]; and_intros <;> omega -splitDisjunctions) | fail) only [eS, Tryd.f8, go_sem, ↓reduceIte, Nat.reduceEqDiff, Nat.reduceAdd, Nat.reduceMul, Nat.reduceLT, Nat.reduceLeDiff, reduceCtorEq, Int.reduceNe, Int.reduceEq, Int.reduceLT, Int.reduceLE, Int.reduceAdd, Int.reduceSub, Int.reduceMul, Int.reduceNeg, Int.reduceToNat, UInt8.reduceToNat, natLit, ty3, ty4, ty9, ty24, ty36, ty39]
  refine Ret_ite (fun h5 => ?_) (fun h5 => ?_)
  · rw [Ret_some, if_pos (by omega)]
    exact ⟨.nilsl, rfl, Hx.refl H, .inl ⟨rfl, .inl rfl⟩⟩
  rw [if_neg (by omega)]
  refine at_loopR fun c0 R hc0 hR => ?_
  have key : ∀ (d i : Nat) (x5 x6 x7 x8 x11 x17 x22 x29 : Option V) (b n : Nat) (j : Int) (l : List Ca) (H1 : LH), ls.length - i ≤ d → i ≤ ls.length → j = i → n = l.length → l.length ≤ i → Hx H H1 → H.length ≤ b → b ≠ H.length + 1 → H1.cellsAt (H.length + 1) = some (rows stC ls) → H1.cellsAt b = some (rows caC l) →
      Ret (RCok H (rcL (ls.drop i) (i + 1) l)) (zEv (leaveX (mkR Tryd.prog cfg ok [0, 2, 3, 4, 5, 6, 7, 8, 11, 14, 15, 16, 17, 22, 29] H.length) .fresh H [ResultVar.tmp 2, ResultVar.tmp 3]) (mkR Tryd.prog cfg ok [0, 2, 3, 4, 5, 6, 7, 8, 11, 14, 15, 16, 17, 22, 29] H.length) (K.code (Code.loop c0) :: K.blk 0 :: R) .nrm
        [some (.str s), some .nilsl, some (.int .i64 0), some (.sl b 0 2 n n), x5, x6, x7, x8, x11, some (.sl (H.length + 1) 0 1 C C), some (.int .i64 C), some (.int .i64 j), x17, x22, x29] H1) := by
    intro d
    induction d with
    | zero =>
      intro i x5 x6 x7 x8 x11 x17 x22 x29 b n j l H1 hd hi hj hn hli hx hb hb2 hc1 hc2
      subst hj; subst hn
      rw [zEv_round hc0, ← hR]
      simp (config := {contextual := true, maxSteps := 10000000, implicitDefEqProofs := false}) (disch := first | (and_intros <;> omega -splitDisjunctions) | (simp only [List.length_set, List.length_append, List.length_cons, List.length_nil]; and_intros <;> omega -splitDisjunctions) | fail) only [hc1, hc2, cellsAt_set, cellsAt_set_ne, cellsAt_old, set_old, Tryd.f8, go_sem, ↓reduceIte, Nat.reduceEqDiff, Nat.reduceAdd, Nat.reduceMul, Nat.reduceLT, Nat.reduceLeDiff, reduceCtorEq, Int.reduceNe, Int.reduceEq, Int.reduceLT, Int.reduceLE, Int.reduceAdd, Int.reduceSub, Int.reduceMul, Int.reduceNeg, Int.reduceToNat, UInt8.reduceToNat, natLit, ty3, ty4, ty9, ty24, ty36, ty39]
      refine Ret_ite (fun h => by omega) (fun h => ?_)
      rw [Ret_some, List.drop_of_length_le (by omega), rcL]
      exact ⟨_, rfl, hx, .inr ⟨b, rfl, hc2, hb⟩⟩
    | succ d ih =>
      intro i x5 x6 x7 x8 x11 x17 x22 x29 b n j l H1 hd hi hj hn hli hx hb hb2 hc1 hc2
      subst hj; subst hn
      have hb1 := cellsAt_lt hc2
      have hb3 := cellsAt_lt hc1
      have g1 := rows_len caC_len l
      have g2 := take_rows caC_len (xs := l) (n := l.length * 2) rfl
      have q0 : i < ls.length → (rows stC ls)[i]? = some (.str (ls.getD i ⟨#[]⟩)) := fun hi => by
        have := rows_cell (j := 0) stC_len (xs := ls) (i := i) hi (by omega)
        rw [Nat.mul_one, Nat.add_zero] at this
        rw [getD_of hi]
        exact this
      have q1 : (ls.getD i ⟨#[]⟩).size ≤ 1048576 := by
        by_cases hi : i < ls.length
        · rw [getD_of hi]
          have := hsz ls[i] (List.getElem_mem hi)
          omega
        · rw [List.getD_eq_getElem?_getD, List.getElem?_eq_none (by omega)]
          exact Nat.zero_le _
      rw [zEv_round hc0, ← hR]
      simp (config := {contextual := true, maxSteps := 10000000, implicitDefEqProofs := false}) (disch := first | (and_intros <;> omega -splitDisjunctions) | (simp only [List.length_set, List.length_append, List.length_cons, List.length_nil]; and_intros <;> omega -splitDisjunctions) | fail) only [e1, hc1, hc2, g1, g2, q0, q1, nle_self, cellsAt_set, cellsAt_set_ne, cellsAt_old, set_old, Tryd.f8, go_sem, ↓reduceIte, Nat.reduceEqDiff, Nat.reduceAdd, Nat.reduceMul, Nat.reduceLT, Nat.reduceLeDiff, reduceCtorEq, Int.reduceNe, Int.reduceEq, Int.reduceLT, Int.reduceLE, Int.reduceAdd, Int.reduceSub, Int.reduceMul, Int.reduceNeg, Int.reduceToNat, UInt8.reduceToNat, natLit, ty3, ty4, ty9, ty24, ty36, ty39]
      rw [hR]
      refine Ret_ite (fun hlt => ?_) (fun hge => ?_)
      · have hlt : i < ls.length := by omega
        rw [List.drop_eq_getElem_cons hlt, rcL, getD_of hlt]
        refine Ret_ite (fun ht => ?_) (fun ht => ?_)
        · rw [if_pos ht]
          exact ih (i + 1) _ _ _ _ _ _ _ _ b _ _ l _ (by omega) (by omega) rfl rfl (by omega) hx hb hb2 hc1 hc2
        · rw [if_neg ht]
          refine Ret_ite (fun hf => ?_) (fun hf => ?_)
          · rw [if_neg (by rw [hf]; decide), Ret_some]
            exact ⟨.nilsl, rfl, hx.trans Hx.app, .inl ⟨rfl, .inl rfl⟩⟩
          · rw [if_pos (by simpa using hf)]
            refine ih (i + 1) _ _ _ _ _ _ _ _ (H1.length + 2) _ _ (l ++ [(tcM ls[i]).1]) _ (by omega) (by omega) rfl (by simp) (by simp; omega) ((hx.set hb).trans Hx.app) (by have := hx.len; omega) (by omega) ?_ ?_
            · rw [cellsAt_old (by simp; omega), cellsAt_set_ne hb2]; exact hc1
            · rw [cellsAt_appS, rows_app]; rfl
      · rw [Ret_some, List.drop_of_length_le (by omega), rcL]
        exact ⟨_, rfl, hx, .inr ⟨b, rfl, hc2, hb⟩⟩
  have go := fun x5 x6 x7 x8 x11 x17 x22 x29 => key ls.length 0 x5 x6 x7 x8 x11 x17 x22 x29 H.length 0 0 [] (H ++ [.cells [], .cells (rows stC ls)]) (by omega) (by omega) rfl rfl (Nat.le_refl _) Hx.app (Nat.le_refl _) (by omega) (by rw [cellsAt_app]; rfl) (by rw [cellsAt_app0]; rfl)
  rw [List.drop_zero] at go
  exact go _ _ _ _ _ _ _ _
theorem rc_end {s : ByteArray} {d p : Nat} {k : Int} {l : List Ca} (h : s.size ≤ p) : (if p ≤ s.size then rcL (lnF s d p) k l else (l, 0)) = (l, 0) := by
  by_cases hps : p ≤ s.size
  · have hps2 : p = s.size := by omega
    subst hps2
    have e1 : endN s s.size = s.size := endN_here (by omega)
    have e2 : s.extract s.size s.size = ⟨#[]⟩ := by
      apply bsinj
      rw [bs_exts]; simp [bs]
    have e3 : lnF s d s.size = [⟨#[]⟩] := by
      cases d with
      | zero => rw [lnF, e1, e2]
      | succ d => rw [lnF, e1, e2, if_neg (Nat.lt_irrefl _)]
    rw [if_pos hps, e3, rcL, if_pos rfl, rcL]
  · rw [if_neg hps]
theorem rc_more {s : ByteArray} {d e : Nat} {k : Int} {l : List Ca} : rcL (if e < s.size then lnF s d (e + 1) else []) k l = (if e + 1 ≤ s.size then rcL (lnF s d (e + 1)) k l else (l, 0)) := by
  by_cases h : e < s.size
  · rw [if_pos h, if_pos (by omega)]
  · rw [if_neg h, if_neg (by omega), rcL]
theorem ext_emp {s : ByteArray} {p e : Nat} (h : e ≤ s.size) (h2 : p ≤ e) : (s.extract p e = ⟨#[]⟩) ↔ e = p := by
  constructor
  · intro hh
    have := exts_size (s := s) (q := p) h
    rw [hh] at this
    have h0 : ByteArray.size ⟨#[]⟩ = 0 := rfl
    omega
  · intro hh
    subst hh
    apply bsinj
    rw [bs_exts]; simp [bs]
theorem run_spReadCalls (s : ByteArray) (fl : Nat) (H : LH) (hs : s.size ≤ 1048576) :
    Ret (RCok H (if 5000 < s.size then ([], 1) else rcL (lnF s s.size 0) 1 [])) (run 7 [.str s] fl H) := by
  have e1 := fun t fl H h => run_spTx t fl H h
  have e2 := fun p fl H h => run_EndAt s p fl H h (by omega)
  unfold run at *
  rw [Run_z Tryd.func7 rfl (by rfl : ok 7 = true) (by rfl : cfg.keep 7 = [0, 2, 3, 4, 5, 6, 7, 8, 9, 12, 17, 29, 36]) (by rfl : cfg.mode 7 = .fresh)]
  simp (config := {contextual := true, maxSteps := 10000000, implicitDefEqProofs := false}) (disch := first | (and_intros <;> omega -splitDisjunctions) | (simp only [List.length_set, List.length_append, List.length_cons, List.length_nil]; and_intros <;> omega -splitDisjunctions) | fail) only [Tryd.f7, go_sem, ↓reduceIte, Nat.reduceEqDiff, Nat.reduceAdd, Nat.reduceMul, Nat.reduceLT, Nat.reduceLeDiff, reduceCtorEq, Int.reduceNe, Int.reduceEq, Int.reduceLT, Int.reduceLE, Int.reduceAdd, Int.reduceSub, Int.reduceMul, Int.reduceNeg, Int.reduceToNat, UInt8.reduceToNat, natLit, ty3, ty9, ty24, ty36]
  refine Ret_ite (fun h5 => ?_) (fun h5 => ?_)
  · rw [Ret_some, if_pos (by omega)]
    exact ⟨.nilsl, rfl, Hx.refl H, .inl ⟨rfl, .inl rfl⟩⟩
  rw [if_neg (by omega)]
  refine at_loopR fun c0 R hc0 hR => ?_
  have key : ∀ (d p : Nat) (x7 x8 x9 x12 x17 x29 x36 : Option V) (b n : Nat) (j k : Int) (l : List Ca) (H1 : LH), s.size - p ≤ d → p ≤ s.size + 1 → 1 ≤ k → k ≤ p + 1 → j = p → n = l.length → l.length ≤ p → Hx H H1 → H.length ≤ b → H1.cellsAt b = some (rows caC l) →
      Ret (RCok H (if p ≤ s.size then rcL (lnF s d p) k l else (l, 0))) (zEv (leaveX (mkR Tryd.prog cfg ok [0, 2, 3, 4, 5, 6, 7, 8, 9, 12, 17, 29, 36] H.length) .fresh H [ResultVar.tmp 2, ResultVar.tmp 3]) (mkR Tryd.prog cfg ok [0, 2, 3, 4, 5, 6, 7, 8, 9, 12, 17, 29, 36] H.length) (K.code (Code.loop c0) :: K.blk 0 :: R) .nrm
        [some (.str s), some .nilsl, some (.int .i64 0), some (.sl b 0 2 n n), some (.int .i64 j), some (.int .i64 k), x7, x8, x9, x12, x17, x29, x36] H1) := by
    intro d
    induction d with
    | zero =>
      intro p x7 x8 x9 x12 x17 x29 x36 b n j k l H1 hd hp hk1 hk2 hj hn hlp hx hb hc2
      subst hj; subst hn
      have hb1 := cellsAt_lt hc2
      rw [zEv_round hc0, ← hR]
      simp (config := {contextual := true, maxSteps := 10000000, implicitDefEqProofs := false}) (disch := first | (and_intros <;> omega -splitDisjunctions) | (simp only [List.length_set, List.length_append, List.length_cons, List.length_nil]; and_intros <;> omega -splitDisjunctions) | fail) only [hc2, cellsAt_set, cellsAt_set_ne, cellsAt_old, set_old, Tryd.f7, go_sem, ↓reduceIte, Nat.reduceEqDiff, Nat.reduceAdd, Nat.reduceMul, Nat.reduceLT, Nat.reduceLeDiff, reduceCtorEq, Int.reduceNe, Int.reduceEq, Int.reduceLT, Int.reduceLE, Int.reduceAdd, Int.reduceSub, Int.reduceMul, Int.reduceNeg, Int.reduceToNat, UInt8.reduceToNat, natLit, ty3, ty9, ty24, ty36]
      refine Ret_ite (fun h => by omega) (fun h => ?_)
      have hfin := rc_end (d := 0) (p := p) (k := k) (l := l) (by omega : s.size ≤ p)
      rw [Ret_some, hfin]
      exact ⟨_, rfl, hx, .inr ⟨b, rfl, hc2, hb⟩⟩
    | succ d ih =>
      intro p x7 x8 x9 x12 x17 x29 x36 b n j k l H1 hd hp hk1 hk2 hj hn hlp hx hb hc2
      subst hj; subst hn
      have hb1 := cellsAt_lt hc2
      have g1 := rows_len caC_len l
      have g2 := take_rows caC_len (xs := l) (n := l.length * 2) rfl
      by_cases hlt : p < s.size
      · have l1 := endN_lo (show p ≤ s.size by omega)
        have l2 := endN_hi (show p ≤ s.size by omega)
        have q1 : (s.extract p (endN s p)).size ≤ 1048576 := by rw [exts_size l2]; omega
        rw [zEv_round hc0, ← hR]
        simp (config := {contextual := true, maxSteps := 10000000, implicitDefEqProofs := false}) (disch := first | (and_intros <;> omega -splitDisjunctions) | (simp only [List.length_set, List.length_append, List.length_cons, List.length_nil]; and_intros <;> omega -splitDisjunctions) | fail) only [e1, e2, hc2, g1, g2, q1, nle_self, cellsAt_set, cellsAt_set_ne, cellsAt_old, set_old, Tryd.f7, go_sem, ↓reduceIte, Nat.reduceEqDiff, Nat.reduceAdd, Nat.reduceMul, Nat.reduceLT, Nat.reduceLeDiff, reduceCtorEq, Int.reduceNe, Int.reduceEq, Int.reduceLT, Int.reduceLE, Int.reduceAdd, Int.reduceSub, Int.reduceMul, Int.reduceNeg, Int.reduceToNat, UInt8.reduceToNat, natLit, ty3, ty9, ty24, ty36]
        rw [hR]
        refine Ret_ite (fun _ => ?_) (fun h => by omega)
        rw [if_pos (by omega), lnF, rcL, rc_more, rc_more]
        have hem := ext_emp (s := s) (p := p) l2 l1
        refine Ret_ite (fun hT => ?_) (fun hT => ?_)
        · rw [if_neg (fun e => by rw [e, tcM_nil] at hT; cases hT), if_pos hT]
          refine ih (endN s p + 1) _ _ _ _ _ _ _ (H1.length + 2) _ _ _ (l ++ [(tcM (s.extract p (endN s p))).1]) _ (by omega) (by omega) (by omega) (by omega) rfl (by simp) (by simp; omega) ((hx.set hb).trans Hx.app) (by have := hx.len; omega) ?_
          rw [cellsAt_appS, rows_app]; rfl
        · refine Ret_ite (fun hpe => ?_) (fun hpe => ?_)
          · rw [if_neg (fun e => by have := hem.1 e; omega), if_neg hT, Ret_some]
            exact ⟨.nilsl, rfl, hx.trans Hx.app, .inl ⟨rfl, .inl rfl⟩⟩
          · rw [if_pos (hem.2 (by omega))]
            exact ih (endN s p + 1) _ _ _ _ _ _ _ b _ _ _ l _ (by omega) (by omega) (by omega) (by omega) rfl rfl (by omega) (hx.trans Hx.app) hb (by rw [cellsAt_old hb1]; exact hc2)
      · rw [zEv_round hc0, ← hR]
        simp (config := {contextual := true, maxSteps := 10000000, implicitDefEqProofs := false}) (disch := first | (and_intros <;> omega -splitDisjunctions) | (simp only [List.length_set, List.length_append, List.length_cons, List.length_nil]; and_intros <;> omega -splitDisjunctions) | fail) only [hc2, cellsAt_set, cellsAt_set_ne, cellsAt_old, set_old, Tryd.f7, go_sem, ↓reduceIte, Nat.reduceEqDiff, Nat.reduceAdd, Nat.reduceMul, Nat.reduceLT, Nat.reduceLeDiff, reduceCtorEq, Int.reduceNe, Int.reduceEq, Int.reduceLT, Int.reduceLE, Int.reduceAdd, Int.reduceSub, Int.reduceMul, Int.reduceNeg, Int.reduceToNat, UInt8.reduceToNat, natLit, ty3, ty9, ty24, ty36]
        refine Ret_ite (fun h => by omega) (fun h => ?_)
        rw [Ret_some, rc_end (by omega)]
        exact ⟨_, rfl, hx, .inr ⟨b, rfl, hc2, hb⟩⟩
  have go := fun x7 x8 x9 x12 x17 x29 x36 => key s.size 0 x7 x8 x9 x12 x17 x29 x36 H.length 0 0 1 [] (H ++ [.cells []]) (by omega) (by omega) (by omega) (by omega) rfl rfl (Nat.le_refl _) Hx.app (Nat.le_refl _) (by rw [cellsAt_app0]; rfl)
  rw [if_pos (Nat.zero_le _)] at go
  exact go _ _ _ _ _ _ _
end Go.Proofs.YtbjpecknlohicaaDoor.Lg
