/- What is written in the flow style: the program's function. No condition. -/
import Derived.Test.YtcbjmggbbnpbpaaDoorCFl1
import Derived.Test.YtcbjmggbbnpbpaaDoorCNc9
namespace Go.Proofs.YtcbjmggbbnpbpaaDoor.Lg
set_option linter.unusedSimpArgs false
set_option linter.unusedVariables false
set_option maxRecDepth 100000
set_option maxHeartbeats 40000000
open Go.Proofs.YtcbjmggbbnpbpaaDoor

theorem join_len {f : Nat → ByteArray} {xs : List Nat} {n : Nat} (h : (flowL f false 0 xs ⟨#[]⟩).size ≤ n) : (Lib.join ((seqP f xs).map (·.data.toList)) [44, 32]).length ≤ n := by
  have := seq_join f xs
  rw [← this] at h
  exact h
theorem join_lenM {f : Nat → ByteArray} {xs : List Nat} {n : Nat} (he : xs.length % 2 = 0) (h : (flowL f true 0 xs ⟨#[]⟩).size ≤ n) : (Lib.join ((mapP f xs).map (·.data.toList)) [44, 32]).length ≤ n := by
  have := map_join f xs he
  rw [← this] at h
  exact h
theorem mapP_len (f : Nat → ByteArray) : ∀ (xs : List Nat), (mapP f xs).length ≤ xs.length
  | [] => Nat.le_refl _
  | [x] => by simp [mapP]
  | x :: y :: xs => by have := mapP_len f xs; simp [mapP]; omega
theorem mapP_two {f : Nat → ByteArray} {xs : List Nat} {j : Nat} (h : j + 1 < xs.length) : mapP f (xs.drop j) = (f (xs.getD j 0) ++ ⟨#[32, 58, 32]⟩ ++ f (xs.getD (j + 1) 0)) :: mapP f (xs.drop (j + 2)) := by
  rw [List.drop_eq_getElem_cons (show j < xs.length by omega), List.drop_eq_getElem_cons h, mapP, getD_of (show j < xs.length by omega), getD_of h]
theorem cells_ne {H L M : LH} {o : V} {b : Nat} {l : List V} (hc : LH.cellsAt (H ++ L) b = some l) (h : ∀ x, (∃ p q r t, o = .sl x p q r t) → x ≠ b) : LH.cellsAt (killV (H ++ L) o ++ M) b = some l := by
  have hlt := cellsAt_lt hc
  cases o with
  | sl x p q r t =>
    show LH.cellsAt ((H ++ L).set x .dead ++ M) b = _
    exact cellsAt_left (by rw [cellsAt_set_ne (h x ⟨p, q, r, t, rfl⟩)]; exact hc)
  | _ => exact cellsAt_left hc
theorem run_flowText {es : List Ev} (hw : wholeM es = true) (hsh : ∀ e ∈ es, Short e) (hl : es.length ≤ 1048576) : ∀ (d i : Nat) (v ve vu vd : V) (H : LH) (fl : Nat), NsAt H v ve vu vd es → i < es.length → es.length - i ≤ d → isN (evA es i) →
    run 57 [.agg [v, ve, vu, vd], .int .i64 i] fl H = some (.str (flowT es d i), H)
  | 0, i, v, ve, vu, vd, H, fl, h, hi, hd, hn => by omega
  | d + 1, i, v, ve, vu, vd, H, fl, h, hi, hd, hn => by
    have hc : CostOk es := fun e he => (hsh e he).cost
    have hse := hsh _ (show es.getD i evZ ∈ es by rw [getD_of hi]; exact List.getElem_mem _)
    have hIH := fun (x : Nat) (B : LH) (fl : Nat) (hB : NsAt B v ve vu vd es) (hx : x < es.length) (h2 : i < x) (h3 : isN (evA es x)) => run_flowText hw hsh hl d x v ve vu vd B fl hB hx (by omega) h3
    have e1 := fun fl H => run_imProps (es.getD i evZ) fl H hse
    have lP := propT_size (es.getD i evZ)
    have lQ := quoT_size (es.getD i evZ).text
    have hsz : (es.getD i evZ).text.size + (es.getD i evZ).anchor.size + (es.getD i evZ).tag.size ≤ 1048576 := by unfold Short at hse; omega
    have e2 := fun fl H => run_imQuote (es.getD i evZ).text fl H (by omega)
    have j1 := h.e.one; have j2 := h.u.one; have j3 := h.d.one; have j0 := h.l.one
    have j4 := h.e.isTup; have j5 := h.u.isTup; have j6 := h.d.isTup
    have hL := h.l
    have f1 := hL.isTup; have f2 := hL.len; have f3 := hL.lenOk ty39; have f0 := hL.one
    have f4 := fun L hp => (hL.left (L := L)).con hp
    have f5 := hL.idx (T := ty Tryd.prog) (t := 39) (by simp only [elemI, sizeO, ty3, ty4, ty9, ty39, ty65])
    have f6 := fun L => (hL.left (L := L)).loadD evC_len evZ
    have f4 := fun L => (h.ext (Hx.app (L := L))).l.con (List.length_pos_iff.2 (by intro e; subst e; cases hi))
    have g6 := fun L => f6 L i hi
    have hleaf := hc (es.getD i evZ) (by rw [getD_of hi]; exact List.getElem_mem _)
    obtain ⟨Z, hZ⟩ : ∃ Z, flowT es (d + 1) i = Z := ⟨_, rfl⟩
    rw [hZ]
    unfold flowT at hZ
    by_cases hC : isC (evA es i)
    rotate_left
    · rw [if_neg hC] at hZ
      unfold leafT at hZ
      have hk : (es.getD i evZ).kind = 5 ∨ (es.getD i evZ).kind = 6 := by
        have h1 : 3 ≤ (es.getD i evZ).kind ∧ (es.getD i evZ).kind ≤ 6 := hn
        have h2 : ¬ ((es.getD i evZ).kind = 3 ∨ (es.getD i evZ).kind = 4) := hC
        omega
      rcases hk with h5 | h6
      · rw [if_neg (show ¬ (evA es i).kind = 6 by rw [show (evA es i).kind = 5 from h5]; omega)] at hZ
        have hZ : propT (es.getD i evZ) ++ quoT (es.getD i evZ).text = Z := hZ
        generalize propT (es.getD i evZ) = P at *
        generalize quoT (es.getD i evZ).text = Q at *
        unfold run evC at *
        simp only [h5] at g6 e1
        rw [Run_z Tryd.func57 rfl (by rfl : ok 57 = true) (by rfl : cfg.keep 57 = [0, 1, 2, 4, 5, 6, 7, 8, 9, 10, 17, 18, 26, 35, 36, 37, 38, 42, 52, 76]) (by rfl : cfg.mode 57 = .pure) (by rfl : cfg.ord 57 = [])]
        simp (config := {contextual := true, maxSteps := 10000000, implicitDefEqProofs := false}) (disch := first | (and_intros <;> omega -splitDisjunctions) | (simp only [List.length_set, List.length_append, List.length_cons, List.length_nil]; and_intros <;> omega -splitDisjunctions) | fail) only [g6, e1, e2, j0, j1, j2, j3, j4, j5, j6, f0, f1, f2, f3, f4, f5, f6, Tryd.f57, go_sem, ↓reduceIte, Nat.reduceEqDiff, Nat.reduceAdd, Nat.reduceMul, Nat.reduceLT, Nat.reduceLeDiff, reduceCtorEq, Int.reduceNe, Int.reduceEq, Int.reduceLT, Int.reduceLE, Int.reduceAdd, Int.reduceSub, Int.reduceMul, Int.reduceNeg, Int.reduceToNat, UInt8.reduceToNat, natLit, ty3, ty4, ty9, ty39, ty65, ty67, ty71, ty85]
        rw [← hZ]
      · rw [if_pos (show (evA es i).kind = 6 from h6)] at hZ
        have hZ : ⟨#[42]⟩ ++ (es.getD i evZ).text = Z := hZ
        unfold run evC at *
        simp only [h6] at g6 e1
        rw [Run_z Tryd.func57 rfl (by rfl : ok 57 = true) (by rfl : cfg.keep 57 = [0, 1, 2, 4, 5, 6, 7, 8, 9, 10, 17, 18, 26, 35, 36, 37, 38, 42, 52, 76]) (by rfl : cfg.mode 57 = .pure) (by rfl : cfg.ord 57 = [])]
        simp (config := {contextual := true, maxSteps := 10000000, implicitDefEqProofs := false}) (disch := first | (and_intros <;> omega -splitDisjunctions) | (simp only [List.length_set, List.length_append, List.length_cons, List.length_nil]; and_intros <;> omega -splitDisjunctions) | fail) only [g6, e1, e2, j0, j1, j2, j3, j4, j5, j6, f0, f1, f2, f3, f4, f5, f6, Tryd.f57, go_sem, ↓reduceIte, Nat.reduceEqDiff, Nat.reduceAdd, Nat.reduceMul, Nat.reduceLT, Nat.reduceLeDiff, reduceCtorEq, Int.reduceNe, Int.reduceEq, Int.reduceLT, Int.reduceLE, Int.reduceAdd, Int.reduceSub, Int.reduceMul, Int.reduceNeg, Int.reduceToNat, UInt8.reduceToNat, natLit, ty3, ty4, ty9, ty39, ty65, ty67, ty71, ty85]
        rw [← hZ]
    rw [if_pos hC] at hZ
    obtain ⟨w0, C, e7, xC, oC⟩ := run_kidsOf (h.ext (Hx.app (L := [.cells [v, ve, vu, vd], .cells (evC (es.getD i evZ)), .cells []]))) hl hi H.length
    have hxC : Hx H C := Hx.app.trans xC
    have cN : LH.cellsAt C H.length = some [v, ve, vu, vd] := xC.cells (by rw [cellsAt_app0]; rfl)
    have cE : LH.cellsAt C (H.length + 1) = some (evC (es.getD i evZ)) := xC.cells (by rw [cellsAt_app]; rfl)
    have cP : LH.cellsAt C (H.length + 2) = some [] := xC.cells (by rw [cellsAt_app]; rfl)
    have lC := xC.len
    simp only [List.length_append, List.length_cons, List.length_nil] at lC oC
    have hki := kidsF_in es hi
    have hkl2 := kidsF_len es hi
    have hfb := flowL_bound hw hc hl hi hd hC
    have hbd := fun x (hx : x ∈ kidsF es i) => flow_bound hw hc hl (d := d) (hki x hx).2.1 (by have := hki x hx; omega) (hki x hx).2.2
    have hev : kd es i = 4 → (kidsF es i).length % 2 = 0 := kids_even hw hi
    generalize kidsF es i = xs at *
    generalize propT (es.getD i evZ) = P at *
    have aC := oC.at inN_len
    have w1 := aC.isTup; have w2 := aC.len; have w3 := aC.lenOk ty67; have w4 := aC.one
    have w6 := aC.idx (T := ty Tryd.prog) (t := 67) (by simp only [elemI, sizeO, ty3, ty67])
    have hC2 : (es.getD i evZ).kind = 3 ∨ (es.getD i evZ).kind = 4 := hC
    have hfb0 := fun m => hfb m xs.length
    simp only [List.take_length] at hfb0
    -- the kids' row stays
    have hkrow : xs = [] ∨ ∃ kb, w0 = .sl kb 0 1 xs.length xs.length ∧ LH.cellsAt C kb = some (rows inN xs) ∧ H.length + 3 ≤ kb ∧ kb < C.length := by
      rcases oC with ⟨e, _⟩ | ⟨kb, e, hcc, h2⟩
      · exact .inl e
      · exact .inr ⟨kb, e, hcc, by omega, cellsAt_lt hcc⟩
    by_cases h4 : (es.getD i evZ).kind = 4
    · rw [if_pos (show kd es i = 4 from h4)] at hZ
      have hev := hev h4
      have hZ : P ++ ⟨#[123]⟩ ++ flowL (flowT es d) true 0 xs ⟨#[]⟩ ++ ⟨#[125]⟩ = Z := hZ
      have hfz := hfb0 true
      unfold run evC at *
      simp only [h4] at g6 e1 e7 cE
      rw [Run_z Tryd.func57 rfl (by rfl : ok 57 = true) (by rfl : cfg.keep 57 = [0, 1, 2, 4, 5, 6, 7, 8, 9, 10, 17, 18, 26, 35, 36, 37, 38, 42, 52, 76]) (by rfl : cfg.mode 57 = .pure) (by rfl : cfg.ord 57 = [])]
      simp (config := {contextual := true, maxSteps := 10000000, implicitDefEqProofs := false}) (disch := first | (and_intros <;> omega -splitDisjunctions) | (simp only [List.length_set, List.length_append, List.length_cons, List.length_nil]; and_intros <;> omega -splitDisjunctions) | fail) only [g6, e7, j0, j1, j2, j3, j4, j5, j6, w1, w2, w3, w4, f0, f1, f2, f3, f4, f5, f6, Tryd.f57, go_sem, ↓reduceIte, Nat.reduceEqDiff, Nat.reduceAdd, Nat.reduceMul, Nat.reduceLT, Nat.reduceLeDiff, reduceCtorEq, Int.reduceNe, Int.reduceEq, Int.reduceLT, Int.reduceLE, Int.reduceAdd, Int.reduceSub, Int.reduceMul, Int.reduceNeg, Int.reduceToNat, UInt8.reduceToNat, natLit, ty3, ty4, ty9, ty39, ty65, ty67, ty71, ty85]
      refine at_loopE fun c R hc hR => ?_
      have key : ∀ (m : Nat) (j : Nat) (jj : Int) (q : V) (ps : List ByteArray) (B : LH) (x0 x1 x4 x8 x9 x10 x17 x18 x26 x38 x42 x52 x76 : Option V), xs.length - j < m → jj = j → j ≤ xs.length → Hx H B → C.length ≤ B.length → LH.cellsAt B H.length = some [v, ve, vu, vd] → LH.cellsAt B (H.length + 1) = some [.int .i64 4, .int .i64 (es.getD i evZ).style, .bool (es.getD i evZ).flag, .str (es.getD i evZ).text, .str (es.getD i evZ).anchor, .str (es.getD i evZ).tag, .int .i64 (es.getD i evZ).place, .int .i64 (es.getD i evZ).code] → (xs = [] ∨ ∃ kb, w0 = .sl kb 0 1 xs.length xs.length ∧ LH.cellsAt B kb = some (rows inN xs) ∧ H.length + 3 ≤ kb ∧ kb < C.length) → Own (H.length + 2) B strC 1 q ps → (∀ x, (∃ p r s t, q = .sl x p r s t) → x = H.length + 2 ∨ C.length ≤ x) → ps.length ≤ j → ((j % 2 = 0 → ps ++ mapP (flowT es d) (xs.drop j) = mapP (flowT es d) xs) ∧ (j % 2 = 1 → ps ++ mapP (flowT es d) (xs.drop (j + 1)) = mapP (flowT es d) xs)) →
          zEv (leaveX (mkR Tryd.prog cfg ok [0, 1, 2, 4, 5, 6, 7, 8, 9, 10, 17, 18, 26, 35, 36, 37, 38, 42, 52, 76] H.length) .pure H [ResultVar.tmp 4]) (mkR Tryd.prog cfg ok [0, 1, 2, 4, 5, 6, 7, 8, 9, 10, 17, 18, 26, 35, 36, 37, 38, 42, 52, 76] H.length) (K.code (Code.loop c) :: K.blk 1 :: R) .nrm [x0, x1, some (.ptr H.length 0), x4, some (.ptr (H.length + 1) 0), some q, some w0, x8, x9, x10, x17, x18, x26, some w0, some (.int .i64 xs.length), some (.int .i64 jj), x38, x42, x52, x76] (B) = some (.str Z, H) := by
        intro m
        induction m with
        | zero => intro j jj q ps B x0 x1 x4 x8 x9 x10 x17 x18 x26 x38 x42 x52 x76 hm; omega
        | succ m ih =>
          intro j jj q ps B x0 x1 x4 x8 x9 x10 x17 x18 x26 x38 x42 x52 x76 hm hj hjl hxB hlB cN cE hk ho hob hpl hs
          subst hj
          have o1 := (ho.at strC_len).isTup; have o2 := (ho.at strC_len).one
          by_cases hlj : j < xs.length
          rotate_left
          · have t5 : ((j : Int) < xs.length) = False := eq_false (by omega)
            have hps : ps = mapP (flowT es d) xs := by
              by_cases e : j % 2 = 0
              · have := hs.1 e
                rw [List.drop_of_length_le (by omega)] at this
                simpa [mapP] using this
              · have := hs.2 (by omega)
                rw [List.drop_of_length_le (by omega)] at this
                simpa [mapP] using this
            have hjn := run_join ho ⟨#[44, 32]⟩ (by omega) (by rw [hps]; exact join_lenM hev (Nat.le_trans hfz (by decide))) H.length
            have hjt : (⟨(Lib.join (ps.map (·.data.toList)) (⟨#[44, 32]⟩ : ByteArray).data.toList).toArray⟩ : ByteArray) = flowL (flowT es d) true 0 xs ⟨#[]⟩ := by rw [hps]; exact map_join _ _ hev
            rw [hjt] at hjn
            generalize flowL (flowT es d) true 0 xs ⟨#[]⟩ = J at *
            unfold run at hjn
            rw [zEv_round hc, ← hR]
            simp (config := {contextual := true, maxSteps := 10000000, implicitDefEqProofs := false}) (disch := first | (and_intros <;> omega -splitDisjunctions) | (simp only [List.length_set, List.length_append, List.length_cons, List.length_nil]; and_intros <;> omega -splitDisjunctions) | fail) only [t5, cE, cN, e1, hjn, o1, o2, Tryd.f57, go_sem, ↓reduceIte, Nat.reduceEqDiff, Nat.reduceAdd, Nat.reduceMul, Nat.reduceLT, Nat.reduceLeDiff, reduceCtorEq, Int.reduceNe, Int.reduceEq, Int.reduceLT, Int.reduceLE, Int.reduceAdd, Int.reduceSub, Int.reduceMul, Int.reduceNeg, Int.reduceToNat, UInt8.reduceToNat, natLit, ty3, ty4, ty9, ty39, ty65, ty67, ty71, ty85]
            rw [← hZ]
          have t5 : ((j : Int) < xs.length) = True := eq_true (by omega)
          obtain ⟨kb, hw0, hkc, hk1, hk2⟩ : ∃ kb, w0 = .sl kb 0 1 xs.length xs.length ∧ LH.cellsAt B kb = some (rows inN xs) ∧ H.length + 3 ≤ kb ∧ kb < C.length := by
            rcases hk with hk | hk
            · subst hk; cases hlj
            · exact hk
          have aB : At B inN 1 w0 xs := Own.at (fl := 0) (.inr ⟨kb, hw0, hkc, Nat.zero_le _⟩) inN_len
          have s1 := fun n K => aB.load1 0 (fun x => .int .i64 (x : Nat)) (fun _ => rfl) j hlj n K
          have s2 := aB.con (by omega)
          have hxi := hki (xs.getD j 0) (by rw [getD_of hlj]; exact List.getElem_mem _)
          have hxb := hbd (xs.getD j 0) (by rw [getD_of hlj]; exact List.getElem_mem _)
          have rN := h.ext hxB
          have n3 := fun fl => hIH (xs.getD j 0) B fl rN hxi.2.1 hxi.1 hxi.2.2
          have hkc0 : ∀ x, (∃ p r s t, q = .sl x p r s t) → x ≠ kb := fun x hx => by rcases hob x hx with e | e <;> omega
          have hkn0 : ∀ x, (∃ p r s t, q = .sl x p r s t) → x ≠ H.length := fun x hx => by rcases hob x hx with e | e <;> omega
          have hke0 : ∀ x, (∃ p r s t, q = .sl x p r s t) → x ≠ H.length + 1 := fun x hx => by rcases hob x hx with e | e <;> omega
          have nx : ∀ L M, Hx H (killV (B ++ L) q ++ M) := fun L M => app_hx (hxB.trans Hx.app) (ho.ext Hx.app) (by omega)
          have t6 := tmod2 j
          by_cases hp : j % 2 = 0
          · rw [eq_true hp] at t6
            have hlj1 : j + 1 < xs.length := by omega
            have s1b := fun n K => aB.load1 0 (fun x => .int .i64 (x : Nat)) (fun _ => rfl) (j + 1) hlj1 n K
            have hxi1 := hki (xs.getD (j + 1) 0) (by rw [getD_of hlj1]; exact List.getElem_mem _)
            have hxb1 := hbd (xs.getD (j + 1) 0) (by rw [getD_of hlj1]; exact List.getElem_mem _)
            have n4 := fun fl => hIH (xs.getD (j + 1) 0) B fl rN hxi1.2.1 hxi1.1 hxi1.2.2
            have t8 : (((j : Int) + 1)).toNat = j + 1 := by omega
            have hs0 := hs.1 hp
            rw [mapP_two hlj1] at hs0
            generalize flowT es d (xs.getD j 0) = T at *
            generalize flowT es d (xs.getD (j + 1) 0) = T2 at *
            try unfold run at n4
            have ap := fun L => app_own1 (fl := H.length) (ho.ext (Hx.app (L := L))) strC_len (by omega) 16 (by unfold mostCells; omega) (T ++ ⟨#[32, 58, 32]⟩ ++ T2)
            simp only [strC] at ap
            have an := app_new (enc := strC) (z := 1) (v := q) (show H.length + 2 ≤ (B ++ [Blk.cells [V.str (T ++ ⟨#[32, 58, 32]⟩ ++ T2)]]).length by rw [List.length_append, List.length_singleton]; omega) (ps ++ [T ++ ⟨#[32, 58, 32]⟩ ++ T2])
            simp only [List.length_append, List.length_cons, List.length_nil, Nat.zero_add] at an
            try unfold run at n3
            rw [zEv_round hc, ← hR]
            simp (config := {contextual := true, maxSteps := 10000000, implicitDefEqProofs := false}) (disch := first | (and_intros <;> omega -splitDisjunctions) | (simp only [List.length_set, List.length_append, List.length_cons, List.length_nil]; and_intros <;> omega -splitDisjunctions) | fail) only [t5, s1, s2, cE, cN, n3, ap, w1, w2, w3, w4, w6, o1, o2, j0, j1, j2, j3, j4, j5, j6, t6, t8, s1b, n4, Tryd.f57, go_sem, ↓reduceIte, Nat.reduceEqDiff, Nat.reduceAdd, Nat.reduceMul, Nat.reduceLT, Nat.reduceLeDiff, reduceCtorEq, Int.reduceNe, Int.reduceEq, Int.reduceLT, Int.reduceLE, Int.reduceAdd, Int.reduceSub, Int.reduceMul, Int.reduceNeg, Int.reduceToNat, UInt8.reduceToNat, natLit, ty3, ty4, ty9, ty39, ty65, ty67, ty71, ty85]
            rw [hR]
            refine ih (j + 1) ((j : Int) + 1) _ (ps ++ [T ++ ⟨#[32, 58, 32]⟩ ++ T2]) _ _ _ _ _ _ _ _ _ _ _ _ _ _ (by omega) (by omega) (by omega) (nx _ _) (by rw [List.length_append, killV_len, List.length_append]; omega) (cells_ne (cellsAt_left cN) hkn0) (cells_ne (cellsAt_left cE) hke0) (.inr ⟨kb, hw0, cells_ne (cellsAt_left hkc) hkc0, hk1, hk2⟩) an (fun x hx => ?_) (by rw [List.length_append, List.length_singleton]; omega) ?_
            · obtain ⟨_, _, _, _, e⟩ := hx
              injection e with e
              right; omega
            · refine ⟨fun e => by omega, fun _ => ?_⟩
              rw [List.append_assoc]; exact hs0
          · rw [eq_false hp] at t6
            rw [zEv_round hc, ← hR]
            simp (config := {contextual := true, maxSteps := 10000000, implicitDefEqProofs := false}) (disch := first | (and_intros <;> omega -splitDisjunctions) | (simp only [List.length_set, List.length_append, List.length_cons, List.length_nil]; and_intros <;> omega -splitDisjunctions) | fail) only [t5, t6, s1, s2, cE, cN, w1, w2, w3, w4, w6, Tryd.f57, go_sem, ↓reduceIte, Nat.reduceEqDiff, Nat.reduceAdd, Nat.reduceMul, Nat.reduceLT, Nat.reduceLeDiff, reduceCtorEq, Int.reduceNe, Int.reduceEq, Int.reduceLT, Int.reduceLE, Int.reduceAdd, Int.reduceSub, Int.reduceMul, Int.reduceNeg, Int.reduceToNat, UInt8.reduceToNat, natLit, ty3, ty4, ty9, ty39, ty65, ty67, ty71, ty85]
            rw [hR]
            exact ih (j + 1) ((j : Int) + 1) q ps B _ _ _ _ _ _ _ _ _ _ _ _ _ (by omega) (by omega) (by omega) hxB hlB cN cE hk ho hob (by omega) ⟨fun _ => hs.2 (by omega), fun e => by omega⟩
      exact key (xs.length + 1) 0 0 (.sl (H.length + 2) 0 1 0 0) [] C _ _ _ _ _ _ _ _ _ _ _ _ _ (by omega) rfl (by omega) hxC (Nat.le_refl _) cN cE hkrow (.inr ⟨H.length + 2, rfl, cP, Nat.le_refl _⟩) (fun x hx => by obtain ⟨_, _, _, _, e⟩ := hx; injection e with e; left; exact e.symm) (by simp) ⟨fun _ => by rw [List.drop_zero, List.nil_append], fun e => by omega⟩
    · have h3 : (es.getD i evZ).kind = 3 := by omega
      rw [if_neg (show ¬ kd es i = 4 from h4)] at hZ
      have hZ : P ++ ⟨#[91]⟩ ++ flowL (flowT es d) false 0 xs ⟨#[]⟩ ++ ⟨#[93]⟩ = Z := hZ
      have hfz := hfb0 false
      unfold run evC at *
      simp only [h3] at g6 e1 e7 cE
      rw [Run_z Tryd.func57 rfl (by rfl : ok 57 = true) (by rfl : cfg.keep 57 = [0, 1, 2, 4, 5, 6, 7, 8, 9, 10, 17, 18, 26, 35, 36, 37, 38, 42, 52, 76]) (by rfl : cfg.mode 57 = .pure) (by rfl : cfg.ord 57 = [])]
      simp (config := {contextual := true, maxSteps := 10000000, implicitDefEqProofs := false}) (disch := first | (and_intros <;> omega -splitDisjunctions) | (simp only [List.length_set, List.length_append, List.length_cons, List.length_nil]; and_intros <;> omega -splitDisjunctions) | fail) only [g6, e7, j0, j1, j2, j3, j4, j5, j6, w1, w2, w3, w4, f0, f1, f2, f3, f4, f5, f6, Tryd.f57, go_sem, ↓reduceIte, Nat.reduceEqDiff, Nat.reduceAdd, Nat.reduceMul, Nat.reduceLT, Nat.reduceLeDiff, reduceCtorEq, Int.reduceNe, Int.reduceEq, Int.reduceLT, Int.reduceLE, Int.reduceAdd, Int.reduceSub, Int.reduceMul, Int.reduceNeg, Int.reduceToNat, UInt8.reduceToNat, natLit, ty3, ty4, ty9, ty39, ty65, ty67, ty71, ty85]
      refine at_loopE fun c R hc hR => ?_
      have key : ∀ (m : Nat) (j : Nat) (jj : Int) (q : V) (ps : List ByteArray) (B : LH) (x0 x1 x4 x8 x9 x10 x17 x18 x26 x38 x42 x52 x76 : Option V), xs.length - j < m → jj = j → j ≤ xs.length → Hx H B → C.length ≤ B.length → LH.cellsAt B H.length = some [v, ve, vu, vd] → LH.cellsAt B (H.length + 1) = some [.int .i64 3, .int .i64 (es.getD i evZ).style, .bool (es.getD i evZ).flag, .str (es.getD i evZ).text, .str (es.getD i evZ).anchor, .str (es.getD i evZ).tag, .int .i64 (es.getD i evZ).place, .int .i64 (es.getD i evZ).code] → (xs = [] ∨ ∃ kb, w0 = .sl kb 0 1 xs.length xs.length ∧ LH.cellsAt B kb = some (rows inN xs) ∧ H.length + 3 ≤ kb ∧ kb < C.length) → Own (H.length + 2) B strC 1 q ps → (∀ x, (∃ p r s t, q = .sl x p r s t) → x = H.length + 2 ∨ C.length ≤ x) → ps.length ≤ j → ps ++ seqP (flowT es d) (xs.drop j) = seqP (flowT es d) xs →
          zEv (leaveX (mkR Tryd.prog cfg ok [0, 1, 2, 4, 5, 6, 7, 8, 9, 10, 17, 18, 26, 35, 36, 37, 38, 42, 52, 76] H.length) .pure H [ResultVar.tmp 4]) (mkR Tryd.prog cfg ok [0, 1, 2, 4, 5, 6, 7, 8, 9, 10, 17, 18, 26, 35, 36, 37, 38, 42, 52, 76] H.length) (K.code (Code.loop c) :: K.blk 1 :: R) .nrm [x0, x1, some (.ptr H.length 0), x4, some (.ptr (H.length + 1) 0), some q, some w0, x8, x9, x10, x17, x18, x26, some w0, some (.int .i64 xs.length), some (.int .i64 jj), x38, x42, x52, x76] (B) = some (.str Z, H) := by
        intro m
        induction m with
        | zero => intro j jj q ps B x0 x1 x4 x8 x9 x10 x17 x18 x26 x38 x42 x52 x76 hm; omega
        | succ m ih =>
          intro j jj q ps B x0 x1 x4 x8 x9 x10 x17 x18 x26 x38 x42 x52 x76 hm hj hjl hxB hlB cN cE hk ho hob hpl hs
          subst hj
          have o1 := (ho.at strC_len).isTup; have o2 := (ho.at strC_len).one
          by_cases hlj : j < xs.length
          rotate_left
          · have t5 : ((j : Int) < xs.length) = False := eq_false (by omega)
            have hps : ps = seqP (flowT es d) xs := by
              have := hs
              rw [List.drop_of_length_le (by omega)] at this
              simpa [seqP] using this
            have hjn := run_join ho ⟨#[44, 32]⟩ (by omega) (by rw [hps]; exact join_len (Nat.le_trans hfz (by decide))) H.length
            have hjt : (⟨(Lib.join (ps.map (·.data.toList)) (⟨#[44, 32]⟩ : ByteArray).data.toList).toArray⟩ : ByteArray) = flowL (flowT es d) false 0 xs ⟨#[]⟩ := by rw [hps]; exact seq_join _ _
            rw [hjt] at hjn
            generalize flowL (flowT es d) false 0 xs ⟨#[]⟩ = J at *
            unfold run at hjn
            rw [zEv_round hc, ← hR]
            simp (config := {contextual := true, maxSteps := 10000000, implicitDefEqProofs := false}) (disch := first | (and_intros <;> omega -splitDisjunctions) | (simp only [List.length_set, List.length_append, List.length_cons, List.length_nil]; and_intros <;> omega -splitDisjunctions) | fail) only [t5, cE, cN, e1, hjn, o1, o2, Tryd.f57, go_sem, ↓reduceIte, Nat.reduceEqDiff, Nat.reduceAdd, Nat.reduceMul, Nat.reduceLT, Nat.reduceLeDiff, reduceCtorEq, Int.reduceNe, Int.reduceEq, Int.reduceLT, Int.reduceLE, Int.reduceAdd, Int.reduceSub, Int.reduceMul, Int.reduceNeg, Int.reduceToNat, UInt8.reduceToNat, natLit, ty3, ty4, ty9, ty39, ty65, ty67, ty71, ty85]
            rw [← hZ]
          have t5 : ((j : Int) < xs.length) = True := eq_true (by omega)
          obtain ⟨kb, hw0, hkc, hk1, hk2⟩ : ∃ kb, w0 = .sl kb 0 1 xs.length xs.length ∧ LH.cellsAt B kb = some (rows inN xs) ∧ H.length + 3 ≤ kb ∧ kb < C.length := by
            rcases hk with hk | hk
            · subst hk; cases hlj
            · exact hk
          have aB : At B inN 1 w0 xs := Own.at (fl := 0) (.inr ⟨kb, hw0, hkc, Nat.zero_le _⟩) inN_len
          have s1 := fun n K => aB.load1 0 (fun x => .int .i64 (x : Nat)) (fun _ => rfl) j hlj n K
          have s2 := aB.con (by omega)
          have hxi := hki (xs.getD j 0) (by rw [getD_of hlj]; exact List.getElem_mem _)
          have hxb := hbd (xs.getD j 0) (by rw [getD_of hlj]; exact List.getElem_mem _)
          have rN := h.ext hxB
          have n3 := fun fl => hIH (xs.getD j 0) B fl rN hxi.2.1 hxi.1 hxi.2.2
          have hkc0 : ∀ x, (∃ p r s t, q = .sl x p r s t) → x ≠ kb := fun x hx => by rcases hob x hx with e | e <;> omega
          have hkn0 : ∀ x, (∃ p r s t, q = .sl x p r s t) → x ≠ H.length := fun x hx => by rcases hob x hx with e | e <;> omega
          have hke0 : ∀ x, (∃ p r s t, q = .sl x p r s t) → x ≠ H.length + 1 := fun x hx => by rcases hob x hx with e | e <;> omega
          have nx : ∀ L M, Hx H (killV (B ++ L) q ++ M) := fun L M => app_hx (hxB.trans Hx.app) (ho.ext Hx.app) (by omega)
          have hs0 := hs
          have hsq : seqP (flowT es d) (xs.drop j) = flowT es d (xs.getD j 0) :: seqP (flowT es d) (xs.drop (j + 1)) := by
            rw [List.drop_eq_getElem_cons hlj, getD_of hlj]; rfl
          rw [hsq] at hs0
          generalize flowT es d (xs.getD j 0) = T at *
          have ap := fun L => app_own1 (fl := H.length) (ho.ext (Hx.app (L := L))) strC_len (by omega) 16 (by unfold mostCells; omega) (T)
          simp only [strC] at ap
          have an := app_new (enc := strC) (z := 1) (v := q) (show H.length + 2 ≤ (B ++ [Blk.cells [V.str (T)]]).length by rw [List.length_append, List.length_singleton]; omega) (ps ++ [T])
          simp only [List.length_append, List.length_cons, List.length_nil, Nat.zero_add] at an
          try unfold run at n3
          rw [zEv_round hc, ← hR]
          simp (config := {contextual := true, maxSteps := 10000000, implicitDefEqProofs := false}) (disch := first | (and_intros <;> omega -splitDisjunctions) | (simp only [List.length_set, List.length_append, List.length_cons, List.length_nil]; and_intros <;> omega -splitDisjunctions) | fail) only [t5, s1, s2, cE, cN, n3, ap, w1, w2, w3, w4, w6, o1, o2, j0, j1, j2, j3, j4, j5, j6, hxb, Tryd.f57, go_sem, ↓reduceIte, Nat.reduceEqDiff, Nat.reduceAdd, Nat.reduceMul, Nat.reduceLT, Nat.reduceLeDiff, reduceCtorEq, Int.reduceNe, Int.reduceEq, Int.reduceLT, Int.reduceLE, Int.reduceAdd, Int.reduceSub, Int.reduceMul, Int.reduceNeg, Int.reduceToNat, UInt8.reduceToNat, natLit, ty3, ty4, ty9, ty39, ty65, ty67, ty71, ty85]
          rw [hR]
          refine ih (j + 1) ((j : Int) + 1) _ (ps ++ [T]) _ _ _ _ _ _ _ _ _ _ _ _ _ _ (by omega) (by omega) (by omega) (nx _ _) (by rw [List.length_append, killV_len, List.length_append]; omega) (cells_ne (cellsAt_left cN) hkn0) (cells_ne (cellsAt_left cE) hke0) (.inr ⟨kb, hw0, cells_ne (cellsAt_left hkc) hkc0, hk1, hk2⟩) an (fun x hx => ?_) (by rw [List.length_append, List.length_singleton]; omega) ?_
          · obtain ⟨_, _, _, _, e⟩ := hx
            injection e with e
            right; omega
          · rw [List.append_assoc]; exact hs0
      exact key (xs.length + 1) 0 0 (.sl (H.length + 2) 0 1 0 0) [] C _ _ _ _ _ _ _ _ _ _ _ _ _ (by omega) rfl (by omega) hxC (Nat.le_refl _) cN cE hkrow (.inr ⟨H.length + 2, rfl, cP, Nat.le_refl _⟩) (fun x hx => by obtain ⟨_, _, _, _, e⟩ := hx; injection e with e; left; exact e.symm) (by simp) (by rw [List.drop_zero, List.nil_append])
end Go.Proofs.YtcbjmggbbnpbpaaDoor.Lg
