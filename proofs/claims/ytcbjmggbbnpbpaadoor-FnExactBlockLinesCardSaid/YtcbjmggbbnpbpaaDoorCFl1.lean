/- What is written in the flow style: the reference's functions, and the properties. No condition. -/
import Derived.Test.YtcbjmggbbnpbpaaDoorCFlP
import Derived.Test.YtcbjmggbbnpbpaaDoorCLibT
namespace Go.Proofs.YtcbjmggbbnpbpaaDoor.Lg
set_option linter.unusedSimpArgs false
set_option linter.unusedVariables false
set_option maxRecDepth 100000
set_option maxHeartbeats 40000000
open Go.Proofs.YtcbjmggbbnpbpaaDoor

/-- an event whose texts are not too long -/
def Short (e : Ev) : Prop := e.text.size + e.anchor.size + e.tag.size ≤ 1048576
theorem Short.cost {e : Ev} (h : Short e) : (propT e).size + (leafT e).size + 8 ≤ 10485824 := by
  unfold Short at h
  have h1 := propT_size e
  have h2 := quoT_size e.text
  unfold leafT
  by_cases h6 : e.kind = 6
  · rw [if_pos h6, ByteArray.size_append, show (⟨#[42]⟩ : ByteArray).size = 1 from rfl]; omega
  · rw [if_neg h6, ByteArray.size_append]; omega
theorem run_imProps (e : Ev) (fl : Nat) (H : LH) (h : Short e) : run 100 [.agg (evC e)] fl H = some (.str (propT e), H) := by
  unfold Short at h
  unfold propT
  obtain ⟨kind, style, flag, text, anchor, tag, place, code⟩ := e
  unfold run evC at *
  simp only at *
  rw [Run_z Tryd.func100 rfl (by rfl : ok 100 = true) (by rfl : cfg.keep 100 = [0, 1, 2, 3, 6, 13]) (by rfl : cfg.mode 100 = .pure) (by rfl : cfg.ord 100 = [])]
  by_cases h1 : anchor = ⟨#[]⟩
  · by_cases h2 : tag = ⟨#[]⟩
    · subst h1; subst h2
      simp (config := {contextual := true, maxSteps := 10000000, implicitDefEqProofs := false}) (disch := first | (and_intros <;> omega -splitDisjunctions) | (simp only [List.length_set, List.length_append, List.length_cons, List.length_nil]; and_intros <;> omega -splitDisjunctions) | fail) only [Tryd.f100, go_sem, ↓reduceIte, Nat.reduceEqDiff, Nat.reduceAdd, Nat.reduceMul, Nat.reduceLT, Nat.reduceLeDiff, reduceCtorEq, Int.reduceNe, Int.reduceEq, Int.reduceLT, Int.reduceLE, Int.reduceAdd, Int.reduceSub, Int.reduceMul, Int.reduceNeg, Int.reduceToNat, UInt8.reduceToNat, natLit, ty3, ty4, ty9, ty65]
    · subst h1
      simp (config := {contextual := true, maxSteps := 10000000, implicitDefEqProofs := false}) (disch := first | (and_intros <;> omega -splitDisjunctions) | (simp only [List.length_set, List.length_append, List.length_cons, List.length_nil]; and_intros <;> omega -splitDisjunctions) | fail) only [h2, Tryd.f100, go_sem, ↓reduceIte, Nat.reduceEqDiff, Nat.reduceAdd, Nat.reduceMul, Nat.reduceLT, Nat.reduceLeDiff, reduceCtorEq, Int.reduceNe, Int.reduceEq, Int.reduceLT, Int.reduceLE, Int.reduceAdd, Int.reduceSub, Int.reduceMul, Int.reduceNeg, Int.reduceToNat, UInt8.reduceToNat, natLit, ty3, ty4, ty9, ty65]
  · by_cases h2 : tag = ⟨#[]⟩
    · subst h2
      simp (config := {contextual := true, maxSteps := 10000000, implicitDefEqProofs := false}) (disch := first | (and_intros <;> omega -splitDisjunctions) | (simp only [List.length_set, List.length_append, List.length_cons, List.length_nil]; and_intros <;> omega -splitDisjunctions) | fail) only [h1, Tryd.f100, go_sem, ↓reduceIte, Nat.reduceEqDiff, Nat.reduceAdd, Nat.reduceMul, Nat.reduceLT, Nat.reduceLeDiff, reduceCtorEq, Int.reduceNe, Int.reduceEq, Int.reduceLT, Int.reduceLE, Int.reduceAdd, Int.reduceSub, Int.reduceMul, Int.reduceNeg, Int.reduceToNat, UInt8.reduceToNat, natLit, ty3, ty4, ty9, ty65]
    · simp (config := {contextual := true, maxSteps := 10000000, implicitDefEqProofs := false}) (disch := first | (and_intros <;> omega -splitDisjunctions) | (simp only [List.length_set, List.length_append, List.length_cons, List.length_nil]; and_intros <;> omega -splitDisjunctions) | fail) only [h1, h2, Tryd.f100, go_sem, ↓reduceIte, Nat.reduceEqDiff, Nat.reduceAdd, Nat.reduceMul, Nat.reduceLT, Nat.reduceLeDiff, reduceCtorEq, Int.reduceNe, Int.reduceEq, Int.reduceLT, Int.reduceLE, Int.reduceAdd, Int.reduceSub, Int.reduceMul, Int.reduceNeg, Int.reduceToNat, UInt8.reduceToNat, natLit, ty3, ty4, ty9, ty65]
theorem run_spProps (e : Ev) (fl : Nat) (H : LH) (h : Short e) : run 99 [.agg (evC e)] fl H = some (.str (propT e), H) := by
  unfold Short at h
  unfold propT
  obtain ⟨kind, style, flag, text, anchor, tag, place, code⟩ := e
  unfold run evC at *
  simp only at *
  rw [Run_z Tryd.func99 rfl (by rfl : ok 99 = true) (by rfl : cfg.keep 99 = [0, 1, 2, 3, 6, 13]) (by rfl : cfg.mode 99 = .pure) (by rfl : cfg.ord 99 = [])]
  by_cases h1 : anchor = ⟨#[]⟩
  · by_cases h2 : tag = ⟨#[]⟩
    · subst h1; subst h2
      simp (config := {contextual := true, maxSteps := 10000000, implicitDefEqProofs := false}) (disch := first | (and_intros <;> omega -splitDisjunctions) | (simp only [List.length_set, List.length_append, List.length_cons, List.length_nil]; and_intros <;> omega -splitDisjunctions) | fail) only [Tryd.f99, go_sem, ↓reduceIte, Nat.reduceEqDiff, Nat.reduceAdd, Nat.reduceMul, Nat.reduceLT, Nat.reduceLeDiff, reduceCtorEq, Int.reduceNe, Int.reduceEq, Int.reduceLT, Int.reduceLE, Int.reduceAdd, Int.reduceSub, Int.reduceMul, Int.reduceNeg, Int.reduceToNat, UInt8.reduceToNat, natLit, ty3, ty4, ty9, ty65]
    · subst h1
      simp (config := {contextual := true, maxSteps := 10000000, implicitDefEqProofs := false}) (disch := first | (and_intros <;> omega -splitDisjunctions) | (simp only [List.length_set, List.length_append, List.length_cons, List.length_nil]; and_intros <;> omega -splitDisjunctions) | fail) only [h2, Tryd.f99, go_sem, ↓reduceIte, Nat.reduceEqDiff, Nat.reduceAdd, Nat.reduceMul, Nat.reduceLT, Nat.reduceLeDiff, reduceCtorEq, Int.reduceNe, Int.reduceEq, Int.reduceLT, Int.reduceLE, Int.reduceAdd, Int.reduceSub, Int.reduceMul, Int.reduceNeg, Int.reduceToNat, UInt8.reduceToNat, natLit, ty3, ty4, ty9, ty65]
  · by_cases h2 : tag = ⟨#[]⟩
    · subst h2
      simp (config := {contextual := true, maxSteps := 10000000, implicitDefEqProofs := false}) (disch := first | (and_intros <;> omega -splitDisjunctions) | (simp only [List.length_set, List.length_append, List.length_cons, List.length_nil]; and_intros <;> omega -splitDisjunctions) | fail) only [h1, Tryd.f99, go_sem, ↓reduceIte, Nat.reduceEqDiff, Nat.reduceAdd, Nat.reduceMul, Nat.reduceLT, Nat.reduceLeDiff, reduceCtorEq, Int.reduceNe, Int.reduceEq, Int.reduceLT, Int.reduceLE, Int.reduceAdd, Int.reduceSub, Int.reduceMul, Int.reduceNeg, Int.reduceToNat, UInt8.reduceToNat, natLit, ty3, ty4, ty9, ty65]
    · simp (config := {contextual := true, maxSteps := 10000000, implicitDefEqProofs := false}) (disch := first | (and_intros <;> omega -splitDisjunctions) | (simp only [List.length_set, List.length_append, List.length_cons, List.length_nil]; and_intros <;> omega -splitDisjunctions) | fail) only [h1, h2, Tryd.f99, go_sem, ↓reduceIte, Nat.reduceEqDiff, Nat.reduceAdd, Nat.reduceMul, Nat.reduceLT, Nat.reduceLeDiff, reduceCtorEq, Int.reduceNe, Int.reduceEq, Int.reduceLT, Int.reduceLE, Int.reduceAdd, Int.reduceSub, Int.reduceMul, Int.reduceNeg, Int.reduceToNat, UInt8.reduceToNat, natLit, ty3, ty4, ty9, ty65]
theorem run_l20Leaf (e : Ev) (fl : Nat) (H : LH) (h : Short e) : run 59 [.agg (evC e)] fl H = some (.str (leafT e), H) := by
  have e1 := fun fl H => run_spProps e fl H h
  have e2 := fun fl H => run_spQuote e.text fl H (by unfold Short at h; omega)
  have l1 := propT_size e
  have l2 := quoT_size e.text
  unfold Short at h
  unfold leafT
  generalize propT e = P at *
  obtain ⟨kind, style, flag, text, anchor, tag, place, code⟩ := e
  unfold run evC at *
  simp only at *
  generalize quoT text = Q at *
  rw [Run_z Tryd.func59 rfl (by rfl : ok 59 = true) (by rfl : cfg.keep 59 = [0, 1, 2, 5]) (by rfl : cfg.mode 59 = .pure) (by rfl : cfg.ord 59 = [])]
  by_cases h6 : kind = 6
  · subst h6
    simp (config := {contextual := true, maxSteps := 10000000, implicitDefEqProofs := false}) (disch := first | (and_intros <;> omega -splitDisjunctions) | (simp only [List.length_set, List.length_append, List.length_cons, List.length_nil]; and_intros <;> omega -splitDisjunctions) | fail) only [e1, e2, Tryd.f59, go_sem, ↓reduceIte, Nat.reduceEqDiff, Nat.reduceAdd, Nat.reduceMul, Nat.reduceLT, Nat.reduceLeDiff, reduceCtorEq, Int.reduceNe, Int.reduceEq, Int.reduceLT, Int.reduceLE, Int.reduceAdd, Int.reduceSub, Int.reduceMul, Int.reduceNeg, Int.reduceToNat, UInt8.reduceToNat, natLit, ty3, ty4, ty9, ty65]
  · simp (config := {contextual := true, maxSteps := 10000000, implicitDefEqProofs := false}) (disch := first | (and_intros <;> omega -splitDisjunctions) | (simp only [List.length_set, List.length_append, List.length_cons, List.length_nil]; and_intros <;> omega -splitDisjunctions) | fail) only [h6, e1, e2, Tryd.f59, go_sem, ↓reduceIte, Nat.reduceEqDiff, Nat.reduceAdd, Nat.reduceMul, Nat.reduceLT, Nat.reduceLeDiff, reduceCtorEq, Int.reduceNe, Int.reduceEq, Int.reduceLT, Int.reduceLE, Int.reduceAdd, Int.reduceSub, Int.reduceMul, Int.reduceNeg, Int.reduceToNat, UInt8.reduceToNat, natLit, ty3, ty4, ty9, ty65]
theorem flow_bound {es : List Ev} (hw : wholeM es = true) (hc : CostOk es) (hl : es.length ≤ 1048576) {d i : Nat} (hi : i < es.length) (hd : es.length - i ≤ d) (hn : isN (evA es i)) : (flowT es d i).size ≤ 10995183386624 := by
  have hn0 : nestedM es = true := by
    unfold wholeM tiedM at hw
    simp only [Bool.and_eq_true] at hw
    exact hw.1.1
  have := flowT_size (nestedM_bal hn0) (stk_end hw) hc d i hi hd hn
  have := endF_rng es hi
  omega
theorem flowL_bound {es : List Ev} (hw : wholeM es = true) (hc : CostOk es) (hl : es.length ≤ 1048576) {d i : Nat} (hi : i < es.length) (hd : es.length - i ≤ d + 1) (hC : isC (evA es i)) (m : Bool) (k : Nat) :
    (flowL (flowT es d) m 0 ((kidsF es i).take k) ⟨#[]⟩).size ≤ 10995183386624 := by
  have hn0 : nestedM es = true := by
    unfold wholeM tiedM at hw
    simp only [Bool.and_eq_true] at hw
    exact hw.1.1
  have hB := nestedM_bal hn0
  have hst := stk_end hw
  have he := end_all hB hst hi (isC_isN hC)
  have hr := endF_rng es hi
  have ht := kidsF_tile es hi hC he
  have hkin := kidsF_in es hi
  have hsum : ((kidsF es i).map (fun x => ((flowT es d x).size : Int) + 3)).sum ≤ 10485824 * (endF es i - i - 1) := by
    refine Int.le_trans (sum_le (g := fun x => 10485824 * (endF es x - x + 1)) fun x hx => ?_) ?_
    · have := hkin x hx
      exact flowT_size hB hst hc d x this.2.1 (by omega) this.2.2
    · rw [sum_mul (fun x => endF es x - x + 1)]
      have := ht.2
      omega
  have l1 := flowL_size (flowT es d) m ((kidsF es i).take k) 0 ⟨#[]⟩
  have l2 : (((kidsF es i).take k).map (fun x => ((flowT es d x).size : Int) + 3)).sum ≤ ((kidsF es i).map (fun x => ((flowT es d x).size : Int) + 3)).sum := by
    conv => rhs; rw [← List.take_append_drop k (kidsF es i), List.map_append, List.sum_append]
    have : 0 ≤ (((kidsF es i).drop k).map (fun x => ((flowT es d x).size : Int) + 3)).sum := by
      have := sum_le (f := fun _ => 0) (g := fun x => ((flowT es d x).size : Int) + 3) (xs := (kidsF es i).drop k) (fun x _ => by omega)
      refine Int.le_trans ?_ this
      generalize (kidsF es i).drop k = l
      induction l with
      | nil => simp
      | cons x l ih => simp only [List.map_cons, List.sum_cons]; omega
    omega
  simp only [show (⟨#[]⟩ : ByteArray).size = 0 from rfl] at l1
  omega
theorem flowL_take (f : Nat → ByteArray) (m : Bool) : ∀ (xs : List Nat) (k j : Nat) (s : ByteArray), j < xs.length → flowL f m k (xs.take (j + 1)) s = flowL f m k (xs.take j) s ++ sepT m (k + j) ++ f (xs.getD j 0)
  | [], k, j, s, h => by cases h
  | x :: xs, k, 0, s, h => by simp [flowL]
  | x :: xs, k, j + 1, s, h => by
    have ih := flowL_take f m xs (k + 1) j (s ++ sepT m k ++ f x) (by simpa using h)
    rw [List.take_succ_cons, List.take_succ_cons, flowL, flowL, ih, show k + 1 + j = k + (j + 1) by omega, List.getD_cons_succ]
theorem tmod2' (j : Nat) : ((j : Int).tmod 2 = 1) = (j % 2 = 1) := by
  rw [Int.tmod_eq_emod_of_nonneg (by omega)]
  apply propext; omega
theorem run_l20Node {es : List Ev} (hw : wholeM es = true) (hsh : ∀ e ∈ es, Short e) (hl : es.length ≤ 1048576) : ∀ (d i : Nat) (v : V) (H : LH) (fl : Nat), At H evC 8 v es → i < es.length → es.length - i ≤ d → isN (evA es i) →
    run 55 [v, .int .i64 i] fl H = some (.str (flowT es d i), H)
  | 0, i, v, H, fl, h, hi, hd, hn => by omega
  | d + 1, i, v, H, fl, h, hi, hd, hn => by
    have hc : CostOk es := fun e he => (hsh e he).cost
    have hse := hsh _ (show es.getD i evZ ∈ es by rw [getD_of hi]; exact List.getElem_mem _)
    have hIH := fun (x : Nat) (B : LH) (fl : Nat) (hB : At B evC 8 v es) (hx : x < es.length) (h2 : i < x) (h3 : isN (evA es x)) => run_l20Node hw hsh hl d x v B fl hB hx (by omega) h3
    have e1 := fun fl H => run_l20Leaf (es.getD i evZ) fl H hse
    have e2 := fun fl H => run_l13Coll (es.getD i evZ) fl H
    have e3 := fun fl H => run_spProps (es.getD i evZ) fl H hse
    have lP := propT_size (es.getD i evZ)
    have hsz : (es.getD i evZ).anchor.size + (es.getD i evZ).tag.size ≤ 1048576 := by unfold Short at hse; omega
    have f1 := h.isTup; have f2 := h.len; have f3 := h.lenOk ty39; have f0 := h.one
    have f4 := fun hp => h.con hp
    have f5 := h.idx (T := ty Tryd.prog) (t := 39) (by simp only [elemI, sizeO, ty3, ty4, ty9, ty39, ty65])
    have f6 := h.loadD evC_len evZ
    have g6 := f6 i hi
    obtain ⟨Z, hZ⟩ : ∃ Z, flowT es (d + 1) i = Z := ⟨_, rfl⟩
    rw [hZ]
    unfold flowT at hZ
    by_cases hC : isC (evA es i)
    rotate_left
    · rw [if_neg hC] at hZ
      rw [decide_eq_false (show ¬ isC (es.getD i evZ) from hC)] at e2
      unfold run evC at *
      rw [Run_z Tryd.func55 rfl (by rfl : ok 55 = true) (by rfl : cfg.keep 55 = [0, 1, 4, 5, 6, 7, 8, 15, 20, 21, 22, 23, 34, 38, 49]) (by rfl : cfg.mode 55 = .pure) (by rfl : cfg.ord 55 = [])]
      simp (config := {contextual := true, maxSteps := 10000000, implicitDefEqProofs := false}) (disch := first | (and_intros <;> omega -splitDisjunctions) | (simp only [List.length_set, List.length_append, List.length_cons, List.length_nil]; and_intros <;> omega -splitDisjunctions) | fail) only [g6, e1, e2, f0, f1, f2, f3, f4, f5, f6, Tryd.f55, go_sem, ↓reduceIte, Nat.reduceEqDiff, Nat.reduceAdd, Nat.reduceMul, Nat.reduceLT, Nat.reduceLeDiff, reduceCtorEq, Int.reduceNe, Int.reduceEq, Int.reduceLT, Int.reduceLE, Int.reduceAdd, Int.reduceSub, Int.reduceMul, Int.reduceNeg, Int.reduceToNat, UInt8.reduceToNat, natLit, ty3, ty4, ty9, ty39, ty65, ty67]
      rw [← hZ]
    rw [if_pos hC] at hZ
    rw [decide_eq_true (show isC (es.getD i evZ) from hC)] at e2
    obtain ⟨w0, C, e7, xC, oC⟩ := run_l13Kids (h.ext (Hx.app (L := [.cells (evC (es.getD i evZ))]))) hl hi H.length
    have hxC : Hx H C := Hx.app.trans xC
    have cE : LH.cellsAt C H.length = some (evC (es.getD i evZ)) := xC.cells (by rw [cellsAt_app0]; rfl)
    have hki := kidsF_in es hi
    have hkl2 := kidsF_len es hi
    have hfb := flowL_bound hw hc hl hi hd hC
    have hbd := fun x (hx : x ∈ kidsF es i) => flow_bound hw hc hl (d := d) (hki x hx).2.1 (by have := hki x hx; omega) (hki x hx).2.2
    generalize kidsF es i = xs at *
    generalize propT (es.getD i evZ) = P at *
    have aC := oC.at inN_len
    have w1 := aC.isTup; have w2 := aC.len; have w3 := aC.lenOk ty67; have w4 := aC.one
    have w6 := aC.idx (T := ty Tryd.prog) (t := 67) (by simp only [elemI, sizeO, ty3, ty67])
    have hC2 : (es.getD i evZ).kind = 3 ∨ (es.getD i evZ).kind = 4 := hC
    have rC := h.ext hxC
    by_cases h4 : (es.getD i evZ).kind = 4
    · rw [if_pos (show kd es i = 4 from h4)] at hZ
      have hZ : P ++ ⟨#[123]⟩ ++ flowL (flowT es d) true 0 xs ⟨#[]⟩ ++ ⟨#[125]⟩ = Z := hZ
      unfold run evC at *
      simp only [h4] at g6 e1 e2 e3 e7 cE
      rw [Run_z Tryd.func55 rfl (by rfl : ok 55 = true) (by rfl : cfg.keep 55 = [0, 1, 4, 5, 6, 7, 8, 15, 20, 21, 22, 23, 34, 38, 49]) (by rfl : cfg.mode 55 = .pure) (by rfl : cfg.ord 55 = [])]
      simp (config := {contextual := true, maxSteps := 10000000, implicitDefEqProofs := false}) (disch := first | (and_intros <;> omega -splitDisjunctions) | (simp only [List.length_set, List.length_append, List.length_cons, List.length_nil]; and_intros <;> omega -splitDisjunctions) | fail) only [g6, e2, e7, w1, w2, w3, w4, f0, f1, f2, f3, f4, f5, f6, Tryd.f55, go_sem, ↓reduceIte, Nat.reduceEqDiff, Nat.reduceAdd, Nat.reduceMul, Nat.reduceLT, Nat.reduceLeDiff, reduceCtorEq, Int.reduceNe, Int.reduceEq, Int.reduceLT, Int.reduceLE, Int.reduceAdd, Int.reduceSub, Int.reduceMul, Int.reduceNeg, Int.reduceToNat, UInt8.reduceToNat, natLit, ty3, ty4, ty9, ty39, ty65, ty67]
      refine at_loopE fun c R hc hR => ?_
      have key : ∀ (m : Nat) (j : Nat) (jj : Int) (s : ByteArray) (x1 x4 x7 x8 x15 x23 x34 x38 x49 : Option V), xs.length - j < m → jj = j → j ≤ xs.length → s = flowL (flowT es d) true 0 (xs.take j) ⟨#[]⟩ →
          zEv (leaveX (mkR Tryd.prog cfg ok [0, 1, 4, 5, 6, 7, 8, 15, 20, 21, 22, 23, 34, 38, 49] H.length) .pure H [ResultVar.tmp 4]) (mkR Tryd.prog cfg ok [0, 1, 4, 5, 6, 7, 8, 15, 20, 21, 22, 23, 34, 38, 49] H.length) (K.code (Code.loop c) :: K.blk 0 :: R) .nrm [some v, x1, x4, some (.ptr H.length 0), some (.str s), x7, x8, x15, some w0, some (.int .i64 xs.length), some (.int .i64 jj), x23, x34, x38, x49] (C) = some (.str Z, H) := by
        intro m
        induction m with
        | zero => intro j jj s x1 x4 x7 x8 x15 x23 x34 x38 x49 hm; omega
        | succ m ih =>
          intro j jj s x1 x4 x7 x8 x15 x23 x34 x38 x49 hm hj hjl hs
          subst hj
          have hsb := hfb true j
          rw [← hs] at hsb
          by_cases hlj : j < xs.length
          rotate_left
          · have t5 : ((j : Int) < xs.length) = False := eq_false (by omega)
            rw [List.take_of_length_le (by omega)] at hs
            rw [← hs] at hZ
            rw [zEv_round hc, ← hR]
            simp (config := {contextual := true, maxSteps := 10000000, implicitDefEqProofs := false}) (disch := first | (and_intros <;> omega -splitDisjunctions) | (simp only [List.length_set, List.length_append, List.length_cons, List.length_nil]; and_intros <;> omega -splitDisjunctions) | fail) only [t5, cE, e3, Tryd.f55, go_sem, ↓reduceIte, Nat.reduceEqDiff, Nat.reduceAdd, Nat.reduceMul, Nat.reduceLT, Nat.reduceLeDiff, reduceCtorEq, Int.reduceNe, Int.reduceEq, Int.reduceLT, Int.reduceLE, Int.reduceAdd, Int.reduceSub, Int.reduceMul, Int.reduceNeg, Int.reduceToNat, UInt8.reduceToNat, natLit, ty3, ty4, ty9, ty39, ty65, ty67]
            rw [← hZ]
          have t5 : ((j : Int) < xs.length) = True := eq_true (by omega)
          have hxi := hki (xs.getD j 0) (by rw [getD_of hlj]; exact List.getElem_mem _)
          have hxb := hbd (xs.getD j 0) (by rw [getD_of hlj]; exact List.getElem_mem _)
          have s1 := fun n K => aC.load1 0 (fun x => .int .i64 (x : Nat)) (fun _ => rfl) j hlj n K
          have s2 := aC.con (by omega)
          have n3 := fun fl => hIH (xs.getD j 0) C fl rC hxi.2.1 hxi.1 hxi.2.2
          have hn3 := flowL_take (flowT es d) true xs 0 j ⟨#[]⟩ hlj
          rw [← hs, Nat.zero_add] at hn3
          have hsb1 := hfb true (j + 1)
          rw [hn3] at hsb1
          simp only [ByteArray.size_append] at hsb1
          generalize flowT es d (xs.getD j 0) = T at *
          try unfold run at n3
          have t6 := tmod2' j
          by_cases hp : j % 2 = 1
          · rw [eq_true hp] at t6
            have hsp : sepT true j = ⟨#[32, 58, 32]⟩ := by unfold sepT; rw [if_pos ⟨rfl, hp⟩]
            rw [hsp] at hsb1
            simp only [show (⟨#[32, 58, 32]⟩ : ByteArray).size = 3 from rfl] at hsb1
            rw [zEv_round hc, ← hR]
            simp (config := {contextual := true, maxSteps := 10000000, implicitDefEqProofs := false}) (disch := first | (and_intros <;> omega -splitDisjunctions) | (simp only [List.length_set, List.length_append, List.length_cons, List.length_nil]; and_intros <;> omega -splitDisjunctions) | fail) only [t5, s1, s2, cE, n3, w1, w2, w3, w4, w6, t6, Tryd.f55, go_sem, ↓reduceIte, Nat.reduceEqDiff, Nat.reduceAdd, Nat.reduceMul, Nat.reduceLT, Nat.reduceLeDiff, reduceCtorEq, Int.reduceNe, Int.reduceEq, Int.reduceLT, Int.reduceLE, Int.reduceAdd, Int.reduceSub, Int.reduceMul, Int.reduceNeg, Int.reduceToNat, UInt8.reduceToNat, natLit, ty3, ty4, ty9, ty39, ty65, ty67]
            rw [hR]
            refine ih (j + 1) ((j : Int) + 1) _ _ _ _ _ _ _ _ _ _ (by omega) (by omega) (by omega) ?_
            rw [hn3, hsp]
          · rw [eq_false hp] at t6
            by_cases hj0 : 0 < j
            · have hsp : sepT true j = ⟨#[44, 32]⟩ := by unfold sepT; rw [if_neg (fun h => hp h.2), if_pos hj0]
              have t7 : ((j : Int) > 0) = True := eq_true (by omega)
              rw [hsp] at hsb1
              simp only [show (⟨#[44, 32]⟩ : ByteArray).size = 2 from rfl] at hsb1
              rw [zEv_round hc, ← hR]
              simp (config := {contextual := true, maxSteps := 10000000, implicitDefEqProofs := false}) (disch := first | (and_intros <;> omega -splitDisjunctions) | (simp only [List.length_set, List.length_append, List.length_cons, List.length_nil]; and_intros <;> omega -splitDisjunctions) | fail) only [t5, s1, s2, cE, n3, w1, w2, w3, w4, w6, t6, t7, Tryd.f55, go_sem, ↓reduceIte, Nat.reduceEqDiff, Nat.reduceAdd, Nat.reduceMul, Nat.reduceLT, Nat.reduceLeDiff, reduceCtorEq, Int.reduceNe, Int.reduceEq, Int.reduceLT, Int.reduceLE, Int.reduceAdd, Int.reduceSub, Int.reduceMul, Int.reduceNeg, Int.reduceToNat, UInt8.reduceToNat, natLit, ty3, ty4, ty9, ty39, ty65, ty67]
              rw [hR]
              refine ih (j + 1) ((j : Int) + 1) _ _ _ _ _ _ _ _ _ _ (by omega) (by omega) (by omega) ?_
              rw [hn3, hsp]
            · have hj1 : j = 0 := by omega
              subst hj1
              have hsp : sepT true 0 = ⟨#[]⟩ := by unfold sepT; rw [if_neg (by omega), if_neg (by omega)]
              have t7 : (((0 : Nat) : Int) > 0) = False := eq_false (by omega)
              have t5 : ((0 : Int) < xs.length) = True := eq_true (by omega)
              simp only [Nat.add_zero] at s1
              rw [zEv_round hc, ← hR]
              simp (config := {contextual := true, maxSteps := 10000000, implicitDefEqProofs := false}) (disch := first | (and_intros <;> omega -splitDisjunctions) | (simp only [List.length_set, List.length_append, List.length_cons, List.length_nil]; and_intros <;> omega -splitDisjunctions) | fail) only [t5, s1, s2, cE, n3, w1, w2, w3, w4, w6, t6, t7, Tryd.f55, go_sem, ↓reduceIte, Nat.reduceEqDiff, Nat.reduceAdd, Nat.reduceMul, Nat.reduceLT, Nat.reduceLeDiff, reduceCtorEq, Int.reduceNe, Int.reduceEq, Int.reduceLT, Int.reduceLE, Int.reduceAdd, Int.reduceSub, Int.reduceMul, Int.reduceNeg, Int.reduceToNat, UInt8.reduceToNat, natLit, ty3, ty4, ty9, ty39, ty65, ty67]
              rw [hR]
              refine ih 1 1 _ _ _ _ _ _ _ _ _ _ (by omega) (by omega) (by omega) ?_
              rw [hn3, hsp, show ∀ a : ByteArray, a ++ ⟨#[]⟩ = a from fun a => ByteArray.append_empty]
      exact key (xs.length + 1) 0 0 ⟨#[]⟩ _ _ _ _ _ _ _ _ _ (by omega) rfl (by omega) (by rw [List.take_zero]; rfl)
    · have h3 : (es.getD i evZ).kind = 3 := by omega
      rw [if_neg (show ¬ kd es i = 4 from h4)] at hZ
      have hZ : P ++ ⟨#[91]⟩ ++ flowL (flowT es d) false 0 xs ⟨#[]⟩ ++ ⟨#[93]⟩ = Z := hZ
      unfold run evC at *
      simp only [h3] at g6 e1 e2 e3 e7 cE
      rw [Run_z Tryd.func55 rfl (by rfl : ok 55 = true) (by rfl : cfg.keep 55 = [0, 1, 4, 5, 6, 7, 8, 15, 20, 21, 22, 23, 34, 38, 49]) (by rfl : cfg.mode 55 = .pure) (by rfl : cfg.ord 55 = [])]
      simp (config := {contextual := true, maxSteps := 10000000, implicitDefEqProofs := false}) (disch := first | (and_intros <;> omega -splitDisjunctions) | (simp only [List.length_set, List.length_append, List.length_cons, List.length_nil]; and_intros <;> omega -splitDisjunctions) | fail) only [g6, e2, e7, w1, w2, w3, w4, f0, f1, f2, f3, f4, f5, f6, Tryd.f55, go_sem, ↓reduceIte, Nat.reduceEqDiff, Nat.reduceAdd, Nat.reduceMul, Nat.reduceLT, Nat.reduceLeDiff, reduceCtorEq, Int.reduceNe, Int.reduceEq, Int.reduceLT, Int.reduceLE, Int.reduceAdd, Int.reduceSub, Int.reduceMul, Int.reduceNeg, Int.reduceToNat, UInt8.reduceToNat, natLit, ty3, ty4, ty9, ty39, ty65, ty67]
      refine at_loopE fun c R hc hR => ?_
      have key : ∀ (m : Nat) (j : Nat) (jj : Int) (s : ByteArray) (x1 x4 x7 x8 x15 x23 x34 x38 x49 : Option V), xs.length - j < m → jj = j → j ≤ xs.length → s = flowL (flowT es d) false 0 (xs.take j) ⟨#[]⟩ →
          zEv (leaveX (mkR Tryd.prog cfg ok [0, 1, 4, 5, 6, 7, 8, 15, 20, 21, 22, 23, 34, 38, 49] H.length) .pure H [ResultVar.tmp 4]) (mkR Tryd.prog cfg ok [0, 1, 4, 5, 6, 7, 8, 15, 20, 21, 22, 23, 34, 38, 49] H.length) (K.code (Code.loop c) :: K.blk 0 :: R) .nrm [some v, x1, x4, some (.ptr H.length 0), some (.str s), x7, x8, x15, some w0, some (.int .i64 xs.length), some (.int .i64 jj), x23, x34, x38, x49] (C) = some (.str Z, H) := by
        intro m
        induction m with
        | zero => intro j jj s x1 x4 x7 x8 x15 x23 x34 x38 x49 hm; omega
        | succ m ih =>
          intro j jj s x1 x4 x7 x8 x15 x23 x34 x38 x49 hm hj hjl hs
          subst hj
          have hsb := hfb false j
          rw [← hs] at hsb
          by_cases hlj : j < xs.length
          rotate_left
          · have t5 : ((j : Int) < xs.length) = False := eq_false (by omega)
            rw [List.take_of_length_le (by omega)] at hs
            rw [← hs] at hZ
            rw [zEv_round hc, ← hR]
            simp (config := {contextual := true, maxSteps := 10000000, implicitDefEqProofs := false}) (disch := first | (and_intros <;> omega -splitDisjunctions) | (simp only [List.length_set, List.length_append, List.length_cons, List.length_nil]; and_intros <;> omega -splitDisjunctions) | fail) only [t5, cE, e3, Tryd.f55, go_sem, ↓reduceIte, Nat.reduceEqDiff, Nat.reduceAdd, Nat.reduceMul, Nat.reduceLT, Nat.reduceLeDiff, reduceCtorEq, Int.reduceNe, Int.reduceEq, Int.reduceLT, Int.reduceLE, Int.reduceAdd, Int.reduceSub, Int.reduceMul, Int.reduceNeg, Int.reduceToNat, UInt8.reduceToNat, natLit, ty3, ty4, ty9, ty39, ty65, ty67]
            rw [← hZ]
          have t5 : ((j : Int) < xs.length) = True := eq_true (by omega)
          have hxi := hki (xs.getD j 0) (by rw [getD_of hlj]; exact List.getElem_mem _)
          have hxb := hbd (xs.getD j 0) (by rw [getD_of hlj]; exact List.getElem_mem _)
          have s1 := fun n K => aC.load1 0 (fun x => .int .i64 (x : Nat)) (fun _ => rfl) j hlj n K
          have s2 := aC.con (by omega)
          have n3 := fun fl => hIH (xs.getD j 0) C fl rC hxi.2.1 hxi.1 hxi.2.2
          have hn3 := flowL_take (flowT es d) false xs 0 j ⟨#[]⟩ hlj
          rw [← hs, Nat.zero_add] at hn3
          have hsb1 := hfb false (j + 1)
          rw [hn3] at hsb1
          simp only [ByteArray.size_append] at hsb1
          generalize flowT es d (xs.getD j 0) = T at *
          try unfold run at n3
          by_cases hj0 : 0 < j
          · have hsp : sepT false j = ⟨#[44, 32]⟩ := by unfold sepT; rw [if_neg (by simp), if_pos hj0]
            have t7 : ((j : Int) > 0) = True := eq_true (by omega)
            rw [hsp] at hsb1
            simp only [show (⟨#[44, 32]⟩ : ByteArray).size = 2 from rfl] at hsb1
            rw [zEv_round hc, ← hR]
            simp (config := {contextual := true, maxSteps := 10000000, implicitDefEqProofs := false}) (disch := first | (and_intros <;> omega -splitDisjunctions) | (simp only [List.length_set, List.length_append, List.length_cons, List.length_nil]; and_intros <;> omega -splitDisjunctions) | fail) only [t5, s1, s2, cE, n3, w1, w2, w3, w4, w6, t7, Tryd.f55, go_sem, ↓reduceIte, Nat.reduceEqDiff, Nat.reduceAdd, Nat.reduceMul, Nat.reduceLT, Nat.reduceLeDiff, reduceCtorEq, Int.reduceNe, Int.reduceEq, Int.reduceLT, Int.reduceLE, Int.reduceAdd, Int.reduceSub, Int.reduceMul, Int.reduceNeg, Int.reduceToNat, UInt8.reduceToNat, natLit, ty3, ty4, ty9, ty39, ty65, ty67]
            rw [hR]
            refine ih (j + 1) ((j : Int) + 1) _ _ _ _ _ _ _ _ _ _ (by omega) (by omega) (by omega) ?_
            rw [hn3, hsp]
          · have hj1 : j = 0 := by omega
            subst hj1
            have hsp : sepT false 0 = ⟨#[]⟩ := by unfold sepT; rw [if_neg (by simp), if_neg (by omega)]
            have t7 : (((0 : Nat) : Int) > 0) = False := eq_false (by omega)
            have t5 : ((0 : Int) < xs.length) = True := eq_true (by omega)
            simp only [Nat.add_zero] at s1
            rw [zEv_round hc, ← hR]
            simp (config := {contextual := true, maxSteps := 10000000, implicitDefEqProofs := false}) (disch := first | (and_intros <;> omega -splitDisjunctions) | (simp only [List.length_set, List.length_append, List.length_cons, List.length_nil]; and_intros <;> omega -splitDisjunctions) | fail) only [t5, s1, s2, cE, n3, w1, w2, w3, w4, w6, t7, Tryd.f55, go_sem, ↓reduceIte, Nat.reduceEqDiff, Nat.reduceAdd, Nat.reduceMul, Nat.reduceLT, Nat.reduceLeDiff, reduceCtorEq, Int.reduceNe, Int.reduceEq, Int.reduceLT, Int.reduceLE, Int.reduceAdd, Int.reduceSub, Int.reduceMul, Int.reduceNeg, Int.reduceToNat, UInt8.reduceToNat, natLit, ty3, ty4, ty9, ty39, ty65, ty67]
            rw [hR]
            refine ih 1 1 _ _ _ _ _ _ _ _ _ _ (by omega) (by omega) (by omega) ?_
            rw [hn3, hsp, show ∀ a : ByteArray, a ++ ⟨#[]⟩ = a from fun a => ByteArray.append_empty]
      exact key (xs.length + 1) 0 0 ⟨#[]⟩ _ _ _ _ _ _ _ _ _ (by omega) rfl (by omega) (by rw [List.take_zero]; rfl)
end Go.Proofs.YtcbjmggbbnpbpaaDoor.Lg
