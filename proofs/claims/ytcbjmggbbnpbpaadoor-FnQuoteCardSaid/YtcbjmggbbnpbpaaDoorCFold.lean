/- Folded lines, in the program. No condition. -/
import Derived.Test.YtcbjmggbbnpbpaaDoorCLibT
import Derived.Test.YtcbjmggbbnpbpaaDoorCTxL1
namespace Go.Proofs.YtcbjmggbbnpbpaaDoor.Lg
set_option linter.unusedSimpArgs false
set_option linter.unusedVariables false
set_option maxRecDepth 100000
set_option maxHeartbeats 40000000
open Go.Proofs.YtcbjmggbbnpbpaaDoor

/-- a piece -/
def pcC (x : ByteArray × Bool) : List V := [.str x.1, .bool x.2]
theorem pcC_len (x : ByteArray × Bool) : (pcC x).length = 2 := rfl
def pc0 : ByteArray × Bool := (⟨#[]⟩, false)
def brk (n : Nat) : ByteArray := ⟨(Lib.repeatL [10] n).toArray⟩
theorem brk_size (n : Nat) : (brk n).size = n := by
  show (Lib.repeatL [10] n).length = n
  rw [Lib.repeatL_length]; simp
theorem sz_e : ByteArray.size ⟨#[]⟩ = 0 := rfl
theorem sz_1 {b : UInt8} : ByteArray.size ⟨#[b]⟩ = 1 := rfl
/-- pieces behind what is folded -/
def foldG : List (ByteArray × Bool) → ByteArray → Bool → Nat → ByteArray
  | [], out, _, _ => out
  | x :: r, out, glue, many =>
    if (x.1 = ⟨#[]⟩ ∧ x.2 = false) ∧ r ≠ [] then foldG r out glue (many + 1)
    else foldG r ((if 0 < many then out ++ brk many else if glue = false then out ++ ⟨#[32]⟩ else out) ++ x.1) x.2 0
def foldF : List (ByteArray × Bool) → ByteArray
  | [] => ⟨#[]⟩
  | x :: r => foldG r x.1 x.2 0
/-- how much pieces may fold to -/
def szP : List (ByteArray × Bool) → Nat
  | [] => 0
  | x :: r => x.1.size + 1 + szP r
theorem szP_cons {x : ByteArray × Bool} {r : List (ByteArray × Bool)} : szP (x :: r) = x.1.size + 1 + szP r := rfl
theorem szP_len : ∀ xs : List (ByteArray × Bool), xs.length ≤ szP xs
  | [] => Nat.le_refl _
  | x :: r => by have := szP_len r; simp only [szP, List.length_cons]; omega
theorem foldF_one (t : ByteArray) (g : Bool) : foldF [(t, g)] = t := rfl
theorem drop_cons' {α : Type} {xs : List α} {i : Nat} (hi : i < xs.length) (d : α) : xs.drop i = xs.getD i d :: xs.drop (i + 1) := by
  rw [List.drop_eq_getElem_cons hi, getD_of hi]
theorem run_FoldFlow {H : LH} {v : V} {xs : List (ByteArray × Bool)} (h : At H pcC 2 v xs) (hl : szP xs ≤ 1099511627776) (fl : Nat) :
    run 110 [v] fl H = some (.str (foldF xs), H) := by
  have f1 := h.isTup; have f2 := h.len; have f3 := h.lenOk ty90; have f0 := h.one
  have f4 := fun L hp => (h.left (L := L)).con hp
  have f5 := h.idx (T := ty Tryd.prog) (t := 90) (by simp only [elemI, sizeO, ty4, ty9, ty90, ty119])
  have f6 := fun L => (h.left (L := L)).loadD pcC_len pc0
  have hl2 := szP_len xs
  unfold run
  rw [Run_z Tryd.func110 rfl (by rfl : ok 110 = true) (by rfl : cfg.keep 110 = [0, 2, 3, 4, 5, 6, 7, 10, 22, 43, 46, 53]) (by rfl : cfg.mode 110 = .pure) (by rfl : cfg.ord 110 = [])]
  by_cases h0 : xs.length = 0
  · have t0 : ((xs.length : Int) = 0) = True := eq_true (by omega)
    have : xs = [] := List.eq_nil_of_length_eq_zero h0
    subst this
    simp (config := {contextual := true, maxSteps := 10000000, implicitDefEqProofs := false}) (disch := first | (and_intros <;> omega -splitDisjunctions) | (simp only [List.length_set, List.length_append, List.length_cons, List.length_nil]; and_intros <;> omega -splitDisjunctions) | fail) only [f0, f1, f2, f3, f4, f5, f6, List.length_nil, Int.natCast_zero, Tryd.f110, go_sem, ↓reduceIte, Nat.reduceEqDiff, Nat.reduceAdd, Nat.reduceMul, Nat.reduceLT, Nat.reduceLeDiff, reduceCtorEq, Int.reduceNe, Int.reduceEq, Int.reduceLT, Int.reduceLE, Int.reduceAdd, Int.reduceSub, Int.reduceMul, Int.reduceNeg, Int.reduceToNat, UInt8.reduceToNat, natLit, ty3, ty4, ty9, ty90, ty119]
    rfl
  have t0 : ((xs.length : Int) = 0) = False := eq_false (by omega)
  have hpos : 0 < xs.length := by omega
  have b0 := fun n K => (h.left (L := [])).loadD0 pcC_len pc0 (fun e => .str e.1) (fun _ => rfl) 0 (by omega) n K
  have b1 := fun n K => (h.left (L := [])).loadDF pcC_len pc0 (fun e => .bool e.2) (j := 1) (fun _ => rfl) 0 (by omega) n K
  simp only [List.append_nil, Nat.zero_mul, Nat.add_zero] at b0 b1
  have hcon := h.con (by omega)
  simp (config := {contextual := true, maxSteps := 10000000, implicitDefEqProofs := false}) (disch := first | (and_intros <;> omega -splitDisjunctions) | (simp only [List.length_set, List.length_append, List.length_cons, List.length_nil]; and_intros <;> omega -splitDisjunctions) | fail) only [f0, f1, f2, f3, f4, f5, f6, hcon, b0, b1, t0, Tryd.f110, go_sem, ↓reduceIte, Nat.reduceEqDiff, Nat.reduceAdd, Nat.reduceMul, Nat.reduceLT, Nat.reduceLeDiff, reduceCtorEq, Int.reduceNe, Int.reduceEq, Int.reduceLT, Int.reduceLE, Int.reduceAdd, Int.reduceSub, Int.reduceMul, Int.reduceNeg, Int.reduceToNat, UInt8.reduceToNat, natLit, ty3, ty4, ty9, ty90, ty119]
  refine at_loopE fun c R hc hR => ?_
  have key : ∀ (m : Nat) (i w : Nat) (j ww : Int) (out : ByteArray) (g : Bool) (A : LH) (x2 x7 x10 x22 x43 x46 x53 : Option V), xs.length - i < m → j = (i : Int) → ww = (w : Int) → w ≤ i → i ≤ xs.length → Hx H A → out.size + w + szP (xs.drop i) ≤ szP xs → foldG (xs.drop i) out g w = foldF xs →
      zEv (leaveX (mkR Tryd.prog cfg ok [0, 2, 3, 4, 5, 6, 7, 10, 22, 43, 46, 53] H.length) .pure H [ResultVar.tmp 2]) (mkR Tryd.prog cfg ok [0, 2, 3, 4, 5, 6, 7, 10, 22, 43, 46, 53] H.length) (K.code (Code.loop c) :: K.blk 0 :: R) .nrm [some v, x2, some (.str out), some (.bool g), some (.int .i64 ww), some (.int .i64 j), x7, x10, x22, x43, x46, x53] (A) = some (.str (foldF xs), H) := by
    intro m
    induction m with
    | zero => intro i w j ww out g A x2 x7 x10 x22 x43 x46 x53 hm; omega
    | succ m ih =>
      intro i w j ww out g A x2 x7 x10 x22 x43 x46 x53 hm hj hww hw2 hi hA hb hf
      subst hj; subst hww
      have hB := h.ext hA
      have hle := hA.len
      have g1 := hB.isTup; have g2 := hB.len; have g3 := hB.lenOk ty90; have g0 := hB.one
      have g4 := fun hp => hB.con hp
      have g5 := hB.idx (T := ty Tryd.prog) (t := 90) (by simp only [elemI, sizeO, ty4, ty9, ty90, ty119])
      have g6 := hB.loadD pcC_len pc0
      rcases Nat.lt_or_ge i xs.length with hlt | hge
      rotate_left
      · have t1 : ((i : Int) < xs.length) = False := eq_false (by omega)
        rw [List.drop_of_length_le (by omega)] at hf
        rw [zEv_round hc, ← hR]
        simp (config := {contextual := true, maxSteps := 10000000, implicitDefEqProofs := false}) (disch := first | (and_intros <;> omega -splitDisjunctions) | (simp only [List.length_set, List.length_append, List.length_cons, List.length_nil]; and_intros <;> omega -splitDisjunctions) | fail) only [g0, g1, g2, g3, g4, g5, g6, t1, Tryd.f110, go_sem, ↓reduceIte, Nat.reduceEqDiff, Nat.reduceAdd, Nat.reduceMul, Nat.reduceLT, Nat.reduceLeDiff, reduceCtorEq, Int.reduceNe, Int.reduceEq, Int.reduceLT, Int.reduceLE, Int.reduceAdd, Int.reduceSub, Int.reduceMul, Int.reduceNeg, Int.reduceToNat, UInt8.reduceToNat, natLit, ty3, ty4, ty9, ty90, ty119]
        rw [← hf]; rfl
      have t1 : ((i : Int) < xs.length) = True := eq_true (by omega)
      have g7 := fun K => g6 i hlt K
      rw [drop_cons' hlt pc0] at hf hb
      rw [szP_cons] at hb
      generalize hs : xs.getD i pc0 = x at *
      obtain ⟨xt, xg⟩ := x
      dsimp only at hb
      unfold pcC at g7
      have g6 := g7
      have e1 : ∀ (hw : 0 < w) (fl : Nat) (H : LH), run 102 [.str ⟨#[10]⟩, .int .i64 (w : Int)] fl H = some (.str (brk w), H) := fun hw fl H => run_repeat ⟨#[10]⟩ w (by show 1 * w ≤ _; omega) (by omega) fl H
      have bsz := brk_size w
      unfold foldG at hf
      have hdn : xs.drop (i + 1) ≠ [] ↔ (i : Int) < (xs.length : Int) - 1 := by
        rw [ne_eq, List.drop_eq_nil_iff]; omega
      by_cases c1 : (xt = ⟨#[]⟩ ∧ xg = false) ∧ xs.drop (i + 1) ≠ []
      · rw [if_pos c1] at hf
        obtain ⟨⟨rfl, rfl⟩, c2⟩ := c1
        have t2 : ((i : Int) < (xs.length : Int) - 1) = True := eq_true (hdn.1 c2)
        rw [zEv_round hc]
        simp (config := {contextual := true, maxSteps := 10000000, implicitDefEqProofs := false}) (disch := first | (and_intros <;> omega -splitDisjunctions) | (simp only [List.length_set, List.length_append, List.length_cons, List.length_nil]; and_intros <;> omega -splitDisjunctions) | fail) only [g0, g1, g2, g3, g4, g5, g6, t1, t2, Tryd.f110, go_sem, ↓reduceIte, Nat.reduceEqDiff, Nat.reduceAdd, Nat.reduceMul, Nat.reduceLT, Nat.reduceLeDiff, reduceCtorEq, Int.reduceNe, Int.reduceEq, Int.reduceLT, Int.reduceLE, Int.reduceAdd, Int.reduceSub, Int.reduceMul, Int.reduceNeg, Int.reduceToNat, UInt8.reduceToNat, natLit, ty3, ty4, ty9, ty90, ty119]
        exact ih (i + 1) (w + 1) ((i : Int) + 1) ((w : Int) + 1) _ _ _ _ _ _ _ _ _ _ (by omega) (by omega) (by omega) (by omega) (by omega) (hA.trans Hx.app) (by simp only [sz_e] at hb; omega) hf
      · rw [if_neg c1] at hf
        rw [hdn] at c1
        have c3 : xt ≠ ⟨#[]⟩ ∨ (xt = ⟨#[]⟩ ∧ xg = true) ∨ (xt = ⟨#[]⟩ ∧ xg = false ∧ ¬ (i : Int) < (xs.length : Int) - 1) := by grind
        clear c1
        have hf2 : ∀ o, o = (if 0 < w then out ++ brk w else if g = false then out ++ ⟨#[32]⟩ else out) → foldG (xs.drop (i + 1)) (o ++ xt) xg 0 = foldF xs := fun o ho => by rw [ho]; exact hf
        by_cases hw : 0 < w
        · have t3 : ((w : Int) > 0) = True := eq_true (by omega)
          have t4 : (0 < (w : Int)) = True := eq_true (by omega)
          have e1 := fun fl H => e1 hw fl H
          have hf3 := hf2 _ (by rw [if_pos hw])
          unfold run at e1
          rcases c3 with c3 | ⟨rfl, rfl⟩ | ⟨rfl, rfl, c3⟩
          · have c4 : (xt = ⟨#[]⟩) = False := eq_false c3
            have c5 : True := trivial
            rw [zEv_round hc]
            simp (config := {contextual := true, maxSteps := 10000000, implicitDefEqProofs := false}) (disch := first | (and_intros <;> omega -splitDisjunctions) | (simp only [List.length_set, List.length_append, List.length_cons, List.length_nil]; and_intros <;> omega -splitDisjunctions) | fail) only [g0, g1, g2, g3, g4, g5, g6, t1, t3, t4, c4, c5, e1, bsz, Tryd.f110, go_sem, ↓reduceIte, Nat.reduceEqDiff, Nat.reduceAdd, Nat.reduceMul, Nat.reduceLT, Nat.reduceLeDiff, reduceCtorEq, Int.reduceNe, Int.reduceEq, Int.reduceLT, Int.reduceLE, Int.reduceAdd, Int.reduceSub, Int.reduceMul, Int.reduceNeg, Int.reduceToNat, UInt8.reduceToNat, natLit, ty3, ty4, ty9, ty90, ty119]
            exact ih (i + 1) 0 ((i : Int) + 1) 0 _ _ _ _ _ _ _ _ _ _ (by omega) (by omega) (by omega) (by omega) (by omega) (hA.trans Hx.app) (by simp only [ByteArray.size_append, brk_size, sz_e, sz_1] at hb ⊢; omega) hf3
          · have c4 : True := trivial
            have c5 : True := trivial
            rw [zEv_round hc]
            simp (config := {contextual := true, maxSteps := 10000000, implicitDefEqProofs := false}) (disch := first | (and_intros <;> omega -splitDisjunctions) | (simp only [List.length_set, List.length_append, List.length_cons, List.length_nil]; and_intros <;> omega -splitDisjunctions) | fail) only [g0, g1, g2, g3, g4, g5, g6, t1, t3, t4, c4, c5, e1, bsz, Tryd.f110, go_sem, ↓reduceIte, Nat.reduceEqDiff, Nat.reduceAdd, Nat.reduceMul, Nat.reduceLT, Nat.reduceLeDiff, reduceCtorEq, Int.reduceNe, Int.reduceEq, Int.reduceLT, Int.reduceLE, Int.reduceAdd, Int.reduceSub, Int.reduceMul, Int.reduceNeg, Int.reduceToNat, UInt8.reduceToNat, natLit, ty3, ty4, ty9, ty90, ty119]
            exact ih (i + 1) 0 ((i : Int) + 1) 0 _ _ _ _ _ _ _ _ _ _ (by omega) (by omega) (by omega) (by omega) (by omega) (hA.trans Hx.app) (by simp only [ByteArray.size_append, brk_size, sz_e, sz_1] at hb ⊢; omega) hf3
          · have c4 : ((i : Int) < (xs.length : Int) - 1) = False := eq_false c3
            have c5 : True := trivial
            rw [zEv_round hc]
            simp (config := {contextual := true, maxSteps := 10000000, implicitDefEqProofs := false}) (disch := first | (and_intros <;> omega -splitDisjunctions) | (simp only [List.length_set, List.length_append, List.length_cons, List.length_nil]; and_intros <;> omega -splitDisjunctions) | fail) only [g0, g1, g2, g3, g4, g5, g6, t1, t3, t4, c4, c5, e1, bsz, Tryd.f110, go_sem, ↓reduceIte, Nat.reduceEqDiff, Nat.reduceAdd, Nat.reduceMul, Nat.reduceLT, Nat.reduceLeDiff, reduceCtorEq, Int.reduceNe, Int.reduceEq, Int.reduceLT, Int.reduceLE, Int.reduceAdd, Int.reduceSub, Int.reduceMul, Int.reduceNeg, Int.reduceToNat, UInt8.reduceToNat, natLit, ty3, ty4, ty9, ty90, ty119]
            exact ih (i + 1) 0 ((i : Int) + 1) 0 _ _ _ _ _ _ _ _ _ _ (by omega) (by omega) (by omega) (by omega) (by omega) (hA.trans Hx.app) (by simp only [ByteArray.size_append, brk_size, sz_e, sz_1] at hb ⊢; omega) hf3
        · have t3 : ((w : Int) > 0) = False := eq_false (by omega)
          have t4 : (0 < (w : Int)) = False := eq_false (by omega)
          cases g with
          | true =>
            have hf3 := hf2 out (by rw [if_neg hw, if_neg (by decide)])
            rcases c3 with c3 | ⟨rfl, rfl⟩ | ⟨rfl, rfl, c3⟩
            · have c4 : (xt = ⟨#[]⟩) = False := eq_false c3
              have c5 : True := trivial
              rw [zEv_round hc]
              simp (config := {contextual := true, maxSteps := 10000000, implicitDefEqProofs := false}) (disch := first | (and_intros <;> omega -splitDisjunctions) | (simp only [List.length_set, List.length_append, List.length_cons, List.length_nil]; and_intros <;> omega -splitDisjunctions) | fail) only [g0, g1, g2, g3, g4, g5, g6, t1, t3, t4, c4, c5, Tryd.f110, go_sem, ↓reduceIte, Nat.reduceEqDiff, Nat.reduceAdd, Nat.reduceMul, Nat.reduceLT, Nat.reduceLeDiff, reduceCtorEq, Int.reduceNe, Int.reduceEq, Int.reduceLT, Int.reduceLE, Int.reduceAdd, Int.reduceSub, Int.reduceMul, Int.reduceNeg, Int.reduceToNat, UInt8.reduceToNat, natLit, ty3, ty4, ty9, ty90, ty119]
              exact ih (i + 1) 0 ((i : Int) + 1) 0 _ _ _ _ _ _ _ _ _ _ (by omega) (by omega) (by omega) (by omega) (by omega) (hA.trans Hx.app) (by simp only [ByteArray.size_append, brk_size, sz_e, sz_1] at hb ⊢; omega) hf3
            · have c4 : True := trivial
              have c5 : True := trivial
              rw [zEv_round hc]
              simp (config := {contextual := true, maxSteps := 10000000, implicitDefEqProofs := false}) (disch := first | (and_intros <;> omega -splitDisjunctions) | (simp only [List.length_set, List.length_append, List.length_cons, List.length_nil]; and_intros <;> omega -splitDisjunctions) | fail) only [g0, g1, g2, g3, g4, g5, g6, t1, t3, t4, c4, c5, Tryd.f110, go_sem, ↓reduceIte, Nat.reduceEqDiff, Nat.reduceAdd, Nat.reduceMul, Nat.reduceLT, Nat.reduceLeDiff, reduceCtorEq, Int.reduceNe, Int.reduceEq, Int.reduceLT, Int.reduceLE, Int.reduceAdd, Int.reduceSub, Int.reduceMul, Int.reduceNeg, Int.reduceToNat, UInt8.reduceToNat, natLit, ty3, ty4, ty9, ty90, ty119]
              exact ih (i + 1) 0 ((i : Int) + 1) 0 _ _ _ _ _ _ _ _ _ _ (by omega) (by omega) (by omega) (by omega) (by omega) (hA.trans Hx.app) (by simp only [ByteArray.size_append, brk_size, sz_e, sz_1] at hb ⊢; omega) hf3
            · have c4 : ((i : Int) < (xs.length : Int) - 1) = False := eq_false c3
              have c5 : True := trivial
              rw [zEv_round hc]
              simp (config := {contextual := true, maxSteps := 10000000, implicitDefEqProofs := false}) (disch := first | (and_intros <;> omega -splitDisjunctions) | (simp only [List.length_set, List.length_append, List.length_cons, List.length_nil]; and_intros <;> omega -splitDisjunctions) | fail) only [g0, g1, g2, g3, g4, g5, g6, t1, t3, t4, c4, c5, Tryd.f110, go_sem, ↓reduceIte, Nat.reduceEqDiff, Nat.reduceAdd, Nat.reduceMul, Nat.reduceLT, Nat.reduceLeDiff, reduceCtorEq, Int.reduceNe, Int.reduceEq, Int.reduceLT, Int.reduceLE, Int.reduceAdd, Int.reduceSub, Int.reduceMul, Int.reduceNeg, Int.reduceToNat, UInt8.reduceToNat, natLit, ty3, ty4, ty9, ty90, ty119]
              exact ih (i + 1) 0 ((i : Int) + 1) 0 _ _ _ _ _ _ _ _ _ _ (by omega) (by omega) (by omega) (by omega) (by omega) (hA.trans Hx.app) (by simp only [ByteArray.size_append, brk_size, sz_e, sz_1] at hb ⊢; omega) hf3
          | false =>
            have hf3 := hf2 (out ++ ⟨#[32]⟩) (by rw [if_neg hw, if_pos rfl])
            rcases c3 with c3 | ⟨rfl, rfl⟩ | ⟨rfl, rfl, c3⟩
            · have c4 : (xt = ⟨#[]⟩) = False := eq_false c3
              have c5 : True := trivial
              rw [zEv_round hc]
              simp (config := {contextual := true, maxSteps := 10000000, implicitDefEqProofs := false}) (disch := first | (and_intros <;> omega -splitDisjunctions) | (simp only [List.length_set, List.length_append, List.length_cons, List.length_nil]; and_intros <;> omega -splitDisjunctions) | fail) only [g0, g1, g2, g3, g4, g5, g6, t1, t3, t4, c4, c5, Tryd.f110, go_sem, ↓reduceIte, Nat.reduceEqDiff, Nat.reduceAdd, Nat.reduceMul, Nat.reduceLT, Nat.reduceLeDiff, reduceCtorEq, Int.reduceNe, Int.reduceEq, Int.reduceLT, Int.reduceLE, Int.reduceAdd, Int.reduceSub, Int.reduceMul, Int.reduceNeg, Int.reduceToNat, UInt8.reduceToNat, natLit, ty3, ty4, ty9, ty90, ty119]
              exact ih (i + 1) 0 ((i : Int) + 1) 0 _ _ _ _ _ _ _ _ _ _ (by omega) (by omega) (by omega) (by omega) (by omega) (hA.trans Hx.app) (by simp only [ByteArray.size_append, brk_size, sz_e, sz_1] at hb ⊢; omega) hf3
            · have c4 : True := trivial
              have c5 : True := trivial
              rw [zEv_round hc]
              simp (config := {contextual := true, maxSteps := 10000000, implicitDefEqProofs := false}) (disch := first | (and_intros <;> omega -splitDisjunctions) | (simp only [List.length_set, List.length_append, List.length_cons, List.length_nil]; and_intros <;> omega -splitDisjunctions) | fail) only [g0, g1, g2, g3, g4, g5, g6, t1, t3, t4, c4, c5, Tryd.f110, go_sem, ↓reduceIte, Nat.reduceEqDiff, Nat.reduceAdd, Nat.reduceMul, Nat.reduceLT, Nat.reduceLeDiff, reduceCtorEq, Int.reduceNe, Int.reduceEq, Int.reduceLT, Int.reduceLE, Int.reduceAdd, Int.reduceSub, Int.reduceMul, Int.reduceNeg, Int.reduceToNat, UInt8.reduceToNat, natLit, ty3, ty4, ty9, ty90, ty119]
              exact ih (i + 1) 0 ((i : Int) + 1) 0 _ _ _ _ _ _ _ _ _ _ (by omega) (by omega) (by omega) (by omega) (by omega) (hA.trans Hx.app) (by simp only [ByteArray.size_append, brk_size, sz_e, sz_1] at hb ⊢; omega) hf3
            · have c4 : ((i : Int) < (xs.length : Int) - 1) = False := eq_false c3
              have c5 : True := trivial
              rw [zEv_round hc]
              simp (config := {contextual := true, maxSteps := 10000000, implicitDefEqProofs := false}) (disch := first | (and_intros <;> omega -splitDisjunctions) | (simp only [List.length_set, List.length_append, List.length_cons, List.length_nil]; and_intros <;> omega -splitDisjunctions) | fail) only [g0, g1, g2, g3, g4, g5, g6, t1, t3, t4, c4, c5, Tryd.f110, go_sem, ↓reduceIte, Nat.reduceEqDiff, Nat.reduceAdd, Nat.reduceMul, Nat.reduceLT, Nat.reduceLeDiff, reduceCtorEq, Int.reduceNe, Int.reduceEq, Int.reduceLT, Int.reduceLE, Int.reduceAdd, Int.reduceSub, Int.reduceMul, Int.reduceNeg, Int.reduceToNat, UInt8.reduceToNat, natLit, ty3, ty4, ty9, ty90, ty119]
              exact ih (i + 1) 0 ((i : Int) + 1) 0 _ _ _ _ _ _ _ _ _ _ (by omega) (by omega) (by omega) (by omega) (by omega) (hA.trans Hx.app) (by simp only [ByteArray.size_append, brk_size, sz_e, sz_1] at hb ⊢; omega) hf3
  refine key (xs.length + 1) 1 0 1 0 _ _ _ _ _ _ _ _ _ _ (by omega) (by omega) (by omega) (by omega) (by omega) (Hx.refl _) ?_ ?_
  · cases xs with
    | nil => exact absurd rfl h0
    | cons x r => rw [szP_cons]; show x.1.size + 0 + szP r ≤ _; omega
  · cases xs with
    | nil => exact absurd rfl h0
    | cons x r => rfl
end Go.Proofs.YtcbjmggbbnpbpaaDoor.Lg
