/- Nested: the program's function. No condition. -/
import Derived.Test.YtcbjmggbbnpbpaaDoorCNst2
namespace Go.Proofs.YtcbjmggbbnpbpaaDoor.Lg
set_option linter.unusedSimpArgs false
set_option linter.unusedVariables false
set_option maxRecDepth 100000
set_option maxHeartbeats 40000000
open Go.Proofs.YtcbjmggbbnpbpaaDoor

def evZ : Ev := ⟨0, 0, false, ⟨#[]⟩, ⟨#[]⟩, ⟨#[]⟩, 0, 0⟩
def goN : NS → List Ev → Bool
  | _, [] => false
  | s, e :: r => if ¬ EvOk e then false else if e.kind = 10 then r.isEmpty else if e.kind = 9 then (r.isEmpty && decide (s.doc = 0)) else match stepN s e.kind with | none => false | some t => goN t r
def nestedM : List Ev → Bool
  | [] => false
  | e :: r => decide (EvOk e) && decide (e.kind = 1) && goN ⟨0, []⟩ r
/-- counts stay small -/
def Few (n : Nat) (s : NS) : Prop := s.st.length ≤ n ∧ ∀ x ∈ s.st, 0 ≤ x.2 ∧ x.2 ≤ n
theorem nodeN_few {s t : NS} {n : Nat} (h : Few n s) (hs : nodeN s = some t) : Few (n + 1) t := by
  have hl := nodeN_len hs
  unfold nodeN at hs
  by_cases h0 : s.st = []
  · rw [if_pos h0] at hs
    by_cases h1 : s.doc = 1
    · rw [if_pos h1] at hs; cases hs; exact ⟨Nat.zero_le _, fun x hx => by cases hx⟩
    · rw [if_neg h1] at hs; cases hs
  · rw [if_neg h0] at hs
    cases hs
    refine ⟨by rw [hl]; have := h.1; omega, fun x hx => ?_⟩
    rcases List.mem_or_eq_of_mem_set hx with hx | hx
    · have := h.2 x hx; omega
    · have := h.2 _ (top_mem h0); subst hx; simp only; omega
theorem stepN_few {s t : NS} {n : Nat} {k : Int} (h : Few n s) (hs : stepN s k = some t) : Few (n + 1) t := by
  have up : ∀ d, Few (n + 1) ⟨d, s.st⟩ := fun d => ⟨Nat.le_succ_of_le h.1, fun x hx => by have := h.2 x hx; omega⟩
  unfold stepN at hs
  by_cases k2 : k = 2
  · rw [if_pos k2] at hs
    by_cases hd : s.doc = 0
    · rw [if_pos hd] at hs; cases hs; exact up _
    · rw [if_neg hd] at hs; cases hs
  rw [if_neg k2] at hs
  by_cases k5 : k = 5 ∨ k = 6
  · rw [if_pos k5] at hs; exact nodeN_few h hs
  rw [if_neg k5] at hs
  by_cases k3 : k = 3 ∨ k = 4
  · rw [if_pos k3] at hs
    cases hn : nodeN s with
    | none => rw [hn] at hs; cases hs
    | some u =>
      rw [hn] at hs
      cases hs
      have hu := nodeN_few h hn
      have hl := nodeN_len hn
      refine ⟨by simp only [List.length_append, List.length_singleton, hl]; have := h.1; omega, fun x hx => ?_⟩
      rcases List.mem_append.1 hx with hx | hx
      · exact hu.2 x hx
      · rw [List.mem_singleton.1 hx]; simp only; omega
  rw [if_neg k3] at hs
  by_cases k7 : k = 7
  · rw [if_pos k7] at hs
    by_cases hc : s.st = [] ∨ (s.top.1 = 4 ∧ s.top.2 % 2 ≠ 0)
    · rw [if_pos hc] at hs; cases hs
    · rw [if_neg hc] at hs; cases hs
      exact ⟨by rw [List.length_dropLast]; have := h.1; omega, fun x hx => by have := h.2 x (List.dropLast_subset _ hx); omega⟩
  rw [if_neg k7] at hs
  by_cases k8 : k = 8
  · rw [if_pos k8] at hs
    by_cases hd : s.doc = 2 ∧ s.st = []
    · rw [if_pos hd] at hs; cases hs; exact up _
    · rw [if_neg hd] at hs; cases hs
  · rw [if_neg k8] at hs; cases hs

def capOk : V → Prop
  | .sl _ _ _ n c => n ≤ c
  | _ => True
theorem run_imNested (v : V) (es : List Ev) (fl : Nat) (H : LH) (h : At H evC 8 v es) (hes : ∀ e ∈ es, evCFit e) (hl : es.length ≤ 1048576) (hcap : capOk v) :
    run 120 [v] fl H = some (.bool (nestedM es), H) := by
  have e1 := fun e (he : evCFit e) fl H => run_imEventOk e fl H he
  match es, h, hes, hl with
  | [], h, hes, hl =>
    have f1 := h.isTup; have f2 := h.len; have f3 := h.lenOk ty39; have f0 := h.one
    have f4 := fun hp => h.con hp
    have f5 := h.idx (T := ty Tryd.prog) (t := 39) (by simp only [elemI, sizeO, ty3, ty4, ty9, ty39, ty65])
    have f6 := h.loadD evC_len evZ
    unfold run at *
    rw [Run_z Tryd.func120 rfl (by rfl : ok 120 = true) (by rfl : cfg.keep 120 = [0, 2, 3, 4, 5, 6, 23, 27, 28, 29, 30, 39, 43, 48, 60]) (by rfl : cfg.mode 120 = .pure) (by rfl : cfg.ord 120 = [])]
    simp (config := {contextual := true, maxSteps := 10000000, implicitDefEqProofs := false}) (disch := first | (and_intros <;> omega -splitDisjunctions) | (simp only [List.length_set, List.length_append, List.length_cons, List.length_nil]; and_intros <;> omega -splitDisjunctions) | fail) only [f0, f1, f2, f3, f4, f5, f6, List.length_nil, Tryd.f120, go_sem, ↓reduceIte, Nat.reduceEqDiff, Nat.reduceAdd, Nat.reduceMul, Nat.reduceLT, Nat.reduceLeDiff, reduceCtorEq, Int.reduceNe, Int.reduceEq, Int.reduceLT, Int.reduceLE, Int.reduceAdd, Int.reduceSub, Int.reduceMul, Int.reduceNeg, Int.reduceToNat, UInt8.reduceToNat, natLit, ty3, ty4, ty9, ty39, ty65, ty67, ty148]
    simp only [nestedM]
  | [e], h, hes, hl =>
    have f1 := h.isTup; have f2 := h.len; have f3 := h.lenOk ty39; have f0 := h.one
    have f4 := fun hp => h.con hp
    have f5 := h.idx (T := ty Tryd.prog) (t := 39) (by simp only [elemI, sizeO, ty3, ty4, ty9, ty39, ty65])
    have f6 := h.loadD evC_len evZ
    unfold run at *
    rw [Run_z Tryd.func120 rfl (by rfl : ok 120 = true) (by rfl : cfg.keep 120 = [0, 2, 3, 4, 5, 6, 23, 27, 28, 29, 30, 39, 43, 48, 60]) (by rfl : cfg.mode 120 = .pure) (by rfl : cfg.ord 120 = [])]
    simp (config := {contextual := true, maxSteps := 10000000, implicitDefEqProofs := false}) (disch := first | (and_intros <;> omega -splitDisjunctions) | (simp only [List.length_set, List.length_append, List.length_cons, List.length_nil]; and_intros <;> omega -splitDisjunctions) | fail) only [f0, f1, f2, f3, f4, f5, f6, List.length_singleton, Tryd.f120, go_sem, ↓reduceIte, Nat.reduceEqDiff, Nat.reduceAdd, Nat.reduceMul, Nat.reduceLT, Nat.reduceLeDiff, reduceCtorEq, Int.reduceNe, Int.reduceEq, Int.reduceLT, Int.reduceLE, Int.reduceAdd, Int.reduceSub, Int.reduceMul, Int.reduceNeg, Int.reduceToNat, UInt8.reduceToNat, natLit, ty3, ty4, ty9, ty39, ty65, ty67, ty148]
    simp only [nestedM, goN, Bool.and_false]
  | e :: e' :: r, h, hes, hl =>
    rcases h with ⟨h0, _⟩ | ⟨vb, o, cc, l, rfl, h2, h3, h4⟩
    · cases h0
    have hA : At H evC 8 (.sl vb o 8 (e :: e' :: r).length cc) (e :: e' :: r) := .inr ⟨vb, o, cc, l, rfl, h2, h3, h4⟩
    have hT : At H evC 8 (.sl vb (o + 8) 8 (r.length + 1) (cc - 1)) (e' :: r) := by
      refine .inr ⟨vb, o + 8, cc - 1, l, rfl, h2, ?_, ?_⟩
      · simp only [List.length_cons] at h3 ⊢; omega
      · have := congrArg (List.drop 8) h4
        rw [List.drop_take, List.drop_drop] at this
        simp only [List.length_cons] at this ⊢
        rw [show (r.length + 1 + 1) * 8 - 8 = (r.length + 1) * 8 by omega] at this
        rw [this]
        rfl
    have f1 := hA.isTup; have f2 := hA.len; have f3 := hA.lenOk ty39; have f0 := hA.one
    have f4 := fun hp => hA.con hp
    have f5 := hA.idx (T := ty Tryd.prog) (t := 39) (by simp only [elemI, sizeO, ty3, ty4, ty9, ty39, ty65])
    have f6 := hA.loadD evC_len evZ
    have f4 := f4 (by simp)
    have q0 := fun n K => hA.loadD0 evC_len evZ (fun e => .int .i64 e.kind) (fun _ => rfl) 0 (by simp) n K
    have q1 := fun K => f6 0 (by simp) K
    simp only [Nat.zero_mul, Nat.add_zero] at q0 q1
    have ee := hes e (by simp)
    have e2 := e1 e ee
    simp only [List.length_cons] at *
    have g0 : (e :: e' :: r).getD 0 evZ = e := rfl
    have t0 : (((r.length + 1 + 1 : Nat) : Int) < 2) = False := eq_false (by omega)
    by_cases hk : e.kind = 1
    rotate_left
    · have hn : nestedM (e :: e' :: r) = false := by simp only [nestedM, hk, decide_false, Bool.and_false, Bool.false_and]
      rw [hn]
      obtain ⟨kind, style, flag, text, anchor, tag, place, code⟩ := e
      unfold run evC at *
      simp only at hk
      rw [Run_z Tryd.func120 rfl (by rfl : ok 120 = true) (by rfl : cfg.keep 120 = [0, 2, 3, 4, 5, 6, 23, 27, 28, 29, 30, 39, 43, 48, 60]) (by rfl : cfg.mode 120 = .pure) (by rfl : cfg.ord 120 = [])]
      simp (config := {contextual := true, maxSteps := 10000000, implicitDefEqProofs := false}) (disch := first | (and_intros <;> omega -splitDisjunctions) | (simp only [List.length_set, List.length_append, List.length_cons, List.length_nil]; and_intros <;> omega -splitDisjunctions) | fail) only [f0, f1, f2, f3, f4, f5, f6, g0, q0, q1, t0, hk, Tryd.f120, go_sem, ↓reduceIte, Nat.reduceEqDiff, Nat.reduceAdd, Nat.reduceMul, Nat.reduceLT, Nat.reduceLeDiff, reduceCtorEq, Int.reduceNe, Int.reduceEq, Int.reduceLT, Int.reduceLE, Int.reduceAdd, Int.reduceSub, Int.reduceMul, Int.reduceNeg, Int.reduceToNat, UInt8.reduceToNat, natLit, ty3, ty4, ty9, ty39, ty65, ty67, ty148]
    by_cases ho : EvOk e
    rotate_left
    · have hn : nestedM (e :: e' :: r) = false := by simp only [nestedM, ho, decide_false, Bool.false_and]
      rw [hn]
      have e2 : ∀ fl H, run 138 [.agg (evC e)] fl H = some (.bool false, H) := fun fl H => by rw [e2, decide_eq_false ho]
      obtain ⟨kind, style, flag, text, anchor, tag, place, code⟩ := e
      simp only at hk
      subst hk
      unfold run evC at *
      rw [Run_z Tryd.func120 rfl (by rfl : ok 120 = true) (by rfl : cfg.keep 120 = [0, 2, 3, 4, 5, 6, 23, 27, 28, 29, 30, 39, 43, 48, 60]) (by rfl : cfg.mode 120 = .pure) (by rfl : cfg.ord 120 = [])]
      simp (config := {contextual := true, maxSteps := 10000000, implicitDefEqProofs := false}) (disch := first | (and_intros <;> omega -splitDisjunctions) | (simp only [List.length_set, List.length_append, List.length_cons, List.length_nil]; and_intros <;> omega -splitDisjunctions) | fail) only [f0, f1, f2, f3, f4, f5, f6, g0, q0, q1, t0, e2, Tryd.f120, go_sem, ↓reduceIte, Nat.reduceEqDiff, Nat.reduceAdd, Nat.reduceMul, Nat.reduceLT, Nat.reduceLeDiff, reduceCtorEq, Int.reduceNe, Int.reduceEq, Int.reduceLT, Int.reduceLE, Int.reduceAdd, Int.reduceSub, Int.reduceMul, Int.reduceNeg, Int.reduceToNat, UInt8.reduceToNat, natLit, ty3, ty4, ty9, ty39, ty65, ty67, ty148]
    have hn : nestedM (e :: e' :: r) = goN ⟨0, []⟩ (e' :: r) := by simp only [nestedM, ho, hk, decide_true, Bool.true_and]
    rw [hn]
    have e2 : ∀ fl H, run 138 [.agg (evC e)] fl H = some (.bool true, H) := fun fl H => by rw [e2, decide_eq_true ho]
    obtain ⟨kind, style, flag, text, anchor, tag, place, code⟩ := e
    simp only at hk
    subst hk
    unfold run at *
    rw [Run_z Tryd.func120 rfl (by rfl : ok 120 = true) (by rfl : cfg.keep 120 = [0, 2, 3, 4, 5, 6, 23, 27, 28, 29, 30, 39, 43, 48, 60]) (by rfl : cfg.mode 120 = .pure) (by rfl : cfg.ord 120 = [])]
    unfold evC at e2 q1
    have hc1 : r.length + 1 + 1 ≤ cc := by simpa [capOk] using hcap
    have t5 : (1 : Int) ≤ cc := by omega
    simp (config := {contextual := true, maxSteps := 10000000, implicitDefEqProofs := false}) (disch := first | (and_intros <;> omega -splitDisjunctions) | (simp only [List.length_set, List.length_append, List.length_cons, List.length_nil]; and_intros <;> omega -splitDisjunctions) | fail) only [f0, f1, f2, f3, f4, f5, f6, g0, q0, q1, t0, t5, e2, Tryd.f120, go_sem, ↓reduceIte, Nat.reduceEqDiff, Nat.reduceAdd, Nat.reduceMul, Nat.reduceLT, Nat.reduceLeDiff, reduceCtorEq, Int.reduceNe, Int.reduceEq, Int.reduceLT, Int.reduceLE, Int.reduceAdd, Int.reduceSub, Int.reduceMul, Int.reduceNeg, Int.reduceToNat, UInt8.reduceToNat, natLit, ty3, ty4, ty9, ty39, ty65, ty67, ty148]
    rw [show r.length + 1 + 1 - 1 = r.length + 1 by omega]
    have hrs : ∀ x ∈ e' :: r, evCFit x := fun x hx => hes x (List.mem_cons_of_mem _ hx)
    have hlr : (e' :: r).length = r.length + 1 := rfl
    have hw : ((r.length + 1 + 1 : Nat) : Int) = ((r.length + 1 : Nat) : Int) + 1 := by omega
    rw [← hlr] at hT hw hl ⊢
    have hsl := hT.isTup
    generalize V.sl vb (o + 8) 8 (e' :: r).length (cc - 1) = u at *
    clear q0 q1 e2 g0 ho hA h3 h4 hn
    generalize e' :: r = rs at *
    refine at_loopE fun c R hc hR => ?_
    have key : ∀ (m : Nat) (j : Nat) (jj : Int) (s : NS) (B : LH) (x2 x4 x5 x6 x23 x30 x39 x43 x48 x60 : Option V), rs.length - j < m → jj = j → j ≤ rs.length → Hx H B → H.length + 1 ≤ B.length → NAt (H.length + 1) B H.length s → Few j s →
        zEv (leaveX (mkR Tryd.prog cfg ok [0, 2, 3, 4, 5, 6, 23, 27, 28, 29, 30, 39, 43, 48, 60] H.length) .pure H [ResultVar.tmp 2]) (mkR Tryd.prog cfg ok [0, 2, 3, 4, 5, 6, 23, 27, 28, 29, 30, 39, 43, 48, 60] H.length) (K.code (Code.loop c) :: K.blk 0 :: R) .nrm [some (.sl vb o 8 (rs.length + 1) cc), x2, some (.ptr H.length 0), x4, x5, x6, x23, some u, some (.int .i64 rs.length), some (.int .i64 jj), x30, x39, x43, x48, x60] (B) = some (.bool (goN s (rs.drop j)), H) := by
      intro m
      induction m with
      | zero => intro j jj s B x2 x4 x5 x6 x23 x30 x39 x43 x48 x60 hm; omega
      | succ m ih =>
        intro j jj s B x2 x4 x5 x6 x23 x30 x39 x43 x48 x60 hm hj hle hxB hlB hN hF
        subst hj
        by_cases hlt : j < rs.length
        · have t1 : ((j : Int) < rs.length) = True := eq_true (by omega)
          have rB := hT.ext hxB
          have k1 := rB.isTup; have k2 := rB.len; have k3 := rB.lenOk ty39; have k0 := rB.one
          have k4 := fun hp => rB.con hp
          have k5 := rB.idx (T := ty Tryd.prog) (t := 39) (by simp only [elemI, sizeO, ty3, ty4, ty9, ty39, ty65])
          have k6 := rB.loadD evC_len evZ
          have k6 := k6 j hlt
          have hd := List.drop_eq_getElem_cons hlt
          rw [← getD_of hlt evZ] at hd
          have hfe := hrs _ (show rs.getD j evZ ∈ rs by rw [getD_of hlt]; exact List.getElem_mem _)
          have e2 := e1 _ hfe
          have hev := run_event (fl := H.length) (rs.getD j evZ) (hN.ext (L := [.cells (evC (rs.getD j evZ))])) (by omega) (fun x hx => by have := hF.2 x hx; omega) (by have := hF.1; omega) (by omega) (by rw [List.length_append]; omega)
          rw [hd]
          unfold goN
          by_cases ho : EvOk (rs.getD j evZ)
          rotate_left
          · rw [if_pos ho]
            simp only [decide_eq_false ho] at e2
            generalize rs.getD j evZ = ev at *
            obtain ⟨kind, style, flag, text, anchor, tag, place, code⟩ := ev
            unfold run evC at *
            rw [zEv_round hc, ← hR]
            simp (config := {contextual := true, maxSteps := 10000000, implicitDefEqProofs := false}) (disch := first | (and_intros <;> omega -splitDisjunctions) | (simp only [List.length_set, List.length_append, List.length_cons, List.length_nil]; and_intros <;> omega -splitDisjunctions) | fail) only [t1, k0, k1, k2, k3, k4, k5, k6, e2, Tryd.f120, go_sem, ↓reduceIte, Nat.reduceEqDiff, Nat.reduceAdd, Nat.reduceMul, Nat.reduceLT, Nat.reduceLeDiff, reduceCtorEq, Int.reduceNe, Int.reduceEq, Int.reduceLT, Int.reduceLE, Int.reduceAdd, Int.reduceSub, Int.reduceMul, Int.reduceNeg, Int.reduceToNat, UInt8.reduceToNat, natLit, ty3, ty4, ty9, ty39, ty65, ty67, ty148]
          rw [if_neg (by simpa using ho)]
          simp only [decide_eq_true ho] at e2
          have hem : (rs.drop (j + 1)).isEmpty = decide ((j : Int) + 2 = ((rs.length + 1 : Nat) : Int)) := by
            rw [Bool.eq_iff_iff, List.isEmpty_iff, List.drop_eq_nil_iff, decide_eq_true_iff]; omega
          rw [hem]
          obtain ⟨kv, mv, hcb, hK⟩ := hN.kinds
          have hcB : ∀ L, LH.cellsAt (B ++ L) H.length = some [.int .i64 s.doc, kv, mv] := fun L => cellsAt_left hcb
          have hih : ∀ t B', stepN s (rs.getD j evZ).kind = some t → Fr (H.length + 1) [H.length] (B ++ [.cells (evC (rs.getD j evZ))]) B' → Hx H B' ∧ H.length + 1 ≤ B'.length ∧ Few (j + 1) t := fun t B' hs hf =>
            ⟨hf.hx (hxB.trans Hx.app) (by omega) (fun x hx => by rw [List.mem_singleton.1 hx]; exact Nat.le_refl _), by have := hf.len; rw [List.length_append] at this; omega, stepN_few hF hs⟩
          generalize hev2 : rs.getD j evZ = ev at *
          obtain ⟨kind, style, flag, text, anchor, tag, place, code⟩ := ev
          simp only at hih hev ⊢
          by_cases k10 : kind = 10
          · rw [if_pos k10]
            subst k10
            unfold run evC at *
            rw [zEv_round hc, ← hR]
            simp (config := {contextual := true, maxSteps := 10000000, implicitDefEqProofs := false}) (disch := first | (and_intros <;> omega -splitDisjunctions) | (simp only [List.length_set, List.length_append, List.length_cons, List.length_nil]; and_intros <;> omega -splitDisjunctions) | fail) only [t1, k0, k1, k2, k3, k4, k5, k6, e2, Tryd.f120, go_sem, ↓reduceIte, Nat.reduceEqDiff, Nat.reduceAdd, Nat.reduceMul, Nat.reduceLT, Nat.reduceLeDiff, reduceCtorEq, Int.reduceNe, Int.reduceEq, Int.reduceLT, Int.reduceLE, Int.reduceAdd, Int.reduceSub, Int.reduceMul, Int.reduceNeg, Int.reduceToNat, UInt8.reduceToNat, natLit, ty3, ty4, ty9, ty39, ty65, ty67, ty148]
          rw [if_neg k10]
          by_cases k9 : kind = 9
          · rw [if_pos k9]
            subst k9
            unfold run evC at *
            rw [zEv_round hc, ← hR]
            simp (config := {contextual := true, maxSteps := 10000000, implicitDefEqProofs := false}) (disch := first | (and_intros <;> omega -splitDisjunctions) | (simp only [List.length_set, List.length_append, List.length_cons, List.length_nil]; and_intros <;> omega -splitDisjunctions) | fail) only [t1, k0, k1, k2, k3, k4, k5, k6, e2, hcB, Tryd.f120, go_sem, ↓reduceIte, Nat.reduceEqDiff, Nat.reduceAdd, Nat.reduceMul, Nat.reduceLT, Nat.reduceLeDiff, reduceCtorEq, Int.reduceNe, Int.reduceEq, Int.reduceLT, Int.reduceLE, Int.reduceAdd, Int.reduceSub, Int.reduceMul, Int.reduceNeg, Int.reduceToNat, UInt8.reduceToNat, natLit, ty3, ty4, ty9, ty39, ty65, ty67, ty148]
          rw [if_neg k9]
          obtain ⟨w, B', e3, hw⟩ := hev
          cases hs : stepN s kind with
          | none =>
            rw [hs] at hw
            simp only at hw ⊢
            subst hw
            unfold run evC at *
            rw [zEv_round hc, ← hR]
            simp (config := {contextual := true, maxSteps := 10000000, implicitDefEqProofs := false}) (disch := first | (and_intros <;> omega -splitDisjunctions) | (simp only [List.length_set, List.length_append, List.length_cons, List.length_nil]; and_intros <;> omega -splitDisjunctions) | fail) only [t1, k0, k1, k2, k3, k4, k5, k6, e2, e3, k9, k10, Tryd.f120, go_sem, ↓reduceIte, Nat.reduceEqDiff, Nat.reduceAdd, Nat.reduceMul, Nat.reduceLT, Nat.reduceLeDiff, reduceCtorEq, Int.reduceNe, Int.reduceEq, Int.reduceLT, Int.reduceLE, Int.reduceAdd, Int.reduceSub, Int.reduceMul, Int.reduceNeg, Int.reduceToNat, UInt8.reduceToNat, natLit, ty3, ty4, ty9, ty39, ty65, ty67, ty148]
          | some t =>
            rw [hs] at hw
            simp only at hw ⊢
            obtain ⟨rfl, hfr, hNt⟩ := hw
            have hi := hih t B' hs hfr
            unfold run evC at *
            rw [zEv_round hc, ← hR]
            simp (config := {contextual := true, maxSteps := 10000000, implicitDefEqProofs := false}) (disch := first | (and_intros <;> omega -splitDisjunctions) | (simp only [List.length_set, List.length_append, List.length_cons, List.length_nil]; and_intros <;> omega -splitDisjunctions) | fail) only [t1, k0, k1, k2, k3, k4, k5, k6, e2, e3, k9, k10, Tryd.f120, go_sem, ↓reduceIte, Nat.reduceEqDiff, Nat.reduceAdd, Nat.reduceMul, Nat.reduceLT, Nat.reduceLeDiff, reduceCtorEq, Int.reduceNe, Int.reduceEq, Int.reduceLT, Int.reduceLE, Int.reduceAdd, Int.reduceSub, Int.reduceMul, Int.reduceNeg, Int.reduceToNat, UInt8.reduceToNat, natLit, ty3, ty4, ty9, ty39, ty65, ty67, ty148]
            rw [hR]
            exact ih (j + 1) ((j : Int) + 1) t B' _ _ _ _ _ _ _ _ _ _ (by omega) (by omega) (by omega) hi.1 hi.2.1 hNt hi.2.2
        · have t1 : ((j : Int) < rs.length) = False := eq_false (by omega)
          rw [List.drop_of_length_le (by omega)]
          unfold goN
          rw [zEv_round hc, ← hR]
          simp (config := {contextual := true, maxSteps := 10000000, implicitDefEqProofs := false}) (disch := first | (and_intros <;> omega -splitDisjunctions) | (simp only [List.length_set, List.length_append, List.length_cons, List.length_nil]; and_intros <;> omega -splitDisjunctions) | fail) only [t1, Tryd.f120, go_sem, ↓reduceIte, Nat.reduceEqDiff, Nat.reduceAdd, Nat.reduceMul, Nat.reduceLT, Nat.reduceLeDiff, reduceCtorEq, Int.reduceNe, Int.reduceEq, Int.reduceLT, Int.reduceLE, Int.reduceAdd, Int.reduceSub, Int.reduceMul, Int.reduceNeg, Int.reduceToNat, UInt8.reduceToNat, natLit, ty3, ty4, ty9, ty39, ty65, ty67, ty148]
    exact key (rs.length + 1) 0 0 ⟨0, []⟩ _ _ _ _ _ _ _ _ _ _ _ (by omega) rfl (by omega) Hx.app (by simp) (.inl ⟨rfl, by rw [cellsAt_app0]; rfl⟩) ⟨Nat.le_refl _, fun x hx => by cases hx⟩
end Go.Proofs.YtcbjmggbbnpbpaaDoor.Lg
