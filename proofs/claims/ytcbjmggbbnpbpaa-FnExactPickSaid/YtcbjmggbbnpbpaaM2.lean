/- Contracts over the logical machine (Nst3 NsM NsM2 Nc1 Nc2 Nst4 Nst5 Nst6 Nst7). No condition. -/
import Derived.Test.YtcbjmggbbnpbpaaM1
namespace Go.Proofs.Ytcbjmggbbnpbpaa.Lg
set_option linter.unusedSimpArgs false
set_option linter.unusedVariables false
set_option maxRecDepth 100000
set_option maxHeartbeats 40000000
open Go.Proofs.Ytcbjmggbbnpbpaa

def evZ : Ev := ⟨0, 0, false, ⟨#[]⟩, ⟨#[]⟩, ⟨#[]⟩, 0, 0⟩
def goN : NS → List Ev → Bool
  | _, [] => false
  | s, e :: r => if ¬ EvOk e then false else if e.kind = 10 then r.isEmpty else if e.kind = 9 then (r.isEmpty && decide (s.doc = 0)) else match stepN s e.kind with | none => false | some t => goN t r
def nestedM : List Ev → Bool
  | [] => false
  | e :: r => decide (EvOk e) && decide (e.kind = 1) && goN ⟨0, []⟩ r
/-- counts stay small -/
def Few (n : Nat) (s : NS) : Prop := s.st.length ≤ n ∧ ∀ x ∈ s.st, 0 ≤ x.2 ∧ x.2 ≤ n
theorem nodeN_few {s t : NS} {n : Nat} (h : Few n s) (hs : nodeN s = some t) : Few (n + 1) t := by
  have hl := nodeN_len hs
  unfold nodeN at hs
  by_cases h0 : s.st = []
  · rw [if_pos h0] at hs
    by_cases h1 : s.doc = 1
    · rw [if_pos h1] at hs; cases hs; exact ⟨Nat.zero_le _, fun x hx => by cases hx⟩
    · rw [if_neg h1] at hs; cases hs
  · rw [if_neg h0] at hs
    cases hs
    refine ⟨by rw [hl]; have := h.1; omega, fun x hx => ?_⟩
    rcases List.mem_or_eq_of_mem_set hx with hx | hx
    · have := h.2 x hx; omega
    · have := h.2 _ (top_mem h0); subst hx; simp only; omega
theorem stepN_few {s t : NS} {n : Nat} {k : Int} (h : Few n s) (hs : stepN s k = some t) : Few (n + 1) t := by
  have up : ∀ d, Few (n + 1) ⟨d, s.st⟩ := fun d => ⟨Nat.le_succ_of_le h.1, fun x hx => by have := h.2 x hx; omega⟩
  unfold stepN at hs
  by_cases k2 : k = 2
  · rw [if_pos k2] at hs
    by_cases hd : s.doc = 0
    · rw [if_pos hd] at hs; cases hs; exact up _
    · rw [if_neg hd] at hs; cases hs
  rw [if_neg k2] at hs
  by_cases k5 : k = 5 ∨ k = 6
  · rw [if_pos k5] at hs; exact nodeN_few h hs
  rw [if_neg k5] at hs
  by_cases k3 : k = 3 ∨ k = 4
  · rw [if_pos k3] at hs
    cases hn : nodeN s with
    | none => rw [hn] at hs; cases hs
    | some u =>
      rw [hn] at hs
      cases hs
      have hu := nodeN_few h hn
      have hl := nodeN_len hn
      refine ⟨by simp only [List.length_append, List.length_singleton, hl]; have := h.1; omega, fun x hx => ?_⟩
      rcases List.mem_append.1 hx with hx | hx
      · exact hu.2 x hx
      · rw [List.mem_singleton.1 hx]; simp only; omega
  rw [if_neg k3] at hs
  by_cases k7 : k = 7
  · rw [if_pos k7] at hs
    by_cases hc : s.st = [] ∨ (s.top.1 = 4 ∧ s.top.2 % 2 ≠ 0)
    · rw [if_pos hc] at hs; cases hs
    · rw [if_neg hc] at hs; cases hs
      exact ⟨by rw [List.length_dropLast]; have := h.1; omega, fun x hx => by have := h.2 x (List.dropLast_subset _ hx); omega⟩
  rw [if_neg k7] at hs
  by_cases k8 : k = 8
  · rw [if_pos k8] at hs
    by_cases hd : s.doc = 2 ∧ s.st = []
    · rw [if_pos hd] at hs; cases hs; exact up _
    · rw [if_neg hd] at hs; cases hs
  · rw [if_neg k8] at hs; cases hs

def capOk : V → Prop
  | .sl _ _ _ n c => n ≤ c
  | _ => True
theorem run_imNested (v : V) (es : List Ev) (fl : Nat) (H : LH) (h : At H evC 8 v es) (hes : ∀ e ∈ es, evCFit e) (hl : es.length ≤ 1048576) (hcap : capOk v) :
    run 52 [v] fl H = some (.bool (nestedM es), H) := by
  have e1 := fun e (he : evCFit e) fl H => run_imEventOk e fl H he
  match es, h, hes, hl with
  | [], h, hes, hl =>
    have f1 := h.isTup; have f2 := h.len; have f3 := h.lenOk ty29; have f0 := h.one
    have f4 := fun hp => h.con hp
    have f5 := h.idx (T := ty Try.prog) (t := 29) (by simp only [elemI, sizeO, ty3, ty4, ty9, ty29, ty58])
    have f6 := h.loadD evC_len evZ
    unfold run at *
    rw [Run_z Try.func52 rfl (by rfl : ok 52 = true) (by rfl : cfg.keep 52 = [0, 2, 3, 4, 5, 6, 23, 27, 28, 29, 30, 39, 43, 48, 60]) (by rfl : cfg.mode 52 = .pure) (by rfl : cfg.ord 52 = [])]
    simp (config := {contextual := true, maxSteps := 10000000, implicitDefEqProofs := false}) (disch := first | (and_intros <;> omega -splitDisjunctions) | (simp only [List.length_set, List.length_append, List.length_cons, List.length_nil]; and_intros <;> omega -splitDisjunctions) | fail) only [f0, f1, f2, f3, f4, f5, f6, List.length_nil, Try.f52, go_sem, ↓reduceIte, Nat.reduceEqDiff, Nat.reduceAdd, Nat.reduceMul, Nat.reduceLT, Nat.reduceLeDiff, reduceCtorEq, Int.reduceNe, Int.reduceEq, Int.reduceLT, Int.reduceLE, Int.reduceAdd, Int.reduceSub, Int.reduceMul, Int.reduceNeg, Int.reduceToNat, UInt8.reduceToNat, natLit, ty3, ty4, ty9, ty29, ty55, ty58, ty106]
    simp only [nestedM]
  | [e], h, hes, hl =>
    have f1 := h.isTup; have f2 := h.len; have f3 := h.lenOk ty29; have f0 := h.one
    have f4 := fun hp => h.con hp
    have f5 := h.idx (T := ty Try.prog) (t := 29) (by simp only [elemI, sizeO, ty3, ty4, ty9, ty29, ty58])
    have f6 := h.loadD evC_len evZ
    unfold run at *
    rw [Run_z Try.func52 rfl (by rfl : ok 52 = true) (by rfl : cfg.keep 52 = [0, 2, 3, 4, 5, 6, 23, 27, 28, 29, 30, 39, 43, 48, 60]) (by rfl : cfg.mode 52 = .pure) (by rfl : cfg.ord 52 = [])]
    simp (config := {contextual := true, maxSteps := 10000000, implicitDefEqProofs := false}) (disch := first | (and_intros <;> omega -splitDisjunctions) | (simp only [List.length_set, List.length_append, List.length_cons, List.length_nil]; and_intros <;> omega -splitDisjunctions) | fail) only [f0, f1, f2, f3, f4, f5, f6, List.length_singleton, Try.f52, go_sem, ↓reduceIte, Nat.reduceEqDiff, Nat.reduceAdd, Nat.reduceMul, Nat.reduceLT, Nat.reduceLeDiff, reduceCtorEq, Int.reduceNe, Int.reduceEq, Int.reduceLT, Int.reduceLE, Int.reduceAdd, Int.reduceSub, Int.reduceMul, Int.reduceNeg, Int.reduceToNat, UInt8.reduceToNat, natLit, ty3, ty4, ty9, ty29, ty55, ty58, ty106]
    simp only [nestedM, goN, Bool.and_false]
  | e :: e' :: r, h, hes, hl =>
    rcases h with ⟨h0, _⟩ | ⟨vb, o, cc, l, rfl, h2, h3, h4⟩
    · cases h0
    have hA : At H evC 8 (.sl vb o 8 (e :: e' :: r).length cc) (e :: e' :: r) := .inr ⟨vb, o, cc, l, rfl, h2, h3, h4⟩
    have hT : At H evC 8 (.sl vb (o + 8) 8 (r.length + 1) (cc - 1)) (e' :: r) := by
      refine .inr ⟨vb, o + 8, cc - 1, l, rfl, h2, ?_, ?_⟩
      · simp only [List.length_cons] at h3 ⊢; omega
      · have := congrArg (List.drop 8) h4
        rw [List.drop_take, List.drop_drop] at this
        simp only [List.length_cons] at this ⊢
        rw [show (r.length + 1 + 1) * 8 - 8 = (r.length + 1) * 8 by omega] at this
        rw [this]
        rfl
    have f1 := hA.isTup; have f2 := hA.len; have f3 := hA.lenOk ty29; have f0 := hA.one
    have f4 := fun hp => hA.con hp
    have f5 := hA.idx (T := ty Try.prog) (t := 29) (by simp only [elemI, sizeO, ty3, ty4, ty9, ty29, ty58])
    have f6 := hA.loadD evC_len evZ
    have f4 := f4 (by simp)
    have q0 := fun n K => hA.loadD0 evC_len evZ (fun e => .int .i64 e.kind) (fun _ => rfl) 0 (by simp) n K
    have q1 := fun K => f6 0 (by simp) K
    simp only [Nat.zero_mul, Nat.add_zero] at q0 q1
    have ee := hes e (by simp)
    have e2 := e1 e ee
    simp only [List.length_cons] at *
    have g0 : (e :: e' :: r).getD 0 evZ = e := rfl
    have t0 : (((r.length + 1 + 1 : Nat) : Int) < 2) = False := eq_false (by omega)
    by_cases hk : e.kind = 1
    rotate_left
    · have hn : nestedM (e :: e' :: r) = false := by simp only [nestedM, hk, decide_false, Bool.and_false, Bool.false_and]
      rw [hn]
      obtain ⟨kind, style, flag, text, anchor, tag, place, code⟩ := e
      unfold run evC at *
      simp only at hk
      rw [Run_z Try.func52 rfl (by rfl : ok 52 = true) (by rfl : cfg.keep 52 = [0, 2, 3, 4, 5, 6, 23, 27, 28, 29, 30, 39, 43, 48, 60]) (by rfl : cfg.mode 52 = .pure) (by rfl : cfg.ord 52 = [])]
      simp (config := {contextual := true, maxSteps := 10000000, implicitDefEqProofs := false}) (disch := first | (and_intros <;> omega -splitDisjunctions) | (simp only [List.length_set, List.length_append, List.length_cons, List.length_nil]; and_intros <;> omega -splitDisjunctions) | fail) only [f0, f1, f2, f3, f4, f5, f6, g0, q0, q1, t0, hk, Try.f52, go_sem, ↓reduceIte, Nat.reduceEqDiff, Nat.reduceAdd, Nat.reduceMul, Nat.reduceLT, Nat.reduceLeDiff, reduceCtorEq, Int.reduceNe, Int.reduceEq, Int.reduceLT, Int.reduceLE, Int.reduceAdd, Int.reduceSub, Int.reduceMul, Int.reduceNeg, Int.reduceToNat, UInt8.reduceToNat, natLit, ty3, ty4, ty9, ty29, ty55, ty58, ty106]
    by_cases ho : EvOk e
    rotate_left
    · have hn : nestedM (e :: e' :: r) = false := by simp only [nestedM, ho, decide_false, Bool.false_and]
      rw [hn]
      have e2 : ∀ fl H, run 76 [.agg (evC e)] fl H = some (.bool false, H) := fun fl H => by rw [e2, decide_eq_false ho]
      obtain ⟨kind, style, flag, text, anchor, tag, place, code⟩ := e
      simp only at hk
      subst hk
      unfold run evC at *
      rw [Run_z Try.func52 rfl (by rfl : ok 52 = true) (by rfl : cfg.keep 52 = [0, 2, 3, 4, 5, 6, 23, 27, 28, 29, 30, 39, 43, 48, 60]) (by rfl : cfg.mode 52 = .pure) (by rfl : cfg.ord 52 = [])]
      simp (config := {contextual := true, maxSteps := 10000000, implicitDefEqProofs := false}) (disch := first | (and_intros <;> omega -splitDisjunctions) | (simp only [List.length_set, List.length_append, List.length_cons, List.length_nil]; and_intros <;> omega -splitDisjunctions) | fail) only [f0, f1, f2, f3, f4, f5, f6, g0, q0, q1, t0, e2, Try.f52, go_sem, ↓reduceIte, Nat.reduceEqDiff, Nat.reduceAdd, Nat.reduceMul, Nat.reduceLT, Nat.reduceLeDiff, reduceCtorEq, Int.reduceNe, Int.reduceEq, Int.reduceLT, Int.reduceLE, Int.reduceAdd, Int.reduceSub, Int.reduceMul, Int.reduceNeg, Int.reduceToNat, UInt8.reduceToNat, natLit, ty3, ty4, ty9, ty29, ty55, ty58, ty106]
    have hn : nestedM (e :: e' :: r) = goN ⟨0, []⟩ (e' :: r) := by simp only [nestedM, ho, hk, decide_true, Bool.true_and]
    rw [hn]
    have e2 : ∀ fl H, run 76 [.agg (evC e)] fl H = some (.bool true, H) := fun fl H => by rw [e2, decide_eq_true ho]
    obtain ⟨kind, style, flag, text, anchor, tag, place, code⟩ := e
    simp only at hk
    subst hk
    unfold run at *
    rw [Run_z Try.func52 rfl (by rfl : ok 52 = true) (by rfl : cfg.keep 52 = [0, 2, 3, 4, 5, 6, 23, 27, 28, 29, 30, 39, 43, 48, 60]) (by rfl : cfg.mode 52 = .pure) (by rfl : cfg.ord 52 = [])]
    unfold evC at e2 q1
    have hc1 : r.length + 1 + 1 ≤ cc := by simpa [capOk] using hcap
    have t5 : (1 : Int) ≤ cc := by omega
    simp (config := {contextual := true, maxSteps := 10000000, implicitDefEqProofs := false}) (disch := first | (and_intros <;> omega -splitDisjunctions) | (simp only [List.length_set, List.length_append, List.length_cons, List.length_nil]; and_intros <;> omega -splitDisjunctions) | fail) only [f0, f1, f2, f3, f4, f5, f6, g0, q0, q1, t0, t5, e2, Try.f52, go_sem, ↓reduceIte, Nat.reduceEqDiff, Nat.reduceAdd, Nat.reduceMul, Nat.reduceLT, Nat.reduceLeDiff, reduceCtorEq, Int.reduceNe, Int.reduceEq, Int.reduceLT, Int.reduceLE, Int.reduceAdd, Int.reduceSub, Int.reduceMul, Int.reduceNeg, Int.reduceToNat, UInt8.reduceToNat, natLit, ty3, ty4, ty9, ty29, ty55, ty58, ty106]
    rw [show r.length + 1 + 1 - 1 = r.length + 1 by omega]
    have hrs : ∀ x ∈ e' :: r, evCFit x := fun x hx => hes x (List.mem_cons_of_mem _ hx)
    have hlr : (e' :: r).length = r.length + 1 := rfl
    have hw : ((r.length + 1 + 1 : Nat) : Int) = ((r.length + 1 : Nat) : Int) + 1 := by omega
    rw [← hlr] at hT hw hl ⊢
    have hsl := hT.isTup
    generalize V.sl vb (o + 8) 8 (e' :: r).length (cc - 1) = u at *
    clear q0 q1 e2 g0 ho hA h3 h4 hn
    generalize e' :: r = rs at *
    refine at_loopE fun c R hc hR => ?_
    have key : ∀ (m : Nat) (j : Nat) (jj : Int) (s : NS) (B : LH) (x2 x4 x5 x6 x23 x30 x39 x43 x48 x60 : Option V), rs.length - j < m → jj = j → j ≤ rs.length → Hx H B → H.length + 1 ≤ B.length → NAt (H.length + 1) B H.length s → Few j s →
        zEv (leaveX (mkR Try.prog cfg ok [0, 2, 3, 4, 5, 6, 23, 27, 28, 29, 30, 39, 43, 48, 60] H.length) .pure H [ResultVar.tmp 2]) (mkR Try.prog cfg ok [0, 2, 3, 4, 5, 6, 23, 27, 28, 29, 30, 39, 43, 48, 60] H.length) (K.code (Code.loop c) :: K.blk 0 :: R) .nrm [some (.sl vb o 8 (rs.length + 1) cc), x2, some (.ptr H.length 0), x4, x5, x6, x23, some u, some (.int .i64 rs.length), some (.int .i64 jj), x30, x39, x43, x48, x60] (B) = some (.bool (goN s (rs.drop j)), H) := by
      intro m
      induction m with
      | zero => intro j jj s B x2 x4 x5 x6 x23 x30 x39 x43 x48 x60 hm; omega
      | succ m ih =>
        intro j jj s B x2 x4 x5 x6 x23 x30 x39 x43 x48 x60 hm hj hle hxB hlB hN hF
        subst hj
        by_cases hlt : j < rs.length
        · have t1 : ((j : Int) < rs.length) = True := eq_true (by omega)
          have rB := hT.ext hxB
          have k1 := rB.isTup; have k2 := rB.len; have k3 := rB.lenOk ty29; have k0 := rB.one
          have k4 := fun hp => rB.con hp
          have k5 := rB.idx (T := ty Try.prog) (t := 29) (by simp only [elemI, sizeO, ty3, ty4, ty9, ty29, ty58])
          have k6 := rB.loadD evC_len evZ
          have k6 := k6 j hlt
          have hd := List.drop_eq_getElem_cons hlt
          rw [← getD_of hlt evZ] at hd
          have hfe := hrs _ (show rs.getD j evZ ∈ rs by rw [getD_of hlt]; exact List.getElem_mem _)
          have e2 := e1 _ hfe
          have hev := run_event (fl := H.length) (rs.getD j evZ) (hN.ext (L := [.cells (evC (rs.getD j evZ))])) (by omega) (fun x hx => by have := hF.2 x hx; omega) (by have := hF.1; omega) (by omega) (by rw [List.length_append]; omega)
          rw [hd]
          unfold goN
          by_cases ho : EvOk (rs.getD j evZ)
          rotate_left
          · rw [if_pos ho]
            simp only [decide_eq_false ho] at e2
            generalize rs.getD j evZ = ev at *
            obtain ⟨kind, style, flag, text, anchor, tag, place, code⟩ := ev
            unfold run evC at *
            rw [zEv_round hc, ← hR]
            simp (config := {contextual := true, maxSteps := 10000000, implicitDefEqProofs := false}) (disch := first | (and_intros <;> omega -splitDisjunctions) | (simp only [List.length_set, List.length_append, List.length_cons, List.length_nil]; and_intros <;> omega -splitDisjunctions) | fail) only [t1, k0, k1, k2, k3, k4, k5, k6, e2, Try.f52, go_sem, ↓reduceIte, Nat.reduceEqDiff, Nat.reduceAdd, Nat.reduceMul, Nat.reduceLT, Nat.reduceLeDiff, reduceCtorEq, Int.reduceNe, Int.reduceEq, Int.reduceLT, Int.reduceLE, Int.reduceAdd, Int.reduceSub, Int.reduceMul, Int.reduceNeg, Int.reduceToNat, UInt8.reduceToNat, natLit, ty3, ty4, ty9, ty29, ty55, ty58, ty106]
          rw [if_neg (by simpa using ho)]
          simp only [decide_eq_true ho] at e2
          have hem : (rs.drop (j + 1)).isEmpty = decide ((j : Int) + 2 = ((rs.length + 1 : Nat) : Int)) := by
            rw [Bool.eq_iff_iff, List.isEmpty_iff, List.drop_eq_nil_iff, decide_eq_true_iff]; omega
          rw [hem]
          obtain ⟨kv, mv, hcb, hK⟩ := hN.kinds
          have hcB : ∀ L, LH.cellsAt (B ++ L) H.length = some [.int .i64 s.doc, kv, mv] := fun L => cellsAt_left hcb
          have hih : ∀ t B', stepN s (rs.getD j evZ).kind = some t → Fr (H.length + 1) [H.length] (B ++ [.cells (evC (rs.getD j evZ))]) B' → Hx H B' ∧ H.length + 1 ≤ B'.length ∧ Few (j + 1) t := fun t B' hs hf =>
            ⟨hf.hx (hxB.trans Hx.app) (by omega) (fun x hx => by rw [List.mem_singleton.1 hx]; exact Nat.le_refl _), by have := hf.len; rw [List.length_append] at this; omega, stepN_few hF hs⟩
          generalize hev2 : rs.getD j evZ = ev at *
          obtain ⟨kind, style, flag, text, anchor, tag, place, code⟩ := ev
          simp only at hih hev ⊢
          by_cases k10 : kind = 10
          · rw [if_pos k10]
            subst k10
            unfold run evC at *
            rw [zEv_round hc, ← hR]
            simp (config := {contextual := true, maxSteps := 10000000, implicitDefEqProofs := false}) (disch := first | (and_intros <;> omega -splitDisjunctions) | (simp only [List.length_set, List.length_append, List.length_cons, List.length_nil]; and_intros <;> omega -splitDisjunctions) | fail) only [t1, k0, k1, k2, k3, k4, k5, k6, e2, Try.f52, go_sem, ↓reduceIte, Nat.reduceEqDiff, Nat.reduceAdd, Nat.reduceMul, Nat.reduceLT, Nat.reduceLeDiff, reduceCtorEq, Int.reduceNe, Int.reduceEq, Int.reduceLT, Int.reduceLE, Int.reduceAdd, Int.reduceSub, Int.reduceMul, Int.reduceNeg, Int.reduceToNat, UInt8.reduceToNat, natLit, ty3, ty4, ty9, ty29, ty55, ty58, ty106]
          rw [if_neg k10]
          by_cases k9 : kind = 9
          · rw [if_pos k9]
            subst k9
            unfold run evC at *
            rw [zEv_round hc, ← hR]
            simp (config := {contextual := true, maxSteps := 10000000, implicitDefEqProofs := false}) (disch := first | (and_intros <;> omega -splitDisjunctions) | (simp only [List.length_set, List.length_append, List.length_cons, List.length_nil]; and_intros <;> omega -splitDisjunctions) | fail) only [t1, k0, k1, k2, k3, k4, k5, k6, e2, hcB, Try.f52, go_sem, ↓reduceIte, Nat.reduceEqDiff, Nat.reduceAdd, Nat.reduceMul, Nat.reduceLT, Nat.reduceLeDiff, reduceCtorEq, Int.reduceNe, Int.reduceEq, Int.reduceLT, Int.reduceLE, Int.reduceAdd, Int.reduceSub, Int.reduceMul, Int.reduceNeg, Int.reduceToNat, UInt8.reduceToNat, natLit, ty3, ty4, ty9, ty29, ty55, ty58, ty106]
          rw [if_neg k9]
          obtain ⟨w, B', e3, hw⟩ := hev
          cases hs : stepN s kind with
          | none =>
            rw [hs] at hw
            simp only at hw ⊢
            subst hw
            unfold run evC at *
            rw [zEv_round hc, ← hR]
            simp (config := {contextual := true, maxSteps := 10000000, implicitDefEqProofs := false}) (disch := first | (and_intros <;> omega -splitDisjunctions) | (simp only [List.length_set, List.length_append, List.length_cons, List.length_nil]; and_intros <;> omega -splitDisjunctions) | fail) only [t1, k0, k1, k2, k3, k4, k5, k6, e2, e3, k9, k10, Try.f52, go_sem, ↓reduceIte, Nat.reduceEqDiff, Nat.reduceAdd, Nat.reduceMul, Nat.reduceLT, Nat.reduceLeDiff, reduceCtorEq, Int.reduceNe, Int.reduceEq, Int.reduceLT, Int.reduceLE, Int.reduceAdd, Int.reduceSub, Int.reduceMul, Int.reduceNeg, Int.reduceToNat, UInt8.reduceToNat, natLit, ty3, ty4, ty9, ty29, ty55, ty58, ty106]
          | some t =>
            rw [hs] at hw
            simp only at hw ⊢
            obtain ⟨rfl, hfr, hNt⟩ := hw
            have hi := hih t B' hs hfr
            unfold run evC at *
            rw [zEv_round hc, ← hR]
            simp (config := {contextual := true, maxSteps := 10000000, implicitDefEqProofs := false}) (disch := first | (and_intros <;> omega -splitDisjunctions) | (simp only [List.length_set, List.length_append, List.length_cons, List.length_nil]; and_intros <;> omega -splitDisjunctions) | fail) only [t1, k0, k1, k2, k3, k4, k5, k6, e2, e3, k9, k10, Try.f52, go_sem, ↓reduceIte, Nat.reduceEqDiff, Nat.reduceAdd, Nat.reduceMul, Nat.reduceLT, Nat.reduceLeDiff, reduceCtorEq, Int.reduceNe, Int.reduceEq, Int.reduceLT, Int.reduceLE, Int.reduceAdd, Int.reduceSub, Int.reduceMul, Int.reduceNeg, Int.reduceToNat, UInt8.reduceToNat, natLit, ty3, ty4, ty9, ty29, ty55, ty58, ty106]
            rw [hR]
            exact ih (j + 1) ((j : Int) + 1) t B' _ _ _ _ _ _ _ _ _ _ (by omega) (by omega) (by omega) hi.1 hi.2.1 hNt hi.2.2
        · have t1 : ((j : Int) < rs.length) = False := eq_false (by omega)
          rw [List.drop_of_length_le (by omega)]
          unfold goN
          rw [zEv_round hc, ← hR]
          simp (config := {contextual := true, maxSteps := 10000000, implicitDefEqProofs := false}) (disch := first | (and_intros <;> omega -splitDisjunctions) | (simp only [List.length_set, List.length_append, List.length_cons, List.length_nil]; and_intros <;> omega -splitDisjunctions) | fail) only [t1, Try.f52, go_sem, ↓reduceIte, Nat.reduceEqDiff, Nat.reduceAdd, Nat.reduceMul, Nat.reduceLT, Nat.reduceLeDiff, reduceCtorEq, Int.reduceNe, Int.reduceEq, Int.reduceLT, Int.reduceLE, Int.reduceAdd, Int.reduceSub, Int.reduceMul, Int.reduceNeg, Int.reduceToNat, UInt8.reduceToNat, natLit, ty3, ty4, ty9, ty29, ty55, ty58, ty106]
    exact key (rs.length + 1) 0 0 ⟨0, []⟩ _ _ _ _ _ _ _ _ _ _ _ (by omega) rfl (by omega) Hx.app (by simp) (.inl ⟨rfl, by rw [cellsAt_app0]; rfl⟩) ⟨Nat.le_refl _, fun x hx => by cases hx⟩
end Go.Proofs.Ytcbjmggbbnpbpaa.Lg
namespace Go.Proofs.Ytcbjmggbbnpbpaa.Lg
set_option linter.unusedSimpArgs false
set_option linter.unusedVariables false
open Go.Proofs.Ytcbjmggbbnpbpaa

abbrev evA (es : List Ev) (k : Nat) : Ev := es.getD k evZ
abbrev kd (es : List Ev) (k : Nat) : Int := (es.getD k evZ).kind
def isC (e : Ev) : Prop := e.kind = 3 ∨ e.kind = 4
def isN (e : Ev) : Prop := 3 ≤ e.kind ∧ e.kind ≤ 6
instance (e : Ev) : Decidable (isC e) := by unfold isC; infer_instance
instance (e : Ev) : Decidable (isN e) := by unfold isN; infer_instance
def stepC (e : Ev) (c : Int) : Int := if isC e then c + 1 else if e.kind = 7 then c - 1 else c
def endGo (es : List Ev) : Nat → Nat → Int → Int
  | 0, _, _ => -1
  | d + 1, k, c => if stepC (evA es k) c = 0 then (k : Int) else endGo es d (k + 1) (stepC (evA es k) c)
def endF (es : List Ev) (i : Nat) : Int := if isN (evA es i) then endGo es (es.length - i) i 0 else -1
def upGo (es : List Ev) : Nat → Int → Int
  | 0, _ => -1
  | k + 1, c => if isC (evA es k) then (if c = 0 then (k : Int) else upGo es k (c - 1)) else if kd es k = 7 then upGo es k (c + 1) else upGo es k c
def upF (es : List Ev) (i : Nat) : Int := upGo es i 0
def stk (es : List Ev) : Nat → List Nat
  | 0 => []
  | k + 1 => if isC (evA es k) then stk es k ++ [k] else if kd es k = 7 then (stk es k).dropLast else stk es k
def docGo (es : List Ev) : Nat → Nat
  | 0 => 0
  | k + 1 => if kd es k = 2 then k else docGo es k
def defGo (es : List Ev) (t : ByteArray) (i : Nat) : Nat → Int
  | 0 => -1
  | k + 1 => if kd es k = 2 then -1 else if isN (evA es k) ∧ (evA es k).anchor ≠ ⟨#[]⟩ ∧ (evA es k).anchor = t then (if endF es k < 0 ∨ (i : Int) < endF es k then -1 else (k : Int)) else defGo es t i k
def defF (es : List Ev) (i : Nat) : Int := defGo es (evA es i).text i i
def kidsGo (es : List Ev) : Nat → Nat → List Nat
  | 0, _ => []
  | d + 1, k => if k < es.length ∧ isN (evA es k) then k :: (if endF es k < 0 then [] else kidsGo es d (endF es k + 1).toNat) else []
def kidsF (es : List Ev) (i : Nat) : List Nat := if isC (evA es i) then kidsGo es (es.length - i) (i + 1) else []
def rootB (es : List Ev) (i : Nat) : Bool := decide (0 < i ∧ kd es (i - 1) = 2 ∧ isN (evA es i))
def rootsF (es : List Ev) : List Nat := (List.range es.length).filter (rootB es)
def tiedM (es : List Ev) : Bool := nestedM es && (List.range es.length).all (fun i => !(decide (kd es i = 6) && decide (defF es i < 0)))
def wholeM (es : List Ev) : Bool := tiedM es && !decide (kd es (es.length - 1) = 10)

theorem isC_isN {e : Ev} (h : isC e) : isN e := by unfold isC at h; unfold isN; omega
theorem isC_7 {e : Ev} (h : isC e) : ¬ e.kind = 7 := by unfold isC at h; omega
/-- what a nested list gives: an end has something to end -/
def Bal (es : List Ev) : Prop := ∀ k, k < es.length → kd es k = 7 → stk es k ≠ []
theorem stk_lt (es : List Ev) : ∀ k, ∀ j ∈ stk es k, j < k
  | 0, j, h => by cases h
  | k + 1, j, h => by
    unfold stk at h
    by_cases hc : isC (evA es k)
    · rw [if_pos hc] at h
      rcases List.mem_append.1 h with h | h
      · have := stk_lt es k j h; omega
      · rw [List.mem_singleton.1 h]; omega
    · rw [if_neg hc] at h
      by_cases h7 : kd es k = 7
      · rw [if_pos h7] at h
        have := stk_lt es k j (List.dropLast_subset _ h); omega
      · rw [if_neg h7] at h
        have := stk_lt es k j h; omega
theorem stk_nd (es : List Ev) : ∀ k, (stk es k).Nodup
  | 0 => List.nodup_nil
  | k + 1 => by
    have ih := stk_nd es k
    unfold stk
    by_cases hc : isC (evA es k)
    · rw [if_pos hc, List.nodup_append]
      refine ⟨ih, by simp, fun a ha b hb => ?_⟩
      rw [List.mem_singleton.1 hb]
      have := stk_lt es k a ha; omega
    · rw [if_neg hc]
      by_cases h7 : kd es k = 7
      · rw [if_pos h7]; exact ih.sublist (List.dropLast_sublist _)
      · rw [if_neg h7]; exact ih
theorem stk_len (es : List Ev) : ∀ k, (stk es k).length ≤ k
  | 0 => Nat.le_refl _
  | k + 1 => by
    have ih := stk_len es k
    unfold stk
    by_cases hc : isC (evA es k)
    · rw [if_pos hc]; simp; exact ih
    · rw [if_neg hc]
      by_cases h7 : kd es k = 7
      · rw [if_pos h7, List.length_dropLast]; omega
      · rw [if_neg h7]; omega
theorem getD_app1 {l : List Nat} {p x : Nat} (h : p < l.length) : (l ++ [x]).getD p 0 = l.getD p 0 := by
  rw [List.getD_eq_getElem?_getD, List.getD_eq_getElem?_getD, List.getElem?_append_left h]
theorem getD_app2 {l : List Nat} {x : Nat} : (l ++ [x]).getD l.length 0 = x := by
  rw [List.getD_eq_getElem?_getD, List.getElem?_append_right (Nat.le_refl _), Nat.sub_self]; rfl
theorem getD_drop {l : List Nat} {p : Nat} (h : p < l.length - 1) : l.dropLast.getD p 0 = l.getD p 0 := by
  rw [List.getD_eq_getElem?_getD, List.getD_eq_getElem?_getD, List.getElem?_dropLast, if_pos h]
theorem upGo_stk (es : List Ev) (hB : Bal es) : ∀ k, k ≤ es.length → ∀ c : Nat, upGo es k c = if c < (stk es k).length then (((stk es k).getD ((stk es k).length - 1 - c) 0 : Nat) : Int) else -1
  | 0, _, c => by simp [upGo, stk]
  | k + 1, hk, c => by
    have ih := upGo_stk es hB k (by omega)
    unfold upGo stk
    by_cases hc : isC (evA es k)
    · rw [if_pos hc, if_pos hc, List.length_append, List.length_singleton]
      cases c with
      | zero =>
        rw [if_pos (show ((0 : Nat) : Int) = 0 from rfl), if_pos (by omega), show (stk es k).length + 1 - 1 - 0 = (stk es k).length by omega, getD_app2]
      | succ c =>
        rw [if_neg (by omega), show (((c + 1 : Nat) : Int) - 1) = (c : Nat) by omega, ih c]
        by_cases h : c < (stk es k).length
        · rw [if_pos h, if_pos (by omega), getD_app1 (by omega), show (stk es k).length + 1 - 1 - (c + 1) = (stk es k).length - 1 - c by omega]
        · rw [if_neg h, if_neg (by omega)]
    · rw [if_neg hc, if_neg hc]
      by_cases h7 : kd es k = 7
      · have hne := List.length_pos_iff.2 (hB k (by omega) h7)
        rw [if_pos h7, if_pos h7, show ((c : Int) + 1) = ((c + 1 : Nat) : Int) by omega, ih (c + 1), List.length_dropLast]
        by_cases h : c + 1 < (stk es k).length
        · rw [if_pos h, if_pos (by omega), getD_drop (by omega), show (stk es k).length - 1 - 1 - c = (stk es k).length - 1 - (c + 1) by omega]
        · rw [if_neg h, if_neg (by omega)]
      · rw [if_neg h7, if_neg h7, ih c]
theorem upF_stk (es : List Ev) (hB : Bal es) {k : Nat} (hk : k ≤ es.length) : upF es k = if stk es k = [] then -1 else (((stk es k).getD ((stk es k).length - 1) 0 : Nat) : Int) := by
  have := upGo_stk es hB k hk 0
  unfold upF
  rw [show (0 : Int) = ((0 : Nat) : Int) from rfl, this]
  by_cases h : stk es k = []
  · rw [if_pos h, if_neg (by rw [h]; simp)]
  · rw [if_neg h, if_pos (List.length_pos_iff.2 h)]; rfl
theorem endGo_succ (es : List Ev) {k : Nat} (hk : k < es.length) (c : Int) : endGo es (es.length - k) k c = if stepC (evA es k) c = 0 then (k : Int) else endGo es (es.length - (k + 1)) (k + 1) (stepC (evA es k) c) := by
  rw [show es.length - k = (es.length - (k + 1)) + 1 by omega]; rfl
theorem end_stk (es : List Ev) (hB : Bal es) : ∀ k, k ≤ es.length → ∀ p, p < (stk es k).length → endF es ((stk es k).getD p 0) = endGo es (es.length - k) k (((stk es k).length : Int) - p)
  | 0, _, p, h => absurd h (Nat.not_lt_zero _)
  | k + 1, hk, p, h => by
    have ih := end_stk es hB k (by omega)
    unfold stk at h ⊢
    by_cases hc : isC (evA es k)
    · rw [if_pos hc, List.length_append, List.length_singleton] at h
      rw [if_pos hc, List.length_append, List.length_singleton]
      by_cases hp : p < (stk es k).length
      · rw [getD_app1 hp, ih p hp, endGo_succ es (by omega)]
        have : stepC (evA es k) (((stk es k).length : Int) - p) = ((stk es k).length : Int) - p + 1 := by unfold stepC; rw [if_pos hc]
        rw [this, if_neg (by omega)]
        congr 1; omega
      · have hp : p = (stk es k).length := by omega
        subst hp
        rw [getD_app2]
        unfold endF
        rw [if_pos (isC_isN hc), endGo_succ es (by omega)]
        have : stepC (evA es k) 0 = 1 := by unfold stepC; rw [if_pos hc]; rfl
        rw [this, if_neg (by omega)]
        congr 1; omega
    · rw [if_neg hc] at h
      rw [if_neg hc]
      by_cases h7 : kd es k = 7
      · rw [if_pos h7, List.length_dropLast] at h
        rw [if_pos h7, List.length_dropLast, getD_drop h, ih p (by omega), endGo_succ es (by omega)]
        have : stepC (evA es k) (((stk es k).length : Int) - p) = ((stk es k).length : Int) - p - 1 := by unfold stepC; rw [if_neg hc, if_pos h7]
        rw [this, if_neg (by omega)]
        congr 1; omega
      · rw [if_neg h7] at h
        rw [if_neg h7, ih p h, endGo_succ es (by omega)]
        have : stepC (evA es k) (((stk es k).length : Int) - p) = ((stk es k).length : Int) - p := by unfold stepC; rw [if_neg hc, if_neg h7]
        rw [this, if_neg (by omega)]
/-- the innermost open place ends at an end -/
theorem end_top (es : List Ev) (hB : Bal es) {k : Nat} (hk : k < es.length) (h7 : kd es k = 7) : endF es ((stk es k).getD ((stk es k).length - 1) 0) = k := by
  have hne := List.length_pos_iff.2 (hB k hk h7)
  rw [end_stk es hB k (by omega) _ (by omega), endGo_succ es hk]
  have : stepC (evA es k) (((stk es k).length : Int) - (((stk es k).length - 1 : Nat) : Int)) = 0 := by
    unfold stepC
    have : ¬ isC (evA es k) := fun h => isC_7 h h7
    rw [if_neg this, if_pos h7]; omega
  rw [if_pos this]
theorem end_open (es : List Ev) (hB : Bal es) {j : Nat} (h : j ∈ stk es es.length) : endF es j = -1 := by
  obtain ⟨p, hp, rfl⟩ := List.getElem_of_mem h
  have := end_stk es hB es.length (Nat.le_refl _) p hp
  rw [getD_of hp, Nat.sub_self] at this
  exact this
/-- what is written of the ends when 'k' events are gone over -/
def endV (es : List Ev) (k j : Nat) : Int := if j ∈ stk es k then -1 else endF es j
theorem endV_all (es : List Ev) (hB : Bal es) (j : Nat) : endV es es.length j = endF es j := by
  unfold endV
  by_cases h : j ∈ stk es es.length
  · rw [if_pos h, end_open es hB h]
  · rw [if_neg h]
theorem endV_C (es : List Ev) {k j : Nat} (hc : isC (evA es k)) (hj : j < k + 1) : endV es (k + 1) j = if j = k then -1 else endV es k j := by
  unfold endV
  have : stk es (k + 1) = stk es k ++ [k] := by show (if _ then _ else _) = _; rw [if_pos hc]
  rw [this]
  by_cases h : j = k
  · subst h; rw [if_pos rfl, if_pos (by simp)]
  · rw [if_neg h]
    have : (j ∈ stk es k ++ [k]) = (j ∈ stk es k) := by simp [h]
    simp only [this]
theorem endF_leaf {es : List Ev} {k : Nat} (hk : k < es.length) (hc : ¬ isC (evA es k)) (hn : isN (evA es k)) : endF es k = k := by
  unfold endF
  rw [if_pos hn, endGo_succ es hk]
  have : stepC (evA es k) 0 = 0 := by
    unfold stepC
    rw [if_neg hc, if_neg (by unfold isN at hn; omega)]
  rw [if_pos this]
theorem endV_O (es : List Ev) {k j : Nat} (hk : k < es.length) (hc : ¬ isC (evA es k)) (h7 : ¬ kd es k = 7) (hj : j < k + 1) : endV es (k + 1) j = if j = k then (if isN (evA es k) then (k : Int) else -1) else endV es k j := by
  unfold endV
  have : stk es (k + 1) = stk es k := by show (if _ then _ else _) = _; rw [if_neg hc, if_neg h7]
  rw [this]
  by_cases h : j = k
  · subst h
    rw [if_pos rfl, if_neg (fun h => by have := stk_lt es _ _ h; omega)]
    by_cases hn : isN (evA es j)
    · rw [if_pos hn, endF_leaf hk hc hn]
    · rw [if_neg hn]; unfold endF; rw [if_neg hn]
  · rw [if_neg h]
theorem endV_7 (es : List Ev) (hB : Bal es) {k j : Nat} (hk : k < es.length) (h7 : kd es k = 7) (hj : j < k + 1) :
    endV es (k + 1) j = if j = (stk es k).getD ((stk es k).length - 1) 0 then (k : Int) else if j = k then -1 else endV es k j := by
  have hc : ¬ isC (evA es k) := fun h => isC_7 h h7
  have hs : stk es (k + 1) = (stk es k).dropLast := by show (if _ then _ else _) = _; rw [if_neg hc, if_pos h7]
  have hne := hB k hk h7
  have hp := List.length_pos_iff.2 hne
  have hspl := List.dropLast_concat_getLast hne
  have hlast : (stk es k).getLast hne = (stk es k).getD ((stk es k).length - 1) 0 := by
    rw [List.getLast_eq_getElem, List.getD_eq_getElem?_getD, List.getElem?_eq_getElem (by omega)]; rfl
  rw [hlast] at hspl
  have htop := end_top es hB hk h7
  have hnd := stk_nd es k
  have hlt := stk_lt es k
  generalize hT : (stk es k).getD ((stk es k).length - 1) 0 = T at *
  unfold endV
  rw [hs]
  by_cases h : j = T
  · subst h
    have : j ∉ (stk es k).dropLast := by
      rw [← hspl, List.nodup_append] at hnd
      exact fun hm => hnd.2.2 j hm j (by simp) rfl
    rw [if_neg this, if_pos rfl, htop]
  · rw [if_neg h]
    by_cases h2 : j = k
    · subst h2
      have h1 : j ∉ (stk es j).dropLast := fun hm => by have := hlt j (List.dropLast_subset _ hm); omega
      rw [if_neg h1, if_pos rfl]
      unfold endF
      have h7 : (evA es j).kind = 7 := h7
      rw [if_neg (by unfold isN; omega)]
    · rw [if_neg h2]
      have : (j ∈ (stk es k).dropLast) = (j ∈ stk es k) := by
        conv => rhs; rw [← hspl]
        simp [h]
      simp only [this]
/-! ### nested lists -/
theorem goN_bal : ∀ (r : List Ev) (s : NS) (es : List Ev) (k : Nat), goN s r = true → es.drop k = r → s.st.length = (stk es k).length → ∀ j, k ≤ j → j < es.length → kd es j = 7 → stk es j ≠ []
  | [], s, es, k, h, hd, hl, j, hkj, hj, h7 => by
    rw [List.drop_eq_nil_iff] at hd; omega
  | e :: r, s, es, k, h, hd, hl, j, hkj, hj, h7 => by
    have hk : k < es.length := by
      have := congrArg List.length hd
      rw [List.length_drop, List.length_cons] at this; omega
    have he : evA es k = e := by
      have := List.drop_eq_getElem_cons hk
      rw [hd] at this
      injection this with h1 h2
      rw [evA, getD_of hk]; exact h1.symm
    have hr : es.drop (k + 1) = r := by
      have := List.drop_eq_getElem_cons hk
      rw [hd] at this
      injection this with h1 h2
      exact h2.symm
    have hke : kd es k = e.kind := by show (evA es k).kind = _; rw [he]
    unfold goN at h
    by_cases ho : EvOk e
    rotate_left
    · rw [if_pos ho] at h; cases h
    rw [if_neg (by simpa using ho)] at h
    by_cases k10 : e.kind = 10
    · rw [if_pos k10, List.isEmpty_iff] at h
      subst h
      have h9 := congrArg List.length hr
      rw [List.length_drop, List.length_nil] at h9
      have : j = k := by omega
      subst this
      rw [hke] at h7; omega
    rw [if_neg k10] at h
    by_cases k9 : e.kind = 9
    · rw [if_pos k9, Bool.and_eq_true, List.isEmpty_iff] at h
      have h9 := congrArg List.length hr
      rw [h.1, List.length_drop, List.length_nil] at h9
      have : j = k := by omega
      subst this
      rw [hke] at h7; omega
    rw [if_neg k9] at h
    cases hs : stepN s e.kind with
    | none => rw [hs] at h; cases h
    | some t =>
      rw [hs] at h
      simp only at h
      have hl2 : t.st.length = (stk es (k + 1)).length := by
        show t.st.length = (if isC (evA es k) then stk es k ++ [k] else if kd es k = 7 then (stk es k).dropLast else stk es k).length
        rw [hke, he]
        unfold stepN at hs
        by_cases c2 : e.kind = 2
        · rw [if_pos c2] at hs
          rw [if_neg (by unfold isC; omega), if_neg (by omega)]
          by_cases hd0 : s.doc = 0
          · rw [if_pos hd0] at hs; cases hs; exact hl
          · rw [if_neg hd0] at hs; cases hs
        rw [if_neg c2] at hs
        by_cases c5 : e.kind = 5 ∨ e.kind = 6
        · rw [if_pos c5] at hs
          rw [if_neg (by unfold isC; omega), if_neg (by omega), ← hl]
          exact nodeN_len hs
        rw [if_neg c5] at hs
        by_cases c3 : e.kind = 3 ∨ e.kind = 4
        · rw [if_pos c3] at hs
          rw [if_pos (show isC e from c3), List.length_append, ← hl]
          cases hn : nodeN s with
          | none => rw [hn] at hs; cases hs
          | some u => rw [hn] at hs; cases hs; rw [List.length_append, nodeN_len hn]; rfl
        rw [if_neg c3] at hs
        by_cases c7 : e.kind = 7
        · rw [if_pos c7] at hs
          rw [if_neg (show ¬ isC e from c3), if_pos c7, List.length_dropLast, ← hl]
          by_cases hc : s.st = [] ∨ (s.top.1 = 4 ∧ s.top.2 % 2 ≠ 0)
          · rw [if_pos hc] at hs; cases hs
          · rw [if_neg hc] at hs; cases hs; rw [List.length_dropLast]
        rw [if_neg c7] at hs
        rw [if_neg (show ¬ isC e from c3), if_neg c7, ← hl]
        by_cases c8 : e.kind = 8
        · rw [if_pos c8] at hs
          by_cases hd0 : s.doc = 2 ∧ s.st = []
          · rw [if_pos hd0] at hs; cases hs; rfl
          · rw [if_neg hd0] at hs; cases hs
        · rw [if_neg c8] at hs; cases hs
      by_cases hjk : j = k
      · subst hjk
        rw [hke] at h7
        intro hnil
        rw [hnil] at hl
        have h0 : s.st = [] := List.length_eq_zero_iff.1 hl
        rw [h7] at hs
        unfold stepN at hs
        simp [h0] at hs
      · exact goN_bal r t es (k + 1) h hr hl2 j (by omega) hj h7
theorem nestedM_bal {es : List Ev} (h : nestedM es = true) : Bal es := by
  intro j hj h7
  cases es with
  | nil => cases hj
  | cons e r =>
    simp only [nestedM, Bool.and_eq_true, decide_eq_true_eq] at h
    cases j with
    | zero => have : e.kind = 7 := h7; omega
    | succ j =>
      refine goN_bal r ⟨0, []⟩ (e :: r) 1 h.2 rfl ?_ (j + 1) (by omega) hj h7
      have : stk (e :: r) 1 = if isC e then [] ++ [0] else if e.kind = 7 then [] else [] := rfl
      rw [this, if_neg (by unfold isC; omega), if_neg (by omega)]; rfl
/-- all events are right; the fault and the end of the stream are last -/
theorem goN_ok : ∀ (r : List Ev) (s : NS), goN s r = true → (∀ e ∈ r, EvOk e) ∧ ∀ i, i + 1 < r.length → (evA r i).kind ≠ 10
  | [], s, h => ⟨fun e he => absurd he (by simp), fun i hi => absurd hi (by simp)⟩
  | e :: r, s, h => by
    unfold goN at h
    by_cases ho : EvOk e
    rotate_left
    · rw [if_pos ho] at h; cases h
    rw [if_neg (by simpa using ho)] at h
    have fin : ∀ t, goN t r = true → e.kind ≠ 10 → (∀ x ∈ e :: r, EvOk x) ∧ ∀ i, i + 1 < (e :: r).length → (evA (e :: r) i).kind ≠ 10 := fun t ht hk => by
      have := goN_ok r t ht
      refine ⟨fun x hx => ?_, fun i hi => ?_⟩
      · rcases List.mem_cons.1 hx with hx | hx
        · subst hx; exact ho
        · exact this.1 x hx
      · cases i with
        | zero => exact hk
        | succ i => exact this.2 i (by simpa using hi)
    have one : r = [] → (∀ x ∈ e :: r, EvOk x) ∧ ∀ i, i + 1 < (e :: r).length → (evA (e :: r) i).kind ≠ 10 := fun hr => by
      subst hr
      exact ⟨fun x hx => by rw [List.mem_singleton.1 hx]; exact ho, fun i hi => by simp at hi⟩
    by_cases k10 : e.kind = 10
    · rw [if_pos k10, List.isEmpty_iff] at h
      exact one h
    rw [if_neg k10] at h
    by_cases k9 : e.kind = 9
    · rw [if_pos k9, Bool.and_eq_true, List.isEmpty_iff] at h
      exact one h.1
    rw [if_neg k9] at h
    cases hs : stepN s e.kind with
    | none => rw [hs] at h; cases h
    | some t => rw [hs] at h; exact fin t h k10
theorem nestedM_ok {es : List Ev} (h : nestedM es = true) : 2 ≤ es.length ∧ kd es 0 = 1 ∧ (∀ i, i < es.length → EvOk (evA es i)) ∧ ∀ i, i + 1 < es.length → kd es i ≠ 10 := by
  cases es with
  | nil => cases h
  | cons e r =>
    simp only [nestedM, Bool.and_eq_true, decide_eq_true_eq] at h
    have hg := goN_ok r _ h.2
    refine ⟨?_, h.1.2, fun i hi => ?_, fun i hi => ?_⟩
    · cases r with
      | nil => cases h.2
      | cons _ _ => simp
    · cases i with
      | zero => exact h.1.1
      | succ i =>
        have hi2 : i < r.length := by simpa using hi
        show EvOk (r.getD i evZ)
        rw [getD_of hi2]; exact hg.1 _ (List.getElem_mem _)
    · cases i with
      | zero => show e.kind ≠ 10; omega
      | succ i => exact hg.2 i (by simpa using hi)
end Go.Proofs.Ytcbjmggbbnpbpaa.Lg
namespace Go.Proofs.Ytcbjmggbbnpbpaa.Lg
set_option linter.unusedSimpArgs false
set_option linter.unusedVariables false
open Go.Proofs.Ytcbjmggbbnpbpaa

theorem endGo_rng (es : List Ev) : ∀ d k c, endGo es d k c = -1 ∨ ((k : Int) ≤ endGo es d k c ∧ endGo es d k c < (k : Int) + d)
  | 0, k, c => .inl rfl
  | d + 1, k, c => by
    unfold endGo
    by_cases h : stepC (evA es k) c = 0
    · rw [if_pos h]; right; omega
    · rw [if_neg h]
      rcases endGo_rng es d (k + 1) (stepC (evA es k) c) with h | h
      · exact .inl h
      · right; omega
theorem endF_rng (es : List Ev) {i : Nat} (hi : i < es.length) : endF es i = -1 ∨ ((i : Int) ≤ endF es i ∧ endF es i < es.length) := by
  unfold endF
  by_cases h : isN (evA es i)
  · rw [if_pos h]
    rcases endGo_rng es (es.length - i) i 0 with h | h
    · exact .inl h
    · right; omega
  · rw [if_neg h]; exact .inl rfl
theorem endGo_7 (es : List Ev) : ∀ d k c m, 1 ≤ c → endGo es d k c = ((m : Nat) : Int) → kd es m = 7
  | 0, k, c, m, hc, h => by unfold endGo at h; omega
  | d + 1, k, c, m, hc, h => by
    unfold endGo at h
    by_cases h0 : stepC (evA es k) c = 0
    · rw [if_pos h0] at h
      have : k = m := by omega
      subst this
      unfold stepC at h0
      by_cases hC : isC (evA es k)
      · rw [if_pos hC] at h0; omega
      · rw [if_neg hC] at h0
        by_cases h7 : (evA es k).kind = 7
        · exact h7
        · rw [if_neg h7] at h0; omega
    · rw [if_neg h0] at h
      refine endGo_7 es d (k + 1) _ m ?_ h
      unfold stepC at h0 ⊢
      by_cases hC : isC (evA es k)
      · rw [if_pos hC]; omega
      · rw [if_neg hC] at h0 ⊢
        by_cases h7 : (evA es k).kind = 7
        · rw [if_pos h7] at h0 ⊢; omega
        · rw [if_neg h7]; omega
theorem endF_ne {es : List Ev} {j i : Nat} (hj : j < i) (hl : j < es.length) (h6 : kd es i ≠ 7) : endF es j ≠ i := by
  intro h
  unfold endF at h
  by_cases hn : isN (evA es j)
  · rw [if_pos hn, endGo_succ es hl] at h
    by_cases h0 : stepC (evA es j) 0 = 0
    · rw [if_pos h0] at h; omega
    · rw [if_neg h0] at h
      refine h6 (endGo_7 es _ _ _ i ?_ h)
      unfold stepC at h0 ⊢
      by_cases hC : isC (evA es j)
      · rw [if_pos hC]; omega
      · rw [if_neg hC] at h0
        rw [if_neg (by unfold isN at hn; omega)] at h0; omega
  · rw [if_neg hn] at h; omega
theorem docGo_le (es : List Ev) : ∀ i, docGo es i ≤ i
  | 0 => Nat.le_refl _
  | k + 1 => by
    unfold docGo
    by_cases h : kd es k = 2
    · rw [if_pos h]; omega
    · rw [if_neg h]; have := docGo_le es k; omega
theorem docGo_gt (es : List Ev) : ∀ i k, docGo es i < k → k < i → kd es k ≠ 2
  | 0, k, h, h2 => absurd h2 (Nat.not_lt_zero _)
  | i + 1, k, h, h2 => by
    unfold docGo at h
    by_cases h3 : kd es i = 2
    · rw [if_pos h3] at h; omega
    · rw [if_neg h3] at h
      by_cases hk : k = i
      · subst hk; exact h3
      · exact docGo_gt es i k h (by omega)
theorem docGo_at (es : List Ev) : ∀ i, docGo es i = 0 ∨ kd es (docGo es i) = 2
  | 0 => .inl rfl
  | i + 1 => by
    unfold docGo
    by_cases h3 : kd es i = 2
    · rw [if_pos h3]; exact .inr h3
    · rw [if_neg h3]; exact docGo_at es i
theorem defGo_doc (es : List Ev) (h1 : kd es 0 = 1) (t : ByteArray) (i i' : Nat) : defGo es t i (docGo es i' + 1) = -1 := by
  unfold defGo
  rcases docGo_at es i' with h | h
  · rw [h, if_neg (by omega), if_neg (fun hn => by have := hn.1; unfold isN at this; have : (evA es 0).kind = 1 := h1; omega)]
    rfl
  · rw [if_pos h]
def lastGo (es : List Ev) (t : ByteArray) : Nat → Option Nat
  | 0 => none
  | k + 1 => if kd es k = 2 then none else if kd es k ≠ 6 ∧ (evA es k).anchor ≠ ⟨#[]⟩ ∧ (evA es k).anchor = t then some k else lastGo es t k
theorem anchor_node {e : Ev} (h : EvOk e) (ha : e.anchor ≠ ⟨#[]⟩) : isN e ∧ e.kind ≠ 6 := by
  have : e.kind = 3 ∨ e.kind = 4 ∨ e.kind = 5 := Classical.byContradiction fun hc => ha (h.2.2.2.2.2.2.2.2.1 hc).1
  unfold isN
  omega
theorem defGo_last (es : List Ev) (hok : ∀ i, i < es.length → EvOk (evA es i)) (t : ByteArray) (i : Nat) : ∀ k, k ≤ es.length →
    defGo es t i k = match lastGo es t k with | none => -1 | some j => if endF es j < 0 ∨ (i : Int) < endF es j then -1 else (j : Int)
  | 0, _ => rfl
  | k + 1, hk => by
    have ih := defGo_last es hok t i k (by omega)
    unfold defGo lastGo
    by_cases h2 : kd es k = 2
    · rw [if_pos h2, if_pos h2]
    rw [if_neg h2, if_neg h2]
    by_cases ha : (evA es k).anchor ≠ ⟨#[]⟩ ∧ (evA es k).anchor = t
    · have := anchor_node (hok k (by omega)) ha.1
      have h6 : kd es k ≠ 6 ∧ (evA es k).anchor ≠ ⟨#[]⟩ ∧ (evA es k).anchor = t := ⟨this.2, ha⟩
      rw [if_pos (show isN (evA es k) ∧ (evA es k).anchor ≠ ⟨#[]⟩ ∧ (evA es k).anchor = t from ⟨this.1, ha⟩), if_pos h6]
    · rw [if_neg (fun h => ha h.2), if_neg (fun h => ha h.2), ih]
theorem lastGo_lt (es : List Ev) (t : ByteArray) : ∀ k j, lastGo es t k = some j → j < k
  | 0, j, h => by cases h
  | k + 1, j, h => by
    unfold lastGo at h
    by_cases h2 : kd es k = 2
    · rw [if_pos h2] at h; cases h
    rw [if_neg h2] at h
    by_cases ha : kd es k ≠ 6 ∧ (evA es k).anchor ≠ ⟨#[]⟩ ∧ (evA es k).anchor = t
    · rw [if_pos ha] at h; cases h; omega
    · rw [if_neg ha] at h; have := lastGo_lt es t k j h; omega
theorem defF_lt (es : List Ev) (t : ByteArray) (i : Nat) : ∀ k, defGo es t i k = -1 ∨ (0 ≤ defGo es t i k ∧ defGo es t i k < k)
  | 0 => .inl rfl
  | k + 1 => by
    have ih := defF_lt es t i k
    unfold defGo
    by_cases h2 : kd es k = 2
    · rw [if_pos h2]; exact .inl rfl
    rw [if_neg h2]
    by_cases ha : isN (evA es k) ∧ (evA es k).anchor ≠ ⟨#[]⟩ ∧ (evA es k).anchor = t
    · rw [if_pos ha]
      by_cases he : endF es k < 0 ∨ (i : Int) < endF es k
      · rw [if_pos he]; exact .inl rfl
      · rw [if_neg he]; right; omega
    · rw [if_neg ha]
      rcases ih with h | h
      · exact .inl h
      · right; omega
theorem defF_rng (es : List Ev) (i : Nat) : defF es i = -1 ∨ (0 ≤ defF es i ∧ defF es i < i) := defF_lt es _ i i
theorem kidsGo_fuel (es : List Ev) : ∀ d k, es.length - k ≤ d → kidsGo es d k = kidsGo es (es.length - k) k
  | 0, k, h => by rw [Nat.le_zero.1 h]
  | d + 1, k, h => by
    by_cases hk : k < es.length
    · rw [show es.length - k = (es.length - (k + 1)) + 1 by omega]
      unfold kidsGo
      by_cases hn : k < es.length ∧ isN (evA es k)
      · rw [if_pos hn, if_pos hn]
        congr 1
        rcases endF_rng es hk with he | he
        · rw [if_pos (by omega), if_pos (by omega)]
        · rw [if_neg (by omega), if_neg (by omega)]
          rw [kidsGo_fuel es d _ (by omega), kidsGo_fuel es (es.length - (k + 1)) _ (by omega)]
      · rw [if_neg hn, if_neg hn]
    · rw [show es.length - k = 0 by omega]
      unfold kidsGo
      rw [if_neg (by omega)]
termination_by d k => (d, es.length - k)
decreasing_by all_goals (simp_wf; first | (apply Prod.Lex.left; omega) | (apply Prod.Lex.right; omega))
/-- the kids from a place on -/
def kidsA (es : List Ev) (k : Nat) : List Nat := kidsGo es (es.length - k) k
theorem kidsA_eq (es : List Ev) {k : Nat} (hk : k < es.length) : kidsA es k = if isN (evA es k) then k :: (if endF es k < 0 then [] else kidsA es (endF es k + 1).toNat) else [] := by
  unfold kidsA
  rw [show es.length - k = (es.length - (k + 1)) + 1 by omega]
  conv => lhs; unfold kidsGo
  by_cases hn : isN (evA es k)
  · rw [if_pos ⟨hk, hn⟩, if_pos hn]
    congr 1
    rcases endF_rng es hk with he | he
    · rw [if_pos (by omega), if_pos (by omega)]
    · rw [if_neg (by omega), if_neg (by omega)]
      exact kidsGo_fuel es _ _ (by omega)
  · rw [if_neg (fun h => hn h.2), if_neg hn]
theorem kidsA_end (es : List Ev) {k : Nat} (hk : es.length ≤ k) : kidsA es k = [] := by
  unfold kidsA
  rw [show es.length - k = 0 by omega]; rfl
theorem kidsF_A (es : List Ev) (i : Nat) (hi : i < es.length) : kidsF es i = if isC (evA es i) then kidsA es (i + 1) else [] := by
  unfold kidsF kidsA
  by_cases h : isC (evA es i)
  · rw [if_pos h, if_pos h, kidsGo_fuel es _ _ (by omega)]
  · rw [if_neg h, if_neg h]
theorem kidsA_in (es : List Ev) : ∀ d k, es.length - k ≤ d → ∀ j ∈ kidsA es k, k ≤ j ∧ j < es.length ∧ isN (evA es j)
  | 0, k, h, j, hj => by rw [kidsA_end es (by omega)] at hj; cases hj
  | d + 1, k, h, j, hj => by
    by_cases hk : k < es.length
    · rw [kidsA_eq es hk] at hj
      by_cases hn : isN (evA es k)
      · rw [if_pos hn] at hj
        rcases List.mem_cons.1 hj with rfl | hj
        · exact ⟨Nat.le_refl _, hk, hn⟩
        · rcases endF_rng es hk with he | he
          · rw [if_pos (by omega)] at hj; cases hj
          · rw [if_neg (by omega)] at hj
            have := kidsA_in es d _ (by omega) j hj
            exact ⟨by omega, this.2⟩
      · rw [if_neg hn] at hj; cases hj
    · rw [kidsA_end es (by omega)] at hj; cases hj
theorem kidsF_in (es : List Ev) {i : Nat} (hi : i < es.length) : ∀ j ∈ kidsF es i, i < j ∧ j < es.length ∧ isN (evA es j) := by
  intro j hj
  rw [kidsF_A es i hi] at hj
  by_cases h : isC (evA es i)
  · rw [if_pos h] at hj
    have := kidsA_in es es.length (i + 1) (by omega) j hj
    exact ⟨by omega, this.2⟩
  · rw [if_neg h] at hj; cases hj
theorem kidsA_len (es : List Ev) : ∀ d k, es.length - k ≤ d → (kidsA es k).length ≤ es.length - k
  | 0, k, h => by rw [kidsA_end es (by omega)]; exact Nat.zero_le _
  | d + 1, k, h => by
    by_cases hk : k < es.length
    · rw [kidsA_eq es hk]
      by_cases hn : isN (evA es k)
      · rw [if_pos hn, List.length_cons]
        rcases endF_rng es hk with he | he
        · rw [if_pos (by omega), List.length_nil]; omega
        · rw [if_neg (by omega)]
          have := kidsA_len es d (endF es k + 1).toNat (by omega)
          omega
      · rw [if_neg hn, List.length_nil]; omega
    · rw [kidsA_end es (by omega), List.length_nil]; omega
theorem kidsF_len (es : List Ev) {i : Nat} (hi : i < es.length) : (kidsF es i).length ≤ es.length := by
  rw [kidsF_A es i hi]
  by_cases h : isC (evA es i)
  · rw [if_pos h]; have := kidsA_len es es.length (i + 1) (by omega); omega
  · rw [if_neg h]; exact Nat.zero_le _
end Go.Proofs.Ytcbjmggbbnpbpaa.Lg
namespace Go.Proofs.Ytcbjmggbbnpbpaa.Lg
set_option linter.unusedSimpArgs false
set_option linter.unusedVariables false
set_option maxRecDepth 100000
set_option maxHeartbeats 40000000
open Go.Proofs.Ytcbjmggbbnpbpaa

theorem run_l13Coll (e : Ev) (fl : Nat) (H : LH) : run 73 [.agg (evC e)] fl H = some (.bool (decide (isC e)), H) := by
  unfold run evC
  rw [Run_z Try.func73 rfl (by rfl : ok 73 = true) (by rfl : cfg.keep 73 = [0, 1, 2]) (by rfl : cfg.mode 73 = .pure) (by rfl : cfg.ord 73 = [])]
  simp (config := {contextual := true, maxSteps := 10000000, implicitDefEqProofs := false}) (disch := first | (and_intros <;> omega -splitDisjunctions) | (simp only [List.length_set, List.length_append, List.length_cons, List.length_nil]; and_intros <;> omega -splitDisjunctions) | fail) only [Try.f73, go_sem, ↓reduceIte, Nat.reduceEqDiff, Nat.reduceAdd, Nat.reduceMul, Nat.reduceLT, Nat.reduceLeDiff, reduceCtorEq, Int.reduceNe, Int.reduceEq, Int.reduceLT, Int.reduceLE, Int.reduceAdd, Int.reduceSub, Int.reduceMul, Int.reduceNeg, Int.reduceToNat, UInt8.reduceToNat, natLit, ty3, ty4, ty9, ty58]
  have : decide (isC e) = (decide (e.kind = 3) || decide (e.kind = 4)) := by rw [Bool.eq_iff_iff]; simp only [decide_eq_true_eq, Bool.or_eq_true]; exact Iff.rfl
  rw [this]
  by_cases h : e.kind = 3 <;> simp [h]
theorem run_l13Node (e : Ev) (fl : Nat) (H : LH) : run 44 [.agg (evC e)] fl H = some (.bool (decide (isN e)), H) := by
  unfold run evC
  rw [Run_z Try.func44 rfl (by rfl : ok 44 = true) (by rfl : cfg.keep 44 = [0, 1, 2]) (by rfl : cfg.mode 44 = .pure) (by rfl : cfg.ord 44 = [])]
  simp (config := {contextual := true, maxSteps := 10000000, implicitDefEqProofs := false}) (disch := first | (and_intros <;> omega -splitDisjunctions) | (simp only [List.length_set, List.length_append, List.length_cons, List.length_nil]; and_intros <;> omega -splitDisjunctions) | fail) only [Try.f44, go_sem, ↓reduceIte, Nat.reduceEqDiff, Nat.reduceAdd, Nat.reduceMul, Nat.reduceLT, Nat.reduceLeDiff, reduceCtorEq, Int.reduceNe, Int.reduceEq, Int.reduceLT, Int.reduceLE, Int.reduceAdd, Int.reduceSub, Int.reduceMul, Int.reduceNeg, Int.reduceToNat, UInt8.reduceToNat, natLit, ty3, ty4, ty9, ty58]
  have : decide (isN e) = (decide (3 ≤ e.kind) && decide (e.kind ≤ 6)) := by rw [Bool.eq_iff_iff]; simp only [decide_eq_true_eq, Bool.and_eq_true]; exact Iff.rfl
  rw [this]
  by_cases h : 3 ≤ e.kind <;> simp [h]
theorem run_l13End {v : V} {es : List Ev} {H : LH} (h : At H evC 8 v es) (hl : es.length ≤ 1048576) {i : Nat} (hi : i < es.length) (fl : Nat) :
    run 69 [v, .int .i64 i] fl H = some (.int .i64 (endF es i), H) := by
  have f1 := h.isTup; have f2 := h.len; have f3 := h.lenOk ty29; have f0 := h.one
  have f4 := fun hp => h.con hp
  have f5 := h.idx (T := ty Try.prog) (t := 29) (by simp only [elemI, sizeO, ty3, ty4, ty9, ty29, ty58])
  have f6 := h.loadD evC_len evZ
  have n1 := fun e fl H => run_l13Node e fl H
  have n2 := fun e fl H => run_l13Coll e fl H
  have g6 := f6 i hi
  unfold endF
  unfold run at *
  rw [Run_z Try.func69 rfl (by rfl : ok 69 = true) (by rfl : cfg.keep 69 = [0, 1, 4, 5, 6, 12, 17, 24, 32, 36]) (by rfl : cfg.mode 69 = .pure) (by rfl : cfg.ord 69 = [])]
  by_cases hn : isN (evA es i)
  rotate_left
  · have d1 : decide (isN (es.getD i evZ)) = false := decide_eq_false hn
    simp (config := {contextual := true, maxSteps := 10000000, implicitDefEqProofs := false}) (disch := first | (and_intros <;> omega -splitDisjunctions) | (simp only [List.length_set, List.length_append, List.length_cons, List.length_nil]; and_intros <;> omega -splitDisjunctions) | fail) only [f0, f1, f2, f3, f4, f5, f6, g6, n1, d1, Try.f69, go_sem, ↓reduceIte, Nat.reduceEqDiff, Nat.reduceAdd, Nat.reduceMul, Nat.reduceLT, Nat.reduceLeDiff, reduceCtorEq, Int.reduceNe, Int.reduceEq, Int.reduceLT, Int.reduceLE, Int.reduceAdd, Int.reduceSub, Int.reduceMul, Int.reduceNeg, Int.reduceToNat, UInt8.reduceToNat, natLit, ty3, ty4, ty9, ty29, ty58]
    rw [if_neg hn]
  have d1 : decide (isN (es.getD i evZ)) = true := decide_eq_true hn
  simp (config := {contextual := true, maxSteps := 10000000, implicitDefEqProofs := false}) (disch := first | (and_intros <;> omega -splitDisjunctions) | (simp only [List.length_set, List.length_append, List.length_cons, List.length_nil]; and_intros <;> omega -splitDisjunctions) | fail) only [f0, f1, f2, f3, f4, f5, f6, g6, n1, d1, Try.f69, go_sem, ↓reduceIte, Nat.reduceEqDiff, Nat.reduceAdd, Nat.reduceMul, Nat.reduceLT, Nat.reduceLeDiff, reduceCtorEq, Int.reduceNe, Int.reduceEq, Int.reduceLT, Int.reduceLE, Int.reduceAdd, Int.reduceSub, Int.reduceMul, Int.reduceNeg, Int.reduceToNat, UInt8.reduceToNat, natLit, ty3, ty4, ty9, ty29, ty58]
  rw [if_pos hn]
  refine at_loopE fun c R hc hR => ?_
  have key : ∀ (m : Nat) (k : Nat) (kk cc : Int) (x1 x4 x12 x17 x24 x32 x36 : Option V), es.length - k < m → kk = k → -(k : Int) ≤ cc → cc ≤ k →
      zEv (leaveX (mkR Try.prog cfg ok [0, 1, 4, 5, 6, 12, 17, 24, 32, 36] H.length) .pure H [ResultVar.tmp 4]) (mkR Try.prog cfg ok [0, 1, 4, 5, 6, 12, 17, 24, 32, 36] H.length) (K.code (Code.loop c) :: K.blk 0 :: R) .nrm [some v, x1, x4, some (.int .i64 cc), some (.int .i64 kk), x12, x17, x24, x32, x36] (H) = some (.int .i64 (endGo es (es.length - k) k cc), H) := by
    intro m
    induction m with
    | zero => intro k kk cc x1 x4 x12 x17 x24 x32 x36 hm; omega
    | succ m ih =>
      intro k kk cc x1 x4 x12 x17 x24 x32 x36 hm hk hb1 hb2
      subst hk
      by_cases hlt : k < es.length
      rotate_left
      · have t1 : ((k : Int) < es.length) = False := eq_false (by omega)
        rw [zEv_round hc, ← hR]
        simp (config := {contextual := true, maxSteps := 10000000, implicitDefEqProofs := false}) (disch := first | (and_intros <;> omega -splitDisjunctions) | (simp only [List.length_set, List.length_append, List.length_cons, List.length_nil]; and_intros <;> omega -splitDisjunctions) | fail) only [t1, f0, f1, f2, f3, f4, f5, f6, Try.f69, go_sem, ↓reduceIte, Nat.reduceEqDiff, Nat.reduceAdd, Nat.reduceMul, Nat.reduceLT, Nat.reduceLeDiff, reduceCtorEq, Int.reduceNe, Int.reduceEq, Int.reduceLT, Int.reduceLE, Int.reduceAdd, Int.reduceSub, Int.reduceMul, Int.reduceNeg, Int.reduceToNat, UInt8.reduceToNat, natLit, ty3, ty4, ty9, ty29, ty58]
        rw [show es.length - k = 0 by omega]; rfl
      have t1 : ((k : Int) < es.length) = True := eq_true (by omega)
      have g6 := f6 k hlt
      have g7 := fun n K => h.loadD0 evC_len evZ (fun e => .int .i64 e.kind) (fun _ => rfl) k hlt n K
      rw [endGo_succ es hlt]
      rw [zEv_round hc, ← hR]
      simp (config := {contextual := true, maxSteps := 10000000, implicitDefEqProofs := false}) (disch := first | (and_intros <;> omega -splitDisjunctions) | (simp only [List.length_set, List.length_append, List.length_cons, List.length_nil]; and_intros <;> omega -splitDisjunctions) | fail) only [t1, f0, f1, f2, f3, f4, f5, f6, g6, g7, n2, Try.f69, go_sem, ↓reduceIte, Nat.reduceEqDiff, Nat.reduceAdd, Nat.reduceMul, Nat.reduceLT, Nat.reduceLeDiff, reduceCtorEq, Int.reduceNe, Int.reduceEq, Int.reduceLT, Int.reduceLE, Int.reduceAdd, Int.reduceSub, Int.reduceMul, Int.reduceNeg, Int.reduceToNat, UInt8.reduceToNat, natLit, ty3, ty4, ty9, ty29, ty58]
      rw [hR]
      have ih := fun c' (h1 : -((k + 1 : Nat) : Int) ≤ c') (h2 : c' ≤ ((k + 1 : Nat) : Int)) => ih (k + 1) ((k : Int) + 1) c'
      by_cases hC : isC (evA es k)
      · have h7 : ¬ (es.getD k evZ).kind = 7 := isC_7 hC
        simp only [stepC, if_pos hC, if_neg h7, decide_eq_true hC, if_true]
        by_cases h0 : cc + 1 = 0
        · rw [if_pos h0, if_pos h0]
        · rw [if_neg h0, if_neg h0]
          exact ih (cc + 1) (by omega) (by omega) _ _ _ _ _ _ _ (by omega) (by omega) (by omega) (by omega)
      · simp only [stepC, if_neg hC, decide_eq_false hC, Bool.false_eq_true, if_false]
        by_cases h7 : (es.getD k evZ).kind = 7
        · rw [if_pos h7]
          simp only [if_pos h7]
          by_cases h0 : cc - 1 = 0
          · rw [if_pos h0, if_pos h0]
          · rw [if_neg h0, if_neg h0]
            exact ih (cc - 1) (by omega) (by omega) _ _ _ _ _ _ _ (by omega) (by omega) (by omega) (by omega)
        · rw [if_neg h7]
          simp only [if_neg h7]
          by_cases h0 : cc = 0
          · rw [if_pos h0, if_pos h0]
          · rw [if_neg h0, if_neg h0]
            exact ih cc (by omega) (by omega) _ _ _ _ _ _ _ (by omega) (by omega) (by omega) (by omega)
  exact key (es.length + 1) i i 0 _ _ _ _ _ _ _ (by omega) rfl (by omega) (by omega)
end Go.Proofs.Ytcbjmggbbnpbpaa.Lg
namespace Go.Proofs.Ytcbjmggbbnpbpaa.Lg
set_option linter.unusedSimpArgs false
set_option linter.unusedVariables false
set_option maxRecDepth 100000
set_option maxHeartbeats 40000000
open Go.Proofs.Ytcbjmggbbnpbpaa

def inN (x : Nat) : List V := [.int .i64 x]
theorem inN_len (x : Nat) : (inN x).length = 1 := rfl
theorem run_l13Kids {v : V} {es : List Ev} {H : LH} (h : At H evC 8 v es) (hl : es.length ≤ 1048576) {i : Nat} (hi : i < es.length) (fl : Nat) :
    Ret (fun w H' => Hx H H' ∧ Own H.length H' inN 1 w (kidsF es i)) (run 47 [v, .int .i64 i] fl H) := by
  have n2 := fun e fl H => run_l13Coll e fl H
  rw [kidsF_A es i hi]
  have f1 := h.isTup; have f2 := h.len; have f3 := h.lenOk ty29; have f0 := h.one
  have f4 := fun L hp => (h.left (L := L)).con hp
  have f5 := h.idx (T := ty Try.prog) (t := 29) (by simp only [elemI, sizeO, ty3, ty4, ty9, ty29, ty58])
  have f6 := fun L => (h.left (L := L)).loadD evC_len evZ
  have f4 := fun L => h.ext (Hx.app (L := L)) |>.con (List.length_pos_iff.2 (by intro e; subst e; cases hi))
  have g6 := fun L K => f6 L i hi K
  unfold run at *
  rw [Run_z Try.func47 rfl (by rfl : ok 47 = true) (by rfl : cfg.keep 47 = [0, 1, 4, 5, 6, 7, 14, 28, 39]) (by rfl : cfg.mode 47 = .fresh) (by rfl : cfg.ord 47 = [])]
  by_cases hC : isC (evA es i)
  rotate_left
  · have d1 : decide (isC (es.getD i evZ)) = false := decide_eq_false hC
    simp (config := {contextual := true, maxSteps := 10000000, implicitDefEqProofs := false}) (disch := first | (and_intros <;> omega -splitDisjunctions) | (simp only [List.length_set, List.length_append, List.length_cons, List.length_nil]; and_intros <;> omega -splitDisjunctions) | fail) only [f0, f1, f2, f3, f4, f5, f6, g6, n2, d1, Try.f47, go_sem, ↓reduceIte, Nat.reduceEqDiff, Nat.reduceAdd, Nat.reduceMul, Nat.reduceLT, Nat.reduceLeDiff, reduceCtorEq, Int.reduceNe, Int.reduceEq, Int.reduceLT, Int.reduceLE, Int.reduceAdd, Int.reduceSub, Int.reduceMul, Int.reduceNeg, Int.reduceToNat, UInt8.reduceToNat, natLit, ty3, ty4, ty9, ty29, ty55, ty58]
    rw [if_neg hC]
    exact ⟨Hx.app, .inr ⟨H.length, rfl, by rw [cellsAt_app0]; rfl, Nat.le_refl _⟩⟩
  have d1 : decide (isC (es.getD i evZ)) = true := decide_eq_true hC
  simp (config := {contextual := true, maxSteps := 10000000, implicitDefEqProofs := false}) (disch := first | (and_intros <;> omega -splitDisjunctions) | (simp only [List.length_set, List.length_append, List.length_cons, List.length_nil]; and_intros <;> omega -splitDisjunctions) | fail) only [f0, f1, f2, f3, f4, f5, f6, g6, n2, d1, Try.f47, go_sem, ↓reduceIte, Nat.reduceEqDiff, Nat.reduceAdd, Nat.reduceMul, Nat.reduceLT, Nat.reduceLeDiff, reduceCtorEq, Int.reduceNe, Int.reduceEq, Int.reduceLT, Int.reduceLE, Int.reduceAdd, Int.reduceSub, Int.reduceMul, Int.reduceNeg, Int.reduceToNat, UInt8.reduceToNat, natLit, ty3, ty4, ty9, ty29, ty55, ty58]
  rw [if_pos hC]
  clear g6 f0 f1 f2 f3 f4 f5 f6
  refine at_loopR fun c R hc hR => ?_
  have key : ∀ (m : Nat) (k : Nat) (kk : Int) (o : V) (xs : List Nat) (B : LH) (x1 x4 x7 x14 x28 x39 : Option V), es.length + 1 - k < m → kk = k → k ≤ es.length → Hx H B → Own H.length B inN 1 o xs → xs.length ≤ k → xs ++ kidsA es k = kidsA es (i + 1) →
      Ret (fun w H' => Hx H H' ∧ Own H.length H' inN 1 w (kidsA es (i + 1))) (zEv (leaveX (mkR Try.prog cfg ok [0, 1, 4, 5, 6, 7, 14, 28, 39] H.length) .fresh H [ResultVar.tmp 4]) (mkR Try.prog cfg ok [0, 1, 4, 5, 6, 7, 14, 28, 39] H.length) (K.code (Code.loop c) :: K.blk 0 :: R) .nrm [some v, x1, x4, some o, some (.int .i64 kk), x7, x14, x28, x39] (B)) := by
    intro m
    induction m with
    | zero => intro k kk o xs B x1 x4 x7 x14 x28 x39 hm; omega
    | succ m ih =>
      intro k kk o xs B x1 x4 x7 x14 x28 x39 hm hk hkl hx ho hlx hfin
      subst hk
      have hlB := hx.len
      have o1 := (ho.at inN_len).isTup; have o2 := (ho.at inN_len).one
      have rB := h.ext hx
      have f1 := rB.isTup; have f2 := rB.len; have f3 := rB.lenOk ty29; have f0 := rB.one
      have f4 := fun hp => rB.con hp
      have f5 := rB.idx (T := ty Try.prog) (t := 29) (by simp only [elemI, sizeO, ty3, ty4, ty9, ty29, ty58])
      have f6 := rB.loadD evC_len evZ
      by_cases hlt : k < es.length
      rotate_left
      · have t1 : ((k : Int) < es.length) = False := eq_false (by omega)
        rw [kidsA_end es (by omega), List.append_nil] at hfin
        rw [zEv_round hc, ← hR]
        simp (config := {contextual := true, maxSteps := 10000000, implicitDefEqProofs := false}) (disch := first | (and_intros <;> omega -splitDisjunctions) | (simp only [List.length_set, List.length_append, List.length_cons, List.length_nil]; and_intros <;> omega -splitDisjunctions) | fail) only [t1, o1, o2, f0, f1, f2, f3, f4, f5, f6, Try.f47, go_sem, ↓reduceIte, Nat.reduceEqDiff, Nat.reduceAdd, Nat.reduceMul, Nat.reduceLT, Nat.reduceLeDiff, reduceCtorEq, Int.reduceNe, Int.reduceEq, Int.reduceLT, Int.reduceLE, Int.reduceAdd, Int.reduceSub, Int.reduceMul, Int.reduceNeg, Int.reduceToNat, UInt8.reduceToNat, natLit, ty3, ty4, ty9, ty29, ty55, ty58]
        rw [← hfin]
        exact ⟨hx, ho⟩
      have t1 : ((k : Int) < es.length) = True := eq_true (by omega)
      have g6 := f6 k hlt
      have n1 := fun fl H => run_l13Node (es.getD k evZ) fl H
      rw [kidsA_eq es hlt] at hfin
      by_cases hn : isN (evA es k)
      rotate_left
      · rw [decide_eq_false hn] at n1
        rw [if_neg hn, List.append_nil] at hfin
        unfold run at n1
        rw [zEv_round hc, ← hR]
        simp (config := {contextual := true, maxSteps := 10000000, implicitDefEqProofs := false}) (disch := first | (and_intros <;> omega -splitDisjunctions) | (simp only [List.length_set, List.length_append, List.length_cons, List.length_nil]; and_intros <;> omega -splitDisjunctions) | fail) only [t1, g6, n1, o1, o2, f0, f1, f2, f3, f4, f5, f6, Try.f47, go_sem, ↓reduceIte, Nat.reduceEqDiff, Nat.reduceAdd, Nat.reduceMul, Nat.reduceLT, Nat.reduceLeDiff, reduceCtorEq, Int.reduceNe, Int.reduceEq, Int.reduceLT, Int.reduceLE, Int.reduceAdd, Int.reduceSub, Int.reduceMul, Int.reduceNeg, Int.reduceToNat, UInt8.reduceToNat, natLit, ty3, ty4, ty9, ty29, ty55, ty58]
        rw [← hfin]
        exact ⟨hx, ho⟩
      rw [decide_eq_true hn] at n1
      rw [if_pos hn] at hfin
      have ap := fun L => app_own1 (fl := H.length) (ho.ext (Hx.app (L := L))) inN_len (Nat.le_refl _) 8 (by unfold mostCells; omega) k
      simp only [inN] at ap
      have hx2 : Hx H (killV (B ++ [Blk.cells [V.int .i64 (k : Int)]]) o ++ [.cells (rows inN (xs ++ [k]))]) := app_hx (hx.trans Hx.app) (ho.ext Hx.app) (Nat.le_refl _)
      have an := app_new (enc := inN) (z := 1) (v := o) (show H.length ≤ (B ++ [Blk.cells [V.int .i64 (k : Int)]]).length by rw [List.length_append]; omega) (xs ++ [k])
      have e1 := fun fl => run_l13End (h.ext hx2) hl hlt fl
      have hE := endF_rng es hlt
      have hE1 : -1 ≤ endF es k := by omega
      have hE2 : endF es k < es.length := by omega
      simp only [List.length_append, List.length_cons, List.length_nil, Nat.zero_add] at an
      unfold run at n1 e1
      rw [zEv_round hc, ← hR]
      simp (config := {contextual := true, maxSteps := 10000000, implicitDefEqProofs := false}) (disch := first | (and_intros <;> omega -splitDisjunctions) | (simp only [List.length_set, List.length_append, List.length_cons, List.length_nil]; and_intros <;> omega -splitDisjunctions) | fail) only [t1, g6, n1, o1, o2, ap, e1, f0, f1, f2, f3, f4, f5, f6, Try.f47, go_sem, ↓reduceIte, Nat.reduceEqDiff, Nat.reduceAdd, Nat.reduceMul, Nat.reduceLT, Nat.reduceLeDiff, reduceCtorEq, Int.reduceNe, Int.reduceEq, Int.reduceLT, Int.reduceLE, Int.reduceAdd, Int.reduceSub, Int.reduceMul, Int.reduceNeg, Int.reduceToNat, UInt8.reduceToNat, natLit, ty3, ty4, ty9, ty29, ty55, ty58]
      rw [hR]
      refine Ret_ite (fun hw => ?_) (fun hw => ?_)
      · rw [if_pos hw] at hfin
        rw [Ret_some, ← hfin]
        exact ⟨hx2, an⟩
      · rw [if_neg hw] at hfin
        exact ih (endF es k + 1).toNat (endF es k + 1) _ (xs ++ [k]) _ _ _ _ _ _ _ (by omega) (by omega) (by omega) hx2 an (by simp; omega) (by rw [List.append_assoc]; exact hfin)
  exact key (es.length + 1) (i + 1) ((i : Int) + 1) (.sl H.length 0 1 0 0) [] _ _ _ _ _ _ _ (by omega) (by omega) (by omega) Hx.app (.inr ⟨H.length, rfl, by rw [cellsAt_app0]; rfl, Nat.le_refl _⟩) (by simp) (by rw [List.nil_append])
theorem run_l13Def {v : V} {es : List Ev} {H : LH} (h : At H evC 8 v es) (hl : es.length ≤ 1048576) {i : Nat} (hi : i < es.length) (fl : Nat) :
    run 43 [v, .int .i64 i] fl H = some (.int .i64 (defF es i), H) := by
  have f1 := h.isTup; have f2 := h.len; have f3 := h.lenOk ty29; have f0 := h.one
  have f4 := fun hp => h.con hp
  have f5 := h.idx (T := ty Try.prog) (t := 29) (by simp only [elemI, sizeO, ty3, ty4, ty9, ty29, ty58])
  have f6 := h.loadD evC_len evZ
  have g3 := fun n K => h.loadDF evC_len evZ (fun e => .str e.text) (j := 3) (fun _ => rfl) i hi n K
  unfold defF
  generalize hT : (evA es i).text = T
  have g3 : ∀ n K, cellO K false (offV v + i * 8 + 3) n (some (conV H v)) = some (.str T, K) := fun n K => by rw [g3, ← hT]
  unfold run at *
  rw [Run_z Try.func43 rfl (by rfl : ok 43 = true) (by rfl : cfg.keep 43 = [0, 1, 4, 5, 6, 18, 46, 56]) (by rfl : cfg.mode 43 = .pure) (by rfl : cfg.ord 43 = [])]
  simp (config := {contextual := true, maxSteps := 10000000, implicitDefEqProofs := false}) (disch := first | (and_intros <;> omega -splitDisjunctions) | (simp only [List.length_set, List.length_append, List.length_cons, List.length_nil]; and_intros <;> omega -splitDisjunctions) | fail) only [f0, f1, f2, f3, f4, f5, f6, Try.f43, go_sem, ↓reduceIte, Nat.reduceEqDiff, Nat.reduceAdd, Nat.reduceMul, Nat.reduceLT, Nat.reduceLeDiff, reduceCtorEq, Int.reduceNe, Int.reduceEq, Int.reduceLT, Int.reduceLE, Int.reduceAdd, Int.reduceSub, Int.reduceMul, Int.reduceNeg, Int.reduceToNat, UInt8.reduceToNat, natLit, ty3, ty4, ty9, ty29, ty58]
  refine at_loopE fun c R hc hR => ?_
  have key : ∀ (m : Nat) (q : Nat) (kk : Int) (x4 x6 x18 x46 x56 : Option V), q < m → kk = q - 1 → q ≤ i →
      zEv (leaveX (mkR Try.prog cfg ok [0, 1, 4, 5, 6, 18, 46, 56] H.length) .pure H [ResultVar.tmp 4]) (mkR Try.prog cfg ok [0, 1, 4, 5, 6, 18, 46, 56] H.length) (K.code (Code.loop c) :: K.blk 0 :: R) .nrm [some v, some (.int .i64 i), x4, some (.int .i64 kk), x6, x18, x46, x56] (H) = some (.int .i64 (defGo es T i q), H) := by
    intro m
    induction m with
    | zero => intro q kk x4 x6 x18 x46 x56 hm; omega
    | succ m ih =>
      intro q kk x4 x6 x18 x46 x56 hm hk hq
      subst hk
      cases q with
      | zero =>
        rw [show (((0 : Nat) : Int) - 1) = -1 from rfl, zEv_round hc, ← hR]
        simp (config := {contextual := true, maxSteps := 10000000, implicitDefEqProofs := false}) (disch := first | (and_intros <;> omega -splitDisjunctions) | (simp only [List.length_set, List.length_append, List.length_cons, List.length_nil]; and_intros <;> omega -splitDisjunctions) | fail) only [f0, f1, f2, f3, f4, f5, f6, Try.f43, go_sem, ↓reduceIte, Nat.reduceEqDiff, Nat.reduceAdd, Nat.reduceMul, Nat.reduceLT, Nat.reduceLeDiff, reduceCtorEq, Int.reduceNe, Int.reduceEq, Int.reduceLT, Int.reduceLE, Int.reduceAdd, Int.reduceSub, Int.reduceMul, Int.reduceNeg, Int.reduceToNat, UInt8.reduceToNat, natLit, ty3, ty4, ty9, ty29, ty58]
        rfl
      | succ k =>
        have hlt : k < es.length := by omega
        have g0 := fun n K => h.loadD0 evC_len evZ (fun e => .int .i64 e.kind) (fun _ => rfl) k hlt n K
        have g4 := fun n K => h.loadDF evC_len evZ (fun e => .str e.anchor) (j := 4) (fun _ => rfl) k hlt n K
        have g6 := f6 k hlt
        have n1 := fun fl H => run_l13Node (es.getD k evZ) fl H
        have e1 := fun fl => run_l13End h hl hlt fl
        rw [show (((k + 1 : Nat) : Int) - 1) = (k : Int) by omega]
        have t1 : ((k : Int) ≥ 0) = True := eq_true (by omega)
        unfold run at n1 e1
        rw [zEv_round hc, ← hR]
        simp (config := {contextual := true, maxSteps := 10000000, implicitDefEqProofs := false}) (disch := first | (and_intros <;> omega -splitDisjunctions) | (simp only [List.length_set, List.length_append, List.length_cons, List.length_nil]; and_intros <;> omega -splitDisjunctions) | fail) only [t1, g0, g3, g4, g6, n1, e1, f0, f1, f2, f3, f4, f5, f6, Try.f43, go_sem, ↓reduceIte, Nat.reduceEqDiff, Nat.reduceAdd, Nat.reduceMul, Nat.reduceLT, Nat.reduceLeDiff, reduceCtorEq, Int.reduceNe, Int.reduceEq, Int.reduceLT, Int.reduceLE, Int.reduceAdd, Int.reduceSub, Int.reduceMul, Int.reduceNeg, Int.reduceToNat, UInt8.reduceToNat, natLit, ty3, ty4, ty9, ty29, ty58]
        rw [hR]
        unfold defGo
        refine ite_E (fun w => ?_) (fun w => ?_)
        · rw [if_pos w]
        rw [if_neg w]
        refine ite_E (fun w => ?_) (fun w => ?_)
        · rw [if_pos w]
          refine ite_E (fun w => ?_) (fun w => ?_)
          · rw [if_pos w]
          · rw [if_neg w]
        rw [if_neg (show ¬ (isN (evA es k) ∧ (evA es k).anchor ≠ ⟨#[]⟩ ∧ (evA es k).anchor = T) from w)]
        exact ih k ((k : Int) - 1) _ _ _ _ _ (by omega) rfl (by omega)
  exact key (i + 1) i ((i : Int) - 1) _ _ _ _ _ (by omega) rfl (Nat.le_refl _)
end Go.Proofs.Ytcbjmggbbnpbpaa.Lg
namespace Go.Proofs.Ytcbjmggbbnpbpaa.Lg
set_option linter.unusedSimpArgs false
set_option linter.unusedVariables false
set_option maxRecDepth 100000
set_option maxHeartbeats 40000000
open Go.Proofs.Ytcbjmggbbnpbpaa

/-- what the reference keeps of what is open -/
def opn (l : List (Int × Int)) : List V := l.map (fun x => .int .i64 (if x.1 = 3 then -1 else x.2))
theorem opn_len (l : List (Int × Int)) : (opn l).length = l.length := by simp [opn]
theorem opn_cell {l : List (Int × Int)} {i : Nat} (h : i < l.length) (g : List V) : (opn l ++ g)[i]? = some (.int .i64 (if (l.getD i (0, 0)).1 = 3 then -1 else (l.getD i (0, 0)).2)) := by
  rw [List.getElem?_append_left (by rw [opn_len]; exact h)]
  simp [opn, List.getElem?_map, h, List.getD_eq_getElem?_getD]
def SAt (f : Nat) (H : LH) (v : V) (st : List (Int × Int)) : Prop :=
  ∃ kb g, v = .sl kb 0 1 st.length (st.length + g.length) ∧ H.cellsAt kb = some (opn st ++ g) ∧ f ≤ kb
def Kd (s : NS) : Prop := ∀ x ∈ s.st, x.1 = 3 ∨ x.1 = 4
theorem nodeN_kd {s t : NS} (h : Kd s) (hs : nodeN s = some t) : Kd t := by
  unfold nodeN at hs
  by_cases h0 : s.st = []
  · rw [if_pos h0] at hs
    by_cases h1 : s.doc = 1
    · rw [if_pos h1] at hs; cases hs; exact fun x hx => by cases hx
    · rw [if_neg h1] at hs; cases hs
  · rw [if_neg h0] at hs
    cases hs
    intro x hx
    rcases List.mem_or_eq_of_mem_set hx with hx | hx
    · exact h x hx
    · have := h _ (top_mem h0); subst hx; exact this
theorem stepN_kd {s t : NS} {k : Int} (h : Kd s) (hs : stepN s k = some t) : Kd t := by
  unfold stepN at hs
  by_cases k2 : k = 2
  · rw [if_pos k2] at hs
    by_cases hd : s.doc = 0
    · rw [if_pos hd] at hs; cases hs; exact h
    · rw [if_neg hd] at hs; cases hs
  rw [if_neg k2] at hs
  by_cases k5 : k = 5 ∨ k = 6
  · rw [if_pos k5] at hs; exact nodeN_kd h hs
  rw [if_neg k5] at hs
  by_cases k3 : k = 3 ∨ k = 4
  · rw [if_pos k3] at hs
    cases hn : nodeN s with
    | none => rw [hn] at hs; cases hs
    | some u =>
      rw [hn] at hs
      cases hs
      intro x hx
      rcases List.mem_append.1 hx with hx | hx
      · exact nodeN_kd h hn x hx
      · rw [List.mem_singleton.1 hx]; exact k3
  rw [if_neg k3] at hs
  by_cases k7 : k = 7
  · rw [if_pos k7] at hs
    by_cases hc : s.st = [] ∨ (s.top.1 = 4 ∧ s.top.2 % 2 ≠ 0)
    · rw [if_pos hc] at hs; cases hs
    · rw [if_neg hc] at hs; cases hs
      exact fun x hx => h x (List.dropLast_subset _ hx)
  rw [if_neg k7] at hs
  by_cases k8 : k = 8
  · rw [if_pos k8] at hs
    by_cases hd : s.doc = 2 ∧ s.st = []
    · rw [if_pos hd] at hs; cases hs; exact h
    · rw [if_neg hd] at hs; cases hs
  · rw [if_neg k8] at hs; cases hs
theorem opn_app (l : List (Int × Int)) (k m : Int) : opn (l ++ [(k, m)]) = opn l ++ [.int .i64 (if k = 3 then -1 else m)] := by simp [opn]
theorem push_full {fl kb n : Nat} {X L : LH} {W : List V} {x : V} (hc : X.cellsAt kb = some W) (hn : W.length = n) (hf : fl ≤ kb) (hb : n ≤ 1048576) :
    appendV fl 1 8 (X ++ L) 1 [x] (.sl kb 0 1 n n) = some (.sl (X.length + L.length) 0 1 (n + 1) (n + 1), X.set kb .dead ++ (L ++ [.cells (W ++ [x])])) := by
  rw [ap_full (cellsAt_left hc) hn hf 8 (by omega), List.length_append, List.set_append_left _ _ (cellsAt_lt hc), List.append_assoc]
theorem push_room {fl kb n : Nat} {X L : LH} {W g : List V} {x y : V} (hc : X.cellsAt kb = some (W ++ y :: g)) (hn : W.length = n) (hf : fl ≤ kb) :
    appendV fl 1 8 (X ++ L) 1 [x] (.sl kb 0 1 n (n + (g.length + 1))) = some (.sl kb 0 1 (n + 1) (n + (g.length + 1)), X.set kb (.cells (W ++ x :: g)) ++ L) := by
  rw [ap_room (cellsAt_left hc) (by rw [List.length_append, hn, List.length_cons]) (by omega) hf 8 x, set_mid hn, List.set_append_left _ _ (cellsAt_lt hc)]
theorem opn_same {st : List (Int × Int)} {n : Nat} {tp : Int × Int} (hn : st.length = n + 1) (htp : st.getD n (0, 0) = tp) (h3 : tp.1 = 3) : opn (st.set n (tp.1, tp.2 + 1)) = opn st := by
  unfold opn
  rw [List.map_set]
  apply List.ext_getElem?
  intro i
  rw [List.getElem?_set, List.length_map]
  by_cases hi : n = i
  · subst hi
    rw [if_pos rfl, if_pos (by omega), List.getElem?_map, List.getElem?_eq_getElem (by omega)]
    have : st[n]'(by omega) = tp := by rw [← htp, List.getD_eq_getElem?_getD, List.getElem?_eq_getElem (by omega)]; rfl
    rw [this]; simp [h3]
  · rw [if_neg hi]
theorem opn_up {st : List (Int × Int)} {n : Nat} {tp : Int × Int} (hn : st.length = n + 1) (h4 : tp.1 = 4) (g : List V) : (opn st ++ g).set n (.int .i64 (tp.2 + 1)) = opn (st.set n (tp.1, tp.2 + 1)) ++ g := by
  rw [List.set_append_left _ _ (by rw [opn_len]; omega)]
  unfold opn
  rw [List.map_set]
  simp [h4]
/-- the first loop of a code -/
def loopOf : Code → Option Code
  | .seq a b => match loopOf a with | some x => some x | none => loopOf b
  | .block _ c => loopOf c
  | .loop c => some c
  | _ => none
def afterN (s : NS) (k : Int) (r : List Ev) : Bool := match stepN s k with | none => false | some t => goN t r
end Go.Proofs.Ytcbjmggbbnpbpaa.Lg
namespace Go.Proofs.Ytcbjmggbbnpbpaa.Lg
set_option linter.unusedSimpArgs false
set_option linter.unusedVariables false
set_option maxRecDepth 100000
set_option maxHeartbeats 40000000
open Go.Proofs.Ytcbjmggbbnpbpaa

theorem nst_rnd3 (v : V) (es : List Ev) (fl : Nat) (H : LH) (h : At H evC 8 v es) (hl : es.length ≤ 1048576) (j : Nat) (hlt : j < es.length) (hj0 : 0 < j) (B : LH) (hxB : Hx H B) (doc : Int) (st : List (Int × Int)) (kb : Nat) (g : List V)
    (hcb : B.cellsAt kb = some (opn st ++ g)) (hkb : H.length ≤ kb) (hF : Few j ⟨doc, st⟩) (hKd : Kd ⟨doc, st⟩) (e2 : ∀ fl H, run 68 [.agg (evC (es.getD j evZ))] fl H = some (.bool true, H)) (hk : (es.getD j evZ).kind = 3)
    (hne : stepN ⟨doc, st⟩ 3 ≠ none) (c : Code) (R : List K) (hc0 : Try.f42.body.bind loopOf = some c)
    (hih : ∀ (s : NS) (u : V) (B : LH) (x2 x5 x6 x7 x8 x9 x14 x33 x36 x49 x54 x55 x62 x64 x69 x78 x84 x88 x108 x112 x121 x122 : Option V), Hx H B → SAt H.length B u s.st → Few (j + 1) s → Kd s →
      zEv (leaveX (mkR Try.prog cfg ok [0, 2, 3, 4, 5, 6, 7, 8, 9, 11, 12, 13, 14, 33, 36, 49, 54, 55, 62, 64, 69, 78, 84, 88, 108, 112, 121, 122] H.length) .pure H [ResultVar.tmp 2]) (mkR Try.prog cfg ok [0, 2, 3, 4, 5, 6, 7, 8, 9, 11, 12, 13, 14, 33, 36, 49, 54, 55, 62, 64, 69, 78, 84, 88, 108, 112, 121, 122] H.length) (K.code (Code.loop c) :: K.blk 0 :: R) .nrm [some v, x2, some u, some (.int .i64 s.doc), x5, x6, x7, x8, x9, some v, some (.int .i64 es.length), some (.int .i64 ((j : Int) + 1)), x14, x33, x36, x49, x54, x55, x62, x64, x69, x78, x84, x88, x108, x112, x121, x122] B = some (.bool (goN s (es.drop (j + 1))), H))
    (x2 x5 x6 x7 x8 x9 x14 x33 x36 x49 x54 x55 x62 x64 x69 x78 x84 x88 x108 x112 x121 x122 : Option V) :
    zEv (leaveX (mkR Try.prog cfg ok [0, 2, 3, 4, 5, 6, 7, 8, 9, 11, 12, 13, 14, 33, 36, 49, 54, 55, 62, 64, 69, 78, 84, 88, 108, 112, 121, 122] H.length) .pure H [ResultVar.tmp 2]) (mkR Try.prog cfg ok [0, 2, 3, 4, 5, 6, 7, 8, 9, 11, 12, 13, 14, 33, 36, 49, 54, 55, 62, 64, 69, 78, 84, 88, 108, 112, 121, 122] H.length) (K.code (Code.loop c) :: K.blk 0 :: R) .nrm [some v, x2, some (.sl kb 0 1 st.length (st.length + g.length)), some (.int .i64 doc), x5, x6, x7, x8, x9, some v, some (.int .i64 es.length), some (.int .i64 (j : Int)), x14, x33, x36, x49, x54, x55, x62, x64, x69, x78, x84, x88, x108, x112, x121, x122] B = some (.bool (afterN ⟨doc, st⟩ 3 (es.drop (j + 1))), H) := by
  have i1 := h.isTup
  simp only [Try.f42, Option.bind_some, loopOf] at hc0
  have hc := Option.some.inj hc0
  clear hc0
  have f1 := h.isTup; have f2 := h.len; have f3 := h.lenOk ty29; have f0 := h.one
  have f4 := fun hp => h.con hp
  have f5 := h.idx (T := ty Try.prog) (t := 29) (by simp only [elemI, sizeO, ty3, ty4, ty9, ty29, ty58])
  have f6 := h.loadD evC_len evZ
  have t1 : ((j : Int) < es.length) = True := eq_true (by omega)
  have t2 : ((j : Int) = 0) = False := eq_false (by omega)
  have hlB := hxB.len
  have rB := h.ext hxB
  have k1 := rB.isTup; have k2 := rB.len; have k3 := rB.lenOk ty29; have k0 := rB.one
  have k4 := fun hp => rB.con hp
  have k5 := rB.idx (T := ty Try.prog) (t := 29) (by simp only [elemI, sizeO, ty3, ty4, ty9, ty29, ty58])
  have k6 := rB.loadD evC_len evZ
  have k6 := k6 j hlt
  have hkB := cellsAt_lt hcb
  have hcB : ∀ L, LH.cellsAt (B ++ L) kb = some (opn st ++ g) := fun L => cellsAt_left hcb
  have hmf := fun t hs => stepN_few (t := t) (k := (es.getD j evZ).kind) hF hs
  have hmk := fun t hs => stepN_kd (t := t) (k := (es.getD j evZ).kind) hKd hs
  generalize hev2 : es.getD j evZ = ev at *
  obtain ⟨kind, style, flag, text, anchor, tag, place, code⟩ := ev
  have hx2 : ∀ L, Hx H (B ++ L) := fun L => hxB.trans Hx.app
  have hx3 : ∀ x L, Hx H (B.set kb x ++ L) := fun x L => (hxB.set hkb).trans Hx.app
  have sw : ∀ L x, List.set (B ++ L) kb x = List.set B kb x ++ L := fun L x => List.set_append_left _ _ hkB
  have sw2 : ∀ L x y, List.set (List.set B kb x ++ L) kb y = List.set B kb y ++ L := fun L x y => by rw [List.set_append_left _ _ (by rw [List.length_set]; exact hkB), List.set_set]
  have c4 : ∀ x L, LH.cellsAt (List.set B kb x ++ L) B.length = LH.cellsAt L 0 := fun x L => cellsAt_appS0 B L kb x
  have c6 : ∀ x L i, LH.cellsAt (List.set B kb x ++ L) (B.length + i) = LH.cellsAt L i := fun x L i => cellsAt_appS B L kb i x
  have c5 : ∀ x L, LH.cellsAt (List.set B kb (.cells x) ++ L) kb = some x := fun x L => cellsAt_left (cellsAt_set hkB)
  simp only at hk
  have hl0 := hF.1
  simp only at hl0
  subst hk
  unfold afterN
  have hst0 : stepN ⟨doc, st⟩ 3 = (nodeN ⟨doc, st⟩).map (fun t => ⟨t.doc, t.st ++ [(3, 0)]⟩) := rfl
  rw [hst0] at hmf hmk ⊢
  by_cases h0 : st = []
  · subst h0
    simp only [List.length_nil, Nat.zero_add] at *
    by_cases hd : doc = 1
    · subst hd
      have hst : (nodeN ⟨1, []⟩).map (fun t => (⟨t.doc, t.st ++ [(3, 0)]⟩ : NS)) = some ⟨2, [(3, 0)]⟩ := rfl
      rw [hst]
      cases g with
      | nil =>
        have ap := fun L x => push_full (fl := H.length) (L := L) (x := x) (n := 0) hcb rfl hkb (by decide)
        simp only [List.length_nil] at *
        unfold run evC at *
        rw [zEv_round hc]
        simp (config := {contextual := true, maxSteps := 10000000, implicitDefEqProofs := false}) (disch := first | (and_intros <;> omega -splitDisjunctions) | (simp only [List.length_set, List.length_append, List.length_cons, List.length_nil]; and_intros <;> omega -splitDisjunctions) | fail) only [t1, t2, ap, c4, c6, sw, sw2, k0, k1, k2, k3, k4, k5, k6, e2, Try.f42, go_sem, ↓reduceIte, Nat.reduceEqDiff, Nat.reduceAdd, Nat.reduceMul, Nat.reduceLT, Nat.reduceLeDiff, reduceCtorEq, Int.reduceNe, Int.reduceEq, Int.reduceLT, Int.reduceLE, Int.reduceAdd, Int.reduceSub, Int.reduceMul, Int.reduceNeg, Int.reduceToNat, UInt8.reduceToNat, natLit, ty3, ty4, ty9, ty29, ty55, ty58]
        refine hih ⟨_, _⟩ _ _ _ _ _ _ _ _ _ _ _ _ _ _ _ _ _ _ _ _ _ _ _ _ (hx3 _ _) ?_ (hmf _ hst) (hmk _ hst)
        refine ⟨B.length + 2, [], ?_, ?_, by omega⟩
        · rfl
        · rw [c6]; rfl
      | cons g0 g =>
        have ap := fun L x => push_room (fl := H.length) (L := L) (x := x) (n := 0) (W := []) hcb rfl hkb
        simp only [List.length_cons, Nat.zero_add] at *
        unfold run evC at *
        rw [zEv_round hc]
        simp (config := {contextual := true, maxSteps := 10000000, implicitDefEqProofs := false}) (disch := first | (and_intros <;> omega -splitDisjunctions) | (simp only [List.length_set, List.length_append, List.length_cons, List.length_nil]; and_intros <;> omega -splitDisjunctions) | fail) only [t1, t2, ap, c4, c6, sw, sw2, k0, k1, k2, k3, k4, k5, k6, e2, Try.f42, go_sem, ↓reduceIte, Nat.reduceEqDiff, Nat.reduceAdd, Nat.reduceMul, Nat.reduceLT, Nat.reduceLeDiff, reduceCtorEq, Int.reduceNe, Int.reduceEq, Int.reduceLT, Int.reduceLE, Int.reduceAdd, Int.reduceSub, Int.reduceMul, Int.reduceNeg, Int.reduceToNat, UInt8.reduceToNat, natLit, ty3, ty4, ty9, ty29, ty55, ty58]
        refine hih ⟨_, _⟩ _ _ _ _ _ _ _ _ _ _ _ _ _ _ _ _ _ _ _ _ _ _ _ _ (hx3 _ _) ?_ (hmf _ hst) (hmk _ hst)
        refine ⟨kb, g, ?_, ?_, hkb⟩
        · simp only [List.length_singleton, Nat.add_comm]
        · rw [c5]; rfl
    · have hst : nodeN ⟨doc, []⟩ = none := by unfold nodeN; rw [if_pos rfl, if_neg hd]
      exact absurd (by rw [hst0, hst]; rfl) hne
  · have hp : 0 < st.length := List.length_pos_iff.2 h0
    obtain ⟨n, hn⟩ : ∃ n, st.length = n + 1 := ⟨st.length - 1, by omega⟩
    have hq : PLift (st.length = n + 1) := ⟨hn⟩
    have q1 := fun g => opn_cell (l := st) (i := n) (by omega) g
    have q3 : (opn st ++ g).length = n + 1 + g.length := by rw [List.length_append, opn_len, hn]
    have hmem : st.getD n (0, 0) ∈ st := by rw [List.getD_eq_getElem?_getD, List.getElem?_eq_getElem (by omega)]; exact List.getElem_mem _
    have q2 := hF.2 _ hmem
    have q4 := hKd _ hmem
    have hst : (nodeN ⟨doc, st⟩).map (fun t => (⟨t.doc, t.st ++ [(3, 0)]⟩ : NS)) = some ⟨doc, st.set n ((st.getD n (0, 0)).1, (st.getD n (0, 0)).2 + 1) ++ [(3, 0)]⟩ := by
      unfold nodeN NS.top
      simp only [h0, if_false, hn, Nat.add_sub_cancel, Option.map_some]
    rw [hst]
    generalize htp : st.getD n (0, 0) = tp at *
    have t3 : ((((n : Nat) + 1 : Nat) : Int) - 1 < 0) = False := eq_false (by omega)
    have t4 : ((((n : Nat) + 1 : Nat) : Int) - 1).toNat = n := by omega
    have hlo : (opn st).length = n + 1 := by rw [opn_len, hn]
    have hls : (opn (st.set n (tp.1, tp.2 + 1))).length = n + 1 := by rw [opn_len, List.length_set, hn]
    rcases q4 with q4 | q4
    · simp only [q4, if_true] at q1
      have hw : opn (st.set n (tp.1, tp.2 + 1)) = opn st := opn_same hn htp q4
      simp only [hn] at *
      cases g with
      | nil =>
        have q10 := q1 []
        simp only [List.append_nil] at q10
        have ap := fun L x => push_full (fl := H.length) (L := L) (x := x) (n := n + 1) (W := opn st ++ []) hcb (by simpa using hlo) hkb (by omega)
        simp only [List.length_nil, Nat.add_zero, List.append_nil] at *
        unfold run evC at *
        rw [zEv_round hc]
        simp (config := {contextual := true, maxSteps := 10000000, implicitDefEqProofs := false}) (disch := first | (and_intros <;> omega -splitDisjunctions) | (simp only [List.length_set, List.length_append, List.length_cons, List.length_nil]; and_intros <;> omega -splitDisjunctions) | fail) only [t1, t2, t3, t4, q1, q10, q3, hcB, hn, ap, c4, c6, sw, sw2, k0, k1, k2, k3, k4, k5, k6, e2, Try.f42, go_sem, ↓reduceIte, Nat.reduceEqDiff, Nat.reduceAdd, Nat.reduceMul, Nat.reduceLT, Nat.reduceLeDiff, reduceCtorEq, Int.reduceNe, Int.reduceEq, Int.reduceLT, Int.reduceLE, Int.reduceAdd, Int.reduceSub, Int.reduceMul, Int.reduceNeg, Int.reduceToNat, UInt8.reduceToNat, natLit, ty3, ty4, ty9, ty29, ty55, ty58]
        refine hih ⟨_, _⟩ _ _ _ _ _ _ _ _ _ _ _ _ _ _ _ _ _ _ _ _ _ _ _ _ (hx3 _ _) ?_ (hmf _ hst) (hmk _ hst)
        refine ⟨B.length + 2, [], ?_, ?_, by omega⟩
        · simp only [List.length_append, List.length_set, List.length_singleton, List.length_nil, List.length_cons, hq.down, Nat.add_zero, Nat.zero_add]
        · rw [c6, opn_app, hw]; simp only [Int.reduceEq, if_true, if_false, List.append_nil]; rfl
      | cons g0 g =>
        have ap := fun L x => push_room (fl := H.length) (L := L) (x := x) (n := n + 1) (W := opn st) hcb hlo hkb
        simp only [List.length_cons] at *
        unfold run evC at *
        rw [zEv_round hc]
        simp (config := {contextual := true, maxSteps := 10000000, implicitDefEqProofs := false}) (disch := first | (and_intros <;> omega -splitDisjunctions) | (simp only [List.length_set, List.length_append, List.length_cons, List.length_nil]; and_intros <;> omega -splitDisjunctions) | fail) only [t1, t2, t3, t4, q1, q3, hcB, hn, ap, c4, c6, sw, sw2, k0, k1, k2, k3, k4, k5, k6, e2, Try.f42, go_sem, ↓reduceIte, Nat.reduceEqDiff, Nat.reduceAdd, Nat.reduceMul, Nat.reduceLT, Nat.reduceLeDiff, reduceCtorEq, Int.reduceNe, Int.reduceEq, Int.reduceLT, Int.reduceLE, Int.reduceAdd, Int.reduceSub, Int.reduceMul, Int.reduceNeg, Int.reduceToNat, UInt8.reduceToNat, natLit, ty3, ty4, ty9, ty29, ty55, ty58]
        refine hih ⟨_, _⟩ _ _ _ _ _ _ _ _ _ _ _ _ _ _ _ _ _ _ _ _ _ _ _ _ (hx3 _ _) ?_ (hmf _ hst) (hmk _ hst)
        refine ⟨kb, g, ?_, ?_, hkb⟩
        · simp only [List.length_append, List.length_set, List.length_singleton, List.length_nil, List.length_cons, hq.down, Nat.add_zero, Nat.zero_add, show n + 1 + 1 + g.length = n + 1 + (g.length + 1) by omega]
        · rw [c5, opn_app, hw]; simp
    · simp only [q4, if_false, Int.reduceEq] at q1
      have hw : (opn st ++ g).set n (.int .i64 (tp.2 + 1)) = opn (st.set n (tp.1, tp.2 + 1)) ++ g := opn_up hn q4 g
      have hcS : LH.cellsAt (B.set kb (.cells (opn (st.set n (tp.1, tp.2 + 1)) ++ g))) kb = some (opn (st.set n (tp.1, tp.2 + 1)) ++ g) := cellsAt_set hkB
      simp only [hn] at *
      generalize hS2 : st.set n (tp.1, tp.2 + 1) = s2 at *
      cases g with
      | nil =>
        have q10 := q1 []
        simp only [List.append_nil] at q10
        have ap := fun L x => push_full (fl := H.length) (L := L) (x := x) (n := n + 1) (W := opn s2 ++ []) hcS (by simpa using hls) hkb (by omega)
        simp only [List.length_nil, Nat.add_zero, List.append_nil, List.length_set, List.set_set] at *
        unfold run evC at *
        rw [zEv_round hc]
        simp (config := {contextual := true, maxSteps := 10000000, implicitDefEqProofs := false}) (disch := first | (and_intros <;> omega -splitDisjunctions) | (simp only [List.length_set, List.length_append, List.length_cons, List.length_nil]; and_intros <;> omega -splitDisjunctions) | fail) only [t1, t2, t3, t4, q1, q10, q2, q3, hw, hcB, hn, ap, c4, c5, c6, sw, sw2, k0, k1, k2, k3, k4, k5, k6, e2, Try.f42, go_sem, ↓reduceIte, Nat.reduceEqDiff, Nat.reduceAdd, Nat.reduceMul, Nat.reduceLT, Nat.reduceLeDiff, reduceCtorEq, Int.reduceNe, Int.reduceEq, Int.reduceLT, Int.reduceLE, Int.reduceAdd, Int.reduceSub, Int.reduceMul, Int.reduceNeg, Int.reduceToNat, UInt8.reduceToNat, natLit, ty3, ty4, ty9, ty29, ty55, ty58]
        refine hih ⟨_, _⟩ _ _ _ _ _ _ _ _ _ _ _ _ _ _ _ _ _ _ _ _ _ _ _ _ (hx3 _ _) ?_ (hmf _ hst) (hmk _ hst)
        refine ⟨B.length + 2, [], ?_, ?_, by omega⟩
        · rw [← hS2]; simp only [List.length_append, List.length_set, List.length_singleton, List.length_nil, List.length_cons, hq.down, Nat.add_zero, Nat.zero_add]
        · rw [c6, opn_app]; simp only [Int.reduceEq, if_true, if_false, List.append_nil]; rfl
      | cons g0 g =>
        have ap := fun L x => push_room (fl := H.length) (L := L) (x := x) (n := n + 1) (W := opn s2) hcS hls hkb
        simp only [List.length_cons, List.set_set] at *
        unfold run evC at *
        rw [zEv_round hc]
        simp (config := {contextual := true, maxSteps := 10000000, implicitDefEqProofs := false}) (disch := first | (and_intros <;> omega -splitDisjunctions) | (simp only [List.length_set, List.length_append, List.length_cons, List.length_nil]; and_intros <;> omega -splitDisjunctions) | fail) only [t1, t2, t3, t4, q1, q2, q3, hw, hcB, hn, ap, c4, c5, c6, sw, sw2, k0, k1, k2, k3, k4, k5, k6, e2, Try.f42, go_sem, ↓reduceIte, Nat.reduceEqDiff, Nat.reduceAdd, Nat.reduceMul, Nat.reduceLT, Nat.reduceLeDiff, reduceCtorEq, Int.reduceNe, Int.reduceEq, Int.reduceLT, Int.reduceLE, Int.reduceAdd, Int.reduceSub, Int.reduceMul, Int.reduceNeg, Int.reduceToNat, UInt8.reduceToNat, natLit, ty3, ty4, ty9, ty29, ty55, ty58]
        refine hih ⟨_, _⟩ _ _ _ _ _ _ _ _ _ _ _ _ _ _ _ _ _ _ _ _ _ _ _ _ (hx3 _ _) ?_ (hmf _ hst) (hmk _ hst)
        refine ⟨kb, g, ?_, ?_, hkb⟩
        · rw [← hS2]; simp only [List.length_append, List.length_set, List.length_singleton, List.length_nil, List.length_cons, hq.down, Nat.add_zero, Nat.zero_add, show n + 1 + 1 + g.length = n + 1 + (g.length + 1) by omega]
        · rw [c5, opn_app]; simp
end Go.Proofs.Ytcbjmggbbnpbpaa.Lg
namespace Go.Proofs.Ytcbjmggbbnpbpaa.Lg
set_option linter.unusedSimpArgs false
set_option linter.unusedVariables false
set_option maxRecDepth 100000
set_option maxHeartbeats 40000000
open Go.Proofs.Ytcbjmggbbnpbpaa

theorem nst_rnd4 (v : V) (es : List Ev) (fl : Nat) (H : LH) (h : At H evC 8 v es) (hl : es.length ≤ 1048576) (j : Nat) (hlt : j < es.length) (hj0 : 0 < j) (B : LH) (hxB : Hx H B) (doc : Int) (st : List (Int × Int)) (kb : Nat) (g : List V)
    (hcb : B.cellsAt kb = some (opn st ++ g)) (hkb : H.length ≤ kb) (hF : Few j ⟨doc, st⟩) (hKd : Kd ⟨doc, st⟩) (e2 : ∀ fl H, run 68 [.agg (evC (es.getD j evZ))] fl H = some (.bool true, H)) (hk : (es.getD j evZ).kind = 4)
    (hne : stepN ⟨doc, st⟩ 4 ≠ none) (c : Code) (R : List K) (hc0 : Try.f42.body.bind loopOf = some c)
    (hih : ∀ (s : NS) (u : V) (B : LH) (x2 x5 x6 x7 x8 x9 x14 x33 x36 x49 x54 x55 x62 x64 x69 x78 x84 x88 x108 x112 x121 x122 : Option V), Hx H B → SAt H.length B u s.st → Few (j + 1) s → Kd s →
      zEv (leaveX (mkR Try.prog cfg ok [0, 2, 3, 4, 5, 6, 7, 8, 9, 11, 12, 13, 14, 33, 36, 49, 54, 55, 62, 64, 69, 78, 84, 88, 108, 112, 121, 122] H.length) .pure H [ResultVar.tmp 2]) (mkR Try.prog cfg ok [0, 2, 3, 4, 5, 6, 7, 8, 9, 11, 12, 13, 14, 33, 36, 49, 54, 55, 62, 64, 69, 78, 84, 88, 108, 112, 121, 122] H.length) (K.code (Code.loop c) :: K.blk 0 :: R) .nrm [some v, x2, some u, some (.int .i64 s.doc), x5, x6, x7, x8, x9, some v, some (.int .i64 es.length), some (.int .i64 ((j : Int) + 1)), x14, x33, x36, x49, x54, x55, x62, x64, x69, x78, x84, x88, x108, x112, x121, x122] B = some (.bool (goN s (es.drop (j + 1))), H))
    (x2 x5 x6 x7 x8 x9 x14 x33 x36 x49 x54 x55 x62 x64 x69 x78 x84 x88 x108 x112 x121 x122 : Option V) :
    zEv (leaveX (mkR Try.prog cfg ok [0, 2, 3, 4, 5, 6, 7, 8, 9, 11, 12, 13, 14, 33, 36, 49, 54, 55, 62, 64, 69, 78, 84, 88, 108, 112, 121, 122] H.length) .pure H [ResultVar.tmp 2]) (mkR Try.prog cfg ok [0, 2, 3, 4, 5, 6, 7, 8, 9, 11, 12, 13, 14, 33, 36, 49, 54, 55, 62, 64, 69, 78, 84, 88, 108, 112, 121, 122] H.length) (K.code (Code.loop c) :: K.blk 0 :: R) .nrm [some v, x2, some (.sl kb 0 1 st.length (st.length + g.length)), some (.int .i64 doc), x5, x6, x7, x8, x9, some v, some (.int .i64 es.length), some (.int .i64 (j : Int)), x14, x33, x36, x49, x54, x55, x62, x64, x69, x78, x84, x88, x108, x112, x121, x122] B = some (.bool (afterN ⟨doc, st⟩ 4 (es.drop (j + 1))), H) := by
  have i1 := h.isTup
  simp only [Try.f42, Option.bind_some, loopOf] at hc0
  have hc := Option.some.inj hc0
  clear hc0
  have f1 := h.isTup; have f2 := h.len; have f3 := h.lenOk ty29; have f0 := h.one
  have f4 := fun hp => h.con hp
  have f5 := h.idx (T := ty Try.prog) (t := 29) (by simp only [elemI, sizeO, ty3, ty4, ty9, ty29, ty58])
  have f6 := h.loadD evC_len evZ
  have t1 : ((j : Int) < es.length) = True := eq_true (by omega)
  have t2 : ((j : Int) = 0) = False := eq_false (by omega)
  have hlB := hxB.len
  have rB := h.ext hxB
  have k1 := rB.isTup; have k2 := rB.len; have k3 := rB.lenOk ty29; have k0 := rB.one
  have k4 := fun hp => rB.con hp
  have k5 := rB.idx (T := ty Try.prog) (t := 29) (by simp only [elemI, sizeO, ty3, ty4, ty9, ty29, ty58])
  have k6 := rB.loadD evC_len evZ
  have k6 := k6 j hlt
  have hkB := cellsAt_lt hcb
  have hcB : ∀ L, LH.cellsAt (B ++ L) kb = some (opn st ++ g) := fun L => cellsAt_left hcb
  have hmf := fun t hs => stepN_few (t := t) (k := (es.getD j evZ).kind) hF hs
  have hmk := fun t hs => stepN_kd (t := t) (k := (es.getD j evZ).kind) hKd hs
  generalize hev2 : es.getD j evZ = ev at *
  obtain ⟨kind, style, flag, text, anchor, tag, place, code⟩ := ev
  have hx2 : ∀ L, Hx H (B ++ L) := fun L => hxB.trans Hx.app
  have hx3 : ∀ x L, Hx H (B.set kb x ++ L) := fun x L => (hxB.set hkb).trans Hx.app
  have sw : ∀ L x, List.set (B ++ L) kb x = List.set B kb x ++ L := fun L x => List.set_append_left _ _ hkB
  have sw2 : ∀ L x y, List.set (List.set B kb x ++ L) kb y = List.set B kb y ++ L := fun L x y => by rw [List.set_append_left _ _ (by rw [List.length_set]; exact hkB), List.set_set]
  have c4 : ∀ x L, LH.cellsAt (List.set B kb x ++ L) B.length = LH.cellsAt L 0 := fun x L => cellsAt_appS0 B L kb x
  have c6 : ∀ x L i, LH.cellsAt (List.set B kb x ++ L) (B.length + i) = LH.cellsAt L i := fun x L i => cellsAt_appS B L kb i x
  have c5 : ∀ x L, LH.cellsAt (List.set B kb (.cells x) ++ L) kb = some x := fun x L => cellsAt_left (cellsAt_set hkB)
  simp only at hk
  have hl0 := hF.1
  simp only at hl0
  subst hk
  unfold afterN
  have hst0 : stepN ⟨doc, st⟩ 4 = (nodeN ⟨doc, st⟩).map (fun t => ⟨t.doc, t.st ++ [(4, 0)]⟩) := rfl
  rw [hst0] at hmf hmk ⊢
  by_cases h0 : st = []
  · subst h0
    simp only [List.length_nil, Nat.zero_add] at *
    by_cases hd : doc = 1
    · subst hd
      have hst : (nodeN ⟨1, []⟩).map (fun t => (⟨t.doc, t.st ++ [(4, 0)]⟩ : NS)) = some ⟨2, [(4, 0)]⟩ := rfl
      rw [hst]
      cases g with
      | nil =>
        have ap := fun L x => push_full (fl := H.length) (L := L) (x := x) (n := 0) hcb rfl hkb (by decide)
        simp only [List.length_nil] at *
        unfold run evC at *
        rw [zEv_round hc]
        simp (config := {contextual := true, maxSteps := 10000000, implicitDefEqProofs := false}) (disch := first | (and_intros <;> omega -splitDisjunctions) | (simp only [List.length_set, List.length_append, List.length_cons, List.length_nil]; and_intros <;> omega -splitDisjunctions) | fail) only [t1, t2, ap, c4, c6, sw, sw2, k0, k1, k2, k3, k4, k5, k6, e2, Try.f42, go_sem, ↓reduceIte, Nat.reduceEqDiff, Nat.reduceAdd, Nat.reduceMul, Nat.reduceLT, Nat.reduceLeDiff, reduceCtorEq, Int.reduceNe, Int.reduceEq, Int.reduceLT, Int.reduceLE, Int.reduceAdd, Int.reduceSub, Int.reduceMul, Int.reduceNeg, Int.reduceToNat, UInt8.reduceToNat, natLit, ty3, ty4, ty9, ty29, ty55, ty58]
        refine hih ⟨_, _⟩ _ _ _ _ _ _ _ _ _ _ _ _ _ _ _ _ _ _ _ _ _ _ _ _ (hx3 _ _) ?_ (hmf _ hst) (hmk _ hst)
        refine ⟨B.length + 2, [], ?_, ?_, by omega⟩
        · rfl
        · rw [c6]; rfl
      | cons g0 g =>
        have ap := fun L x => push_room (fl := H.length) (L := L) (x := x) (n := 0) (W := []) hcb rfl hkb
        simp only [List.length_cons, Nat.zero_add] at *
        unfold run evC at *
        rw [zEv_round hc]
        simp (config := {contextual := true, maxSteps := 10000000, implicitDefEqProofs := false}) (disch := first | (and_intros <;> omega -splitDisjunctions) | (simp only [List.length_set, List.length_append, List.length_cons, List.length_nil]; and_intros <;> omega -splitDisjunctions) | fail) only [t1, t2, ap, c4, c6, sw, sw2, k0, k1, k2, k3, k4, k5, k6, e2, Try.f42, go_sem, ↓reduceIte, Nat.reduceEqDiff, Nat.reduceAdd, Nat.reduceMul, Nat.reduceLT, Nat.reduceLeDiff, reduceCtorEq, Int.reduceNe, Int.reduceEq, Int.reduceLT, Int.reduceLE, Int.reduceAdd, Int.reduceSub, Int.reduceMul, Int.reduceNeg, Int.reduceToNat, UInt8.reduceToNat, natLit, ty3, ty4, ty9, ty29, ty55, ty58]
        refine hih ⟨_, _⟩ _ _ _ _ _ _ _ _ _ _ _ _ _ _ _ _ _ _ _ _ _ _ _ _ (hx3 _ _) ?_ (hmf _ hst) (hmk _ hst)
        refine ⟨kb, g, ?_, ?_, hkb⟩
        · simp only [List.length_singleton, Nat.add_comm]
        · rw [c5]; rfl
    · have hst : nodeN ⟨doc, []⟩ = none := by unfold nodeN; rw [if_pos rfl, if_neg hd]
      exact absurd (by rw [hst0, hst]; rfl) hne
  · have hp : 0 < st.length := List.length_pos_iff.2 h0
    obtain ⟨n, hn⟩ : ∃ n, st.length = n + 1 := ⟨st.length - 1, by omega⟩
    have hq : PLift (st.length = n + 1) := ⟨hn⟩
    have q1 := fun g => opn_cell (l := st) (i := n) (by omega) g
    have q3 : (opn st ++ g).length = n + 1 + g.length := by rw [List.length_append, opn_len, hn]
    have hmem : st.getD n (0, 0) ∈ st := by rw [List.getD_eq_getElem?_getD, List.getElem?_eq_getElem (by omega)]; exact List.getElem_mem _
    have q2 := hF.2 _ hmem
    have q4 := hKd _ hmem
    have hst : (nodeN ⟨doc, st⟩).map (fun t => (⟨t.doc, t.st ++ [(4, 0)]⟩ : NS)) = some ⟨doc, st.set n ((st.getD n (0, 0)).1, (st.getD n (0, 0)).2 + 1) ++ [(4, 0)]⟩ := by
      unfold nodeN NS.top
      simp only [h0, if_false, hn, Nat.add_sub_cancel, Option.map_some]
    rw [hst]
    generalize htp : st.getD n (0, 0) = tp at *
    have t3 : ((((n : Nat) + 1 : Nat) : Int) - 1 < 0) = False := eq_false (by omega)
    have t4 : ((((n : Nat) + 1 : Nat) : Int) - 1).toNat = n := by omega
    have hlo : (opn st).length = n + 1 := by rw [opn_len, hn]
    have hls : (opn (st.set n (tp.1, tp.2 + 1))).length = n + 1 := by rw [opn_len, List.length_set, hn]
    rcases q4 with q4 | q4
    · simp only [q4, if_true] at q1
      have hw : opn (st.set n (tp.1, tp.2 + 1)) = opn st := opn_same hn htp q4
      simp only [hn] at *
      cases g with
      | nil =>
        have q10 := q1 []
        simp only [List.append_nil] at q10
        have ap := fun L x => push_full (fl := H.length) (L := L) (x := x) (n := n + 1) (W := opn st ++ []) hcb (by simpa using hlo) hkb (by omega)
        simp only [List.length_nil, Nat.add_zero, List.append_nil] at *
        unfold run evC at *
        rw [zEv_round hc]
        simp (config := {contextual := true, maxSteps := 10000000, implicitDefEqProofs := false}) (disch := first | (and_intros <;> omega -splitDisjunctions) | (simp only [List.length_set, List.length_append, List.length_cons, List.length_nil]; and_intros <;> omega -splitDisjunctions) | fail) only [t1, t2, t3, t4, q1, q10, q3, hcB, hn, ap, c4, c6, sw, sw2, k0, k1, k2, k3, k4, k5, k6, e2, Try.f42, go_sem, ↓reduceIte, Nat.reduceEqDiff, Nat.reduceAdd, Nat.reduceMul, Nat.reduceLT, Nat.reduceLeDiff, reduceCtorEq, Int.reduceNe, Int.reduceEq, Int.reduceLT, Int.reduceLE, Int.reduceAdd, Int.reduceSub, Int.reduceMul, Int.reduceNeg, Int.reduceToNat, UInt8.reduceToNat, natLit, ty3, ty4, ty9, ty29, ty55, ty58]
        refine hih ⟨_, _⟩ _ _ _ _ _ _ _ _ _ _ _ _ _ _ _ _ _ _ _ _ _ _ _ _ (hx3 _ _) ?_ (hmf _ hst) (hmk _ hst)
        refine ⟨B.length + 2, [], ?_, ?_, by omega⟩
        · simp only [List.length_append, List.length_set, List.length_singleton, List.length_nil, List.length_cons, hq.down, Nat.add_zero, Nat.zero_add]
        · rw [c6, opn_app, hw]; simp only [Int.reduceEq, if_true, if_false, List.append_nil]; rfl
      | cons g0 g =>
        have ap := fun L x => push_room (fl := H.length) (L := L) (x := x) (n := n + 1) (W := opn st) hcb hlo hkb
        simp only [List.length_cons] at *
        unfold run evC at *
        rw [zEv_round hc]
        simp (config := {contextual := true, maxSteps := 10000000, implicitDefEqProofs := false}) (disch := first | (and_intros <;> omega -splitDisjunctions) | (simp only [List.length_set, List.length_append, List.length_cons, List.length_nil]; and_intros <;> omega -splitDisjunctions) | fail) only [t1, t2, t3, t4, q1, q3, hcB, hn, ap, c4, c6, sw, sw2, k0, k1, k2, k3, k4, k5, k6, e2, Try.f42, go_sem, ↓reduceIte, Nat.reduceEqDiff, Nat.reduceAdd, Nat.reduceMul, Nat.reduceLT, Nat.reduceLeDiff, reduceCtorEq, Int.reduceNe, Int.reduceEq, Int.reduceLT, Int.reduceLE, Int.reduceAdd, Int.reduceSub, Int.reduceMul, Int.reduceNeg, Int.reduceToNat, UInt8.reduceToNat, natLit, ty3, ty4, ty9, ty29, ty55, ty58]
        refine hih ⟨_, _⟩ _ _ _ _ _ _ _ _ _ _ _ _ _ _ _ _ _ _ _ _ _ _ _ _ (hx3 _ _) ?_ (hmf _ hst) (hmk _ hst)
        refine ⟨kb, g, ?_, ?_, hkb⟩
        · simp only [List.length_append, List.length_set, List.length_singleton, List.length_nil, List.length_cons, hq.down, Nat.add_zero, Nat.zero_add, show n + 1 + 1 + g.length = n + 1 + (g.length + 1) by omega]
        · rw [c5, opn_app, hw]; simp
    · simp only [q4, if_false, Int.reduceEq] at q1
      have hw : (opn st ++ g).set n (.int .i64 (tp.2 + 1)) = opn (st.set n (tp.1, tp.2 + 1)) ++ g := opn_up hn q4 g
      have hcS : LH.cellsAt (B.set kb (.cells (opn (st.set n (tp.1, tp.2 + 1)) ++ g))) kb = some (opn (st.set n (tp.1, tp.2 + 1)) ++ g) := cellsAt_set hkB
      simp only [hn] at *
      generalize hS2 : st.set n (tp.1, tp.2 + 1) = s2 at *
      cases g with
      | nil =>
        have q10 := q1 []
        simp only [List.append_nil] at q10
        have ap := fun L x => push_full (fl := H.length) (L := L) (x := x) (n := n + 1) (W := opn s2 ++ []) hcS (by simpa using hls) hkb (by omega)
        simp only [List.length_nil, Nat.add_zero, List.append_nil, List.length_set, List.set_set] at *
        unfold run evC at *
        rw [zEv_round hc]
        simp (config := {contextual := true, maxSteps := 10000000, implicitDefEqProofs := false}) (disch := first | (and_intros <;> omega -splitDisjunctions) | (simp only [List.length_set, List.length_append, List.length_cons, List.length_nil]; and_intros <;> omega -splitDisjunctions) | fail) only [t1, t2, t3, t4, q1, q10, q2, q3, hw, hcB, hn, ap, c4, c5, c6, sw, sw2, k0, k1, k2, k3, k4, k5, k6, e2, Try.f42, go_sem, ↓reduceIte, Nat.reduceEqDiff, Nat.reduceAdd, Nat.reduceMul, Nat.reduceLT, Nat.reduceLeDiff, reduceCtorEq, Int.reduceNe, Int.reduceEq, Int.reduceLT, Int.reduceLE, Int.reduceAdd, Int.reduceSub, Int.reduceMul, Int.reduceNeg, Int.reduceToNat, UInt8.reduceToNat, natLit, ty3, ty4, ty9, ty29, ty55, ty58]
        refine hih ⟨_, _⟩ _ _ _ _ _ _ _ _ _ _ _ _ _ _ _ _ _ _ _ _ _ _ _ _ (hx3 _ _) ?_ (hmf _ hst) (hmk _ hst)
        refine ⟨B.length + 2, [], ?_, ?_, by omega⟩
        · rw [← hS2]; simp only [List.length_append, List.length_set, List.length_singleton, List.length_nil, List.length_cons, hq.down, Nat.add_zero, Nat.zero_add]
        · rw [c6, opn_app]; simp only [Int.reduceEq, if_true, if_false, List.append_nil]; rfl
      | cons g0 g =>
        have ap := fun L x => push_room (fl := H.length) (L := L) (x := x) (n := n + 1) (W := opn s2) hcS hls hkb
        simp only [List.length_cons, List.set_set] at *
        unfold run evC at *
        rw [zEv_round hc]
        simp (config := {contextual := true, maxSteps := 10000000, implicitDefEqProofs := false}) (disch := first | (and_intros <;> omega -splitDisjunctions) | (simp only [List.length_set, List.length_append, List.length_cons, List.length_nil]; and_intros <;> omega -splitDisjunctions) | fail) only [t1, t2, t3, t4, q1, q2, q3, hw, hcB, hn, ap, c4, c5, c6, sw, sw2, k0, k1, k2, k3, k4, k5, k6, e2, Try.f42, go_sem, ↓reduceIte, Nat.reduceEqDiff, Nat.reduceAdd, Nat.reduceMul, Nat.reduceLT, Nat.reduceLeDiff, reduceCtorEq, Int.reduceNe, Int.reduceEq, Int.reduceLT, Int.reduceLE, Int.reduceAdd, Int.reduceSub, Int.reduceMul, Int.reduceNeg, Int.reduceToNat, UInt8.reduceToNat, natLit, ty3, ty4, ty9, ty29, ty55, ty58]
        refine hih ⟨_, _⟩ _ _ _ _ _ _ _ _ _ _ _ _ _ _ _ _ _ _ _ _ _ _ _ _ (hx3 _ _) ?_ (hmf _ hst) (hmk _ hst)
        refine ⟨kb, g, ?_, ?_, hkb⟩
        · rw [← hS2]; simp only [List.length_append, List.length_set, List.length_singleton, List.length_nil, List.length_cons, hq.down, Nat.add_zero, Nat.zero_add, show n + 1 + 1 + g.length = n + 1 + (g.length + 1) by omega]
        · rw [c5, opn_app]; simp
end Go.Proofs.Ytcbjmggbbnpbpaa.Lg
namespace Go.Proofs.Ytcbjmggbbnpbpaa.Lg
set_option linter.unusedSimpArgs false
set_option linter.unusedVariables false
set_option maxRecDepth 100000
set_option maxHeartbeats 40000000
open Go.Proofs.Ytcbjmggbbnpbpaa

theorem nst_rnd5 (v : V) (es : List Ev) (fl : Nat) (H : LH) (h : At H evC 8 v es) (hl : es.length ≤ 1048576) (j : Nat) (hlt : j < es.length) (hj0 : 0 < j) (B : LH) (hxB : Hx H B) (doc : Int) (st : List (Int × Int)) (kb : Nat) (g : List V)
    (hcb : B.cellsAt kb = some (opn st ++ g)) (hkb : H.length ≤ kb) (hF : Few j ⟨doc, st⟩) (hKd : Kd ⟨doc, st⟩) (e2 : ∀ fl H, run 68 [.agg (evC (es.getD j evZ))] fl H = some (.bool true, H)) (hk : (es.getD j evZ).kind = 5)
    (hne : stepN ⟨doc, st⟩ 5 ≠ none) (c : Code) (R : List K) (hc0 : Try.f42.body.bind loopOf = some c)
    (hih : ∀ (s : NS) (u : V) (B : LH) (x2 x5 x6 x7 x8 x9 x14 x33 x36 x49 x54 x55 x62 x64 x69 x78 x84 x88 x108 x112 x121 x122 : Option V), Hx H B → SAt H.length B u s.st → Few (j + 1) s → Kd s →
      zEv (leaveX (mkR Try.prog cfg ok [0, 2, 3, 4, 5, 6, 7, 8, 9, 11, 12, 13, 14, 33, 36, 49, 54, 55, 62, 64, 69, 78, 84, 88, 108, 112, 121, 122] H.length) .pure H [ResultVar.tmp 2]) (mkR Try.prog cfg ok [0, 2, 3, 4, 5, 6, 7, 8, 9, 11, 12, 13, 14, 33, 36, 49, 54, 55, 62, 64, 69, 78, 84, 88, 108, 112, 121, 122] H.length) (K.code (Code.loop c) :: K.blk 0 :: R) .nrm [some v, x2, some u, some (.int .i64 s.doc), x5, x6, x7, x8, x9, some v, some (.int .i64 es.length), some (.int .i64 ((j : Int) + 1)), x14, x33, x36, x49, x54, x55, x62, x64, x69, x78, x84, x88, x108, x112, x121, x122] B = some (.bool (goN s (es.drop (j + 1))), H))
    (x2 x5 x6 x7 x8 x9 x14 x33 x36 x49 x54 x55 x62 x64 x69 x78 x84 x88 x108 x112 x121 x122 : Option V) :
    zEv (leaveX (mkR Try.prog cfg ok [0, 2, 3, 4, 5, 6, 7, 8, 9, 11, 12, 13, 14, 33, 36, 49, 54, 55, 62, 64, 69, 78, 84, 88, 108, 112, 121, 122] H.length) .pure H [ResultVar.tmp 2]) (mkR Try.prog cfg ok [0, 2, 3, 4, 5, 6, 7, 8, 9, 11, 12, 13, 14, 33, 36, 49, 54, 55, 62, 64, 69, 78, 84, 88, 108, 112, 121, 122] H.length) (K.code (Code.loop c) :: K.blk 0 :: R) .nrm [some v, x2, some (.sl kb 0 1 st.length (st.length + g.length)), some (.int .i64 doc), x5, x6, x7, x8, x9, some v, some (.int .i64 es.length), some (.int .i64 (j : Int)), x14, x33, x36, x49, x54, x55, x62, x64, x69, x78, x84, x88, x108, x112, x121, x122] B = some (.bool (afterN ⟨doc, st⟩ 5 (es.drop (j + 1))), H) := by
  have i1 := h.isTup
  simp only [Try.f42, Option.bind_some, loopOf] at hc0
  have hc := Option.some.inj hc0
  clear hc0
  have f1 := h.isTup; have f2 := h.len; have f3 := h.lenOk ty29; have f0 := h.one
  have f4 := fun hp => h.con hp
  have f5 := h.idx (T := ty Try.prog) (t := 29) (by simp only [elemI, sizeO, ty3, ty4, ty9, ty29, ty58])
  have f6 := h.loadD evC_len evZ
  have t1 : ((j : Int) < es.length) = True := eq_true (by omega)
  have t2 : ((j : Int) = 0) = False := eq_false (by omega)
  have hlB := hxB.len
  have rB := h.ext hxB
  have k1 := rB.isTup; have k2 := rB.len; have k3 := rB.lenOk ty29; have k0 := rB.one
  have k4 := fun hp => rB.con hp
  have k5 := rB.idx (T := ty Try.prog) (t := 29) (by simp only [elemI, sizeO, ty3, ty4, ty9, ty29, ty58])
  have k6 := rB.loadD evC_len evZ
  have k6 := k6 j hlt
  have hkB := cellsAt_lt hcb
  have hcB : ∀ L, LH.cellsAt (B ++ L) kb = some (opn st ++ g) := fun L => cellsAt_left hcb
  have hmf := fun t hs => stepN_few (t := t) (k := (es.getD j evZ).kind) hF hs
  have hmk := fun t hs => stepN_kd (t := t) (k := (es.getD j evZ).kind) hKd hs
  generalize hev2 : es.getD j evZ = ev at *
  obtain ⟨kind, style, flag, text, anchor, tag, place, code⟩ := ev
  have hx2 : ∀ L, Hx H (B ++ L) := fun L => hxB.trans Hx.app
  have hx3 : ∀ x L, Hx H (B.set kb x ++ L) := fun x L => (hxB.set hkb).trans Hx.app
  have sw : ∀ L x, List.set (B ++ L) kb x = List.set B kb x ++ L := fun L x => List.set_append_left _ _ hkB
  have sw2 : ∀ L x y, List.set (List.set B kb x ++ L) kb y = List.set B kb y ++ L := fun L x y => by rw [List.set_append_left _ _ (by rw [List.length_set]; exact hkB), List.set_set]
  have c4 : ∀ x L, LH.cellsAt (List.set B kb x ++ L) B.length = LH.cellsAt L 0 := fun x L => cellsAt_appS0 B L kb x
  have c6 : ∀ x L i, LH.cellsAt (List.set B kb x ++ L) (B.length + i) = LH.cellsAt L i := fun x L i => cellsAt_appS B L kb i x
  have c5 : ∀ x L, LH.cellsAt (List.set B kb (.cells x) ++ L) kb = some x := fun x L => cellsAt_left (cellsAt_set hkB)
  simp only at hk
  have hl0 := hF.1
  simp only at hl0
  subst hk
  unfold afterN
  have hst0 : stepN ⟨doc, st⟩ 5 = nodeN ⟨doc, st⟩ := rfl
  rw [hst0] at hmf hmk ⊢
  by_cases h0 : st = []
  · subst h0
    simp only [List.length_nil] at *
    by_cases hd : doc = 1
    · subst hd
      have hst : nodeN ⟨1, []⟩ = some ⟨2, []⟩ := rfl
      rw [hst]
      unfold run evC at *
      rw [zEv_round hc]
      simp (config := {contextual := true, maxSteps := 10000000, implicitDefEqProofs := false}) (disch := first | (and_intros <;> omega -splitDisjunctions) | (simp only [List.length_set, List.length_append, List.length_cons, List.length_nil]; and_intros <;> omega -splitDisjunctions) | fail) only [t1, t2, k0, k1, k2, k3, k4, k5, k6, e2, Try.f42, go_sem, ↓reduceIte, Nat.reduceEqDiff, Nat.reduceAdd, Nat.reduceMul, Nat.reduceLT, Nat.reduceLeDiff, reduceCtorEq, Int.reduceNe, Int.reduceEq, Int.reduceLT, Int.reduceLE, Int.reduceAdd, Int.reduceSub, Int.reduceMul, Int.reduceNeg, Int.reduceToNat, UInt8.reduceToNat, natLit, ty3, ty4, ty9, ty29, ty55, ty58]
      exact hih ⟨_, _⟩ _ _ _ _ _ _ _ _ _ _ _ _ _ _ _ _ _ _ _ _ _ _ _ _ (hx2 _) ⟨kb, g, by simp, hcB _, hkb⟩ (hmf _ hst) (hmk _ hst)
    · have hst : nodeN ⟨doc, []⟩ = none := by unfold nodeN; rw [if_pos rfl, if_neg hd]
      exact absurd (by rw [hst0, hst]) hne
  · have hp : 0 < st.length := List.length_pos_iff.2 h0
    obtain ⟨n, hn⟩ : ∃ n, st.length = n + 1 := ⟨st.length - 1, by omega⟩
    have hq : PLift (st.length = n + 1) := ⟨hn⟩
    have q1 := fun g => opn_cell (l := st) (i := n) (by omega) g
    have q3 : (opn st ++ g).length = n + 1 + g.length := by rw [List.length_append, opn_len, hn]
    have hmem : st.getD n (0, 0) ∈ st := by rw [List.getD_eq_getElem?_getD, List.getElem?_eq_getElem (by omega)]; exact List.getElem_mem _
    have q2 := hF.2 _ hmem
    have q4 := hKd _ hmem
    have hst : nodeN ⟨doc, st⟩ = some ⟨doc, st.set n ((st.getD n (0, 0)).1, (st.getD n (0, 0)).2 + 1)⟩ := by
      unfold nodeN NS.top
      simp only [h0, if_false, hn, Nat.add_sub_cancel]
    rw [hst]
    generalize htp : st.getD n (0, 0) = tp at *
    have t3 : ((((n : Nat) + 1 : Nat) : Int) - 1 < 0) = False := eq_false (by omega)
    have t4 : ((((n : Nat) + 1 : Nat) : Int) - 1).toNat = n := by omega
    rcases q4 with q4 | q4
    · simp only [q4, if_true] at q1
      have hw : opn (st.set n (tp.1, tp.2 + 1)) = opn st := opn_same hn htp q4
      simp only [hn] at *
      unfold run evC at *
      rw [zEv_round hc]
      simp (config := {contextual := true, maxSteps := 10000000, implicitDefEqProofs := false}) (disch := first | (and_intros <;> omega -splitDisjunctions) | (simp only [List.length_set, List.length_append, List.length_cons, List.length_nil]; and_intros <;> omega -splitDisjunctions) | fail) only [t1, t2, t3, t4, q1, q3, hcB, hn, k0, k1, k2, k3, k4, k5, k6, e2, Try.f42, go_sem, ↓reduceIte, Nat.reduceEqDiff, Nat.reduceAdd, Nat.reduceMul, Nat.reduceLT, Nat.reduceLeDiff, reduceCtorEq, Int.reduceNe, Int.reduceEq, Int.reduceLT, Int.reduceLE, Int.reduceAdd, Int.reduceSub, Int.reduceMul, Int.reduceNeg, Int.reduceToNat, UInt8.reduceToNat, natLit, ty3, ty4, ty9, ty29, ty55, ty58]
      exact hih ⟨_, _⟩ _ _ _ _ _ _ _ _ _ _ _ _ _ _ _ _ _ _ _ _ _ _ _ _ (hx2 _) ⟨kb, g, by simp [hq.down], by rw [hw]; exact hcB _, hkb⟩ (hmf _ hst) (hmk _ hst)
    · simp only [q4, if_false, Int.reduceEq] at q1
      have hw : (opn st ++ g).set n (.int .i64 (tp.2 + 1)) = opn (st.set n (tp.1, tp.2 + 1)) ++ g := opn_up hn q4 g
      simp only [hn] at *
      unfold run evC at *
      rw [zEv_round hc]
      simp (config := {contextual := true, maxSteps := 10000000, implicitDefEqProofs := false}) (disch := first | (and_intros <;> omega -splitDisjunctions) | (simp only [List.length_set, List.length_append, List.length_cons, List.length_nil]; and_intros <;> omega -splitDisjunctions) | fail) only [t1, t2, t3, t4, q1, q2, q3, hw, sw, sw2, c4, c5, hcB, hn, k0, k1, k2, k3, k4, k5, k6, e2, Try.f42, go_sem, ↓reduceIte, Nat.reduceEqDiff, Nat.reduceAdd, Nat.reduceMul, Nat.reduceLT, Nat.reduceLeDiff, reduceCtorEq, Int.reduceNe, Int.reduceEq, Int.reduceLT, Int.reduceLE, Int.reduceAdd, Int.reduceSub, Int.reduceMul, Int.reduceNeg, Int.reduceToNat, UInt8.reduceToNat, natLit, ty3, ty4, ty9, ty29, ty55, ty58]
      exact hih ⟨_, _⟩ _ _ _ _ _ _ _ _ _ _ _ _ _ _ _ _ _ _ _ _ _ _ _ _ (hx3 _ _) ⟨kb, g, by simp [hq.down], c5 _ _, hkb⟩ (hmf _ hst) (hmk _ hst)
theorem nst_rnd6 (v : V) (es : List Ev) (fl : Nat) (H : LH) (h : At H evC 8 v es) (hl : es.length ≤ 1048576) (j : Nat) (hlt : j < es.length) (hj0 : 0 < j) (B : LH) (hxB : Hx H B) (doc : Int) (st : List (Int × Int)) (kb : Nat) (g : List V)
    (hcb : B.cellsAt kb = some (opn st ++ g)) (hkb : H.length ≤ kb) (hF : Few j ⟨doc, st⟩) (hKd : Kd ⟨doc, st⟩) (e2 : ∀ fl H, run 68 [.agg (evC (es.getD j evZ))] fl H = some (.bool true, H)) (hk : (es.getD j evZ).kind = 6)
    (hne : stepN ⟨doc, st⟩ 6 ≠ none) (c : Code) (R : List K) (hc0 : Try.f42.body.bind loopOf = some c)
    (hih : ∀ (s : NS) (u : V) (B : LH) (x2 x5 x6 x7 x8 x9 x14 x33 x36 x49 x54 x55 x62 x64 x69 x78 x84 x88 x108 x112 x121 x122 : Option V), Hx H B → SAt H.length B u s.st → Few (j + 1) s → Kd s →
      zEv (leaveX (mkR Try.prog cfg ok [0, 2, 3, 4, 5, 6, 7, 8, 9, 11, 12, 13, 14, 33, 36, 49, 54, 55, 62, 64, 69, 78, 84, 88, 108, 112, 121, 122] H.length) .pure H [ResultVar.tmp 2]) (mkR Try.prog cfg ok [0, 2, 3, 4, 5, 6, 7, 8, 9, 11, 12, 13, 14, 33, 36, 49, 54, 55, 62, 64, 69, 78, 84, 88, 108, 112, 121, 122] H.length) (K.code (Code.loop c) :: K.blk 0 :: R) .nrm [some v, x2, some u, some (.int .i64 s.doc), x5, x6, x7, x8, x9, some v, some (.int .i64 es.length), some (.int .i64 ((j : Int) + 1)), x14, x33, x36, x49, x54, x55, x62, x64, x69, x78, x84, x88, x108, x112, x121, x122] B = some (.bool (goN s (es.drop (j + 1))), H))
    (x2 x5 x6 x7 x8 x9 x14 x33 x36 x49 x54 x55 x62 x64 x69 x78 x84 x88 x108 x112 x121 x122 : Option V) :
    zEv (leaveX (mkR Try.prog cfg ok [0, 2, 3, 4, 5, 6, 7, 8, 9, 11, 12, 13, 14, 33, 36, 49, 54, 55, 62, 64, 69, 78, 84, 88, 108, 112, 121, 122] H.length) .pure H [ResultVar.tmp 2]) (mkR Try.prog cfg ok [0, 2, 3, 4, 5, 6, 7, 8, 9, 11, 12, 13, 14, 33, 36, 49, 54, 55, 62, 64, 69, 78, 84, 88, 108, 112, 121, 122] H.length) (K.code (Code.loop c) :: K.blk 0 :: R) .nrm [some v, x2, some (.sl kb 0 1 st.length (st.length + g.length)), some (.int .i64 doc), x5, x6, x7, x8, x9, some v, some (.int .i64 es.length), some (.int .i64 (j : Int)), x14, x33, x36, x49, x54, x55, x62, x64, x69, x78, x84, x88, x108, x112, x121, x122] B = some (.bool (afterN ⟨doc, st⟩ 6 (es.drop (j + 1))), H) := by
  have i1 := h.isTup
  simp only [Try.f42, Option.bind_some, loopOf] at hc0
  have hc := Option.some.inj hc0
  clear hc0
  have f1 := h.isTup; have f2 := h.len; have f3 := h.lenOk ty29; have f0 := h.one
  have f4 := fun hp => h.con hp
  have f5 := h.idx (T := ty Try.prog) (t := 29) (by simp only [elemI, sizeO, ty3, ty4, ty9, ty29, ty58])
  have f6 := h.loadD evC_len evZ
  have t1 : ((j : Int) < es.length) = True := eq_true (by omega)
  have t2 : ((j : Int) = 0) = False := eq_false (by omega)
  have hlB := hxB.len
  have rB := h.ext hxB
  have k1 := rB.isTup; have k2 := rB.len; have k3 := rB.lenOk ty29; have k0 := rB.one
  have k4 := fun hp => rB.con hp
  have k5 := rB.idx (T := ty Try.prog) (t := 29) (by simp only [elemI, sizeO, ty3, ty4, ty9, ty29, ty58])
  have k6 := rB.loadD evC_len evZ
  have k6 := k6 j hlt
  have hkB := cellsAt_lt hcb
  have hcB : ∀ L, LH.cellsAt (B ++ L) kb = some (opn st ++ g) := fun L => cellsAt_left hcb
  have hmf := fun t hs => stepN_few (t := t) (k := (es.getD j evZ).kind) hF hs
  have hmk := fun t hs => stepN_kd (t := t) (k := (es.getD j evZ).kind) hKd hs
  generalize hev2 : es.getD j evZ = ev at *
  obtain ⟨kind, style, flag, text, anchor, tag, place, code⟩ := ev
  have hx2 : ∀ L, Hx H (B ++ L) := fun L => hxB.trans Hx.app
  have hx3 : ∀ x L, Hx H (B.set kb x ++ L) := fun x L => (hxB.set hkb).trans Hx.app
  have sw : ∀ L x, List.set (B ++ L) kb x = List.set B kb x ++ L := fun L x => List.set_append_left _ _ hkB
  have sw2 : ∀ L x y, List.set (List.set B kb x ++ L) kb y = List.set B kb y ++ L := fun L x y => by rw [List.set_append_left _ _ (by rw [List.length_set]; exact hkB), List.set_set]
  have c4 : ∀ x L, LH.cellsAt (List.set B kb x ++ L) B.length = LH.cellsAt L 0 := fun x L => cellsAt_appS0 B L kb x
  have c6 : ∀ x L i, LH.cellsAt (List.set B kb x ++ L) (B.length + i) = LH.cellsAt L i := fun x L i => cellsAt_appS B L kb i x
  have c5 : ∀ x L, LH.cellsAt (List.set B kb (.cells x) ++ L) kb = some x := fun x L => cellsAt_left (cellsAt_set hkB)
  simp only at hk
  have hl0 := hF.1
  simp only at hl0
  subst hk
  unfold afterN
  have hst0 : stepN ⟨doc, st⟩ 6 = nodeN ⟨doc, st⟩ := rfl
  rw [hst0] at hmf hmk ⊢
  by_cases h0 : st = []
  · subst h0
    simp only [List.length_nil] at *
    by_cases hd : doc = 1
    · subst hd
      have hst : nodeN ⟨1, []⟩ = some ⟨2, []⟩ := rfl
      rw [hst]
      unfold run evC at *
      rw [zEv_round hc]
      simp (config := {contextual := true, maxSteps := 10000000, implicitDefEqProofs := false}) (disch := first | (and_intros <;> omega -splitDisjunctions) | (simp only [List.length_set, List.length_append, List.length_cons, List.length_nil]; and_intros <;> omega -splitDisjunctions) | fail) only [t1, t2, k0, k1, k2, k3, k4, k5, k6, e2, Try.f42, go_sem, ↓reduceIte, Nat.reduceEqDiff, Nat.reduceAdd, Nat.reduceMul, Nat.reduceLT, Nat.reduceLeDiff, reduceCtorEq, Int.reduceNe, Int.reduceEq, Int.reduceLT, Int.reduceLE, Int.reduceAdd, Int.reduceSub, Int.reduceMul, Int.reduceNeg, Int.reduceToNat, UInt8.reduceToNat, natLit, ty3, ty4, ty9, ty29, ty55, ty58]
      exact hih ⟨_, _⟩ _ _ _ _ _ _ _ _ _ _ _ _ _ _ _ _ _ _ _ _ _ _ _ _ (hx2 _) ⟨kb, g, by simp, hcB _, hkb⟩ (hmf _ hst) (hmk _ hst)
    · have hst : nodeN ⟨doc, []⟩ = none := by unfold nodeN; rw [if_pos rfl, if_neg hd]
      exact absurd (by rw [hst0, hst]) hne
  · have hp : 0 < st.length := List.length_pos_iff.2 h0
    obtain ⟨n, hn⟩ : ∃ n, st.length = n + 1 := ⟨st.length - 1, by omega⟩
    have hq : PLift (st.length = n + 1) := ⟨hn⟩
    have q1 := fun g => opn_cell (l := st) (i := n) (by omega) g
    have q3 : (opn st ++ g).length = n + 1 + g.length := by rw [List.length_append, opn_len, hn]
    have hmem : st.getD n (0, 0) ∈ st := by rw [List.getD_eq_getElem?_getD, List.getElem?_eq_getElem (by omega)]; exact List.getElem_mem _
    have q2 := hF.2 _ hmem
    have q4 := hKd _ hmem
    have hst : nodeN ⟨doc, st⟩ = some ⟨doc, st.set n ((st.getD n (0, 0)).1, (st.getD n (0, 0)).2 + 1)⟩ := by
      unfold nodeN NS.top
      simp only [h0, if_false, hn, Nat.add_sub_cancel]
    rw [hst]
    generalize htp : st.getD n (0, 0) = tp at *
    have t3 : ((((n : Nat) + 1 : Nat) : Int) - 1 < 0) = False := eq_false (by omega)
    have t4 : ((((n : Nat) + 1 : Nat) : Int) - 1).toNat = n := by omega
    rcases q4 with q4 | q4
    · simp only [q4, if_true] at q1
      have hw : opn (st.set n (tp.1, tp.2 + 1)) = opn st := opn_same hn htp q4
      simp only [hn] at *
      unfold run evC at *
      rw [zEv_round hc]
      simp (config := {contextual := true, maxSteps := 10000000, implicitDefEqProofs := false}) (disch := first | (and_intros <;> omega -splitDisjunctions) | (simp only [List.length_set, List.length_append, List.length_cons, List.length_nil]; and_intros <;> omega -splitDisjunctions) | fail) only [t1, t2, t3, t4, q1, q3, hcB, hn, k0, k1, k2, k3, k4, k5, k6, e2, Try.f42, go_sem, ↓reduceIte, Nat.reduceEqDiff, Nat.reduceAdd, Nat.reduceMul, Nat.reduceLT, Nat.reduceLeDiff, reduceCtorEq, Int.reduceNe, Int.reduceEq, Int.reduceLT, Int.reduceLE, Int.reduceAdd, Int.reduceSub, Int.reduceMul, Int.reduceNeg, Int.reduceToNat, UInt8.reduceToNat, natLit, ty3, ty4, ty9, ty29, ty55, ty58]
      exact hih ⟨_, _⟩ _ _ _ _ _ _ _ _ _ _ _ _ _ _ _ _ _ _ _ _ _ _ _ _ (hx2 _) ⟨kb, g, by simp [hq.down], by rw [hw]; exact hcB _, hkb⟩ (hmf _ hst) (hmk _ hst)
    · simp only [q4, if_false, Int.reduceEq] at q1
      have hw : (opn st ++ g).set n (.int .i64 (tp.2 + 1)) = opn (st.set n (tp.1, tp.2 + 1)) ++ g := opn_up hn q4 g
      simp only [hn] at *
      unfold run evC at *
      rw [zEv_round hc]
      simp (config := {contextual := true, maxSteps := 10000000, implicitDefEqProofs := false}) (disch := first | (and_intros <;> omega -splitDisjunctions) | (simp only [List.length_set, List.length_append, List.length_cons, List.length_nil]; and_intros <;> omega -splitDisjunctions) | fail) only [t1, t2, t3, t4, q1, q2, q3, hw, sw, sw2, c4, c5, hcB, hn, k0, k1, k2, k3, k4, k5, k6, e2, Try.f42, go_sem, ↓reduceIte, Nat.reduceEqDiff, Nat.reduceAdd, Nat.reduceMul, Nat.reduceLT, Nat.reduceLeDiff, reduceCtorEq, Int.reduceNe, Int.reduceEq, Int.reduceLT, Int.reduceLE, Int.reduceAdd, Int.reduceSub, Int.reduceMul, Int.reduceNeg, Int.reduceToNat, UInt8.reduceToNat, natLit, ty3, ty4, ty9, ty29, ty55, ty58]
      exact hih ⟨_, _⟩ _ _ _ _ _ _ _ _ _ _ _ _ _ _ _ _ _ _ _ _ _ _ _ _ (hx3 _ _) ⟨kb, g, by simp [hq.down], c5 _ _, hkb⟩ (hmf _ hst) (hmk _ hst)
end Go.Proofs.Ytcbjmggbbnpbpaa.Lg
