/- Contracts over the logical machine (Val Pk1 PkH Pk2 PkM Pv0 Pv2 Pv1 Pw0 Pw1). No condition. -/
import Derived.Test.YtcbjmggbbnpbpaaM4
import Derived.Test.YtcbjmggbbnpbpaaLgE
namespace Go.Proofs.Ytcbjmggbbnpbpaa.Lg
set_option linter.unusedSimpArgs false
set_option linter.unusedVariables false
set_option maxRecDepth 100000
set_option maxHeartbeats 40000000
open Go.Proofs.Ytcbjmggbbnpbpaa

/-- a value -/
structure Val where
  kind : Int
  n : Int
  b : Bool
  s : ByteArray
  deriving DecidableEq
def vaC (x : Val) : List V := [.int .i64 x.kind, .int .i64 x.n, .bool x.b, .str x.s]
theorem vaC_len (x : Val) : (vaC x).length = 4 := rfl
def va0 : Val := ⟨0, 0, false, ⟨#[]⟩⟩
def nullS : List ByteArray := [⟨#[]⟩, ⟨#[126]⟩, ⟨#[110, 117, 108, 108]⟩, ⟨#[78, 117, 108, 108]⟩, ⟨#[78, 85, 76, 76]⟩]
def trueS : List ByteArray := [⟨#[116, 114, 117, 101]⟩, ⟨#[84, 114, 117, 101]⟩, ⟨#[84, 82, 85, 69]⟩]
def falseS : List ByteArray := [⟨#[102, 97, 108, 115, 101]⟩, ⟨#[70, 97, 108, 115, 101]⟩, ⟨#[70, 65, 76, 83, 69]⟩]
def among (s : ByteArray) (ws : List ByteArray) : Bool := ws.any (fun w => decide (w = s))
def plainV (s : ByteArray) : Val :=
  if among s nullS then ⟨1, 0, false, ⟨#[]⟩⟩ else if among s trueS then ⟨2, 0, true, ⟨#[]⟩⟩ else if among s falseS then ⟨2, 0, false, ⟨#[]⟩⟩
  else match intV s with
    | some n => ⟨3, n, false, ⟨#[]⟩⟩
    | none => ⟨4, 0, false, s⟩
theorem run_plainValue (s : ByteArray) (fl : Nat) (H : LH) (hs : s.size ≤ 1099511627776) : run 90 [.str s] fl H = some (.agg (vaC (plainV s)), H) := by
  have e1 := fun fl H => (run_imIntOf s fl H hs).trans (by rw [hexF_eq])
  unfold run at *
  rw [Run_z Try.func90 rfl (by rfl : ok 90 = true) (by rfl : cfg.keep 90 = [0, 2, 3, 4, 5, 6, 13, 18, 28]) (by rfl : cfg.mode 90 = .pure) (by rfl : cfg.ord 90 = [])]
  simp (config := {contextual := true, maxSteps := 10000000, implicitDefEqProofs := false}) (disch := first | (and_intros <;> omega -splitDisjunctions) | (simp only [List.length_set, List.length_append, List.length_cons, List.length_nil]; and_intros <;> omega -splitDisjunctions) | fail) only [e1, Try.f90, go_sem, ↓reduceIte, Nat.reduceEqDiff, Nat.reduceAdd, Nat.reduceMul, Nat.reduceLT, Nat.reduceLeDiff, reduceCtorEq, Int.reduceNe, Int.reduceEq, Int.reduceLT, Int.reduceLE, Int.reduceAdd, Int.reduceSub, Int.reduceMul, Int.reduceNeg, Int.reduceToNat, UInt8.reduceToNat, natLit, ty3, ty4, ty9, ty72]
  unfold plainV among nullS trueS falseS
  simp only [List.any_cons, List.any_nil, Bool.or_false, Bool.or_eq_true, decide_eq_true_eq, @eq_comm ByteArray _ s]
  cases intV s with
  | none =>
    (repeat' (refine ite_E (fun _ => ?_) (fun _ => ?_))) <;> simp_all [vaC]
  | some n =>
    (repeat' (refine ite_E (fun _ => ?_) (fun _ => ?_))) <;> simp_all [vaC]
theorem run_l14Among (s : ByteArray) (v : V) (ws : List ByteArray) (fl : Nat) (H : LH) (h : At H stC 1 v ws) (hl : ws.length ≤ 1048576) : run 85 [.str s, v] fl H = some (.bool (among s ws), H) := by
  have f1 := h.isTup; have f2 := h.len; have f3 := h.lenOk ty102; have f0 := h.one
  have f4 := fun hp => h.con hp
  have f5 := h.idx (T := ty Try.prog) (t := 102) (by simp only [elemI, sizeO, ty9, ty102])
  have f6 := h.load1 ⟨#[]⟩ _ (fun _ => rfl)
  unfold run at *
  rw [Run_z Try.func85 rfl (by rfl : ok 85 = true) (by rfl : cfg.keep 85 = [0, 1, 4, 6, 7, 8, 9, 10, 15]) (by rfl : cfg.mode 85 = .pure) (by rfl : cfg.ord 85 = [])]
  simp (config := {contextual := true, maxSteps := 10000000, implicitDefEqProofs := false}) (disch := first | (and_intros <;> omega -splitDisjunctions) | (simp only [List.length_set, List.length_append, List.length_cons, List.length_nil]; and_intros <;> omega -splitDisjunctions) | fail) only [f0, f1, f2, f3, f4, f5, f6, Try.f85, go_sem, ↓reduceIte, Nat.reduceEqDiff, Nat.reduceAdd, Nat.reduceMul, Nat.reduceLT, Nat.reduceLeDiff, reduceCtorEq, Int.reduceNe, Int.reduceEq, Int.reduceLT, Int.reduceLE, Int.reduceAdd, Int.reduceSub, Int.reduceMul, Int.reduceNeg, Int.reduceToNat, UInt8.reduceToNat, natLit, ty3, ty9, ty102]
  refine at_loopE fun c R hc hR => ?_
  have key : ∀ (m : Nat) (i : Nat) (j : Int) (x6 x10 x15 : Option V), ws.length - i < m → j = (i : Int) → i ≤ ws.length → among s (ws.drop i) = among s ws →
      zEv (leaveX (mkR Try.prog cfg ok [0, 1, 4, 6, 7, 8, 9, 10, 15] H.length) .pure H [ResultVar.tmp 4]) (mkR Try.prog cfg ok [0, 1, 4, 6, 7, 8, 9, 10, 15] H.length) (K.code (Code.loop c) :: K.blk 0 :: R) .nrm [some (.str s), some v, some (.bool false), x6, some v, some (.int .i64 ws.length), some (.int .i64 j), x10, x15] (H) = some (.bool (among s ws), H) := by
    intro m
    induction m with
    | zero => intro i j x6 x10 x15 hm; omega
    | succ m ih =>
      intro i j x6 x10 x15 hm hj hi hf
      subst hj
      rw [zEv_round hc, ← hR]
      simp (config := {contextual := true, maxSteps := 10000000, implicitDefEqProofs := false}) (disch := first | (and_intros <;> omega -splitDisjunctions) | (simp only [List.length_set, List.length_append, List.length_cons, List.length_nil]; and_intros <;> omega -splitDisjunctions) | fail) only [f0, f1, f2, f3, f4, f5, f6, Try.f85, go_sem, ↓reduceIte, Nat.reduceEqDiff, Nat.reduceAdd, Nat.reduceMul, Nat.reduceLT, Nat.reduceLeDiff, reduceCtorEq, Int.reduceNe, Int.reduceEq, Int.reduceLT, Int.reduceLE, Int.reduceAdd, Int.reduceSub, Int.reduceMul, Int.reduceNeg, Int.reduceToNat, UInt8.reduceToNat, natLit, ty3, ty9, ty102]
      try rw [hR]
      refine ite_E (fun hlt => ?_) (fun hge => ?_)
      · have hlt : i < ws.length := by omega
        rw [List.drop_eq_getElem_cons hlt] at hf
        unfold among at hf
        rw [List.any_cons, ← getD_of hlt ⟨#[]⟩] at hf
        refine ite_E (fun h1 => ?_) (fun h1 => ?_)
        · rw [decide_eq_true h1, Bool.true_or] at hf
          unfold among
          rw [← hf]
        · rw [decide_eq_false h1, Bool.false_or] at hf
          exact ih (i + 1) _ _ _ _ (by omega) (by omega) (by omega) hf
      · rw [List.drop_of_length_le (by omega)] at hf
        rw [← hf]; rfl
  exact key (ws.length + 1) 0 _ _ _ _ (by omega) rfl (by omega) (by simp)
theorem run_l14Plain (s : ByteArray) (fl : Nat) (H : LH) (hs : s.size ≤ 1099511627776) : run 72 [.str s] fl H = some (.agg (vaC (plainV s)), H) := by
  have e1 := fun fl H => (run_spIntOf s fl H hs).trans (by rw [hexF_eq])
  have a1 : ∀ (x : Blk) (fl : Nat), run 85 [.str s, .sl (H.length + 1) 0 1 5 5] fl (H ++ [x, .cells [.str ⟨#[]⟩, .str ⟨#[126]⟩, .str ⟨#[110, 117, 108, 108]⟩, .str ⟨#[78, 117, 108, 108]⟩, .str ⟨#[78, 85, 76, 76]⟩]]) = some (.bool (among s nullS), H ++ [x, .cells [.str ⟨#[]⟩, .str ⟨#[126]⟩, .str ⟨#[110, 117, 108, 108]⟩, .str ⟨#[78, 117, 108, 108]⟩, .str ⟨#[78, 85, 76, 76]⟩]]) := by
    intro x fl
    have := run_l14Among s _ nullS fl _ (At.new (H := H ++ [x]) (L := []) (xs := nullS) stC_len) (by decide)
    rw [List.length_append, List.append_assoc] at this
    exact this
  have a2 : ∀ (x y : Blk) (fl : Nat), run 85 [.str s, .sl (H.length + 2) 0 1 3 3] fl (H ++ [x, y, .cells [.str ⟨#[116, 114, 117, 101]⟩, .str ⟨#[84, 114, 117, 101]⟩, .str ⟨#[84, 82, 85, 69]⟩]]) = some (.bool (among s trueS), H ++ [x, y, .cells [.str ⟨#[116, 114, 117, 101]⟩, .str ⟨#[84, 114, 117, 101]⟩, .str ⟨#[84, 82, 85, 69]⟩]]) := by
    intro x y fl
    have := run_l14Among s _ trueS fl _ (At.new (H := H ++ [x, y]) (L := []) (xs := trueS) stC_len) (by decide)
    rw [List.length_append, List.append_assoc] at this
    exact this
  have a3 : ∀ (x y z : Blk) (fl : Nat), run 85 [.str s, .sl (H.length + 3) 0 1 3 3] fl (H ++ [x, y, z, .cells [.str ⟨#[102, 97, 108, 115, 101]⟩, .str ⟨#[70, 97, 108, 115, 101]⟩, .str ⟨#[70, 65, 76, 83, 69]⟩]]) = some (.bool (among s falseS), H ++ [x, y, z, .cells [.str ⟨#[102, 97, 108, 115, 101]⟩, .str ⟨#[70, 97, 108, 115, 101]⟩, .str ⟨#[70, 65, 76, 83, 69]⟩]]) := by
    intro x y z fl
    have := run_l14Among s _ falseS fl _ (At.new (H := H ++ [x, y, z]) (L := []) (xs := falseS) stC_len) (by decide)
    rw [List.length_append, List.append_assoc] at this
    exact this
  unfold run at *
  rw [Run_z Try.func72 rfl (by rfl : ok 72 = true) (by rfl : cfg.keep 72 = [0, 2, 3, 4, 10, 15, 20, 25]) (by rfl : cfg.mode 72 = .pure) (by rfl : cfg.ord 72 = [])]
  simp (config := {contextual := true, maxSteps := 10000000, implicitDefEqProofs := false}) (disch := first | (and_intros <;> omega -splitDisjunctions) | (simp only [List.length_set, List.length_append, List.length_cons, List.length_nil]; and_intros <;> omega -splitDisjunctions) | fail) only [e1, a1, a2, a3, Try.f72, go_sem, ↓reduceIte, Nat.reduceEqDiff, Nat.reduceAdd, Nat.reduceMul, Nat.reduceLT, Nat.reduceLeDiff, reduceCtorEq, Int.reduceNe, Int.reduceEq, Int.reduceLT, Int.reduceLE, Int.reduceAdd, Int.reduceSub, Int.reduceMul, Int.reduceNeg, Int.reduceToNat, UInt8.reduceToNat, natLit, ty3, ty4, ty9, ty72, ty102]
  unfold plainV
  clear e1 a1 a2 a3
  cases intV s with
  | none =>
    (repeat' (refine ite_E (fun h => ?_) (fun h => ?_))) <;> simp_all [vaC]
  | some n =>
    (repeat' (refine ite_E (fun h => ?_) (fun h => ?_))) <;> simp_all [vaC]
def coreT (w : ByteArray) : ByteArray := ⟨#[116, 97, 103, 58, 121, 97, 109, 108, 46, 111, 114, 103, 44, 50, 48, 48, 50, 58]⟩ ++ w
/-- what an event is worth -/
def valueV (e : Ev) : Val :=
  if ¬ EvOk e then va0
  else if e.kind = 3 then ⟨5, 0, false, ⟨#[]⟩⟩
  else if e.kind = 4 then ⟨6, 0, false, ⟨#[]⟩⟩
  else if e.kind = 6 then ⟨8, 0, false, e.text⟩
  else if ¬ e.kind = 5 then va0
  else if e.tag = ⟨#[]⟩ then (if e.style = 1 then plainV e.text else ⟨4, 0, false, e.text⟩)
  else if e.tag = ⟨#[33]⟩ ∨ e.tag = coreT ⟨#[115, 116, 114]⟩ then ⟨4, 0, false, e.text⟩
  else if (e.tag = coreT ⟨#[110, 117, 108, 108]⟩ ∧ (plainV e.text).kind = 1) ∨ (e.tag = coreT ⟨#[98, 111, 111, 108]⟩ ∧ (plainV e.text).kind = 2) ∨ (e.tag = coreT ⟨#[105, 110, 116]⟩ ∧ (plainV e.text).kind = 3) then plainV e.text
  else ⟨7, 0, false, e.text⟩
theorem core1 : coreT ⟨#[115, 116, 114]⟩ = ⟨#[116, 97, 103, 58, 121, 97, 109, 108, 46, 111, 114, 103, 44, 50, 48, 48, 50, 58, 115, 116, 114]⟩ := by decide
theorem core2 : coreT ⟨#[110, 117, 108, 108]⟩ = ⟨#[116, 97, 103, 58, 121, 97, 109, 108, 46, 111, 114, 103, 44, 50, 48, 48, 50, 58, 110, 117, 108, 108]⟩ := by decide
theorem core3 : coreT ⟨#[98, 111, 111, 108]⟩ = ⟨#[116, 97, 103, 58, 121, 97, 109, 108, 46, 111, 114, 103, 44, 50, 48, 48, 50, 58, 98, 111, 111, 108]⟩ := by decide
theorem core4 : coreT ⟨#[105, 110, 116]⟩ = ⟨#[116, 97, 103, 58, 121, 97, 109, 108, 46, 111, 114, 103, 44, 50, 48, 48, 50, 58, 105, 110, 116]⟩ := by decide
theorem run_imValueOf (e : Ev) (fl : Nat) (H : LH) (h3 : evCFit e) (hs : e.text.size ≤ 1099511627776) : run 79 [.agg (evC e)] fl H = some (.agg (vaC (valueV e)), H) := by
  have e1 := fun fl H => run_plainValue e.text fl H hs
  have e2 := fun fl H => run_imEventOk e fl H h3
  obtain ⟨W, hW⟩ : ∃ W, valueV e = W := ⟨_, rfl⟩
  rw [hW]
  unfold valueV at hW
  rw [core1, core2, core3, core4] at hW
  generalize hx : plainV e.text = x at *
  obtain ⟨x1, x2, x3, x4⟩ := x
  unfold run evC vaC at *
  rw [Run_z Try.func79 rfl (by rfl : ok 79 = true) (by rfl : cfg.keep 79 = [0, 1, 2, 3, 4, 7, 10, 12, 15, 18, 23, 26, 27, 31, 38, 44, 46, 48, 60]) (by rfl : cfg.mode 79 = .pure) (by rfl : cfg.ord 79 = [])]
  simp (config := {contextual := true, maxSteps := 10000000, implicitDefEqProofs := false}) (disch := first | (and_intros <;> omega -splitDisjunctions) | (simp only [List.length_set, List.length_append, List.length_cons, List.length_nil]; and_intros <;> omega -splitDisjunctions) | fail) only [e1, e2, Try.f79, go_sem, ↓reduceIte, Nat.reduceEqDiff, Nat.reduceAdd, Nat.reduceMul, Nat.reduceLT, Nat.reduceLeDiff, reduceCtorEq, Int.reduceNe, Int.reduceEq, Int.reduceLT, Int.reduceLE, Int.reduceAdd, Int.reduceSub, Int.reduceMul, Int.reduceNeg, Int.reduceToNat, UInt8.reduceToNat, natLit, ty3, ty4, ty9, ty58, ty72]
  clear e1 e2 hx h3 hs
  (repeat' (refine ite_E (fun _ => ?_) (fun _ => ?_))) <;> simp_all [va0] <;> (subst hW; simp)
theorem run_spValueOf (e : Ev) (fl : Nat) (H : LH) (h3 : evCFit e) (hs : e.text.size ≤ 1099511627776) : run 46 [.agg (evC e)] fl H = some (.agg (vaC (valueV e)), H) := by
  have e1 := fun fl H => run_l14Plain e.text fl H hs
  have e2 := fun fl H => run_spEventOk e fl H h3
  obtain ⟨W, hW⟩ : ∃ W, valueV e = W := ⟨_, rfl⟩
  rw [hW]
  unfold valueV at hW
  rw [core1, core2, core3, core4] at hW
  generalize hx : plainV e.text = x at *
  obtain ⟨x1, x2, x3, x4⟩ := x
  unfold run evC vaC at *
  rw [Run_z Try.func46 rfl (by rfl : ok 46 = true) (by rfl : cfg.keep 46 = [0, 1, 2, 3, 4, 5, 8, 11, 12, 15, 18, 23, 29, 30, 34, 39, 45, 46, 47, 48, 63]) (by rfl : cfg.mode 46 = .pure) (by rfl : cfg.ord 46 = [])]
  have k2 := core2
  have k3 := core3
  have k4 := core4
  unfold coreT at k2 k3 k4
  simp (config := {contextual := true, maxSteps := 10000000, implicitDefEqProofs := false}) (disch := first | (and_intros <;> omega -splitDisjunctions) | (simp only [List.length_set, List.length_append, List.length_cons, List.length_nil]; and_intros <;> omega -splitDisjunctions) | fail) only [e1, e2, zEv_loop, k2, k3, k4, Try.f46, go_sem, ↓reduceIte, Nat.reduceEqDiff, Nat.reduceAdd, Nat.reduceMul, Nat.reduceLT, Nat.reduceLeDiff, reduceCtorEq, Int.reduceNe, Int.reduceEq, Int.reduceLT, Int.reduceLE, Int.reduceAdd, Int.reduceSub, Int.reduceMul, Int.reduceNeg, Int.reduceToNat, UInt8.reduceToNat, natLit, ty3, ty4, ty9, ty58, ty72, ty102]
  clear e1 e2 hx h3 hs k2 k3 k4
  (repeat' (refine ite_E (fun _ => ?_) (fun _ => ?_))) <;> simp_all [va0] <;> (subst hW; simp)
end Go.Proofs.Ytcbjmggbbnpbpaa.Lg
namespace Go.Proofs.Ytcbjmggbbnpbpaa.Lg
set_option linter.unusedSimpArgs false
set_option linter.unusedVariables false
set_option maxRecDepth 100000
set_option maxHeartbeats 40000000
open Go.Proofs.Ytcbjmggbbnpbpaa

theorem run_defOf {H : LH} {v ve vu vd : V} {es : List Ev} (h : NsAt H v ve vu vd es) (hl : es.length ≤ 1048576) (hok : ∀ i, i < es.length → EvOk (evA es i)) (h1 : kd es 0 = 1) {i : Nat} (hi : i < es.length) (fl : Nat) :
    run 60 [.agg [v, ve, vu, vd], .int .i64 i] fl H = some (.int .i64 (dfI es i), H) := by
  have e1 := fun L fl => run_has (h.ext (Hx.app (L := L))) hl i fl
  have j1 := h.e.one; have j2 := h.u.one; have j3 := h.d.one
  have j4 := h.e.isTup; have j5 := h.u.isTup; have j6 := h.d.isTup
  have hv := h.l
  have f1 := hv.isTup; have f2 := hv.len; have f3 := hv.lenOk ty29; have f0 := hv.one
  have f4 := fun L hp => (hv.left (L := L)).con hp
  have f5 := hv.idx (T := ty Try.prog) (t := 29) (by simp only [elemI, sizeO, ty3, ty4, ty9, ty29, ty58])
  have f6 := fun L => (hv.left (L := L)).loadD evC_len evZ
  have hpos : 0 < es.length := by omega
  have f4 := fun L => (h.ext (Hx.app (L := L))).l.con hpos
  have g0 := fun n K L => (hv.left (L := L)).loadD0 evC_len evZ (fun e => .int .i64 e.kind) (fun _ => rfl) i hi n K
  have t2 : (0 ≤ (i : Int)) = True := eq_true (by omega)
  have t3 : ((i : Int) ≤ (es.length : Int) - 1) = True := eq_true (by omega)
  unfold dfI
  unfold run at *
  rw [Run_z Try.func60 rfl (by rfl : ok 60 = true) (by rfl : cfg.keep 60 = [0, 1, 2, 4, 5, 18, 27, 50, 65]) (by rfl : cfg.mode 60 = .pure) (by rfl : cfg.ord 60 = [])]
  by_cases h6 : kd es i = 6
  rotate_left
  · rw [if_neg h6]
    have t6 : ((es.getD i evZ).kind = 6) = False := eq_false h6
    simp (config := {contextual := true, maxSteps := 10000000, implicitDefEqProofs := false}) (disch := first | (and_intros <;> omega -splitDisjunctions) | (simp only [List.length_set, List.length_append, List.length_cons, List.length_nil]; and_intros <;> omega -splitDisjunctions) | fail) only [f0, f1, f2, f3, f4, f5, f6, g0, t2, t3, t6, e1, j1, j2, j3, j4, j5, j6, Try.f60, go_sem, ↓reduceIte, Nat.reduceEqDiff, Nat.reduceAdd, Nat.reduceMul, Nat.reduceLT, Nat.reduceLeDiff, reduceCtorEq, Int.reduceNe, Int.reduceEq, Int.reduceLT, Int.reduceLE, Int.reduceAdd, Int.reduceSub, Int.reduceMul, Int.reduceNeg, Int.reduceToNat, UInt8.reduceToNat, natLit, ty3, ty4, ty9, ty29, ty55, ty58, ty64]
  rw [if_pos h6]
  have t6 : ((es.getD i evZ).kind = 6) = True := eq_true h6
  simp (config := {contextual := true, maxSteps := 10000000, implicitDefEqProofs := false}) (disch := first | (and_intros <;> omega -splitDisjunctions) | (simp only [List.length_set, List.length_append, List.length_cons, List.length_nil]; and_intros <;> omega -splitDisjunctions) | fail) only [f0, f1, f2, f3, f4, f5, f6, g0, t2, t3, t6, e1, j1, j2, j3, j4, j5, j6, Try.f60, go_sem, ↓reduceIte, Nat.reduceEqDiff, Nat.reduceAdd, Nat.reduceMul, Nat.reduceLT, Nat.reduceLeDiff, reduceCtorEq, Int.reduceNe, Int.reduceEq, Int.reduceLT, Int.reduceLE, Int.reduceAdd, Int.reduceSub, Int.reduceMul, Int.reduceNeg, Int.reduceToNat, UInt8.reduceToNat, natLit, ty3, ty4, ty9, ty29, ty55, ty58, ty64]
  have cE : LH.cellsAt (H ++ [.cells [v, ve, vu, vd]]) H.length = some [v, ve, vu, vd] := by rw [cellsAt_app0]; rfl
  have hN := h.ext (Hx.app (L := [.cells [v, ve, vu, vd]]))
  generalize hA : H ++ [Blk.cells [v, ve, vu, vd]] = A at *
  have hxA : Hx H A := by rw [← hA]; exact Hx.app
  have hle := hxA.len
  have r1 := hN.e.isTup; have r2 := hN.d.isTup
  have hdl : ((List.range es.length).map (fun i => (docGo es (i + 1) : Int))).length = es.length := by simp
  have di := hN.d.idx (T := ty Try.prog) (t := 55) (by simp only [elemI, sizeO, ty3, ty55]) .i64 i (by omega) (by rw [hdl]; omega)
  have dl := fun n K => hN.d.load1 0 (fun x => .int .i64 x) (fun _ => rfl) i (by rw [hdl]; omega) n K
  rw [rangeD hi] at dl
  have dc := hN.d.con (by rw [hdl]; omega)
  have hd1 : docGo es (i + 1) = docGo es i := by
    rw [docGo, if_neg (by omega)]
  rw [hd1] at dl
  have hdi := docGo_le es i
  have hvA := hN.l
  have y1 := hvA.isTup; have y2 := hvA.len; have y3 := hvA.lenOk ty29; have y0 := hvA.one
  have y4 := fun hp => hvA.con hp
  have y5 := hvA.idx (T := ty Try.prog) (t := 29) (by simp only [elemI, sizeO, ty3, ty4, ty9, ty29, ty58])
  have y6 := hvA.loadD evC_len evZ
  have y4 := hvA.con hpos
  have q3 := fun n K => hvA.loadDF evC_len evZ (fun e => .str e.text) (j := 3) (fun _ => rfl) i hi n K
  have hel : ((List.range es.length).map (endF es)).length = es.length := by simp
  have ei := hN.e.idx (T := ty Try.prog) (t := 55) (by simp only [elemI, sizeO, ty3, ty55])
  have ec := hN.e.con (by rw [hel]; omega)
  have hT := (hok i hi).2.2.2.2.2.2.2.2.2.1 h6
  unfold defF
  refine at_loopE fun c R hc hR => ?_
  have key : ∀ (m : Nat) (q : Nat) (kk : Int) (x18 x27 x50 x65 : Option V), q < m → kk = (q : Int) - 1 → q ≤ i → docGo es i < q →
      zEv (leaveX (mkR Try.prog cfg ok [0, 1, 2, 4, 5, 18, 27, 50, 65] H.length) .pure H [ResultVar.tmp 4]) (mkR Try.prog cfg ok [0, 1, 2, 4, 5, 18, 27, 50, 65] H.length) (K.code (Code.loop c) :: K.blk 0 :: R) .nrm [some (.agg [v, ve, vu, vd]), some (.int .i64 i), some (.ptr H.length 0), some (.int .i64 0), some (.int .i64 kk), x18, x27, x50, x65] (A) = some (.int .i64 (defGo es (evA es i).text i q), H) := by
    intro m
    induction m with
    | zero => intro q kk x18 x27 x50 x65 hm; omega
    | succ m ih =>
      intro q kk x18 x27 x50 x65 hm hk hq hq2
      subst hk
      obtain ⟨p, rfl⟩ : ∃ p, q = p + 1 := ⟨q - 1, by omega⟩
      have hp : (((p + 1 : Nat) : Int) - 1) = (p : Int) := by omega
      rw [hp]
      by_cases hlast : p = docGo es i
      · have t7 : ((p : Int) > (docGo es i : Int)) = False := eq_false (by omega)
        rw [hlast, defGo_doc es h1]
        rw [hlast] at t7
        rw [zEv_round hc, ← hR]
        simp (config := {contextual := true, maxSteps := 10000000, implicitDefEqProofs := false}) (disch := first | (and_intros <;> omega -splitDisjunctions) | (simp only [List.length_set, List.length_append, List.length_cons, List.length_nil]; and_intros <;> omega -splitDisjunctions) | fail) only [cE, r1, r2, di, dl, dc, t7, Try.f60, go_sem, ↓reduceIte, Nat.reduceEqDiff, Nat.reduceAdd, Nat.reduceMul, Nat.reduceLT, Nat.reduceLeDiff, reduceCtorEq, Int.reduceNe, Int.reduceEq, Int.reduceLT, Int.reduceLE, Int.reduceAdd, Int.reduceSub, Int.reduceMul, Int.reduceNeg, Int.reduceToNat, UInt8.reduceToNat, natLit, ty3, ty4, ty9, ty29, ty55, ty58, ty64]
      have t7 : ((p : Int) > (docGo es i : Int)) = True := eq_true (by omega)
      have hpl : p < es.length := by omega
      have p4 := fun n K => hvA.loadDF evC_len evZ (fun e => .str e.anchor) (j := 4) (fun _ => rfl) p hpl n K
      have p6 := y6 p hpl
      have n1 := fun fl H => run_isNode (es.getD p evZ) fl H
      have ei2 := ei .i64 p (by omega) (by rw [hel]; omega)
      have el2 := fun n K => hN.endL hpl n K
      have hne := endF_ne (es := es) (show p < i by omega) hpl (by omega)
      unfold run at n1
      rw [zEv_round hc, ← hR]
      simp (config := {contextual := true, maxSteps := 10000000, implicitDefEqProofs := false}) (disch := first | (and_intros <;> omega -splitDisjunctions) | (simp only [List.length_set, List.length_append, List.length_cons, List.length_nil]; and_intros <;> omega -splitDisjunctions) | fail) only [cE, r1, r2, di, dl, dc, t7, q3, y4, p4, p6, n1, ei2, el2, ec, y0, y1, y2, y3, y4, y5, y6, Try.f60, go_sem, ↓reduceIte, Nat.reduceEqDiff, Nat.reduceAdd, Nat.reduceMul, Nat.reduceLT, Nat.reduceLeDiff, reduceCtorEq, Int.reduceNe, Int.reduceEq, Int.reduceLT, Int.reduceLE, Int.reduceAdd, Int.reduceSub, Int.reduceMul, Int.reduceNeg, Int.reduceToNat, UInt8.reduceToNat, natLit, ty3, ty4, ty9, ty29, ty55, ty58, ty64]
      try rw [hR]
      unfold defGo
      rw [if_neg (docGo_gt es i p (by omega) (by omega))]
      refine ite_E (fun w => ?_) (fun w => ?_)
      · rw [if_pos (show isN (evA es p) ∧ (evA es p).anchor ≠ ⟨#[]⟩ ∧ (evA es p).anchor = (evA es i).text from ⟨w.1, fun e => hT.1 (by rw [← e]; exact w.2.symm), w.2⟩)]
        refine ite_E (fun w2 => ?_) (fun w2 => ?_)
        · rw [if_pos (show endF es p < 0 ∨ (i : Int) < endF es p by omega)]
        · rw [if_neg (show ¬ (endF es p < 0 ∨ (i : Int) < endF es p) by omega)]
      · rw [if_neg (show ¬ (isN (evA es p) ∧ (evA es p).anchor ≠ ⟨#[]⟩ ∧ (evA es p).anchor = (evA es i).text) from fun x => w ⟨x.1, x.2.2⟩)]
        exact ih p _ _ _ _ _ (by omega) rfl (by omega) (by omega)
  have hi0 : i ≠ 0 := by intro e; rw [e] at h6; omega
  have hlt : docGo es i < i := by
    obtain ⟨k, rfl⟩ : ∃ k, i = k + 1 := ⟨i - 1, by omega⟩
    unfold docGo
    by_cases h9 : kd es k = 2
    · rw [if_pos h9]; omega
    · rw [if_neg h9]; have := docGo_le es k; omega
  exact key (i + 1) i _ _ _ _ _ (by omega) rfl (Nat.le_refl _) hlt
def keyV (es : List Ev) (i : Nat) : ByteArray := if kd es i = 6 then (if defF es i < 0 then ⟨#[]⟩ else if kd es (defF es i).toNat = 5 then (evA es (defF es i).toNat).text else ⟨#[]⟩) else if kd es i = 5 then (evA es i).text else ⟨#[]⟩
theorem run_l17Key {v : V} {es : List Ev} {H : LH} (h : At H evC 8 v es) (hl : es.length ≤ 1048576) {i : Nat} (hi : i < es.length) (fl : Nat) :
    run 48 [v, .int .i64 i] fl H = some (.str (keyV es i), H) := by
  have f1 := h.isTup; have f2 := h.len; have f3 := h.lenOk ty29; have f0 := h.one
  have f4 := fun hp => h.con hp
  have f5 := h.idx (T := ty Try.prog) (t := 29) (by simp only [elemI, sizeO, ty3, ty4, ty9, ty29, ty58])
  have f6 := h.loadD evC_len evZ
  have e1 := fun fl => run_l13Def h hl hi fl
  have g0 := fun n K => h.loadD0 evC_len evZ (fun e => .int .i64 e.kind) (fun _ => rfl) i hi n K
  have g3 := fun n K => h.loadDF evC_len evZ (fun e => .str e.text) (j := 3) (fun _ => rfl) i hi n K
  have f4 := h.con (by omega)
  unfold keyV
  unfold run at *
  rw [Run_z Try.func48 rfl (by rfl : ok 48 = true) (by rfl : cfg.keep 48 = [0, 1, 4, 5, 11, 16, 23]) (by rfl : cfg.mode 48 = .pure) (by rfl : cfg.ord 48 = [])]
  by_cases h6 : kd es i = 6
  rotate_left
  · have t6 : ((es.getD i evZ).kind = 6) = False := eq_false h6
    rw [if_neg h6]
    simp (config := {contextual := true, maxSteps := 10000000, implicitDefEqProofs := false}) (disch := first | (and_intros <;> omega -splitDisjunctions) | (simp only [List.length_set, List.length_append, List.length_cons, List.length_nil]; and_intros <;> omega -splitDisjunctions) | fail) only [f0, f1, f2, f3, f4, f5, f6, e1, g0, g3, t6, Try.f48, go_sem, ↓reduceIte, Nat.reduceEqDiff, Nat.reduceAdd, Nat.reduceMul, Nat.reduceLT, Nat.reduceLeDiff, reduceCtorEq, Int.reduceNe, Int.reduceEq, Int.reduceLT, Int.reduceLE, Int.reduceAdd, Int.reduceSub, Int.reduceMul, Int.reduceNeg, Int.reduceToNat, UInt8.reduceToNat, natLit, ty3, ty4, ty9, ty29, ty58]
    exact ite_E (fun w => by rw [if_pos (show kd es i = 5 from w)]) (fun w => by rw [if_neg (show ¬ kd es i = 5 from w)])
  have t6 : ((es.getD i evZ).kind = 6) = True := eq_true h6
  rw [if_pos h6]
  rcases defF_rng es i with hd | ⟨hd, hd2⟩
  · have t7 : (defF es i < 0) = True := eq_true (by omega)
    rw [if_pos (by omega)]
    simp (config := {contextual := true, maxSteps := 10000000, implicitDefEqProofs := false}) (disch := first | (and_intros <;> omega -splitDisjunctions) | (simp only [List.length_set, List.length_append, List.length_cons, List.length_nil]; and_intros <;> omega -splitDisjunctions) | fail) only [f0, f1, f2, f3, f4, f5, f6, e1, g0, g3, t6, t7, Try.f48, go_sem, ↓reduceIte, Nat.reduceEqDiff, Nat.reduceAdd, Nat.reduceMul, Nat.reduceLT, Nat.reduceLeDiff, reduceCtorEq, Int.reduceNe, Int.reduceEq, Int.reduceLT, Int.reduceLE, Int.reduceAdd, Int.reduceSub, Int.reduceMul, Int.reduceNeg, Int.reduceToNat, UInt8.reduceToNat, natLit, ty3, ty4, ty9, ty29, ty58]
  · obtain ⟨j, hj⟩ : ∃ j : Nat, defF es i = j := ⟨(defF es i).toNat, by omega⟩
    rw [hj] at e1 ⊢
    have hjl : j < es.length := by omega
    have t7 : ((j : Int) < 0) = False := eq_false (by omega)
    have k0 := fun n K => h.loadD0 evC_len evZ (fun e => .int .i64 e.kind) (fun _ => rfl) j hjl n K
    have k3 := fun n K => h.loadDF evC_len evZ (fun e => .str e.text) (j := 3) (fun _ => rfl) j hjl n K
    rw [if_neg (by omega), Int.toNat_natCast]
    simp (config := {contextual := true, maxSteps := 10000000, implicitDefEqProofs := false}) (disch := first | (and_intros <;> omega -splitDisjunctions) | (simp only [List.length_set, List.length_append, List.length_cons, List.length_nil]; and_intros <;> omega -splitDisjunctions) | fail) only [f0, f1, f2, f3, f4, f5, f6, e1, g0, g3, k0, k3, t6, t7, Try.f48, go_sem, ↓reduceIte, Nat.reduceEqDiff, Nat.reduceAdd, Nat.reduceMul, Nat.reduceLT, Nat.reduceLeDiff, reduceCtorEq, Int.reduceNe, Int.reduceEq, Int.reduceLT, Int.reduceLE, Int.reduceAdd, Int.reduceSub, Int.reduceMul, Int.reduceNeg, Int.reduceToNat, UInt8.reduceToNat, natLit, ty3, ty4, ty9, ty29, ty58]
    exact ite_E (fun w => by rw [if_pos (show kd es j = 5 from w)]) (fun w => by rw [if_neg (show ¬ kd es j = 5 from w)])
/-- the place that an alias stands for -/
def tgt (es : List Ev) (i : Nat) : Nat := if 0 ≤ dfI es i then (dfI es i).toNat else i
theorem tgt_lt {es : List Ev} {i : Nat} (hi : i < es.length) : tgt es i < es.length := by
  unfold tgt
  by_cases h : 0 ≤ dfI es i
  · rw [if_pos h]
    unfold dfI at *
    by_cases h6 : kd es i = 6
    · rw [if_pos h6] at *
      rcases defF_rng es i with hd | ⟨hd, hd2⟩ <;> omega
    · rw [if_neg h6] at h; omega
  · rw [if_neg h]; exact hi
theorem run_valueOf {H : LH} {v ve vu vd : V} {es : List Ev} (h : NsAt H v ve vu vd es) (hl : es.length ≤ 1048576) (hok : ∀ i, i < es.length → EvOk (evA es i)) (hfit : ∀ e ∈ es, evCFit e) (hsh : ∀ e ∈ es, e.text.size ≤ 1099511627776) (h1 : kd es 0 = 1) {i : Nat} (hi : i < es.length) (fl : Nat) :
    run 59 [.agg [v, ve, vu, vd], .int .i64 i] fl H = some (.agg (vaC (valueV (evA es (tgt es i)))), H) := by
  have e1 := fun L fl => run_defOf (h.ext (Hx.app (L := L))) hl hok h1 hi fl
  have hm := fun (x : Nat) (hx : x < es.length) => show es.getD x evZ ∈ es by rw [getD_of hx]; exact List.getElem_mem _
  have e2 := fun fl H => run_imValueOf (evA es (tgt es i)) fl H (hfit _ (hm _ (tgt_lt hi))) (hsh _ (hm _ (tgt_lt hi)))
  have htl := tgt_lt hi
  have j1 := h.e.one; have j2 := h.u.one; have j3 := h.d.one
  have j4 := h.e.isTup; have j5 := h.u.isTup; have j6 := h.d.isTup
  have hv := h.l
  have f1 := hv.isTup; have f2 := hv.len; have f3 := hv.lenOk ty29; have f0 := hv.one
  have f4 := fun L hp => (hv.left (L := L)).con hp
  have f5 := hv.idx (T := ty Try.prog) (t := 29) (by simp only [elemI, sizeO, ty3, ty4, ty9, ty29, ty58])
  have f6 := fun L => (hv.left (L := L)).loadD evC_len evZ
  have f4 := fun L => (h.ext (Hx.app (L := L))).l.con (by omega)
  have y6 := fun L K => f6 L (tgt es i) htl K
  generalize hW : valueV (evA es (tgt es i)) = W at *
  unfold vaC at *
  unfold run at *
  rw [Run_z Try.func59 rfl (by rfl : ok 59 = true) (by rfl : cfg.keep 59 = [0, 1, 2, 4, 5, 10]) (by rfl : cfg.mode 59 = .pure) (by rfl : cfg.ord 59 = [])]
  by_cases h6 : 0 ≤ dfI es i
  · have ht : ((tgt es i : Nat) : Int) = dfI es i := by unfold tgt; rw [if_pos h6]; omega
    rw [← ht] at e1
    have t0 : (0 ≤ ((tgt es i : Nat) : Int)) = True := eq_true (by omega)
    simp (config := {contextual := true, maxSteps := 10000000, implicitDefEqProofs := false}) (disch := first | (and_intros <;> omega -splitDisjunctions) | (simp only [List.length_set, List.length_append, List.length_cons, List.length_nil]; and_intros <;> omega -splitDisjunctions) | fail) only [t0, y6, e1, e2, j1, j2, j3, j4, j5, j6, f0, f1, f2, f3, f4, f5, f6, Try.f59, go_sem, ↓reduceIte, Nat.reduceEqDiff, Nat.reduceAdd, Nat.reduceMul, Nat.reduceLT, Nat.reduceLeDiff, reduceCtorEq, Int.reduceNe, Int.reduceEq, Int.reduceLT, Int.reduceLE, Int.reduceAdd, Int.reduceSub, Int.reduceMul, Int.reduceNeg, Int.reduceToNat, UInt8.reduceToNat, natLit, ty3, ty4, ty9, ty29, ty55, ty58, ty64, ty72]
  · have ht : tgt es i = i := by unfold tgt; rw [if_neg h6]
    rw [ht] at e2 y6 htl
    have t0 : (0 ≤ dfI es i) = False := eq_false h6
    simp (config := {contextual := true, maxSteps := 10000000, implicitDefEqProofs := false}) (disch := first | (and_intros <;> omega -splitDisjunctions) | (simp only [List.length_set, List.length_append, List.length_cons, List.length_nil]; and_intros <;> omega -splitDisjunctions) | fail) only [t0, y6, e1, e2, j1, j2, j3, j4, j5, j6, f0, f1, f2, f3, f4, f5, f6, Try.f59, go_sem, ↓reduceIte, Nat.reduceEqDiff, Nat.reduceAdd, Nat.reduceMul, Nat.reduceLT, Nat.reduceLeDiff, reduceCtorEq, Int.reduceNe, Int.reduceEq, Int.reduceLT, Int.reduceLE, Int.reduceAdd, Int.reduceSub, Int.reduceMul, Int.reduceNeg, Int.reduceToNat, UInt8.reduceToNat, natLit, ty3, ty4, ty9, ty29, ty55, ty58, ty64, ty72]
theorem keyV_tgt {es : List Ev} {i : Nat} : keyV es i = if kd es (tgt es i) = 5 then (evA es (tgt es i)).text else ⟨#[]⟩ := by
  unfold keyV tgt dfI
  by_cases h6 : kd es i = 6
  · simp only [h6, if_true]
    by_cases h7 : defF es i < 0
    · rw [if_pos h7, if_neg (show ¬ 0 ≤ defF es i by omega), if_neg (by omega)]
    · rw [if_neg h7, if_pos (show 0 ≤ defF es i by omega)]
  · simp only [h6, if_false]
    rw [if_neg (show ¬ (0 : Int) ≤ -1 by omega)]
theorem run_keyText {H : LH} {v ve vu vd : V} {es : List Ev} (h : NsAt H v ve vu vd es) (hl : es.length ≤ 1048576) (hok : ∀ i, i < es.length → EvOk (evA es i)) (h1 : kd es 0 = 1) {i : Nat} (hi : i < es.length) (fl : Nat) :
    run 62 [.agg [v, ve, vu, vd], .int .i64 i] fl H = some (.str (keyV es i), H) := by
  have e1 := fun L fl => run_defOf (h.ext (Hx.app (L := L))) hl hok h1 hi fl
  have htl := tgt_lt hi
  have e2 := fun L fl => run_has (h.ext (Hx.app (L := L))) hl (tgt es i) fl
  have j1 := h.e.one; have j2 := h.u.one; have j3 := h.d.one
  have j4 := h.e.isTup; have j5 := h.u.isTup; have j6 := h.d.isTup
  have hv := h.l
  have f1 := hv.isTup; have f2 := hv.len; have f3 := hv.lenOk ty29; have f0 := hv.one
  have f4 := fun L hp => (hv.left (L := L)).con hp
  have f5 := hv.idx (T := ty Try.prog) (t := 29) (by simp only [elemI, sizeO, ty3, ty4, ty9, ty29, ty58])
  have f6 := fun L => (hv.left (L := L)).loadD evC_len evZ
  have f4 := fun L => (h.ext (Hx.app (L := L))).l.con (by omega)
  have k0 := fun n K L => (hv.left (L := L)).loadD0 evC_len evZ (fun e => .int .i64 e.kind) (fun _ => rfl) (tgt es i) htl n K
  have k3 := fun n K L => (hv.left (L := L)).loadDF evC_len evZ (fun e => .str e.text) (j := 3) (fun _ => rfl) (tgt es i) htl n K
  have t2 : (0 ≤ ((tgt es i : Nat) : Int)) = True := eq_true (by omega)
  have t3 : (((tgt es i : Nat) : Int) ≤ (es.length : Int) - 1) = True := eq_true (by omega)
  rw [keyV_tgt]
  unfold run at *
  rw [Run_z Try.func62 rfl (by rfl : ok 62 = true) (by rfl : cfg.keep 62 = [0, 1, 2, 4, 5, 10, 24]) (by rfl : cfg.mode 62 = .pure) (by rfl : cfg.ord 62 = [])]
  by_cases h6 : 0 ≤ dfI es i
  · have ht : ((tgt es i : Nat) : Int) = dfI es i := by unfold tgt; rw [if_pos h6]; omega
    rw [← ht] at e1
    simp (config := {contextual := true, maxSteps := 10000000, implicitDefEqProofs := false}) (disch := first | (and_intros <;> omega -splitDisjunctions) | (simp only [List.length_set, List.length_append, List.length_cons, List.length_nil]; and_intros <;> omega -splitDisjunctions) | fail) only [t2, t3, k0, k3, e1, e2, j1, j2, j3, j4, j5, j6, f0, f1, f2, f3, f4, f5, f6, Try.f62, go_sem, ↓reduceIte, Nat.reduceEqDiff, Nat.reduceAdd, Nat.reduceMul, Nat.reduceLT, Nat.reduceLeDiff, reduceCtorEq, Int.reduceNe, Int.reduceEq, Int.reduceLT, Int.reduceLE, Int.reduceAdd, Int.reduceSub, Int.reduceMul, Int.reduceNeg, Int.reduceToNat, UInt8.reduceToNat, natLit, ty3, ty4, ty9, ty29, ty55, ty58, ty64]
    exact ite_E (fun w => by rw [if_pos (show kd es (tgt es i) = 5 from w)]) (fun w => by rw [if_neg (show ¬ kd es (tgt es i) = 5 from w)])
  · have ht : tgt es i = i := by unfold tgt; rw [if_neg h6]
    rw [ht] at e2 k0 k3 htl t2 t3 ⊢
    have t0 : (0 ≤ dfI es i) = False := eq_false h6
    simp (config := {contextual := true, maxSteps := 10000000, implicitDefEqProofs := false}) (disch := first | (and_intros <;> omega -splitDisjunctions) | (simp only [List.length_set, List.length_append, List.length_cons, List.length_nil]; and_intros <;> omega -splitDisjunctions) | fail) only [t0, t2, t3, k0, k3, e1, e2, j1, j2, j3, j4, j5, j6, f0, f1, f2, f3, f4, f5, f6, Try.f62, go_sem, ↓reduceIte, Nat.reduceEqDiff, Nat.reduceAdd, Nat.reduceMul, Nat.reduceLT, Nat.reduceLeDiff, reduceCtorEq, Int.reduceNe, Int.reduceEq, Int.reduceLT, Int.reduceLE, Int.reduceAdd, Int.reduceSub, Int.reduceMul, Int.reduceNeg, Int.reduceToNat, UInt8.reduceToNat, natLit, ty3, ty4, ty9, ty29, ty55, ty58, ty64]
    exact ite_E (fun w => by rw [if_pos (show kd es i = 5 from w)]) (fun w => by rw [if_neg (show ¬ kd es i = 5 from w)])
end Go.Proofs.Ytcbjmggbbnpbpaa.Lg
namespace Go.Proofs.Ytcbjmggbbnpbpaa.Lg
set_option linter.unusedSimpArgs false
set_option linter.unusedVariables false
set_option maxRecDepth 100000
set_option maxHeartbeats 40000000
open Go.Proofs.Ytcbjmggbbnpbpaa

/-- blocks ahead of 'f' stand as they stood, but for those of 'E' -/
structure Fx (f : Nat) (E : List Nat) (A B : LH) : Prop where
  len : A.length ≤ B.length
  get : ∀ b, b < f → b ∉ E → B[b]? = A[b]?
theorem Fx.refl {f : Nat} {E : List Nat} (A : LH) : Fx f E A A := ⟨Nat.le_refl _, fun _ _ _ => rfl⟩
theorem Fx.app {f : Nat} {E : List Nat} {A L : LH} (hf : f ≤ A.length) : Fx f E A (A ++ L) := ⟨by simp, fun b h1 _ => List.getElem?_append_left (by omega)⟩
theorem Fx.set {f b : Nat} {E : List Nat} {A : LH} {x : Blk} (hb : b ∈ E ∨ f ≤ b) : Fx f E A (A.set b x) := ⟨by simp, fun c h1 h2 => by
  rw [List.getElem?_set_ne]
  rcases hb with hb | hb
  · intro e; subst e; exact h2 hb
  · omega⟩
theorem Fx.trans {f : Nat} {E E' : List Nat} {A B C : LH} (h : Fx f E A B) (k : Fx B.length E' B C) (hf : f ≤ A.length) (he : ∀ c, c < f → c ∈ E' → c ∈ E) : Fx f E A C :=
  ⟨Nat.le_trans h.len k.len, fun b h1 h2 => (k.get b (by have := h.len; omega) (fun h3 => h2 (he b h1 h3))).trans (h.get b h1 h2)⟩
theorem cells_gx {A B : LH} {b : Nat} (h : B[b]? = A[b]?) : LH.cellsAt B b = LH.cellsAt A b := by
  unfold LH.cellsAt
  rw [h]
theorem Fx.cells {f b : Nat} {E : List Nat} {A B : LH} {l : List V} (h : Fx f E A B) (hc : LH.cellsAt A b = some l) (h1 : b < f) (h2 : b ∉ E) : LH.cellsAt B b = some l := by
  rw [cells_gx (h.get b h1 h2)]; exact hc
theorem Fx.hx {f : Nat} {E : List Nat} {A B G : LH} (h : Fx f E A B) (hx : Hx G A) (hl : G.length ≤ f) (hE : ∀ b ∈ E, G.length ≤ b) : Hx G B := by
  obtain ⟨L, rfl⟩ := hx
  refine ⟨B.drop G.length, ?_⟩
  have hlen := h.len
  rw [List.length_append] at hlen
  have : B.take G.length = G := by
    apply List.ext_getElem?
    intro i
    rw [List.getElem?_take]
    by_cases hi : i < G.length
    · rw [if_pos hi, h.get i (by omega) (fun hm => by have := hE i hm; omega), List.getElem?_append_left hi]
    · rw [if_neg hi, List.getElem?_eq_none (by omega)]
  conv => lhs; rw [← List.take_append_drop G.length B, this]
/-- the block of a slice, if it has one -/
def sbk : V → List Nat
  | .sl b _ _ _ _ => [b]
  | _ => []
theorem At.fr {α : Type} {enc : α → List V} {z f : Nat} {E : List Nat} {A B : LH} {v : V} {xs : List α} (h : At A enc z v xs) (k : Fx f E A B) (hv : ∀ c ∈ sbk v, c < f ∧ c ∉ E) : At B enc z v xs := by
  rcases h with h | ⟨b, o, c, l, rfl, h1, h2⟩
  · exact .inl h
  · have := hv b (by simp [sbk])
    exact .inr ⟨b, o, c, l, rfl, k.cells h1 this.1 this.2, h2⟩
theorem Own.fr {α : Type} {enc : α → List V} {z g f : Nat} {E : List Nat} {A B : LH} {v : V} {xs : List α} (h : Own g A enc z v xs) (k : Fx f E A B) (hv : ∀ c ∈ sbk v, c < f ∧ c ∉ E) : Own g B enc z v xs := by
  rcases h with h | ⟨b, rfl, h1, h2⟩
  · exact .inl h
  · have := hv b (by simp [sbk])
    exact .inr ⟨b, rfl, k.cells h1 this.1 this.2, h2⟩
theorem Own.sbk {α : Type} {enc : α → List V} {z g : Nat} {A : LH} {v : V} {xs : List α} (h : Own g A enc z v xs) : ∀ c ∈ sbk v, g ≤ c ∧ c < A.length := by
  intro c hc
  rcases h with ⟨_, rfl | rfl⟩ | ⟨b, rfl, h1, h2⟩
  · simp [Lg.sbk] at hc
  · simp [Lg.sbk] at hc
  · simp [Lg.sbk] at hc
    subst hc
    exact ⟨h2, cellsAt_lt h1⟩
theorem At.sbk {α : Type} {enc : α → List V} {z : Nat} {A : LH} {v : V} {xs : List α} (h : At A enc z v xs) : ∀ c ∈ sbk v, c < A.length := by
  intro c hc
  rcases h with ⟨_, rfl | rfl⟩ | ⟨b, o, q, l, rfl, h1, h2⟩
  · simp [Lg.sbk] at hc
  · simp [Lg.sbk] at hc
  · simp [Lg.sbk] at hc
    subst hc
    exact cellsAt_lt h1
theorem kill_fr {α : Type} {enc : α → List V} {z g : Nat} {A L : LH} {v : V} {xs : List α} (h : Own g A enc z v xs) : Fx A.length (sbk v) A (killV A v ++ L) := by
  rcases h with ⟨rfl, rfl | rfl⟩ | ⟨b, rfl, hc, h2⟩
  · exact Fx.app (Nat.le_refl _)
  · exact Fx.app (Nat.le_refl _)
  · refine ⟨by simp [killV], fun c h1 h2 => ?_⟩
    have hcb : c ≠ b := fun e => h2 (by simp [sbk, e])
    show ((A.set b .dead) ++ L)[c]? = A[c]?
    rw [List.getElem?_append_left (by rw [List.length_set]; exact h1), List.getElem?_set_ne (Ne.symm hcb)]
/-- a hit -/
structure Ht where
  doc : Int
  path : List Sg
  val : Val
  deriving DecidableEq
def pC (x : V) : List V := [x]
theorem pC_len (x : V) : (pC x).length = 1 := rfl
/-- a slice of patterns -/
structure PAt (H : LH) (w : V) (pv : List V) (ps : List (List Sg)) : Prop where
  at_ : At H pC 1 w pv
  len : pv.length = ps.length
  row : ∀ k, k < ps.length → At H sgC 3 (pv.getD k .nilsl) (ps.getD k [])
  few : ps.length ≤ 1048576
  sm : ∀ k, k < ps.length → (ps.getD k []).length ≤ 1048576
theorem PAt.ext {H B : LH} {w : V} {pv : List V} {ps : List (List Sg)} (h : PAt H w pv ps) (e : Hx H B) : PAt B w pv ps := ⟨h.at_.ext e, h.len, fun k hk => (h.row k hk).ext e, h.few, h.sm⟩
/-- the cells of a hit -/
structure HC where
  doc : Int
  pv : V
  val : Val
def htC (c : HC) : List V := [.int .i64 c.doc, c.pv, .int .i64 c.val.kind, .int .i64 c.val.n, .bool c.val.b, .str c.val.s]
theorem htC_len (c : HC) : (htC c).length = 6 := rfl
def hc0 : HC := ⟨0, .nilsl, va0⟩
def ht0 : Ht := ⟨0, [], va0⟩
structure RelH (f : Nat) (H : LH) (c : HC) (h : Ht) : Prop where
  doc : c.doc = h.doc
  val : c.val = h.val
  path : Own f H sgC 3 c.pv h.path
/-- hits, each path in a block of its own -/
structure HOwn (f : Nat) (H : LH) (v : V) (cs : List HC) (hs : List Ht) : Prop where
  own : Own f H htC 6 v cs
  len : cs.length = hs.length
  row : ∀ i, i < hs.length → RelH f H (cs.getD i hc0) (hs.getD i ht0)
  apart : ∀ i j, i < j → j < hs.length → ∀ a ∈ sbk (cs.getD i hc0).pv, ∀ c ∈ sbk (cs.getD j hc0).pv, a < c
  low : ∀ i, i < hs.length → ∀ a ∈ sbk (cs.getD i hc0).pv, ∀ c ∈ sbk v, a < c
theorem HOwn.nil {f : Nat} {H : LH} : HOwn f H .nilsl [] [] := ⟨.inl ⟨rfl, .inl rfl⟩, rfl, fun i h => absurd h (Nat.not_lt_zero _), fun i j _ h => absurd h (Nat.not_lt_zero _), fun i h => absurd h (Nat.not_lt_zero _)⟩
theorem HOwn.fr {g f : Nat} {E : List Nat} {A B : LH} {v : V} {cs : List HC} {hs : List Ht} (h : HOwn g A v cs hs) (k : Fx f E A B) (hf : A.length ≤ f) (hE : ∀ c ∈ E, c < g ∨ A.length ≤ c) : HOwn g B v cs hs := by
  have key : ∀ c, g ≤ c → c < A.length → c < f ∧ c ∉ E := fun c h1 h2 => ⟨by omega, fun h3 => by have := hE c h3; omega⟩
  refine ⟨h.own.fr k (fun c hc => ?_), h.len, fun i hi => ?_, h.apart, h.low⟩
  · have := h.own.sbk c hc; exact key c this.1 this.2
  · have r := h.row i hi
    exact ⟨r.doc, r.val, r.path.fr k (fun c hc => by have := r.path.sbk c hc; exact key c this.1 this.2)⟩
theorem getD_l {α : Type} {xs : List α} {y d : α} {i : Nat} (h : i < xs.length) : (xs ++ [y]).getD i d = xs.getD i d := by
  rw [List.getD_eq_getElem?_getD, List.getD_eq_getElem?_getD, List.getElem?_append_left h]
theorem getD_r {α : Type} {xs : List α} {y d : α} {i : Nat} (h : i = xs.length) : (xs ++ [y]).getD i d = y := by
  subst h
  rw [List.getD_eq_getElem?_getD, List.getElem?_append_right (Nat.le_refl _), Nat.sub_self]; rfl
theorem HOwn.put {f : Nat} {A L : LH} {hv pw : V} {cs : List HC} {hs : List Ht} {path : List Sg} (h : HOwn f A hv cs hs) (hp : Own f A sgC 3 pw path) (doc : Int) (val : Val)
    (hn1 : ∀ i, i < hs.length → ∀ a ∈ sbk (cs.getD i hc0).pv, ∀ c ∈ sbk pw, a < c) (hn2 : ∀ c ∈ sbk pw, ∀ b ∈ sbk hv, c ≠ b) (hf : f ≤ A.length) :
    HOwn f (killV (A ++ L) hv ++ [.cells (rows htC (cs ++ [⟨doc, pw, val⟩]))]) (.sl (A ++ L).length 0 6 (cs.length + 1) (cs.length + 1)) (cs ++ [⟨doc, pw, val⟩]) (hs ++ [⟨doc, path, val⟩]) := by
  have hfr : Fx A.length (sbk hv) A (killV (A ++ L) hv ++ [.cells (rows htC (cs ++ [⟨doc, pw, val⟩]))]) := by
    have k := kill_fr (L := [.cells (rows htC (cs ++ [⟨doc, pw, val⟩]))]) (h.own.ext (Hx.app (L := L)))
    refine ⟨by have := k.len; rw [List.length_append] at this; omega, fun c h1 h2 => ?_⟩
    rw [k.get c (by rw [List.length_append]; omega) h2, List.getElem?_append_left h1]
  have hl := h.len
  have an := app_new (enc := htC) (z := 6) (v := hv) (show f ≤ (A ++ L).length by rw [List.length_append]; omega) (cs ++ [⟨doc, pw, val⟩])
  have el : (cs ++ [(⟨doc, pw, val⟩ : HC)]).length = cs.length + 1 := by simp
  rw [el] at an
  refine ⟨an, by simp [hl], fun i hi => ?_, fun i j hij hj => ?_, fun i hi => ?_⟩
  · rw [List.length_append, List.length_singleton] at hi
    by_cases hlt : i < hs.length
    · rw [getD_l (by omega), getD_l hlt]
      have r := h.row i hlt
      refine ⟨r.doc, r.val, r.path.fr hfr (fun c hc => ?_)⟩
      have := r.path.sbk c hc
      exact ⟨this.2, fun h3 => by have := h.low i hlt c hc c h3; omega⟩
    · rw [getD_r (by omega), getD_r (by omega)]
      refine ⟨rfl, rfl, hp.fr hfr (fun c hc => ?_)⟩
      have := hp.sbk c hc
      exact ⟨this.2, fun h3 => hn2 c hc c h3 rfl⟩
  · rw [List.length_append, List.length_singleton] at hj
    rw [getD_l (by omega)]
    by_cases hlt : j < hs.length
    · rw [getD_l (by omega)]; exact h.apart i j hij hlt
    · rw [getD_r (by omega)]; exact hn1 i (by omega)
  · rw [List.length_append, List.length_singleton] at hi
    intro a ha c hc
    have hc : c = (A ++ L).length := by simpa [sbk] using hc
    rw [List.length_append] at hc
    by_cases hlt : i < hs.length
    · rw [getD_l (by omega)] at ha
      have := (h.row i hlt).path.sbk a ha
      omega
    · rw [getD_r (by omega)] at ha
      have := hp.sbk a ha
      omega
end Go.Proofs.Ytcbjmggbbnpbpaa.Lg
namespace Go.Proofs.Ytcbjmggbbnpbpaa.Lg
set_option linter.unusedSimpArgs false
set_option linter.unusedVariables false
set_option maxRecDepth 100000
set_option maxHeartbeats 40000000
open Go.Proofs.Ytcbjmggbbnpbpaa

def patOk (p : List Sg) : Bool := decide (p.length ≤ 60) && p.all sgOk
theorem run_imPatternOk {x : V} {p : List Sg} {H : LH} (h : At H sgC 3 x p) (hl : p.length ≤ 1048576) (fl : Nat) : run 28 [.agg [x]] fl H = some (.bool (patOk p), H) := by
  have e1 := fun L fl => run_segsOk x p fl (H ++ L) (h.left) hl
  have i1 := h.isTup; have i2 := h.len; have i3 := h.lenOk ty47; have i4 := h.one
  unfold patOk
  unfold run at *
  rw [Run_z Try.func28 rfl (by rfl : ok 28 = true) (by rfl : cfg.keep 28 = [0, 1, 2]) (by rfl : cfg.mode 28 = .pure) (by rfl : cfg.ord 28 = [])]
  simp (config := {contextual := true, maxSteps := 10000000, implicitDefEqProofs := false}) (disch := first | (and_intros <;> omega -splitDisjunctions) | (simp only [List.length_set, List.length_append, List.length_cons, List.length_nil]; and_intros <;> omega -splitDisjunctions) | fail) only [e1, i1, i2, i3, i4, Try.f28, go_sem, ↓reduceIte, Nat.reduceEqDiff, Nat.reduceAdd, Nat.reduceMul, Nat.reduceLT, Nat.reduceLeDiff, reduceCtorEq, Int.reduceNe, Int.reduceEq, Int.reduceLT, Int.reduceLE, Int.reduceAdd, Int.reduceSub, Int.reduceMul, Int.reduceNeg, Int.reduceToNat, UInt8.reduceToNat, natLit, ty3, ty9, ty47, ty49, ty81]
  by_cases h60 : p.length ≤ 60
  · have t1 : ((p.length : Int) ≤ 60) = True := eq_true (by omega)
    simp [h60, t1]
  · have t1 : ((p.length : Int) ≤ 60) = False := eq_false (by omega)
    simp [h60, t1]
theorem run_spPatternOk {x : V} {p : List Sg} {H : LH} (h : At H sgC 3 x p) (hl : p.length ≤ 1048576) (fl : Nat) : run 19 [.agg [x]] fl H = some (.bool (patOk p), H) := by
  have e1 := fun s fl H => run_spSegOk s fl H
  have i1 := h.isTup; have i2 := h.len; have i3 := h.lenOk ty47; have i4 := h.one
  have hR0 : patOk p = (p.all sgOk && decide (p.length ≤ 60)) := Bool.and_comm _ _
  rw [hR0]
  unfold run at *
  rw [Run_z Try.func19 rfl (by rfl : ok 19 = true) (by rfl : cfg.keep 19 = [0, 1, 2, 4, 6, 7, 8, 9, 14]) (by rfl : cfg.mode 19 = .pure) (by rfl : cfg.ord 19 = [])]
  simp (config := {contextual := true, maxSteps := 10000000, implicitDefEqProofs := false}) (disch := first | (and_intros <;> omega -splitDisjunctions) | (simp only [List.length_set, List.length_append, List.length_cons, List.length_nil]; and_intros <;> omega -splitDisjunctions) | fail) only [i1, i2, i3, i4, Try.f19, go_sem, ↓reduceIte, Nat.reduceEqDiff, Nat.reduceAdd, Nat.reduceMul, Nat.reduceLT, Nat.reduceLeDiff, reduceCtorEq, Int.reduceNe, Int.reduceEq, Int.reduceLT, Int.reduceLE, Int.reduceAdd, Int.reduceSub, Int.reduceMul, Int.reduceNeg, Int.reduceToNat, UInt8.reduceToNat, natLit, ty3, ty4, ty9, ty47, ty49, ty81]
  refine at_loopE fun c R hc hR => ?_
  have key : ∀ (m : Nat) (i : Nat) (j : Int) (A : LH) (x4 x9 x14 : Option V), p.length - i < m → j = (i : Int) → i ≤ p.length → Hx (H ++ [.cells [x]]) A → (p.drop i).all sgOk = p.all sgOk →
      zEv (leaveX (mkR Try.prog cfg ok [0, 1, 2, 4, 6, 7, 8, 9, 14] H.length) .pure H [ResultVar.tmp 2]) (mkR Try.prog cfg ok [0, 1, 2, 4, 6, 7, 8, 9, 14] H.length) (K.code (Code.loop c) :: K.blk 0 :: R) .nrm [some (.agg [x]), some (.ptr H.length 0), some (.bool false), x4, some x, some (.int .i64 p.length), some (.int .i64 j), x9, x14] (A) = some (.bool (p.all sgOk && decide (p.length ≤ 60)), H) := by
    intro m
    induction m with
    | zero => intro i j A x4 x9 x14 hm; omega
    | succ m ih =>
      intro i j A x4 x9 x14 hm hj hi hA hf
      subst hj
      have hxH : Hx H A := Hx.trans Hx.app hA
      have hB := h.ext hxH
      have hle := hxH.len
      have cE : LH.cellsAt A H.length = some [x] := hA.cells (by rw [cellsAt_app0]; rfl)
      have g1 := hB.isTup; have g2 := hB.len; have g3 := hB.lenOk ty47; have g0 := hB.one
      have g4 := fun hp => hB.con hp
      have g5 := hB.idx (T := ty Try.prog) (t := 47) (by simp only [elemI, sizeO, ty3, ty9, ty47, ty81])
      have g6 := hB.loadD sgC_len sg0
      rcases Nat.lt_or_ge i p.length with hlt | hge
      · have g7 := fun K => g6 i hlt K
        generalize hs : p.getD i sg0 = s at *
        have e2 := fun fl H => e1 s fl H
        rw [all_drop hlt sg0, hs] at hf
        unfold sgC at g7 e2
        have g6 := g7
        have t0 : ((i : Int) < p.length) = True := eq_true (by omega)
        rw [zEv_round hc, ← hR]
        simp (config := {contextual := true, maxSteps := 10000000, implicitDefEqProofs := false}) (disch := first | (and_intros <;> omega -splitDisjunctions) | (simp only [List.length_set, List.length_append, List.length_cons, List.length_nil]; and_intros <;> omega -splitDisjunctions) | fail) only [g0, g1, g2, g3, g4, g5, g6, e2, t0, hle, Try.f19, go_sem, ↓reduceIte, Nat.reduceEqDiff, Nat.reduceAdd, Nat.reduceMul, Nat.reduceLT, Nat.reduceLeDiff, reduceCtorEq, Int.reduceNe, Int.reduceEq, Int.reduceLT, Int.reduceLE, Int.reduceAdd, Int.reduceSub, Int.reduceMul, Int.reduceNeg, Int.reduceToNat, UInt8.reduceToNat, natLit, ty3, ty4, ty9, ty47, ty49, ty81]
        try rw [hR]
        refine ite_E2 (fun h1 => ?_) (fun h1 => ?_)
        · rw [eq_true_of_ne_false h1, Bool.true_and] at hf
          exact ih (i + 1) _ _ _ _ _ (by omega) (by omega) (by omega) (hA.trans Hx.app) hf
        · rw [h1, Bool.false_and] at hf
          rw [← hf, Bool.false_and]
      · rw [List.drop_of_length_le (by omega)] at hf
        have t0 : ((i : Int) < p.length) = False := eq_false (by omega)
        rw [zEv_round hc, ← hR]
        simp (config := {contextual := true, maxSteps := 10000000, implicitDefEqProofs := false}) (disch := first | (and_intros <;> omega -splitDisjunctions) | (simp only [List.length_set, List.length_append, List.length_cons, List.length_nil]; and_intros <;> omega -splitDisjunctions) | fail) only [g0, g1, g2, g3, g4, g5, g6, cE, t0, Try.f19, go_sem, ↓reduceIte, Nat.reduceEqDiff, Nat.reduceAdd, Nat.reduceMul, Nat.reduceLT, Nat.reduceLeDiff, reduceCtorEq, Int.reduceNe, Int.reduceEq, Int.reduceLT, Int.reduceLE, Int.reduceAdd, Int.reduceSub, Int.reduceMul, Int.reduceNeg, Int.reduceToNat, UInt8.reduceToNat, natLit, ty3, ty4, ty9, ty47, ty49, ty81]
        rw [← hf]
        simp [show ((p.length : Int) ≤ 60) = (p.length ≤ 60) by apply propext; omega]
  exact key (p.length + 1) 0 _ _ _ _ _ (by omega) rfl (by omega) (Hx.refl _) (by simp)
def fstQ (Q : Nat → Bool) : Nat → Nat → Int
  | 0, _ => -1
  | d + 1, k => if Q k = true then (k : Int) else fstQ Q d (k + 1)
theorem fstQ_iff {Q : Nat → Bool} : ∀ (d k : Nat), 0 ≤ fstQ Q d k ↔ ∃ j, k ≤ j ∧ j < k + d ∧ Q j = true
  | 0, k => by
    constructor
    · intro h; have h : (0 : Int) ≤ -1 := h; omega
    · rintro ⟨j, h1, h2, _⟩; omega
  | d + 1, k => by
    unfold fstQ
    by_cases h : Q k = true
    · rw [if_pos h]; exact ⟨fun _ => ⟨k, Nat.le_refl _, by omega, h⟩, fun _ => by omega⟩
    · rw [if_neg h, fstQ_iff d (k + 1)]
      constructor
      · rintro ⟨j, h1, h2, h3⟩; exact ⟨j, by omega, by omega, h3⟩
      · rintro ⟨j, h1, h2, h3⟩
        refine ⟨j, ?_, by omega, h3⟩
        have : j ≠ k := fun e => h (by rw [← e]; exact h3)
        omega
theorem fstQ_any {Q : Nat → Bool} (n : Nat) : decide (0 ≤ fstQ Q n 0) = (List.range n).any Q := by
  rw [Bool.eq_iff_iff, decide_eq_true_eq, fstQ_iff, List.any_eq_true]
  constructor
  · rintro ⟨j, _, h2, h3⟩; exact ⟨j, List.mem_range.2 (by omega), h3⟩
  · rintro ⟨j, h2, h3⟩; exact ⟨j, Nat.zero_le _, by have := List.mem_range.1 h2; omega, h3⟩
theorem run_patIdx {H : LH} {w : V} {pv : List V} (h : At H pC 1 w pv) (hl : pv.length ≤ 1048576) (f : FuncId) (caps : List V) (Q : Nat → Bool)
    (hf : ∀ k, k < pv.length → ∀ fl, Run Try.prog cfg ok f (.agg [pv.getD k .nilsl] :: caps) fl H = some (.bool (Q k), H)) (fl : Nat) :
    run 50 [w, .fn f caps] fl H = some (.int .i64 (fstQ Q pv.length 0), H) := by
  have i1 := h.isTup; have i2 := h.len; have i3 := h.lenOk ty31
  unfold run at *
  rw [Run_z Try.func50 rfl (by rfl : ok 50 = true) (by rfl : cfg.keep 50 = [0, 1, 4, 5, 7, 8, 9, 16]) (by rfl : cfg.mode 50 = .pure) (by rfl : cfg.ord 50 = [])]
  simp (config := {contextual := true, maxSteps := 10000000, implicitDefEqProofs := false}) (disch := first | (and_intros <;> omega -splitDisjunctions) | (simp only [List.length_set, List.length_append, List.length_cons, List.length_nil]; and_intros <;> omega -splitDisjunctions) | fail) only [i1, i2, i3, Try.f50, go_sem, ↓reduceIte, Nat.reduceEqDiff, Nat.reduceAdd, Nat.reduceMul, Nat.reduceLT, Nat.reduceLeDiff, reduceCtorEq, Int.reduceNe, Int.reduceEq, Int.reduceLT, Int.reduceLE, Int.reduceAdd, Int.reduceSub, Int.reduceMul, Int.reduceNeg, Int.reduceToNat, UInt8.reduceToNat, natLit, ty3, ty9, ty31, ty47, ty49, ty81]
  refine at_loopE fun c R hc hR => ?_
  have key : ∀ (m : Nat) (k : Nat) (kk : Int) (x4 x5 x9 x16 : Option V), pv.length - k < m → kk = k → k ≤ pv.length → fstQ Q (pv.length - k) k = fstQ Q pv.length 0 →
      zEv (leaveX (mkR Try.prog cfg ok [0, 1, 4, 5, 7, 8, 9, 16] H.length) .pure H [ResultVar.tmp 4]) (mkR Try.prog cfg ok [0, 1, 4, 5, 7, 8, 9, 16] H.length) (K.code (Code.loop c) :: K.blk 0 :: R) .nrm [some w, some (.fn f caps), x4, x5, some (.int .i64 pv.length), some (.int .i64 kk), x9, x16] (H) = some (.int .i64 (fstQ Q pv.length 0), H) := by
    intro m
    induction m with
    | zero => intro k kk x4 x5 x9 x16 hm; omega
    | succ m ih =>
      intro k kk x4 x5 x9 x16 hm hk hkl hfin
      subst hk
      by_cases hlt : k < pv.length
      rotate_left
      · have t1 : ((k : Int) < pv.length) = False := eq_false (by omega)
        rw [show pv.length - k = 0 by omega] at hfin
        rw [zEv_round hc, ← hR]
        simp (config := {contextual := true, maxSteps := 10000000, implicitDefEqProofs := false}) (disch := first | (and_intros <;> omega -splitDisjunctions) | (simp only [List.length_set, List.length_append, List.length_cons, List.length_nil]; and_intros <;> omega -splitDisjunctions) | fail) only [t1, Try.f50, go_sem, ↓reduceIte, Nat.reduceEqDiff, Nat.reduceAdd, Nat.reduceMul, Nat.reduceLT, Nat.reduceLeDiff, reduceCtorEq, Int.reduceNe, Int.reduceEq, Int.reduceLT, Int.reduceLE, Int.reduceAdd, Int.reduceSub, Int.reduceMul, Int.reduceNeg, Int.reduceToNat, UInt8.reduceToNat, natLit, ty3, ty9, ty31, ty47, ty49, ty81]
        rw [← hfin]; rfl
      have t1 : ((k : Int) < pv.length) = True := eq_true (by omega)
      have f1 := h.isTup; have f2 := h.len; have f3 := h.lenOk ty31; have f0 := h.one
      have f4 := fun hp => h.con hp
      have f5 := h.idx (T := ty Try.prog) (t := 31) (by simp only [elemI, sizeO, ty3, ty9, ty31, ty47, ty49, ty81])
      have f6 := h.loadD pC_len .nilsl
      have g6 := f6 k hlt
      simp only [pC, Nat.mul_one] at g6
      have f6 := g6
      have e1 := hf k hlt
      rw [show pv.length - k = (pv.length - (k + 1)) + 1 by omega, fstQ] at hfin
      rw [zEv_round hc, ← hR]
      simp (config := {contextual := true, maxSteps := 10000000, implicitDefEqProofs := false}) (disch := first | (and_intros <;> omega -splitDisjunctions) | (simp only [List.length_set, List.length_append, List.length_cons, List.length_nil]; and_intros <;> omega -splitDisjunctions) | fail) only [t1, e1, f0, f1, f2, f3, f4, f5, f6, Try.f50, go_sem, ↓reduceIte, Nat.reduceEqDiff, Nat.reduceAdd, Nat.reduceMul, Nat.reduceLT, Nat.reduceLeDiff, reduceCtorEq, Int.reduceNe, Int.reduceEq, Int.reduceLT, Int.reduceLE, Int.reduceAdd, Int.reduceSub, Int.reduceMul, Int.reduceNeg, Int.reduceToNat, UInt8.reduceToNat, natLit, ty3, ty9, ty31, ty47, ty49, ty81]
      try rw [hR]
      refine ite_E (fun w1 => ?_) (fun w1 => ?_)
      · rw [if_pos w1] at hfin
        rw [← hfin]
      · rw [if_neg w1] at hfin
        exact ih (k + 1) ((k : Int) + 1) _ _ _ _ (by omega) (by omega) (by omega) hfin
  exact key (pv.length + 1) 0 0 _ _ _ _ (by omega) rfl (by omega) rfl
theorem run_patAny {H : LH} {w : V} {pv : List V} (h : At H pC 1 w pv) (hl : pv.length ≤ 1048576) (f : FuncId) (caps : List V) (Q : Nat → Bool)
    (hf : ∀ k, k < pv.length → ∀ fl, Run Try.prog cfg ok f (.agg [pv.getD k .nilsl] :: caps) fl H = some (.bool (Q k), H)) (fl : Nat) :
    run 26 [w, .fn f caps] fl H = some (.bool ((List.range pv.length).any Q), H) := by
  have e1 := fun fl => run_patIdx h hl f caps Q hf fl
  have i1 := h.isTup
  rw [← fstQ_any]
  unfold run at *
  rw [Run_z Try.func26 rfl (by rfl : ok 26 = true) (by rfl : cfg.keep 26 = [0, 1, 4]) (by rfl : cfg.mode 26 = .pure) (by rfl : cfg.ord 26 = [])]
  simp (config := {contextual := true, maxSteps := 10000000, implicitDefEqProofs := false}) (disch := first | (and_intros <;> omega -splitDisjunctions) | (simp only [List.length_set, List.length_append, List.length_cons, List.length_nil]; and_intros <;> omega -splitDisjunctions) | fail) only [i1, e1, Try.f26, go_sem, ↓reduceIte, Nat.reduceEqDiff, Nat.reduceAdd, Nat.reduceMul, Nat.reduceLT, Nat.reduceLeDiff, reduceCtorEq, Int.reduceNe, Int.reduceEq, Int.reduceLT, Int.reduceLE, Int.reduceAdd, Int.reduceSub, Int.reduceMul, Int.reduceNeg, Int.reduceToNat, UInt8.reduceToNat, natLit, ty3]
theorem run_visit1 {H : LH} {x pw : V} {p ls : List Sg} {b : Nat} (h : At H sgC 3 x p) (hb : H.cellsAt b = some [pw]) (hw : At H sgC 3 pw ls) (hp : p.length ≤ 1048576) (hl : ls.length ≤ 1048576) (fl : Nat) :
    run 56 [.agg [x], .ptr b 0] fl H = some (.bool (matchB p ls), H) := by
  have hbl := cellsAt_lt hb
  have hb2 := fun L => cellsAt_left (L := L) hb
  have e1 := fun L fl => run_imMatch (h.left (L := L)) (hw.left (L := L)) hp hl fl
  have i1 := h.isTup; have i2 := h.one; have i3 := hw.isTup; have i4 := hw.one
  unfold run at *
  rw [Run_z Try.func56 rfl (by rfl : ok 56 = true) (by rfl : cfg.keep 56 = [0, 1, 2, 3]) (by rfl : cfg.mode 56 = .pure) (by rfl : cfg.ord 56 = [])]
  simp (config := {contextual := true, maxSteps := 10000000, implicitDefEqProofs := false}) (disch := first | (and_intros <;> omega -splitDisjunctions) | (simp only [List.length_set, List.length_append, List.length_cons, List.length_nil]; and_intros <;> omega -splitDisjunctions) | fail) only [e1, i1, i2, i3, i4, hb2, Try.f56, go_sem, ↓reduceIte, Nat.reduceEqDiff, Nat.reduceAdd, Nat.reduceMul, Nat.reduceLT, Nat.reduceLeDiff, reduceCtorEq, Int.reduceNe, Int.reduceEq, Int.reduceLT, Int.reduceLE, Int.reduceAdd, Int.reduceSub, Int.reduceMul, Int.reduceNeg, Int.reduceToNat, UInt8.reduceToNat, natLit, ty3, ty9, ty47, ty49, ty81]
theorem run_Pick1 {H : LH} {x : V} {p : List Sg} (h : At H sgC 3 x p) (hp : p.length ≤ 1048576) (fl : Nat) :
    run 27 [.agg [x]] fl H = some (.bool (!(patOk p)), H) := by
  have e1 := fun L fl => run_imPatternOk (h.left (L := L)) hp fl
  have i1 := h.isTup; have i2 := h.one
  unfold run at *
  rw [Run_z Try.func27 rfl (by rfl : ok 27 = true) (by rfl : cfg.keep 27 = [0, 1, 2]) (by rfl : cfg.mode 27 = .pure) (by rfl : cfg.ord 27 = [])]
  simp (config := {contextual := true, maxSteps := 10000000, implicitDefEqProofs := false}) (disch := first | (and_intros <;> omega -splitDisjunctions) | (simp only [List.length_set, List.length_append, List.length_cons, List.length_nil]; and_intros <;> omega -splitDisjunctions) | fail) only [e1, i1, i2, Try.f27, go_sem, ↓reduceIte, Nat.reduceEqDiff, Nat.reduceAdd, Nat.reduceMul, Nat.reduceLT, Nat.reduceLeDiff, reduceCtorEq, Int.reduceNe, Int.reduceEq, Int.reduceLT, Int.reduceLE, Int.reduceAdd, Int.reduceSub, Int.reduceMul, Int.reduceNeg, Int.reduceToNat, UInt8.reduceToNat, natLit, ty3, ty4, ty9, ty47, ty49, ty81]
theorem At.nilS {α : Type} {enc : α → List V} {z : Nat} {H : LH} {v : V} {xs : List α} (h : At H enc z v xs) : (v = .nilsl ∧ xs = []) ∨ nilO v = some false := by
  rcases h with ⟨rfl, rfl | rfl⟩ | ⟨b, o, c, l, rfl, h1, h2, h3⟩
  · exact .inl ⟨rfl, rfl⟩
  · exact .inr rfl
  · exact .inr rfl
theorem run_Clone {H : LH} {v : V} {ls : List Sg} (h : At H sgC 3 v ls) (hl : ls.length ≤ 1048576) (fl : Nat) :
    Ret (fun w H' => Hx H H' ∧ Own H.length H' sgC 3 w ls) (run 58 [v] fl H) := by
  have f1 := h.isTup; have f2 := h.len; have f3 := h.lenOk ty47
  have f4 := fun L => (h.left (L := L)).cells; have f5 := h.src
  unfold run
  rw [Run_z Try.func58 rfl (by rfl : ok 58 = true) (by rfl : cfg.keep 58 = [0, 2, 4]) (by rfl : cfg.mode 58 = .fresh) (by rfl : cfg.ord 58 = [])]
  rcases h.nilS with ⟨rfl, rfl⟩ | hn
  · simp (config := {contextual := true, maxSteps := 10000000, implicitDefEqProofs := false}) (disch := first | (and_intros <;> omega -splitDisjunctions) | (simp only [List.length_set, List.length_append, List.length_cons, List.length_nil]; and_intros <;> omega -splitDisjunctions) | fail) only [Try.f58, go_sem, ↓reduceIte, Nat.reduceEqDiff, Nat.reduceAdd, Nat.reduceMul, Nat.reduceLT, Nat.reduceLeDiff, reduceCtorEq, Int.reduceNe, Int.reduceEq, Int.reduceLT, Int.reduceLE, Int.reduceAdd, Int.reduceSub, Int.reduceMul, Int.reduceNeg, Int.reduceToNat, UInt8.reduceToNat, natLit, ty3, ty9, ty47, ty81]
    exact ⟨Hx.refl H, .inl ⟨rfl, .inl rfl⟩⟩
  · unfold nilO at hn
    by_cases hz : ls.length = 0
    · have hx0 : ls = [] := List.eq_nil_of_length_eq_zero hz
      subst hx0
      simp (config := {contextual := true, maxSteps := 10000000, implicitDefEqProofs := false}) (disch := first | (and_intros <;> omega -splitDisjunctions) | (simp only [List.length_set, List.length_append, List.length_cons, List.length_nil]; and_intros <;> omega -splitDisjunctions) | fail) only [f1, f2, f3, f4, f5, hn, List.length_nil, Try.f58, go_sem, ↓reduceIte, Nat.reduceEqDiff, Nat.reduceAdd, Nat.reduceMul, Nat.reduceLT, Nat.reduceLeDiff, reduceCtorEq, Int.reduceNe, Int.reduceEq, Int.reduceLT, Int.reduceLE, Int.reduceAdd, Int.reduceSub, Int.reduceMul, Int.reduceNeg, Int.reduceToNat, UInt8.reduceToNat, natLit, ty3, ty9, ty47, ty81]
      exact ⟨Hx.app, .inr ⟨H.length, rfl, by rw [cellsAt_app0]; rfl, Nat.le_refl _⟩⟩
    · have hp : 0 < ls.length := by omega
      have hn2 : ¬ ls.length ≤ 0 := by omega
      simp (config := {contextual := true, maxSteps := 10000000, implicitDefEqProofs := false}) (disch := first | (and_intros <;> omega -splitDisjunctions) | (simp only [List.length_set, List.length_append, List.length_cons, List.length_nil]; and_intros <;> omega -splitDisjunctions) | fail) only [hz, hn2, f1, f2, f3, f4, f5, hn, Try.f58, go_sem, ↓reduceIte, Nat.reduceEqDiff, Nat.reduceAdd, Nat.reduceMul, Nat.reduceLT, Nat.reduceLeDiff, reduceCtorEq, Int.reduceNe, Int.reduceEq, Int.reduceLT, Int.reduceLE, Int.reduceAdd, Int.reduceSub, Int.reduceMul, Int.reduceNeg, Int.reduceToNat, UInt8.reduceToNat, natLit, ty3, ty9, ty47, ty81]
      exact ⟨Hx.app, .inr ⟨H.length + 1, rfl, by rw [cellsAt_app]; rfl, by omega⟩⟩
end Go.Proofs.Ytcbjmggbbnpbpaa.Lg
namespace Go.Proofs.Ytcbjmggbbnpbpaa.Lg
set_option linter.unusedSimpArgs false
set_option linter.unusedVariables false
set_option maxRecDepth 100000

structure PS where
  n : Nat
  hits : List Ht
/-- the step to the k-th in a collection -/
def segK (es : List Ev) (i : Nat) (xs : List Nat) (k : Nat) : Sg := if kd es i = 4 then ⟨2, 0, keyV es (xs.getD (k - 1) 0)⟩ else ⟨1, k, ⟨#[]⟩⟩
/-- those in a collection, from the k-th on: r of them -/
def visK (f : Nat → List Sg → PS → Bool × PS) (es : List Ev) (i : Nat) (xs : List Nat) (path : List Sg) : Nat → Nat → PS → Bool × PS
  | 0, _, s => (true, s)
  | r + 1, k, s =>
    if kd es i = 4 ∧ k % 2 = 0 then visK f es i xs path r (k + 1) s
    else
      if (f (xs.getD k 0) (path ++ [segK es i xs k]) s).1 = true then visK f es i xs path r (k + 1) (f (xs.getD k 0) (path ++ [segK es i xs k]) s).2
      else (false, (f (xs.getD k 0) (path ++ [segK es i xs k]) s).2)
/-- is a path that of a pattern? -/
def anyP (ps : List (List Sg)) (path : List Sg) : Bool := (List.range ps.length).any (fun k => matchB (ps.getD k []) path)
def met (es : List Ev) (ps : List (List Sg)) (doc : Int) (i : Nat) (path : List Sg) (s : PS) : PS :=
  ⟨s.n + 1, if anyP ps path = true then s.hits ++ [⟨doc, path, valueV (evA es (tgt es i))⟩] else s.hits⟩
/-- a visit -/
def vis (es : List Ev) (ps : List (List Sg)) (doc : Int) : Nat → Nat → List Sg → PS → Bool × PS
  | 0, _, _, s => (false, s)
  | d + 1, i, path, s =>
    if s.n = 3000 then (false, s)
    else visK (vis es ps doc d) es (tgt es i) (kidsF es (tgt es i)) path (kidsF es (tgt es i)).length 0 (met es ps doc i path s)
theorem visK_n {f : Nat → List Sg → PS → Bool × PS} {es : List Ev} {i : Nat} {xs : List Nat} {path : List Sg} (hf : ∀ x p s, s.n ≤ 3000 → s.n ≤ (f x p s).2.n ∧ (f x p s).2.n ≤ 3000) :
    ∀ (r k : Nat) (s : PS), s.n ≤ 3000 → s.n ≤ (visK f es i xs path r k s).2.n ∧ (visK f es i xs path r k s).2.n ≤ 3000
  | 0, k, s, h => ⟨Nat.le_refl _, h⟩
  | r + 1, k, s, h => by
    unfold visK
    by_cases h1 : kd es i = 4 ∧ k % 2 = 0
    · rw [if_pos h1]; exact visK_n hf r (k + 1) s h
    · rw [if_neg h1]
      have h2 := hf (xs.getD k 0) (path ++ [segK es i xs k]) s h
      by_cases h3 : (f (xs.getD k 0) (path ++ [segK es i xs k]) s).1 = true
      · rw [if_pos h3]
        have := visK_n hf (es := es) (i := i) (xs := xs) (path := path) r (k + 1) _ h2.2
        exact ⟨Nat.le_trans h2.1 this.1, this.2⟩
      · rw [if_neg h3]; exact h2
theorem vis_n (es : List Ev) (ps : List (List Sg)) (doc : Int) : ∀ (d i : Nat) (path : List Sg) (s : PS), s.n ≤ 3000 → s.n ≤ (vis es ps doc d i path s).2.n ∧ (vis es ps doc d i path s).2.n ≤ 3000
  | 0, i, path, s, h => ⟨Nat.le_refl _, h⟩
  | d + 1, i, path, s, h => by
    unfold vis
    by_cases h1 : s.n = 3000
    · rw [if_pos h1]; exact ⟨Nat.le_refl _, h⟩
    · rw [if_neg h1]
      have := visK_n (es := es) (i := tgt es i) (xs := kidsF es (tgt es i)) (path := path) (fun x p s => vis_n es ps doc d x p s) (kidsF es (tgt es i)).length 0 (met es ps doc i path s) (by show s.n + 1 ≤ 3000; omega)
      exact ⟨Nat.le_trans (Nat.le_succ _) this.1, this.2⟩
/-- document after document -/
def visR (es : List Ev) (ps : List (List Sg)) : List Nat → Nat → PS → Bool × PS
  | [], _, s => (true, s)
  | r :: rs, doc, s => if (vis es ps doc 3001 r [] s).1 = true then visR es ps rs (doc + 1) (vis es ps doc 3001 r [] s).2 else (false, (vis es ps doc 3001 r [] s).2)
/-- what Pick answers -/
def pickM (es : List Ev) (ps : List (List Sg)) : List Ht × Int :=
  if ¬ (ps.all patOk = true) ∨ tiedM es = false then ([], 1)
  else if (visR es ps (rootsF es) 0 ⟨0, []⟩).1 = false then ([], 4)
  else if es.any (fun e => decide (e.kind = 10)) = true then ([], 3)
  else ((visR es ps (rootsF es) 0 ⟨0, []⟩).2.hits, 0)
end Go.Proofs.Ytcbjmggbbnpbpaa.Lg
namespace Go.Proofs.Ytcbjmggbbnpbpaa.Lg
set_option linter.unusedSimpArgs false
set_option linter.unusedVariables false
set_option maxRecDepth 100000
set_option maxHeartbeats 40000000
open Go.Proofs.Ytcbjmggbbnpbpaa

structure VSt (G : LH) (b f : Nat) (v ve vu vd pw : V) (A : LH) (hv : V) (cs : List HC) (s : PS) : Prop where
  hx : Hx G A
  pk : A.cellsAt b = some [v, ve, vu, vd, pw, hv, .int .i64 (s.n : Int)]
  ho : HOwn f A hv cs s.hits
  hG : G.length ≤ b
  hb : b < f
  hf : f ≤ A.length
  hl : s.hits.length ≤ s.n
/-- what a visit leaves -/
def Left (G : LH) (b f : Nat) (v ve vu vd pw : V) (A : LH) (hv : V) (B : LH) (s : PS) : Prop :=
  ∃ hv' cs', VSt G b f v ve vu vd pw B hv' cs' s ∧ Fx A.length (b :: sbk hv) A B ∧ (hv' = hv ∨ ∀ c ∈ sbk hv', A.length ≤ c)
theorem Left.trans {G : LH} {b f : Nat} {v ve vu vd pw : V} {A B C : LH} {hv hv' : V} {s : PS} (h1 : Fx A.length (b :: sbk hv) A B) (h2 : hv' = hv ∨ ∀ c ∈ sbk hv', A.length ≤ c) (k : Left G b f v ve vu vd pw B hv' C s) : Left G b f v ve vu vd pw A hv C s := by
  obtain ⟨hw, cs, hS, hF, hE⟩ := k
  refine ⟨hw, cs, hS, h1.trans hF (Nat.le_refl _) (fun c hc hm => ?_), ?_⟩
  · rcases List.mem_cons.1 hm with rfl | hm
    · simp
    · rcases h2 with rfl | h2
      · exact List.mem_cons_of_mem _ hm
      · have := h2 c hm; omega
  · have hl := h1.len
    rcases hE with rfl | hE
    · exact h2
    · exact .inr fun c hc => by have := hE c hc; omega
/-- a hit is kept -/
theorem VSt.hit {G : LH} {b f : Nat} {v ve vu vd pw : V} {A C : LH} {hv pw2 : V} {cs : List HC} {s : PS} {path : List Sg} (hx : Hx G A) (c2 : A.cellsAt b = some [v, ve, vu, vd, pw, hv, .int .i64 ((s.n : Int) + 1)]) (ho : HOwn f A hv cs s.hits)
    (hG : G.length ≤ b) (hb : b < f) (hf : f ≤ A.length) (hl : s.hits.length ≤ s.n) (xC : Hx A C) (oC : Own A.length C sgC 3 pw2 path) (doc : Int) (W : Val) (L : List V) :
    VSt G b f v ve vu vd pw (List.set (killV (C ++ [Blk.cells L]) hv ++ [Blk.cells (rows htC (cs ++ [⟨doc, pw2, W⟩]))]) b (Blk.cells [v, ve, vu, vd, pw, .sl (C.length + 1) 0 6 (cs.length + 1) (cs.length + 1), .int .i64 ((s.n : Int) + 1)]))
      (.sl (C.length + 1) 0 6 (cs.length + 1) (cs.length + 1)) (cs ++ [⟨doc, pw2, W⟩]) ⟨s.n + 1, s.hits ++ [⟨doc, path, W⟩]⟩ ∧
    Fx A.length (b :: sbk hv) A (List.set (killV (C ++ [Blk.cells L]) hv ++ [Blk.cells (rows htC (cs ++ [⟨doc, pw2, W⟩]))]) b (Blk.cells [v, ve, vu, vd, pw, .sl (C.length + 1) 0 6 (cs.length + 1) (cs.length + 1), .int .i64 ((s.n : Int) + 1)])) := by
  have hlC := xC.len
  have fC : Fx A.length [] A C := by
    obtain ⟨M, rfl⟩ := xC
    exact Fx.app (Nat.le_refl _)
  have hoC := ho.fr fC (Nat.le_refl _) (by simp)
  have hput := hoC.put (L := [Blk.cells L]) (oC.down hf) doc W
    (fun i hi a ha c hc => by have h1 := (ho.row i hi).path.sbk a ha; have h2 := oC.sbk c hc; omega)
    (fun c hc b2 hb2 => by have h1 := ho.own.sbk b2 hb2; have h2 := oC.sbk c hc; omega) (by omega)
  have hlL : (C ++ [Blk.cells L]).length = C.length + 1 := by simp
  rw [hlL] at hput
  have kf := kill_fr (L := [Blk.cells (rows htC (cs ++ [⟨doc, pw2, W⟩]))]) (hoC.own.ext (Hx.app (L := [Blk.cells L])))
  have f1 : Fx A.length (b :: sbk hv) A (killV (C ++ [Blk.cells L]) hv ++ [Blk.cells (rows htC (cs ++ [⟨doc, pw2, W⟩]))]) := by
    refine ⟨by have := kf.len; rw [hlL] at this; omega, fun c h1 h2 => ?_⟩
    rw [kf.get c (by rw [hlL]; omega) (fun h => h2 (List.mem_cons_of_mem _ h)), List.getElem?_append_left (by omega)]
    exact fC.get c h1 (by simp)
  have g2 : Fx (killV (C ++ [Blk.cells L]) hv ++ [Blk.cells (rows htC (cs ++ [⟨doc, pw2, W⟩]))]).length [b] (killV (C ++ [Blk.cells L]) hv ++ [Blk.cells (rows htC (cs ++ [⟨doc, pw2, W⟩]))])
      (List.set (killV (C ++ [Blk.cells L]) hv ++ [Blk.cells (rows htC (cs ++ [⟨doc, pw2, W⟩]))]) b (Blk.cells [v, ve, vu, vd, pw, .sl (C.length + 1) 0 6 (cs.length + 1) (cs.length + 1), .int .i64 ((s.n : Int) + 1)])) := Fx.set (.inl (by simp))
  have f2 := f1.trans g2 (Nat.le_refl _) (fun c _ h => by
    have : c = b := List.mem_singleton.1 h
    subst this; exact List.mem_cons_self)
  have hkl : (killV (C ++ [Blk.cells L]) hv ++ [Blk.cells (rows htC (cs ++ [⟨doc, pw2, W⟩]))]).length = C.length + 2 := by rw [List.length_append, killV_len, hlL]; rfl
  refine ⟨⟨f2.hx hx hx.len (fun c hc => ?_), ?_, ?_, hG, hb, by rw [List.length_set, hkl]; omega, ?_⟩, f2⟩
  · rcases List.mem_cons.1 hc with rfl | hc
    · exact hG
    · have := ho.own.sbk c hc; omega
  · rw [cellsAt_set (by rw [hkl]; omega)]
    rfl
  · exact hput.fr g2 (Nat.le_refl _) (fun c h => .inl (by have := List.mem_singleton.1 h; omega))
  · simp; omega
end Go.Proofs.Ytcbjmggbbnpbpaa.Lg
namespace Go.Proofs.Ytcbjmggbbnpbpaa.Lg
set_option linter.unusedSimpArgs false
set_option linter.unusedVariables false
set_option maxRecDepth 100000
set_option maxHeartbeats 40000000
open Go.Proofs.Ytcbjmggbbnpbpaa

theorem VSt.fr {G : LH} {b f : Nat} {v ve vu vd pw : V} {A B : LH} {hv : V} {cs : List HC} {s : PS} (h : VSt G b f v ve vu vd pw A hv cs s) (k : Fx A.length [] A B) : VSt G b f v ve vu vd pw B hv cs s :=
  ⟨k.hx h.hx h.hx.len (by simp), k.cells h.pk (cellsAt_lt h.pk) (by simp), h.ho.fr k (Nat.le_refl _) (by simp), h.hG, h.hb, Nat.le_trans h.hf k.len, h.hl⟩
structure LI (G : LH) (b f a0 : Nat) (v ve vu vd pw : V) (pvv kw : V) (path : List Sg) (xs : List Nat) (A : LH) (hv : V) (cs : List HC) (s : PS) : Prop where
  st : VSt G b f v ve vu vd pw A hv cs s
  p : At A sgC 3 pvv path
  pa : ∀ c ∈ sbk pvv, c ≠ b ∧ c ∉ sbk hv
  k : At A inN 1 kw xs
  ka : ∀ c ∈ sbk kw, c ≠ b ∧ c ∉ sbk hv
  c : A.cellsAt a0 = some [pvv]
  ca : a0 ≠ b ∧ a0 ∉ sbk hv
theorem Fx.app1 {A : LH} {x : Blk} : Fx A.length [] A (A ++ [x]) := Fx.app (Nat.le_refl _)
theorem Fx.up {f : Nat} {E : List Nat} {A B : LH} (h : Fx f [] A B) : Fx f E A B := ⟨h.len, fun c h1 _ => h.get c h1 (by simp)⟩
theorem Fx.sub {f : Nat} {E E' : List Nat} {A B : LH} (h : Fx f E A B) (k : ∀ c ∈ E, c ∈ E') : Fx f E' A B := ⟨h.len, fun c h1 h2 => h.get c h1 (fun h3 => h2 (k c h3))⟩
theorem LI.step {G : LH} {b f a0 : Nat} {v ve vu vd pw : V} {pvv kw : V} {path : List Sg} {xs : List Nat} {A B : LH} {hv hv' : V} {cs cs' : List HC} {s s' : PS} (h : LI G b f a0 v ve vu vd pw pvv kw path xs A hv cs s)
    (hS : VSt G b f v ve vu vd pw B hv' cs' s') (hF : Fx A.length (b :: sbk hv) A B) (hE : hv' = hv ∨ ∀ c ∈ sbk hv', A.length ≤ c) : LI G b f a0 v ve vu vd pw pvv kw path xs B hv' cs' s' := by
  have key : ∀ c, c < A.length → c ≠ b ∧ c ∉ sbk hv → c ≠ b ∧ c ∉ sbk hv' := fun c h1 h2 => ⟨h2.1, fun hm => by
    rcases hE with rfl | hE
    · exact h2.2 hm
    · have := hE c hm; omega⟩
  have key2 : ∀ c, c ≠ b ∧ c ∉ sbk hv → c ∉ (b :: sbk hv) := fun c h2 hm => by
    rcases List.mem_cons.1 hm with h3 | h3
    · exact h2.1 h3
    · exact h2.2 h3
  refine ⟨hS, h.p.fr hF (fun c hc => ⟨h.p.sbk c hc, key2 c (h.pa c hc)⟩), fun c hc => key c (h.p.sbk c hc) (h.pa c hc), h.k.fr hF (fun c hc => ⟨h.k.sbk c hc, key2 c (h.ka c hc)⟩), fun c hc => key c (h.k.sbk c hc) (h.ka c hc),
    hF.cells h.c (cellsAt_lt h.c) (key2 _ h.ca), key _ (cellsAt_lt h.c) h.ca⟩
/-- a path is copied, and a step put behind it -/
theorem clone_app {A A1 C : LH} {pw : V} {path : List Sg} (hA : Fx A.length [] A A1) (hC : Hx A1 C) (ho : Own A1.length C sgC 3 pw path) (x : Sg) :
    Fx A.length [] A (killV (C ++ [Blk.cells (sgC x)]) pw ++ [Blk.cells (rows sgC (path ++ [x]))]) ∧
    At (killV (C ++ [Blk.cells (sgC x)]) pw ++ [Blk.cells (rows sgC (path ++ [x]))]) sgC 3 (.sl (C.length + 1) 0 3 (path.length + 1) (path.length + 1)) (path ++ [x]) := by
  have h1 := hA.len; have h2 := hC.len
  have k := kill_fr (L := [Blk.cells (rows sgC (path ++ [x]))]) (ho.ext (Hx.app (L := [Blk.cells (sgC x)])))
  refine ⟨⟨by have := k.len; rw [List.length_append] at this; omega, fun c hc _ => ?_⟩, ?_⟩
  · rw [k.get c (by rw [List.length_append]; omega) (fun hm => by have := ho.sbk c hm; omega), List.getElem?_append_left (by omega)]
    obtain ⟨M, rfl⟩ := hC
    rw [List.getElem?_append_left (by omega)]
    exact hA.get c hc (by simp)
  · have an := app_new (enc := sgC) (z := 3) (v := pw) (H := C ++ [Blk.cells (sgC x)]) (Nat.zero_le _) (path ++ [x])
    have e1 : (C ++ [Blk.cells (sgC x)]).length = C.length + 1 := by simp
    have e2 : (path ++ [x]).length = path.length + 1 := by simp
    rw [e1, e2] at an
    exact an.at sgC_len
theorem vis_loop {G : LH} {v ve vu vd pw : V} {es : List Ev} {ps : List (List Sg)} (hN : NsAt G v ve vu vd es) (hlen : es.length ≤ 1048576) (hok : ∀ i, i < es.length → EvOk (evA es i)) (h1 : kd es 0 = 1) (b f : Nat) (doc : Int) (d i : Nat) (hi : i < es.length) (a0 : Nat)
    (path : List Sg) (pvv kw : V) (fl : Nat) (hfl : fl ≤ b) (H : LH)
    (IH : ∀ (A : LH) (hv : V) (cs : List HC) (s : PS) (i : Nat) (path : List Sg) (pvv : V) (fl : Nat), VSt G b f v ve vu vd pw A hv cs s → At A sgC 3 pvv path → (∀ c ∈ sbk pvv, c ≠ b ∧ c ∉ sbk hv) → i < es.length → 3001 ≤ s.n + d → s.n ≤ 3000 → path.length ≤ s.n → fl ≤ b →
      Ret (fun w B => w = .bool (vis es ps doc d i path s).1 ∧ Left G b f v ve vu vd pw A hv B (vis es ps doc d i path s).2) (run 32 [.ptr b 0, .int .i64 doc, .int .i64 (i : Int), pvv] fl A))
    (c : Code) (R : List K) (hc0 : Try.f32.body.bind loopOf = some c)
    (hRn : ∀ (A : LH) (x0 x1 x2 x3 x7 x8 x9 x10 x11 x12 x17 x30 x57 x64 x65 x66 x67 x82 x85 x111 : Option V), zEv (leaveX (mkR Try.prog cfg ok [0, 1, 2, 3, 7, 8, 9, 10, 11, 12, 17, 30, 57, 64, 65, 66, 67, 82, 85, 111] fl) .any H [ResultVar.tmp 8]) (mkR Try.prog cfg ok [0, 1, 2, 3, 7, 8, 9, 10, 11, 12, 17, 30, 57, 64, 65, 66, 67, 82, 85, 111] fl) R .nrm [x0, x1, x2, x3, x7, x8, x9, x10, x11, x12, x17, x30, x57, x64, x65, x66, x67, x82, x85, x111] A = some (.bool true, A))
    (hRr : ∀ (A : LH) (x0 x1 x2 x3 x7 x9 x10 x11 x12 x17 x30 x57 x64 x65 x66 x67 x82 x85 x111 : Option V), zEv (leaveX (mkR Try.prog cfg ok [0, 1, 2, 3, 7, 8, 9, 10, 11, 12, 17, 30, 57, 64, 65, 66, 67, 82, 85, 111] fl) .any H [ResultVar.tmp 8]) (mkR Try.prog cfg ok [0, 1, 2, 3, 7, 8, 9, 10, 11, 12, 17, 30, 57, 64, 65, 66, 67, 82, 85, 111] fl) R .ret [x0, x1, x2, x3, x7, some (.bool false), x9, x10, x11, x12, x17, x30, x57, x64, x65, x66, x67, x82, x85, x111] A = some (.bool false, A)) :
    ∀ (m k : Nat) (kk : Int) (A : LH) (hv : V) (cs : List HC) (s : PS) (x3 x8 x9 x10 x11 x12 x17 x30 x57 x67 x82 x85 x111 : Option V), (kidsF es i).length - k < m → kk = k → k ≤ (kidsF es i).length → LI G b f a0 v ve vu vd pw pvv kw path (kidsF es i) A hv cs s →
      3001 ≤ s.n + d → s.n ≤ 3000 → path.length < s.n →
      Ret (fun w B => w = .bool (visK (vis es ps doc d) es i (kidsF es i) path ((kidsF es i).length - k) k s).1 ∧ Left G b f v ve vu vd pw A hv B (visK (vis es ps doc d) es i (kidsF es i) path ((kidsF es i).length - k) k s).2)
        (zEv (leaveX (mkR Try.prog cfg ok [0, 1, 2, 3, 7, 8, 9, 10, 11, 12, 17, 30, 57, 64, 65, 66, 67, 82, 85, 111] fl) .any H [ResultVar.tmp 8]) (mkR Try.prog cfg ok [0, 1, 2, 3, 7, 8, 9, 10, 11, 12, 17, 30, 57, 64, 65, 66, 67, 82, 85, 111] fl) (K.code (Code.loop c) :: K.blk 0 :: R) .nrm [some (.ptr b 0), some (.int .i64 doc), some (.int .i64 (i : Int)), x3, some (.ptr a0 0), x8, x9, x10, x11, x12, x17, x30, x57, some kw, some (.int .i64 (kidsF es i).length), some (.int .i64 kk), x67, x82, x85, x111] A) := by
  simp only [Try.f32, Option.bind_some, loopOf] at hc0
  have hc := Option.some.inj hc0
  clear hc0
  intro m
  induction m with
  | zero => intro k kk A hv cs s x3 x8 x9 x10 x11 x12 x17 x30 x57 x67 x82 x85 x111 hm; omega
  | succ m ih =>
    intro k kk A hv cs s x3 x8 x9 x10 x11 x12 x17 x30 x57 x67 x82 x85 x111 hm hk hkl hI hd hn hpl
    subst hk
    have hI0 := hI
    obtain ⟨hS, hp, hpa, hkA, hka, hca, hca2⟩ := hI
    have hkl2 := kidsF_len es hi
    by_cases hlt : k < (kidsF es i).length
    rotate_left
    · have t1 : ((k : Int) < (kidsF es i).length) = False := eq_false (by omega)
      rw [show (kidsF es i).length - k = 0 by omega]
      unfold visK
      rw [zEv_round hc]
      simp (config := {contextual := true, maxSteps := 10000000, implicitDefEqProofs := false}) (disch := first | (and_intros <;> omega -splitDisjunctions) | (simp only [List.length_set, List.length_append, List.length_cons, List.length_nil]; and_intros <;> omega -splitDisjunctions) | fail) only [t1, hRn, Try.f32, go_sem, ↓reduceIte, Nat.reduceEqDiff, Nat.reduceAdd, Nat.reduceMul, Nat.reduceLT, Nat.reduceLeDiff, reduceCtorEq, Int.reduceNe, Int.reduceEq, Int.reduceLT, Int.reduceLE, Int.reduceAdd, Int.reduceSub, Int.reduceMul, Int.reduceNeg, Int.reduceToNat, UInt8.reduceToNat, natLit, ty3, ty4, ty9, ty26, ty29, ty31, ty47, ty49, ty55, ty58, ty64, ty67, ty72, ty74, ty81]
      exact ⟨hv, cs, hS, Fx.refl A, .inl rfl⟩
    have t1 : ((k : Int) < (kidsF es i).length) = True := eq_true (by omega)
    rw [show (kidsF es i).length - k = ((kidsF es i).length - (k + 1)) + 1 by omega]
    unfold visK
    have hxk : (kidsF es i).getD k 0 ∈ kidsF es i := by rw [getD_of hlt]; exact List.getElem_mem _
    have hx := kidsF_in es hi _ hxk
    have g1 := hkA.isTup; have g2 := hkA.len; have g3 := hkA.lenOk ty55; have g0 := hkA.one
    have g4 := fun hp => hkA.con hp
    have g5 := hkA.idx (T := ty Try.prog) (t := 55) (by simp only [elemI, sizeO, ty3, ty55])
    have g6 := hkA.load1 0 (fun x => .int .i64 (x : Int)) (fun _ => rfl)
    have g6 := fun n K => g6 k hlt n K
    have hbA := cellsAt_lt hS.pk
    have pkL := fun L => cellsAt_left (L := L) hS.pk
    have caL := fun L => cellsAt_left (L := L) hca
    have hNA := hN.ext hS.hx
    have hvA := hNA.l
    have y1 := hvA.isTup; have y2 := hvA.len; have y3 := hvA.lenOk ty29; have y0 := hvA.one
    have y4 := fun L hp => (hvA.left (L := L)).con hp
    have y5 := hvA.idx (T := ty Try.prog) (t := 29) (by simp only [elemI, sizeO, ty3, ty4, ty9, ty29, ty58])
    have y6 := fun L => (hvA.left (L := L)).loadD evC_len evZ
    have y4 := fun L => (hvA.left (L := L)).con (by omega)
    have z0 := fun n K L => (hvA.left (L := L)).loadD0 evC_len evZ (fun e => .int .i64 e.kind) (fun _ => rfl) i hi n K
    have p1 := hp.isTup; have p2 := hp.one
    have n2 := hNA.l.one; have n3 := hNA.e.isTup; have n4 := hNA.e.one; have n5 := hNA.u.isTup; have n6 := hNA.u.one; have n7 := hNA.d.isTup; have n8 := hNA.d.one
    by_cases h4 : kd es i = 4
    · have t4 : ((es.getD i evZ).kind = 4) = True := eq_true h4
      by_cases hev : k % 2 = 0
      · have t5 : (Int.tmod (k : Int) 2 = 0) = True := eq_true (by rw [Int.tmod_eq_emod_of_nonneg (by omega)]; omega)
        rw [if_pos (show kd es i = 4 ∧ k % 2 = 0 from ⟨h4, hev⟩)]
        rw [zEv_round hc]
        simp (config := {contextual := true, maxSteps := 10000000, implicitDefEqProofs := false}) (disch := first | (and_intros <;> omega -splitDisjunctions) | (simp only [List.length_set, List.length_append, List.length_cons, List.length_nil]; and_intros <;> omega -splitDisjunctions) | fail) only [t1, t4, t5, z0, g0, g1, g2, g3, g4, g5, g6, y0, y1, y2, y3, y4, y5, y6, pkL, caL, p1, p2, n2, n3, n4, n5, n6, n7, n8, Try.f32, go_sem, ↓reduceIte, Nat.reduceEqDiff, Nat.reduceAdd, Nat.reduceMul, Nat.reduceLT, Nat.reduceLeDiff, reduceCtorEq, Int.reduceNe, Int.reduceEq, Int.reduceLT, Int.reduceLE, Int.reduceAdd, Int.reduceSub, Int.reduceMul, Int.reduceNeg, Int.reduceToNat, UInt8.reduceToNat, natLit, ty3, ty4, ty9, ty26, ty29, ty31, ty47, ty49, ty55, ty58, ty64, ty67, ty72, ty74, ty81]
        have f3 : Fx A.length [] A (A ++ [Blk.cells [V.int .i64 1, V.int .i64 (k : Int), V.str ⟨#[]⟩]]) := Fx.app1
        exact (ih (k + 1) _ _ hv cs s _ _ _ _ _ _ _ _ _ _ _ _ _ (by omega) (by omega) (by omega) (hI0.step (hS.fr f3) f3.up (.inl rfl)) hd hn hpl).mono fun w C hw => ⟨hw.1, hw.2.trans f3.up (.inl rfl)⟩
      · have t5 : (Int.tmod (k : Int) 2 = 0) = False := eq_false (by rw [Int.tmod_eq_emod_of_nonneg (by omega)]; omega)
        rw [if_neg (show ¬ (kd es i = 4 ∧ k % 2 = 0) from fun h => hev h.2)]
        have hsg : segK es i (kidsF es i) k = ⟨2, 0, keyV es ((kidsF es i).getD (k - 1) 0)⟩ := by unfold segK; rw [if_pos h4]
        rw [hsg]
        have hk1 : (k : Int) - 1 = ((k - 1 : Nat) : Int) := by omega
        have hlt1 : k - 1 < (kidsF es i).length := by omega
        have hxk1 : (kidsF es i).getD (k - 1) 0 ∈ kidsF es i := by rw [getD_of hlt1]; exact List.getElem_mem _
        have hx1 := kidsF_in es hi _ hxk1
        obtain ⟨kw2, D, e3, xD, oD⟩ := run_kidsOf (hNA.ext (Hx.app (L := [Blk.cells [V.int .i64 1, V.int .i64 (k : Int), V.str ⟨#[]⟩]]))) hlen hi fl
        have rD := oD.at inN_len
        have q1 := rD.isTup; have q2 := rD.len; have q3 := rD.lenOk ty55; have q0 := rD.one
        have q4 := fun hp => rD.con hp
        have q5 := rD.idx (T := ty Try.prog) (t := 55) (by simp only [elemI, sizeO, ty3, ty55])
        have q6 := rD.load1 0 (fun x => .int .i64 (x : Int)) (fun _ => rfl)
        have q6 := fun n K => q6 (k - 1) hlt1 n K
        have hND := (hNA.ext (Hx.app (L := [Blk.cells [V.int .i64 1, V.int .i64 (k : Int), V.str ⟨#[]⟩]]))).ext xD
        have e5 := fun fl => run_keyText hND hlen hok h1 hx1.2.1 fl
        generalize keyV es ((kidsF es i).getD (k - 1) 0) = key at *
        have hlD := xD.len
        rw [List.length_append] at hlD
        simp only [List.length_cons, List.length_nil, Nat.zero_add] at hlD
        have c12 : LH.cellsAt D A.length = some [V.int .i64 1, V.int .i64 (k : Int), V.str ⟨#[]⟩] := xD.cells (by rw [cellsAt_app0]; rfl)
        have hxAD : Hx A D := Hx.app.trans xD
        have pkD := hxAD.cells hS.pk
        have fD : Fx A.length [] A (List.set D A.length (Blk.cells [V.int .i64 2, V.int .i64 0, V.str key])) := by
          obtain ⟨M, rfl⟩ := hxAD
          exact (Fx.app (E := []) (L := M) (Nat.le_refl _)).trans (Fx.set (f := (A ++ M).length) (E := [A.length]) (.inl (by simp))) (Nat.le_refl _) (fun c h1 h2 => absurd h1 (by rw [List.mem_singleton.1 h2]; omega))
        have caD := fD.cells hca (cellsAt_lt hca) (by simp)
        have c13 : LH.cellsAt (List.set D A.length (Blk.cells [V.int .i64 2, V.int .i64 0, V.str key])) A.length = some [V.int .i64 2, V.int .i64 0, V.str key] := cellsAt_set (by omega)
        have hlD2 : (List.set D A.length (Blk.cells [V.int .i64 2, V.int .i64 0, V.str key])).length = D.length := by simp
        obtain ⟨pw2, C, e4, xC, oC⟩ := run_Clone (hp.fr fD (fun c hc => ⟨hp.sbk c hc, by simp⟩)) (by omega) fl
        unfold run at e3 e4 e5
        have q7 := (oC.at sgC_len).isTup; have q8 := (oC.at sgC_len).one
        have hlC := xC.len
        rw [hlD2] at hlC
        have c14 := xC.cells c13
        have c14L := fun L => cellsAt_left (L := L) c14
        have ap := fun L => app_own1 (fl := fl) (oC.ext (Hx.app (L := L))) sgC_len (by have := cellsAt_lt hS.pk; omega) 32 (by unfold mostCells; omega) ⟨2, 0, key⟩
        simp only [sgC] at ap
        rw [zEv_round hc]
        simp (config := {contextual := true, maxSteps := 10000000, implicitDefEqProofs := false}) (disch := first | (and_intros <;> omega -splitDisjunctions) | (simp only [List.length_set, List.length_append, List.length_cons, List.length_nil]; and_intros <;> omega -splitDisjunctions) | fail) only [t1, t4, t5, hk1, z0, g0, g1, g2, g3, g4, g5, g6, y0, y1, y2, y3, y4, y5, y6, q0, q1, q2, q3, q4, q5, q6, q7, q8, pkL, pkD, caL, caD, p1, p2, n2, n3, n4, n5, n6, n7, n8, e3, e4, e5, c12, c13, c14, c14L, ap, Try.f32, go_sem, ↓reduceIte, Nat.reduceEqDiff, Nat.reduceAdd, Nat.reduceMul, Nat.reduceLT, Nat.reduceLeDiff, reduceCtorEq, Int.reduceNe, Int.reduceEq, Int.reduceLT, Int.reduceLE, Int.reduceAdd, Int.reduceSub, Int.reduceMul, Int.reduceNeg, Int.reduceToNat, UInt8.reduceToNat, natLit, ty3, ty4, ty9, ty26, ty29, ty31, ty47, ty49, ty55, ty58, ty64, ty67, ty72, ty74, ty81]
        obtain ⟨f3, p3⟩ := clone_app (A := A) fD xC oC ⟨2, 0, key⟩
        refine zS_call (IH _ hv cs s _ _ _ fl (hS.fr f3) p3 ?_ (by omega) (by omega) hn (by rw [List.length_append, List.length_singleton]; omega) hfl) fun w B hB => ?_
        · intro c hc
          have hc : c = C.length + 1 := by simpa [sbk] using hc
          exact ⟨by omega, fun hm => by have := hS.ho.own.sbk c hm; omega⟩
        obtain ⟨rfl, hv', cs', hS', hF, hE⟩ := hB
        have hF' : Fx A.length (b :: sbk hv) A B := f3.up.trans hF (Nat.le_refl _) (fun c _ h => h)
        have hlB := f3.len
        have hE' : hv' = hv ∨ ∀ c ∈ sbk hv', A.length ≤ c := by
          rcases hE with h | h
          · exact .inl h
          · exact .inr fun c hc => Nat.le_trans hlB (h c hc)
        have hI2 := hI0.step hS' hF' hE'
        have hvn := vis_n es ps doc d ((kidsF es i).getD k 0) (path ++ [⟨2, 0, key⟩]) s hn
        generalize vis es ps doc d ((kidsF es i).getD k 0) (path ++ [⟨2, 0, key⟩]) s = r at *
        obtain ⟨rb, s'⟩ := r
        dsimp only at *
        cases rb with
        | false =>
          simp (config := {contextual := true, maxSteps := 10000000, implicitDefEqProofs := false}) (disch := first | (and_intros <;> omega -splitDisjunctions) | (simp only [List.length_set, List.length_append, List.length_cons, List.length_nil]; and_intros <;> omega -splitDisjunctions) | fail) only [hRr, Try.f32, go_sem, ↓reduceIte, Nat.reduceEqDiff, Nat.reduceAdd, Nat.reduceMul, Nat.reduceLT, Nat.reduceLeDiff, reduceCtorEq, Int.reduceNe, Int.reduceEq, Int.reduceLT, Int.reduceLE, Int.reduceAdd, Int.reduceSub, Int.reduceMul, Int.reduceNeg, Int.reduceToNat, UInt8.reduceToNat, natLit, ty3, ty4, ty9, ty26, ty29, ty31, ty47, ty49, ty55, ty58, ty64, ty67, ty72, ty74, ty81]
          exact ⟨hv', cs', hS', hF', hE'⟩
        | true =>
          simp (config := {contextual := true, maxSteps := 10000000, implicitDefEqProofs := false}) (disch := first | (and_intros <;> omega -splitDisjunctions) | (simp only [List.length_set, List.length_append, List.length_cons, List.length_nil]; and_intros <;> omega -splitDisjunctions) | fail) only [hRr, Try.f32, go_sem, ↓reduceIte, Nat.reduceEqDiff, Nat.reduceAdd, Nat.reduceMul, Nat.reduceLT, Nat.reduceLeDiff, reduceCtorEq, Int.reduceNe, Int.reduceEq, Int.reduceLT, Int.reduceLE, Int.reduceAdd, Int.reduceSub, Int.reduceMul, Int.reduceNeg, Int.reduceToNat, UInt8.reduceToNat, natLit, ty3, ty4, ty9, ty26, ty29, ty31, ty47, ty49, ty55, ty58, ty64, ty67, ty72, ty74, ty81]
          exact (ih (k + 1) _ B hv' cs' s' _ _ _ _ _ _ _ _ _ _ _ _ _ (by omega) (by omega) (by omega) hI2 (by omega) hvn.2 (by omega)).mono fun w C hw => ⟨hw.1, hw.2.trans hF' hE'⟩
    · have t4 : ((es.getD i evZ).kind = 4) = False := eq_false h4
      rw [if_neg (show ¬ (kd es i = 4 ∧ k % 2 = 0) from fun h => h4 h.1)]
      have hsg : segK es i (kidsF es i) k = ⟨1, k, ⟨#[]⟩⟩ := by unfold segK; rw [if_neg h4]
      rw [hsg]
      obtain ⟨pw2, C, e4, xC, oC⟩ := run_Clone (hp.left (L := [Blk.cells [V.int .i64 1, V.int .i64 (k : Int), V.str ⟨#[]⟩]])) (by omega) fl
      unfold run at e4
      have q1 := (oC.at sgC_len).isTup; have q2 := (oC.at sgC_len).one
      have hlC := xC.len
      rw [List.length_append] at hlC
      simp only [List.length_cons, List.length_nil, Nat.zero_add] at hlC
      have c12 : LH.cellsAt C A.length = some [V.int .i64 1, V.int .i64 (k : Int), V.str ⟨#[]⟩] := xC.cells (by rw [cellsAt_app0]; rfl)
      have c12L := fun L => cellsAt_left (L := L) c12
      have ap := fun L => app_own1 (fl := fl) (oC.ext (Hx.app (L := L))) sgC_len (by have := cellsAt_lt hS.pk; rw [List.length_append]; omega) 32 (by unfold mostCells; omega) ⟨1, (k : Int), ⟨#[]⟩⟩
      simp only [sgC] at ap
      rw [zEv_round hc]
      simp (config := {contextual := true, maxSteps := 10000000, implicitDefEqProofs := false}) (disch := first | (and_intros <;> omega -splitDisjunctions) | (simp only [List.length_set, List.length_append, List.length_cons, List.length_nil]; and_intros <;> omega -splitDisjunctions) | fail) only [t1, t4, z0, g0, g1, g2, g3, g4, g5, g6, y0, y1, y2, y3, y4, y5, y6, pkL, caL, p1, p2, n2, n3, n4, n5, n6, n7, n8, e4, q1, q2, c12, c12L, ap, Try.f32, go_sem, ↓reduceIte, Nat.reduceEqDiff, Nat.reduceAdd, Nat.reduceMul, Nat.reduceLT, Nat.reduceLeDiff, reduceCtorEq, Int.reduceNe, Int.reduceEq, Int.reduceLT, Int.reduceLE, Int.reduceAdd, Int.reduceSub, Int.reduceMul, Int.reduceNeg, Int.reduceToNat, UInt8.reduceToNat, natLit, ty3, ty4, ty9, ty26, ty29, ty31, ty47, ty49, ty55, ty58, ty64, ty67, ty72, ty74, ty81]
      obtain ⟨f3, p3⟩ := clone_app (A := A) Fx.app1 xC (by rw [List.length_append] at oC ⊢; exact oC) ⟨1, (k : Int), ⟨#[]⟩⟩
      refine zS_call (IH _ hv cs s _ _ _ fl (hS.fr f3) p3 ?_ (by omega) (by omega) hn (by rw [List.length_append, List.length_singleton]; omega) hfl) fun w B hB => ?_
      · intro c hc
        have hc : c = C.length + 1 := by simpa [sbk] using hc
        exact ⟨by omega, fun hm => by have := hS.ho.own.sbk c hm; omega⟩
      obtain ⟨rfl, hv', cs', hS', hF, hE⟩ := hB
      have hF' : Fx A.length (b :: sbk hv) A B := f3.up.trans hF (Nat.le_refl _) (fun c _ h => h)
      have hlB := f3.len
      have hE' : hv' = hv ∨ ∀ c ∈ sbk hv', A.length ≤ c := by
        rcases hE with h | h
        · exact .inl h
        · exact .inr fun c hc => Nat.le_trans hlB (h c hc)
      have hI2 := hI0.step hS' hF' hE'
      have hvn := vis_n es ps doc d ((kidsF es i).getD k 0) (path ++ [⟨1, (k : Int), ⟨#[]⟩⟩]) s hn
      generalize vis es ps doc d ((kidsF es i).getD k 0) (path ++ [⟨1, (k : Int), ⟨#[]⟩⟩]) s = r at *
      obtain ⟨rb, s'⟩ := r
      dsimp only at *
      cases rb with
      | false =>
        simp (config := {contextual := true, maxSteps := 10000000, implicitDefEqProofs := false}) (disch := first | (and_intros <;> omega -splitDisjunctions) | (simp only [List.length_set, List.length_append, List.length_cons, List.length_nil]; and_intros <;> omega -splitDisjunctions) | fail) only [hRr, Try.f32, go_sem, ↓reduceIte, Nat.reduceEqDiff, Nat.reduceAdd, Nat.reduceMul, Nat.reduceLT, Nat.reduceLeDiff, reduceCtorEq, Int.reduceNe, Int.reduceEq, Int.reduceLT, Int.reduceLE, Int.reduceAdd, Int.reduceSub, Int.reduceMul, Int.reduceNeg, Int.reduceToNat, UInt8.reduceToNat, natLit, ty3, ty4, ty9, ty26, ty29, ty31, ty47, ty49, ty55, ty58, ty64, ty67, ty72, ty74, ty81]
        exact ⟨hv', cs', hS', hF', hE'⟩
      | true =>
        simp (config := {contextual := true, maxSteps := 10000000, implicitDefEqProofs := false}) (disch := first | (and_intros <;> omega -splitDisjunctions) | (simp only [List.length_set, List.length_append, List.length_cons, List.length_nil]; and_intros <;> omega -splitDisjunctions) | fail) only [hRr, Try.f32, go_sem, ↓reduceIte, Nat.reduceEqDiff, Nat.reduceAdd, Nat.reduceMul, Nat.reduceLT, Nat.reduceLeDiff, reduceCtorEq, Int.reduceNe, Int.reduceEq, Int.reduceLT, Int.reduceLE, Int.reduceAdd, Int.reduceSub, Int.reduceMul, Int.reduceNeg, Int.reduceToNat, UInt8.reduceToNat, natLit, ty3, ty4, ty9, ty26, ty29, ty31, ty47, ty49, ty55, ty58, ty64, ty67, ty72, ty74, ty81]
        exact (ih (k + 1) _ B hv' cs' s' _ _ _ _ _ _ _ _ _ _ _ _ _ (by omega) (by omega) (by omega) hI2 (by omega) hvn.2 (by omega)).mono fun w C hw => ⟨hw.1, hw.2.trans hF' hE'⟩
end Go.Proofs.Ytcbjmggbbnpbpaa.Lg
namespace Go.Proofs.Ytcbjmggbbnpbpaa.Lg
set_option linter.unusedSimpArgs false
set_option linter.unusedVariables false
set_option maxRecDepth 100000
set_option maxHeartbeats 40000000
open Go.Proofs.Ytcbjmggbbnpbpaa

theorem vis_step {G : LH} {v ve vu vd pw : V} {es : List Ev} {pv : List V} {ps : List (List Sg)} (hN : NsAt G v ve vu vd es) (hP : PAt G pw pv ps) (hlen : es.length ≤ 1048576) (hok : ∀ i, i < es.length → EvOk (evA es i)) (hfit : ∀ e ∈ es, evCFit e) (hsh : ∀ e ∈ es, e.text.size ≤ 1099511627776) (h1 : kd es 0 = 1) (b f : Nat) (doc : Int) (d : Nat)
    (IH : ∀ (A : LH) (hv : V) (cs : List HC) (s : PS) (i : Nat) (path : List Sg) (pvv : V) (fl : Nat), VSt G b f v ve vu vd pw A hv cs s → At A sgC 3 pvv path → (∀ c ∈ sbk pvv, c ≠ b ∧ c ∉ sbk hv) → i < es.length → 3001 ≤ s.n + d → s.n ≤ 3000 → path.length ≤ s.n → fl ≤ b →
      Ret (fun w B => w = .bool (vis es ps doc d i path s).1 ∧ Left G b f v ve vu vd pw A hv B (vis es ps doc d i path s).2) (run 32 [.ptr b 0, .int .i64 doc, .int .i64 (i : Int), pvv] fl A))
    (A : LH) (hv : V) (cs : List HC) (s : PS) (i : Nat) (path : List Sg) (pvv : V) (fl : Nat) (hS : VSt G b f v ve vu vd pw A hv cs s) (hp : At A sgC 3 pvv path) (hap : ∀ c ∈ sbk pvv, c ≠ b ∧ c ∉ sbk hv) (hi : i < es.length) (hd : 3001 ≤ s.n + (d + 1)) (hn : s.n ≤ 3000) (hpl : path.length ≤ s.n) (hfl : fl ≤ b) :
      Ret (fun w B => w = .bool (vis es ps doc (d + 1) i path s).1 ∧ Left G b f v ve vu vd pw A hv B (vis es ps doc (d + 1) i path s).2)
        (run 32 [.ptr b 0, .int .i64 doc, .int .i64 (i : Int), pvv] fl A) := by
    obtain ⟨hx, pk, ho, hG, hb, hf, hl⟩ := hS
    have p1 := hp.isTup; have p2 := hp.one
    have pkL := fun L => cellsAt_left (L := L) pk
    have hbA := cellsAt_lt pk
    have o1 := (ho.own.at htC_len).isTup; have o2 := (ho.own.at htC_len).one
    have w1 := hP.at_.isTup; have w2 := hP.at_.one
    have n1 := hN.l.isTup; have n2 := hN.l.one; have n3 := hN.e.isTup; have n4 := hN.e.one; have n5 := hN.u.isTup; have n6 := hN.u.one; have n7 := hN.d.isTup; have n8 := hN.d.one
    unfold vis
    by_cases h3 : s.n = 3000
    · rw [if_pos h3]
      have t1 : ((s.n : Int) = 3000) = True := eq_true (by omega)
      unfold run
      rw [Run_z Try.func32 rfl (by rfl : ok 32 = true) (by rfl : cfg.keep 32 = [0, 1, 2, 3, 7, 8, 9, 10, 11, 12, 17, 30, 57, 64, 65, 66, 67, 82, 85, 111]) (by rfl : cfg.mode 32 = .any) (by rfl : cfg.ord 32 = [])]
      simp (config := {contextual := true, maxSteps := 10000000, implicitDefEqProofs := false}) (disch := first | (and_intros <;> omega -splitDisjunctions) | (simp only [List.length_set, List.length_append, List.length_cons, List.length_nil]; and_intros <;> omega -splitDisjunctions) | fail) only [p1, p2, pkL, t1, o1, o2, w1, w2, n1, n2, n3, n4, n5, n6, n7, n8, Try.f32, go_sem, ↓reduceIte, Nat.reduceEqDiff, Nat.reduceAdd, Nat.reduceMul, Nat.reduceLT, Nat.reduceLeDiff, reduceCtorEq, Int.reduceNe, Int.reduceEq, Int.reduceLT, Int.reduceLE, Int.reduceAdd, Int.reduceSub, Int.reduceMul, Int.reduceNeg, Int.reduceToNat, UInt8.reduceToNat, natLit, ty3, ty4, ty9, ty26, ty29, ty31, ty47, ty49, ty55, ty58, ty64, ty67, ty72, ty74, ty81]
      exact ⟨hv, cs, ⟨hx.trans Hx.app, cellsAt_left pk, ho.fr (f := A.length) (E := []) (Fx.app (Nat.le_refl _)) (Nat.le_refl _) (by simp), hG, hb, by rw [List.length_append]; omega, hl⟩, Fx.app (Nat.le_refl _), .inl rfl⟩
    rw [if_neg h3]
    have t1 : ((s.n : Int) = 3000) = False := eq_false (by omega)
    unfold run
    rw [Run_z Try.func32 rfl (by rfl : ok 32 = true) (by rfl : cfg.keep 32 = [0, 1, 2, 3, 7, 8, 9, 10, 11, 12, 17, 30, 57, 64, 65, 66, 67, 82, 85, 111]) (by rfl : cfg.mode 32 = .any) (by rfl : cfg.ord 32 = [])]
    simp (config := {contextual := true, maxSteps := 10000000, implicitDefEqProofs := false}) (disch := first | (and_intros <;> omega -splitDisjunctions) | (simp only [List.length_set, List.length_append, List.length_cons, List.length_nil]; and_intros <;> omega -splitDisjunctions) | fail) only [p1, p2, pkL, t1, o1, o2, w1, w2, n1, n2, n3, n4, n5, n6, n7, n8, Try.f32, go_sem, ↓reduceIte, Nat.reduceEqDiff, Nat.reduceAdd, Nat.reduceMul, Nat.reduceLT, Nat.reduceLeDiff, reduceCtorEq, Int.reduceNe, Int.reduceEq, Int.reduceLT, Int.reduceLE, Int.reduceAdd, Int.reduceSub, Int.reduceMul, Int.reduceNeg, Int.reduceToNat, UInt8.reduceToNat, natLit, ty3, ty4, ty9, ty26, ty29, ty31, ty47, ty49, ty55, ty58, ty64, ty67, ty72, ty74, ty81]
    have hlA2 : (List.set (A ++ [Blk.cells [pvv]]) b (Blk.cells [v, ve, vu, vd, pw, hv, V.int .i64 ((s.n : Int) + 1)])).length = A.length + 1 := by simp
    have c2 : LH.cellsAt (List.set (A ++ [Blk.cells [pvv]]) b (Blk.cells [v, ve, vu, vd, pw, hv, V.int .i64 ((s.n : Int) + 1)])) b = some [v, ve, vu, vd, pw, hv, V.int .i64 ((s.n : Int) + 1)] := cellsAt_set (by rw [List.length_append]; omega)
    have c3 : LH.cellsAt (List.set (A ++ [Blk.cells [pvv]]) b (Blk.cells [v, ve, vu, vd, pw, hv, V.int .i64 ((s.n : Int) + 1)])) A.length = some [pvv] := by rw [cellsAt_set_ne (by omega), cellsAt_app0]; rfl
    have fx2 : Fx A.length [b] A (List.set (A ++ [Blk.cells [pvv]]) b (Blk.cells [v, ve, vu, vd, pw, hv, V.int .i64 ((s.n : Int) + 1)])) :=
      (Fx.app (E := [b]) (L := [Blk.cells [pvv]]) (Nat.le_refl _)).trans (Fx.set (f := (A ++ [Blk.cells [pvv]]).length) (E := [b]) (.inl (by simp))) (Nat.le_refl _) (fun c _ h => h)
    generalize List.set (A ++ [Blk.cells [pvv]]) b (Blk.cells [v, ve, vu, vd, pw, hv, V.int .i64 ((s.n : Int) + 1)]) = A2 at *
    have hGA := hx.len
    have hx2 : Hx G A2 := fx2.hx hx hGA (by simpa using hG)
    have hp2 : At A2 sgC 3 pvv path := hp.fr fx2 (fun c hc => ⟨hp.sbk c hc, by simpa using (hap c hc).1⟩)
    have ho2 : HOwn f A2 hv cs s.hits := ho.fr fx2 (Nat.le_refl _) (fun c hc => .inl (by have : c = b := by simpa using hc
                                                                                         omega))
    have hP2 := hP.ext hx2
    have hN2 := hN.ext hx2
    have e1 := fun fl => run_patAny hP2.at_ (by have := hP.few; have := hP.len; omega) 56 [.ptr A.length 0] (fun k => matchB (ps.getD k []) path)
      (fun k hk fl => run_visit1 (hP2.row k (by have := hP.len; omega)) c3 hp2 (hP2.sm k (by have := hP.len; omega)) (by omega) fl) fl
    rw [hP.len] at e1
    have hany : (List.range ps.length).any (fun k => matchB (ps.getD k []) path) = anyP ps path := rfl
    rw [hany] at e1
    have htg := tgt_lt hi
    have e2 := fun fl => run_defOf hN2 hlen hok h1 hi fl
    obtain ⟨kw, D, e3, xD, oD⟩ := run_kidsOf hN2 hlen htg fl
    have k1 := (oD.at inN_len).isTup; have k2 := (oD.at inN_len).one; have k3 := (oD.at inN_len).len; have k4 := (oD.at inN_len).lenOk ty55
    have cD := xD.cells c2
    by_cases ha : anyP ps path = true
    rotate_left
    · have ha : anyP ps path = false := by simpa using ha
      rw [ha] at e1
      have hm : met es ps doc i path s = ⟨s.n + 1, s.hits⟩ := by unfold met; rw [ha]; rfl
      have hS2 : VSt G b f v ve vu vd pw A2 hv cs ⟨s.n + 1, s.hits⟩ := ⟨hx2, by rw [c2]; rfl, ho2, hG, hb, by omega, by show s.hits.length ≤ s.n + 1; omega⟩
      have fD : Fx A2.length [] A2 D := by
        obtain ⟨M, rfl⟩ := xD
        exact Fx.app (Nat.le_refl _)
      have hSD := hS2.fr fD
      rw [← hm] at hSD
      have hFD : Fx A.length (b :: sbk hv) A D := (fx2.sub (by intro c hc; rw [List.mem_singleton.1 hc]; exact List.mem_cons_self)).trans fD (Nat.le_refl _) (fun c _ h => absurd h (by simp))
      have hED : hv = hv ∨ ∀ c ∈ sbk hv, A.length ≤ c := .inl rfl
      have hLI : LI G b f A.length v ve vu vd pw pvv kw path (kidsF es (tgt es i)) D hv cs (met es ps doc i path s) := by
        refine ⟨hSD, hp2.fr fD (fun c hc => ⟨by have := hp.sbk c hc; omega, by simp⟩), hap, oD.at inN_len, fun c hc => ?_, fD.cells c3 (by omega) (by simp), ⟨by omega, fun hm => by have := ho.own.sbk _ hm; omega⟩⟩
        have := oD.sbk c hc
        exact ⟨by omega, fun hm => by have := ho.own.sbk _ hm; omega⟩
      by_cases hdf : 0 ≤ dfI es i
      · have ht : dfI es i = ((tgt es i : Nat) : Int) := by unfold tgt; rw [if_pos hdf]; omega
        rw [ht] at e2
        have t2 : (0 ≤ ((tgt es i : Nat) : Int)) = True := eq_true (by omega)
        unfold run at e1 e2 e3
        simp (config := {contextual := true, maxSteps := 10000000, implicitDefEqProofs := false}) (disch := first | (and_intros <;> omega -splitDisjunctions) | (simp only [List.length_set, List.length_append, List.length_cons, List.length_nil]; and_intros <;> omega -splitDisjunctions) | fail) only [t2, c2, c3, cD, e1, e2, e3, hlA2, p1, p2, o1, o2, w1, w2, n1, n2, n3, n4, n5, n6, n7, n8, k1, k2, k3, k4, Try.f32, go_sem, ↓reduceIte, Nat.reduceEqDiff, Nat.reduceAdd, Nat.reduceMul, Nat.reduceLT, Nat.reduceLeDiff, reduceCtorEq, Int.reduceNe, Int.reduceEq, Int.reduceLT, Int.reduceLE, Int.reduceAdd, Int.reduceSub, Int.reduceMul, Int.reduceNeg, Int.reduceToNat, UInt8.reduceToNat, natLit, ty3, ty4, ty9, ty26, ty29, ty31, ty47, ty49, ty55, ty58, ty64, ty67, ty72, ty74, ty81]
        refine at_loopR fun c R hc hR => ?_
        exact (vis_loop hN hlen hok h1 b f doc d (tgt es i) htg A.length path pvv kw fl hfl A IH c R (by subst hc; rfl) (fun A x0 x1 x2 x3 x7 x8 x9 x10 x11 x12 x17 x30 x57 x64 x65 x66 x67 x82 x85 x111 => by rw [← hR]; simp (config := {contextual := true, maxSteps := 10000000, implicitDefEqProofs := false}) (disch := first | (and_intros <;> omega -splitDisjunctions) | (simp only [List.length_set, List.length_append, List.length_cons, List.length_nil]; and_intros <;> omega -splitDisjunctions) | fail) only [Try.f32, go_sem, ↓reduceIte, Nat.reduceEqDiff, Nat.reduceAdd, Nat.reduceMul, Nat.reduceLT, Nat.reduceLeDiff, reduceCtorEq, Int.reduceNe, Int.reduceEq, Int.reduceLT, Int.reduceLE, Int.reduceAdd, Int.reduceSub, Int.reduceMul, Int.reduceNeg, Int.reduceToNat, UInt8.reduceToNat, natLit, ty3, ty4, ty9, ty26, ty29, ty31, ty47, ty49, ty55, ty58, ty64, ty67, ty72, ty74, ty81]) (fun A x0 x1 x2 x3 x7 x9 x10 x11 x12 x17 x30 x57 x64 x65 x66 x67 x82 x85 x111 => by rw [← hR]; simp (config := {contextual := true, maxSteps := 10000000, implicitDefEqProofs := false}) (disch := first | (and_intros <;> omega -splitDisjunctions) | (simp only [List.length_set, List.length_append, List.length_cons, List.length_nil]; and_intros <;> omega -splitDisjunctions) | fail) only [Try.f32, go_sem, ↓reduceIte, Nat.reduceEqDiff, Nat.reduceAdd, Nat.reduceMul, Nat.reduceLT, Nat.reduceLeDiff, reduceCtorEq, Int.reduceNe, Int.reduceEq, Int.reduceLT, Int.reduceLE, Int.reduceAdd, Int.reduceSub, Int.reduceMul, Int.reduceNeg, Int.reduceToNat, UInt8.reduceToNat, natLit, ty3, ty4, ty9, ty26, ty29, ty31, ty47, ty49, ty55, ty58, ty64, ty67, ty72, ty74, ty81]) ((kidsF es (tgt es i)).length + 1) 0 0 D hv cs (met es ps doc i path s) _ _ _ _ _ _ _ _ _ _ _ _ _ (by omega) rfl (by omega) hLI (by show 3001 ≤ s.n + 1 + d; omega) (by show s.n + 1 ≤ 3000; omega) (by show path.length < s.n + 1; omega)).mono fun w B hw => ⟨hw.1, hw.2.trans hFD hED⟩
      · have ht : tgt es i = i := by unfold tgt; rw [if_neg hdf]
        have t2 : (0 ≤ dfI es i) = False := eq_false hdf
        rw [ht] at e3 k3 hLI ⊢
        unfold run at e1 e2 e3
        simp (config := {contextual := true, maxSteps := 10000000, implicitDefEqProofs := false}) (disch := first | (and_intros <;> omega -splitDisjunctions) | (simp only [List.length_set, List.length_append, List.length_cons, List.length_nil]; and_intros <;> omega -splitDisjunctions) | fail) only [t2, c2, c3, cD, e1, e2, e3, hlA2, p1, p2, o1, o2, w1, w2, n1, n2, n3, n4, n5, n6, n7, n8, k1, k2, k3, k4, Try.f32, go_sem, ↓reduceIte, Nat.reduceEqDiff, Nat.reduceAdd, Nat.reduceMul, Nat.reduceLT, Nat.reduceLeDiff, reduceCtorEq, Int.reduceNe, Int.reduceEq, Int.reduceLT, Int.reduceLE, Int.reduceAdd, Int.reduceSub, Int.reduceMul, Int.reduceNeg, Int.reduceToNat, UInt8.reduceToNat, natLit, ty3, ty4, ty9, ty26, ty29, ty31, ty47, ty49, ty55, ty58, ty64, ty67, ty72, ty74, ty81]
        refine at_loopR fun c R hc hR => ?_
        exact (vis_loop hN hlen hok h1 b f doc d i hi A.length path pvv kw fl hfl A IH c R (by subst hc; rfl) (fun A x0 x1 x2 x3 x7 x8 x9 x10 x11 x12 x17 x30 x57 x64 x65 x66 x67 x82 x85 x111 => by rw [← hR]; simp (config := {contextual := true, maxSteps := 10000000, implicitDefEqProofs := false}) (disch := first | (and_intros <;> omega -splitDisjunctions) | (simp only [List.length_set, List.length_append, List.length_cons, List.length_nil]; and_intros <;> omega -splitDisjunctions) | fail) only [Try.f32, go_sem, ↓reduceIte, Nat.reduceEqDiff, Nat.reduceAdd, Nat.reduceMul, Nat.reduceLT, Nat.reduceLeDiff, reduceCtorEq, Int.reduceNe, Int.reduceEq, Int.reduceLT, Int.reduceLE, Int.reduceAdd, Int.reduceSub, Int.reduceMul, Int.reduceNeg, Int.reduceToNat, UInt8.reduceToNat, natLit, ty3, ty4, ty9, ty26, ty29, ty31, ty47, ty49, ty55, ty58, ty64, ty67, ty72, ty74, ty81]) (fun A x0 x1 x2 x3 x7 x9 x10 x11 x12 x17 x30 x57 x64 x65 x66 x67 x82 x85 x111 => by rw [← hR]; simp (config := {contextual := true, maxSteps := 10000000, implicitDefEqProofs := false}) (disch := first | (and_intros <;> omega -splitDisjunctions) | (simp only [List.length_set, List.length_append, List.length_cons, List.length_nil]; and_intros <;> omega -splitDisjunctions) | fail) only [Try.f32, go_sem, ↓reduceIte, Nat.reduceEqDiff, Nat.reduceAdd, Nat.reduceMul, Nat.reduceLT, Nat.reduceLeDiff, reduceCtorEq, Int.reduceNe, Int.reduceEq, Int.reduceLT, Int.reduceLE, Int.reduceAdd, Int.reduceSub, Int.reduceMul, Int.reduceNeg, Int.reduceToNat, UInt8.reduceToNat, natLit, ty3, ty4, ty9, ty26, ty29, ty31, ty47, ty49, ty55, ty58, ty64, ty67, ty72, ty74, ty81]) ((kidsF es i).length + 1) 0 0 D hv cs (met es ps doc i path s) _ _ _ _ _ _ _ _ _ _ _ _ _ (by omega) rfl (by omega) hLI (by show 3001 ≤ s.n + 1 + d; omega) (by show s.n + 1 ≤ 3000; omega) (by show path.length < s.n + 1; omega)).mono fun w B hw => ⟨hw.1, hw.2.trans hFD hED⟩
    · rw [ha] at e1
      obtain ⟨pw2, C, e4, xC, oC⟩ := run_Clone hp2 (by omega) fl
      have e5 := fun fl => run_valueOf (hN2.ext xC) hlen hok hfit hsh h1 hi fl
      have q1 := (oC.at sgC_len).isTup; have q2 := (oC.at sgC_len).one
      have c4 := xC.cells c2
      have ap := fun L => app_own1 (fl := fl) ((ho2.own.ext xC).ext (Hx.app (L := L))) htC_len (by omega) 72 (by have := ho2.len; unfold mostCells; omega) ⟨doc, pw2, valueV (evA es (tgt es i))⟩
      have kb : ∀ L M, LH.cellsAt (killV (C ++ L) hv ++ M) b = some [v, ve, vu, vd, pw, hv, V.int .i64 ((s.n : Int) + 1)] := fun L M => app_old (cellsAt_left c4) ((ho2.own.ext xC).ext Hx.app) hb M
      have kl : ∀ L, (killV (C ++ L) hv).length = C.length + L.length := fun L => by rw [killV_len, List.length_append]
      have hlC := xC.len
      generalize hW : valueV (evA es (tgt es i)) = W at *
      unfold vaC at e5
      simp only [htC] at ap
      unfold run at e1 e4 e5
      simp (config := {contextual := true, maxSteps := 10000000, implicitDefEqProofs := false}) (disch := first | (and_intros <;> omega -splitDisjunctions) | (simp only [List.length_set, List.length_append, List.length_cons, List.length_nil]; and_intros <;> omega -splitDisjunctions) | fail) only [c2, c3, c4, e1, e4, e5, q1, q2, ap, kb, kl, hlA2, p1, p2, o1, o2, w1, w2, n1, n2, n3, n4, n5, n6, n7, n8, Try.f32, go_sem, ↓reduceIte, Nat.reduceEqDiff, Nat.reduceAdd, Nat.reduceMul, Nat.reduceLT, Nat.reduceLeDiff, reduceCtorEq, Int.reduceNe, Int.reduceEq, Int.reduceLT, Int.reduceLE, Int.reduceAdd, Int.reduceSub, Int.reduceMul, Int.reduceNeg, Int.reduceToNat, UInt8.reduceToNat, natLit, ty3, ty4, ty9, ty26, ty29, ty31, ty47, ty49, ty55, ty58, ty64, ty67, ty72, ty74, ty81]
      obtain ⟨hS3, f3⟩ := VSt.hit (pw2 := pw2) hx2 c2 ho2 hG hb (by omega) hl xC oC doc W [V.int .i64 doc, pw2, V.int .i64 W.kind, V.int .i64 W.n, V.bool W.b, V.str W.s]
      generalize List.set (killV _ hv ++ _) b _ = A3 at *
      have hN3 := hN.ext hS3.hx
      have c23 := hS3.pk
      have c33 := f3.cells c3 (by omega) (fun hm => by
        rcases List.mem_cons.1 hm with h | h
        · omega
        · have := ho.own.sbk _ h; omega)
      have e2 := fun fl => run_defOf hN3 hlen hok h1 hi fl
      obtain ⟨kw, D, e3, xD, oD⟩ := run_kidsOf hN3 hlen htg fl
      have k1 := (oD.at inN_len).isTup; have k2 := (oD.at inN_len).one; have k3 := (oD.at inN_len).len; have k4 := (oD.at inN_len).lenOk ty55
      have ho3 := hS3.ho
      have o1 := (ho3.own.at htC_len).isTup; have o2 := (ho3.own.at htC_len).one
      have hm : met es ps doc i path s = ⟨s.n + 1, s.hits ++ [⟨doc, path, W⟩]⟩ := by unfold met; rw [ha, hW]; rfl
      have fD : Fx A3.length [] A3 D := by
        obtain ⟨M, rfl⟩ := xD
        exact Fx.app (Nat.le_refl _)
      have hSD := hS3.fr fD
      rw [← hm] at hSD
      have hl3 := f3.len
      have hp3 : At A3 sgC 3 pvv path := hp2.fr f3 (fun c hc => ⟨by have := hp2.sbk c hc; omega, fun hm => by
        rcases List.mem_cons.1 hm with h | h
        · exact (hap c hc).1 h
        · exact (hap c hc).2 h⟩)
      have hFD : Fx A.length (b :: sbk hv) A D := ((fx2.sub (by intro c hc; rw [List.mem_singleton.1 hc]; exact List.mem_cons_self)).trans f3 (Nat.le_refl _) (fun c _ h => h)).trans fD (Nat.le_refl _) (fun c _ h => absurd h (by simp))
      have hED : (V.sl (C.length + 1) 0 6 (cs.length + 1) (cs.length + 1)) = hv ∨ ∀ c ∈ sbk (V.sl (C.length + 1) 0 6 (cs.length + 1) (cs.length + 1)), A.length ≤ c := .inr (fun c hc => by
        have : c = C.length + 1 := by simpa [sbk] using hc
        omega)
      have hLI : LI G b f A.length v ve vu vd pw pvv kw path (kidsF es (tgt es i)) D (V.sl (C.length + 1) 0 6 (cs.length + 1) (cs.length + 1)) (cs ++ [⟨doc, pw2, W⟩]) (met es ps doc i path s) := by
        refine ⟨hSD, hp3.fr fD (fun c hc => ⟨by have := hp3.sbk c hc; omega, by simp⟩), fun c hc => ⟨(hap c hc).1, fun hm => ?_⟩, oD.at inN_len, fun c hc => ⟨by have := oD.sbk c hc; omega, fun hm => ?_⟩, fD.cells c33 (by omega) (by simp), ⟨by omega, fun hm => ?_⟩⟩
        · have : c = C.length + 1 := by simpa [sbk] using hm
          have := hp.sbk c hc
          omega
        · have : c = C.length + 1 := by simpa [sbk] using hm
          have := oD.sbk c hc
          have := hS3.ho.own.sbk c hm
          omega
        · have : A.length = C.length + 1 := by simpa [sbk] using hm
          omega
      by_cases hdf : 0 ≤ dfI es i
      · have ht : dfI es i = ((tgt es i : Nat) : Int) := by unfold tgt; rw [if_pos hdf]; omega
        rw [ht] at e2
        have t2 : (0 ≤ ((tgt es i : Nat) : Int)) = True := eq_true (by omega)
        unfold run at e2 e3
        simp (config := {contextual := true, maxSteps := 10000000, implicitDefEqProofs := false}) (disch := first | (and_intros <;> omega -splitDisjunctions) | (simp only [List.length_set, List.length_append, List.length_cons, List.length_nil]; and_intros <;> omega -splitDisjunctions) | fail) only [t2, c23, c33, e2, e3, hlA2, p1, p2, o1, o2, w1, w2, n1, n2, n3, n4, n5, n6, n7, n8, k1, k2, k3, k4, Try.f32, go_sem, ↓reduceIte, Nat.reduceEqDiff, Nat.reduceAdd, Nat.reduceMul, Nat.reduceLT, Nat.reduceLeDiff, reduceCtorEq, Int.reduceNe, Int.reduceEq, Int.reduceLT, Int.reduceLE, Int.reduceAdd, Int.reduceSub, Int.reduceMul, Int.reduceNeg, Int.reduceToNat, UInt8.reduceToNat, natLit, ty3, ty4, ty9, ty26, ty29, ty31, ty47, ty49, ty55, ty58, ty64, ty67, ty72, ty74, ty81]
        refine at_loopR fun c R hc hR => ?_
        exact (vis_loop hN hlen hok h1 b f doc d (tgt es i) htg A.length path pvv kw fl hfl A IH c R (by subst hc; rfl) (fun A x0 x1 x2 x3 x7 x8 x9 x10 x11 x12 x17 x30 x57 x64 x65 x66 x67 x82 x85 x111 => by rw [← hR]; simp (config := {contextual := true, maxSteps := 10000000, implicitDefEqProofs := false}) (disch := first | (and_intros <;> omega -splitDisjunctions) | (simp only [List.length_set, List.length_append, List.length_cons, List.length_nil]; and_intros <;> omega -splitDisjunctions) | fail) only [Try.f32, go_sem, ↓reduceIte, Nat.reduceEqDiff, Nat.reduceAdd, Nat.reduceMul, Nat.reduceLT, Nat.reduceLeDiff, reduceCtorEq, Int.reduceNe, Int.reduceEq, Int.reduceLT, Int.reduceLE, Int.reduceAdd, Int.reduceSub, Int.reduceMul, Int.reduceNeg, Int.reduceToNat, UInt8.reduceToNat, natLit, ty3, ty4, ty9, ty26, ty29, ty31, ty47, ty49, ty55, ty58, ty64, ty67, ty72, ty74, ty81]) (fun A x0 x1 x2 x3 x7 x9 x10 x11 x12 x17 x30 x57 x64 x65 x66 x67 x82 x85 x111 => by rw [← hR]; simp (config := {contextual := true, maxSteps := 10000000, implicitDefEqProofs := false}) (disch := first | (and_intros <;> omega -splitDisjunctions) | (simp only [List.length_set, List.length_append, List.length_cons, List.length_nil]; and_intros <;> omega -splitDisjunctions) | fail) only [Try.f32, go_sem, ↓reduceIte, Nat.reduceEqDiff, Nat.reduceAdd, Nat.reduceMul, Nat.reduceLT, Nat.reduceLeDiff, reduceCtorEq, Int.reduceNe, Int.reduceEq, Int.reduceLT, Int.reduceLE, Int.reduceAdd, Int.reduceSub, Int.reduceMul, Int.reduceNeg, Int.reduceToNat, UInt8.reduceToNat, natLit, ty3, ty4, ty9, ty26, ty29, ty31, ty47, ty49, ty55, ty58, ty64, ty67, ty72, ty74, ty81]) ((kidsF es (tgt es i)).length + 1) 0 0 D (V.sl (C.length + 1) 0 6 (cs.length + 1) (cs.length + 1)) (cs ++ [⟨doc, pw2, W⟩]) (met es ps doc i path s) _ _ _ _ _ _ _ _ _ _ _ _ _ (by omega) rfl (by omega) hLI (by show 3001 ≤ s.n + 1 + d; omega) (by show s.n + 1 ≤ 3000; omega) (by show path.length < s.n + 1; omega)).mono fun w B hw => ⟨hw.1, hw.2.trans hFD hED⟩
      · have ht : tgt es i = i := by unfold tgt; rw [if_neg hdf]
        have t2 : (0 ≤ dfI es i) = False := eq_false hdf
        rw [ht] at e3 k3 hLI ⊢
        unfold run at e2 e3
        simp (config := {contextual := true, maxSteps := 10000000, implicitDefEqProofs := false}) (disch := first | (and_intros <;> omega -splitDisjunctions) | (simp only [List.length_set, List.length_append, List.length_cons, List.length_nil]; and_intros <;> omega -splitDisjunctions) | fail) only [t2, c23, c33, e2, e3, hlA2, p1, p2, o1, o2, w1, w2, n1, n2, n3, n4, n5, n6, n7, n8, k1, k2, k3, k4, Try.f32, go_sem, ↓reduceIte, Nat.reduceEqDiff, Nat.reduceAdd, Nat.reduceMul, Nat.reduceLT, Nat.reduceLeDiff, reduceCtorEq, Int.reduceNe, Int.reduceEq, Int.reduceLT, Int.reduceLE, Int.reduceAdd, Int.reduceSub, Int.reduceMul, Int.reduceNeg, Int.reduceToNat, UInt8.reduceToNat, natLit, ty3, ty4, ty9, ty26, ty29, ty31, ty47, ty49, ty55, ty58, ty64, ty67, ty72, ty74, ty81]
        refine at_loopR fun c R hc hR => ?_
        exact (vis_loop hN hlen hok h1 b f doc d i hi A.length path pvv kw fl hfl A IH c R (by subst hc; rfl) (fun A x0 x1 x2 x3 x7 x8 x9 x10 x11 x12 x17 x30 x57 x64 x65 x66 x67 x82 x85 x111 => by rw [← hR]; simp (config := {contextual := true, maxSteps := 10000000, implicitDefEqProofs := false}) (disch := first | (and_intros <;> omega -splitDisjunctions) | (simp only [List.length_set, List.length_append, List.length_cons, List.length_nil]; and_intros <;> omega -splitDisjunctions) | fail) only [Try.f32, go_sem, ↓reduceIte, Nat.reduceEqDiff, Nat.reduceAdd, Nat.reduceMul, Nat.reduceLT, Nat.reduceLeDiff, reduceCtorEq, Int.reduceNe, Int.reduceEq, Int.reduceLT, Int.reduceLE, Int.reduceAdd, Int.reduceSub, Int.reduceMul, Int.reduceNeg, Int.reduceToNat, UInt8.reduceToNat, natLit, ty3, ty4, ty9, ty26, ty29, ty31, ty47, ty49, ty55, ty58, ty64, ty67, ty72, ty74, ty81]) (fun A x0 x1 x2 x3 x7 x9 x10 x11 x12 x17 x30 x57 x64 x65 x66 x67 x82 x85 x111 => by rw [← hR]; simp (config := {contextual := true, maxSteps := 10000000, implicitDefEqProofs := false}) (disch := first | (and_intros <;> omega -splitDisjunctions) | (simp only [List.length_set, List.length_append, List.length_cons, List.length_nil]; and_intros <;> omega -splitDisjunctions) | fail) only [Try.f32, go_sem, ↓reduceIte, Nat.reduceEqDiff, Nat.reduceAdd, Nat.reduceMul, Nat.reduceLT, Nat.reduceLeDiff, reduceCtorEq, Int.reduceNe, Int.reduceEq, Int.reduceLT, Int.reduceLE, Int.reduceAdd, Int.reduceSub, Int.reduceMul, Int.reduceNeg, Int.reduceToNat, UInt8.reduceToNat, natLit, ty3, ty4, ty9, ty26, ty29, ty31, ty47, ty49, ty55, ty58, ty64, ty67, ty72, ty74, ty81]) ((kidsF es i).length + 1) 0 0 D (V.sl (C.length + 1) 0 6 (cs.length + 1) (cs.length + 1)) (cs ++ [⟨doc, pw2, W⟩]) (met es ps doc i path s) _ _ _ _ _ _ _ _ _ _ _ _ _ (by omega) rfl (by omega) hLI (by show 3001 ≤ s.n + 1 + d; omega) (by show s.n + 1 ≤ 3000; omega) (by show path.length < s.n + 1; omega)).mono fun w B hw => ⟨hw.1, hw.2.trans hFD hED⟩
theorem run_visit {G : LH} {v ve vu vd pw : V} {es : List Ev} {pv : List V} {ps : List (List Sg)} (hN : NsAt G v ve vu vd es) (hP : PAt G pw pv ps) (hlen : es.length ≤ 1048576) (hok : ∀ i, i < es.length → EvOk (evA es i)) (hfit : ∀ e ∈ es, evCFit e) (hsh : ∀ e ∈ es, e.text.size ≤ 1099511627776) (h1 : kd es 0 = 1) (b f : Nat) (doc : Int) :
    ∀ (d : Nat) (A : LH) (hv : V) (cs : List HC) (s : PS) (i : Nat) (path : List Sg) (pvv : V) (fl : Nat), VSt G b f v ve vu vd pw A hv cs s → At A sgC 3 pvv path → (∀ c ∈ sbk pvv, c ≠ b ∧ c ∉ sbk hv) → i < es.length → 3001 ≤ s.n + d → s.n ≤ 3000 → path.length ≤ s.n → fl ≤ b →
      Ret (fun w B => w = .bool (vis es ps doc d i path s).1 ∧ Left G b f v ve vu vd pw A hv B (vis es ps doc d i path s).2)
        (run 32 [.ptr b 0, .int .i64 doc, .int .i64 (i : Int), pvv] fl A)
  | 0, A, hv, cs, s, i, path, pvv, fl, hS, hp, hap, hi, hd, hn, hpl, hfl => by omega
  | d + 1, A, hv, cs, s, i, path, pvv, fl, hS, hp, hap, hi, hd, hn, hpl, hfl => vis_step hN hP hlen hok hfit hsh h1 b f doc d (run_visit hN hP hlen hok hfit hsh h1 b f doc d) A hv cs s i path pvv fl hS hp hap hi hd hn hpl hfl
end Go.Proofs.Ytcbjmggbbnpbpaa.Lg
namespace Go.Proofs.Ytcbjmggbbnpbpaa.Lg
set_option linter.unusedSimpArgs false
set_option linter.unusedVariables false
set_option maxRecDepth 100000
set_option maxHeartbeats 40000000
open Go.Proofs.Ytcbjmggbbnpbpaa

structure VSs (G : LH) (b f : Nat) (v pw : V) (dc : Int) (A : LH) (hv : V) (cs : List HC) (s : PS) : Prop where
  hx : Hx G A
  pk : A.cellsAt b = some [v, pw, hv, .int .i64 dc, .int .i64 (s.n : Int)]
  ho : HOwn f A hv cs s.hits
  hG : G.length ≤ b
  hb : b < f
  hf : f ≤ A.length
  hl : s.hits.length ≤ s.n
/-- what a visit leaves -/
def LeS (G : LH) (b f : Nat) (v pw : V) (dc : Int) (A : LH) (hv : V) (B : LH) (s : PS) : Prop :=
  ∃ hv' cs', VSs G b f v pw dc B hv' cs' s ∧ Fx A.length (b :: sbk hv) A B ∧ (hv' = hv ∨ ∀ c ∈ sbk hv', A.length ≤ c)
theorem LeS.trans {G : LH} {b f : Nat} {v pw : V} {dc : Int} {A B C : LH} {hv hv' : V} {s : PS} (h1 : Fx A.length (b :: sbk hv) A B) (h2 : hv' = hv ∨ ∀ c ∈ sbk hv', A.length ≤ c) (k : LeS G b f v pw dc B hv' C s) : LeS G b f v pw dc A hv C s := by
  obtain ⟨hw, cs, hS, hF, hE⟩ := k
  refine ⟨hw, cs, hS, h1.trans hF (Nat.le_refl _) (fun c hc hm => ?_), ?_⟩
  · rcases List.mem_cons.1 hm with rfl | hm
    · simp
    · rcases h2 with rfl | h2
      · exact List.mem_cons_of_mem _ hm
      · have := h2 c hm; omega
  · have hl := h1.len
    rcases hE with rfl | hE
    · exact h2
    · exact .inr fun c hc => by have := hE c hc; omega
/-- a hit is kept -/
theorem VSs.hit {G : LH} {b f : Nat} {v pw : V} {dc : Int} {A C : LH} {hv pw2 : V} {cs : List HC} {s : PS} {path : List Sg} (hx : Hx G A) (c2 : A.cellsAt b = some [v, pw, hv, .int .i64 dc, .int .i64 ((s.n : Int) + 1)]) (ho : HOwn f A hv cs s.hits)
    (hG : G.length ≤ b) (hb : b < f) (hf : f ≤ A.length) (hl : s.hits.length ≤ s.n) (xC : Hx A C) (oC : Own A.length C sgC 3 pw2 path) (doc : Int) (W : Val) (L : List V) :
    VSs G b f v pw dc (List.set (killV (C ++ [Blk.cells L]) hv ++ [Blk.cells (rows htC (cs ++ [⟨doc, pw2, W⟩]))]) b (Blk.cells [v, pw, .sl (C.length + 1) 0 6 (cs.length + 1) (cs.length + 1), .int .i64 dc, .int .i64 ((s.n : Int) + 1)]))
      (.sl (C.length + 1) 0 6 (cs.length + 1) (cs.length + 1)) (cs ++ [⟨doc, pw2, W⟩]) ⟨s.n + 1, s.hits ++ [⟨doc, path, W⟩]⟩ ∧
    Fx A.length (b :: sbk hv) A (List.set (killV (C ++ [Blk.cells L]) hv ++ [Blk.cells (rows htC (cs ++ [⟨doc, pw2, W⟩]))]) b (Blk.cells [v, pw, .sl (C.length + 1) 0 6 (cs.length + 1) (cs.length + 1), .int .i64 dc, .int .i64 ((s.n : Int) + 1)])) := by
  have hlC := xC.len
  have fC : Fx A.length [] A C := by
    obtain ⟨M, rfl⟩ := xC
    exact Fx.app (Nat.le_refl _)
  have hoC := ho.fr fC (Nat.le_refl _) (by simp)
  have hput := hoC.put (L := [Blk.cells L]) (oC.down hf) doc W
    (fun i hi a ha c hc => by have h1 := (ho.row i hi).path.sbk a ha; have h2 := oC.sbk c hc; omega)
    (fun c hc b2 hb2 => by have h1 := ho.own.sbk b2 hb2; have h2 := oC.sbk c hc; omega) (by omega)
  have hlL : (C ++ [Blk.cells L]).length = C.length + 1 := by simp
  rw [hlL] at hput
  have kf := kill_fr (L := [Blk.cells (rows htC (cs ++ [⟨doc, pw2, W⟩]))]) (hoC.own.ext (Hx.app (L := [Blk.cells L])))
  have f1 : Fx A.length (b :: sbk hv) A (killV (C ++ [Blk.cells L]) hv ++ [Blk.cells (rows htC (cs ++ [⟨doc, pw2, W⟩]))]) := by
    refine ⟨by have := kf.len; rw [hlL] at this; omega, fun c h1 h2 => ?_⟩
    rw [kf.get c (by rw [hlL]; omega) (fun h => h2 (List.mem_cons_of_mem _ h)), List.getElem?_append_left (by omega)]
    exact fC.get c h1 (by simp)
  have g2 : Fx (killV (C ++ [Blk.cells L]) hv ++ [Blk.cells (rows htC (cs ++ [⟨doc, pw2, W⟩]))]).length [b] (killV (C ++ [Blk.cells L]) hv ++ [Blk.cells (rows htC (cs ++ [⟨doc, pw2, W⟩]))])
      (List.set (killV (C ++ [Blk.cells L]) hv ++ [Blk.cells (rows htC (cs ++ [⟨doc, pw2, W⟩]))]) b (Blk.cells [v, pw, .sl (C.length + 1) 0 6 (cs.length + 1) (cs.length + 1), .int .i64 dc, .int .i64 ((s.n : Int) + 1)])) := Fx.set (.inl (by simp))
  have f2 := f1.trans g2 (Nat.le_refl _) (fun c _ h => by
    have : c = b := List.mem_singleton.1 h
    subst this; exact List.mem_cons_self)
  have hkl : (killV (C ++ [Blk.cells L]) hv ++ [Blk.cells (rows htC (cs ++ [⟨doc, pw2, W⟩]))]).length = C.length + 2 := by rw [List.length_append, killV_len, hlL]; rfl
  refine ⟨⟨f2.hx hx hx.len (fun c hc => ?_), ?_, ?_, hG, hb, by rw [List.length_set, hkl]; omega, ?_⟩, f2⟩
  · rcases List.mem_cons.1 hc with rfl | hc
    · exact hG
    · have := ho.own.sbk c hc; omega
  · rw [cellsAt_set (by rw [hkl]; omega)]
    rfl
  · exact hput.fr g2 (Nat.le_refl _) (fun c h => .inl (by have := List.mem_singleton.1 h; omega))
  · simp; omega
theorem VSs.fr {G : LH} {b f : Nat} {v pw : V} {dc : Int} {A B : LH} {hv : V} {cs : List HC} {s : PS} (h : VSs G b f v pw dc A hv cs s) (k : Fx A.length [] A B) : VSs G b f v pw dc B hv cs s :=
  ⟨k.hx h.hx h.hx.len (by simp), k.cells h.pk (cellsAt_lt h.pk) (by simp), h.ho.fr k (Nat.le_refl _) (by simp), h.hG, h.hb, Nat.le_trans h.hf k.len, h.hl⟩
structure LIs (G : LH) (b f : Nat) (v pw : V) (dc : Int) (pvv kw : V) (path : List Sg) (xs : List Nat) (A : LH) (hv : V) (cs : List HC) (s : PS) : Prop where
  st : VSs G b f v pw dc A hv cs s
  p : At A sgC 3 pvv path
  pa : ∀ c ∈ sbk pvv, c ≠ b ∧ c ∉ sbk hv
  k : At A inN 1 kw xs
  ka : ∀ c ∈ sbk kw, c ≠ b ∧ c ∉ sbk hv
theorem LIs.step {G : LH} {b f : Nat} {v pw : V} {dc : Int} {pvv kw : V} {path : List Sg} {xs : List Nat} {A B : LH} {hv hv' : V} {cs cs' : List HC} {s s' : PS} (h : LIs G b f v pw dc pvv kw path xs A hv cs s)
    (hS : VSs G b f v pw dc B hv' cs' s') (hF : Fx A.length (b :: sbk hv) A B) (hE : hv' = hv ∨ ∀ c ∈ sbk hv', A.length ≤ c) : LIs G b f v pw dc pvv kw path xs B hv' cs' s' := by
  have key : ∀ c, c < A.length → c ≠ b ∧ c ∉ sbk hv → c ≠ b ∧ c ∉ sbk hv' := fun c h1 h2 => ⟨h2.1, fun hm => by
    rcases hE with rfl | hE
    · exact h2.2 hm
    · have := hE c hm; omega⟩
  have key2 : ∀ c, c ≠ b ∧ c ∉ sbk hv → c ∉ (b :: sbk hv) := fun c h2 hm => by
    rcases List.mem_cons.1 hm with h3 | h3
    · exact h2.1 h3
    · exact h2.2 h3
  refine ⟨hS, h.p.fr hF (fun c hc => ⟨h.p.sbk c hc, key2 c (h.pa c hc)⟩), fun c hc => key c (h.p.sbk c hc) (h.pa c hc), h.k.fr hF (fun c hc => ⟨h.k.sbk c hc, key2 c (h.ka c hc)⟩), fun c hc => key c (h.k.sbk c hc) (h.ka c hc)⟩
end Go.Proofs.Ytcbjmggbbnpbpaa.Lg
namespace Go.Proofs.Ytcbjmggbbnpbpaa.Lg
set_option linter.unusedSimpArgs false
set_option linter.unusedVariables false
set_option maxRecDepth 100000
set_option maxHeartbeats 40000000
open Go.Proofs.Ytcbjmggbbnpbpaa

theorem anyP_split {ps : List (List Sg)} {path : List Sg} {k : Nat} (hk : k < ps.length) (h : matchB (ps.getD k []) path = true) : anyP ps path = true := by
  unfold anyP
  exact List.any_eq_true.2 ⟨k, List.mem_range.2 hk, h⟩
theorem anyP_none {ps : List (List Sg)} {path : List Sg} (h : ∀ j, j < ps.length → matchB (ps.getD j []) path = false) : anyP ps path = false := by
  unfold anyP
  rw [List.any_eq_false]
  intro j hj
  rw [h j (List.mem_range.1 hj)]; decide
theorem pat_loop {G : LH} {v pw : V} {dc : Int} {es : List Ev} {pv : List V} {ps : List (List Sg)} (hN : At G evC 8 v es) (hP : PAt G pw pv ps) (hlen : es.length ≤ 1048576) (hfit : ∀ e ∈ es, evCFit e) (hsh : ∀ e ∈ es, e.text.size ≤ 1099511627776) (b f i : Nat) (hi : i < es.length) (hti : tgt es i = i)
    (path : List Sg) (pvv : V) (hcap : capOk pvv) (hpl : path.length ≤ 1000000) (fl : Nat) (hfl : fl ≤ b) (H : LH) (s : PS) (hn : s.n ≤ 3000) (hhl : s.hits.length ≤ s.n) (A0 : LH) (hv : V) (cs : List HC)
    (hS0 : VSs G b f v pw dc A0 hv cs ⟨s.n + 1, s.hits⟩) (hp : At A0 sgC 3 pvv path) (hap : ∀ c ∈ sbk pvv, c ≠ b ∧ c ∉ sbk hv)
    (c : Code) (R : List K) (hc0 : (Try.f22.body.bind fun x => loopOf (reC ([(8, [0, 1, 2, 3, 4, 5, 6, 7, 8, 9, 10, 12, 13, 14, 15, 16, 17, 18, 11, 19, 20, 21, 22, 23, 24, 25], [(11, 4), (11, 8), (11, 15), (11, 18)]), (17, [0, 1, 2, 3, 5, 6, 4, 7, 8], [(4, 5)])] : List (Nat × List Nat × List (Nat × Nat))) x)) = some c) (P : Option (V × LH) → Prop)
    (hk : ∀ (B : LH) (hv' : V) (cs' : List HC) (x7 x8 x9 x10 x19 x40 x44 x45 x46 x47 x53 x85 x86 x87 x88 x105 x116 x146 : Option V), VSs G b f v pw dc B hv' cs' (met es ps dc i path s) → Fx A0.length (b :: sbk hv) A0 B → (hv' = hv ∨ ∀ c ∈ sbk hv', A0.length ≤ c) →
      P (zEv (leaveX (mkR Try.prog cfg ok [0, 1, 2, 7, 8, 9, 10, 19, 40, 44, 45, 46, 47, 53, 85, 86, 87, 88, 105, 116, 146] fl) .any H []) (mkR Try.prog cfg ok [0, 1, 2, 7, 8, 9, 10, 19, 40, 44, 45, 46, 47, 53, 85, 86, 87, 88, 105, 116, 146] fl) R .nrm [some (.ptr b 0), some (.int .i64 (i : Int)), some pvv, x7, x8, x9, x10, x19, x40, x44, x45, x46, x47, x53, x85, x86, x87, x88, x105, x116, x146] B)) :
    ∀ (m k : Nat) (kk : Int) (A : LH) (x7 x8 x9 x10 x19 x40 x47 x53 x85 x86 x87 x88 x105 x116 x146 : Option V), ps.length - k < m → kk = k → k ≤ ps.length → Fx A0.length [] A0 A → (∀ j, j < k → matchB (ps.getD j []) path = false) →
      P (zEv (leaveX (mkR Try.prog cfg ok [0, 1, 2, 7, 8, 9, 10, 19, 40, 44, 45, 46, 47, 53, 85, 86, 87, 88, 105, 116, 146] fl) .any H []) (mkR Try.prog cfg ok [0, 1, 2, 7, 8, 9, 10, 19, 40, 44, 45, 46, 47, 53, 85, 86, 87, 88, 105, 116, 146] fl) (K.code (Code.loop c) :: K.blk 0 :: R) .nrm [some (.ptr b 0), some (.int .i64 (i : Int)), some pvv, x7, x8, x9, x10, x19, x40, some pw, some (.int .i64 ps.length), some (.int .i64 kk), x47, x53, x85, x86, x87, x88, x105, x116, x146] A) := by
  simp only [reC, findR, reR, reL, reO, List.idxOf_cons, List.filter_cons, List.filter_nil, Option.map_some, Option.map_none, Try.f22, if_true, if_false, Nat.reduceEqDiff, Nat.reduceBEq, cond_true, cond_false, Nat.reduceAdd, List.map_cons, List.map_nil, List.append_nil, List.nil_append, List.cons_append, List.getElem?_cons_succ, List.getElem?_cons_zero, BEq.rfl, Nat.succ_ne_zero, Bool.false_eq_true, Option.bind_some, loopOf] at hc0
  have hc := Option.some.inj hc0
  clear hc0
  intro m
  induction m with
  | zero => intro k kk A x7 x8 x9 x10 x19 x40 x47 x53 x85 x86 x87 x88 x105 x116 x146 hm; omega
  | succ m ih =>
    intro k kk A x7 x8 x9 x10 x19 x40 x47 x53 x85 x86 x87 x88 x105 x116 x146 hm hkk hkl hF hno
    subst hkk
    have hS := hS0.fr hF
    have hps := hP.few
    have hpL := hP.len
    have hbA := cellsAt_lt hS.pk
    have hlF := hF.len
    by_cases hlt : k < ps.length
    rotate_left
    · have t1 : ((k : Int) < ps.length) = False := eq_false (by omega)
      have hm2 : met es ps dc i path s = ⟨s.n + 1, s.hits⟩ := by
        unfold met; rw [anyP_none (fun j hj => hno j (by omega))]; rfl
      rw [zEv_round hc]
      simp (config := {contextual := true, maxSteps := 10000000, implicitDefEqProofs := false}) (disch := first | (and_intros <;> omega -splitDisjunctions) | (simp only [List.length_set, List.length_append, List.length_cons, List.length_nil]; and_intros <;> omega -splitDisjunctions) | fail) only [t1, reC, findR, reR, reL, reO, List.idxOf_cons, List.filter_cons, List.filter_nil, Option.map_some, Option.map_none, Try.f22, go_sem, ↓reduceIte, Nat.reduceEqDiff, Nat.reduceAdd, Nat.reduceMul, Nat.reduceLT, Nat.reduceLeDiff, reduceCtorEq, Int.reduceNe, Int.reduceEq, Int.reduceLT, Int.reduceLE, Int.reduceAdd, Int.reduceSub, Int.reduceMul, Int.reduceNeg, Int.reduceToNat, UInt8.reduceToNat, natLit, ty3, ty4, ty9, ty26, ty29, ty31, ty47, ty49, ty54, ty55, ty58, ty72, ty74, ty81]
      exact hk A hv cs _ _ _ _ _ _ _ _ _ _ _ _ _ _ _ _ _ _ (hm2 ▸ hS) hF.up (.inl rfl)
    have t1 : ((k : Int) < ps.length) = True := eq_true (by omega)
    have hPA := hP.ext hS.hx
    have hpA : At A sgC 3 pvv path := hp.fr hF (fun c hc => ⟨hp.sbk c hc, by simp⟩)
    have hpa := hPA.at_
    have g1 := hpa.isTup; have g2 := hpa.len; have g3 := hpa.lenOk ty31; have g0 := hpa.one
    have g4 := fun hp => hpa.con hp
    have g5 := hpa.idx (T := ty Try.prog) (t := 31) (by simp only [elemI, sizeO, ty3, ty9, ty31, ty47, ty49, ty81])
    have g6 := hpa.loadD pC_len .nilsl
    have g7 := fun K => g6 k (by omega) K
    simp only [pC, Nat.mul_one] at g7
    have g6 := g7
    have g4 := g4 (by omega)
    have rk := hPA.row k hlt
    have w1 := rk.isTup; have w2 := rk.one
    have e1 := fun L fl => run_spMatch (rk.left (L := L)) (hpA.left (L := L)) hcap (hP.sm k hlt) (by omega) fl
    generalize hx : pv.getD k .nilsl = x at *
    have p1 := hp.isTup; have p2 := hp.one
    by_cases hmt : matchB (ps.getD k []) path = true
    rotate_left
    · have hmt : matchB (ps.getD k []) path = false := by simpa using hmt
      rw [hmt] at e1
      unfold run at e1
      rw [zEv_round hc]
      simp (config := {contextual := true, maxSteps := 10000000, implicitDefEqProofs := false}) (disch := first | (and_intros <;> omega -splitDisjunctions) | (simp only [List.length_set, List.length_append, List.length_cons, List.length_nil]; and_intros <;> omega -splitDisjunctions) | fail) only [t1, g0, g1, g2, g3, g4, g5, g6, w1, w2, p1, p2, e1, reC, findR, reR, reL, reO, List.idxOf_cons, List.filter_cons, List.filter_nil, Option.map_some, Option.map_none, Try.f22, go_sem, ↓reduceIte, Nat.reduceEqDiff, Nat.reduceAdd, Nat.reduceMul, Nat.reduceLT, Nat.reduceLeDiff, reduceCtorEq, Int.reduceNe, Int.reduceEq, Int.reduceLT, Int.reduceLE, Int.reduceAdd, Int.reduceSub, Int.reduceMul, Int.reduceNeg, Int.reduceToNat, UInt8.reduceToNat, natLit, ty3, ty4, ty9, ty26, ty29, ty31, ty47, ty49, ty54, ty55, ty58, ty72, ty74, ty81]
      exact ih (k + 1) ((k : Int) + 1) _ _ _ _ _ _ _ _ _ _ _ _ _ _ _ _ (by omega) (by omega) (by omega) (hF.trans Fx.app1 (Nat.le_refl _) (fun c _ h => h)) (fun j hj => by
        by_cases hjk : j = k
        · rw [hjk]; exact hmt
        · exact hno j (by omega))
    · rw [hmt] at e1
      have hm2 : met es ps dc i path s = ⟨s.n + 1, s.hits ++ [⟨dc, path, valueV (evA es i)⟩]⟩ := by
        unfold met; rw [anyP_split hlt hmt, hti]; rfl
      have pkL := fun L => cellsAt_left (L := L) hS.pk
      have hNA := hN.ext hS.hx
      have y1 := hNA.isTup; have y2 := hNA.len; have y3 := hNA.lenOk ty29; have y0 := hNA.one
      have y4 := fun L hp => (hNA.left (L := L)).con hp
      have y5 := hNA.idx (T := ty Try.prog) (t := 29) (by simp only [elemI, sizeO, ty3, ty4, ty9, ty29, ty58])
      have y6 := fun L => (hNA.left (L := L)).loadD evC_len evZ
      have y4 := fun L => (hNA.left (L := L)).con (by omega)
      have y6 := fun L K => y6 L i hi K
      have hmem : es.getD i evZ ∈ es := by rw [getD_of hi]; exact List.getElem_mem _
      have e2 := fun fl H => run_spValueOf (es.getD i evZ) fl H (hfit _ hmem) (hsh _ hmem)
      generalize valueV (es.getD i evZ) = W at *
      unfold vaC at e2
      have o1 := (hS.ho.own.at htC_len).isTup; have o2 := (hS.ho.own.at htC_len).one
      have hll : cs.length = s.hits.length := hS.ho.len
      have s3 := hpA.len; have s4 := hpA.lenOk ty47
      have s5 := fun L => (hpA.left (L := L)).cells; have s6 := hpA.src
      have ap := fun L pw2 => app_own1 (fl := fl) (hS.ho.own.ext (Hx.app (L := L))) htC_len (by have := hS.hb; omega) 72 (by have h1 := hS.ho.len; have h2 : cs.length = s.hits.length := h1; unfold mostCells; omega) ⟨dc, pw2, W⟩
      simp only [htC] at ap
      have kb : ∀ L M, LH.cellsAt (killV (A ++ L) hv ++ M) b = some [v, pw, hv, .int .i64 dc, V.int .i64 ((s.n : Int) + 1)] := fun L M => app_old (cellsAt_left hS.pk) (hS.ho.own.ext Hx.app) hS.hb M
      have kl : ∀ L, (killV (A ++ L) hv).length = A.length + L.length := fun L => by rw [killV_len, List.length_append]
      have hvb := hNA.blk (by omega)
      have tb1 : (b = A.length + 1) = False := eq_false (by omega)
      have tb2 : (blkV v = A.length + 1) = False := eq_false (by omega)
      unfold run at e1 e2
      by_cases hz : path.length = 0
      · have hx0 : path = [] := List.eq_nil_of_length_eq_zero hz
        rw [zEv_round hc]
        simp (config := {contextual := true, maxSteps := 10000000, implicitDefEqProofs := false}) (disch := first | (and_intros <;> omega -splitDisjunctions) | (simp only [List.length_set, List.length_append, List.length_cons, List.length_nil]; and_intros <;> omega -splitDisjunctions) | fail) only [t1, g0, g1, g2, g3, g4, g5, g6, w1, w2, p1, p2, e1, e2, pkL, y6, y0, y1, y2, y3, y4, y5, y6, o1, o2, s3, s4, s5, s6, tb1, tb2, ne_eq, hz, ap, kb, kl, reC, findR, reR, reL, reO, List.idxOf_cons, List.filter_cons, List.filter_nil, Option.map_some, Option.map_none, Try.f22, go_sem, ↓reduceIte, Nat.reduceEqDiff, Nat.reduceAdd, Nat.reduceMul, Nat.reduceLT, Nat.reduceLeDiff, reduceCtorEq, Int.reduceNe, Int.reduceEq, Int.reduceLT, Int.reduceLE, Int.reduceAdd, Int.reduceSub, Int.reduceMul, Int.reduceNeg, Int.reduceToNat, UInt8.reduceToNat, natLit, ty3, ty4, ty9, ty26, ty29, ty31, ty47, ty49, ty54, ty55, ty58, ty72, ty74, ty81]
        have pk2 : A.cellsAt b = some [v, pw, hv, .int .i64 dc, .int .i64 ((s.n : Int) + 1)] := hS.pk
        obtain ⟨hS3, f3⟩ := VSs.hit (pw2 := (V.sl (A.length + 1) 0 3 0 0)) (path := path) hS.hx pk2 hS.ho hS.hG hS.hb hS.hf hhl (Hx.app (L := [Blk.cells [x], Blk.cells []])) (by
          subst hx0; exact .inr ⟨A.length + 1, rfl, by rw [cellsAt_app]; rfl, by omega⟩) dc W [V.int .i64 dc, (V.sl (A.length + 1) 0 3 0 0), V.int .i64 W.kind, V.int .i64 W.n, V.bool W.b, V.str W.s]
        simp only [List.append_assoc, List.cons_append, List.nil_append, List.length_append, List.length_cons, List.length_nil, Nat.zero_add, Nat.reduceAdd, Nat.add_assoc] at hS3 f3
        exact hk _ _ _ _ _ _ _ _ _ _ _ _ _ _ _ _ _ _ _ _ _ (hm2 ▸ hS3) (hF.up.trans f3 (Nat.le_refl _) (fun c _ h => h)) (.inr (fun c hc => by
          have : c = A.length + 3 := by simpa [sbk] using hc
          omega))
      · have hp0 : 0 < path.length := by omega
        have hn2 : ¬ path.length ≤ 0 := by omega
        rw [zEv_round hc]
        simp (config := {contextual := true, maxSteps := 10000000, implicitDefEqProofs := false}) (disch := first | (and_intros <;> omega -splitDisjunctions) | (simp only [List.length_set, List.length_append, List.length_cons, List.length_nil]; and_intros <;> omega -splitDisjunctions) | fail) only [t1, g0, g1, g2, g3, g4, g5, g6, w1, w2, p1, p2, e1, e2, pkL, y6, y0, y1, y2, y3, y4, y5, y6, o1, o2, s3, s4, s5, s6, tb1, tb2, ne_eq, hz, hn2, ap, kb, kl, reC, findR, reR, reL, reO, List.idxOf_cons, List.filter_cons, List.filter_nil, Option.map_some, Option.map_none, Try.f22, go_sem, ↓reduceIte, Nat.reduceEqDiff, Nat.reduceAdd, Nat.reduceMul, Nat.reduceLT, Nat.reduceLeDiff, reduceCtorEq, Int.reduceNe, Int.reduceEq, Int.reduceLT, Int.reduceLE, Int.reduceAdd, Int.reduceSub, Int.reduceMul, Int.reduceNeg, Int.reduceToNat, UInt8.reduceToNat, natLit, ty3, ty4, ty9, ty26, ty29, ty31, ty47, ty49, ty54, ty55, ty58, ty72, ty74, ty81]
        have pk2 : A.cellsAt b = some [v, pw, hv, .int .i64 dc, .int .i64 ((s.n : Int) + 1)] := hS.pk
        obtain ⟨hS3, f3⟩ := VSs.hit (pw2 := (V.sl (A.length + 2) 0 3 path.length path.length)) (path := path) hS.hx pk2 hS.ho hS.hG hS.hb hS.hf hhl (Hx.app (L := [Blk.cells [x], Blk.dead, Blk.cells (rows sgC path)])) (by
          exact .inr ⟨A.length + 2, rfl, by rw [cellsAt_app]; rfl, by omega⟩) dc W [V.int .i64 dc, (V.sl (A.length + 2) 0 3 path.length path.length), V.int .i64 W.kind, V.int .i64 W.n, V.bool W.b, V.str W.s]
        simp only [List.append_assoc, List.cons_append, List.nil_append, List.length_append, List.length_cons, List.length_nil, Nat.zero_add, Nat.reduceAdd, Nat.add_assoc] at hS3 f3
        exact hk _ _ _ _ _ _ _ _ _ _ _ _ _ _ _ _ _ _ _ _ _ (hm2 ▸ hS3) (hF.up.trans f3 (Nat.le_refl _) (fun c _ h => h)) (.inr (fun c hc => by
          have : c = A.length + 4 := by simpa [sbk] using hc
          omega))
end Go.Proofs.Ytcbjmggbbnpbpaa.Lg
