/- GraphOk, the reference's. No condition. -/
import Derived.Test.YtbjpecknlohicaaCGok6
namespace Go.Proofs.Ytbjpecknlohicaa.Lg
set_option linter.unusedSimpArgs false
set_option linter.unusedVariables false
set_option maxRecDepth 100000
set_option maxHeartbeats 40000000
open Go.Proofs.Ytbjpecknlohicaa

def markS (s : SW) : SW := { s with seen := s.seen.map (fun x => if x = 2 then 3 else x) }
def spR (g : Gr) : List Int → SW → Bool
  | [], s => decide (s.bad = false ∧ s.next = g.nodes.length)
  | r :: rs, s => if r < 0 ∨ (g.nodes.length : Int) ≤ r then false else spR g rs (markS (spGo g (g.nodes.length + 1) s r))
def spOk (g : Gr) : Bool := if 3000 < g.nodes.length ∨ ndsOk g = false then false else spR g g.roots ⟨List.replicate g.nodes.length 0, 0, false⟩
theorem WH_app (H : LH) (a0 a1 : Blk) (nv rv : V) (s : SW) : WH (H ++ [a0, a1]) (H.length + 1) H.length nv rv s = H ++ [.cells (rows inC s.seen), .cells (swC nv rv H.length s)] := by
  simp [WH, List.set_append]
theorem markS_inv {N : Nat} {s : SW} (h : SInv N s) : SInv N (markS s) := by
  refine ⟨by simp only [markS, List.length_map]; exact h.len, h.lo, h.hi, fun i hi => ?_⟩
  have h1 := h.vals i hi
  have hl := h.len
  simp only [markS]
  rw [getD_of (by rw [List.length_map]; omega), List.getElem_map]
  rw [getD_of (by omega)] at h1
  by_cases h2 : s.seen[i] = 2
  · rw [if_pos h2]; right; right; right; rfl
  · rw [if_neg h2]; exact h1
theorem nds_kids (g : Gr) (w2 : ndsOk g = true) (kx : ∀ n ∈ g.nodes, n.kids.length ≤ 1048576) : ∀ n ∈ g.nodes, n.kids.length ≤ 1048576 ∧ ∀ k ∈ n.kids, 0 ≤ k ∧ k < g.nodes.length := fun n hn => by
  refine ⟨kx n hn, fun k hk2 => ?_⟩
  have h1 : ndOk g.nodes.length n = true := by
    cases hh : ndOk g.nodes.length n
    · have : g.nodes.any (fun n => !ndOk g.nodes.length n) = true := List.any_eq_true.2 ⟨n, hn, by rw [hh]; rfl⟩
      unfold ndsOk at w2
      rw [this] at w2
      exact absurd w2 (by simp)
    · rfl
  have h2 := (of_decide_eq_true h1).2.2.2.2.2.2
  have h3 : outK g.nodes.length k = false := by
    cases hh : outK g.nodes.length k
    · rfl
    · rw [List.any_eq_true.2 ⟨k, hk2, hh⟩] at h2; exact absurd h2 (by simp)
  have h4 := of_decide_eq_false h3
  omega
theorem run_spGraphOk (nv rv : V) (g : Gr) (fl : Nat) (H : LH) (h : GAt H nv rv g) (hx : g.nodes.length ≤ 1048576) (kx : ∀ n ∈ g.nodes, n.kids.length ≤ 1048576 ∧ n.tag.size ≤ 1048576) (hr : g.roots.length ≤ 1048576) :
    run 33 [.agg [nv, rv]] fl H = some (.bool (spOk g), H) := by
  obtain ⟨⟨cs, hA, hlen, hR⟩, hr0⟩ := h
  have f1 := hA.isTup; have f2 := hA.len; have f3 := hA.lenOk ty60; have f0 := hA.one
  have r1 := hr0.isTup; have r2 := hr0.len; have r3 := hr0.lenOk ty55; have r0 := hr0.one
  rw [hlen] at f2
  have n4 := fun L (hp : 0 < cs.length) => (hA.left (L := L)).con hp
  have n5 := hA.idx (T := ty Try.prog) (t := 60) (by simp only [elemI, sizeO, ty3, ty9, ty55, ty60, ty100])
  have n6 := fun L => (hA.left (L := L)).loadD ncC_len nc0
  unfold run at *
  rw [Run_z Try.func33 rfl (by rfl : ok 33 = true) (by rfl : cfg.keep 33 = [0, 1, 2, 4, 5, 7, 8, 12, 14, 15, 16, 17, 25, 35, 36, 37, 38, 49, 57, 58, 59, 68]) (by rfl : cfg.mode 33 = .pure)]
  simp (config := {contextual := true, maxSteps := 10000000, implicitDefEqProofs := false}) (disch := first | (and_intros <;> omega -splitDisjunctions) | (simp only [List.length_set, List.length_append, List.length_cons, List.length_nil]; and_intros <;> omega -splitDisjunctions) | fail) only [f0, f1, f2, f3, r0, r1, r2, r3, Try.f33, go_sem, ↓reduceIte, Nat.reduceEqDiff, Nat.reduceAdd, Nat.reduceMul, Nat.reduceLT, Nat.reduceLeDiff, reduceCtorEq, Int.reduceNe, Int.reduceEq, Int.reduceLT, Int.reduceLE, Int.reduceAdd, Int.reduceSub, Int.reduceMul, Int.reduceNeg, Int.reduceToNat, UInt8.reduceToNat, natLit, ty3, ty4, ty9, ty55, ty60, ty62, ty100, ty104]
  refine ite_E (fun w => ?_) (fun w => ?_)
  · unfold spOk
    rw [if_pos (.inl (by omega))]
  have w1 : g.nodes.length ≤ 3000 := by omega
  refine at_loopE fun c0 R hc0 hR1 => ?_
  have e2 : ∀ (i : Nat) (h : i < cs.length) (L : LH) f, run 68 [.agg (ncC (cs.getD i nc0)), .int .i64 g.nodes.length] f (H ++ L) = some (.bool (ndOk g.nodes.length (g.nodes.getD i nd0)), H ++ L) := fun i h L f => by
    have hn := getD_of (show i < g.nodes.length by omega) nd0
    have hm : g.nodes.getD i nd0 ∈ g.nodes := by rw [hn]; exact List.getElem_mem _
    have kk := kx _ hm
    exact run_l15Node (cs.getD i nc0) (g.nodes.getD i nd0) g.nodes.length f (H ++ L) ((hR i (by omega)).ext Hx.app) (by omega) (by omega) kk.1 (by omega)
  unfold run at e2
  simp only [ncC] at e2 n6
  have hrest : ndsOk g = true → ∀ (x0 x4 x5 x7 x8 x12 x14 x15 x16 x17 x25 x35 x36 x37 x38 x49 x57 x58 x59 x68 : Option V) (L : LH), zEv (leaveX (mkR Try.prog cfg ok [0, 1, 2, 4, 5, 7, 8, 12, 14, 15, 16, 17, 25, 35, 36, 37, 38, 49, 57, 58, 59, 68] H.length) .pure H [ResultVar.tmp 2]) (mkR Try.prog cfg ok [0, 1, 2, 4, 5, 7, 8, 12, 14, 15, 16, 17, 25, 35, 36, 37, 38, 49, 57, 58, 59, 68] H.length) R .nrm [x0, some (.ptr H.length 0), some (.bool false), x4, x5, x7, x8, x12, x14, x15, x16, x17, x25, x35, x36, x37, x38, x49, x57, x58, x59, x68] (H ++ .cells [nv, rv] :: L) =
      some (.bool (spR g g.roots ⟨List.replicate g.nodes.length 0, 0, false⟩), H) := by
    intro w2 x0 x4 x5 x7 x8 x12 x14 x15 x16 x17 x25 x35 x36 x37 x38 x49 x57 x58 x59 x68 L
    rw [← hR1]
    simp (config := {contextual := true, maxSteps := 10000000, implicitDefEqProofs := false}) (disch := first | (and_intros <;> omega -splitDisjunctions) | (simp only [List.length_set, List.length_append, List.length_cons, List.length_nil]; and_intros <;> omega -splitDisjunctions) | fail) only [f0, f1, f2, f3, r0, r1, r2, r3, Try.f33, go_sem, ↓reduceIte, Nat.reduceEqDiff, Nat.reduceAdd, Nat.reduceMul, Nat.reduceLT, Nat.reduceLeDiff, reduceCtorEq, Int.reduceNe, Int.reduceEq, Int.reduceLT, Int.reduceLE, Int.reduceAdd, Int.reduceSub, Int.reduceMul, Int.reduceNeg, Int.reduceToNat, UInt8.reduceToNat, natLit, ty3, ty4, ty9, ty55, ty60, ty62, ty100, ty104]
    have hk := nds_kids g w2 (fun n hn => (kx n hn).1)
    have r4 := fun L (hp : 0 < g.roots.length) => (hr0.left (L := L)).con hp
    have r5 := hr0.idx (T := ty Try.prog) (t := 55) (by simp only [elemI, sizeO, ty3, ty55])
    have r6 := fun L => (hr0.left (L := L)).load1 0 (fun x => .int .i64 x) (fun _ => rfl)
    refine at_loopE fun c1 R2 hc1 hR2 => ?_
    have key : ∀ (m j : Nat) (x0 x4 x7 x8 x12 x14 x15 x16 x17 x25 x38 x49 x57 x58 x59 x68 : Option V) (t : SW) (jj : Int), g.roots.length - j < m → j ≤ g.roots.length → jj = j → SInv g.nodes.length t →
        zEv (leaveX (mkR Try.prog cfg ok [0, 1, 2, 4, 5, 7, 8, 12, 14, 15, 16, 17, 25, 35, 36, 37, 38, 49, 57, 58, 59, 68] H.length) .pure H [ResultVar.tmp 2]) (mkR Try.prog cfg ok [0, 1, 2, 4, 5, 7, 8, 12, 14, 15, 16, 17, 25, 35, 36, 37, 38, 49, 57, 58, 59, 68] H.length) (K.code (Code.loop c1) :: K.blk 2 :: R2) .nrm [x0, some (.ptr H.length 0), some (.bool false), x4, some (.ptr (H.length + (L.length + 1 + 1)) 0), x7, x8, x12, x14, x15, x16, x17, x25, some rv, some (.int .i64 g.roots.length), some (.int .i64 jj), x38, x49, x57, x58, x59, x68]
          (H ++ .cells [nv, rv] :: (L ++ [.cells (rows inC t.seen), .cells [nv, rv, .sl (H.length + (L.length + 1)) 0 1 t.seen.length t.seen.length, .int .i64 t.next, .bool t.bad]])) =
        some (.bool (spR g (g.roots.drop j) t), H) := by
      intro m
      induction m with
      | zero => intro j x0 x4 x7 x8 x12 x14 x15 x16 x17 x25 x38 x49 x57 x58 x59 x68 t jj hd; omega
      | succ m ihm =>
        intro j x0 x4 x7 x8 x12 x14 x15 x16 x17 x25 x38 x49 x57 x58 x59 x68 t jj hd hj2 hj hT
        subst hj
        have e1 : ∀ (h1 : 0 ≤ g.roots.getD j 0) (h2 : g.roots.getD j 0 < (g.nodes.length : Int)), run 69 [.ptr (H.length + (L.length + 1 + 1)) 0, .int .i64 (g.roots.getD j 0)] H.length
          (H ++ .cells [nv, rv] :: (L ++ [.cells (rows inC t.seen), .cells [nv, rv, .sl (H.length + (L.length + 1)) 0 1 t.seen.length t.seen.length, .int .i64 t.next, .bool t.bad]])) = some (und, H ++ .cells [nv, rv] :: (L ++ [.cells (rows inC (spGo g (g.nodes.length + 1) t (g.roots.getD j 0)).seen), .cells (swC nv rv (H.length + (L.length + 1)) (spGo g (g.nodes.length + 1) t (g.roots.getD j 0)))])) := fun h1 h2 => by
          have hl : (H ++ Blk.cells [nv, rv] :: L).length = H.length + (L.length + 1) := by simp
          have hlo := hT.lo
          have := run_l15Go H nv rv cs g hA hlen hR w1 hk (H.length + (L.length + 1 + 1)) (H.length + (L.length + 1)) (by omega) (by omega) (by omega) g.nodes.length
            (H ++ .cells [nv, rv] :: (L ++ [.cells (rows inC t.seen), .cells (swC nv rv (H.length + (L.length + 1)) t)])) t (g.roots.getD j 0).toNat H.length Hx.app
            ⟨by rw [cellsAt_app, cellsAt_succ, cellsAt_app]; rfl, by rw [cellsAt_app, cellsAt_succ, cellsAt_app0]; rfl⟩ hT (by omega) (by omega) (by omega) (by omega)
          rw [Int.toNat_of_nonneg h1] at this
          refine Eq.trans this ?_
          have e2 := WH_app (H ++ Blk.cells [nv, rv] :: L) (.cells (rows inC t.seen)) (.cells (swC nv rv (H.length + (L.length + 1)) t)) nv rv (spGo g (g.nodes.length + 1) t (g.roots.getD j 0))
          rw [hl] at e2
          simp only [List.append_assoc, List.cons_append] at e2
          exact congrArg (fun q => some (und, q)) e2
        simp only [swC] at e1
        unfold run at e1
        rw [zEv_round hc1, ← hR2]
        simp (config := {contextual := true, maxSteps := 10000000, implicitDefEqProofs := false}) (disch := first | (and_intros <;> omega -splitDisjunctions) | (simp only [List.length_set, List.length_append, List.length_cons, List.length_nil]; and_intros <;> omega -splitDisjunctions) | fail) only [e1, f1, f2, r4, r5, r6, Try.f33, go_sem, ↓reduceIte, Nat.reduceEqDiff, Nat.reduceAdd, Nat.reduceMul, Nat.reduceLT, Nat.reduceLeDiff, reduceCtorEq, Int.reduceNe, Int.reduceEq, Int.reduceLT, Int.reduceLE, Int.reduceAdd, Int.reduceSub, Int.reduceMul, Int.reduceNeg, Int.reduceToNat, UInt8.reduceToNat, natLit, ty3, ty4, ty9, ty55, ty60, ty62, ty100, ty104]
        try rw [hR2]
        refine ite_E (fun hlt => ?_) (fun hge => ?_)
        · have hlt : j < g.roots.length := by omega
          rw [List.drop_eq_getElem_cons hlt, ← getD_of hlt 0]
          simp only [spR]
          refine ite_E (fun hf => ?_) (fun hf => ?_)
          · rw [if_pos hf]
          · rw [if_neg hf]
            have hv := spGo_inv g hk (g.nodes.length + 1) t (g.roots.getD j 0) hT (by omega) (by omega)
            have hl := hv.1.len
            generalize hu : spGo g (g.nodes.length + 1) t (g.roots.getD j 0) = u at *
            refine at_loopE fun c2 R3 hc2 hR3 => ?_
            have key3 : ∀ (m2 i : Nat) (x0 x4 x7 x8 x12 x14 x15 x16 x17 x25 x38 x49 x59 x68 : Option V) (ys : List Int) (ii : Int), u.seen.length - i < m2 → i ≤ u.seen.length → ii = i → ys = (u.seen.take i).map (fun x => if x = 2 then 3 else x) ++ u.seen.drop i →
                zEv (leaveX (mkR Try.prog cfg ok [0, 1, 2, 4, 5, 7, 8, 12, 14, 15, 16, 17, 25, 35, 36, 37, 38, 49, 57, 58, 59, 68] H.length) .pure H [ResultVar.tmp 2]) (mkR Try.prog cfg ok [0, 1, 2, 4, 5, 7, 8, 12, 14, 15, 16, 17, 25, 35, 36, 37, 38, 49, 57, 58, 59, 68] H.length) (K.code (Code.loop c2) :: K.blk 4 :: R3) .nrm [x0, some (.ptr H.length 0), some (.bool false), x4, some (.ptr (H.length + (L.length + 1 + 1)) 0), x7, x8, x12, x14, x15, x16, x17, x25, some rv, some (.int .i64 g.roots.length), some (.int .i64 (j : Int)), x38, x49, some (.int .i64 u.seen.length), some (.int .i64 ii), x59, x68]
                  (H ++ .cells [nv, rv] :: (L ++ [.cells (rows inC ys), .cells [nv, rv, .sl (H.length + (L.length + 1)) 0 1 u.seen.length u.seen.length, .int .i64 u.next, .bool u.bad]])) =
                some (.bool (spR g (g.roots.drop (j + 1)) (markS u)), H) := by
              intro m2
              induction m2 with
              | zero => intro i x0 x4 x7 x8 x12 x14 x15 x16 x17 x25 x38 x49 x59 x68 ys ii hd2; omega
              | succ m2 ih2 =>
                intro i x0 x4 x7 x8 x12 x14 x15 x16 x17 x25 x38 x49 x59 x68 ys ii hd2 hi2 hi3 hys
                subst hi3
                have hyl : ys.length = u.seen.length := by rw [hys]; simp; omega
                have p1 : (rows inC ys).length = u.seen.length := by rw [rows_len inC_len]; omega
                have p2 : i < u.seen.length → ∀ w : Int, (rows inC ys).set i (.int .i64 w) = rows inC (ys.set i w) := fun h w => by
                  have := rows_putD (enc := inC) (j := 0) (xs := ys) inC_len 0 i (by omega) (ws := inC w) (by simp [inC_len]) _ rfl
                  simpa [inC, putAt] using this
                have p3 := fun (h : i < u.seen.length) n K => cell_inC (xs := ys) (i := i) (by omega) n K
                rw [zEv_round hc2, ← hR3]
                simp (config := {contextual := true, maxSteps := 10000000, implicitDefEqProofs := false}) (disch := first | (and_intros <;> omega -splitDisjunctions) | (simp only [List.length_set, List.length_append, List.length_cons, List.length_nil]; and_intros <;> omega -splitDisjunctions) | fail) only [p1, p2, p3, f1, f2, r4, r5, r6, Try.f33, go_sem, ↓reduceIte, Nat.reduceEqDiff, Nat.reduceAdd, Nat.reduceMul, Nat.reduceLT, Nat.reduceLeDiff, reduceCtorEq, Int.reduceNe, Int.reduceEq, Int.reduceLT, Int.reduceLE, Int.reduceAdd, Int.reduceSub, Int.reduceMul, Int.reduceNeg, Int.reduceToNat, UInt8.reduceToNat, natLit, ty3, ty4, ty9, ty55, ty60, ty62, ty100, ty104]
                try rw [hR3]
                refine ite_E (fun h2 => ?_) (fun h2 => ?_)
                · have h2 : i < u.seen.length := by omega
                  have hm : i < (u.seen.take i).length + (u.seen.drop i).length := by simp; omega
                  have hq : ys.getD i 0 = u.seen[i] := by
                    rw [hys, List.getD_eq_getElem?_getD, List.getElem?_append_right (by simp; omega)]
                    simp only [List.length_map, List.length_take, Nat.min_eq_left hi2, Nat.sub_self, List.getElem?_drop, Nat.add_zero, List.getElem?_eq_getElem h2, Option.getD_some]
                  have hd : u.seen.drop i = u.seen[i] :: u.seen.drop (i + 1) := List.drop_eq_getElem_cons h2
                  have ht : u.seen.take (i + 1) = u.seen.take i ++ [u.seen[i]] := by rw [List.take_add_one, List.getElem?_eq_getElem h2]; rfl
                  refine ite_E (fun h3 => ?_) (fun h3 => ?_)
                  · refine ih2 (i + 1) _ _ _ _ _ _ _ _ _ _ _ _ _ _ (ys.set i 3) ((i : Int) + 1) (by omega) (by omega) rfl ?_
                    rw [ht, List.map_append, hys, List.set_append_right _ _ (by simp; omega), hd]
                    have e : i - ((u.seen.take i).map (fun x => if x = 2 then 3 else x)).length = 0 := by simp; omega
                    rw [e, List.set_cons_zero, List.append_assoc]
                    rw [hq] at h3
                    simp [h3]
                  · refine ih2 (i + 1) _ _ _ _ _ _ _ _ _ _ _ _ _ _ ys ((i : Int) + 1) (by omega) (by omega) rfl ?_
                    rw [ht, List.map_append, hys, hd, List.append_assoc]
                    rw [hq] at h3
                    simp [h3]
                · have hy2 : (markS u).seen = ys := by
                    have hi : i = u.seen.length := by omega
                    rw [hys, hi, List.take_length, List.drop_length, List.append_nil]; rfl
                  have hb2 : (markS u).bad = u.bad := rfl
                  have hn2 : (markS u).next = u.next := rfl
                  have key2 := fun x0 x4 x7 x8 x12 x14 x15 x16 x17 x25 x38 x49 x57 x58 x59 x68 => ihm (j + 1) x0 x4 x7 x8 x12 x14 x15 x16 x17 x25 x38 x49 x57 x58 x59 x68 (markS u) ((j : Int) + 1) (by omega) (by omega) rfl (markS_inv hv.1)
                  simp only [hy2, hyl, hb2, hn2] at key2
                  exact key2 _ _ _ _ _ _ _ _ _ _ _ _ _ _ _ _
            exact key3 (u.seen.length + 1) 0 _ _ _ _ _ _ _ _ _ _ _ _ _ _ u.seen 0 (by omega) (by omega) rfl (by simp)
        · rw [List.drop_of_length_le (by omega)]
          unfold spR
          by_cases hb : t.bad = false
          · rw [if_pos hb]; simp [hb]
          · rw [if_neg hb]; simp [hb]
    have key2 := fun x0 x4 x7 x8 x12 x14 x15 x16 x17 x25 x38 x49 x57 x58 x59 x68 => key (g.roots.length + 1) 0 x0 x4 x7 x8 x12 x14 x15 x16 x17 x25 x38 x49 x57 x58 x59 x68 ⟨List.replicate g.nodes.length 0, 0, false⟩ 0 (by omega) (by omega) rfl ⟨by simp, by simp, by simp, fun i hi => .inl (by rw [getD_of (by simpa using hi)]; simp)⟩
    simp only [List.drop_zero, rows_replicate, List.length_replicate] at key2
    exact key2 _ _ _ _ _ _ _ _ _ _ _ _ _ _ _ _
  have hret : ∀ (x0 x1 x4 x5 x7 x8 x12 x14 x15 x16 x17 x25 x35 x36 x37 x38 x49 x57 x58 x59 x68 : Option V) (L : LH), zEv (leaveX (mkR Try.prog cfg ok [0, 1, 2, 4, 5, 7, 8, 12, 14, 15, 16, 17, 25, 35, 36, 37, 38, 49, 57, 58, 59, 68] H.length) .pure H [ResultVar.tmp 2]) (mkR Try.prog cfg ok [0, 1, 2, 4, 5, 7, 8, 12, 14, 15, 16, 17, 25, 35, 36, 37, 38, 49, 57, 58, 59, 68] H.length) R .ret [x0, x1, some (.bool false), x4, x5, x7, x8, x12, x14, x15, x16, x17, x25, x35, x36, x37, x38, x49, x57, x58, x59, x68] (H ++ L) = some (.bool false, H) := by
    intro x0 x1 x4 x5 x7 x8 x12 x14 x15 x16 x17 x25 x35 x36 x37 x38 x49 x57 x58 x59 x68 L
    rw [← hR1]
    simp (config := {contextual := true, maxSteps := 10000000, implicitDefEqProofs := false}) (disch := first | (and_intros <;> omega -splitDisjunctions) | (simp only [List.length_set, List.length_append, List.length_cons, List.length_nil]; and_intros <;> omega -splitDisjunctions) | fail) only [Try.f33, go_sem, ↓reduceIte, Nat.reduceEqDiff, Nat.reduceAdd, Nat.reduceMul, Nat.reduceLT, Nat.reduceLeDiff, reduceCtorEq, Int.reduceNe, Int.reduceEq, Int.reduceLT, Int.reduceLE, Int.reduceAdd, Int.reduceSub, Int.reduceMul, Int.reduceNeg, Int.reduceToNat, UInt8.reduceToNat, natLit, ty3, ty4, ty9, ty55, ty60, ty62, ty100, ty104]
  have hyes : (∀ i, i < g.nodes.length → ndOk g.nodes.length (g.nodes.getD i nd0) = true) → ndsOk g = true := fun h => by
    unfold ndsOk
    cases hh : g.nodes.any (fun n => !ndOk g.nodes.length n)
    · rfl
    · obtain ⟨n, hn, he⟩ := List.any_eq_true.1 hh
      obtain ⟨i, hi, rfl⟩ := List.getElem_of_mem hn
      have := h i hi
      rw [getD_of hi] at this
      rw [this] at he
      exact absurd he (by simp)
  have hno : ∀ i, i < g.nodes.length → ndOk g.nodes.length (g.nodes.getD i nd0) = false → ndsOk g = false := fun i hi h => by
    unfold ndsOk
    rw [getD_of hi] at h
    rw [List.any_eq_true.2 ⟨_, List.getElem_mem hi, by rw [h]; rfl⟩]; rfl
  have key : ∀ (m j : Nat) (x0 x4 x5 x7 x8 x12 x17 x25 x35 x36 x37 x38 x49 x57 x58 x59 x68 : Option V) (jj : Int) (L : LH), g.nodes.length - j ≤ m → j ≤ g.nodes.length → jj = j → (∀ i, i < j → ndOk g.nodes.length (g.nodes.getD i nd0) = true) →
      zEv (leaveX (mkR Try.prog cfg ok [0, 1, 2, 4, 5, 7, 8, 12, 14, 15, 16, 17, 25, 35, 36, 37, 38, 49, 57, 58, 59, 68] H.length) .pure H [ResultVar.tmp 2]) (mkR Try.prog cfg ok [0, 1, 2, 4, 5, 7, 8, 12, 14, 15, 16, 17, 25, 35, 36, 37, 38, 49, 57, 58, 59, 68] H.length) (K.code (Code.loop c0) :: K.blk 0 :: R) .nrm [x0, some (.ptr H.length 0), some (.bool false), x4, x5, x7, x8, x12, some nv, some (.int .i64 g.nodes.length), some (.int .i64 jj), x17, x25, x35, x36, x37, x38, x49, x57, x58, x59, x68]
        (H ++ .cells [nv, rv] :: L) = some (.bool (if ndsOk g = false then false else spR g g.roots ⟨List.replicate g.nodes.length 0, 0, false⟩), H) := by
    intro m
    induction m with
    | zero =>
      intro j x0 x4 x5 x7 x8 x12 x17 x25 x35 x36 x37 x38 x49 x57 x58 x59 x68 jj L hd hj2 hj hp
      subst hj
      have hy := hyes (fun i hi => hp i (by omega))
      rw [zEv_round hc0]
      simp (config := {contextual := true, maxSteps := 10000000, implicitDefEqProofs := false}) (disch := first | (and_intros <;> omega -splitDisjunctions) | (simp only [List.length_set, List.length_append, List.length_cons, List.length_nil]; and_intros <;> omega -splitDisjunctions) | fail) only [e2, f0, f1, f2, f3, n4, n5, n6, Try.f33, go_sem, ↓reduceIte, Nat.reduceEqDiff, Nat.reduceAdd, Nat.reduceMul, Nat.reduceLT, Nat.reduceLeDiff, reduceCtorEq, Int.reduceNe, Int.reduceEq, Int.reduceLT, Int.reduceLE, Int.reduceAdd, Int.reduceSub, Int.reduceMul, Int.reduceNeg, Int.reduceToNat, UInt8.reduceToNat, natLit, ty3, ty4, ty9, ty55, ty60, ty62, ty100, ty104]
      rw [if_neg (show ¬ (j : Int) < g.nodes.length by omega), if_neg (by rw [hy]; simp)]
      exact hrest hy _ _ _ _ _ _ _ _ _ _ _ _ _ _ _ _ _ _ _ _ _
    | succ m ihm =>
      intro j x0 x4 x5 x7 x8 x12 x17 x25 x35 x36 x37 x38 x49 x57 x58 x59 x68 jj L hd hj2 hj hp
      subst hj
      rw [zEv_round hc0]
      simp (config := {contextual := true, maxSteps := 10000000, implicitDefEqProofs := false}) (disch := first | (and_intros <;> omega -splitDisjunctions) | (simp only [List.length_set, List.length_append, List.length_cons, List.length_nil]; and_intros <;> omega -splitDisjunctions) | fail) only [e2, f0, f1, f2, f3, n4, n5, n6, Try.f33, go_sem, ↓reduceIte, Nat.reduceEqDiff, Nat.reduceAdd, Nat.reduceMul, Nat.reduceLT, Nat.reduceLeDiff, reduceCtorEq, Int.reduceNe, Int.reduceEq, Int.reduceLT, Int.reduceLE, Int.reduceAdd, Int.reduceSub, Int.reduceMul, Int.reduceNeg, Int.reduceToNat, UInt8.reduceToNat, natLit, ty3, ty4, ty9, ty55, ty60, ty62, ty100, ty104]
      refine ite_E (fun hlt => ?_) (fun hge => ?_)
      · have hlt : j < g.nodes.length := by omega
        refine ite_E (fun hf => ?_) (fun hf => ?_)
        · rw [if_pos (hno j hlt hf)]
          exact hret _ _ _ _ _ _ _ _ _ _ _ _ _ _ _ _ _ _ _ _ _ _
        · refine ihm (j + 1) _ _ _ _ _ _ _ _ _ _ _ _ _ _ _ _ _ ((j : Int) + 1) _ (by omega) (by omega) rfl (fun i hi => ?_)
          by_cases h : i = j
          · subst h; simpa using hf
          · exact hp i (by omega)
      · have hy := hyes (fun i hi => hp i (by omega))
        rw [if_neg (by rw [hy]; simp)]
        exact hrest hy _ _ _ _ _ _ _ _ _ _ _ _ _ _ _ _ _ _ _ _ _
  have := fun x0 x4 x5 x7 x8 x12 x17 x25 x35 x36 x37 x38 x49 x57 x58 x59 x68 => key g.nodes.length 0 x0 x4 x5 x7 x8 x12 x17 x25 x35 x36 x37 x38 x49 x57 x58 x59 x68 0 [] (by omega) (by omega) rfl (fun i hi => by omega)
  unfold spOk
  rw [show (if 3000 < g.nodes.length ∨ ndsOk g = false then false else spR g g.roots ⟨List.replicate g.nodes.length 0, 0, false⟩) = (if ndsOk g = false then false else spR g g.roots ⟨List.replicate g.nodes.length 0, 0, false⟩) from by
    by_cases h : ndsOk g = false
    · rw [if_pos h, if_pos (.inr h)]
    · rw [if_neg h, if_neg (by rintro (h2 | h2); omega; exact h h2)]]
  exact this _ _ _ _ _ _ _ _ _ _ _ _ _ _ _ _ _
end Go.Proofs.Ytbjpecknlohicaa.Lg
