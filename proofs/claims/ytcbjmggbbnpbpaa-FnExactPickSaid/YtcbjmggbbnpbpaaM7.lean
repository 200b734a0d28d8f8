/- FnExactPick: whatever it is given, the law returns true, and the arguments read as before. No condition. -/
import Derived.Test.YtcbjmggbbnpbpaaM6
import Derived.Test.YtcbjmggbbnpbpaaRows
namespace Go.Proofs.Ytcbjmggbbnpbpaa.Lg
set_option linter.unusedSimpArgs false
set_option linter.unusedVariables false
set_option maxRecDepth 100000
set_option maxHeartbeats 40000000
open Go.Proofs.Ytcbjmggbbnpbpaa

/-- the number at which the marks of the i-th hit begin -/
def kAt (hs : List Ht) (k0 : Int) : Nat → Int
  | 0 => k0
  | i + 1 => kAt hs k0 i + (5 + 3 * ((hs.getD i ht0).path.length : Int))
theorem kAt_s {hs : List Ht} {k0 : Int} {i : Nat} : kAt hs k0 (i + 1) = kAt hs k0 i + (5 + 3 * ((hs.getD i ht0).path.length : Int)) := rfl
theorem kAt_mono (hs : List Ht) (k0 : Int) : ∀ i j, i ≤ j → kAt hs k0 i + 5 * ((j : Int) - i) ≤ kAt hs k0 j := by
  intro i j h
  induction j with
  | zero => have : i = 0 := by omega
            subst this; omega
  | succ j ih =>
    by_cases e : i = j + 1
    · subst e; omega
    · have := ih (by omega)
      rw [kAt_s]; omega
/-- the cells of a hit with its marks -/
def mkHit (k : Int) (pv : V) (n : Nat) : HC := ⟨k, pv, ⟨k + (1 + (n : Int) * 3), k + (1 + ((n : Int) * 3 + 1)), decide ((k + (1 + ((n : Int) * 3 + 2))).tmod 3 = 0), mText (k + (1 + ((n : Int) * 3 + 3)))⟩⟩
/-- marked hits: those ahead of the j-th -/
structure MkH (f : Nat) (H : LH) (v : V) (cs ds : List HC) (hs : List Ht) (k0 : Int) (j : Nat) : Prop where
  own : Own f H htC 6 v ds
  len : ds.length = hs.length
  pv : ∀ i, i < hs.length → (ds.getD i hc0).pv = (cs.getD i hc0).pv
  done : ∀ i, i < j → ds.getD i hc0 = mkHit (kAt hs k0 i) (cs.getD i hc0).pv (hs.getD i ht0).path.length ∧ Own f H sgC 3 (cs.getD i hc0).pv (marksF mkSeg 3 (hs.getD i ht0).path.length (kAt hs k0 i + 1))
  todo : ∀ i, j ≤ i → i < hs.length → Own f H sgC 3 (cs.getD i hc0).pv (hs.getD i ht0).path
theorem Own.setV2 {α β : Type} {enc : α → List V} {enc' : β → List V} {z z' f : Nat} {H : LH} {u v : V} {xs : List α} {ys : List β} {l : List V} (h : Own f H enc z v xs) (hu : Own f H enc' z' u ys) (hne : ∀ a ∈ Lg.sbk u, ∀ b ∈ Lg.sbk v, a ≠ b) : Own f (Lg.setV H u l) enc z v xs := by
  rcases hu with ⟨_, rfl | rfl⟩ | ⟨b, rfl, k2, k3⟩
  · exact h
  · exact h
  · rcases h with h | ⟨c, rfl, g2, g3⟩
    · exact .inl h
    · exact .inr ⟨c, rfl, by show LH.cellsAt (H.set b _) c = _; rw [cellsAt_set_ne (hne b (by simp [Lg.sbk]) c (by simp [Lg.sbk]))]; exact g2, g3⟩
theorem setV_len {H : LH} {v : V} {l : List V} : (setV H v l).length = H.length := by
  cases v <;> simp [setV]
theorem run_markHitS {f : Nat} {H : LH} {v : V} {cs : List HC} {hs : List Ht} (ho : HOwn f H v cs hs) (fl : Nat) (hf : fl ≤ f) (k0 : Int) (h0 : 0 ≤ k0) (h1 : k0 ≤ 1024) (hn : hs.length ≤ 3001) (hp : ∀ i, i < hs.length → (hs.getD i ht0).path.length ≤ 1048576) :
    Ret (fun r C => r = .int .i64 (kAt hs k0 hs.length) ∧ Wr f H.length H C ∧ ∃ ds, MkH f C v cs ds hs k0 hs.length) (run 15 [v, .int .i64 k0] fl H) := by
  have m1 := fun k (h0 : 0 ≤ k) (h1 : k ≤ 4611686018427387904) fl H => run_markText k h0 h1 fl H
  have hlen := ho.len
  have hkb : ∀ i, i ≤ hs.length → kAt hs k0 i ≤ k0 + 4000000 * (i : Int) := by
    intro i
    induction i with
    | zero => intro _; show k0 ≤ _; omega
    | succ i ih =>
      intro hi
      have := ih (by omega)
      have := hp i (by omega)
      rw [kAt_s]; omega
  have hk0 : ∀ i, k0 ≤ kAt hs k0 i := fun i => by have h := kAt_mono hs k0 0 i (Nat.zero_le _); have h2 : kAt hs k0 0 = k0 := rfl; omega
  have hst0 : MkH f H v cs cs hs k0 0 := ⟨ho.own, hlen, fun _ _ => rfl, fun i h => absurd h (Nat.not_lt_zero _), fun i _ h => (ho.row i h).path⟩
  rcases ho.own with ⟨rfl, hv⟩ | ⟨b, rfl, hb, hb1⟩
  · have hs0 : hs = [] := List.eq_nil_of_length_eq_zero hlen.symm
    subst hs0
    have goal : run 15 [v, .int .i64 k0] fl H = some (.int .i64 k0, H) := by
      unfold run
      rw [Run_z Try.func15 rfl (by rfl : ok 15 = true) (by rfl : cfg.keep 15 = [0, 1, 4, 5, 9]) (by rfl : cfg.mode 15 = .any) (by rfl : cfg.ord 15 = [])]
      rcases hv with rfl | rfl
      · simp (config := {contextual := true, maxSteps := 10000000, implicitDefEqProofs := false}) (disch := first | (and_intros <;> omega -splitDisjunctions) | (simp only [List.length_set, List.length_append, List.length_cons, List.length_nil]; and_intros <;> omega -splitDisjunctions) | fail) only [Try.f15, go_sem, ↓reduceIte, Nat.reduceEqDiff, Nat.reduceAdd, Nat.reduceMul, Nat.reduceLT, Nat.reduceLeDiff, reduceCtorEq, Int.reduceNe, Int.reduceEq, Int.reduceLT, Int.reduceLE, Int.reduceAdd, Int.reduceSub, Int.reduceMul, Int.reduceNeg, Int.reduceToNat, UInt8.reduceToNat, natLit, ty3, ty4, ty9, ty26, ty47, ty72, ty74, ty81]
        rw [zEv_loop]
        simp (config := {contextual := true, maxSteps := 10000000, implicitDefEqProofs := false}) (disch := first | (and_intros <;> omega -splitDisjunctions) | (simp only [List.length_set, List.length_append, List.length_cons, List.length_nil]; and_intros <;> omega -splitDisjunctions) | fail) only [Try.f15, go_sem, ↓reduceIte, Nat.reduceEqDiff, Nat.reduceAdd, Nat.reduceMul, Nat.reduceLT, Nat.reduceLeDiff, reduceCtorEq, Int.reduceNe, Int.reduceEq, Int.reduceLT, Int.reduceLE, Int.reduceAdd, Int.reduceSub, Int.reduceMul, Int.reduceNeg, Int.reduceToNat, UInt8.reduceToNat, natLit, ty3, ty4, ty9, ty26, ty47, ty72, ty74, ty81]
      · simp (config := {contextual := true, maxSteps := 10000000, implicitDefEqProofs := false}) (disch := first | (and_intros <;> omega -splitDisjunctions) | (simp only [List.length_set, List.length_append, List.length_cons, List.length_nil]; and_intros <;> omega -splitDisjunctions) | fail) only [Try.f15, go_sem, ↓reduceIte, Nat.reduceEqDiff, Nat.reduceAdd, Nat.reduceMul, Nat.reduceLT, Nat.reduceLeDiff, reduceCtorEq, Int.reduceNe, Int.reduceEq, Int.reduceLT, Int.reduceLE, Int.reduceAdd, Int.reduceSub, Int.reduceMul, Int.reduceNeg, Int.reduceToNat, UInt8.reduceToNat, natLit, ty3, ty4, ty9, ty26, ty47, ty72, ty74, ty81]
        rw [zEv_loop]
        simp (config := {contextual := true, maxSteps := 10000000, implicitDefEqProofs := false}) (disch := first | (and_intros <;> omega -splitDisjunctions) | (simp only [List.length_set, List.length_append, List.length_cons, List.length_nil]; and_intros <;> omega -splitDisjunctions) | fail) only [Try.f15, go_sem, ↓reduceIte, Nat.reduceEqDiff, Nat.reduceAdd, Nat.reduceMul, Nat.reduceLT, Nat.reduceLeDiff, reduceCtorEq, Int.reduceNe, Int.reduceEq, Int.reduceLT, Int.reduceLE, Int.reduceAdd, Int.reduceSub, Int.reduceMul, Int.reduceNeg, Int.reduceToNat, UInt8.reduceToNat, natLit, ty3, ty4, ty9, ty26, ty47, ty72, ty74, ty81]
    exact ⟨_, _, goal, rfl, Wr.refl H, [], hst0⟩
  have hbH := cellsAt_lt hb
  have hlow : ∀ i, i < hs.length → ∀ a ∈ sbk (cs.getD i hc0).pv, a < b := fun i hi a ha => ho.low i hi a ha b (by simp [sbk])
  unfold run
  rw [Run_z Try.func15 rfl (by rfl : ok 15 = true) (by rfl : cfg.keep 15 = [0, 1, 4, 5, 9]) (by rfl : cfg.mode 15 = .any) (by rfl : cfg.ord 15 = [])]
  simp (config := {contextual := true, maxSteps := 10000000, implicitDefEqProofs := false}) (disch := first | (and_intros <;> omega -splitDisjunctions) | (simp only [List.length_set, List.length_append, List.length_cons, List.length_nil]; and_intros <;> omega -splitDisjunctions) | fail) only [Try.f15, go_sem, ↓reduceIte, Nat.reduceEqDiff, Nat.reduceAdd, Nat.reduceMul, Nat.reduceLT, Nat.reduceLeDiff, reduceCtorEq, Int.reduceNe, Int.reduceEq, Int.reduceLT, Int.reduceLE, Int.reduceAdd, Int.reduceSub, Int.reduceMul, Int.reduceNeg, Int.reduceToNat, UInt8.reduceToNat, natLit, ty3, ty4, ty9, ty26, ty47, ty72, ty74, ty81]
  refine at_loopR fun c R hc hR => ?_
  have key : ∀ (m : Nat) (j : Nat) (jj : Int) (k : Int) (B : LH) (ds : List HC) (x4 x9 : Option V), hs.length - j < m → jj = j → j ≤ hs.length → k = kAt hs k0 j → Wr f H.length H B → MkH f B (.sl b 0 6 cs.length cs.length) cs ds hs k0 j → B.cellsAt b = some (rows htC ds) →
      Ret (fun r C => r = .int .i64 (kAt hs k0 hs.length) ∧ Wr f H.length H C ∧ ∃ ds, MkH f C (.sl b 0 6 cs.length cs.length) cs ds hs k0 hs.length) (zEv (leaveX (mkR Try.prog cfg ok [0, 1, 4, 5, 9] fl) .any H [ResultVar.tmp 4]) (mkR Try.prog cfg ok [0, 1, 4, 5, 9] fl) (K.code (Code.loop c) :: K.blk 0 :: R) .nrm [some (.sl b 0 6 cs.length cs.length), some (.int .i64 k), x4, some (.int .i64 jj), x9] (B)) := by
    intro m
    induction m with
    | zero => intro j jj k B ds x4 x9 hm; omega
    | succ m ih =>
      intro j jj k B ds x4 x9 hm hj hle hk hw hM hc2
      subst hj
      by_cases hlt : j < hs.length
      rotate_left
      · have t1 : ((j : Int) < cs.length) = False := eq_false (by omega)
        have hjl : j = hs.length := by omega
        rw [zEv_round hc, ← hR]
        simp (config := {contextual := true, maxSteps := 10000000, implicitDefEqProofs := false}) (disch := first | (and_intros <;> omega -splitDisjunctions) | (simp only [List.length_set, List.length_append, List.length_cons, List.length_nil]; and_intros <;> omega -splitDisjunctions) | fail) only [t1, Try.f15, go_sem, ↓reduceIte, Nat.reduceEqDiff, Nat.reduceAdd, Nat.reduceMul, Nat.reduceLT, Nat.reduceLeDiff, reduceCtorEq, Int.reduceNe, Int.reduceEq, Int.reduceLT, Int.reduceLE, Int.reduceAdd, Int.reduceSub, Int.reduceMul, Int.reduceNeg, Int.reduceToNat, UInt8.reduceToNat, natLit, ty3, ty4, ty9, ty26, ty47, ty72, ty74, ty81]
        subst hjl
        exact ⟨by rw [hk], hw, ds, hM⟩
      have t1 : ((j : Int) < cs.length) = True := eq_true (by omega)
      have hpj := hp j hlt
      have hkj := hkb j hle
      have hkj0 := hk0 j
      have hks := kAt_s (hs := hs) (k0 := k0) (i := j)
      have hbB := cellsAt_lt hc2
      have hwl := hw.len
      have g1 : (rows htC ds).length = cs.length * 6 := by rw [rows_len htC_len, hM.len, hlen]
      have hjd : j < ds.length := by have := hM.len; omega
      have hd := hM.pv j hlt
      have hto := hM.todo j (Nat.le_refl _) hlt
      generalize hpv : (cs.getD j hc0).pv = u at *
      generalize hpl : (hs.getD j ht0).path = path at *
      -- the number of the hit
      have g2 : putAt (rows htC ds) (j * 6) [.int .i64 k] = rows htC (ds.set j ⟨k, u, (ds.getD j hc0).val⟩) := by
        have := rows_putD (enc := htC) (j := 0) (xs := ds) htC_len hc0 j hjd (ws := [.int .i64 k]) (by simp) ⟨k, u, (ds.getD j hc0).val⟩ (by rw [← hd]; rfl)
        simpa using this
      simp only [putAt] at g2
      have hto2 : Own f (B.set b (.cells (rows htC (ds.set j ⟨k, u, (ds.getD j hc0).val⟩)))) sgC 3 u path := by
        rcases hto with h | ⟨c, h, q2, q3⟩
        · exact .inl h
        · have hcb : c < b := hlow j hlt c (by rw [hpv, h]; simp [sbk])
          exact .inr ⟨c, h, by rw [cellsAt_set_ne (by omega)]; exact q2, q3⟩
      have e2 := run_markSegO u path (k + 1) fl (B.set b (.cells (rows htC (ds.set j ⟨k, u, (ds.getD j hc0).val⟩)))) hto2 hf (by omega) (by omega) (by omega)
      have u1 := (hto2.at sgC_len).isTup; have u2 := (hto2.at sgC_len).one
      have hc3 : LH.cellsAt (setV (B.set b (.cells (rows htC (ds.set j ⟨k, u, (ds.getD j hc0).val⟩)))) u (rows sgC (marksF mkSeg 3 path.length (k + 1)))) b = some (rows htC (ds.set j ⟨k, u, (ds.getD j hc0).val⟩)) := by
        rcases hto2 with ⟨_, h | h⟩ | ⟨c, h, q2, q3⟩
        · rw [h]; exact cellsAt_set hbB
        · rw [h]; exact cellsAt_set hbB
        · have hcb : c < b := hlow j hlt c (by rw [hpv, h]; simp [sbk])
          rw [h]
          show LH.cellsAt (List.set _ c _) b = _
          rw [cellsAt_set_ne (by omega)]; exact cellsAt_set hbB
      have hw3 : Wr f H.length B (setV (B.set b (.cells (rows htC (ds.set j ⟨k, u, (ds.getD j hc0).val⟩)))) u (rows sgC (marksF mkSeg 3 path.length (k + 1)))) :=
        (Wr.set hb1 hbH).trans (Wr.setV hto2 (Nat.le_refl _) (fun c hc => by have := hlow j hlt c (by rw [hpv]; exact hc); omega))
      have ow3 := hto2.setV (ys := marksF mkSeg 3 path.length (k + 1)) (by rw [marksF_len])
      have others : ∀ i (xs : List Sg), i ≠ j → i < hs.length → Own f B sgC 3 (cs.getD i hc0).pv xs → Own f (setV (B.set b (.cells (rows htC (ds.set j ⟨k, u, (ds.getD j hc0).val⟩)))) u (rows sgC (marksF mkSeg 3 path.length (k + 1)))) sgC 3 (cs.getD i hc0).pv xs := by
        intro i xs hij hi ho2
        have h1 : Own f (B.set b (.cells (rows htC (ds.set j ⟨k, u, (ds.getD j hc0).val⟩)))) sgC 3 (cs.getD i hc0).pv xs := by
          rcases ho2 with h | ⟨c, h, q2, q3⟩
          · exact .inl h
          · have hcb : c < b := hlow i hi c (by rw [h]; simp [sbk])
            exact .inr ⟨c, h, by rw [cellsAt_set_ne (by omega)]; exact q2, q3⟩
        refine h1.setV2 hto2 (fun a ha c hc => ?_)
        rcases Nat.lt_or_gt_of_ne hij with h | h
        · have := ho.apart i j h hlt c hc a (by rw [hpv]; exact ha); omega
        · have := ho.apart j i h hi a (by rw [hpv]; exact ha) c hc; omega
      generalize setV (B.set b (.cells (rows htC (ds.set j ⟨k, u, (ds.getD j hc0).val⟩)))) u (rows sgC (marksF mkSeg 3 path.length (k + 1))) = C at *
      have hbC := cellsAt_lt hc3
      have q1 : (rows htC (ds.set j ⟨k, u, (ds.getD j hc0).val⟩))[j * 6 + 1]? = some u := by
        have := rows_cell (enc := htC) (xs := ds.set j ⟨k, u, (ds.getD j hc0).val⟩) htC_len (i := j) (j := 1) (by simpa using hjd) (by decide)
        rw [this]; simp [htC]
      have q1' : ∀ n K, cellO K false (j * 6 + 1) n (some (rows htC (ds.set j ⟨k, u, (ds.getD j hc0).val⟩))) = some (u, K) := fun n K => by simp only [cellO, q1]
      have g1' : (rows htC (ds.set j ⟨k, u, (ds.getD j hc0).val⟩)).length = cs.length * 6 := by rw [rows_len htC_len, List.length_set, hM.len, hlen]
      have g3 : putAt (rows htC (ds.set j ⟨k, u, (ds.getD j hc0).val⟩)) (j * 6 + 2) [.int .i64 (k + (1 + (path.length : Int) * 3)), .int .i64 (k + (1 + ((path.length : Int) * 3 + 1))), .bool (decide ((k + (1 + ((path.length : Int) * 3 + 2))).tmod 3 = 0)), .str (mText (k + (1 + ((path.length : Int) * 3 + 3))))] = rows htC (ds.set j (mkHit k u path.length)) := by
        have := rows_putD (enc := htC) (j := 2) (xs := ds.set j ⟨k, u, (ds.getD j hc0).val⟩) htC_len hc0 j (by simpa using hjd) (ws := [.int .i64 (k + (1 + (path.length : Int) * 3)), .int .i64 (k + (1 + ((path.length : Int) * 3 + 1))), .bool (decide ((k + (1 + ((path.length : Int) * 3 + 2))).tmod 3 = 0)), .str (mText (k + (1 + ((path.length : Int) * 3 + 3))))]) (by simp) (mkHit k u path.length) (by
          rw [List.getD_eq_getElem?_getD, List.getElem?_set_self hjd]; rfl)
        rw [List.set_set] at this
        exact this
      simp only [putAt] at g3
      unfold run at e2 m1
      rw [zEv_round hc]
      simp (config := {contextual := true, maxSteps := 10000000, implicitDefEqProofs := false}) (disch := first | (and_intros <;> omega -splitDisjunctions) | (simp only [List.length_set, List.length_append, List.length_cons, List.length_nil]; and_intros <;> omega -splitDisjunctions) | fail) only [t1, m1, cellsAt_set, hc2, hc3, hb1, hf, g1, g1', g2, g3, q1', u1, u2, e2, Int.add_assoc, Nat.add_assoc, List.length_set, List.set_set, Try.f15, go_sem, ↓reduceIte, Nat.reduceEqDiff, Nat.reduceAdd, Nat.reduceMul, Nat.reduceLT, Nat.reduceLeDiff, reduceCtorEq, Int.reduceNe, Int.reduceEq, Int.reduceLT, Int.reduceLE, Int.reduceAdd, Int.reduceSub, Int.reduceMul, Int.reduceNeg, Int.reduceToNat, UInt8.reduceToNat, natLit, ty3, ty4, ty9, ty26, ty47, ty72, ty74, ty81]
      have hkk : k + (1 + ((path.length : Int) * 3 + 4)) = kAt hs k0 (j + 1) := by rw [hks, hk]; omega
      have hlds : (ds.set j (mkHit k u path.length)).length = hs.length := by rw [List.length_set]; exact hM.len
      have c5 : LH.cellsAt (List.set C b (Blk.cells (rows htC (ds.set j (mkHit k u path.length))))) b = some (rows htC (ds.set j (mkHit k u path.length))) := cellsAt_set hbC
      have getJ : (ds.set j (mkHit k u path.length)).getD j hc0 = mkHit k u path.length := by rw [List.getD_eq_getElem?_getD, List.getElem?_set_self hjd]; rfl
      have getN : ∀ i, i ≠ j → (ds.set j (mkHit k u path.length)).getD i hc0 = ds.getD i hc0 := fun i h => by
        rw [List.getD_eq_getElem?_getD, List.getElem?_set_ne (fun e => h e.symm), ← List.getD_eq_getElem?_getD]
      have oC : ∀ {c : V} {xs : List Sg}, (∀ a ∈ sbk c, a < b) → Own f C sgC 3 c xs → Own f (List.set C b (Blk.cells (rows htC (ds.set j (mkHit k u path.length))))) sgC 3 c xs := by
        intro c xs hlt2 ho2
        rcases ho2 with h | ⟨e, h, q2, q3⟩
        · exact .inl h
        · have heb : e < b := hlt2 e (by rw [h]; simp [sbk])
          exact .inr ⟨e, h, by rw [cellsAt_set_ne (by omega)]; exact q2, q3⟩
      have hdl : cs.length = (ds.set j (mkHit k u path.length)).length := by omega
      refine ih (j + 1) ((j : Int) + 1) _ _ (ds.set j (mkHit k u path.length)) _ _ (by omega) (by omega) (by omega) hkk ((hw.trans hw3).trans (Wr.set hb1 hbH)) ⟨.inr ⟨b, by rw [hdl], c5, hb1⟩, hlds, fun i hi => ?_, fun i hi => ?_, fun i hi hi2 => ?_⟩ c5
      · by_cases hij : i = j
        · subst hij; rw [getJ, hpv]; rfl
        · rw [getN i hij]; exact hM.pv i hi
      · by_cases hij : i = j
        · subst hij
          rw [getJ, hpv, hpl, ← hk]
          exact ⟨rfl, oC (fun a ha => hlow i hlt a (by rw [hpv]; exact ha)) ow3⟩
        · rw [getN i hij]
          have hi3 : i < hs.length := by omega
          obtain ⟨d1, d2⟩ := hM.done i (by omega)
          exact ⟨d1, oC (hlow i hi3) (others i _ hij hi3 d2)⟩
      · have hij : i ≠ j := by omega
        exact oC (hlow i hi2) (others i _ hij hi2 (hM.todo i (by omega) hi2))
  exact key (hs.length + 1) 0 0 k0 H cs _ _ (by omega) rfl (Nat.zero_le _) rfl (Wr.refl H) hst0 hb
end Go.Proofs.Ytcbjmggbbnpbpaa.Lg
namespace Go.Proofs.Ytcbjmggbbnpbpaa.Lg
set_option linter.unusedSimpArgs false
set_option linter.unusedVariables false
set_option maxRecDepth 100000
set_option maxHeartbeats 40000000
open Go.Proofs.Ytcbjmggbbnpbpaa

theorem MkH.ext {f : Nat} {A B : LH} {v : V} {cs ds : List HC} {hs : List Ht} {k0 : Int} {j : Nat} (h : MkH f A v cs ds hs k0 j) (e : Hx A B) : MkH f B v cs ds hs k0 j :=
  ⟨h.own.ext e, h.len, h.pv, fun i hi => ⟨(h.done i hi).1, (h.done i hi).2.ext e⟩, fun i h1 h2 => (h.todo i h1 h2).ext e⟩
theorem run_heldHitS {f : Nat} {H : LH} {v : V} {cs ds : List HC} {hs : List Ht} {k0 : Int} (hM : MkH f H v cs ds hs k0 hs.length) (fl : Nat) (h0 : 0 ≤ k0) (h1 : k0 ≤ 1024) (hn : hs.length ≤ 3001) (hp : ∀ i, i < hs.length → (hs.getD i ht0).path.length ≤ 1048576) :
    run 16 [v, .int .i64 k0] fl H = some (.int .i64 (kAt hs k0 hs.length), H) := by
  have m1 := fun k (h0 : 0 ≤ k) (h1 : k ≤ 4611686018427387904) fl H => run_markText k h0 h1 fl H
  have hA := hM.own.at htC_len
  have hlen := hM.len
  have hkb : ∀ i, i ≤ hs.length → kAt hs k0 i ≤ k0 + 4000000 * (i : Int) := by
    intro i
    induction i with
    | zero => intro _; show k0 ≤ _; omega
    | succ i ih =>
      intro hi
      have := ih (by omega)
      have := hp i (by omega)
      rw [kAt_s]; omega
  have hk0 : ∀ i, k0 ≤ kAt hs k0 i := fun i => by have h := kAt_mono hs k0 0 i (Nat.zero_le _); have h2 : kAt hs k0 0 = k0 := rfl; omega
  have f1 := hA.isTup; have f2 := hA.len; have f3 := hA.lenOk ty26; have f0 := hA.one
  have f4 := fun hp => hA.con hp
  have f5 := hA.idx (T := ty Try.prog) (t := 26) (by simp only [elemI, sizeO, ty3, ty4, ty9, ty26, ty47, ty72, ty74, ty81])
  have f6 := hA.loadD htC_len hc0
  have q0 := hA.loadD0 htC_len hc0 (fun e => .int .i64 e.doc) (fun _ => rfl)
  have q1 := hA.loadDF htC_len hc0 (fun e => e.pv) (j := 1) (fun _ => rfl)
  have q2 := hA.loadDF htC_len hc0 (fun e => .int .i64 e.val.kind) (j := 2) (fun _ => rfl)
  have q3 := hA.loadDF htC_len hc0 (fun e => .int .i64 e.val.n) (j := 3) (fun _ => rfl)
  have q4 := hA.loadDF htC_len hc0 (fun e => .bool e.val.b) (j := 4) (fun _ => rfl)
  have q5 := hA.loadDF htC_len hc0 (fun e => .str e.val.s) (j := 5) (fun _ => rfl)
  unfold run
  rw [Run_z Try.func16 rfl (by rfl : ok 16 = true) (by rfl : cfg.keep 16 = [0, 1, 4, 5, 9, 18, 29, 37, 47, 59, 70]) (by rfl : cfg.mode 16 = .pure) (by rfl : cfg.ord 16 = [])]
  simp (config := {contextual := true, maxSteps := 10000000, implicitDefEqProofs := false}) (disch := first | (and_intros <;> omega -splitDisjunctions) | (simp only [List.length_set, List.length_append, List.length_cons, List.length_nil]; and_intros <;> omega -splitDisjunctions) | fail) only [f1, Try.f16, go_sem, ↓reduceIte, Nat.reduceEqDiff, Nat.reduceAdd, Nat.reduceMul, Nat.reduceLT, Nat.reduceLeDiff, reduceCtorEq, Int.reduceNe, Int.reduceEq, Int.reduceLT, Int.reduceLE, Int.reduceAdd, Int.reduceSub, Int.reduceMul, Int.reduceNeg, Int.reduceToNat, UInt8.reduceToNat, natLit, ty3, ty4, ty9, ty26, ty47, ty72, ty74, ty81]
  refine at_loopE fun c R hc hR => ?_
  have key : ∀ (m : Nat) (j : Nat) (jj k : Int) (x4 x9 x18 x29 x37 x47 x59 x70 : Option V), hs.length - j < m → jj = j → j ≤ hs.length → k = kAt hs k0 j →
      zEv (leaveX (mkR Try.prog cfg ok [0, 1, 4, 5, 9, 18, 29, 37, 47, 59, 70] H.length) .pure H [ResultVar.tmp 4]) (mkR Try.prog cfg ok [0, 1, 4, 5, 9, 18, 29, 37, 47, 59, 70] H.length) (K.code (Code.loop c) :: K.blk 0 :: R) .nrm [some v, some (.int .i64 k), x4, some (.int .i64 jj), x9, x18, x29, x37, x47, x59, x70] (H) = some (.int .i64 (kAt hs k0 hs.length), H) := by
    intro m
    induction m with
    | zero => intro j jj k x4 x9 x18 x29 x37 x47 x59 x70 hm; omega
    | succ m ih =>
      intro j jj k x4 x9 x18 x29 x37 x47 x59 x70 hm hj hle hk
      subst hj
      by_cases hlt : j < hs.length
      rotate_left
      · have t1 : ((j : Int) < ds.length) = False := eq_false (by omega)
        have hjl : j = hs.length := by omega
        subst hjl
        rw [zEv_round hc, ← hR]
        simp (config := {contextual := true, maxSteps := 10000000, implicitDefEqProofs := false}) (disch := first | (and_intros <;> omega -splitDisjunctions) | (simp only [List.length_set, List.length_append, List.length_cons, List.length_nil]; and_intros <;> omega -splitDisjunctions) | fail) only [f0, f1, f2, f3, f4, f5, f6, t1, hk, Try.f16, go_sem, ↓reduceIte, Nat.reduceEqDiff, Nat.reduceAdd, Nat.reduceMul, Nat.reduceLT, Nat.reduceLeDiff, reduceCtorEq, Int.reduceNe, Int.reduceEq, Int.reduceLT, Int.reduceLE, Int.reduceAdd, Int.reduceSub, Int.reduceMul, Int.reduceNeg, Int.reduceToNat, UInt8.reduceToNat, natLit, ty3, ty4, ty9, ty26, ty47, ty72, ty74, ty81]
      have t1 : ((j : Int) < ds.length) = True := eq_true (by omega)
      have hpj := hp j hlt
      have hkj := hkb j hle
      have hkj0 := hk0 j
      have hks := kAt_s (hs := hs) (k0 := k0) (i := j)
      obtain ⟨d1, d2⟩ := hM.done j hlt
      have hjd : j < ds.length := by omega
      have q0 := fun n K => q0 j hjd n K
      have q1 := fun n K => q1 j hjd n K
      have q2 := fun n K => q2 j hjd n K
      have q3 := fun n K => q3 j hjd n K
      have q4 := fun n K => q4 j hjd n K
      have q5 := fun n K => q5 j hjd n K
      rw [d1] at q0 q1 q2 q3 q4 q5
      simp only [mkHit] at q0 q1 q2 q3 q4 q5
      have f4 := f4 (by omega)
      rw [← hk] at q0 q2 q3 q4 q5 d2
      generalize (cs.getD j hc0).pv = u at *
      generalize (hs.getD j ht0).path = path at *
      have e2 := run_heldSegS u path.length (k + 1) fl H (d2.at sgC_len) (by omega) (by omega) (by omega)
      have u1 := (d2.at sgC_len).isTup; have u2 := (d2.at sgC_len).one
      have e2 := fun fl => run_heldSegS u path.length (k + 1) fl H (d2.at sgC_len) (by omega) (by omega) (by omega)
      have t2 : (k + 1 + (path.length : Int) * 3 < 0) = False := eq_false (by omega)
      have t3 : (k + (1 + (path.length : Int) * 3) < 0) = False := eq_false (by omega)
      unfold run at e2 m1
      rw [zEv_round hc]
      simp (config := {contextual := true, maxSteps := 10000000, implicitDefEqProofs := false}) (disch := first | (and_intros <;> omega -splitDisjunctions) | (simp only [List.length_set, List.length_append, List.length_cons, List.length_nil]; and_intros <;> omega -splitDisjunctions) | fail) only [f0, f1, f2, f3, f4, f5, f6, t1, t2, t3, m1, q0, q1, q2, q3, q4, q5, u1, u2, e2, Int.add_assoc, Try.f16, go_sem, ↓reduceIte, Nat.reduceEqDiff, Nat.reduceAdd, Nat.reduceMul, Nat.reduceLT, Nat.reduceLeDiff, reduceCtorEq, Int.reduceNe, Int.reduceEq, Int.reduceLT, Int.reduceLE, Int.reduceAdd, Int.reduceSub, Int.reduceMul, Int.reduceNeg, Int.reduceToNat, UInt8.reduceToNat, natLit, ty3, ty4, ty9, ty26, ty47, ty72, ty74, ty81]
      exact ih (j + 1) ((j : Int) + 1) _ _ _ _ _ _ _ _ _ (by omega) (by omega) (by omega) (by rw [hks, ← hk]; omega)
  exact key (hs.length + 1) 0 0 k0 _ _ _ _ _ _ _ _ (by omega) rfl (Nat.zero_le _) rfl
end Go.Proofs.Ytcbjmggbbnpbpaa.Lg
namespace Go.Proofs.Ytcbjmggbbnpbpaa.Lg
set_option linter.unusedSimpArgs false
set_option linter.unusedVariables false
set_option maxRecDepth 100000
set_option maxHeartbeats 40000000
open Go.Proofs.Ytcbjmggbbnpbpaa

theorem Hx.set_in {A B : LH} (h : Hx A B) {b : Nat} {x : Blk} (hb : b < A.length) : Hx (A.set b x) (B.set b x) := by
  obtain ⟨L, rfl⟩ := h
  exact ⟨L, List.set_append_left _ _ hb⟩
theorem sumZ_m {α : Type} {w : α → Int} (h : ∀ x, 0 ≤ w x) : ∀ {xs : List α} {x : α}, x ∈ xs → w x ≤ sumZ w xs
  | y :: ys, x, hx => by
    rw [sumZ_cons]
    have h1 := h y
    have h2 := sumZ_nonneg h ys
    rcases List.mem_cons.1 hx with rfl | hx
    · omega
    · have := sumZ_m h hx; omega
theorem sumZ_l {α : Type} {w u : α → Int} (h : ∀ x, w x ≤ 3 * u x) : ∀ xs : List α, sumZ w xs ≤ 3 * sumZ u xs
  | [] => Int.le_refl _
  | x :: xs => by
    rw [sumZ_cons, sumZ_cons]
    have := h x
    have := sumZ_l h xs
    omega
theorem evCW0 (x : Ev) : 0 ≤ evCW x := by unfold evCW; omega
theorem POwn.pat {f : Nat} {H : LH} {w : V} {pv : List V} {ps : List (List Sg)} (h : POwn f H w pv ps) (h1 : ps.length ≤ 1048576) (h2 : ∀ p ∈ ps, p.length ≤ 1048576) : PAt H w pv ps :=
  ⟨h.own.at pC_len, h.len, fun k hk => (h.row k hk).at sgC_len, h1, fun k hk => by rw [getD_of hk]; exact h2 _ (List.getElem_mem _)⟩
theorem POwn.setNe {f : Nat} {H : LH} {w : V} {pv : List V} {ps : List (List Sg)} (h : POwn f H w pv ps) {b : Nat} {x : Blk} (hb : b < f) : POwn f (H.set b x) w pv ps :=
  ⟨h.own.setNe hb, h.len, fun k hk => (h.row k hk).setNe (by omega)⟩
theorem HOwn.setNe {f : Nat} {H : LH} {v : V} {cs : List HC} {hs : List Ht} (h : HOwn f H v cs hs) {b : Nat} {x : Blk} (hb : b < f) : HOwn f (H.set b x) v cs hs :=
  ⟨h.own.setNe hb, h.len, fun i hi => ⟨(h.row i hi).doc, (h.row i hi).val, (h.row i hi).path.setNe hb⟩, h.apart, h.low⟩
theorem HOwn.ext {f : Nat} {A B : LH} {v : V} {cs : List HC} {hs : List Ht} (h : HOwn f A v cs hs) (e : Hx A B) : HOwn f B v cs hs :=
  ⟨h.own.ext e, h.len, fun i hi => ⟨(h.row i hi).doc, (h.row i hi).val, (h.row i hi).path.ext e⟩, h.apart, h.low⟩
theorem run_FnExactPick (v w : V) (es : List Ev) (pv : List V) (ps : List (List Sg)) (fl : Nat) (H : LH) (h : At H evC 8 v es) (hl : es.length ≤ 9223372036854775807) (hf : ∀ x ∈ es, evCFit x)
    (hw : At H pC 1 w pv) (hwl : pv.length = ps.length) (hwr : ∀ i, i < ps.length → At H sgC 3 (pv.getD i .nilsl) (ps.getD i [])) (hpl : ps.length ≤ 9223372036854775807) (hpf : ∀ x ∈ ps, paFit x) :
    run 3 [v, w] fl H = some (.bool true, H) := by
  have f1 := h.isTup; have f2 := hw.isTup
  have e0 := run_szEventS v es 1048576 H.length H h (by decide) (by decide) hl hf
  by_cases hs : (1048576 : Int) < es.length + sumZ evCW es
  · unfold run at *
    rw [if_pos hs] at e0
    rw [Run_z Try.func3 rfl (by rfl : ok 3 = true) (by rfl : cfg.keep 3 = [0, 1, 4, 5, 6, 7, 8, 9, 10, 11, 12, 13, 14, 15, 16, 21, 26, 53, 58, 63, 82, 90, 93, 110, 115, 118]) (by rfl : cfg.mode 3 = .pure) (by rfl : cfg.ord 3 = [])]
    simp (config := {contextual := true, maxSteps := 10000000, implicitDefEqProofs := false}) (disch := first | (and_intros <;> omega -splitDisjunctions) | (simp only [List.length_set, List.length_append, List.length_cons, List.length_nil]; and_intros <;> omega -splitDisjunctions) | fail) only [e0, f1, f2, Try.f3, go_sem, ↓reduceIte, Nat.reduceEqDiff, Nat.reduceAdd, Nat.reduceMul, Nat.reduceLT, Nat.reduceLeDiff, reduceCtorEq, Int.reduceNe, Int.reduceEq, Int.reduceLT, Int.reduceLE, Int.reduceAdd, Int.reduceSub, Int.reduceMul, Int.reduceNeg, Int.reduceToNat, UInt8.reduceToNat, natLit, ty3, ty4]
  rw [if_neg hs] at e0
  have w0 := sumZ_nonneg evCW0 es
  have w1 := sumZ_nonneg paW0 ps
  have hb : ¬ (1048576 : Int) - (es.length + sumZ evCW es) < 0 := by omega
  have e00 := run_szPatternS w pv ps (1048576 - (es.length + sumZ evCW es)) H.length H hw hwl hwr (by omega) (by omega) hpl hpf
  by_cases hs2 : (1048576 : Int) - (es.length + sumZ evCW es) < ps.length + sumZ paW ps
  · unfold run at *
    rw [if_pos hs2] at e00
    rw [Run_z Try.func3 rfl (by rfl : ok 3 = true) (by rfl : cfg.keep 3 = [0, 1, 4, 5, 6, 7, 8, 9, 10, 11, 12, 13, 14, 15, 16, 21, 26, 53, 58, 63, 82, 90, 93, 110, 115, 118]) (by rfl : cfg.mode 3 = .pure) (by rfl : cfg.ord 3 = [])]
    simp (config := {contextual := true, maxSteps := 10000000, implicitDefEqProofs := false}) (disch := first | (and_intros <;> omega -splitDisjunctions) | (simp only [List.length_set, List.length_append, List.length_cons, List.length_nil]; and_intros <;> omega -splitDisjunctions) | fail) only [e0, e00, hb, f1, f2, Try.f3, go_sem, ↓reduceIte, Nat.reduceEqDiff, Nat.reduceAdd, Nat.reduceMul, Nat.reduceLT, Nat.reduceLeDiff, reduceCtorEq, Int.reduceNe, Int.reduceEq, Int.reduceLT, Int.reduceLE, Int.reduceAdd, Int.reduceSub, Int.reduceMul, Int.reduceNeg, Int.reduceToNat, UInt8.reduceToNat, natLit, ty3, ty4]
  rw [if_neg hs2] at e00
  have hb2 : ¬ (1048576 : Int) - (es.length + sumZ evCW es) - (ps.length + sumZ paW ps) < 0 := by omega
  have hx : es.length ≤ 1048576 := by omega
  have hpx : ps.length ≤ 1048576 := by omega
  have hsh : ∀ e ∈ es, e.text.size ≤ 1099511627776 := fun e he => by
    have := sumZ_m evCW0 he
    have h2 : (e.text.size : Int) ≤ evCW e := by unfold evCW; omega
    omega
  have hkp : ∀ p ∈ ps, p.length ≤ 1048576 := fun p hp => by
    have := sumZ_m paW0 hp
    have h2 : (p.length : Int) ≤ paW p := by have := sumZ_nonneg sgCW0 p; unfold paW; omega
    omega
  have hl3 : sumZ l3 ps ≤ 3 * sumZ paW ps := sumZ_l (fun p => by have := sumZ_nonneg sgCW0 p; unfold l3 paW; omega) ps
  obtain ⟨hfew, hfp⟩ := pickM_few es ps
  have hfp1 : ∀ n ∈ (pickM es ps).1, n.path.length ≤ 1099511627776 := fun n hn => by have := hfp n hn; omega
  have hfp2 : ∀ i, i < (pickM es ps).1.length → ((pickM es ps).1.getD i ht0).path.length ≤ 1048576 := fun i hi => by
    have := hfp _ (List.getElem_mem hi)
    rw [getD_of hi]; omega
  generalize hhits : (pickM es ps).1 = hits at *
  generalize hcode : (pickM es ps).2 = code at *
  have cap : ∀ b n, capOk (.sl b 0 8 n n) := fun b n => Nat.le_refl n
  -- the reference
  have e1 := run_toEventS v es H.length H h hx
  obtain ⟨p1, H1, e2, x1, pv1, o1⟩ := run_toPatternS w pv ps H.length (H ++ [.cells (rows evC es)]) hw.left hwl (fun i hi => (hwr i hi).left) hpx hkp
  have a1 : At H1 evC 8 (.sl H.length 0 8 es.length es.length) es := (At.new evC_len).ext x1
  obtain ⟨_, H2, e3, g1, cs1, rfl, x2, u1⟩ := run_spPick a1 (o1.pat hpx hkp) hx hf hsh H.length
  rw [hhits] at u1
  have y1 : Hx H H1 := Hx.app.trans x1
  have y2 : Hx H H2 := y1.trans x2
  have l1 := y1.len; have l2 := x2.len
  -- the program
  have e4 := run_toEventS v es H.length H2 (h.ext y2) hx
  obtain ⟨p2, H3, e5, x3, pv2, o2⟩ := run_toPatternS w pv ps H.length (H2 ++ [.cells (rows evC es)]) ((hw.ext y2).left) hwl (fun i hi => ((hwr i hi).ext y2).left) hpx hkp
  have a2 : At H3 evC 8 (.sl H2.length 0 8 es.length es.length) es := (At.new evC_len).ext x3
  obtain ⟨_, H4, e6, g2, cs2, rfl, x4, u2⟩ := run_imPick a2 (cap _ _) (o2.pat hpx hkp) hx hf hsh H.length
  rw [hhits] at u2
  have y3 : Hx H2 H3 := Hx.app.trans x3
  have l3' := x3.len
  rw [List.length_append] at l3' o2
  simp only [List.length_cons, List.length_nil, Nat.zero_add] at l3' o2
  have l4 := x4.len
  have y4 : Hx H2 H4 := y3.trans x4
  have e7 := run_eqHitS g2 g1 cs2 cs1 hits hits H.length H4 u2.hat (u1.hat.ext y4) (by omega) (by omega) hfp1 hfp1
  have e8 := run_toEventS v es H.length H4 (h.ext (y2.trans y4)) hx
  have e9 := run_eqEventS (.sl H2.length 0 8 es.length es.length) (.sl H4.length 0 8 es.length es.length) es es H.length (H4 ++ [.cells (rows evC es)]) ((a2.ext x4).left) (At.new evC_len) (by omega) (by omega)
  obtain ⟨p3, H5, e10, x5, pv3, o3⟩ := run_toPatternS w pv ps H.length (H4 ++ [.cells (rows evC es)]) ((hw.ext (y2.trans y4)).left) hwl (fun i hi => ((hwr i hi).ext (y2.trans y4)).left) hpx hkp
  have y5 : Hx H4 H5 := Hx.app.trans x5
  have l5 := y5.len
  have e11 := run_eqPatternS p2 p3 pv2 pv3 ps ps H.length H5 ((o2.pat hpx hkp).ext (x4.trans y5)) (o3.pat hpx hkp) (by omega) (by omega)
  -- marks upon what the program was given
  have c12 : LH.cellsAt H5 H2.length = some (rows evC es) := (x3.trans (x4.trans y5)).cells (by rw [cellsAt_app0]; rfl)
  have e12 := run_markEventS H2.length es 1 H.length H5 c12 (by omega) (by decide) (by decide) (by omega)
  have hbl : H2.length < H3.length := by omega
  have x6 : Hx (H3.set H2.length (.cells (rows evC (marksF mkEvent 8 es.length 1)))) (H5.set H2.length (.cells (rows evC (marksF mkEvent 8 es.length 1)))) := (x4.trans y5).set_in hbl
  have o2' := o2.setNe (b := H2.length) (x := .cells (rows evC (marksF mkEvent 8 es.length 1))) (by omega)
  have u3 : HOwn H3.length (H5.set H2.length (.cells (rows evC (marksF mkEvent 8 es.length 1)))) g2 cs2 hits := (u2.ext y5).setNe hbl
  have x62 : Hx H2 (H5.set H2.length (.cells (rows evC (marksF mkEvent 8 es.length 1)))) := (y4.trans y5).set (Nat.le_refl _)
  have l6 : (H5.set H2.length (.cells (rows evC (marksF mkEvent 8 es.length 1)))).length = H5.length := by simp
  generalize H5.set H2.length (.cells (rows evC (marksF mkEvent 8 es.length 1))) = H6 at *
  obtain ⟨_, H7, e13, k, rfl, k0, w7⟩ := run_markPatternS o2' x6 H.length (by omega) (1 + es.length * 8) (by omega) (by omega) hpx
  rw [List.length_set] at w7
  have u4 := w7.hown u3 (Nat.le_refl _)
  have x72 : Hx H2 H7 := w7.hx x62 (by omega)
  have l7 := w7.len
  have e14 := run_eqHitS g2 g1 cs2 cs1 hits hits H.length H7 u4.hat (u1.hat.ext x72) (by omega) (by omega) hfp1 hfp1
  obtain ⟨_, H8, e15, rfl, w8, ds, m8⟩ := run_markHitS u4 H.length (by omega) 1 (by decide) (by decide) (by omega) hfp2
  have e16 := run_heldHitS m8 H.length (by decide) (by decide) (by omega) hfp2
  have x82 : Hx H2 H8 := w8.hx x72 (by omega)
  have l8 := w8.len
  have e17 := run_toEventS v es H.length H8 (h.ext (y2.trans x82)) hx
  obtain ⟨p4, H9, e18, x9, pv4, o4⟩ := run_toPatternS w pv ps H.length (H8 ++ [.cells (rows evC es)]) ((hw.ext (y2.trans x82)).left) hwl (fun i hi => ((hwr i hi).ext (y2.trans x82)).left) hpx hkp
  have a4 : At H9 evC 8 (.sl H8.length 0 8 es.length es.length) es := (At.new evC_len).ext x9
  obtain ⟨_, H10, e19, g4, cs4, rfl, x10, u5⟩ := run_imPick a4 (cap _ _) (o4.pat hpx hkp) hx hf hsh H.length
  rw [hhits] at u5
  have y10 : Hx H8 H10 := (Hx.app.trans x9).trans x10
  have e20 := run_eqHitS g4 g1 cs4 cs1 hits hits H.length H10 u5.hat (u1.hat.ext (x82.trans y10)) (by omega) (by omega) hfp1 hfp1
  have e21 := run_heldHitS (m8.ext y10) H.length (by decide) (by decide) (by omega) hfp2
  have b1 : ¬ k < 0 := by omega
  have b2 : ¬ kAt hits 1 hits.length < 0 := by
    have h := kAt_mono hits 1 0 hits.length (Nat.zero_le _)
    have h2 : kAt hits 1 0 = 1 := rfl
    omega
  have t1 := u1.hat.at_.isTup; have t2 := u2.hat.at_.isTup; have t3 := u5.hat.at_.isTup
  have q1 := (o1.pat hpx hkp).at_.isTup; have q2 := (o2.pat hpx hkp).at_.isTup; have q3 := (o3.pat hpx hkp).at_.isTup; have q4 := (o4.pat hpx hkp).at_.isTup
  rw [hcode] at e3 e6 e19
  unfold run at *
  rw [Run_z Try.func3 rfl (by rfl : ok 3 = true) (by rfl : cfg.keep 3 = [0, 1, 4, 5, 6, 7, 8, 9, 10, 11, 12, 13, 14, 15, 16, 21, 26, 53, 58, 63, 82, 90, 93, 110, 115, 118]) (by rfl : cfg.mode 3 = .pure) (by rfl : cfg.ord 3 = [])]
  simp (config := {contextual := true, maxSteps := 10000000, implicitDefEqProofs := false}) (disch := first | (and_intros <;> omega -splitDisjunctions) | (simp only [List.length_set, List.length_append, List.length_cons, List.length_nil]; and_intros <;> omega -splitDisjunctions) | fail) only [e0, e00, e1, e2, e3, e4, e5, e6, e7, e8, e9, e10, e11, e12, e13, e14, e15, e16, e17, e18, e19, e20, e21, hb, hb2, b1, b2, t1, t2, t3, q1, q2, q3, q4, f1, f2, Try.f3, go_sem, ↓reduceIte, Nat.reduceEqDiff, Nat.reduceAdd, Nat.reduceMul, Nat.reduceLT, Nat.reduceLeDiff, reduceCtorEq, Int.reduceNe, Int.reduceEq, Int.reduceLT, Int.reduceLE, Int.reduceAdd, Int.reduceSub, Int.reduceMul, Int.reduceNeg, Int.reduceToNat, UInt8.reduceToNat, natLit, ty3, ty4]
end Go.Proofs.Ytcbjmggbbnpbpaa.Lg
namespace Go.Proofs.Ytcbjmggbbnpbpaa.Lg
set_option linter.unusedSimpArgs false
set_option linter.unusedVariables false
set_option maxRecDepth 100000
set_option maxHeartbeats 40000000
open Go.Proofs.Ytcbjmggbbnpbpaa

theorem shp_oneS {P : TypeId → Option TI} {n : Nat} {t e : TypeId} {s b : Nat} {zz : Option V} {H : LH} {cs : List V} (hT : P t = some ⟨s, b, .slice e, zz⟩) (h : Shp P (n + 1) t H cs) : ∃ v, cs = [v] := by
  unfold Shp at h
  rw [hT] at h
  rcases h with h | h | ⟨_, _, _, _, _, h, _⟩ <;> exact ⟨_, h⟩
theorem shp_Pattern {n : Nat} {H : LH} (cs : List V) (h : Shp (ty Try.prog) (n + 4) 46 H cs) : ∃ x : V, cs = pC x ∧ ∃ p : List Sg, At H sgC 3 x p ∧ paFit p := by
  unfold Shp at h
  simp only [ty46, ShpF] at h
  obtain ⟨p0, _, rfl, h0, rfl⟩ := h
  obtain ⟨x, rfl⟩ := shp_oneS ty44 h0
  obtain ⟨p, a, l, f⟩ := shp_slice ty44 (by simp only [sizeO, ty3, ty9, ty44, ty100]) sgC_len (fun cs h => shp_Seg (n := n) cs h) h0
  exact ⟨x, rfl, p, a, l, f⟩
theorem pick_pa {H : LH} : ∀ (cs : List V), (∀ c ∈ cs, ∃ p : List Sg, At H sgC 3 c p ∧ paFit p) → ∃ ns : List (List Sg), cs.length = ns.length ∧ (∀ i, i < ns.length → At H sgC 3 (cs.getD i .nilsl) (ns.getD i [])) ∧ ∀ x ∈ ns, paFit x
  | [], _ => ⟨[], rfl, fun i h => by simp at h, fun x h => by simp at h⟩
  | c :: cs, h => by
    obtain ⟨x, h1, h2⟩ := h c (by simp)
    obtain ⟨ns, l, r, f⟩ := pick_pa cs (fun d hd => h d (by simp [hd]))
    refine ⟨x :: ns, by simp [l], fun i hi => ?_, fun y hy => ?_⟩
    · cases i with
      | zero => exact h1
      | succ i => exact r i (by simpa using hi)
    · rcases List.mem_cons.1 hy with rfl | hy
      · exact h2
      · exact f y hy
theorem opn_PatternS {H : LH} {x : V} (h : ShpA (ty Try.prog) 12 23 H x) : ∃ (pv : List V) (ps : List (List Sg)), At H pC 1 x pv ∧ pv.length = ps.length ∧ (∀ i, i < ps.length → At H sgC 3 (pv.getD i .nilsl) (ps.getD i [])) ∧ ps.length ≤ 9223372036854775807 ∧ ∀ p ∈ ps, paFit p := by
  unfold ShpA at h
  rw [ty23] at h
  obtain ⟨cs, h1, h2, h3⟩ := shp_slice (P := fun c => ∃ p : List Sg, At H sgC 3 c p ∧ paFit p) ty23 (by simp only [sizeO, ty3, ty9, ty23, ty44, ty46, ty100]) pC_len (fun cs h => shp_Pattern (n := 7) cs h) h
  obtain ⟨ns, l, r, f⟩ := pick_pa cs h3
  exact ⟨cs, ns, h1, l, r, by omega, f⟩
end Go.Proofs.Ytcbjmggbbnpbpaa.Lg
namespace Go.Proofs.Ytcbjmggbbnpbpaa.Lg
set_option linter.unusedSimpArgs false
set_option linter.unusedVariables false
open Go.Proofs.Ytcbjmggbbnpbpaa
open Go.RowKit (Below)
set_option maxRecDepth 100000

theorem law_FnExactPick : LawRun Try.prog cfg ok 12 3 [22, 23] := by
  intro xs H hb h
  match xs, h with
  | [x0, x1], h =>
    obtain ⟨h0, h1, _⟩ := h
    obtain ⟨xs0, a0, l0, f0⟩ := opn_EventS h0
    obtain ⟨pv1, ps1, a1, b1, c1, l1, f1⟩ := opn_PatternS h1
    exact ⟨H, run_FnExactPick x0 x1 xs0 pv1 ps1 H.length H a0 l0 f0 a1 b1 c1 l1 f1⟩
  | [], h => exact h.elim
  | [_], h => exact h.2.elim
  | _ :: _ :: _ :: _, h => exact h.2.2.elim

theorem lifted_FnExactPick (os : Os) (started : os.Started) (D : Type) (enc : TypeId × Value → D) :
    ReturnsInHanded {} Try.checked os 3 .any (Rows.fnExactPickSpec.pre6 enc Try.prog Try.f3 Rows.fnExactPickRow.domain false) (Rows.fnExactPickSpec.post enc Try.prog Try.f3 false true false false) := by
  refine returnsInHanded_of_change (C := Try.checked) own started (by kernel_rfl) Try.func3
    (ChangeSpec.witness6 (enc := enc) (C := Try.checked) false ⟨#[], #[.slice none 0 0, .slice none 0 0], []⟩ 8 (by kernel_rfl) (by kernel_rfl) (by kernel_rfl) (by kernel_rfl)) ?_
  intro W base args ds gs before hval hW _ _
  have hds : ∃ d d1, ds = [d, d1] := by
    obtain ⟨p, q, hA, _⟩ := hW
    exact shp2 hA
  obtain ⟨d, d1, rfl⟩ := hds
  have hgs : gs = [] := by
    obtain ⟨p, q, _, hV, _⟩ := hW
    exact shpV hV
  subst hgs
  have hA : ∃ p, DataW.TrodAll enc Try.prog W 0 (fun _ => true) true Try.f3.params.toList args.toList [d, d1] p := by
    obtain ⟨p, q, hA, _⟩ := hW
    exact ⟨p, hA⟩
  obtain ⟨p, hA⟩ := hA
  refine (law_calls (P := Try.prog) (fn := Try.f3) calls_ok (fun _ => rfl) Try.func3 rfl (by decide) law_FnExactPick (by kernel_rfl) hval hA).mono fun e W' h => ?_
  obtain ⟨rfl, hb⟩ := h
  refine ⟨_, rfl, post_of_below laidOut hb (by kernel_rfl) rfl hW ?_ rfl rfl ?_⟩
  · intro b sp hd
    exact Go.ChangeShapes.trodAll_mk1 (Go.RowKit.shut_bool Try.underlying4 true)
  · exact Go.RowKit.ok_one (t := 4) rfl rfl (Go.RowKit.okWide_bool_mk Try.underlying4 true)
end Go.Proofs.Ytcbjmggbbnpbpaa.Lg
namespace Go.Proofs.Ytcbjmggbbnpbpaa
open Go.Proofs.Ytcbjmggbbnpbpaa.Lg
theorem FnExactPick_holds : Rows.FnExactPickSaid :=
  OpenClaim.holds_of_wide 3 Try.f3 rfl rfl rfl rfl rfl rfl rfl ⟨rfl, rfl, rfl, rfl, rfl⟩ rfl rfl rfl rfl rfl (by kernel_rfl) Try.func3 (by kernel_rfl)
    (of_decide_eq_true (by kernel_rfl)) (by unfold Func.isWrapper; first | (rw [if_pos (by decide +kernel)]; kernel_rfl) | (rw [if_neg (by decide +kernel)]; exact ⟨rfl, rfl⟩))
    (fun os started D enc _ => lifted_FnExactPick os started D enc)
end Go.Proofs.Ytcbjmggbbnpbpaa
