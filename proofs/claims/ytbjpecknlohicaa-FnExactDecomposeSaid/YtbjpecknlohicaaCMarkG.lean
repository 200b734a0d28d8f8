/- The laws' marks upon a graph stay within it. No condition. -/
import Derived.Test.YtbjpecknlohicaaCTGraph
namespace Go.Proofs.Ytbjpecknlohicaa.Lg
set_option linter.unusedSimpArgs false
set_option linter.unusedVariables false
set_option maxRecDepth 100000
set_option maxHeartbeats 40000000
open Go.Proofs.Ytbjpecknlohicaa

/-- only blocks from 'lo' on and ahead of 'hi' are written, and a block of numbers stays one -/
structure Mk (lo hi : Nat) (A B : LH) : Prop where
  len : B.length = A.length
  get : ∀ b, b < lo ∨ hi ≤ b → B[b]? = A[b]?
  ints : ∀ b ys, LH.cellsAt A b = some (rows inC ys) → ∃ ys' : List Int, LH.cellsAt B b = some (rows inC ys') ∧ ys'.length = ys.length
theorem Mk.refl {lo hi : Nat} (A : LH) : Mk lo hi A A := ⟨rfl, fun _ _ => rfl, fun _ ys h => ⟨ys, h, rfl⟩⟩
theorem Mk.trans {lo hi : Nat} {A B C : LH} (h : Mk lo hi A B) (k : Mk lo hi B C) : Mk lo hi A C := by
  refine ⟨k.len.trans h.len, fun b hb => (k.get b hb).trans (h.get b hb), fun b ys hy => ?_⟩
  obtain ⟨ys', h1, h2⟩ := h.ints b ys hy
  obtain ⟨zs, h3, h4⟩ := k.ints b ys' h1
  exact ⟨zs, h3, h4.trans h2⟩
theorem cellsAt_get {A B : LH} {b : Nat} (h : B[b]? = A[b]?) : LH.cellsAt B b = LH.cellsAt A b := by
  unfold LH.cellsAt
  rw [h]
theorem Mk.set {lo hi b : Nat} {A : LH} {c : List V} (h1 : lo ≤ b) (h2 : b < hi) (h3 : ∀ ys, LH.cellsAt A b = some (rows inC ys) → ∃ ys' : List Int, c = rows inC ys' ∧ ys'.length = ys.length) : Mk lo hi A (A.set b (.cells c)) := by
  refine ⟨by simp, fun b' hb => by rw [List.getElem?_set_ne (by omega)], fun b' ys hy => ?_⟩
  by_cases e : b = b'
  · subst e
    obtain ⟨ys', h4, h5⟩ := h3 ys hy
    exact ⟨ys', by rw [cellsAt_set (cellsAt_lt hy), h4], h5⟩
  · exact ⟨ys, by rw [cellsAt_set_ne e]; exact hy, rfl⟩
theorem Mk.hx {lo hi : Nat} {A B H : LH} (h : Mk lo hi A B) (hx : Hx H A) (hl : H.length ≤ lo) : Hx H B := by
  obtain ⟨L, rfl⟩ := hx
  refine ⟨B.drop H.length, ?_⟩
  have : B.take H.length = H := by
    apply List.ext_getElem?
    intro i
    rw [List.getElem?_take]
    by_cases hi : i < H.length
    · rw [if_pos hi, h.get i (.inl (by omega)), List.getElem?_append_left hi]
    · rw [if_neg hi, List.getElem?_eq_none (by omega)]
  conv => lhs; rw [← List.take_append_drop H.length B, this]
theorem Mk.own {α : Type} {enc : α → List V} {z lo hi f0 : Nat} {A B : LH} {v : V} {xs : List α} (h : Mk lo hi A B) (ho : Own f0 A enc z v xs) (hf : hi ≤ f0) : Own f0 B enc z v xs := by
  rcases ho with h1 | ⟨b, h1, h2, h3⟩
  · exact .inl h1
  · exact .inr ⟨b, h1, by rw [cellsAt_get (h.get b (.inr (by omega)))]; exact h2, h3⟩
/-- a slice of numbers, of its own block -/
def IntsAt (lo hi : Nat) (A : LH) (v : V) (n : Nat) : Prop := (n = 0 ∧ (v = .nilsl ∨ v = .emp)) ∨ ∃ (b : Nat) (ys : List Int), v = .sl b 0 1 n n ∧ LH.cellsAt A b = some (rows inC ys) ∧ ys.length = n ∧ lo ≤ b ∧ b < hi
theorem IntsAt.mk {lo hi n : Nat} {A B : LH} {v : V} (h : IntsAt lo hi A v n) (m : Mk lo hi A B) : IntsAt lo hi B v n := by
  rcases h with h | ⟨b, ys, h1, h2, h3, h4, h5⟩
  · exact .inl h
  · obtain ⟨ys', h6, h7⟩ := m.ints b ys h2
    exact .inr ⟨b, ys', h1, h6, h7.trans h3, h4, h5⟩
theorem IntsAt.isTup {lo hi n : Nat} {A : LH} {v : V} (h : IntsAt lo hi A v n) : v.isTup = false := by
  rcases h with ⟨_, rfl | rfl⟩ | ⟨b, ys, rfl, _⟩ <;> rfl
theorem IntsAt.one {lo hi n : Nat} {A : LH} {v : V} (h : IntsAt lo hi A v n) : v.cells = [v] := by
  rcases h with ⟨_, rfl | rfl⟩ | ⟨b, ys, rfl, _⟩ <;> rfl
theorem ints_of {lo f0 : Nat} {A B : LH} {v : V} {xs : List Int} (h : Own f0 A inC 1 v xs) (hl : lo ≤ f0) (hx : Hx A B) : IntsAt lo A.length B v xs.length := by
  rcases h with ⟨rfl, h⟩ | ⟨b, h1, h2, h3⟩
  · exact .inl ⟨rfl, h⟩
  · exact .inr ⟨b, xs, h1, hx.cells h2, rfl, by omega, cellsAt_lt h2⟩
theorem ncC_noint {cs : List NC} {ys : List Int} (hn : 0 < cs.length) (e : rows ncC cs = rows inC ys) : False := by
  have h1 : (rows ncC cs)[0 * 4 + 1]? = (ncC cs[0])[1]? := rows_cell ncC_len hn (by decide)
  rw [e] at h1
  cases ys with
  | nil => simp [rows, ncC] at h1
  | cons y ys =>
    cases ys with
    | nil => simp [rows, inC, ncC] at h1
    | cons z zs => simp [rows, inC, ncC] at h1
theorem run_mark1 {lo hi : Nat} (v : V) (n : Nat) (k : Int) (fl : Nat) (A : LH) (h : IntsAt lo hi A v n) (hf : fl ≤ lo) (h0 : 0 ≤ k) (h1 : k ≤ 1099511627776) (hn : n ≤ 1099511627776) :
    ∃ B, run 50 [v, .int .i64 k] fl A = some (.int .i64 (k + n), B) ∧ Mk lo hi A B ∧ ∀ b cs, 0 < cs.length → LH.cellsAt A b = some (rows ncC cs) → LH.cellsAt B b = some (rows ncC cs) := by
  rcases h with ⟨rfl, h⟩ | ⟨b, ys, rfl, h2, h3, h4, h5⟩
  · have := run_markIntO (f0 := lo) v [] k fl A (.inl ⟨rfl, h⟩) hf h0 h1 (by simp)
    refine ⟨_, this, ?_⟩
    rcases h with rfl | rfl <;> exact ⟨Mk.refl A, fun _ _ _ h => h⟩
  · have := run_markIntO (f0 := lo) (.sl b 0 1 n n) ys k fl A (.inr ⟨b, by rw [h3], h2, h4⟩) hf h0 h1 (by omega)
    rw [h3] at this
    refine ⟨_, this, ?_⟩
    refine ⟨?_, fun b2 cs hcs hc => ?_⟩
    rotate_left
    · by_cases e : b = b2
      · subst e
        rw [h2] at hc
        injection hc with hc
        exact (ncC_noint hcs hc.symm).elim
      · simp only [setV]
        rw [cellsAt_set_ne e]; exact hc
    refine Mk.set h4 h5 fun zs hz => ⟨marksF mkInt 1 n k, rfl, ?_⟩
    rw [h2] at hz
    injection hz with hz
    have := congrArg List.length hz
    rw [rows_len inC_len, rows_len inC_len] at this
    rw [marksF_len]; omega
theorem cell_kv {ds : List NC} {i : Nat} (hi : i < ds.length) (n : Nat) (K : LH) : cellO K false (i * 4 + 3) n (some (rows ncC ds)) = some ((ds.getD i nc0).kv, K) := by
  have e := rows_cell ncC_len hi (show 3 < 4 by omega)
  rw [getD_of hi]
  simp only [cellO, e]; rfl
theorem set_getD {ds : List NC} {i : Nat} (hi : i < ds.length) (y : NC) : (ds.set i y).getD i nc0 = y := by
  rw [List.getD_eq_getElem?_getD, List.getElem?_set_self hi, Option.getD_some]
theorem set_getD_ne {ds : List NC} {i j : Nat} (hi : i ≠ j) (y : NC) : (ds.set i y).getD j nc0 = ds.getD j nc0 := by
  rw [List.getD_eq_getElem?_getD, List.getElem?_set_ne hi, ← List.getD_eq_getElem?_getD]
def kl (n : Nd) : Int := n.kids.length
theorem kl0 (n : Nd) : 0 ≤ kl n := by unfold kl; omega
theorem run_markNodeS {lo hi : Nat} (v : V) (cs : List NC) (ns : List Nd) (k0 : Int) (fl : Nat) (H : LH) (hv : (cs = [] ∧ (v = .nilsl ∨ v = .emp)) ∨ ∃ b, v = .sl b 0 4 cs.length cs.length ∧ LH.cellsAt H b = some (rows ncC cs) ∧ lo ≤ b ∧ b < hi)
    (hlen : cs.length = ns.length) (hI : ∀ i, i < ns.length → IntsAt lo hi H (cs.getD i nc0).kv (ns.getD i nd0).kids.length) (hf : fl ≤ lo) (h0 : 0 ≤ k0) (h1 : k0 + 3 * ns.length + sumZ kl ns ≤ 1099511627776) :
    ∃ k B, run 89 [v, .int .i64 k0] fl H = some (.int .i64 k, B) ∧ 0 ≤ k ∧ k ≤ k0 + 3 * ns.length + sumZ kl ns ∧ Mk lo hi H B := by
  have hz := sumZ_nonneg kl0 ns
  rcases hv with ⟨rfl, hv⟩ | ⟨b, rfl, hb, hb1, hb2⟩
  · refine ⟨k0, H, ?_, h0, by omega, Mk.refl H⟩
    unfold run
    rw [Run_z Try.func89 rfl (by rfl : ok 89 = true) (by rfl : cfg.keep 89 = [0, 1, 4, 5, 9]) (by rfl : cfg.mode 89 = .any)]
    rcases hv with rfl | rfl
    · simp (config := {contextual := true, maxSteps := 10000000, implicitDefEqProofs := false}) (disch := first | (and_intros <;> omega -splitDisjunctions) | (simp only [List.length_set, List.length_append, List.length_cons, List.length_nil]; and_intros <;> omega -splitDisjunctions) | fail) only [Try.f89, go_sem, ↓reduceIte, Nat.reduceEqDiff, Nat.reduceAdd, Nat.reduceMul, Nat.reduceLT, Nat.reduceLeDiff, reduceCtorEq, Int.reduceNe, Int.reduceEq, Int.reduceLT, Int.reduceLE, Int.reduceAdd, Int.reduceSub, Int.reduceMul, Int.reduceNeg, Int.reduceToNat, UInt8.reduceToNat, natLit, ty3, ty9, ty55, ty60, ty100]
      rw [zEv_loop]
      simp (config := {contextual := true, maxSteps := 10000000, implicitDefEqProofs := false}) (disch := first | (and_intros <;> omega -splitDisjunctions) | (simp only [List.length_set, List.length_append, List.length_cons, List.length_nil]; and_intros <;> omega -splitDisjunctions) | fail) only [Try.f89, go_sem, ↓reduceIte, Nat.reduceEqDiff, Nat.reduceAdd, Nat.reduceMul, Nat.reduceLT, Nat.reduceLeDiff, reduceCtorEq, Int.reduceNe, Int.reduceEq, Int.reduceLT, Int.reduceLE, Int.reduceAdd, Int.reduceSub, Int.reduceMul, Int.reduceNeg, Int.reduceToNat, UInt8.reduceToNat, natLit, ty3, ty9, ty55, ty60, ty100]
    · simp (config := {contextual := true, maxSteps := 10000000, implicitDefEqProofs := false}) (disch := first | (and_intros <;> omega -splitDisjunctions) | (simp only [List.length_set, List.length_append, List.length_cons, List.length_nil]; and_intros <;> omega -splitDisjunctions) | fail) only [Try.f89, go_sem, ↓reduceIte, Nat.reduceEqDiff, Nat.reduceAdd, Nat.reduceMul, Nat.reduceLT, Nat.reduceLeDiff, reduceCtorEq, Int.reduceNe, Int.reduceEq, Int.reduceLT, Int.reduceLE, Int.reduceAdd, Int.reduceSub, Int.reduceMul, Int.reduceNeg, Int.reduceToNat, UInt8.reduceToNat, natLit, ty3, ty9, ty55, ty60, ty100]
      rw [zEv_loop]
      simp (config := {contextual := true, maxSteps := 10000000, implicitDefEqProofs := false}) (disch := first | (and_intros <;> omega -splitDisjunctions) | (simp only [List.length_set, List.length_append, List.length_cons, List.length_nil]; and_intros <;> omega -splitDisjunctions) | fail) only [Try.f89, go_sem, ↓reduceIte, Nat.reduceEqDiff, Nat.reduceAdd, Nat.reduceMul, Nat.reduceLT, Nat.reduceLeDiff, reduceCtorEq, Int.reduceNe, Int.reduceEq, Int.reduceLT, Int.reduceLE, Int.reduceAdd, Int.reduceSub, Int.reduceMul, Int.reduceNeg, Int.reduceToNat, UInt8.reduceToNat, natLit, ty3, ty9, ty55, ty60, ty100]
  have goal : Ret (fun w B => ∃ k, w = .int .i64 k ∧ 0 ≤ k ∧ k ≤ k0 + 3 * ns.length + sumZ kl ns ∧ Mk lo hi H B) (run 89 [.sl b 0 4 cs.length cs.length, .int .i64 k0] fl H) := by
    unfold run
    rw [Run_z Try.func89 rfl (by rfl : ok 89 = true) (by rfl : cfg.keep 89 = [0, 1, 4, 5, 9]) (by rfl : cfg.mode 89 = .any)]
    simp (config := {contextual := true, maxSteps := 10000000, implicitDefEqProofs := false}) (disch := first | (and_intros <;> omega -splitDisjunctions) | (simp only [List.length_set, List.length_append, List.length_cons, List.length_nil]; and_intros <;> omega -splitDisjunctions) | fail) only [Try.f89, go_sem, ↓reduceIte, Nat.reduceEqDiff, Nat.reduceAdd, Nat.reduceMul, Nat.reduceLT, Nat.reduceLeDiff, reduceCtorEq, Int.reduceNe, Int.reduceEq, Int.reduceLT, Int.reduceLE, Int.reduceAdd, Int.reduceSub, Int.reduceMul, Int.reduceNeg, Int.reduceToNat, UInt8.reduceToNat, natLit, ty3, ty9, ty55, ty60, ty100]
    rw [hlen]
    refine at_loopR fun c R hc hR => ?_
    have key : ∀ (m : Nat) (j : Nat) (jj : Int) (k : Int) (ds : List NC) (B : LH) (x4 x9 : Option V), ns.length - j < m → jj = j → j ≤ ns.length → Mk lo hi H B → LH.cellsAt B b = some (rows ncC ds) → ds.length = ns.length → (∀ i, i < ns.length → (ds.getD i nc0).kv = (cs.getD i nc0).kv) → 0 ≤ k → k + 3 * (ns.length - j) + sumZ kl (ns.drop j) ≤ k0 + 3 * ns.length + sumZ kl ns →
        Ret (fun w B => ∃ k, w = .int .i64 k ∧ 0 ≤ k ∧ k ≤ k0 + 3 * ns.length + sumZ kl ns ∧ Mk lo hi H B) (zEv (leaveX (mkR Try.prog cfg ok [0, 1, 4, 5, 9] fl) .any H [ResultVar.tmp 4]) (mkR Try.prog cfg ok [0, 1, 4, 5, 9] fl) (K.code (Code.loop c) :: K.blk 0 :: R) .nrm [some (.sl b 0 4 ns.length ns.length), some (.int .i64 k), x4, some (.int .i64 jj), x9] (B)) := by
      intro m
      induction m with
      | zero => intro j jj k ds B x4 x9 hm; omega
      | succ m ih =>
        intro j jj k ds B x4 x9 hm hj hle hm2 hc2 hdl hkv hk0 hkb
        subst hj
        by_cases hlt : j < ns.length
        · have t1 : ((j : Int) < ns.length) = True := eq_true (by omega)
          have hs2 := sumZ_nonneg kl0 (ns.drop (j + 1))
          rw [List.drop_eq_getElem_cons hlt, sumZ_cons, ← getD_of hlt nd0] at hkb
          have hkl : kl (ns.getD j nd0) = (ns.getD j nd0).kids.length := rfl
          have hbl := cellsAt_lt hc2
          have m1 := fun k (h0 : 0 ≤ k) (h1 : k ≤ 4611686018427387904) fl H' => run_markText k h0 h1 fl H'
          have g1 : (rows ncC ds).length = ns.length * 4 := by rw [rows_len ncC_len, hdl]
          have hd3 : j < ds.length := by omega
          generalize hy : (⟨k, mText (k + 1), mText (k + 2), (ds.getD j nc0).kv⟩ : NC) = y
          have g2 : putAt (rows ncC ds) (j * 4) [.int .i64 k, .str (mText (k + 1)), .str (mText (k + 2))] = rows ncC (ds.set j y) := by
            have := rows_putD (enc := ncC) (j := 0) (xs := ds) ncC_len nc0 j hd3 (ws := [.int .i64 k, .str (mText (k + 1)), .str (mText (k + 2))]) (by simp) y (by rw [← hy]; rfl)
            simpa using this
          simp only [putAt] at g2
          have hms : Mk lo hi B (B.set b (.cells (rows ncC (ds.set j y)))) := Mk.set hb1 hb2 fun ys hy2 => by
            rw [hc2] at hy2
            injection hy2 with hy2
            exact (ncC_noint (by omega) hy2).elim
          have hyk : y.kv = (cs.getD j nc0).kv := by rw [← hy]; exact hkv j hlt
          have hi2 := ((hI j hlt).mk hm2).mk hms
          rw [← hyk] at hi2
          have u1 := hi2.isTup; have u2 := hi2.one
          obtain ⟨C, e2, mc, mn⟩ := run_mark1 y.kv _ (k + 3) fl _ hi2 hf (by omega) (by omega) (by omega)
          have q3 := fun n K => cell_kv (ds := ds.set j y) (i := j) (by simpa using hd3) n K
          rw [set_getD hd3] at q3
          have hc3 : LH.cellsAt C b = some (rows ncC (ds.set j y)) := mn b _ (by rw [List.length_set]; omega) (cellsAt_set hbl)
          unfold run at e2 m1
          rw [zEv_round hc]
          simp (config := {contextual := true, maxSteps := 10000000, implicitDefEqProofs := false}) (disch := first | (and_intros <;> omega -splitDisjunctions) | (simp only [List.length_set, List.length_append, List.length_cons, List.length_nil]; and_intros <;> omega -splitDisjunctions) | fail) only [t1, m1, cellsAt_set, hc2, hb1, hf, g1, g2, q3, u1, u2, e2, Int.add_assoc, Nat.add_assoc, List.length_set, Try.f89, go_sem, ↓reduceIte, Nat.reduceEqDiff, Nat.reduceAdd, Nat.reduceMul, Nat.reduceLT, Nat.reduceLeDiff, reduceCtorEq, Int.reduceNe, Int.reduceEq, Int.reduceLT, Int.reduceLE, Int.reduceAdd, Int.reduceSub, Int.reduceMul, Int.reduceNeg, Int.reduceToNat, UInt8.reduceToNat, natLit, ty3, ty9, ty55, ty60, ty100]
          refine ih (j + 1) ((j : Int) + 1) (k + (3 + (ns.getD j nd0).kids.length)) (ds.set j y) C _ _ (by omega) rfl (by omega) ((hm2.trans hms).trans mc) hc3 (by rw [List.length_set]; exact hdl) (fun i hi => ?_) (by omega) (by omega)
          by_cases e : j = i
          · subst e; rw [set_getD hd3]; exact hyk
          · rw [set_getD_ne e]; exact hkv i hi
        · have t1 : ((j : Int) < ns.length) = False := eq_false (by omega)
          rw [zEv_round hc, ← hR]
          simp (config := {contextual := true, maxSteps := 10000000, implicitDefEqProofs := false}) (disch := first | (and_intros <;> omega -splitDisjunctions) | (simp only [List.length_set, List.length_append, List.length_cons, List.length_nil]; and_intros <;> omega -splitDisjunctions) | fail) only [t1, Try.f89, go_sem, ↓reduceIte, Nat.reduceEqDiff, Nat.reduceAdd, Nat.reduceMul, Nat.reduceLT, Nat.reduceLeDiff, reduceCtorEq, Int.reduceNe, Int.reduceEq, Int.reduceLT, Int.reduceLE, Int.reduceAdd, Int.reduceSub, Int.reduceMul, Int.reduceNeg, Int.reduceToNat, UInt8.reduceToNat, natLit, ty3, ty9, ty55, ty60, ty100]
          rw [List.drop_of_length_le (by omega), sumZ_nil] at hkb
          exact ⟨k, rfl, hk0, by omega, hm2⟩
    refine key (ns.length + 1) 0 0 k0 cs H _ _ (by omega) rfl (by omega) (Mk.refl H) hb hlen (fun _ _ => rfl) h0 (by rw [List.drop_zero]; omega)
  obtain ⟨w, B, e, k, rfl, a, b2, c⟩ := goal
  exact ⟨k, B, e, a, b2, c⟩
theorem sumZ_le {α : Type} {w u : α → Int} (h : ∀ x, w x ≤ u x) : ∀ xs : List α, sumZ w xs ≤ sumZ u xs
  | [] => Int.le_refl _
  | x :: xs => by
    rw [sumZ_cons, sumZ_cons]
    have := h x
    have := sumZ_le h xs
    omega
theorem run_markGraph {lo : Nat} (nv rv : V) (g : Gr) (k0 : Int) (fl : Nat) (A H : LH) (hn : NOwn lo A nv g.nodes) (hr : Own lo A inC 1 rv g.roots) (hx : Hx A H) (hf : fl ≤ lo) (h0 : 0 ≤ k0) (h1 : k0 ≤ 1024) (hw : grW g ≤ 1048576) :
    Ret (fun w C => ∃ k, w = .int .i64 k ∧ 0 ≤ k ∧ Mk lo A.length (H ++ [.cells [nv, rv]]) C) (run 49 [.agg [nv, rv], .int .i64 k0] fl H) := by
  have hb := grW_bnd hw
  have f1 := hn.at.isTup; have f2 := hn.at.one
  have f3 := (hr.at inC_len).isTup; have f4 := (hr.at inC_len).one
  have hs := sumZ_le (w := kl) (u := ndW) (fun x => by unfold kl ndW; omega) g.nodes
  have hs0 := sumZ_nonneg kl0 g.nodes
  have hA := hx.len
  have hxx : Hx A (H ++ [.cells [nv, rv]]) := hx.trans Hx.app
  have hri := ints_of hr (Nat.le_refl _) hxx
  obtain ⟨cs, o, hlen, hR⟩ := hn
  unfold grW at hw
  have hv : (cs = [] ∧ (nv = .nilsl ∨ nv = .emp)) ∨ ∃ b, nv = .sl b 0 4 cs.length cs.length ∧ LH.cellsAt (H ++ [.cells [nv, rv]]) b = some (rows ncC cs) ∧ lo ≤ b ∧ b < A.length := by
    rcases o with h | ⟨b, h2, h3, h4⟩
    · exact .inl h
    · exact .inr ⟨b, h2, hxx.cells h3, h4, cellsAt_lt h3⟩
  obtain ⟨k, C, e1, k1, k2, m1⟩ := run_markNodeS nv cs g.nodes k0 fl (H ++ [.cells [nv, rv]]) hv hlen (fun i hi => ints_of (hR i hi).kids (by omega) hxx) hf h0 (by omega)
  obtain ⟨D, e2, m2, _⟩ := run_mark1 rv g.roots.length k fl C (hri.mk m1) hf k1 (by omega) (by omega)
  have c0 : LH.cellsAt C H.length = some [nv, rv] := by
    rw [cellsAt_get (m1.get H.length (.inr hA)), cellsAt_app0]; rfl
  unfold run at *
  rw [Run_z Try.func49 rfl (by rfl : ok 49 = true) (by rfl : cfg.keep 49 = [0, 1, 2, 4]) (by rfl : cfg.mode 49 = .any)]
  simp (config := {contextual := true, maxSteps := 10000000, implicitDefEqProofs := false}) (disch := first | (and_intros <;> omega -splitDisjunctions) | (simp only [List.length_set, List.length_append, List.length_cons, List.length_nil]; and_intros <;> omega -splitDisjunctions) | fail) only [e1, e2, c0, f1, f2, f3, f4, Try.f49, go_sem, ↓reduceIte, Nat.reduceEqDiff, Nat.reduceAdd, Nat.reduceMul, Nat.reduceLT, Nat.reduceLeDiff, reduceCtorEq, Int.reduceNe, Int.reduceEq, Int.reduceLT, Int.reduceLE, Int.reduceAdd, Int.reduceSub, Int.reduceMul, Int.reduceNeg, Int.reduceToNat, UInt8.reduceToNat, natLit, ty3, ty9, ty55, ty60, ty62, ty100]
  exact ⟨_, rfl, by omega, m1.trans m2⟩
end Go.Proofs.Ytbjpecknlohicaa.Lg
