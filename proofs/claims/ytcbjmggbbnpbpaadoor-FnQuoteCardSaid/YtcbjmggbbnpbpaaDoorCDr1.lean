/- Draws: bytes, numbers and texts of a draw, as far as their bounds go. No condition. -/
import Derived.Test.YtcbjmggbbnpbpaaDoorCLines
namespace Go.Proofs.YtcbjmggbbnpbpaaDoor.Lg
set_option linter.unusedSimpArgs false
set_option linter.unusedVariables false
set_option maxRecDepth 100000
set_option maxHeartbeats 40000000
open Go.Proofs.YtcbjmggbbnpbpaaDoor

def andZ (x m : Int) : Int := ((BitVec.ofInt 64 x &&& BitVec.ofInt 64 m).toNat : Int)
def xorZ (x y : Int) : Int := IntKind.wrap .i64 (BitVec.ofInt 64 x ^^^ BitVec.ofInt 64 y).toNat
theorem andZ_rng {x m : Int} (h0 : 0 ≤ m) (h : m < 9223372036854775808) : 0 ≤ andZ x m ∧ andZ x m ≤ m := by
  obtain ⟨n, rfl⟩ : ∃ n : Nat, m = n := ⟨m.toNat, by omega⟩
  unfold andZ
  refine ⟨by omega, ?_⟩
  rw [BitVec.toNat_and]
  have h1 : (BitVec.ofInt 64 (n : Int)).toNat = n := by
    rw [BitVec.toNat_ofInt]
    have : ((2 ^ 64 : Nat) : Int) = 18446744073709551616 := by decide
    rw [this, Int.emod_eq_of_lt (by omega) (by omega)]
    rfl
  rw [h1]
  have := Nat.and_le_right (n := (BitVec.ofInt 64 x).toNat) (m := n)
  omega
theorem andZ_bits {x m : Int} (h : 0 ≤ m ∧ m < 9223372036854775808) : bitsI .and .i64 x m = some (.int .i64 (andZ x m)) := by
  have := andZ_rng (x := x) h.1 h.2
  show some (V.int .i64 (IntKind.wrap .i64 (andZ x m))) = _
  rw [IntWalk.i64_in _ (by omega)]
theorem xorZ_bits {x y : Int} : bitsI .xor .i64 x y = some (.int .i64 (xorZ x y)) := rfl
/-- a cursor over a draw -/
structure DAt (G H : LH) (b : Nat) (cv : V) (code : List UInt8) : Prop where
  hx : Hx G H
  hG : G.length ≤ b
  at_ : At G byC 1 cv code
  len : code.length ≤ 1099511627776
  cell : ∃ i h : Int, H.cellsAt b = some [cv, .int .i64 i, .int .i64 h] ∧ 0 ≤ i ∧ i ≤ code.length
theorem DAt.set {G H : LH} {b : Nat} {cv : V} {code : List UInt8} (h : DAt G H b cv code) {i n : Int} (h0 : 0 ≤ i) (h1 : i ≤ code.length) : DAt G (H.set b (.cells [cv, .int .i64 i, .int .i64 n])) b cv code := by
  obtain ⟨hx, hG, ha, hl, i', n', hc, _⟩ := h
  exact ⟨hx.set hG, hG, ha, hl, i, n, cellsAt_set (cellsAt_lt hc), h0, h1⟩
theorem DAt.left {G H L : LH} {b : Nat} {cv : V} {code : List UInt8} (h : DAt G H b cv code) : DAt G (H ++ L) b cv code := by
  obtain ⟨hx, hG, ha, hl, i', n', hc, k⟩ := h
  exact ⟨hx.trans Hx.app, hG, ha, hl, i', n', cellsAt_left hc, k⟩
/-- only the cursor's block is written -/
def Cur (H B : LH) (b : Nat) : Prop := ∃ c, B = H.set b (.cells c)
theorem Cur.trans {A B C : LH} {b : Nat} (h : Cur A B b) (k : Cur B C b) : Cur A C b := by
  obtain ⟨c, rfl⟩ := h; obtain ⟨d, rfl⟩ := k; exact ⟨d, by rw [List.set_set]⟩
theorem run_l01Byte {G H : LH} {b : Nat} {cv : V} {code : List UInt8} (h : DAt G H b cv code) (fl : Nat) (hf : fl ≤ b) :
    Ret (fun w B => ∃ x : Int, w = .int .i64 x ∧ 0 ≤ x ∧ x ≤ 255 ∧ DAt G B b cv code ∧ Cur H B b) (run 103 [.ptr b 0] fl H) := by
  have h' := h
  obtain ⟨hx, hG, ha, hl, i, n, hc, hi0, hi1⟩ := h
  have hb := cellsAt_lt hc
  have p1 := ha.isTup; have p2 := ha.one
  have q1 := andZ_rng (m := 255) (x := 0) (by decide) (by decide)
  have ab := fun x => andZ_bits (x := x) (m := 255) (by decide)
  have ar := fun x => andZ_rng (x := x) (m := 255) (by decide) (by decide)
  have bx : ∀ x, Hx G (List.set H b x) := fun x => hx.set hG
  have f2 := ha.len; have f3 := ha.lenOk ty46
  unfold run
  rw [Run_z Tryd.func103 rfl (by rfl : ok 103 = true) (by rfl : cfg.keep 103 = [0, 2, 3, 34]) (by rfl : cfg.mode 103 = .any) (by rfl : cfg.ord 103 = [])]
  by_cases hlt : i < (code.length : Int)
  · obtain ⟨j, rfl⟩ : ∃ j : Nat, i = j := ⟨i.toNat, by omega⟩
    have hj : j < code.length := by omega
    have t1 : ((j : Int) < (code.length : Int)) = True := eq_true hlt
    have g5 := ha.idx (T := ty Tryd.prog) (t := 46) (by simp only [elemI, sizeO, ty5, ty46]) .i64 j (by omega) hlt
    have g4 : ∀ x, LH.cellsAt (List.set H b x) (blkV cv) = some (conV G cv) := fun x => (bx x).cells (ha.con (by omega))
    have g6 := fun n K => ha.load1 0 (fun x => .int .u8 x.toNat) (fun _ => rfl) j hj n K
    have g7 := (code.getD j 0).toNat_lt
    simp only [Nat.mul_one, Int.toNat_natCast] at g5
    simp (config := {contextual := true, maxSteps := 10000000, implicitDefEqProofs := false}) (disch := first | (and_intros <;> omega -splitDisjunctions) | (simp only [List.length_set, List.length_append, List.length_cons, List.length_nil]; and_intros <;> omega -splitDisjunctions) | fail) only [hc, hf, p1, p2, f2, f3, t1, ab, xorZ_bits, g4, g5, g6, cellsAt_set, cellsAt_set_ne, cellsAt_old, set_old, Tryd.f103, go_sem, ↓reduceIte, Nat.reduceEqDiff, Nat.reduceAdd, Nat.reduceMul, Nat.reduceLT, Nat.reduceLeDiff, reduceCtorEq, Int.reduceNe, Int.reduceEq, Int.reduceLT, Int.reduceLE, Int.reduceAdd, Int.reduceSub, Int.reduceMul, Int.reduceNeg, Int.reduceToNat, UInt8.reduceToNat, natLit, ty3, ty5, ty46, ty114]
    exact ⟨_, rfl, (ar _).1, (ar _).2, h'.set (by omega) (by omega), _, rfl⟩
  · have t1 : (i < (code.length : Int)) = False := eq_false hlt
    simp (config := {contextual := true, maxSteps := 10000000, implicitDefEqProofs := false}) (disch := first | (and_intros <;> omega -splitDisjunctions) | (simp only [List.length_set, List.length_append, List.length_cons, List.length_nil]; and_intros <;> omega -splitDisjunctions) | fail) only [hc, hf, p1, p2, f2, f3, t1, ab, xorZ_bits, cellsAt_set, cellsAt_set_ne, cellsAt_old, set_old, Tryd.f103, go_sem, ↓reduceIte, Nat.reduceEqDiff, Nat.reduceAdd, Nat.reduceMul, Nat.reduceLT, Nat.reduceLeDiff, reduceCtorEq, Int.reduceNe, Int.reduceEq, Int.reduceLT, Int.reduceLE, Int.reduceAdd, Int.reduceSub, Int.reduceMul, Int.reduceNeg, Int.reduceToNat, UInt8.reduceToNat, natLit, ty3, ty5, ty46, ty114]
    exact ⟨_, rfl, (ar _).1, (ar _).2, h'.set (by omega) (by omega), _, rfl⟩
theorem tmod_rng {x n : Int} (h0 : 0 ≤ x) (hn : 0 < n) : 0 ≤ x.tmod n ∧ x.tmod n < n := ⟨Int.tmod_nonneg n h0, Int.tmod_lt_of_pos x hn⟩
theorem run_l01Below {G H : LH} {b : Nat} {cv : V} {code : List UInt8} (h : DAt G H b cv code) (n : Int) (hn : n ≤ 4611686018427387904) (fl : Nat) (hf : fl ≤ b) :
    Ret (fun w B => ∃ x : Int, w = .int .i64 x ∧ 0 ≤ x ∧ (x < n ∨ n ≤ 0 ∧ x = 0) ∧ DAt G B b cv code ∧ (B = H ∨ Cur H B b)) (run 66 [.ptr b 0, .int .i64 n] fl H) := by
  generalize hQ : (fun (w : V) (B : LH) => ∃ x : Int, w = .int .i64 x ∧ 0 ≤ x ∧ (x < n ∨ n ≤ 0 ∧ x = 0) ∧ DAt G B b cv code ∧ (B = H ∨ Cur H B b)) = Q
  unfold run
  rw [Run_z Tryd.func66 rfl (by rfl : ok 66 = true) (by rfl : cfg.keep 66 = [0, 1, 4, 5, 6, 7, 8, 10, 12]) (by rfl : cfg.mode 66 = .any) (by rfl : cfg.ord 66 = [])]
  by_cases h0 : n ≤ 0
  · have t1 : (n ≤ 0) = True := eq_true h0
    simp (config := {contextual := true, maxSteps := 10000000, implicitDefEqProofs := false}) (disch := first | (and_intros <;> omega -splitDisjunctions) | (simp only [List.length_set, List.length_append, List.length_cons, List.length_nil]; and_intros <;> omega -splitDisjunctions) | fail) only [t1, Tryd.f66, go_sem, ↓reduceIte, Nat.reduceEqDiff, Nat.reduceAdd, Nat.reduceMul, Nat.reduceLT, Nat.reduceLeDiff, reduceCtorEq, Int.reduceNe, Int.reduceEq, Int.reduceLT, Int.reduceLE, Int.reduceAdd, Int.reduceSub, Int.reduceMul, Int.reduceNeg, Int.reduceToNat, UInt8.reduceToNat, natLit, ty3]
    subst hQ
    exact ⟨0, rfl, Int.le_refl _, .inr ⟨h0, rfl⟩, h, .inl rfl⟩
  have t1 : (n ≤ 0) = False := eq_false h0
  have t3 : n ≠ 0 := by omega
  have t4 : (n = 0) = False := eq_false t3
  obtain ⟨_, B, e1, x, rfl, x0, x1, hB, cB⟩ := run_l01Byte h fl hf
  by_cases h2 : n ≤ 256
  · have t2 : (n ≤ 256) = True := eq_true h2
    have hr := tmod_rng x0 (show 0 < n by omega)
    unfold run at e1
    simp (config := {contextual := true, maxSteps := 10000000, implicitDefEqProofs := false}) (disch := first | (and_intros <;> omega -splitDisjunctions) | (simp only [List.length_set, List.length_append, List.length_cons, List.length_nil]; and_intros <;> omega -splitDisjunctions) | fail) only [t1, t2, t4, ne_eq, not_false_eq_true, e1, Tryd.f66, go_sem, ↓reduceIte, Nat.reduceEqDiff, Nat.reduceAdd, Nat.reduceMul, Nat.reduceLT, Nat.reduceLeDiff, reduceCtorEq, Int.reduceNe, Int.reduceEq, Int.reduceLT, Int.reduceLE, Int.reduceAdd, Int.reduceSub, Int.reduceMul, Int.reduceNeg, Int.reduceToNat, UInt8.reduceToNat, natLit, ty3]
    subst hQ
    exact ⟨_, rfl, hr.1, .inl hr.2, hB, .inr cB⟩
  have t2 : (n ≤ 256) = False := eq_false h2
  obtain ⟨_, C, e2, y, rfl, y0, y1, hC, cC⟩ := run_l01Byte hB fl hf
  obtain ⟨_, D, e3, z, rfl, z0, z1, hD, cD⟩ := run_l01Byte hC fl hf
  obtain ⟨_, E, e4, u, rfl, u0, u1, hE, cE⟩ := run_l01Byte hD fl hf
  have hr := tmod_rng (show 0 ≤ x * 16777216 + y * 65536 + z * 256 + u by omega) (show 0 < n by omega)
  unfold run at e1 e2 e3 e4
  simp (config := {contextual := true, maxSteps := 10000000, implicitDefEqProofs := false}) (disch := first | (and_intros <;> omega -splitDisjunctions) | (simp only [List.length_set, List.length_append, List.length_cons, List.length_nil]; and_intros <;> omega -splitDisjunctions) | fail) only [t1, t2, t4, ne_eq, not_false_eq_true, e1, e2, e3, e4, Tryd.f66, go_sem, ↓reduceIte, Nat.reduceEqDiff, Nat.reduceAdd, Nat.reduceMul, Nat.reduceLT, Nat.reduceLeDiff, reduceCtorEq, Int.reduceNe, Int.reduceEq, Int.reduceLT, Int.reduceLE, Int.reduceAdd, Int.reduceSub, Int.reduceMul, Int.reduceNeg, Int.reduceToNat, UInt8.reduceToNat, natLit, ty3]
  subst hQ
  exact ⟨_, rfl, hr.1, .inl hr.2, hE, .inr (((cB.trans cC).trans cD).trans cE)⟩
theorem Cur.cells {H B : LH} {b c : Nat} {l : List V} (h : Cur H B b) (hc : H.cellsAt c = some l) (hne : c ≠ b) : B.cellsAt c = some l := by
  obtain ⟨x, rfl⟩ := h
  rw [cellsAt_set_ne (fun e => hne e.symm)]; exact hc
def stC1 (s : ByteArray) : List V := [.str s]
theorem run_l01Of {G H : LH} {b : Nat} {cv : V} {code : List UInt8} (h : DAt G H b cv code) {lv : V} {ss : List ByteArray} (hl : At H stC1 1 lv ss) (hne : blkV lv ≠ b) (h0 : 0 < ss.length) (h1 : ss.length ≤ 1048576) (fl : Nat) (hf : fl ≤ b) :
    Ret (fun w B => ∃ r, r < ss.length ∧ w = .str (ss.getD r ⟨#[]⟩) ∧ DAt G B b cv code ∧ Cur H B b) (run 67 [.ptr b 0, lv] fl H) := by
  obtain ⟨_, B, e1, x, rfl, x0, x1, hB, cB⟩ := run_l01Below h ss.length (by omega) fl hf
  have x1 : x < (ss.length : Int) := x1.resolve_right (fun h => by omega)
  have cB : Cur H B b := by
    rcases cB with rfl | cB
    · obtain ⟨_, _, _, _, i, n, hc, _⟩ := h
      exact ⟨_, (set_same hc).symm⟩
    · exact cB
  obtain ⟨r, rfl⟩ : ∃ r : Nat, x = r := ⟨x.toNat, by omega⟩
  have hr : r < ss.length := by omega
  have f1 := hl.isTup; have f2 := hl.len; have f3 := hl.lenOk ty85; have f7 := hl.one
  have f4 := cB.cells (hl.con h0) hne
  have f5 := hl.idx (T := ty Tryd.prog) (t := 85) (by simp only [elemI, sizeO, ty9, ty85]) .i64 r (by omega) x1
  have f6 := fun n K => hl.load1 ⟨#[]⟩ (fun x => .str x) (fun _ => rfl) r hr n K
  simp only [Nat.mul_one, Int.toNat_natCast] at f5
  unfold run at *
  rw [Run_z Tryd.func67 rfl (by rfl : ok 67 = true) (by rfl : cfg.keep 67 = [0, 1, 4]) (by rfl : cfg.mode 67 = .any) (by rfl : cfg.ord 67 = [])]
  simp (config := {contextual := true, maxSteps := 10000000, implicitDefEqProofs := false}) (disch := first | (and_intros <;> omega -splitDisjunctions) | (simp only [List.length_set, List.length_append, List.length_cons, List.length_nil]; and_intros <;> omega -splitDisjunctions) | fail) only [e1, f1, f2, f3, f4, f5, f6, f7, Tryd.f67, go_sem, ↓reduceIte, Nat.reduceEqDiff, Nat.reduceAdd, Nat.reduceMul, Nat.reduceLT, Nat.reduceLeDiff, reduceCtorEq, Int.reduceNe, Int.reduceEq, Int.reduceLT, Int.reduceLE, Int.reduceAdd, Int.reduceSub, Int.reduceMul, Int.reduceNeg, Int.reduceToNat, UInt8.reduceToNat, natLit, ty9, ty85]
  exact ⟨r, hr, rfl, hB, cB⟩
theorem run_l01New {H : LH} {cv : V} {code : List UInt8} (h : At H byC 1 cv code) (hl : code.length ≤ 1099511627776) (fl : Nat) :
    Ret (fun w B => w = .ptr H.length 0 ∧ DAt H B H.length cv code ∧ B.length = H.length + 1) (run 65 [cv] fl H) := by
  have p1 := h.isTup; have p2 := h.one; have f2 := h.len; have f3 := h.lenOk ty46
  have am := fun x => andZ_bits (x := x) (m := 1073741823) (by decide)
  have ar := fun x => andZ_rng (x := x) (m := 1073741823) (by decide) (by decide)
  unfold run
  rw [Run_z Tryd.func65 rfl (by rfl : ok 65 = true) (by rfl : cfg.keep 65 = [0, 2, 3, 4, 15]) (by rfl : cfg.mode 65 = .fresh) (by rfl : cfg.ord 65 = [])]
  simp (config := {contextual := true, maxSteps := 10000000, implicitDefEqProofs := false}) (disch := first | (and_intros <;> omega -splitDisjunctions) | (simp only [List.length_set, List.length_append, List.length_cons, List.length_nil]; and_intros <;> omega -splitDisjunctions) | fail) only [p1, p2, f2, f3, Tryd.f65, go_sem, ↓reduceIte, Nat.reduceEqDiff, Nat.reduceAdd, Nat.reduceMul, Nat.reduceLT, Nat.reduceLeDiff, reduceCtorEq, Int.reduceNe, Int.reduceEq, Int.reduceLT, Int.reduceLE, Int.reduceAdd, Int.reduceSub, Int.reduceMul, Int.reduceNeg, Int.reduceToNat, UInt8.reduceToNat, natLit, ty3, ty5, ty46, ty114]
  refine at_loopR fun c R hc hR => ?_
  have key : ∀ (m : Nat) (i : Nat) (j n : Int) (x2 x15 : Option V), code.length - i < m → j = i → i ≤ code.length → 0 ≤ n → n ≤ 1099511918193 →
      Ret (fun w B => w = .ptr H.length 0 ∧ DAt H B H.length cv code ∧ B.length = H.length + 1) (zEv (leaveX (mkR Tryd.prog cfg ok [0, 2, 3, 4, 15] H.length) .fresh H [ResultVar.tmp 2]) (mkR Tryd.prog cfg ok [0, 2, 3, 4, 15] H.length) (K.code (Code.loop c) :: K.blk 0 :: R) .nrm [some cv, x2, some (.int .i64 n), some (.int .i64 j), x15] (H)) := by
    intro m
    induction m with
    | zero => intro i j n x2 x15 hm; omega
    | succ m ih =>
      intro i j n x2 x15 hm hj hi h0 h1
      subst hj
      have fin : DAt H (H ++ [Blk.cells [cv, V.int .i64 0, V.int .i64 n]]) H.length cv code ∧ (H ++ [Blk.cells [cv, V.int .i64 0, V.int .i64 n]]).length = H.length + 1 := ⟨⟨Hx.app, Nat.le_refl _, h, hl, 0, n, by rw [cellsAt_app0]; rfl, by omega, by omega⟩, by simp⟩
      by_cases hlt : i < code.length
      · have t1 : ((i : Int) < code.length) = True := eq_true (by omega)
        by_cases h4 : i < 4000
        · have t2 : ((i : Int) < 4000) = True := eq_true (by omega)
          have g5 := h.idx (T := ty Tryd.prog) (t := 46) (by simp only [elemI, sizeO, ty5, ty46]) .i64 i (by omega) (by omega)
          have g4 := h.con (by omega)
          have g6 := fun n K => h.load1 0 (fun x => .int .u8 x.toNat) (fun _ => rfl) i hlt n K
          have g7 := (code.getD i 0).toNat_lt
          simp only [Nat.mul_one, Int.toNat_natCast] at g5
          rw [zEv_round hc]
          simp (config := {contextual := true, maxSteps := 10000000, implicitDefEqProofs := false}) (disch := first | (and_intros <;> omega -splitDisjunctions) | (simp only [List.length_set, List.length_append, List.length_cons, List.length_nil]; and_intros <;> omega -splitDisjunctions) | fail) only [p1, p2, f2, f3, t1, t2, am, g4, g5, g6, Tryd.f65, go_sem, ↓reduceIte, Nat.reduceEqDiff, Nat.reduceAdd, Nat.reduceMul, Nat.reduceLT, Nat.reduceLeDiff, reduceCtorEq, Int.reduceNe, Int.reduceEq, Int.reduceLT, Int.reduceLE, Int.reduceAdd, Int.reduceSub, Int.reduceMul, Int.reduceNeg, Int.reduceToNat, UInt8.reduceToNat, natLit, ty3, ty5, ty46, ty114]
          exact ih (i + 1) ((i : Int) + 1) _ _ _ (by omega) (by omega) (by omega) (ar _).1 (Int.le_trans (ar _).2 (by decide))
        · have t2 : ((i : Int) < 4000) = False := eq_false (by omega)
          rw [zEv_round hc, ← hR]
          simp (config := {contextual := true, maxSteps := 10000000, implicitDefEqProofs := false}) (disch := first | (and_intros <;> omega -splitDisjunctions) | (simp only [List.length_set, List.length_append, List.length_cons, List.length_nil]; and_intros <;> omega -splitDisjunctions) | fail) only [p1, p2, f2, f3, t1, t2, Tryd.f65, go_sem, ↓reduceIte, Nat.reduceEqDiff, Nat.reduceAdd, Nat.reduceMul, Nat.reduceLT, Nat.reduceLeDiff, reduceCtorEq, Int.reduceNe, Int.reduceEq, Int.reduceLT, Int.reduceLE, Int.reduceAdd, Int.reduceSub, Int.reduceMul, Int.reduceNeg, Int.reduceToNat, UInt8.reduceToNat, natLit, ty3, ty5, ty46, ty114]
          exact fin.1
      · have t1 : ((i : Int) < code.length) = False := eq_false (by omega)
        rw [zEv_round hc, ← hR]
        simp (config := {contextual := true, maxSteps := 10000000, implicitDefEqProofs := false}) (disch := first | (and_intros <;> omega -splitDisjunctions) | (simp only [List.length_set, List.length_append, List.length_cons, List.length_nil]; and_intros <;> omega -splitDisjunctions) | fail) only [p1, p2, f2, f3, t1, Tryd.f65, go_sem, ↓reduceIte, Nat.reduceEqDiff, Nat.reduceAdd, Nat.reduceMul, Nat.reduceLT, Nat.reduceLeDiff, reduceCtorEq, Int.reduceNe, Int.reduceEq, Int.reduceLT, Int.reduceLE, Int.reduceAdd, Int.reduceSub, Int.reduceMul, Int.reduceNeg, Int.reduceToNat, UInt8.reduceToNat, natLit, ty3, ty5, ty46, ty114]
        exact fin.1
  exact key (code.length + 1) 0 0 _ _ _ (by omega) rfl (Nat.zero_le _) (by omega) (by omega)
end Go.Proofs.YtcbjmggbbnpbpaaDoor.Lg
