/- Contracts over the logical machine (Mk TSeg MtM Word TEvent Num EvText Nst Nst2). No condition. -/
import Derived.Test.YtcbjmggbbnpbpaaLc
import Derived.Test.YtcbjmggbbnpbpaaLgE
namespace Go.Proofs.Ytcbjmggbbnpbpaa.Lg
set_option linter.unusedSimpArgs false
set_option linter.unusedVariables false
set_option maxRecDepth 100000
set_option maxHeartbeats 40000000
open Go.Proofs.Ytcbjmggbbnpbpaa

/-- a digit -/
def dig (n : Nat) : ByteArray := ⟨#[UInt8.ofNat (48 + n)]⟩
/-- a number's digits -/
def decT (n : Nat) : ByteArray := if n < 10 then dig n else decT (n / 10) ++ dig (n % 10)
theorem decT_size (n : Nat) : (decT n).size ≤ n + 1 := by
  induction n using Nat.strongRecOn with
  | _ n ih =>
    unfold decT
    split
    · simp [dig, size_lit]
    · rw [ByteArray.size_append]
      have := ih (n / 10) (by omega)
      simp only [dig, size_lit, List.length_cons, List.length_nil]
      omega
def numT (n : Int) : ByteArray := if n < 0 ∨ 4294967295 < n then ⟨#[]⟩ else decT n.toNat

theorem dig_eq (n : Nat) : (⟨#[UInt8.ofNat (48 + (n : Int)).toNat]⟩ : ByteArray) = dig n := by
  unfold dig
  rw [show (48 + (n : Int)).toNat = 48 + n by omega]
theorem app_assoc (a b c : ByteArray) : a ++ (b ++ c) = a ++ b ++ c := (ByteArray.append_assoc).symm
theorem app_nil (a : ByteArray) : a ++ ⟨#[]⟩ = a := ByteArray.append_empty
theorem dec_step (k : Nat) (out : ByteArray) (hk : k ≠ 0) : (if k / 10 = 0 then dig (k % 10) ++ out else decT (k / 10) ++ (dig (k % 10) ++ out)) = decT k ++ out := by
  by_cases h : k < 10
  · rw [if_pos (by omega), show k % 10 = k by omega]
    conv => rhs; rw [decT, if_pos h]
  · rw [if_neg (by omega)]
    conv => rhs; rw [decT, if_neg h]
    rw [app_assoc]

/-- the text of a mark -/
def mText (k : Int) : ByteArray := if k ≤ 0 then ⟨#[109, 48]⟩ else ⟨#[109]⟩ ++ decT k.toNat
theorem run_markText (k : Int) (h0 : 0 ≤ k) (h1 : k ≤ 4611686018427387904) (fl : Nat) (H : LH) : run 37 [.int .i64 k] fl H = some (.str (mText k), H) := by
  unfold run
  rw [Run_z Try.func37 rfl (by rfl : ok 37 = true) (by rfl : cfg.keep 37 = [0, 2, 3, 5, 7]) (by rfl : cfg.mode 37 = .pure) (by rfl : cfg.ord 37 = [])]
  simp (config := {contextual := true, maxSteps := 10000000, implicitDefEqProofs := false}) (disch := first | (and_intros <;> omega -splitDisjunctions) | (simp only [List.length_set, List.length_append, List.length_cons, List.length_nil]; and_intros <;> omega -splitDisjunctions) | fail) only [Try.f37, go_sem, ↓reduceIte, Nat.reduceEqDiff, Nat.reduceAdd, Nat.reduceMul, Nat.reduceLT, Nat.reduceLeDiff, reduceCtorEq, Int.reduceNe, Int.reduceEq, Int.reduceLT, Int.reduceLE, Int.reduceAdd, Int.reduceSub, Int.reduceMul, Int.reduceNeg, Int.reduceToNat, UInt8.reduceToNat, natLit, ty3, ty5, ty9, ty98]
  unfold mText
  split
  · rfl
  rename_i hk
  generalize hL : K.code (Code.loop _) = L
  generalize hR : (K.blk _ :: _ : List K) = R
  have key : ∀ (m k : Nat) (out : ByteArray) (x2 x5 x7 : Option V) (H1 : LH), k ≤ m → k ≤ 4611686018427387904 → out.size + m ≤ 4611686018427388000 →
      zEv (leaveX (mkR Try.prog cfg ok [0, 2, 3, 5, 7] H.length) .pure H [ResultVar.tmp 2]) (mkR Try.prog cfg ok [0, 2, 3, 5, 7] H.length) (L :: R) .nrm [some (.int .i64 (k : Int)), x2, some (.str out), x5, x7] H1 =
        some (.str (⟨#[109]⟩ ++ (if k = 0 then out else decT k ++ out)), H) := by
    intro m
    induction m with
    | zero =>
      intro k out x2 x5 x7 H1 hk h4 hs
      have k0 : k = 0 := by omega
      subst k0
      rw [← hL, ← hR, zEv_loop]
      simp (config := {contextual := true, maxSteps := 10000000, implicitDefEqProofs := false}) (disch := first | (and_intros <;> omega -splitDisjunctions) | (simp only [List.length_set, List.length_append, List.length_cons, List.length_nil]; and_intros <;> omega -splitDisjunctions) | fail) only [Try.f37, go_sem, ↓reduceIte, Nat.reduceEqDiff, Nat.reduceAdd, Nat.reduceMul, Nat.reduceLT, Nat.reduceLeDiff, reduceCtorEq, Int.reduceNe, Int.reduceEq, Int.reduceLT, Int.reduceLE, Int.reduceAdd, Int.reduceSub, Int.reduceMul, Int.reduceNeg, Int.reduceToNat, UInt8.reduceToNat, natLit, ty3, ty5, ty9, ty98]

    | succ m ih =>
      intro k out x2 x5 x7 H1 hk h4 hs
      have hq : ((k : Int)).tdiv 10 = ((k / 10 : Nat) : Int) := (Int.ofNat_tdiv k 10).symm
      have hr : ((k : Int)).tmod 10 = ((k % 10 : Nat) : Int) := (Int.ofNat_tmod k 10).symm
      have hz : ∀ x y : ByteArray, (x ++ y).size = x.size + y.size := fun x y => ByteArray.size_append
      have hd : ∀ n, (dig n).size = 1 := fun n => rfl
      rw [← hL, ← hR, zEv_loop]
      simp (config := {contextual := true, maxSteps := 10000000, implicitDefEqProofs := false}) (disch := first | (and_intros <;> omega -splitDisjunctions) | (simp only [List.length_set, List.length_append, List.length_cons, List.length_nil]; and_intros <;> omega -splitDisjunctions) | fail) only [hq, hr, dig_eq, hd, Try.f37, go_sem, ↓reduceIte, Nat.reduceEqDiff, Nat.reduceAdd, Nat.reduceMul, Nat.reduceLT, Nat.reduceLeDiff, reduceCtorEq, Int.reduceNe, Int.reduceEq, Int.reduceLT, Int.reduceLE, Int.reduceAdd, Int.reduceSub, Int.reduceMul, Int.reduceNeg, Int.reduceToNat, UInt8.reduceToNat, natLit, ty3, ty5, ty9, ty98]
      rw [hL, hR]
      split
      · rename_i hk0
        rw [ih (k / 10) (dig (k % 10) ++ out) _ _ _ _ (by omega) (by omega) (by rw [hz, hd]; omega), dec_step k out (by omega), if_neg (by omega)]
      · rw [if_pos (by omega)]
  have hk2 : ((k.toNat : Nat) : Int) = k := by omega
  have := fun x2 x5 x7 => key k.toNat k.toNat ⟨#[]⟩ x2 x5 x7 H (Nat.le_refl _) (by omega) (by simp [size_lit]; omega)
  rw [hk2, if_neg (by omega), app_nil] at this
  exact this _ _ _
theorem opn_string {H : LH} {x : V} (h : ShpA (ty Try.prog) 12 9 H x) : ∃ s : ByteArray, x = .str s ∧ s.size ≤ 9223372036854775807 := by
  unfold ShpA at h
  rw [ty9] at h
  simp only [Shp, ty9] at h
  obtain ⟨s, h, z⟩ := h
  injection h with h _
  exact ⟨s, h, z⟩
theorem opn_int {H : LH} {x : V} (h : ShpA (ty Try.prog) 12 3 H x) : ∃ n : Int, x = .int .i64 n ∧ (Lit.int .i64 n).wf = true := by
  unfold ShpA at h
  rw [ty3] at h
  simp only [Shp, ty3] at h
  obtain ⟨n, h, z⟩ := h
  injection h with h _
  exact ⟨n, h, z⟩
theorem opn_bool {H : LH} {x : V} (h : ShpA (ty Try.prog) 12 4 H x) : ∃ b : Bool, x = .bool b := by
  unfold ShpA at h
  rw [ty4] at h
  simp only [Shp, ty4] at h
  obtain ⟨b, h⟩ := h
  injection h with h _
  exact ⟨b, h⟩
end Go.Proofs.Ytcbjmggbbnpbpaa.Lg
namespace Go.Proofs.Ytcbjmggbbnpbpaa.Lg
set_option linter.unusedSimpArgs false
set_option linter.unusedVariables false
set_option maxRecDepth 100000
set_option maxHeartbeats 40000000
open Go.Proofs.Ytcbjmggbbnpbpaa

/-- a value of Seg -/
structure Sg where
  kind : Int
  n : Int
  text : ByteArray
  deriving DecidableEq
def sgC (e : Sg) : List V := [.int .i64 e.kind, .int .i64 e.n, .str e.text]
theorem sgC_len (e : Sg) : (sgC e).length = 3 := rfl
def sg0 : Sg := ⟨0, 0, ⟨#[]⟩⟩
/-- its measure -/
def sgCW (e : Sg) : Int := (e.text.size : Int)
def sgCFit (e : Sg) : Prop := e.text.size ≤ 9223372036854775807
theorem run_toSeg (e : Sg) (fl : Nat) (H : LH) : run 74 [.agg (sgC e)] fl H = some (.agg (sgC e), H) := by
  unfold run sgC
  rw [Run_z Try.func74 rfl (by rfl : ok 74 = true) (by rfl : cfg.keep 74 = [0, 1, 2, 3]) (by rfl : cfg.mode 74 = .pure) (by rfl : cfg.ord 74 = [])]
  simp (config := {contextual := true, maxSteps := 10000000, implicitDefEqProofs := false}) (disch := first | (and_intros <;> omega -splitDisjunctions) | (simp only [List.length_set, List.length_append, List.length_cons, List.length_nil]; and_intros <;> omega -splitDisjunctions) | fail) only [Try.f74, go_sem, ↓reduceIte, Nat.reduceEqDiff, Nat.reduceAdd, Nat.reduceMul, Nat.reduceLT, Nat.reduceLeDiff, reduceCtorEq, Int.reduceNe, Int.reduceEq, Int.reduceLT, Int.reduceLE, Int.reduceAdd, Int.reduceSub, Int.reduceMul, Int.reduceNeg, Int.reduceToNat, UInt8.reduceToNat, natLit, ty3, ty9, ty81, ty100]
theorem run_eqSeg (a b : Sg) (fl : Nat) (H : LH) : run 82 [.agg (sgC a), .agg (sgC b)] fl H = some (.bool (decide (a = b)), H) := by
  unfold run sgC
  rw [Run_z Try.func82 rfl (by rfl : ok 82 = true) (by rfl : cfg.keep 82 = [0, 1, 2, 3, 4, 9, 14, 19]) (by rfl : cfg.mode 82 = .pure) (by rfl : cfg.ord 82 = [])]
  simp (config := {contextual := true, maxSteps := 10000000, implicitDefEqProofs := false}) (disch := first | (and_intros <;> omega -splitDisjunctions) | (simp only [List.length_set, List.length_append, List.length_cons, List.length_nil]; and_intros <;> omega -splitDisjunctions) | fail) only [Try.f82, go_sem, ↓reduceIte, Nat.reduceEqDiff, Nat.reduceAdd, Nat.reduceMul, Nat.reduceLT, Nat.reduceLeDiff, reduceCtorEq, Int.reduceNe, Int.reduceEq, Int.reduceLT, Int.reduceLE, Int.reduceAdd, Int.reduceSub, Int.reduceMul, Int.reduceNeg, Int.reduceToNat, UInt8.reduceToNat, natLit, ty3, ty9, ty81]
  cases a; cases b
  simp only [Sg.mk.injEq]
  grind
theorem run_szSeg (e : Sg) (left : Int) (fl : Nat) (H : LH) (h : 0 ≤ left) (h2 : left ≤ 1048576) (h3 : sgCFit e) :
    run 67 [.agg (sgC e), .int .i64 left] fl H = some (.int .i64 (if left < sgCW e then -1 else left - sgCW e), H) := by
  unfold sgCFit at h3
  unfold run sgC
  rw [Run_z Try.func67 rfl (by rfl : ok 67 = true) (by rfl : cfg.keep 67 = [0, 1, 2, 4, 11]) (by rfl : cfg.mode 67 = .pure) (by rfl : cfg.ord 67 = [])]
  simp (config := {contextual := true, maxSteps := 10000000, implicitDefEqProofs := false}) (disch := first | (and_intros <;> omega -splitDisjunctions) | (simp only [List.length_set, List.length_append, List.length_cons, List.length_nil]; and_intros <;> omega -splitDisjunctions) | fail) only [Try.f67, go_sem, ↓reduceIte, Nat.reduceEqDiff, Nat.reduceAdd, Nat.reduceMul, Nat.reduceLT, Nat.reduceLeDiff, reduceCtorEq, Int.reduceNe, Int.reduceEq, Int.reduceLT, Int.reduceLE, Int.reduceAdd, Int.reduceSub, Int.reduceMul, Int.reduceNeg, Int.reduceToNat, UInt8.reduceToNat, natLit, ty3, ty9, ty100]
  unfold sgCW
  (repeat' split) <;> first | (exfalso; omega) | rfl | (congr 3; omega)
theorem shp_Seg {n : Nat} {H : LH} (cs : List V) (h : Shp (ty Try.prog) (n + 2) 100 H cs) : ∃ e : Sg, cs = sgC e ∧ sgCFit e := by
  simp only [Shp, ShpF, ty3, ty9, ty100] at h
  obtain ⟨_, _, rfl, ⟨a0, rfl, _⟩, _, _, rfl, ⟨a1, rfl, _⟩, _, _, rfl, ⟨a2, rfl, z2⟩, rfl⟩ := h
  exact ⟨⟨a0, a1, a2⟩, rfl, z2⟩
theorem opn_Seg {H : LH} {x : V} (h : ShpA (ty Try.prog) 12 100 H x) : ∃ e : Sg, x = .agg (sgC e) ∧ sgCFit e := by
  unfold ShpA at h
  rw [ty100] at h
  obtain ⟨cs, rfl, h⟩ := h
  obtain ⟨e, rfl, f⟩ := shp_Seg (n := 10) cs h
  exact ⟨e, rfl, f⟩
theorem opn_SegS {H : LH} {x : V} (h : ShpA (ty Try.prog) 12 44 H x) : ∃ xs : List Sg, At H sgC 3 x xs ∧ xs.length ≤ 9223372036854775807 ∧ ∀ e ∈ xs, sgCFit e := by
  unfold ShpA at h
  rw [ty44] at h
  exact shp_slice ty44 (by simp only [sizeO, ty3, ty9, ty44, ty100]) sgC_len (fun cs h => shp_Seg (n := 9) cs h) h
theorem run_toSegS (v : V) (xs : List Sg) (fl : Nat) (H : LH) (h : At H sgC 3 v xs) (hx : xs.length ≤ 1048576) :
    run 49 [v] fl H = some (.sl H.length 0 3 xs.length xs.length, H ++ [.cells (rows sgC xs)]) := by
  have e1 := fun e fl H => run_toSeg e fl H
  have f1 := h.isTup; have f2 := h.len; have f3 := h.lenOk ty44
  have f4 := fun L (hp : 0 < xs.length) => (h.left (L := L)).con hp
  have f5 := h.idx (T := ty Try.prog) (t := 44) (by simp only [elemI, sizeO, ty3, ty9, ty44, ty100])
  unfold run at *
  rw [Run_z Try.func49 rfl (by rfl : ok 49 = true) (by rfl : cfg.keep 49 = [0, 2, 3, 4, 11]) (by rfl : cfg.mode 49 = .fresh) (by rfl : cfg.ord 49 = [])]
  simp (config := {contextual := true, maxSteps := 10000000, implicitDefEqProofs := false}) (disch := first | (and_intros <;> omega -splitDisjunctions) | (simp only [List.length_set, List.length_append, List.length_cons, List.length_nil]; and_intros <;> omega -splitDisjunctions) | fail) only [e1, f1, f2, f3, Try.f49, go_sem, ↓reduceIte, Nat.reduceEqDiff, Nat.reduceAdd, Nat.reduceMul, Nat.reduceLT, Nat.reduceLeDiff, reduceCtorEq, Int.reduceNe, Int.reduceEq, Int.reduceLT, Int.reduceLE, Int.reduceAdd, Int.reduceSub, Int.reduceMul, Int.reduceNeg, Int.reduceToNat, UInt8.reduceToNat, natLit, ty3, ty9, ty44, ty47, ty81, ty100]
  generalize hL : K.code (Code.loop _) = L
  generalize hR : (K.blk _ :: _ : List K) = R
  have key : ∀ (d i : Nat) (x11 : Option V) (ys : List Sg), xs.length - i = d → i ≤ xs.length → ys = xs.take i ++ List.replicate (xs.length - i) sg0 →
      zEv (leaveX (mkR Try.prog cfg ok [0, 2, 3, 4, 11] H.length) .fresh H [ResultVar.tmp 2]) (mkR Try.prog cfg ok [0, 2, 3, 4, 11] H.length) (L :: R) .nrm [some v, some .nilsl, some (.sl H.length 0 3 xs.length xs.length), some (.int .i64 i), x11] (H ++ [.cells (rows sgC ys)]) =
      some (.sl H.length 0 3 xs.length xs.length, H ++ [.cells (rows sgC xs)]) := by
    intro d
    induction d using Nat.strongRecOn with
    | _ d ih =>
    intro i x11 ys hd hi hys
    have hyl : ys.length = xs.length := by rw [hys]; simp; omega
    have g1 := rows_len sgC_len ys
    rw [hyl] at g1
    have g2 : i < xs.length → putAt (rows sgC ys) (i * 3) (sgC (xs.getD i sg0)) = rows sgC (ys.set i (xs.getD i sg0)) := fun hi => by
      have := rows_putD (enc := sgC) (j := 0) (xs := ys) sgC_len sg0 i (by omega) (ws := sgC (xs.getD i sg0)) (by simp [sgC_len]) _ rfl
      simpa using this
    have g3 := fun L => (h.left (L := L)).loadD sgC_len sg0
    have g4 : ∀ x : Sg, (sgC x).length = 3 := sgC_len
    skip
    rw [← hL, ← hR, zEv_loop]
    simp (config := {contextual := true, maxSteps := 10000000, implicitDefEqProofs := false}) (disch := first | (and_intros <;> omega -splitDisjunctions) | (simp only [List.length_set, List.length_append, List.length_cons, List.length_nil]; and_intros <;> omega -splitDisjunctions) | fail) only [e1, f1, f2, f3, f4, f5, g1, g2, g3, g4, Try.f49, go_sem, ↓reduceIte, Nat.reduceEqDiff, Nat.reduceAdd, Nat.reduceMul, Nat.reduceLT, Nat.reduceLeDiff, reduceCtorEq, Int.reduceNe, Int.reduceEq, Int.reduceLT, Int.reduceLE, Int.reduceAdd, Int.reduceSub, Int.reduceMul, Int.reduceNeg, Int.reduceToNat, UInt8.reduceToNat, natLit, ty3, ty9, ty44, ty47, ty81, ty100]
    rw [hL, hR]
    split
    · rename_i hlt
      have hlt : i < xs.length := by omega
      rw [show (i : Int) + 1 = ((i + 1 : Nat) : Int) by omega]
      refine ih (xs.length - (i + 1)) (by omega) (i + 1) _ _ rfl (by omega) ?_
      rw [hys, copy_step hlt]
    · rename_i hge
      have : i = xs.length := by omega
      subst this
      rw [hys, List.take_of_length_le (Nat.le_refl _), Nat.sub_self]
      simp
  have := fun x11 => key xs.length 0 x11 (List.replicate xs.length sg0) (by simp) (by simp) (by simp)
  simp only [rows_replicate] at this
  exact this _
theorem run_eqSegS (v w : V) (xs ys : List Sg) (fl : Nat) (H : LH) (h : At H sgC 3 v xs) (h' : At H sgC 3 w ys) (hx : xs.length ≤ 1099511627776) (hy : ys.length ≤ 1099511627776) :
    run 65 [v, w] fl H = some (.bool (decide (xs = ys)), H) := by
  have e1 := fun a b fl H => run_eqSeg a b fl H
  have f1 := h.isTup; have f2 := h.len; have f3 := h.lenOk ty47
  have f4 := fun L (hp : 0 < xs.length) => (h.left (L := L)).con hp
  have f5 := h.idx (T := ty Try.prog) (t := 47) (by simp only [elemI, sizeO, ty3, ty9, ty47, ty81])
  have g1 := h'.isTup; have g2 := h'.len; have g3 := h'.lenOk ty47
  have g4 := fun L (hp : 0 < ys.length) => (h'.left (L := L)).con hp
  have g5 := h'.idx (T := ty Try.prog) (t := 47) (by simp only [elemI, sizeO, ty3, ty9, ty47, ty81])
  have f4' := fun (hp : 0 < xs.length) => h.con hp
  have g4' := fun (hp : 0 < ys.length) => h'.con hp
  have f6 := fun L => (h.left (L := L)).loadD sgC_len sg0
  have g6 := fun L => (h'.left (L := L)).loadD sgC_len sg0
  have f6' := h.loadD sgC_len sg0
  have g6' := h'.loadD sgC_len sg0
  unfold run at *
  rw [Run_z Try.func65 rfl (by rfl : ok 65 = true) (by rfl : cfg.keep 65 = [0, 1, 4, 5, 10, 14, 26]) (by rfl : cfg.mode 65 = .pure) (by rfl : cfg.ord 65 = [])]
  by_cases hl : xs.length = ys.length
  · simp (config := {contextual := true, maxSteps := 10000000, implicitDefEqProofs := false}) (disch := first | (and_intros <;> omega -splitDisjunctions) | (simp only [List.length_set, List.length_append, List.length_cons, List.length_nil]; and_intros <;> omega -splitDisjunctions) | fail) only [hl, e1, f1, f2, f3, g1, g2, g3, Try.f65, go_sem, ↓reduceIte, Nat.reduceEqDiff, Nat.reduceAdd, Nat.reduceMul, Nat.reduceLT, Nat.reduceLeDiff, reduceCtorEq, Int.reduceNe, Int.reduceEq, Int.reduceLT, Int.reduceLE, Int.reduceAdd, Int.reduceSub, Int.reduceMul, Int.reduceNeg, Int.reduceToNat, UInt8.reduceToNat, natLit, ty3, ty4, ty9, ty47, ty81]
    generalize hL : K.code (Code.loop _) = L
    generalize hR : (K.blk _ :: _ : List K) = R
    have key : ∀ (d i : Nat) (x4 x10 x14 x26 : Option V), xs.length - i = d → i ≤ xs.length →
        zEv (leaveX (mkR Try.prog cfg ok [0, 1, 4, 5, 10, 14, 26] H.length) .pure H [ResultVar.tmp 4]) (mkR Try.prog cfg ok [0, 1, 4, 5, 10, 14, 26] H.length) (L :: R) .nrm [some v, some w, x4, some (.int .i64 i), x10, x14, x26] H =
        some (.bool (decide (xs.drop i = ys.drop i)), H) := by
      intro d
      induction d using Nat.strongRecOn with
      | _ d ih =>
      intro i x4 x10 x14 x26 hd hi
      rw [← hL, ← hR, zEv_loop]
      simp (config := {contextual := true, maxSteps := 10000000, implicitDefEqProofs := false}) (disch := first | (and_intros <;> omega -splitDisjunctions) | (simp only [List.length_set, List.length_append, List.length_cons, List.length_nil]; and_intros <;> omega -splitDisjunctions) | fail) only [e1, f1, f2, f3, f4', f5, f6', g1, g2, g3, g4', g5, g6', Try.f65, go_sem, ↓reduceIte, Nat.reduceEqDiff, Nat.reduceAdd, Nat.reduceMul, Nat.reduceLT, Nat.reduceLeDiff, reduceCtorEq, Int.reduceNe, Int.reduceEq, Int.reduceLT, Int.reduceLE, Int.reduceAdd, Int.reduceSub, Int.reduceMul, Int.reduceNeg, Int.reduceToNat, UInt8.reduceToNat, natLit, ty3, ty4, ty9, ty47, ty81]
      rw [hL, hR]
      split
      · rename_i hlt
        have hlt : i < xs.length := by omega
        have hlt' : i < ys.length := by omega
        rw [show (i : Int) + 1 = ((i + 1 : Nat) : Int) by omega, ih (xs.length - (i + 1)) (by omega) (i + 1) _ _ _ _ rfl (by omega), getD_of hlt, getD_of hlt', List.drop_eq_getElem_cons hlt, List.drop_eq_getElem_cons hlt']
        by_cases e : xs[i] = ys[i] <;> simp only [e, List.cons.injEq, true_and, false_and, not_true_eq_false, not_false_eq_true, if_true, if_false, decide_false]
      · rw [List.drop_of_length_le (by omega), List.drop_of_length_le (by omega)]
        rfl
    exact (key xs.length 0 _ _ _ _ rfl (Nat.zero_le _)).trans (by rw [List.drop_zero, List.drop_zero])
  · have h2 : ¬ xs = ys := fun e => hl (by rw [e])
    have h3 : ¬ (xs.length : Int) = (ys.length : Int) := by omega
    simp (config := {contextual := true, maxSteps := 10000000, implicitDefEqProofs := false}) (disch := first | (and_intros <;> omega -splitDisjunctions) | (simp only [List.length_set, List.length_append, List.length_cons, List.length_nil]; and_intros <;> omega -splitDisjunctions) | fail) only [h2, h3, e1, f1, f2, f3, g1, g2, g3, Try.f65, go_sem, ↓reduceIte, Nat.reduceEqDiff, Nat.reduceAdd, Nat.reduceMul, Nat.reduceLT, Nat.reduceLeDiff, reduceCtorEq, Int.reduceNe, Int.reduceEq, Int.reduceLT, Int.reduceLE, Int.reduceAdd, Int.reduceSub, Int.reduceMul, Int.reduceNeg, Int.reduceToNat, UInt8.reduceToNat, natLit, ty3, ty4, ty9, ty47, ty81]
theorem run_szSegS (v : V) (xs : List Sg) (left : Int) (fl : Nat) (H : LH) (h : At H sgC 3 v xs) (h0 : 0 ≤ left) (h2 : left ≤ 1048576) (hx : xs.length ≤ 9223372036854775807) (hf : ∀ x ∈ xs, sgCFit x) :
    run 40 [v, .int .i64 left] fl H = some (.int .i64 (if left < xs.length + sumZ sgCW xs then -1 else left - (xs.length + sumZ sgCW xs)), H) := by
  have e1 := fun i (hi : i < xs.length) l hl hl2 fl H => run_szSeg (xs.getD i sg0) l fl H hl hl2 (by rw [getD_of hi]; exact hf _ (List.getElem_mem hi))
  have f1 := h.isTup; have f2 := h.len; have f3 := h.lenOk ty44
  have f4 := fun (hp : 0 < xs.length) => h.con hp
  have f5 := h.idx (T := ty Try.prog) (t := 44) (by simp only [elemI, sizeO, ty3, ty9, ty44, ty100])
  have f6 := h.loadD sgC_len sg0
  have w0 : ∀ x, 0 ≤ sgCW x := fun x => by unfold sgCW; omega
  have w1 := sumZ_nonneg w0 xs
  unfold run at *
  rw [Run_z Try.func40 rfl (by rfl : ok 40 = true) (by rfl : cfg.keep 40 = [0, 1, 4, 5, 11, 15, 25]) (by rfl : cfg.mode 40 = .pure) (by rfl : cfg.ord 40 = [])]
  simp (config := {contextual := true, maxSteps := 10000000, implicitDefEqProofs := false}) (disch := first | (and_intros <;> omega -splitDisjunctions) | (simp only [List.length_set, List.length_append, List.length_cons, List.length_nil]; and_intros <;> omega -splitDisjunctions) | fail) only [e1, f1, f2, f3, Try.f40, go_sem, ↓reduceIte, Nat.reduceEqDiff, Nat.reduceAdd, Nat.reduceMul, Nat.reduceLT, Nat.reduceLeDiff, reduceCtorEq, Int.reduceNe, Int.reduceEq, Int.reduceLT, Int.reduceLE, Int.reduceAdd, Int.reduceSub, Int.reduceMul, Int.reduceNeg, Int.reduceToNat, UInt8.reduceToNat, natLit, ty3, ty9, ty44, ty100]
  by_cases hl : left - xs.length < 0
  · rw [if_pos hl, if_pos (by omega)]
  rw [if_neg hl]
  generalize hL : K.code (Code.loop _) = L
  generalize hR : (K.blk _ :: _ : List K) = R
  have key : ∀ (d i : Nat) (x4 x11 x15 x25 : Option V) (l : Int), xs.length - i = d → i ≤ xs.length → 0 ≤ l → l ≤ 1048576 →
      zEv (leaveX (mkR Try.prog cfg ok [0, 1, 4, 5, 11, 15, 25] H.length) .pure H [ResultVar.tmp 4]) (mkR Try.prog cfg ok [0, 1, 4, 5, 11, 15, 25] H.length) (L :: R) .nrm [some v, some (.int .i64 l), x4, some (.int .i64 i), x11, x15, x25] H =
      some (.int .i64 (if l < sumZ sgCW (xs.drop i) then -1 else l - sumZ sgCW (xs.drop i)), H) := by
    intro d
    induction d using Nat.strongRecOn with
    | _ d ih =>
    intro i x4 x11 x15 x25 l hd hi hl0 hl1
    have w2 := w0 (xs.getD i sg0)
    have w4 := sumZ_nonneg w0 (xs.drop (i + 1))
    rw [← hL, ← hR, zEv_loop]
    simp (config := {contextual := true, maxSteps := 10000000, implicitDefEqProofs := false}) (disch := first | (and_intros <;> omega -splitDisjunctions) | (simp only [List.length_set, List.length_append, List.length_cons, List.length_nil]; and_intros <;> omega -splitDisjunctions) | fail) only [e1, f1, f2, f3, f4, f5, f6, Try.f40, go_sem, ↓reduceIte, Nat.reduceEqDiff, Nat.reduceAdd, Nat.reduceMul, Nat.reduceLT, Nat.reduceLeDiff, reduceCtorEq, Int.reduceNe, Int.reduceEq, Int.reduceLT, Int.reduceLE, Int.reduceAdd, Int.reduceSub, Int.reduceMul, Int.reduceNeg, Int.reduceToNat, UInt8.reduceToNat, natLit, ty3, ty9, ty44, ty100]
    rw [hL, hR]
    split
    · rename_i hlt
      have hlt : i < xs.length := by omega
      rw [List.drop_eq_getElem_cons hlt, ← getD_of hlt sg0, sumZ_cons]
      by_cases hw : l < sgCW (xs.getD i sg0)
      · rw [if_pos (by rw [if_pos hw]; omega), if_pos (by omega)]
      · rw [if_neg (by rw [if_neg hw]; omega), show (i : Int) + 1 = ((i + 1 : Nat) : Int) by omega, if_neg hw, ih (xs.length - (i + 1)) (by omega) (i + 1) _ _ _ _ _ rfl (by omega) (by omega) (by omega)]
        split <;> split <;> first | rfl | (exfalso; omega) | (congr 3; omega)
    · rw [List.drop_of_length_le (by omega), sumZ_nil, if_neg (by omega), Int.sub_zero]
  refine (key xs.length 0 _ _ _ _ (left - xs.length) rfl (Nat.zero_le _) (by omega) (by omega)).trans ?_
  rw [List.drop_zero]
  split <;> split <;> first | rfl | (exfalso; omega) | (congr 3; omega)
/-- the mark of a value -/
def mkSeg (k : Int) : Sg := ⟨k, (k + 1), mText (k + 2)⟩
theorem run_markSegS (b : Nat) (xs : List Sg) (k0 : Int) (fl : Nat) (H : LH) (h : H.cellsAt b = some (rows sgC xs)) (hb : fl ≤ b) (h0 : 0 ≤ k0) (h1 : k0 ≤ 1099511627776) (hx : xs.length ≤ 1099511627776) :
    run 38 [.sl b 0 3 xs.length xs.length, .int .i64 k0] fl H = some (.int .i64 (k0 + xs.length * 3), H.set b (.cells (rows sgC (marksF mkSeg 3 xs.length k0)))) := by
  have m1 := fun k (h0 : 0 ≤ k) (h1 : k ≤ 4611686018427387904) fl H => run_markText k h0 h1 fl H
  have hbl := cellsAt_lt h
  unfold run at *
  rw [Run_z Try.func38 rfl (by rfl : ok 38 = true) (by rfl : cfg.keep 38 = [0, 1, 4, 5, 9]) (by rfl : cfg.mode 38 = .any) (by rfl : cfg.ord 38 = [])]
  simp (config := {contextual := true, maxSteps := 10000000, implicitDefEqProofs := false}) (disch := first | (and_intros <;> omega -splitDisjunctions) | (simp only [List.length_set, List.length_append, List.length_cons, List.length_nil]; and_intros <;> omega -splitDisjunctions) | fail) only [m1, Try.f38, go_sem, ↓reduceIte, Nat.reduceEqDiff, Nat.reduceAdd, Nat.reduceMul, Nat.reduceLT, Nat.reduceLeDiff, reduceCtorEq, Int.reduceNe, Int.reduceEq, Int.reduceLT, Int.reduceLE, Int.reduceAdd, Int.reduceSub, Int.reduceMul, Int.reduceNeg, Int.reduceToNat, UInt8.reduceToNat, natLit, ty3, ty9, ty47, ty81]
  generalize hL : K.code (Code.loop _) = L
  generalize hR : (K.blk _ :: _ : List K) = R
  have key : ∀ (d i : Nat) (x4 x9 : Option V) (ys : List Sg), xs.length - i = d → i ≤ xs.length → ys = marksF mkSeg 3 i k0 ++ xs.drop i →
      zEv (leaveX (mkR Try.prog cfg ok [0, 1, 4, 5, 9] fl) .any H [ResultVar.tmp 4]) (mkR Try.prog cfg ok [0, 1, 4, 5, 9] fl) (L :: R) .nrm [some (.sl b 0 3 xs.length xs.length), some (.int .i64 (k0 + i * 3)), x4, some (.int .i64 i), x9] (H.set b (.cells (rows sgC ys))) =
      some (.int .i64 (k0 + xs.length * 3), H.set b (.cells (rows sgC (marksF mkSeg 3 xs.length k0)))) := by
    intro d
    induction d using Nat.strongRecOn with
    | _ d ih =>
    intro i x4 x9 ys hd hi hys
    have hyl : ys.length = xs.length := by rw [hys]; simp [marksF_len]; omega
    have g1 := rows_len sgC_len ys
    rw [hyl] at g1
    have g2 : i < xs.length → putAt (rows sgC ys) (i * 3) (sgC (mkSeg (k0 + i * 3))) = rows sgC (ys.set i (mkSeg (k0 + i * 3))) := fun hi => by
      have := rows_putD (enc := sgC) (j := 0) (xs := ys) sgC_len sg0 i (by omega) (ws := sgC (mkSeg (k0 + i * 3))) (by simp [sgC_len]) _ rfl
      simpa using this
    have g5 : fl ≤ b := hb
    simp only [sgC, mkSeg, putAt, Int.add_assoc, Nat.add_assoc, Nat.reduceAdd, Int.reduceAdd] at g2
    rw [← hL, ← hR, zEv_loop]
    simp (config := {contextual := true, maxSteps := 10000000, implicitDefEqProofs := false}) (disch := first | (and_intros <;> omega -splitDisjunctions) | (simp only [List.length_set, List.length_append, List.length_cons, List.length_nil]; and_intros <;> omega -splitDisjunctions) | fail) only [m1, cellsAt_set, g1, g2, g5, Int.add_assoc, List.length_set, Try.f38, go_sem, ↓reduceIte, Nat.reduceEqDiff, Nat.reduceAdd, Nat.reduceMul, Nat.reduceLT, Nat.reduceLeDiff, reduceCtorEq, Int.reduceNe, Int.reduceEq, Int.reduceLT, Int.reduceLE, Int.reduceAdd, Int.reduceSub, Int.reduceMul, Int.reduceNeg, Int.reduceToNat, UInt8.reduceToNat, natLit, ty3, ty9, ty47, ty81]
    rw [hL, hR]
    split
    · rename_i hlt
      have hlt : i < xs.length := by omega
      have ms := mark_step (mk := mkSeg) (f := 3) (k := k0) hlt
      simp only [mkSeg, Int.mul_one, Int.add_assoc] at ms
      rw [hys, ms, show (i : Int) + 1 = ((i + 1 : Nat) : Int) by omega, show (i : Int) * 3 + 3 = ((i + 1 : Nat) : Int) * 3 by omega]
      exact ih (xs.length - (i + 1)) (by omega) (i + 1) _ _ _ rfl (by omega) rfl
    · have : i = xs.length := by omega
      subst this
      rw [hys, List.drop_length, List.append_nil]
  have := fun x4 x9 => key xs.length 0 x4 x9 xs rfl (Nat.zero_le _) (by simp [marksF])
  simp only [set_same h] at this
  simpa using this _ _
theorem run_markSegO {f0 : Nat} (v : V) (xs : List Sg) (k0 : Int) (fl : Nat) (H : LH) (h : Own f0 H sgC 3 v xs) (hb : fl ≤ f0) (h0 : 0 ≤ k0) (h1 : k0 ≤ 1099511627776) (hx : xs.length ≤ 1099511627776) :
    run 38 [v, .int .i64 k0] fl H = some (.int .i64 (k0 + xs.length * 3), setV H v (rows sgC (marksF mkSeg 3 xs.length k0))) := by
  rcases h with ⟨rfl, rfl | rfl⟩ | ⟨b, rfl, h2, h3⟩
  · unfold run
    rw [Run_z Try.func38 rfl (by rfl : ok 38 = true) (by rfl : cfg.keep 38 = [0, 1, 4, 5, 9]) (by rfl : cfg.mode 38 = .any) (by rfl : cfg.ord 38 = [])]
    simp (config := {contextual := true, maxSteps := 10000000, implicitDefEqProofs := false}) (disch := first | (and_intros <;> omega -splitDisjunctions) | (simp only [List.length_set, List.length_append, List.length_cons, List.length_nil]; and_intros <;> omega -splitDisjunctions) | fail) only [Try.f38, go_sem, ↓reduceIte, Nat.reduceEqDiff, Nat.reduceAdd, Nat.reduceMul, Nat.reduceLT, Nat.reduceLeDiff, reduceCtorEq, Int.reduceNe, Int.reduceEq, Int.reduceLT, Int.reduceLE, Int.reduceAdd, Int.reduceSub, Int.reduceMul, Int.reduceNeg, Int.reduceToNat, UInt8.reduceToNat, natLit, ty3, ty9, ty47, ty81]
    rw [zEv_loop]
    simp (config := {contextual := true, maxSteps := 10000000, implicitDefEqProofs := false}) (disch := first | (and_intros <;> omega -splitDisjunctions) | (simp only [List.length_set, List.length_append, List.length_cons, List.length_nil]; and_intros <;> omega -splitDisjunctions) | fail) only [Try.f38, go_sem, ↓reduceIte, Nat.reduceEqDiff, Nat.reduceAdd, Nat.reduceMul, Nat.reduceLT, Nat.reduceLeDiff, reduceCtorEq, Int.reduceNe, Int.reduceEq, Int.reduceLT, Int.reduceLE, Int.reduceAdd, Int.reduceSub, Int.reduceMul, Int.reduceNeg, Int.reduceToNat, UInt8.reduceToNat, natLit, ty3, ty9, ty47, ty81]
    simp [setV]
  · unfold run
    rw [Run_z Try.func38 rfl (by rfl : ok 38 = true) (by rfl : cfg.keep 38 = [0, 1, 4, 5, 9]) (by rfl : cfg.mode 38 = .any) (by rfl : cfg.ord 38 = [])]
    simp (config := {contextual := true, maxSteps := 10000000, implicitDefEqProofs := false}) (disch := first | (and_intros <;> omega -splitDisjunctions) | (simp only [List.length_set, List.length_append, List.length_cons, List.length_nil]; and_intros <;> omega -splitDisjunctions) | fail) only [Try.f38, go_sem, ↓reduceIte, Nat.reduceEqDiff, Nat.reduceAdd, Nat.reduceMul, Nat.reduceLT, Nat.reduceLeDiff, reduceCtorEq, Int.reduceNe, Int.reduceEq, Int.reduceLT, Int.reduceLE, Int.reduceAdd, Int.reduceSub, Int.reduceMul, Int.reduceNeg, Int.reduceToNat, UInt8.reduceToNat, natLit, ty3, ty9, ty47, ty81]
    rw [zEv_loop]
    simp (config := {contextual := true, maxSteps := 10000000, implicitDefEqProofs := false}) (disch := first | (and_intros <;> omega -splitDisjunctions) | (simp only [List.length_set, List.length_append, List.length_cons, List.length_nil]; and_intros <;> omega -splitDisjunctions) | fail) only [Try.f38, go_sem, ↓reduceIte, Nat.reduceEqDiff, Nat.reduceAdd, Nat.reduceMul, Nat.reduceLT, Nat.reduceLeDiff, reduceCtorEq, Int.reduceNe, Int.reduceEq, Int.reduceLT, Int.reduceLE, Int.reduceAdd, Int.reduceSub, Int.reduceMul, Int.reduceNeg, Int.reduceToNat, UInt8.reduceToNat, natLit, ty3, ty9, ty47, ty81]
    simp [setV]
  · exact run_markSegS b xs k0 fl H h2 (by omega) h0 h1 hx
theorem run_heldSegS (v : V) (m : Nat) (k0 : Int) (fl : Nat) (H : LH) (h : At H sgC 3 v (marksF mkSeg 3 m k0)) (h0 : 0 ≤ k0) (h1 : k0 ≤ 1099511627776) (hx : m ≤ 1099511627776) :
    run 39 [v, .int .i64 k0] fl H = some (.int .i64 (k0 + m * 3), H) := by
  have m1 := fun k (h0 : 0 ≤ k) (h1 : k ≤ 4611686018427387904) fl H => run_markText k h0 h1 fl H
  have f1 := h.isTup; have f2 := h.len; have f3 := h.lenOk ty47
  have f4 := fun (hp : 0 < m) => h.con (by rw [marksF_len]; exact hp)
  have f5 := h.idx (T := ty Try.prog) (t := 47) (by simp only [elemI, sizeO, ty3, ty9, ty47, ty81])
  have q0 := h.loadD0 sgC_len sg0 (fun e => .int .i64 e.kind) (fun _ => rfl)
  have q1 := h.loadDF sgC_len sg0 (fun e => .int .i64 e.n) (j := 1) (fun _ => rfl)
  have q2 := h.loadDF sgC_len sg0 (fun e => .str e.text) (j := 2) (fun _ => rfl)
  have g := marksF_get (mk := mkSeg) (f := 3) m k0
  simp only [marksF_len] at *
  unfold run at *
  rw [Run_z Try.func39 rfl (by rfl : ok 39 = true) (by rfl : cfg.keep 39 = [0, 1, 4, 5, 9, 18, 27, 37]) (by rfl : cfg.mode 39 = .pure) (by rfl : cfg.ord 39 = [])]
  simp (config := {contextual := true, maxSteps := 10000000, implicitDefEqProofs := false}) (disch := first | (and_intros <;> omega -splitDisjunctions) | (simp only [List.length_set, List.length_append, List.length_cons, List.length_nil]; and_intros <;> omega -splitDisjunctions) | fail) only [f1, f2, f3, Try.f39, go_sem, ↓reduceIte, Nat.reduceEqDiff, Nat.reduceAdd, Nat.reduceMul, Nat.reduceLT, Nat.reduceLeDiff, reduceCtorEq, Int.reduceNe, Int.reduceEq, Int.reduceLT, Int.reduceLE, Int.reduceAdd, Int.reduceSub, Int.reduceMul, Int.reduceNeg, Int.reduceToNat, UInt8.reduceToNat, natLit, ty3, ty9, ty47, ty81]
  generalize hL : K.code (Code.loop _) = L
  generalize hR : (K.blk _ :: _ : List K) = R
  have key : ∀ (d i : Nat) (x4 x9 x18 x27 x37 : Option V), m - i = d → i ≤ m →
      zEv (leaveX (mkR Try.prog cfg ok [0, 1, 4, 5, 9, 18, 27, 37] H.length) .pure H [ResultVar.tmp 4]) (mkR Try.prog cfg ok [0, 1, 4, 5, 9, 18, 27, 37] H.length) (L :: R) .nrm [some v, some (.int .i64 (k0 + i * 3)), x4, some (.int .i64 i), x9, x18, x27, x37] H =
      some (.int .i64 (k0 + m * 3), H) := by
    intro d
    induction d using Nat.strongRecOn with
    | _ d ih =>
    intro i x4 x9 x18 x27 x37 hd hi
    have g2 := fun d h => g i d h
    simp only [mkSeg, Int.mul_one] at g2
    rw [← hL, ← hR, zEv_loop]
    simp (config := {contextual := true, maxSteps := 10000000, implicitDefEqProofs := false}) (disch := first | (and_intros <;> omega -splitDisjunctions) | (simp only [List.length_set, List.length_append, List.length_cons, List.length_nil]; and_intros <;> omega -splitDisjunctions) | fail) only [m1, f1, f2, f3, f4, f5, q0, q1, q2, g2, Int.add_assoc, Try.f39, go_sem, ↓reduceIte, Nat.reduceEqDiff, Nat.reduceAdd, Nat.reduceMul, Nat.reduceLT, Nat.reduceLeDiff, reduceCtorEq, Int.reduceNe, Int.reduceEq, Int.reduceLT, Int.reduceLE, Int.reduceAdd, Int.reduceSub, Int.reduceMul, Int.reduceNeg, Int.reduceToNat, UInt8.reduceToNat, natLit, ty3, ty9, ty47, ty81]
    rw [hL, hR]
    split
    · rename_i hlt
      rw [show (i : Int) + 1 = ((i + 1 : Nat) : Int) by omega, show (i : Int) * 3 + 3 = ((i + 1 : Nat) : Int) * 3 by omega]
      exact ih (m - (i + 1)) (by omega) (i + 1) _ _ _ _ _ rfl (by omega)
    · have : i = m := by omega
      subst this
      rfl
  have := fun x4 x9 x18 x27 x37 => key m 0 x4 x9 x18 x27 x37 rfl (Nat.zero_le _)
  simpa using this _ _ _ _ _

end Go.Proofs.Ytcbjmggbbnpbpaa.Lg
namespace Go.Proofs.Ytcbjmggbbnpbpaa.Lg
set_option linter.unusedSimpArgs false
set_option linter.unusedVariables false
set_option maxRecDepth 100000

def sgOk (s : Sg) : Bool := decide ((s.kind = 1 ∨ s.kind = 3) ∧ 0 ≤ s.n ∧ s.n ≤ 4294967295 ∧ s.text = ⟨#[]⟩ ∨ s.kind = 2 ∧ s.n = 0 ∨ (s.kind = 4 ∨ s.kind = 5) ∧ s.n = 0 ∧ s.text = ⟨#[]⟩)
def mtD (f : List Sg → Bool) : List Sg → Bool
  | [] => f []
  | x :: l => f (x :: l) || mtD f l
def mtH (p : Sg) (f : List Sg → Bool) : List Sg → Bool
  | [] => false
  | x :: l => decide (p.kind = 4 ∨ p = x) && f l
/-- does a pattern fit a path? -/
def mt : List Sg → List Sg → Bool
  | [], l => l.isEmpty
  | p :: ps, l => if p.kind = 5 then mtD (mt ps) l else mtH p (mt ps) l
def matchB (ps ls : List Sg) : Bool := ps.all sgOk && (ls.all sgOk && mt ps ls)
theorem mtD_iff {f : List Sg → Bool} : ∀ {l : List Sg}, mtD f l = true ↔ ∃ i, i ≤ l.length ∧ f (l.drop i) = true
  | [] => by
    unfold mtD
    constructor
    · intro h; exact ⟨0, Nat.le_refl _, h⟩
    · rintro ⟨i, hi, h⟩
      have : i = 0 := by simpa using hi
      subst this; exact h
  | x :: l => by
    unfold mtD
    rw [Bool.or_eq_true, mtD_iff]
    constructor
    · rintro (h | ⟨i, hi, h⟩)
      · exact ⟨0, Nat.zero_le _, h⟩
      · exact ⟨i + 1, by simp; omega, h⟩
    · rintro ⟨i, hi, h⟩
      cases i with
      | zero => exact Or.inl h
      | succ i => exact Or.inr ⟨i, by simp at hi; omega, h⟩
theorem mtD_idem {f : List Sg → Bool} (l : List Sg) : mtD (mtD f) l = mtD f l := by
  rw [Bool.eq_iff_iff, mtD_iff, mtD_iff]
  constructor
  · rintro ⟨i, hi, h⟩
    rw [mtD_iff] at h
    obtain ⟨j, hj, h⟩ := h
    rw [List.length_drop] at hj
    exact ⟨i + j, by omega, by rw [List.drop_drop] at h; exact h⟩
  · rintro ⟨i, hi, h⟩
    exact ⟨i, hi, mtD_iff.2 ⟨0, Nat.zero_le _, h⟩⟩
/-- a deep step behind a deep step is left out -/
def onceT : Bool → List Sg → List Sg
  | _, [] => []
  | b, s :: l => if s.kind = 5 ∧ b = true then onceT true l else s :: onceT (decide (s.kind = 5)) l
theorem mt_once : ∀ ps : List Sg, (∀ l, mt (onceT false ps) l = mt ps l) ∧ (∀ l, mtD (mt (onceT true ps)) l = mtD (mt ps) l)
  | [] => ⟨fun _ => rfl, fun _ => rfl⟩
  | s :: qs => by
    obtain ⟨hA, hB⟩ := mt_once qs
    have hA2 : mt (onceT false qs) = mt qs := funext hA
    have A : ∀ l, mt (onceT false (s :: qs)) l = mt (s :: qs) l := by
      intro l
      unfold onceT
      rw [if_neg (by simp)]
      unfold mt
      by_cases h : s.kind = 5
      · rw [if_pos h, if_pos h, decide_eq_true h]; exact hB l
      · rw [if_neg h, if_neg h, decide_eq_false h, hA2]
    refine ⟨A, fun l => ?_⟩
    by_cases h : s.kind = 5
    · have : mt (s :: qs) = mtD (mt qs) := by funext l; rw [mt, if_pos h]
      rw [this, mtD_idem]
      unfold onceT
      rw [if_pos ⟨h, rfl⟩]
      exact hB l
    · have : onceT true (s :: qs) = onceT false (s :: qs) := by
        unfold onceT
        rw [if_neg (fun x => h x.1), if_neg (fun x => h x.1)]
      rw [this, funext A]
/-- the next row of the table -/
def nx (s : Sg) (ls : List Sg) (fits : List Bool) : Nat → Bool
  | 0 => if s.kind = 5 then fits.getD 0 false else false
  | i + 1 => if s.kind = 5 then fits.getD (i + 1) false || nx s ls fits i else fits.getD i false && decide (s.kind = 4 ∨ s = ls.getD i sg0)
def nxL (s : Sg) (ls : List Sg) (fits : List Bool) : List Bool := (List.range (ls.length + 1)).map (nx s ls fits)
theorem nxL_len {s : Sg} {ls : List Sg} {fits : List Bool} : (nxL s ls fits).length = ls.length + 1 := by simp [nxL]
theorem nxL_get {s : Sg} {ls : List Sg} {fits : List Bool} {i : Nat} (h : i ≤ ls.length) : (nxL s ls fits).getD i false = nx s ls fits i := by
  unfold nxL
  rw [List.getD_eq_getElem?_getD, List.getElem?_map, List.getElem?_range (by omega)]
  rfl
theorem nx_deep {s : Sg} {ls : List Sg} {fits : List Bool} (h : s.kind = 5) : ∀ i, nx s ls fits i = true ↔ ∃ j, j ≤ i ∧ fits.getD j false = true
  | 0 => by
    unfold nx
    rw [if_pos h]
    constructor
    · intro h; exact ⟨0, Nat.le_refl _, h⟩
    · rintro ⟨j, hj, h⟩
      have : j = 0 := by omega
      subst this; exact h
  | i + 1 => by
    unfold nx
    rw [if_pos h, Bool.or_eq_true, nx_deep h i]
    constructor
    · rintro (h | ⟨j, hj, h⟩)
      · exact ⟨i + 1, Nat.le_refl _, h⟩
      · exact ⟨j, by omega, h⟩
    · rintro ⟨j, hj, h⟩
      by_cases e : j = i + 1
      · subst e; exact Or.inl h
      · exact Or.inr ⟨j, by omega, h⟩
def Fits (fits : List Bool) (rest ls : List Sg) : Prop := ∃ i, i ≤ ls.length ∧ fits.getD i false = true ∧ mt rest (ls.drop i) = true
theorem fits_step {s : Sg} {ls rest : List Sg} {fits : List Bool} : Fits (nxL s ls fits) rest ls ↔ Fits fits (s :: rest) ls := by
  unfold Fits
  by_cases h5 : s.kind = 5
  · constructor
    · rintro ⟨i, hi, h1, h2⟩
      rw [nxL_get hi, nx_deep h5] at h1
      obtain ⟨j, hj, h1⟩ := h1
      refine ⟨j, by omega, h1, ?_⟩
      rw [mt, if_pos h5, mtD_iff]
      refine ⟨i - j, by rw [List.length_drop]; omega, ?_⟩
      rw [List.drop_drop, show j + (i - j) = i by omega]; exact h2
    · rintro ⟨i, hi, h1, h2⟩
      rw [mt, if_pos h5, mtD_iff] at h2
      obtain ⟨j, hj, h2⟩ := h2
      rw [List.length_drop] at hj
      refine ⟨i + j, by omega, ?_, by rw [List.drop_drop] at h2; exact h2⟩
      rw [nxL_get (by omega), nx_deep h5]
      exact ⟨i, by omega, h1⟩
  · constructor
    · rintro ⟨i, hi, h1, h2⟩
      rw [nxL_get hi] at h1
      cases i with
      | zero => rw [nx, if_neg h5] at h1; cases h1
      | succ i =>
        rw [nx, if_neg h5, Bool.and_eq_true] at h1
        refine ⟨i, by omega, h1.1, ?_⟩
        rw [mt, if_neg h5, List.drop_eq_getElem_cons (by omega), mtH, Bool.and_eq_true]
        refine ⟨?_, h2⟩
        have := h1.2
        rw [List.getD_eq_getElem?_getD, List.getElem?_eq_getElem (by omega)] at this
        exact this
    · rintro ⟨i, hi, h1, h2⟩
      rw [mt, if_neg h5] at h2
      by_cases e : i < ls.length
      · rw [List.drop_eq_getElem_cons e, mtH, Bool.and_eq_true] at h2
        refine ⟨i + 1, by omega, ?_, h2.2⟩
        rw [nxL_get (by omega), nx, if_neg h5, h1, Bool.true_and, List.getD_eq_getElem?_getD, List.getElem?_eq_getElem (by omega)]
        exact h2.1
      · rw [List.drop_of_length_le (by omega)] at h2
        cases h2
def dp (ls : List Sg) : List Sg → List Bool → List Bool
  | [], f => f
  | s :: ps, f => dp ls ps (nxL s ls f)
theorem dp_fits {ls : List Sg} : ∀ (ps : List Sg) (f : List Bool), (dp ls ps f).getD ls.length false = true ↔ Fits f ps ls
  | [], f => by
    unfold dp Fits
    constructor
    · intro h
      exact ⟨ls.length, Nat.le_refl _, h, by rw [List.drop_length]; rfl⟩
    · rintro ⟨i, hi, h1, h2⟩
      have h3 : (ls.drop i).isEmpty = true := h2
      rw [List.isEmpty_iff, List.drop_eq_nil_iff] at h3
      have : i = ls.length := by omega
      subst this; exact h1
  | s :: ps, f => by
    unfold dp
    rw [dp_fits ps, fits_step]
def fits0 (n : Nat) : List Bool := true :: List.replicate n false
theorem dp_mt (ps ls : List Sg) : (dp ls ps (fits0 ls.length)).getD ls.length false = mt ps ls := by
  rw [Bool.eq_iff_iff, dp_fits]
  unfold Fits
  constructor
  · rintro ⟨i, hi, h1, h2⟩
    cases i with
    | zero => exact h2
    | succ i =>
      unfold fits0 at h1
      rw [List.getD_cons_succ, List.getD_eq_getElem?_getD, List.getElem?_replicate] at h1
      split at h1 <;> cases h1
  · intro h
    exact ⟨0, Nat.zero_le _, rfl, h⟩
end Go.Proofs.Ytcbjmggbbnpbpaa.Lg
namespace Go.Proofs.Ytcbjmggbbnpbpaa.Lg
set_option linter.unusedSimpArgs false
set_option linter.unusedVariables false
set_option maxRecDepth 100000
set_option maxHeartbeats 40000000
open Go.Proofs.Ytcbjmggbbnpbpaa

theorem run_isWhite (b : Int) (fl : Nat) (H : LH) : run 94 [.int .i64 b] fl H = some (.bool (decide (b = 32 ∨ b = 9)), H) := by
  unfold run
  rw [Run_z Try.func94 rfl (by rfl : ok 94 = true) (by rfl : cfg.keep 94 = [0, 2]) (by rfl : cfg.mode 94 = .pure) (by rfl : cfg.ord 94 = [])]
  simp (config := {contextual := true, maxSteps := 10000000, implicitDefEqProofs := false}) (disch := first | (and_intros <;> omega -splitDisjunctions) | (simp only [List.length_set, List.length_append, List.length_cons, List.length_nil]; and_intros <;> omega -splitDisjunctions) | fail) only [Try.f94, go_sem, ↓reduceIte, Nat.reduceEqDiff, Nat.reduceAdd, Nat.reduceMul, Nat.reduceLT, Nat.reduceLeDiff, reduceCtorEq, Int.reduceNe, Int.reduceEq, Int.reduceLT, Int.reduceLE, Int.reduceAdd, Int.reduceSub, Int.reduceMul, Int.reduceNeg, Int.reduceToNat, UInt8.reduceToNat, natLit, ty3]
theorem run_isBreak (b : Int) (fl : Nat) (H : LH) : run 95 [.int .i64 b] fl H = some (.bool (decide (b = 10 ∨ b < 0)), H) := by
  unfold run
  rw [Run_z Try.func95 rfl (by rfl : ok 95 = true) (by rfl : cfg.keep 95 = [0, 2]) (by rfl : cfg.mode 95 = .pure) (by rfl : cfg.ord 95 = [])]
  simp (config := {contextual := true, maxSteps := 10000000, implicitDefEqProofs := false}) (disch := first | (and_intros <;> omega -splitDisjunctions) | (simp only [List.length_set, List.length_append, List.length_cons, List.length_nil]; and_intros <;> omega -splitDisjunctions) | fail) only [Try.f95, go_sem, ↓reduceIte, Nat.reduceEqDiff, Nat.reduceAdd, Nat.reduceMul, Nat.reduceLT, Nat.reduceLeDiff, reduceCtorEq, Int.reduceNe, Int.reduceEq, Int.reduceLT, Int.reduceLE, Int.reduceAdd, Int.reduceSub, Int.reduceMul, Int.reduceNeg, Int.reduceToNat, UInt8.reduceToNat, natLit, ty3]
theorem run_isFlow (b : Int) (fl : Nat) (H : LH) : run 96 [.int .i64 b] fl H = some (.bool (decide (b = 44 ∨ b = 91 ∨ b = 93 ∨ b = 123 ∨ b = 125)), H) := by
  unfold run
  rw [Run_z Try.func96 rfl (by rfl : ok 96 = true) (by rfl : cfg.keep 96 = [0, 2]) (by rfl : cfg.mode 96 = .pure) (by rfl : cfg.ord 96 = [])]
  simp (config := {contextual := true, maxSteps := 10000000, implicitDefEqProofs := false}) (disch := first | (and_intros <;> omega -splitDisjunctions) | (simp only [List.length_set, List.length_append, List.length_cons, List.length_nil]; and_intros <;> omega -splitDisjunctions) | fail) only [or_assoc, Try.f96, go_sem, ↓reduceIte, Nat.reduceEqDiff, Nat.reduceAdd, Nat.reduceMul, Nat.reduceLT, Nat.reduceLeDiff, reduceCtorEq, Int.reduceNe, Int.reduceEq, Int.reduceLT, Int.reduceLE, Int.reduceAdd, Int.reduceSub, Int.reduceMul, Int.reduceNeg, Int.reduceToNat, UInt8.reduceToNat, natLit, ty3]
theorem run_l04Flow (b : Int) (fl : Nat) (H : LH) : run 92 [.int .u8 b] fl H = some (.bool (decide (b = 44 ∨ b = 91 ∨ b = 93 ∨ b = 123 ∨ b = 125)), H) := by
  unfold run
  rw [Run_z Try.func92 rfl (by rfl : ok 92 = true) (by rfl : cfg.keep 92 = [0, 2]) (by rfl : cfg.mode 92 = .pure) (by rfl : cfg.ord 92 = [])]
  simp (config := {contextual := true, maxSteps := 10000000, implicitDefEqProofs := false}) (disch := first | (and_intros <;> omega -splitDisjunctions) | (simp only [List.length_set, List.length_append, List.length_cons, List.length_nil]; and_intros <;> omega -splitDisjunctions) | fail) only [or_assoc, Try.f92, go_sem, ↓reduceIte, Nat.reduceEqDiff, Nat.reduceAdd, Nat.reduceMul, Nat.reduceLT, Nat.reduceLeDiff, reduceCtorEq, Int.reduceNe, Int.reduceEq, Int.reduceLT, Int.reduceLE, Int.reduceAdd, Int.reduceSub, Int.reduceMul, Int.reduceNeg, Int.reduceToNat, UInt8.reduceToNat, natLit, ty5]
theorem run_l03White (s : ByteArray) (p : Int) (fl : Nat) (H : LH) (h : 0 ≤ p) : run 98 [.str s, .int .i64 p] fl H = some (.bool (decide (bA s p = 32 ∨ bA s p = 9)), H) := by
  unfold run
  rw [Run_z Try.func98 rfl (by rfl : ok 98 = true) (by rfl : cfg.keep 98 = [0, 1, 4]) (by rfl : cfg.mode 98 = .pure) (by rfl : cfg.ord 98 = [])]
  simp (config := {contextual := true, maxSteps := 10000000, implicitDefEqProofs := false}) (disch := first | (and_intros <;> omega -splitDisjunctions) | (simp only [List.length_set, List.length_append, List.length_cons, List.length_nil]; and_intros <;> omega -splitDisjunctions) | fail) only [Try.f98, go_sem, ↓reduceIte, Nat.reduceEqDiff, Nat.reduceAdd, Nat.reduceMul, Nat.reduceLT, Nat.reduceLeDiff, reduceCtorEq, Int.reduceNe, Int.reduceEq, Int.reduceLT, Int.reduceLE, Int.reduceAdd, Int.reduceSub, Int.reduceMul, Int.reduceNeg, Int.reduceToNat, UInt8.reduceToNat, natLit, ty3, ty5, ty9]
  rw [show decide (p < (s.size : Int) ∧ (bA s p = 32 ∨ bA s p = 9)) = decide (bA s p = 32 ∨ bA s p = 9) from decide_eq_decide.2 (by
    by_cases hp : p < (s.size : Int)
    · omega
    · have := bA_out (s := s) (p := p) (by omega); omega)]
theorem run_l03Break (s : ByteArray) (p : Int) (fl : Nat) (H : LH) (h : 0 ≤ p) : run 99 [.str s, .int .i64 p] fl H = some (.bool (decide (bA s p = 10 ∨ bA s p < 0)), H) := by
  unfold run
  rw [Run_z Try.func99 rfl (by rfl : ok 99 = true) (by rfl : cfg.keep 99 = [0, 1, 4]) (by rfl : cfg.mode 99 = .pure) (by rfl : cfg.ord 99 = [])]
  simp (config := {contextual := true, maxSteps := 10000000, implicitDefEqProofs := false}) (disch := first | (and_intros <;> omega -splitDisjunctions) | (simp only [List.length_set, List.length_append, List.length_cons, List.length_nil]; and_intros <;> omega -splitDisjunctions) | fail) only [Try.f99, go_sem, ↓reduceIte, Nat.reduceEqDiff, Nat.reduceAdd, Nat.reduceMul, Nat.reduceLT, Nat.reduceLeDiff, reduceCtorEq, Int.reduceNe, Int.reduceEq, Int.reduceLT, Int.reduceLE, Int.reduceAdd, Int.reduceSub, Int.reduceMul, Int.reduceNeg, Int.reduceToNat, UInt8.reduceToNat, natLit, ty3, ty5, ty9]
  rw [show decide ((s.size : Int) ≤ p ∨ bA s p = 10) = decide (bA s p = 10 ∨ bA s p < 0) from decide_eq_decide.2 (by
    by_cases hp : p < (s.size : Int)
    · have := bA_in h hp; omega
    · have := bA_out (s := s) (p := p) (by omega); omega)]
theorem run_l03Gap (s : ByteArray) (p : Int) (fl : Nat) (H : LH) (h : 0 ≤ p) : run 91 [.str s, .int .i64 p] fl H = some (.bool (decide (bA s p = 32 ∨ bA s p = 9 ∨ bA s p = 10 ∨ bA s p < 0)), H) := by
  have e1 := fun fl H => run_l03White s p fl H h
  have e2 := fun fl H => run_l03Break s p fl H h
  unfold run at *
  rw [Run_z Try.func91 rfl (by rfl : ok 91 = true) (by rfl : cfg.keep 91 = [0, 1, 4]) (by rfl : cfg.mode 91 = .pure) (by rfl : cfg.ord 91 = [])]
  simp (config := {contextual := true, maxSteps := 10000000, implicitDefEqProofs := false}) (disch := first | (and_intros <;> omega -splitDisjunctions) | (simp only [List.length_set, List.length_append, List.length_cons, List.length_nil]; and_intros <;> omega -splitDisjunctions) | fail) only [e1, e2, or_assoc, Try.f91, go_sem, ↓reduceIte, Nat.reduceEqDiff, Nat.reduceAdd, Nat.reduceMul, Nat.reduceLT, Nat.reduceLeDiff, reduceCtorEq, Int.reduceNe, Int.reduceEq, Int.reduceLT, Int.reduceLE, Int.reduceAdd, Int.reduceSub, Int.reduceMul, Int.reduceNeg, Int.reduceToNat, UInt8.reduceToNat, natLit]

/-- a byte of a name -/
def nameB (b : UInt8) : Bool := decide (¬ ((b.toNat : Int) = 32 ∨ (b.toNat : Int) = 9 ∨ (b.toNat : Int) = 10 ∨ (b.toNat : Int) < 0 ∨ (b.toNat : Int) = 44 ∨ (b.toNat : Int) = 91 ∨ (b.toNat : Int) = 93 ∨ (b.toNat : Int) = 123 ∨ (b.toNat : Int) = 125))
def nmOk (s : ByteArray) : Bool := decide (s.size ≤ 60) && (bs s).all nameB
theorem run_isName (s : ByteArray) (fl : Nat) (H : LH) (hs : s.size ≤ 9223372036854775807) : run 87 [.str s] fl H = some (.bool (nmOk s), H) := by
  have e1 := fun b fl H => run_isWhite b fl H
  have e2 := fun b fl H => run_isBreak b fl H
  have e3 := fun b fl H => run_isFlow b fl H
  unfold run at *
  rw [Run_z Try.func87 rfl (by rfl : ok 87 = true) (by rfl : cfg.keep 87 = [0, 2, 3, 4, 7, 9, 10, 11, 26]) (by rfl : cfg.mode 87 = .pure) (by rfl : cfg.ord 87 = [])]
  simp (config := {contextual := true, maxSteps := 10000000, implicitDefEqProofs := false}) (disch := first | (and_intros <;> omega -splitDisjunctions) | (simp only [List.length_set, List.length_append, List.length_cons, List.length_nil]; and_intros <;> omega -splitDisjunctions) | fail) only [Try.f87, go_sem, ↓reduceIte, Nat.reduceEqDiff, Nat.reduceAdd, Nat.reduceMul, Nat.reduceLT, Nat.reduceLeDiff, reduceCtorEq, Int.reduceNe, Int.reduceEq, Int.reduceLT, Int.reduceLE, Int.reduceAdd, Int.reduceSub, Int.reduceMul, Int.reduceNeg, Int.reduceToNat, UInt8.reduceToNat, natLit, ty3, ty5, ty9]
  by_cases h6 : (60 : Int) < (s.size : Int)
  · rw [if_pos h6, nmOk, decide_eq_false (by omega)]; rfl
  have h7 : decide (s.size ≤ 60) = true := decide_eq_true (by omega)
  rw [if_neg h6, nmOk, h7, Bool.true_and]
  generalize hL : K.code (Code.loop _) = L
  generalize hR : (K.blk _ :: _ : List K) = R
  have key : ∀ (d i : Nat) (x2 x3 x4 x7 x11 x26 : Option V), s.size - i = d → i ≤ s.size →
      zEv (leaveX (mkR Try.prog cfg ok [0, 2, 3, 4, 7, 9, 10, 11, 26] H.length) .pure H [ResultVar.tmp 2]) (mkR Try.prog cfg ok [0, 2, 3, 4, 7, 9, 10, 11, 26] H.length) (L :: R) .nrm [some (.str s), x2, x3, x4, x7, some (.int .i64 s.size), some (.int .i64 i), x11, x26] H = some (.bool (((bs s).drop i).all nameB), H) := by
    intro d
    induction d using Nat.strongRecOn with
    | _ d ih =>
    intro i x2 x3 x4 x7 x11 x26 hd hi
    rw [← hL, ← hR, zEv_loop]
    simp (config := {contextual := true, maxSteps := 10000000, implicitDefEqProofs := false}) (disch := first | (and_intros <;> omega -splitDisjunctions) | (simp only [List.length_set, List.length_append, List.length_cons, List.length_nil]; and_intros <;> omega -splitDisjunctions) | fail) only [e1, e2, e3, Try.f87, go_sem, ↓reduceIte, Nat.reduceEqDiff, Nat.reduceAdd, Nat.reduceMul, Nat.reduceLT, Nat.reduceLeDiff, reduceCtorEq, Int.reduceNe, Int.reduceEq, Int.reduceLT, Int.reduceLE, Int.reduceAdd, Int.reduceSub, Int.reduceMul, Int.reduceNeg, Int.reduceToNat, UInt8.reduceToNat, natLit, ty3, ty5, ty9]
    rw [hL, hR]
    split
    · rename_i hlt
      have hlt : i < (bs s).length := by rw [bs_len]; omega
      rw [show (i : Int) + 1 = ((i + 1 : Nat) : Int) from rfl, ih (s.size - (i + 1)) (by omega) (i + 1) _ _ _ _ _ _ rfl (by omega), List.drop_eq_getElem_cons hlt, List.all_cons, bA_nat hlt]
      split
      · rename_i hc; rw [show nameB (bs s)[i] = false from decide_eq_false (by omega)]; rfl
      · rename_i hc; rw [show nameB (bs s)[i] = true from decide_eq_true (by omega)]; rfl
    · rw [List.drop_of_length_le (by rw [bs_len]; omega)]; rfl
  exact (key s.size 0 _ _ _ _ _ _ rfl (Nat.zero_le _)).trans (by rw [List.drop_zero])
theorem run_l09Name (s : ByteArray) (fl : Nat) (H : LH) (hs : s.size ≤ 9223372036854775807) : run 83 [.str s] fl H = some (.bool (nmOk s), H) := by
  have e1 := fun p fl H h => run_l03Gap s p fl H h
  have e2 := fun b fl H => run_l04Flow b fl H
  unfold run at *
  rw [Run_z Try.func83 rfl (by rfl : ok 83 = true) (by rfl : cfg.keep 83 = [0, 2, 3, 7, 18]) (by rfl : cfg.mode 83 = .pure) (by rfl : cfg.ord 83 = [])]
  simp (config := {contextual := true, maxSteps := 10000000, implicitDefEqProofs := false}) (disch := first | (and_intros <;> omega -splitDisjunctions) | (simp only [List.length_set, List.length_append, List.length_cons, List.length_nil]; and_intros <;> omega -splitDisjunctions) | fail) only [Try.f83, go_sem, ↓reduceIte, Nat.reduceEqDiff, Nat.reduceAdd, Nat.reduceMul, Nat.reduceLT, Nat.reduceLeDiff, reduceCtorEq, Int.reduceNe, Int.reduceEq, Int.reduceLT, Int.reduceLE, Int.reduceAdd, Int.reduceSub, Int.reduceMul, Int.reduceNeg, Int.reduceToNat, UInt8.reduceToNat, natLit, ty3, ty9]
  generalize hL : K.code (Code.loop _) = L
  generalize hR : (K.blk _ :: _ : List K) = R
  have key : ∀ (d i : Nat) (x2 x7 x18 : Option V), s.size - i = d → i ≤ s.size →
      zEv (leaveX (mkR Try.prog cfg ok [0, 2, 3, 7, 18] H.length) .pure H [ResultVar.tmp 2]) (mkR Try.prog cfg ok [0, 2, 3, 7, 18] H.length) (L :: R) .nrm [some (.str s), x2, some (.int .i64 i), x7, x18] H = some (.bool (decide (s.size ≤ 60) && ((bs s).drop i).all nameB), H) := by
    intro d
    induction d using Nat.strongRecOn with
    | _ d ih =>
    intro i x2 x7 x18 hd hi
    rw [← hL, ← hR, zEv_loop]
    simp (config := {contextual := true, maxSteps := 10000000, implicitDefEqProofs := false}) (disch := first | (and_intros <;> omega -splitDisjunctions) | (simp only [List.length_set, List.length_append, List.length_cons, List.length_nil]; and_intros <;> omega -splitDisjunctions) | fail) only [e1, e2, Try.f83, go_sem, ↓reduceIte, Nat.reduceEqDiff, Nat.reduceAdd, Nat.reduceMul, Nat.reduceLT, Nat.reduceLeDiff, reduceCtorEq, Int.reduceNe, Int.reduceEq, Int.reduceLT, Int.reduceLE, Int.reduceAdd, Int.reduceSub, Int.reduceMul, Int.reduceNeg, Int.reduceToNat, UInt8.reduceToNat, natLit, ty3, ty9]
    rw [hL, hR]
    split
    · rename_i hlt
      have hlt : i < (bs s).length := by rw [bs_len]; omega
      rw [show (i : Int) + 1 = ((i + 1 : Nat) : Int) from rfl, ih (s.size - (i + 1)) (by omega) (i + 1) _ _ _ rfl (by omega), List.drop_eq_getElem_cons hlt, List.all_cons, bA_nat hlt]
      split
      · rename_i hc; rw [show nameB (bs s)[i] = false from decide_eq_false (by omega)]; simp
      · rename_i hc; rw [show nameB (bs s)[i] = true from decide_eq_true (by omega)]; rfl
    · rw [List.drop_of_length_le (by rw [bs_len]; omega), List.all_nil, Bool.and_true]
      rw [show decide ((s.size : Int) ≤ 60) = decide (s.size ≤ 60) from decide_eq_decide.2 (by omega)]
  exact (key s.size 0 _ _ _ rfl (Nat.zero_le _)).trans (by rw [List.drop_zero]; rfl)
end Go.Proofs.Ytcbjmggbbnpbpaa.Lg
namespace Go.Proofs.Ytcbjmggbbnpbpaa.Lg
set_option linter.unusedSimpArgs false
set_option linter.unusedVariables false
set_option maxRecDepth 100000
set_option maxHeartbeats 40000000
open Go.Proofs.Ytcbjmggbbnpbpaa

/-- a value of Event -/
structure Ev where
  kind : Int
  style : Int
  flag : Bool
  text : ByteArray
  anchor : ByteArray
  tag : ByteArray
  place : Int
  code : Int
  deriving DecidableEq
def evC (e : Ev) : List V := [.int .i64 e.kind, .int .i64 e.style, .bool e.flag, .str e.text, .str e.anchor, .str e.tag, .int .i64 e.place, .int .i64 e.code]
theorem evC_len (e : Ev) : (evC e).length = 8 := rfl
def ev0 : Ev := ⟨0, 0, false, ⟨#[]⟩, ⟨#[]⟩, ⟨#[]⟩, 0, 0⟩
/-- its measure -/
def evCW (e : Ev) : Int := (e.text.size : Int) + (e.anchor.size : Int) + (e.tag.size : Int)
def evCFit (e : Ev) : Prop := e.text.size ≤ 9223372036854775807 ∧ e.anchor.size ≤ 9223372036854775807 ∧ e.tag.size ≤ 9223372036854775807
theorem run_toEvent (e : Ev) (fl : Nat) (H : LH) : run 24 [.agg (evC e)] fl H = some (.agg (evC e), H) := by
  unfold run evC
  rw [Run_z Try.func24 rfl (by rfl : ok 24 = true) (by rfl : cfg.keep 24 = [0, 1, 2, 3]) (by rfl : cfg.mode 24 = .pure) (by rfl : cfg.ord 24 = [])]
  simp (config := {contextual := true, maxSteps := 10000000, implicitDefEqProofs := false}) (disch := first | (and_intros <;> omega -splitDisjunctions) | (simp only [List.length_set, List.length_append, List.length_cons, List.length_nil]; and_intros <;> omega -splitDisjunctions) | fail) only [Try.f24, go_sem, ↓reduceIte, Nat.reduceEqDiff, Nat.reduceAdd, Nat.reduceMul, Nat.reduceLT, Nat.reduceLeDiff, reduceCtorEq, Int.reduceNe, Int.reduceEq, Int.reduceLT, Int.reduceLE, Int.reduceAdd, Int.reduceSub, Int.reduceMul, Int.reduceNeg, Int.reduceToNat, UInt8.reduceToNat, natLit, ty3, ty4, ty9, ty42, ty58]
theorem run_eqEvent (a b : Ev) (fl : Nat) (H : LH) : run 35 [.agg (evC a), .agg (evC b)] fl H = some (.bool (decide (a = b)), H) := by
  unfold run evC
  rw [Run_z Try.func35 rfl (by rfl : ok 35 = true) (by rfl : cfg.keep 35 = [0, 1, 2, 3, 4, 9, 14, 19, 24, 29, 34, 39, 44]) (by rfl : cfg.mode 35 = .pure) (by rfl : cfg.ord 35 = [])]
  simp (config := {contextual := true, maxSteps := 10000000, implicitDefEqProofs := false}) (disch := first | (and_intros <;> omega -splitDisjunctions) | (simp only [List.length_set, List.length_append, List.length_cons, List.length_nil]; and_intros <;> omega -splitDisjunctions) | fail) only [Try.f35, go_sem, ↓reduceIte, Nat.reduceEqDiff, Nat.reduceAdd, Nat.reduceMul, Nat.reduceLT, Nat.reduceLeDiff, reduceCtorEq, Int.reduceNe, Int.reduceEq, Int.reduceLT, Int.reduceLE, Int.reduceAdd, Int.reduceSub, Int.reduceMul, Int.reduceNeg, Int.reduceToNat, UInt8.reduceToNat, natLit, ty3, ty4, ty9, ty58]
  cases a; cases b
  simp only [Ev.mk.injEq]
  grind
theorem run_szEvent (e : Ev) (left : Int) (fl : Nat) (H : LH) (h : 0 ≤ left) (h2 : left ≤ 1048576) (h3 : evCFit e) :
    run 17 [.agg (evC e), .int .i64 left] fl H = some (.int .i64 (if left < evCW e then -1 else left - evCW e), H) := by
  unfold evCFit at h3
  unfold run evC
  rw [Run_z Try.func17 rfl (by rfl : ok 17 = true) (by rfl : cfg.keep 17 = [0, 1, 2, 4, 11, 18, 25]) (by rfl : cfg.mode 17 = .pure) (by rfl : cfg.ord 17 = [])]
  simp (config := {contextual := true, maxSteps := 10000000, implicitDefEqProofs := false}) (disch := first | (and_intros <;> omega -splitDisjunctions) | (simp only [List.length_set, List.length_append, List.length_cons, List.length_nil]; and_intros <;> omega -splitDisjunctions) | fail) only [Try.f17, go_sem, ↓reduceIte, Nat.reduceEqDiff, Nat.reduceAdd, Nat.reduceMul, Nat.reduceLT, Nat.reduceLeDiff, reduceCtorEq, Int.reduceNe, Int.reduceEq, Int.reduceLT, Int.reduceLE, Int.reduceAdd, Int.reduceSub, Int.reduceMul, Int.reduceNeg, Int.reduceToNat, UInt8.reduceToNat, natLit, ty3, ty4, ty9, ty42]
  unfold evCW
  (repeat' split) <;> first | (exfalso; omega) | rfl | (congr 3; omega)
theorem shp_Event {n : Nat} {H : LH} (cs : List V) (h : Shp (ty Try.prog) (n + 2) 42 H cs) : ∃ e : Ev, cs = evC e ∧ evCFit e := by
  simp only [Shp, ShpF, ty3, ty4, ty9, ty42] at h
  obtain ⟨_, _, rfl, ⟨a0, rfl, _⟩, _, _, rfl, ⟨a1, rfl, _⟩, _, _, rfl, ⟨a2, rfl⟩, _, _, rfl, ⟨a3, rfl, z3⟩, _, _, rfl, ⟨a4, rfl, z4⟩, _, _, rfl, ⟨a5, rfl, z5⟩, _, _, rfl, ⟨a6, rfl, _⟩, _, _, rfl, ⟨a7, rfl, _⟩, rfl⟩ := h
  exact ⟨⟨a0, a1, a2, a3, a4, a5, a6, a7⟩, rfl, ⟨z3, z4, z5⟩⟩
theorem opn_Event {H : LH} {x : V} (h : ShpA (ty Try.prog) 12 42 H x) : ∃ e : Ev, x = .agg (evC e) ∧ evCFit e := by
  unfold ShpA at h
  rw [ty42] at h
  obtain ⟨cs, rfl, h⟩ := h
  obtain ⟨e, rfl, f⟩ := shp_Event (n := 10) cs h
  exact ⟨e, rfl, f⟩
theorem opn_EventS {H : LH} {x : V} (h : ShpA (ty Try.prog) 12 22 H x) : ∃ xs : List Ev, At H evC 8 x xs ∧ xs.length ≤ 9223372036854775807 ∧ ∀ e ∈ xs, evCFit e := by
  unfold ShpA at h
  rw [ty22] at h
  exact shp_slice ty22 (by simp only [sizeO, ty3, ty4, ty9, ty22, ty42]) evC_len (fun cs h => shp_Event (n := 9) cs h) h
theorem run_toEventS (v : V) (xs : List Ev) (fl : Nat) (H : LH) (h : At H evC 8 v xs) (hx : xs.length ≤ 1048576) :
    run 7 [v] fl H = some (.sl H.length 0 8 xs.length xs.length, H ++ [.cells (rows evC xs)]) := by
  have e1 := fun e fl H => run_toEvent e fl H
  have f1 := h.isTup; have f2 := h.len; have f3 := h.lenOk ty22
  have f4 := fun L (hp : 0 < xs.length) => (h.left (L := L)).con hp
  have f5 := h.idx (T := ty Try.prog) (t := 22) (by simp only [elemI, sizeO, ty3, ty4, ty9, ty22, ty42])
  unfold run at *
  rw [Run_z Try.func7 rfl (by rfl : ok 7 = true) (by rfl : cfg.keep 7 = [0, 2, 3, 4, 11]) (by rfl : cfg.mode 7 = .fresh) (by rfl : cfg.ord 7 = [])]
  simp (config := {contextual := true, maxSteps := 10000000, implicitDefEqProofs := false}) (disch := first | (and_intros <;> omega -splitDisjunctions) | (simp only [List.length_set, List.length_append, List.length_cons, List.length_nil]; and_intros <;> omega -splitDisjunctions) | fail) only [e1, f1, f2, f3, Try.f7, go_sem, ↓reduceIte, Nat.reduceEqDiff, Nat.reduceAdd, Nat.reduceMul, Nat.reduceLT, Nat.reduceLeDiff, reduceCtorEq, Int.reduceNe, Int.reduceEq, Int.reduceLT, Int.reduceLE, Int.reduceAdd, Int.reduceSub, Int.reduceMul, Int.reduceNeg, Int.reduceToNat, UInt8.reduceToNat, natLit, ty3, ty4, ty9, ty22, ty29, ty42, ty58]
  generalize hL : K.code (Code.loop _) = L
  generalize hR : (K.blk _ :: _ : List K) = R
  have key : ∀ (d i : Nat) (x11 : Option V) (ys : List Ev), xs.length - i = d → i ≤ xs.length → ys = xs.take i ++ List.replicate (xs.length - i) ev0 →
      zEv (leaveX (mkR Try.prog cfg ok [0, 2, 3, 4, 11] H.length) .fresh H [ResultVar.tmp 2]) (mkR Try.prog cfg ok [0, 2, 3, 4, 11] H.length) (L :: R) .nrm [some v, some .nilsl, some (.sl H.length 0 8 xs.length xs.length), some (.int .i64 i), x11] (H ++ [.cells (rows evC ys)]) =
      some (.sl H.length 0 8 xs.length xs.length, H ++ [.cells (rows evC xs)]) := by
    intro d
    induction d using Nat.strongRecOn with
    | _ d ih =>
    intro i x11 ys hd hi hys
    have hyl : ys.length = xs.length := by rw [hys]; simp; omega
    have g1 := rows_len evC_len ys
    rw [hyl] at g1
    have g2 : i < xs.length → putAt (rows evC ys) (i * 8) (evC (xs.getD i ev0)) = rows evC (ys.set i (xs.getD i ev0)) := fun hi => by
      have := rows_putD (enc := evC) (j := 0) (xs := ys) evC_len ev0 i (by omega) (ws := evC (xs.getD i ev0)) (by simp [evC_len]) _ rfl
      simpa using this
    have g3 := fun L => (h.left (L := L)).loadD evC_len ev0
    have g4 : ∀ x : Ev, (evC x).length = 8 := evC_len
    skip
    rw [← hL, ← hR, zEv_loop]
    simp (config := {contextual := true, maxSteps := 10000000, implicitDefEqProofs := false}) (disch := first | (and_intros <;> omega -splitDisjunctions) | (simp only [List.length_set, List.length_append, List.length_cons, List.length_nil]; and_intros <;> omega -splitDisjunctions) | fail) only [e1, f1, f2, f3, f4, f5, g1, g2, g3, g4, Try.f7, go_sem, ↓reduceIte, Nat.reduceEqDiff, Nat.reduceAdd, Nat.reduceMul, Nat.reduceLT, Nat.reduceLeDiff, reduceCtorEq, Int.reduceNe, Int.reduceEq, Int.reduceLT, Int.reduceLE, Int.reduceAdd, Int.reduceSub, Int.reduceMul, Int.reduceNeg, Int.reduceToNat, UInt8.reduceToNat, natLit, ty3, ty4, ty9, ty22, ty29, ty42, ty58]
    rw [hL, hR]
    split
    · rename_i hlt
      have hlt : i < xs.length := by omega
      rw [show (i : Int) + 1 = ((i + 1 : Nat) : Int) by omega]
      refine ih (xs.length - (i + 1)) (by omega) (i + 1) _ _ rfl (by omega) ?_
      rw [hys, copy_step hlt]
    · rename_i hge
      have : i = xs.length := by omega
      subst this
      rw [hys, List.take_of_length_le (Nat.le_refl _), Nat.sub_self]
      simp
  have := fun x11 => key xs.length 0 x11 (List.replicate xs.length ev0) (by simp) (by simp) (by simp)
  simp only [rows_replicate] at this
  exact this _
theorem run_eqEventS (v w : V) (xs ys : List Ev) (fl : Nat) (H : LH) (h : At H evC 8 v xs) (h' : At H evC 8 w ys) (hx : xs.length ≤ 1099511627776) (hy : ys.length ≤ 1099511627776) :
    run 11 [v, w] fl H = some (.bool (decide (xs = ys)), H) := by
  have e1 := fun a b fl H => run_eqEvent a b fl H
  have f1 := h.isTup; have f2 := h.len; have f3 := h.lenOk ty29
  have f4 := fun L (hp : 0 < xs.length) => (h.left (L := L)).con hp
  have f5 := h.idx (T := ty Try.prog) (t := 29) (by simp only [elemI, sizeO, ty3, ty4, ty9, ty29, ty58])
  have g1 := h'.isTup; have g2 := h'.len; have g3 := h'.lenOk ty29
  have g4 := fun L (hp : 0 < ys.length) => (h'.left (L := L)).con hp
  have g5 := h'.idx (T := ty Try.prog) (t := 29) (by simp only [elemI, sizeO, ty3, ty4, ty9, ty29, ty58])
  have f4' := fun (hp : 0 < xs.length) => h.con hp
  have g4' := fun (hp : 0 < ys.length) => h'.con hp
  have f6 := fun L => (h.left (L := L)).loadD evC_len ev0
  have g6 := fun L => (h'.left (L := L)).loadD evC_len ev0
  have f6' := h.loadD evC_len ev0
  have g6' := h'.loadD evC_len ev0
  unfold run at *
  rw [Run_z Try.func11 rfl (by rfl : ok 11 = true) (by rfl : cfg.keep 11 = [0, 1, 4, 5, 10, 14, 26]) (by rfl : cfg.mode 11 = .pure) (by rfl : cfg.ord 11 = [])]
  by_cases hl : xs.length = ys.length
  · simp (config := {contextual := true, maxSteps := 10000000, implicitDefEqProofs := false}) (disch := first | (and_intros <;> omega -splitDisjunctions) | (simp only [List.length_set, List.length_append, List.length_cons, List.length_nil]; and_intros <;> omega -splitDisjunctions) | fail) only [hl, e1, f1, f2, f3, g1, g2, g3, Try.f11, go_sem, ↓reduceIte, Nat.reduceEqDiff, Nat.reduceAdd, Nat.reduceMul, Nat.reduceLT, Nat.reduceLeDiff, reduceCtorEq, Int.reduceNe, Int.reduceEq, Int.reduceLT, Int.reduceLE, Int.reduceAdd, Int.reduceSub, Int.reduceMul, Int.reduceNeg, Int.reduceToNat, UInt8.reduceToNat, natLit, ty3, ty4, ty9, ty29, ty58]
    generalize hL : K.code (Code.loop _) = L
    generalize hR : (K.blk _ :: _ : List K) = R
    have key : ∀ (d i : Nat) (x4 x10 x14 x26 : Option V), xs.length - i = d → i ≤ xs.length →
        zEv (leaveX (mkR Try.prog cfg ok [0, 1, 4, 5, 10, 14, 26] H.length) .pure H [ResultVar.tmp 4]) (mkR Try.prog cfg ok [0, 1, 4, 5, 10, 14, 26] H.length) (L :: R) .nrm [some v, some w, x4, some (.int .i64 i), x10, x14, x26] H =
        some (.bool (decide (xs.drop i = ys.drop i)), H) := by
      intro d
      induction d using Nat.strongRecOn with
      | _ d ih =>
      intro i x4 x10 x14 x26 hd hi
      rw [← hL, ← hR, zEv_loop]
      simp (config := {contextual := true, maxSteps := 10000000, implicitDefEqProofs := false}) (disch := first | (and_intros <;> omega -splitDisjunctions) | (simp only [List.length_set, List.length_append, List.length_cons, List.length_nil]; and_intros <;> omega -splitDisjunctions) | fail) only [e1, f1, f2, f3, f4', f5, f6', g1, g2, g3, g4', g5, g6', Try.f11, go_sem, ↓reduceIte, Nat.reduceEqDiff, Nat.reduceAdd, Nat.reduceMul, Nat.reduceLT, Nat.reduceLeDiff, reduceCtorEq, Int.reduceNe, Int.reduceEq, Int.reduceLT, Int.reduceLE, Int.reduceAdd, Int.reduceSub, Int.reduceMul, Int.reduceNeg, Int.reduceToNat, UInt8.reduceToNat, natLit, ty3, ty4, ty9, ty29, ty58]
      rw [hL, hR]
      split
      · rename_i hlt
        have hlt : i < xs.length := by omega
        have hlt' : i < ys.length := by omega
        rw [show (i : Int) + 1 = ((i + 1 : Nat) : Int) by omega, ih (xs.length - (i + 1)) (by omega) (i + 1) _ _ _ _ rfl (by omega), getD_of hlt, getD_of hlt', List.drop_eq_getElem_cons hlt, List.drop_eq_getElem_cons hlt']
        by_cases e : xs[i] = ys[i] <;> simp only [e, List.cons.injEq, true_and, false_and, not_true_eq_false, not_false_eq_true, if_true, if_false, decide_false]
      · rw [List.drop_of_length_le (by omega), List.drop_of_length_le (by omega)]
        rfl
    exact (key xs.length 0 _ _ _ _ rfl (Nat.zero_le _)).trans (by rw [List.drop_zero, List.drop_zero])
  · have h2 : ¬ xs = ys := fun e => hl (by rw [e])
    have h3 : ¬ (xs.length : Int) = (ys.length : Int) := by omega
    simp (config := {contextual := true, maxSteps := 10000000, implicitDefEqProofs := false}) (disch := first | (and_intros <;> omega -splitDisjunctions) | (simp only [List.length_set, List.length_append, List.length_cons, List.length_nil]; and_intros <;> omega -splitDisjunctions) | fail) only [h2, h3, e1, f1, f2, f3, g1, g2, g3, Try.f11, go_sem, ↓reduceIte, Nat.reduceEqDiff, Nat.reduceAdd, Nat.reduceMul, Nat.reduceLT, Nat.reduceLeDiff, reduceCtorEq, Int.reduceNe, Int.reduceEq, Int.reduceLT, Int.reduceLE, Int.reduceAdd, Int.reduceSub, Int.reduceMul, Int.reduceNeg, Int.reduceToNat, UInt8.reduceToNat, natLit, ty3, ty4, ty9, ty29, ty58]
theorem run_szEventS (v : V) (xs : List Ev) (left : Int) (fl : Nat) (H : LH) (h : At H evC 8 v xs) (h0 : 0 ≤ left) (h2 : left ≤ 1048576) (hx : xs.length ≤ 9223372036854775807) (hf : ∀ x ∈ xs, evCFit x) :
    run 4 [v, .int .i64 left] fl H = some (.int .i64 (if left < xs.length + sumZ evCW xs then -1 else left - (xs.length + sumZ evCW xs)), H) := by
  have e1 := fun i (hi : i < xs.length) l hl hl2 fl H => run_szEvent (xs.getD i ev0) l fl H hl hl2 (by rw [getD_of hi]; exact hf _ (List.getElem_mem hi))
  have f1 := h.isTup; have f2 := h.len; have f3 := h.lenOk ty22
  have f4 := fun (hp : 0 < xs.length) => h.con hp
  have f5 := h.idx (T := ty Try.prog) (t := 22) (by simp only [elemI, sizeO, ty3, ty4, ty9, ty22, ty42])
  have f6 := h.loadD evC_len ev0
  have w0 : ∀ x, 0 ≤ evCW x := fun x => by unfold evCW; omega
  have w1 := sumZ_nonneg w0 xs
  unfold run at *
  rw [Run_z Try.func4 rfl (by rfl : ok 4 = true) (by rfl : cfg.keep 4 = [0, 1, 4, 5, 11, 15, 25]) (by rfl : cfg.mode 4 = .pure) (by rfl : cfg.ord 4 = [])]
  simp (config := {contextual := true, maxSteps := 10000000, implicitDefEqProofs := false}) (disch := first | (and_intros <;> omega -splitDisjunctions) | (simp only [List.length_set, List.length_append, List.length_cons, List.length_nil]; and_intros <;> omega -splitDisjunctions) | fail) only [e1, f1, f2, f3, Try.f4, go_sem, ↓reduceIte, Nat.reduceEqDiff, Nat.reduceAdd, Nat.reduceMul, Nat.reduceLT, Nat.reduceLeDiff, reduceCtorEq, Int.reduceNe, Int.reduceEq, Int.reduceLT, Int.reduceLE, Int.reduceAdd, Int.reduceSub, Int.reduceMul, Int.reduceNeg, Int.reduceToNat, UInt8.reduceToNat, natLit, ty3, ty4, ty9, ty22, ty42]
  by_cases hl : left - xs.length < 0
  · rw [if_pos hl, if_pos (by omega)]
  rw [if_neg hl]
  generalize hL : K.code (Code.loop _) = L
  generalize hR : (K.blk _ :: _ : List K) = R
  have key : ∀ (d i : Nat) (x4 x11 x15 x25 : Option V) (l : Int), xs.length - i = d → i ≤ xs.length → 0 ≤ l → l ≤ 1048576 →
      zEv (leaveX (mkR Try.prog cfg ok [0, 1, 4, 5, 11, 15, 25] H.length) .pure H [ResultVar.tmp 4]) (mkR Try.prog cfg ok [0, 1, 4, 5, 11, 15, 25] H.length) (L :: R) .nrm [some v, some (.int .i64 l), x4, some (.int .i64 i), x11, x15, x25] H =
      some (.int .i64 (if l < sumZ evCW (xs.drop i) then -1 else l - sumZ evCW (xs.drop i)), H) := by
    intro d
    induction d using Nat.strongRecOn with
    | _ d ih =>
    intro i x4 x11 x15 x25 l hd hi hl0 hl1
    have w2 := w0 (xs.getD i ev0)
    have w4 := sumZ_nonneg w0 (xs.drop (i + 1))
    rw [← hL, ← hR, zEv_loop]
    simp (config := {contextual := true, maxSteps := 10000000, implicitDefEqProofs := false}) (disch := first | (and_intros <;> omega -splitDisjunctions) | (simp only [List.length_set, List.length_append, List.length_cons, List.length_nil]; and_intros <;> omega -splitDisjunctions) | fail) only [e1, f1, f2, f3, f4, f5, f6, Try.f4, go_sem, ↓reduceIte, Nat.reduceEqDiff, Nat.reduceAdd, Nat.reduceMul, Nat.reduceLT, Nat.reduceLeDiff, reduceCtorEq, Int.reduceNe, Int.reduceEq, Int.reduceLT, Int.reduceLE, Int.reduceAdd, Int.reduceSub, Int.reduceMul, Int.reduceNeg, Int.reduceToNat, UInt8.reduceToNat, natLit, ty3, ty4, ty9, ty22, ty42]
    rw [hL, hR]
    split
    · rename_i hlt
      have hlt : i < xs.length := by omega
      rw [List.drop_eq_getElem_cons hlt, ← getD_of hlt ev0, sumZ_cons]
      by_cases hw : l < evCW (xs.getD i ev0)
      · rw [if_pos (by rw [if_pos hw]; omega), if_pos (by omega)]
      · rw [if_neg (by rw [if_neg hw]; omega), show (i : Int) + 1 = ((i + 1 : Nat) : Int) by omega, if_neg hw, ih (xs.length - (i + 1)) (by omega) (i + 1) _ _ _ _ _ rfl (by omega) (by omega) (by omega)]
        split <;> split <;> first | rfl | (exfalso; omega) | (congr 3; omega)
    · rw [List.drop_of_length_le (by omega), sumZ_nil, if_neg (by omega), Int.sub_zero]
  refine (key xs.length 0 _ _ _ _ (left - xs.length) rfl (Nat.zero_le _) (by omega) (by omega)).trans ?_
  rw [List.drop_zero]
  split <;> split <;> first | rfl | (exfalso; omega) | (congr 3; omega)
/-- the mark of a value -/
def mkEvent (k : Int) : Ev := ⟨k, (k + 1), decide (((k + 2)).tmod 3 = 0), mText (k + 3), mText (k + 4), mText (k + 5), (k + 6), (k + 7)⟩
theorem run_markEventS (b : Nat) (xs : List Ev) (k0 : Int) (fl : Nat) (H : LH) (h : H.cellsAt b = some (rows evC xs)) (hb : fl ≤ b) (h0 : 0 ≤ k0) (h1 : k0 ≤ 1099511627776) (hx : xs.length ≤ 1099511627776) :
    run 13 [.sl b 0 8 xs.length xs.length, .int .i64 k0] fl H = some (.int .i64 (k0 + xs.length * 8), H.set b (.cells (rows evC (marksF mkEvent 8 xs.length k0)))) := by
  have m1 := fun k (h0 : 0 ≤ k) (h1 : k ≤ 4611686018427387904) fl H => run_markText k h0 h1 fl H
  have hbl := cellsAt_lt h
  unfold run at *
  rw [Run_z Try.func13 rfl (by rfl : ok 13 = true) (by rfl : cfg.keep 13 = [0, 1, 4, 5, 9]) (by rfl : cfg.mode 13 = .any) (by rfl : cfg.ord 13 = [])]
  simp (config := {contextual := true, maxSteps := 10000000, implicitDefEqProofs := false}) (disch := first | (and_intros <;> omega -splitDisjunctions) | (simp only [List.length_set, List.length_append, List.length_cons, List.length_nil]; and_intros <;> omega -splitDisjunctions) | fail) only [m1, Try.f13, go_sem, ↓reduceIte, Nat.reduceEqDiff, Nat.reduceAdd, Nat.reduceMul, Nat.reduceLT, Nat.reduceLeDiff, reduceCtorEq, Int.reduceNe, Int.reduceEq, Int.reduceLT, Int.reduceLE, Int.reduceAdd, Int.reduceSub, Int.reduceMul, Int.reduceNeg, Int.reduceToNat, UInt8.reduceToNat, natLit, ty3, ty4, ty9, ty29, ty58]
  generalize hL : K.code (Code.loop _) = L
  generalize hR : (K.blk _ :: _ : List K) = R
  have key : ∀ (d i : Nat) (x4 x9 : Option V) (ys : List Ev), xs.length - i = d → i ≤ xs.length → ys = marksF mkEvent 8 i k0 ++ xs.drop i →
      zEv (leaveX (mkR Try.prog cfg ok [0, 1, 4, 5, 9] fl) .any H [ResultVar.tmp 4]) (mkR Try.prog cfg ok [0, 1, 4, 5, 9] fl) (L :: R) .nrm [some (.sl b 0 8 xs.length xs.length), some (.int .i64 (k0 + i * 8)), x4, some (.int .i64 i), x9] (H.set b (.cells (rows evC ys))) =
      some (.int .i64 (k0 + xs.length * 8), H.set b (.cells (rows evC (marksF mkEvent 8 xs.length k0)))) := by
    intro d
    induction d using Nat.strongRecOn with
    | _ d ih =>
    intro i x4 x9 ys hd hi hys
    have hyl : ys.length = xs.length := by rw [hys]; simp [marksF_len]; omega
    have g1 := rows_len evC_len ys
    rw [hyl] at g1
    have g2 : i < xs.length → putAt (rows evC ys) (i * 8) (evC (mkEvent (k0 + i * 8))) = rows evC (ys.set i (mkEvent (k0 + i * 8))) := fun hi => by
      have := rows_putD (enc := evC) (j := 0) (xs := ys) evC_len ev0 i (by omega) (ws := evC (mkEvent (k0 + i * 8))) (by simp [evC_len]) _ rfl
      simpa using this
    have g5 : fl ≤ b := hb
    simp only [evC, mkEvent, putAt, Int.add_assoc, Nat.add_assoc, Nat.reduceAdd, Int.reduceAdd] at g2
    rw [← hL, ← hR, zEv_loop]
    simp (config := {contextual := true, maxSteps := 10000000, implicitDefEqProofs := false}) (disch := first | (and_intros <;> omega -splitDisjunctions) | (simp only [List.length_set, List.length_append, List.length_cons, List.length_nil]; and_intros <;> omega -splitDisjunctions) | fail) only [m1, cellsAt_set, g1, g2, g5, Int.add_assoc, List.length_set, Try.f13, go_sem, ↓reduceIte, Nat.reduceEqDiff, Nat.reduceAdd, Nat.reduceMul, Nat.reduceLT, Nat.reduceLeDiff, reduceCtorEq, Int.reduceNe, Int.reduceEq, Int.reduceLT, Int.reduceLE, Int.reduceAdd, Int.reduceSub, Int.reduceMul, Int.reduceNeg, Int.reduceToNat, UInt8.reduceToNat, natLit, ty3, ty4, ty9, ty29, ty58]
    rw [hL, hR]
    split
    · rename_i hlt
      have hlt : i < xs.length := by omega
      have ms := mark_step (mk := mkEvent) (f := 8) (k := k0) hlt
      simp only [mkEvent, Int.mul_one, Int.add_assoc] at ms
      rw [hys, ms, show (i : Int) + 1 = ((i + 1 : Nat) : Int) by omega, show (i : Int) * 8 + 8 = ((i + 1 : Nat) : Int) * 8 by omega]
      exact ih (xs.length - (i + 1)) (by omega) (i + 1) _ _ _ rfl (by omega) rfl
    · have : i = xs.length := by omega
      subst this
      rw [hys, List.drop_length, List.append_nil]
  have := fun x4 x9 => key xs.length 0 x4 x9 xs rfl (Nat.zero_le _) (by simp [marksF])
  simp only [set_same h] at this
  simpa using this _ _
theorem run_markEventO {f0 : Nat} (v : V) (xs : List Ev) (k0 : Int) (fl : Nat) (H : LH) (h : Own f0 H evC 8 v xs) (hb : fl ≤ f0) (h0 : 0 ≤ k0) (h1 : k0 ≤ 1099511627776) (hx : xs.length ≤ 1099511627776) :
    run 13 [v, .int .i64 k0] fl H = some (.int .i64 (k0 + xs.length * 8), setV H v (rows evC (marksF mkEvent 8 xs.length k0))) := by
  rcases h with ⟨rfl, rfl | rfl⟩ | ⟨b, rfl, h2, h3⟩
  · unfold run
    rw [Run_z Try.func13 rfl (by rfl : ok 13 = true) (by rfl : cfg.keep 13 = [0, 1, 4, 5, 9]) (by rfl : cfg.mode 13 = .any) (by rfl : cfg.ord 13 = [])]
    simp (config := {contextual := true, maxSteps := 10000000, implicitDefEqProofs := false}) (disch := first | (and_intros <;> omega -splitDisjunctions) | (simp only [List.length_set, List.length_append, List.length_cons, List.length_nil]; and_intros <;> omega -splitDisjunctions) | fail) only [Try.f13, go_sem, ↓reduceIte, Nat.reduceEqDiff, Nat.reduceAdd, Nat.reduceMul, Nat.reduceLT, Nat.reduceLeDiff, reduceCtorEq, Int.reduceNe, Int.reduceEq, Int.reduceLT, Int.reduceLE, Int.reduceAdd, Int.reduceSub, Int.reduceMul, Int.reduceNeg, Int.reduceToNat, UInt8.reduceToNat, natLit, ty3, ty4, ty9, ty29, ty58]
    rw [zEv_loop]
    simp (config := {contextual := true, maxSteps := 10000000, implicitDefEqProofs := false}) (disch := first | (and_intros <;> omega -splitDisjunctions) | (simp only [List.length_set, List.length_append, List.length_cons, List.length_nil]; and_intros <;> omega -splitDisjunctions) | fail) only [Try.f13, go_sem, ↓reduceIte, Nat.reduceEqDiff, Nat.reduceAdd, Nat.reduceMul, Nat.reduceLT, Nat.reduceLeDiff, reduceCtorEq, Int.reduceNe, Int.reduceEq, Int.reduceLT, Int.reduceLE, Int.reduceAdd, Int.reduceSub, Int.reduceMul, Int.reduceNeg, Int.reduceToNat, UInt8.reduceToNat, natLit, ty3, ty4, ty9, ty29, ty58]
    simp [setV]
  · unfold run
    rw [Run_z Try.func13 rfl (by rfl : ok 13 = true) (by rfl : cfg.keep 13 = [0, 1, 4, 5, 9]) (by rfl : cfg.mode 13 = .any) (by rfl : cfg.ord 13 = [])]
    simp (config := {contextual := true, maxSteps := 10000000, implicitDefEqProofs := false}) (disch := first | (and_intros <;> omega -splitDisjunctions) | (simp only [List.length_set, List.length_append, List.length_cons, List.length_nil]; and_intros <;> omega -splitDisjunctions) | fail) only [Try.f13, go_sem, ↓reduceIte, Nat.reduceEqDiff, Nat.reduceAdd, Nat.reduceMul, Nat.reduceLT, Nat.reduceLeDiff, reduceCtorEq, Int.reduceNe, Int.reduceEq, Int.reduceLT, Int.reduceLE, Int.reduceAdd, Int.reduceSub, Int.reduceMul, Int.reduceNeg, Int.reduceToNat, UInt8.reduceToNat, natLit, ty3, ty4, ty9, ty29, ty58]
    rw [zEv_loop]
    simp (config := {contextual := true, maxSteps := 10000000, implicitDefEqProofs := false}) (disch := first | (and_intros <;> omega -splitDisjunctions) | (simp only [List.length_set, List.length_append, List.length_cons, List.length_nil]; and_intros <;> omega -splitDisjunctions) | fail) only [Try.f13, go_sem, ↓reduceIte, Nat.reduceEqDiff, Nat.reduceAdd, Nat.reduceMul, Nat.reduceLT, Nat.reduceLeDiff, reduceCtorEq, Int.reduceNe, Int.reduceEq, Int.reduceLT, Int.reduceLE, Int.reduceAdd, Int.reduceSub, Int.reduceMul, Int.reduceNeg, Int.reduceToNat, UInt8.reduceToNat, natLit, ty3, ty4, ty9, ty29, ty58]
    simp [setV]
  · exact run_markEventS b xs k0 fl H h2 (by omega) h0 h1 hx

end Go.Proofs.Ytcbjmggbbnpbpaa.Lg
namespace Go.Proofs.Ytcbjmggbbnpbpaa.Lg
set_option linter.unusedSimpArgs false
set_option linter.unusedVariables false
set_option maxRecDepth 100000
set_option maxHeartbeats 40000000
open Go.Proofs.Ytcbjmggbbnpbpaa

theorem run_within (a b c : Int) (fl : Nat) (H : LH) : run 86 [.int .i64 a, .int .i64 b, .int .i64 c] fl H = some (.bool (decide (b ≤ a ∧ a ≤ c)), H) := by
  unfold run
  rw [Run_z Try.func86 rfl (by rfl : ok 86 = true) (by rfl : cfg.keep 86 = [0, 1, 2, 6]) (by rfl : cfg.mode 86 = .pure) (by rfl : cfg.ord 86 = [])]
  simp (config := {contextual := true, maxSteps := 10000000, implicitDefEqProofs := false}) (disch := first | (and_intros <;> omega -splitDisjunctions) | (simp only [List.length_set, List.length_append, List.length_cons, List.length_nil]; and_intros <;> omega -splitDisjunctions) | fail) only [Try.f86, go_sem, ↓reduceIte, Nat.reduceEqDiff, Nat.reduceAdd, Nat.reduceMul, Nat.reduceLT, Nat.reduceLeDiff, reduceCtorEq, Int.reduceNe, Int.reduceEq, Int.reduceLT, Int.reduceLE, Int.reduceAdd, Int.reduceSub, Int.reduceMul, Int.reduceNeg, Int.reduceToNat, UInt8.reduceToNat, natLit, ty3]
end Go.Proofs.Ytcbjmggbbnpbpaa.Lg
namespace Go.Proofs.Ytcbjmggbbnpbpaa.Lg
set_option linter.unusedSimpArgs false
set_option linter.unusedVariables false
set_option maxRecDepth 100000
set_option maxHeartbeats 40000000
open Go.Proofs.Ytcbjmggbbnpbpaa

/-- is an event right? -/
def EvOk (e : Ev) : Prop :=
  (1 ≤ e.kind ∧ e.kind ≤ 10) ∧
  (e.kind = 10 → 1 ≤ e.code ∧ e.code ≤ 99 ∧ 0 ≤ e.place) ∧ (e.kind ≠ 10 → e.code = 0 ∧ e.place = 0) ∧
  (e.kind = 3 ∨ e.kind = 4 → 6 ≤ e.style ∧ e.style ≤ 7) ∧ (e.kind = 5 → 1 ≤ e.style ∧ e.style ≤ 5) ∧ (¬ (e.kind = 3 ∨ e.kind = 4 ∨ e.kind = 5) → e.style = 0) ∧
  (¬ (e.kind = 2 ∨ e.kind = 8) → e.flag = false) ∧ (¬ (e.kind = 5 ∨ e.kind = 6) → e.text = ⟨#[]⟩) ∧
  (¬ (e.kind = 3 ∨ e.kind = 4 ∨ e.kind = 5) → e.anchor = ⟨#[]⟩ ∧ e.tag = ⟨#[]⟩) ∧
  (e.kind = 6 → e.text ≠ ⟨#[]⟩ ∧ nmOk e.text = true) ∧ nmOk e.anchor = true ∧ e.tag.size ≤ 120
instance (e : Ev) : Decidable (EvOk e) := by unfold EvOk; infer_instance
theorem ten {k : Int} (h1 : 1 ≤ k) (h2 : k ≤ 10) : k = 1 ∨ k = 2 ∨ k = 3 ∨ k = 4 ∨ k = 5 ∨ k = 6 ∨ k = 7 ∨ k = 8 ∨ k = 9 ∨ k = 10 := by omega
theorem nm0e : nmOk ByteArray.empty = true := by decide
theorem nm0 : nmOk ⟨#[]⟩ = true := by decide
theorem run_imEventOk (e : Ev) (fl : Nat) (H : LH) (h3 : evCFit e) : run 76 [.agg (evC e)] fl H = some (.bool (decide (EvOk e)), H) := by
  unfold evCFit at h3
  have e1 := fun a b c fl H => run_within a b c fl H
  have e2 := fun fl H => run_isName e.anchor fl H h3.2.1
  have e3 := fun fl H => run_isName e.text fl H h3.1
  have e4 := fun fl H => run_isName ⟨#[]⟩ fl H (by decide)
  unfold run evC at *
  rw [Run_z Try.func76 rfl (by rfl : ok 76 = true) (by rfl : cfg.keep 76 = [0, 1, 2, 3, 8, 9, 13, 19, 34, 35, 52, 53, 66, 67, 83]) (by rfl : cfg.mode 76 = .pure) (by rfl : cfg.ord 76 = [])]
  have hsz : ByteArray.size ⟨#[]⟩ = 0 := rfl
  by_cases hk : 1 ≤ e.kind ∧ e.kind ≤ 10
  · rcases ten hk.1 hk.2 with h | h | h | h | h | h | h | h | h | h
    all_goals
      simp (config := {contextual := true, maxSteps := 10000000, implicitDefEqProofs := false}) (disch := first | (and_intros <;> omega -splitDisjunctions) | (simp only [List.length_set, List.length_append, List.length_cons, List.length_nil]; and_intros <;> omega -splitDisjunctions) | fail) only [h, nm0, e1, e2, e3, e4, eqL, eqS, andO, yesO, kindV, Try.f76, go_sem, ↓reduceIte, Nat.reduceEqDiff, Nat.reduceAdd, Nat.reduceMul, Nat.reduceLT, Nat.reduceLeDiff, reduceCtorEq, Int.reduceNe, Int.reduceEq, Int.reduceLT, Int.reduceLE, Int.reduceAdd, Int.reduceSub, Int.reduceMul, Int.reduceNeg, Int.reduceToNat, UInt8.reduceToNat, natLit, ty3, ty4, ty9, ty58]
      clear e1 e2 e3 e4
      simp only [EvOk, h, nm0, Int.reduceEq, Int.reduceLT, Int.reduceLE, or_false, false_or, or_true, true_or, and_true, true_and, and_false, false_and, not_true_eq_false, not_false_eq_true, forall_const, false_implies, true_implies, ne_eq]
      have n0 := nm0
      (repeat' (refine ite_E (fun _ => ?_) (fun _ => ?_))) <;> (refine congrArg (fun b => some (V.bool b, H)) ?_; rw [Bool.eq_iff_iff]; simp only [decide_eq_true_eq]; grind)
  · have hk2 : e.kind < 1 ∨ 10 < e.kind := by omega
    have c1 : ¬ e.kind = 1 := by omega
    have c2 : ¬ e.kind = 2 := by omega
    have c3 : ¬ e.kind = 3 := by omega
    have c4 : ¬ e.kind = 4 := by omega
    have c5 : ¬ e.kind = 5 := by omega
    have c6 : ¬ e.kind = 6 := by omega
    have c7 : ¬ e.kind = 7 := by omega
    have c8 : ¬ e.kind = 8 := by omega
    have c9 : ¬ e.kind = 9 := by omega
    have c10 : ¬ e.kind = 10 := by omega
    have hf : ¬ EvOk e := fun h => hk h.1
    simp (config := {contextual := true, maxSteps := 10000000, implicitDefEqProofs := false}) (disch := first | (and_intros <;> omega -splitDisjunctions) | (simp only [List.length_set, List.length_append, List.length_cons, List.length_nil]; and_intros <;> omega -splitDisjunctions) | fail) only [c1, c2, c3, c4, c5, c6, c7, c8, c9, c10, hk2, nm0, hf, e1, e2, e3, e4, eqL, eqS, andO, yesO, kindV, Try.f76, go_sem, ↓reduceIte, Nat.reduceEqDiff, Nat.reduceAdd, Nat.reduceMul, Nat.reduceLT, Nat.reduceLeDiff, reduceCtorEq, Int.reduceNe, Int.reduceEq, Int.reduceLT, Int.reduceLE, Int.reduceAdd, Int.reduceSub, Int.reduceMul, Int.reduceNeg, Int.reduceToNat, UInt8.reduceToNat, natLit, ty3, ty4, ty9, ty58]
theorem run_spEventOk (e : Ev) (fl : Nat) (H : LH) (h3 : evCFit e) : run 68 [.agg (evC e)] fl H = some (.bool (decide (EvOk e)), H) := by
  unfold evCFit at h3
  have e2 := fun fl H => run_l09Name e.anchor fl H h3.2.1
  have e3 := fun fl H => run_l09Name e.text fl H h3.1
  have e4 := fun fl H => run_l09Name ⟨#[]⟩ fl H (by decide)
  unfold run evC at *
  rw [Run_z Try.func68 rfl (by rfl : ok 68 = true) (by rfl : cfg.keep 68 = [0, 1, 2, 3, 4, 5, 19, 22, 42, 83, 86, 125]) (by rfl : cfg.mode 68 = .pure) (by rfl : cfg.ord 68 = [])]
  have hsz : ByteArray.size ⟨#[]⟩ = 0 := rfl
  by_cases hk : 1 ≤ e.kind ∧ e.kind ≤ 10
  · rcases ten hk.1 hk.2 with h | h | h | h | h | h | h | h | h | h
    all_goals
      simp (config := {contextual := true, maxSteps := 10000000, implicitDefEqProofs := false}) (disch := first | (and_intros <;> omega -splitDisjunctions) | (simp only [List.length_set, List.length_append, List.length_cons, List.length_nil]; and_intros <;> omega -splitDisjunctions) | fail) only [h, nm0, e2, e3, e4, Try.f68, go_sem, ↓reduceIte, Nat.reduceEqDiff, Nat.reduceAdd, Nat.reduceMul, Nat.reduceLT, Nat.reduceLeDiff, reduceCtorEq, Int.reduceNe, Int.reduceEq, Int.reduceLT, Int.reduceLE, Int.reduceAdd, Int.reduceSub, Int.reduceMul, Int.reduceNeg, Int.reduceToNat, UInt8.reduceToNat, natLit, ty3, ty4, ty9, ty58]
      clear e2 e3 e4
      simp only [EvOk, h, nm0, Int.reduceEq, Int.reduceLT, Int.reduceLE, or_false, false_or, or_true, true_or, and_true, true_and, and_false, false_and, not_true_eq_false, not_false_eq_true, forall_const, false_implies, true_implies, ne_eq]
      have n0 := nm0
      (repeat' (refine ite_E (fun _ => ?_) (fun _ => ?_))) <;> (refine congrArg (fun b => some (V.bool b, H)) ?_; rw [Bool.eq_iff_iff]; simp only [decide_eq_true_eq]; grind)
  · have hk2 : e.kind < 1 ∨ 10 < e.kind := by omega
    have c1 : ¬ e.kind = 1 := by omega
    have c2 : ¬ e.kind = 2 := by omega
    have c3 : ¬ e.kind = 3 := by omega
    have c4 : ¬ e.kind = 4 := by omega
    have c5 : ¬ e.kind = 5 := by omega
    have c6 : ¬ e.kind = 6 := by omega
    have c7 : ¬ e.kind = 7 := by omega
    have c8 : ¬ e.kind = 8 := by omega
    have c9 : ¬ e.kind = 9 := by omega
    have c10 : ¬ e.kind = 10 := by omega
    have hf : ¬ EvOk e := fun h => hk h.1
    simp (config := {contextual := true, maxSteps := 10000000, implicitDefEqProofs := false}) (disch := first | (and_intros <;> omega -splitDisjunctions) | (simp only [List.length_set, List.length_append, List.length_cons, List.length_nil]; and_intros <;> omega -splitDisjunctions) | fail) only [c1, c2, c3, c4, c5, c6, c7, c8, c9, c10, hk2, nm0, hf, e2, e3, e4, Try.f68, go_sem, ↓reduceIte, Nat.reduceEqDiff, Nat.reduceAdd, Nat.reduceMul, Nat.reduceLT, Nat.reduceLeDiff, reduceCtorEq, Int.reduceNe, Int.reduceEq, Int.reduceLT, Int.reduceLE, Int.reduceAdd, Int.reduceSub, Int.reduceMul, Int.reduceNeg, Int.reduceToNat, UInt8.reduceToNat, natLit, ty3, ty4, ty9, ty58]
end Go.Proofs.Ytcbjmggbbnpbpaa.Lg
namespace Go.Proofs.Ytcbjmggbbnpbpaa.Lg
set_option linter.unusedSimpArgs false
set_option linter.unusedVariables false
set_option maxRecDepth 100000
set_option maxHeartbeats 40000000
open Go.Proofs.Ytcbjmggbbnpbpaa

/-- blocks ahead of 'f' stand as they stood, but for those of 'E' -/
structure Fr (f : Nat) (E : List Nat) (A B : LH) : Prop where
  len : A.length ≤ B.length
  get : ∀ b, b < f → b ∉ E → B[b]? = A[b]?
theorem Fr.refl {f : Nat} {E : List Nat} (A : LH) : Fr f E A A := ⟨Nat.le_refl _, fun _ _ _ => rfl⟩
theorem Fr.trans {f : Nat} {E : List Nat} {A B C : LH} (h : Fr f E A B) (k : Fr f E B C) : Fr f E A C := ⟨Nat.le_trans h.len k.len, fun b h1 h2 => (k.get b h1 h2).trans (h.get b h1 h2)⟩
theorem Fr.down {f f' : Nat} {E : List Nat} {A B : LH} (h : Fr f E A B) (hf : f' ≤ f) : Fr f' E A B := ⟨h.len, fun b h1 h2 => h.get b (by omega) h2⟩
theorem Fr.app {f : Nat} {E : List Nat} {A L : LH} (hf : f ≤ A.length) : Fr f E A (A ++ L) := ⟨by simp, fun b h1 _ => List.getElem?_append_left (by omega)⟩
theorem Fr.set {f b : Nat} {E : List Nat} {A : LH} {x : Blk} (hb : b ∈ E ∨ f ≤ b) : Fr f E A (A.set b x) := ⟨by simp, fun c h1 h2 => by
  rw [List.getElem?_set_ne]
  rcases hb with hb | hb
  · intro e; subst e; exact h2 hb
  · omega⟩
theorem cells_get {A B : LH} {b : Nat} (h : B[b]? = A[b]?) : LH.cellsAt B b = LH.cellsAt A b := by
  unfold LH.cellsAt
  rw [h]
theorem Fr.cells {f b : Nat} {E : List Nat} {A B : LH} {l : List V} (h : Fr f E A B) (hc : LH.cellsAt A b = some l) (h1 : b < f) (h2 : b ∉ E) : LH.cellsAt B b = some l := by
  rw [cells_get (h.get b h1 h2)]; exact hc
theorem Fr.hx {f : Nat} {E : List Nat} {A B G : LH} (h : Fr f E A B) (hx : Hx G A) (hl : G.length ≤ f) (hE : ∀ b ∈ E, G.length ≤ b) : Hx G B := by
  obtain ⟨L, rfl⟩ := hx
  refine ⟨B.drop G.length, ?_⟩
  have hlen := h.len
  rw [List.length_append] at hlen
  have : B.take G.length = G := by
    apply List.ext_getElem?
    intro i
    rw [List.getElem?_take]
    by_cases hi : i < G.length
    · rw [if_pos hi, h.get i (by omega) (fun hm => by have := hE i hm; omega), List.getElem?_append_left hi]
    · rw [if_neg hi, List.getElem?_eq_none (by omega)]
  conv => lhs; rw [← List.take_append_drop G.length B, this]

/-- what is open: kinds and counts, the innermost last -/
structure NS where
  doc : Int
  st : List (Int × Int)
def NS.top (s : NS) : Int × Int := s.st.getD (s.st.length - 1) (0, 0)
def nodeN (s : NS) : Option NS := if s.st = [] then (if s.doc = 1 then some ⟨2, []⟩ else none) else some ⟨s.doc, s.st.set (s.st.length - 1) (s.top.1, s.top.2 + 1)⟩
def stepN (s : NS) (k : Int) : Option NS :=
  if k = 2 then (if s.doc = 0 then some ⟨1, s.st⟩ else none)
  else if k = 5 ∨ k = 6 then nodeN s
  else if k = 3 ∨ k = 4 then (nodeN s).map (fun t => ⟨t.doc, t.st ++ [(k, 0)]⟩)
  else if k = 7 then (if s.st = [] ∨ (s.top.1 = 4 ∧ s.top.2 % 2 ≠ 0) then none else some ⟨s.doc, s.st.dropLast⟩)
  else if k = 8 then (if s.doc = 2 ∧ s.st = [] then some ⟨0, s.st⟩ else none)
  else none
def stK (l : List (Int × Int)) : List V := l.map (fun x => .int .i64 x.1)
def stM (l : List (Int × Int)) : List V := l.map (fun x => .int .i64 x.2)
/-- the nester's state -/
def NAt (f : Nat) (H : LH) (b : Nat) (s : NS) : Prop :=
  (s.st = [] ∧ H.cellsAt b = some [.int .i64 s.doc, .nilsl, .nilsl]) ∨
  ∃ kb mb kl ml, H.cellsAt b = some [.int .i64 s.doc, .sl kb 0 1 s.st.length (s.st.length + kl.length), .sl mb 0 1 s.st.length (s.st.length + kl.length)] ∧ H.cellsAt kb = some (stK s.st ++ kl) ∧ H.cellsAt mb = some (stM s.st ++ ml) ∧
    kl.length = ml.length ∧ f ≤ kb ∧ f ≤ mb ∧ kb ≠ mb
theorem NAt.ext {f : Nat} {H L : LH} {b : Nat} {s : NS} (h : NAt f H b s) : NAt f (H ++ L) b s := by
  rcases h with ⟨h1, h2⟩ | ⟨kb, mb, kl, ml, h1, h2, h3, h4⟩
  · exact .inl ⟨h1, cellsAt_left h2⟩
  · exact .inr ⟨kb, mb, kl, ml, cellsAt_left h1, cellsAt_left h2, cellsAt_left h3, h4⟩
theorem stK_len (l : List (Int × Int)) : (stK l).length = l.length := by simp [stK]
theorem stM_len (l : List (Int × Int)) : (stM l).length = l.length := by simp [stM]
theorem stK_cell {l : List (Int × Int)} {i : Nat} (h : i < l.length) (g : List V) : (stK l ++ g)[i]? = some (.int .i64 (l.getD i (0, 0)).1) := by
  rw [List.getElem?_append_left (by rw [stK_len]; exact h)]
  simp [stK, List.getElem?_map, h, List.getD_eq_getElem?_getD]
theorem stM_cell {l : List (Int × Int)} {i : Nat} (h : i < l.length) (g : List V) : (stM l ++ g)[i]? = some (.int .i64 (l.getD i (0, 0)).2) := by
  rw [List.getElem?_append_left (by rw [stM_len]; exact h)]
  simp [stM, List.getElem?_map, h, List.getD_eq_getElem?_getD]

/-- the state's blocks are ahead of 'N' -/
def NIn (N : Nat) (H : LH) (b : Nat) : Prop := b < N ∧ ∀ d kv mv, H.cellsAt b = some [d, kv, mv] → (∀ kb n c, kv = .sl kb 0 1 n c → kb < N) ∧ (∀ mb n c, mv = .sl mb 0 1 n c → mb < N)
theorem NAt.nin {f : Nat} {H L : LH} {b : Nat} {s : NS} (h : NAt f H b s) : NIn H.length (H ++ L) b := by
  rcases h with ⟨h1, h2⟩ | ⟨kb, mb, kl, ml, h1, h2, h3, h4⟩
  · refine ⟨cellsAt_lt h2, fun d kv mv e => ?_⟩
    rw [cellsAt_left h2] at e
    injection e with e
    simp only [List.cons.injEq, and_true] at e
    obtain ⟨_, rfl, rfl⟩ := e
    exact ⟨fun _ _ _ e => (by cases e), fun _ _ _ e => (by cases e)⟩
  · refine ⟨cellsAt_lt h1, fun d kv mv e => ?_⟩
    rw [cellsAt_left h1] at e
    injection e with e
    simp only [List.cons.injEq, and_true] at e
    obtain ⟨_, rfl, rfl⟩ := e
    exact ⟨fun _ _ _ e => (by cases e; exact cellsAt_lt h2), fun _ _ _ e => (by cases e; exact cellsAt_lt h3)⟩
theorem run_node {f b N : Nat} {s : NS} {H : LH} {fl : Nat} (h : NAt f H b s) (hN : NIn N H b) (hb : b < f) (hm : ∀ x ∈ s.st, 0 ≤ x.2 ∧ x.2 ≤ 1099511627776) (hl : s.st.length ≤ 1099511627776) (hf : fl ≤ b) :
    Ret (fun w H' => Fr f [b] H H' ∧ (∀ c, N ≤ c → H'[c]? = H[c]?) ∧ (match nodeN s with | none => w = .bool false ∧ ∃ t, NAt f H' b t ∧ t.st = [] | some t => w = .bool true ∧ NAt f H' b t)) (run 88 [.ptr b 0] fl H) := by
  obtain ⟨doc, st⟩ := s
  rcases h with ⟨h1, h2⟩ | ⟨kb, mb, kl, ml, h1, h2, h3, h4, h5, h6, h7⟩
  · have hbl := cellsAt_lt h2
    simp only at h1
    subst h1
    unfold run
    rw [Run_z Try.func88 rfl (by rfl : ok 88 = true) (by rfl : cfg.keep 88 = [0, 2, 3, 4, 11]) (by rfl : cfg.mode 88 = .any) (by rfl : cfg.ord 88 = [])]
    simp (config := {contextual := true, maxSteps := 10000000, implicitDefEqProofs := false}) (disch := first | (and_intros <;> omega -splitDisjunctions) | (simp only [List.length_set, List.length_append, List.length_cons, List.length_nil]; and_intros <;> omega -splitDisjunctions) | fail) only [h2, Try.f88, go_sem, ↓reduceIte, Nat.reduceEqDiff, Nat.reduceAdd, Nat.reduceMul, Nat.reduceLT, Nat.reduceLeDiff, reduceCtorEq, Int.reduceNe, Int.reduceEq, Int.reduceLT, Int.reduceLE, Int.reduceAdd, Int.reduceSub, Int.reduceMul, Int.reduceNeg, Int.reduceToNat, UInt8.reduceToNat, natLit, ty3, ty55, ty106]
    have hc : LH.cellsAt (H.set b (.cells [.int .i64 2, .nilsl, .nilsl])) b = some [.int .i64 2, .nilsl, .nilsl] := cellsAt_set hbl
    refine ⟨Fr.set (.inl (by simp)), fun c hcN => List.getElem?_set_ne (by have := hN.1; omega), ?_⟩
    unfold nodeN
    simp only [if_true]
    by_cases hd : doc = 1
    · rw [if_pos hd]; exact ⟨by rw [hd]; rfl, .inl ⟨rfl, hc⟩⟩
    · rw [if_neg hd]; exact ⟨by simp [hd], ⟨2, []⟩, .inl ⟨rfl, hc⟩, rfl⟩
  · have hbl := cellsAt_lt h1
    simp only at *
    unfold run
    rw [Run_z Try.func88 rfl (by rfl : ok 88 = true) (by rfl : cfg.keep 88 = [0, 2, 3, 4, 11]) (by rfl : cfg.mode 88 = .any) (by rfl : cfg.ord 88 = [])]
    by_cases h0 : st = []
    · subst h0
      simp only [List.length_nil] at *
      simp (config := {contextual := true, maxSteps := 10000000, implicitDefEqProofs := false}) (disch := first | (and_intros <;> omega -splitDisjunctions) | (simp only [List.length_set, List.length_append, List.length_cons, List.length_nil]; and_intros <;> omega -splitDisjunctions) | fail) only [h1, Try.f88, go_sem, ↓reduceIte, Nat.reduceEqDiff, Nat.reduceAdd, Nat.reduceMul, Nat.reduceLT, Nat.reduceLeDiff, reduceCtorEq, Int.reduceNe, Int.reduceEq, Int.reduceLT, Int.reduceLE, Int.reduceAdd, Int.reduceSub, Int.reduceMul, Int.reduceNeg, Int.reduceToNat, UInt8.reduceToNat, natLit, ty3, ty55, ty106]
      have hc : NAt f (H.set b (.cells [.int .i64 2, .sl kb 0 1 0 kl.length, .sl mb 0 1 0 kl.length])) b ⟨2, []⟩ := .inr ⟨kb, mb, kl, ml, by rw [cellsAt_set hbl]; simp, by rw [cellsAt_set_ne (by omega)]; exact h2, by rw [cellsAt_set_ne (by omega)]; exact h3, h4, h5, h6, h7⟩
      refine ⟨Fr.set (.inl (by simp)), fun c hcN => List.getElem?_set_ne (by have := hN.1; omega), ?_⟩
      unfold nodeN
      simp only [if_true]
      by_cases hd : doc = 1
      · rw [if_pos hd]; exact ⟨by rw [hd]; rfl, hc⟩
      · rw [if_neg hd]; exact ⟨by simp [hd], ⟨2, []⟩, hc, rfl⟩
    · have hp : 0 < st.length := List.length_pos_iff.2 h0
      obtain ⟨n, hn⟩ : ∃ n, st.length = n + 1 := ⟨st.length - 1, by omega⟩
      have q1 := fun g => stM_cell (l := st) (i := n) (by omega) g
      have q2 := hm (st.getD n (0, 0)) (by rw [List.getD_eq_getElem?_getD, List.getElem?_eq_getElem (by omega)]; exact List.getElem_mem _)
      have q3 := stM_len st
      generalize htp : st.getD n (0, 0) = tp at *
      rw [hn] at h1 q3 hl
      have t1 : ((((n : Nat) + 1 : Nat) : Int) > 0) = True := eq_true (by omega)
      have t2 : ((((n : Nat) + 1 : Nat) : Int) - 1).toNat = n := by omega
      simp (config := {contextual := true, maxSteps := 10000000, implicitDefEqProofs := false}) (disch := first | (and_intros <;> omega -splitDisjunctions) | (simp only [List.length_set, List.length_append, List.length_cons, List.length_nil]; and_intros <;> omega -splitDisjunctions) | fail) only [h1, h3, q1, q3, hn, t1, t2, Try.f88, go_sem, ↓reduceIte, Nat.reduceEqDiff, Nat.reduceAdd, Nat.reduceMul, Nat.reduceLT, Nat.reduceLeDiff, reduceCtorEq, Int.reduceNe, Int.reduceEq, Int.reduceLT, Int.reduceLE, Int.reduceAdd, Int.reduceSub, Int.reduceMul, Int.reduceNeg, Int.reduceToNat, UInt8.reduceToNat, natLit, ty3, ty55, ty106]
      have hmb := cellsAt_lt h3
      have e : (stM st ++ ml).set n (.int .i64 (tp.2 + 1)) = stM (st.set n (tp.1, tp.2 + 1)) ++ ml := by
        rw [List.set_append_left _ _ (by rw [stM_len]; omega)]
        unfold stM
        rw [List.map_set]
      have e2 : stK (st.set n (tp.1, tp.2 + 1)) = stK st := by
        unfold stK
        rw [List.map_set]
        apply List.ext_getElem?
        intro i
        rw [List.getElem?_set, List.length_map]
        by_cases hi : n = i
        · subst hi
          rw [if_pos rfl, if_pos (by omega), List.getElem?_map, List.getElem?_eq_getElem (by omega)]
          have : st[n]'(by omega) = tp := by rw [← htp, List.getD_eq_getElem?_getD, List.getElem?_eq_getElem (by omega)]; rfl
          rw [this]; rfl
        · rw [if_neg hi]
      have hnn : nodeN ⟨doc, st⟩ = some ⟨doc, st.set n (tp.1, tp.2 + 1)⟩ := by
        unfold nodeN NS.top
        simp only [h0, if_false, hn, Nat.add_sub_cancel, htp]
      rw [e, hnn]
      refine ⟨Fr.set (.inr h6), fun c hcN => List.getElem?_set_ne (by have := (hN.2 _ _ _ h1).2 _ _ _ rfl; omega), .inr ⟨kb, mb, kl, ml, ?_, ?_, ?_, h4, h5, h6, h7⟩⟩
      · rw [cellsAt_set_ne (by omega), h1]; simp only [List.length_set, hn]
      · rw [cellsAt_set_ne (by omega), h2, e2]
      · rw [cellsAt_set hmb]
theorem drop_last {α : Type} {st : List α} {n : Nat} (h : st.length = n + 1) (d : α) : st = st.dropLast ++ [st.getD n d] := by
  have h0 : st ≠ [] := by intro e; rw [e] at h; cases h
  have := (List.dropLast_concat_getLast h0).symm
  rw [List.getLast_eq_getElem] at this
  rw [List.getD_eq_getElem?_getD, List.getElem?_eq_getElem (by omega)]
  simpa [h] using this
theorem run_ends {f b : Nat} {s : NS} {H : LH} {fl : Nat} (h : NAt f H b s) (hb : b < f) (hm : ∀ x ∈ s.st, 0 ≤ x.2 ∧ x.2 ≤ 1099511627776) (hl : s.st.length ≤ 1099511627776) (hf : fl ≤ b) :
    Ret (fun w H' => match stepN s 7 with | none => w = .bool false | some t => w = .bool true ∧ Fr f [b] H H' ∧ NAt f H' b t) (run 89 [.ptr b 0] fl H) := by
  obtain ⟨doc, st⟩ := s
  have hs7 : stepN ⟨doc, st⟩ 7 = if st = [] ∨ ((⟨doc, st⟩ : NS).top.1 = 4 ∧ (⟨doc, st⟩ : NS).top.2 % 2 ≠ 0) then none else some ⟨doc, st.dropLast⟩ := rfl
  rw [hs7]
  rcases h with ⟨h1, h2⟩ | ⟨kb, mb, kl, ml, h1, h2, h3, h4, h5, h6, h7⟩
  · have hbl := cellsAt_lt h2
    simp only at h1
    subst h1
    unfold run
    rw [Run_z Try.func89 rfl (by rfl : ok 89 = true) (by rfl : cfg.keep 89 = [0, 2, 3, 32]) (by rfl : cfg.mode 89 = .any) (by rfl : cfg.ord 89 = [])]
    simp (config := {contextual := true, maxSteps := 10000000, implicitDefEqProofs := false}) (disch := first | (and_intros <;> omega -splitDisjunctions) | (simp only [List.length_set, List.length_append, List.length_cons, List.length_nil]; and_intros <;> omega -splitDisjunctions) | fail) only [h2, Try.f89, go_sem, ↓reduceIte, Nat.reduceEqDiff, Nat.reduceAdd, Nat.reduceMul, Nat.reduceLT, Nat.reduceLeDiff, reduceCtorEq, Int.reduceNe, Int.reduceEq, Int.reduceLT, Int.reduceLE, Int.reduceAdd, Int.reduceSub, Int.reduceMul, Int.reduceNeg, Int.reduceToNat, UInt8.reduceToNat, natLit, ty3, ty55, ty106]
  · have hbl := cellsAt_lt h1
    simp only at *
    unfold run
    rw [Run_z Try.func89 rfl (by rfl : ok 89 = true) (by rfl : cfg.keep 89 = [0, 2, 3, 32]) (by rfl : cfg.mode 89 = .any) (by rfl : cfg.ord 89 = [])]
    by_cases h0 : st = []
    · subst h0
      simp only [List.length_nil] at *
      simp (config := {contextual := true, maxSteps := 10000000, implicitDefEqProofs := false}) (disch := first | (and_intros <;> omega -splitDisjunctions) | (simp only [List.length_set, List.length_append, List.length_cons, List.length_nil]; and_intros <;> omega -splitDisjunctions) | fail) only [h1, Try.f89, go_sem, ↓reduceIte, Nat.reduceEqDiff, Nat.reduceAdd, Nat.reduceMul, Nat.reduceLT, Nat.reduceLeDiff, reduceCtorEq, Int.reduceNe, Int.reduceEq, Int.reduceLT, Int.reduceLE, Int.reduceAdd, Int.reduceSub, Int.reduceMul, Int.reduceNeg, Int.reduceToNat, UInt8.reduceToNat, natLit, ty3, ty55, ty106]
    · have hp : 0 < st.length := List.length_pos_iff.2 h0
      obtain ⟨n, hn⟩ : ∃ n, st.length = n + 1 := ⟨st.length - 1, by omega⟩
      have q0 := fun g => stK_cell (l := st) (i := n) (by omega) g
      have q1 := fun g => stM_cell (l := st) (i := n) (by omega) g
      have q2 := hm (st.getD n (0, 0)) (by rw [List.getD_eq_getElem?_getD, List.getElem?_eq_getElem (by omega)]; exact List.getElem_mem _)
      have q3 := stM_len st
      have q4 := stK_len st
      have hlt := drop_last hn (0, 0)
      have htop : (⟨doc, st⟩ : NS).top = st.getD n (0, 0) := by unfold NS.top; simp only [hn, Nat.add_sub_cancel]
      rw [htop]
      generalize htp : st.getD n (0, 0) = tp at *
      rw [hn] at h1 q3 q4 hl
      have t1 : ((((n : Nat) + 1 : Nat) : Int) - 1 < 0) = False := eq_false (by omega)
      have t2 : ((((n : Nat) + 1 : Nat) : Int) - 1).toNat = n := by omega
      have hfin : NAt f (H.set b (.cells [.int .i64 doc, .sl kb 0 1 n (n + 1 + kl.length), .sl mb 0 1 n (n + 1 + kl.length)])) b ⟨doc, st.dropLast⟩ := by
        have hdl : st.dropLast.length = n := by rw [List.length_dropLast]; omega
        refine .inr ⟨kb, mb, .int .i64 tp.1 :: kl, .int .i64 tp.2 :: ml, ?_, ?_, ?_, by simp [h4], h5, h6, h7⟩
        · rw [cellsAt_set hbl]
          simp only [hdl, List.length_cons, show n + 1 + kl.length = n + (kl.length + 1) by omega]
        · rw [cellsAt_set_ne (by omega), h2]
          conv => lhs; rw [hlt]
          simp [stK]
        · rw [cellsAt_set_ne (by omega), h3]
          conv => lhs; rw [hlt]
          simp [stM]
      have c1 : ∀ l, LH.cellsAt (H.set b (.cells l)) b = some l := fun l => cellsAt_set hbl
      have t4 : tp.2.tmod 2 = tp.2 % 2 := Int.tmod_eq_emod_of_nonneg q2.1
      by_cases hk : tp.1 = 4
      · by_cases hm2 : tp.2 % 2 = 0
        · have t3 : (tp.2 % 2 = 0) = True := eq_true hm2
          simp (config := {contextual := true, maxSteps := 10000000, implicitDefEqProofs := false}) (disch := first | (and_intros <;> omega -splitDisjunctions) | (simp only [List.length_set, List.length_append, List.length_cons, List.length_nil]; and_intros <;> omega -splitDisjunctions) | fail) only [h0, h1, h2, h3, q0, q1, q3, q4, hn, hk, t1, t2, t3, t4, c1, Nat.sub_zero, List.set_set, Try.f89, go_sem, ↓reduceIte, Nat.reduceEqDiff, Nat.reduceAdd, Nat.reduceMul, Nat.reduceLT, Nat.reduceLeDiff, reduceCtorEq, Int.reduceNe, Int.reduceEq, Int.reduceLT, Int.reduceLE, Int.reduceAdd, Int.reduceSub, Int.reduceMul, Int.reduceNeg, Int.reduceToNat, UInt8.reduceToNat, natLit, ty3, ty55, ty106]
          exact ⟨Fr.set (.inl (by simp)), hfin⟩
        · have t3 : (tp.2 % 2 = 0) = False := eq_false hm2
          simp (config := {contextual := true, maxSteps := 10000000, implicitDefEqProofs := false}) (disch := first | (and_intros <;> omega -splitDisjunctions) | (simp only [List.length_set, List.length_append, List.length_cons, List.length_nil]; and_intros <;> omega -splitDisjunctions) | fail) only [h0, h1, h2, h3, q0, q1, q3, q4, hn, hk, t1, t2, t3, t4, c1, Nat.sub_zero, List.set_set, Try.f89, go_sem, ↓reduceIte, Nat.reduceEqDiff, Nat.reduceAdd, Nat.reduceMul, Nat.reduceLT, Nat.reduceLeDiff, reduceCtorEq, Int.reduceNe, Int.reduceEq, Int.reduceLT, Int.reduceLE, Int.reduceAdd, Int.reduceSub, Int.reduceMul, Int.reduceNeg, Int.reduceToNat, UInt8.reduceToNat, natLit, ty3, ty55, ty106]
      · simp (config := {contextual := true, maxSteps := 10000000, implicitDefEqProofs := false}) (disch := first | (and_intros <;> omega -splitDisjunctions) | (simp only [List.length_set, List.length_append, List.length_cons, List.length_nil]; and_intros <;> omega -splitDisjunctions) | fail) only [h0, h1, h2, h3, q0, q1, q3, q4, hn, hk, t1, t2, c1, Nat.sub_zero, List.set_set, Try.f89, go_sem, ↓reduceIte, Nat.reduceEqDiff, Nat.reduceAdd, Nat.reduceMul, Nat.reduceLT, Nat.reduceLeDiff, reduceCtorEq, Int.reduceNe, Int.reduceEq, Int.reduceLT, Int.reduceLE, Int.reduceAdd, Int.reduceSub, Int.reduceMul, Int.reduceNeg, Int.reduceToNat, UInt8.reduceToNat, natLit, ty3, ty55, ty106]
        exact ⟨Fr.set (.inl (by simp)), hfin⟩
end Go.Proofs.Ytcbjmggbbnpbpaa.Lg
namespace Go.Proofs.Ytcbjmggbbnpbpaa.Lg
set_option linter.unusedSimpArgs false
set_option linter.unusedVariables false
set_option maxRecDepth 100000
set_option maxHeartbeats 40000000
open Go.Proofs.Ytcbjmggbbnpbpaa

theorem top_mem {s : NS} (h : s.st ≠ []) : s.top ∈ s.st := by
  have hp : 0 < s.st.length := List.length_pos_iff.2 h
  unfold NS.top
  rw [List.getD_eq_getElem?_getD, List.getElem?_eq_getElem (by omega)]
  exact List.getElem_mem _
/-- one more in a slice that has no room, and in one that has -/
theorem ap_full {fl kb n : Nat} {X : LH} {l : List V} (hc : X.cellsAt kb = some l) (hn : l.length = n) (hf : fl ≤ kb) (bytes : Nat) (hb : (n + 1) * bytes ≤ 1099511627776) (x : V) :
    appendV fl 1 bytes X 1 [x] (.sl kb 0 1 n n) = some (.sl X.length 0 1 (n + 1) (n + 1), X.set kb .dead ++ [.cells (l ++ [x])]) := by
  have hm : (n + 1) * bytes ≤ mostCells := by unfold mostCells; omega
  rw [appendV_sl, if_neg (by omega)]
  simp only [grd, if_true, appO, hc, hm, hf, and_self, growO, cut, hn, Nat.zero_add, Nat.mul_one, Nat.le_refl, List.drop_zero]
  rw [if_neg (by omega), List.take_of_length_le (by omega)]
theorem ap_room {fl kb n c : Nat} {X : LH} {l : List V} (hc : X.cellsAt kb = some l) (hn : l.length = c) (h : n < c) (hf : fl ≤ kb) (bytes : Nat) (x : V) :
    appendV fl 1 bytes X 1 [x] (.sl kb 0 1 n c) = some (.sl kb 0 1 (n + 1) c, X.set kb (.cells (l.set n x))) := by
  rw [appendV_sl]
  have h1 : n + 1 ≤ c := h
  have h2 : fl ≤ kb ∧ 0 + (n + 1) * 1 ≤ l.length := ⟨hf, by omega⟩
  rw [if_neg (by omega)]
  simp only [grd, if_true, appO, hc, h1, h2, and_self]
  simp only [Nat.zero_add, Nat.mul_one, putAt]
theorem ap_nil {fl : Nat} {X : LH} (bytes : Nat) (hb : bytes ≤ 1099511627776) (x : V) : appendV fl 1 bytes X 1 [x] .nilsl = some (.sl X.length 0 1 1 1, X ++ [.cells [x]]) := by
  have hm : 1 * bytes ≤ mostCells := by unfold mostCells; omega
  rw [appendV_nilsl, if_neg (by omega)]
  simp only [grd, hm, if_true]
theorem set_mid {l g : List V} {n : Nat} {y x : V} (h : l.length = n) : (l ++ y :: g).set n x = l ++ x :: g := by
  subst h
  rw [List.set_append_right _ _ (Nat.le_refl _), Nat.sub_self, List.set_cons_zero]
theorem nodeN_len {s t : NS} (h : nodeN s = some t) : t.st.length = s.st.length := by
  unfold nodeN at h
  by_cases h0 : s.st = []
  · rw [if_pos h0] at h
    by_cases h1 : s.doc = 1
    · rw [if_pos h1] at h; cases h; rw [h0]
    · rw [if_neg h1] at h; cases h
  · rw [if_neg h0] at h
    cases h
    exact List.length_set
theorem cellsAt_at {X L : LH} {n : Nat} (h : X.length = n) : LH.cellsAt (X ++ L) n = LH.cellsAt L 0 := by subst h; exact cellsAt_app0 X L
def inI (x : Int) : List V := [.int .i64 x]
theorem inI_len (x : Int) : (inI x).length = 1 := rfl
theorem rows_K (l : List (Int × Int)) : rows inI (l.map (·.1)) = stK l := by
  induction l with
  | nil => rfl
  | cons x l ih => simp [rows, stK, inI] at *; exact ih
theorem NAt.kinds {f : Nat} {H : LH} {b : Nat} {s : NS} (h : NAt f H b s) : ∃ kv mv, H.cellsAt b = some [.int .i64 s.doc, kv, mv] ∧ At H inI 1 kv (s.st.map (·.1)) := by
  rcases h with ⟨h1, h2⟩ | ⟨kb, mb, kl, ml, h1, h2, h3, h4, h5, h6, h7⟩
  · exact ⟨_, _, h2, .inl ⟨by rw [h1]; rfl, .inl rfl⟩⟩
  · refine ⟨_, _, h1, .inr ⟨kb, 0, _, _, by rw [List.length_map], h2, ?_, ?_⟩⟩
    · simp only [List.length_map, List.length_append, stK_len]; omega
    · rw [List.drop_zero, rows_K, List.length_map, Nat.mul_one, List.take_left' (stK_len _)]
theorem run_event {f b : Nat} {s : NS} {H : LH} {fl : Nat} (e : Ev) (h : NAt f H b s) (hb : b < f) (hm : ∀ x ∈ s.st, 0 ≤ x.2 ∧ x.2 ≤ 1099511627776) (hl : s.st.length ≤ 16777216) (hf : fl ≤ b) (hfH : f ≤ H.length) :
    Ret (fun w H' => match stepN s e.kind with | none => w = .bool false | some t => w = .bool true ∧ Fr f [b] H H' ∧ NAt f H' b t) (run 77 [.ptr b 0, .agg (evC e)] fl H) := by
  have h1 : NAt f (H ++ [.cells (evC e)]) b s := h.ext
  have hnode := run_node (fl := fl) h1 (h.nin (L := [.cells (evC e)])) hb hm (by omega) hf
  have hends := run_ends (fl := fl) h1 hb hm (by omega) hf
  have fr1 : ∀ L, Fr f [b] H (H ++ L) := fun L => Fr.app hfH
  have hx1 : ∀ L, NAt f (H ++ L) b s := fun L => h.ext
  obtain ⟨kv, mv, hcb, hA⟩ := h.kinds
  have hc : ∀ L, LH.cellsAt (H ++ L) b = some [.int .i64 s.doc, kv, mv] := fun L => cellsAt_left hcb
  have hbl := cellsAt_lt hcb
  obtain ⟨kind, style, flag, text, anchor, tag, place, code⟩ := e
  obtain ⟨doc, st⟩ := s
  have hset : ∀ L x, NAt f ((H ++ L).set b (.cells [.int .i64 x, kv, mv])) b ⟨x, st⟩ := fun L x => by
    rcases h with ⟨h1, h2⟩ | ⟨kb, mb, kl, ml, h1, h2, h3, h4, h5, h6, h7⟩
    · rw [h2] at hcb
      cases hcb
      exact .inl ⟨h1, cellsAt_set (by rw [List.length_append]; omega)⟩
    · rw [h1] at hcb
      cases hcb
      exact .inr ⟨kb, mb, kl, ml, cellsAt_set (by rw [List.length_append]; omega), by rw [cellsAt_set_ne (by omega)]; exact cellsAt_left h2, by rw [cellsAt_set_ne (by omega)]; exact cellsAt_left h3, h4, h5, h6, h7⟩
  have fin : ∀ L x, Fr f [b] H ((H ++ L).set b (.cells [.int .i64 x, kv, mv])) ∧ NAt f ((H ++ L).set b (.cells [.int .i64 x, kv, mv])) b ⟨x, st⟩ := fun L x => ⟨(fr1 L).trans (Fr.set (.inl (by simp))), hset L x⟩
  have frE := fr1 [.cells (evC ⟨kind, style, flag, text, anchor, tag, place, code⟩)]
  unfold evC at *
  simp only at *
  have f1 := hA.isTup; have f2 := hA.len; have f3 := hA.lenOk ty55; have f0 := hA.one
  have f4 := fun L hp => (hA.left (L := L)).con hp
  have f5 := hA.idx (T := ty Try.prog) (t := 55) (by simp only [elemI, sizeO, ty3, ty55])
  have f6 := fun L => (hA.left (L := L)).load1 0 (fun x => .int .i64 x) (fun _ => rfl)
  have hg : ∀ L, LH.cellsAt (H ++ L) H.length = LH.cellsAt L 0 := fun L => cellsAt_app0 H L
  rw [List.length_map] at f2
  by_cases k2 : kind = 2
  · subst k2
    unfold run at *
    rw [Run_zr Try.func77 rfl (by rfl : ok 77 = true) (by rfl : cfg.keep 77 = [0, 1, 3, 4, 5, 6, 7, 8, 16, 17, 28, 33, 59, 63]) (by rfl : cfg.mode 77 = .any) (by rfl : cfg.ord 77 = [(13, [0, 1, 2, 3, 4, 5, 6, 7, 8, 10, 11, 12, 13, 14, 9, 15, 16, 17, 18, 19, 20, 21], [(9, 13)])])]
    simp (config := {contextual := true, maxSteps := 10000000, implicitDefEqProofs := false}) (disch := first | (and_intros <;> omega -splitDisjunctions) | (simp only [List.length_set, List.length_append, List.length_cons, List.length_nil]; and_intros <;> omega -splitDisjunctions) | fail) only [hc, f0, f1, f2, f3, f4, f5, f6, hl, reC, findR, reR, reL, reO, List.idxOf_cons, List.filter_cons, List.filter_nil, Option.map_some, Option.map_none, Try.f77, go_sem, ↓reduceIte, Nat.reduceEqDiff, Nat.reduceAdd, Nat.reduceMul, Nat.reduceLT, Nat.reduceLeDiff, reduceCtorEq, Int.reduceNe, Int.reduceEq, Int.reduceLT, Int.reduceLE, Int.reduceAdd, Int.reduceSub, Int.reduceMul, Int.reduceNeg, Int.reduceToNat, UInt8.reduceToNat, natLit, ty3, ty4, ty9, ty55, ty58, ty106]
    simp only [stepN, if_true]
    by_cases hd : doc = 0
    · rw [if_pos hd]; exact ⟨by rw [hd]; rfl, fin _ _⟩
    · rw [if_neg hd]; simp [hd]
  by_cases k8 : kind = 8
  · subst k8
    unfold run at *
    rw [Run_zr Try.func77 rfl (by rfl : ok 77 = true) (by rfl : cfg.keep 77 = [0, 1, 3, 4, 5, 6, 7, 8, 16, 17, 28, 33, 59, 63]) (by rfl : cfg.mode 77 = .any) (by rfl : cfg.ord 77 = [(13, [0, 1, 2, 3, 4, 5, 6, 7, 8, 10, 11, 12, 13, 14, 9, 15, 16, 17, 18, 19, 20, 21], [(9, 13)])])]
    simp (config := {contextual := true, maxSteps := 10000000, implicitDefEqProofs := false}) (disch := first | (and_intros <;> omega -splitDisjunctions) | (simp only [List.length_set, List.length_append, List.length_cons, List.length_nil]; and_intros <;> omega -splitDisjunctions) | fail) only [hc, f0, f1, f2, f3, f4, f5, f6, reC, findR, reR, reL, reO, List.idxOf_cons, List.filter_cons, List.filter_nil, Option.map_some, Option.map_none, Try.f77, go_sem, ↓reduceIte, Nat.reduceEqDiff, Nat.reduceAdd, Nat.reduceMul, Nat.reduceLT, Nat.reduceLeDiff, reduceCtorEq, Int.reduceNe, Int.reduceEq, Int.reduceLT, Int.reduceLE, Int.reduceAdd, Int.reduceSub, Int.reduceMul, Int.reduceNeg, Int.reduceToNat, UInt8.reduceToNat, natLit, ty3, ty4, ty9, ty55, ty58, ty106]
    simp only [stepN, Int.reduceEq, if_true, if_false, or_self]
    by_cases hd : doc = 2 ∧ st = []
    · rw [if_pos hd]; exact ⟨by obtain ⟨rfl, rfl⟩ := hd; rfl, fin _ _⟩
    · rw [if_neg hd]
      have : ¬ (doc = 2 ∧ ((st.length : Nat) : Int) ≤ 0) := fun h => hd ⟨h.1, List.length_eq_zero_iff.1 (by omega)⟩
      simp only [this, decide_false]
  by_cases k7 : kind = 7
  · subst k7
    obtain ⟨w, H', e1, hw⟩ := hends
    unfold run at *
    rw [Run_zr Try.func77 rfl (by rfl : ok 77 = true) (by rfl : cfg.keep 77 = [0, 1, 3, 4, 5, 6, 7, 8, 16, 17, 28, 33, 59, 63]) (by rfl : cfg.mode 77 = .any) (by rfl : cfg.ord 77 = [(13, [0, 1, 2, 3, 4, 5, 6, 7, 8, 10, 11, 12, 13, 14, 9, 15, 16, 17, 18, 19, 20, 21], [(9, 13)])])]
    simp (config := {contextual := true, maxSteps := 10000000, implicitDefEqProofs := false}) (disch := first | (and_intros <;> omega -splitDisjunctions) | (simp only [List.length_set, List.length_append, List.length_cons, List.length_nil]; and_intros <;> omega -splitDisjunctions) | fail) only [hc, f0, f1, f2, f3, f4, f5, f6, e1, reC, findR, reR, reL, reO, List.idxOf_cons, List.filter_cons, List.filter_nil, Option.map_some, Option.map_none, Try.f77, go_sem, ↓reduceIte, Nat.reduceEqDiff, Nat.reduceAdd, Nat.reduceMul, Nat.reduceLT, Nat.reduceLeDiff, reduceCtorEq, Int.reduceNe, Int.reduceEq, Int.reduceLT, Int.reduceLE, Int.reduceAdd, Int.reduceSub, Int.reduceMul, Int.reduceNeg, Int.reduceToNat, UInt8.reduceToNat, natLit, ty3, ty4, ty9, ty55, ty58, ty106]
    cases hs : stepN ⟨doc, st⟩ 7 with
    | none => rw [hs] at hw; exact hw
    | some t => rw [hs] at hw; exact ⟨hw.1, frE.trans hw.2.1, hw.2.2⟩
  by_cases k5 : kind = 5 ∨ kind = 6
  · obtain ⟨w, H', e1, hf2, hN2, hw⟩ := hnode
    have hs : stepN ⟨doc, st⟩ kind = nodeN ⟨doc, st⟩ := by
      unfold stepN
      rw [if_neg (by omega), if_pos k5]
    rw [hs]
    have hfin : match nodeN ⟨doc, st⟩ with | none => w = .bool false | some t => w = .bool true ∧ Fr f [b] H H' ∧ NAt f H' b t := by
      cases hs : nodeN ⟨doc, st⟩ with
      | none => rw [hs] at hw; exact hw.1
      | some t => rw [hs] at hw; exact ⟨hw.1, frE.trans hf2, hw.2⟩
    rcases k5 with rfl | rfl
    all_goals
      unfold run at *
      rw [Run_zr Try.func77 rfl (by rfl : ok 77 = true) (by rfl : cfg.keep 77 = [0, 1, 3, 4, 5, 6, 7, 8, 16, 17, 28, 33, 59, 63]) (by rfl : cfg.mode 77 = .any) (by rfl : cfg.ord 77 = [(13, [0, 1, 2, 3, 4, 5, 6, 7, 8, 10, 11, 12, 13, 14, 9, 15, 16, 17, 18, 19, 20, 21], [(9, 13)])])]
      simp (config := {contextual := true, maxSteps := 10000000, implicitDefEqProofs := false}) (disch := first | (and_intros <;> omega -splitDisjunctions) | (simp only [List.length_set, List.length_append, List.length_cons, List.length_nil]; and_intros <;> omega -splitDisjunctions) | fail) only [hc, f0, f1, f2, f3, f4, f5, f6, e1, reC, findR, reR, reL, reO, List.idxOf_cons, List.filter_cons, List.filter_nil, Option.map_some, Option.map_none, Try.f77, go_sem, ↓reduceIte, Nat.reduceEqDiff, Nat.reduceAdd, Nat.reduceMul, Nat.reduceLT, Nat.reduceLeDiff, reduceCtorEq, Int.reduceNe, Int.reduceEq, Int.reduceLT, Int.reduceLE, Int.reduceAdd, Int.reduceSub, Int.reduceMul, Int.reduceNeg, Int.reduceToNat, UInt8.reduceToNat, natLit, ty3, ty4, ty9, ty55, ty58, ty106]
      exact hfin
  by_cases k3 : kind = 3 ∨ kind = 4
  · obtain ⟨w, A, e1, hf2, hN2, hw⟩ := hnode
    have hlA : H.length < A.length := by have := hf2.len; rw [List.length_append, List.length_singleton] at this; omega
    have hbox : LH.cellsAt A H.length = some [.int .i64 kind, .int .i64 style, .bool flag, .str text, .str anchor, .str tag, .int .i64 place, .int .i64 code] := by
      rw [cells_get (hN2 H.length (Nat.le_refl _)), hg, cellsAt_zero]
    have hboxL : ∀ L, LH.cellsAt (A ++ L) H.length = some [.int .i64 kind, .int .i64 style, .bool flag, .str text, .str anchor, .str tag, .int .i64 place, .int .i64 code] := fun L => cellsAt_left hbox
    have hs : stepN ⟨doc, st⟩ kind = (nodeN ⟨doc, st⟩).map (fun t => ⟨t.doc, t.st ++ [(kind, 0)]⟩) := by
      unfold stepN
      rw [if_neg (by omega), if_neg k5, if_pos k3]
    rw [hs]
    obtain ⟨t, hn, htl, ht⟩ : ∃ t, NAt f A b t ∧ t.st.length ≤ st.length ∧ ((nodeN ⟨doc, st⟩ = none ∧ w = .bool false) ∨ (nodeN ⟨doc, st⟩ = some t ∧ w = .bool true)) := by
      cases hs : nodeN ⟨doc, st⟩ with
      | none => rw [hs] at hw; obtain ⟨a, t, b, c⟩ := hw; exact ⟨t, b, by rw [c]; exact Nat.zero_le _, .inl ⟨rfl, a⟩⟩
      | some t => rw [hs] at hw; exact ⟨t, hw.2, Nat.le_of_eq (nodeN_len hs), .inr ⟨rfl, hw.1⟩⟩
    obtain ⟨td, ts⟩ := t
    simp only at htl
    have hfA : f ≤ A.length := by have := hf2.len; rw [List.length_append] at this; omega
    have fin3 : ∀ B v, Fr f [b] H B → NAt f B b ⟨td, ts ++ [(kind, 0)]⟩ → v = w →
        (match (nodeN ⟨doc, st⟩).map (fun t => (⟨t.doc, t.st ++ [(kind, 0)]⟩ : NS)) with | none => v = .bool false | some t => v = .bool true ∧ Fr f [b] H B ∧ NAt f B b t) := by
      intro B v hB hN hv
      subst hv
      rcases ht with ⟨e, e2⟩ | ⟨e, e2⟩
      · rw [e]; exact e2
      · rw [e]; exact ⟨e2, hB, hN⟩
    have hbA : b < A.length := by omega
    rcases hn with ⟨n1, n2⟩ | ⟨kb, mb, kl, ml, n1, n2, n3, n4, n5, n6, n7⟩
    · simp only at n1
      subst n1
      have c1 : ∀ L, LH.cellsAt (A ++ L) b = some [.int .i64 td, .nilsl, .nilsl] := fun L => cellsAt_left n2
      have c2 : ∀ L l, LH.cellsAt ((A ++ L).set b (.cells l)) b = some l := fun L l => cellsAt_set (by rw [List.length_append]; omega)
      have ap := fun X x => ap_nil (fl := fl) (X := X) 8 (by decide) x
      rcases k3 with rfl | rfl
      all_goals
        unfold run at *
        rw [Run_zr Try.func77 rfl (by rfl : ok 77 = true) (by rfl : cfg.keep 77 = [0, 1, 3, 4, 5, 6, 7, 8, 16, 17, 28, 33, 59, 63]) (by rfl : cfg.mode 77 = .any) (by rfl : cfg.ord 77 = [(13, [0, 1, 2, 3, 4, 5, 6, 7, 8, 10, 11, 12, 13, 14, 9, 15, 16, 17, 18, 19, 20, 21], [(9, 13)])])]
        simp only [reC, findR, reR, reL, reO, List.idxOf_cons, List.filter_cons, List.filter_nil, Option.map_some, Option.map_none, Try.f77, if_true, if_false, Nat.reduceEqDiff, Nat.reduceBEq, cond_true, cond_false, Nat.reduceAdd, List.map_cons, List.map_nil, List.append_nil, List.nil_append, List.cons_append, List.getElem?_cons_succ, List.getElem?_cons_zero, BEq.rfl, Nat.succ_ne_zero, Bool.false_eq_true]
        simp (config := {contextual := true, maxSteps := 10000000, implicitDefEqProofs := false}) (disch := first | (and_intros <;> omega -splitDisjunctions) | (simp only [List.length_set, List.length_append, List.length_cons, List.length_nil]; and_intros <;> omega -splitDisjunctions) | fail) only [hc, f0, f1, f2, f3, f4, f5, f6, e1, n2, c1, c2, ap, hbox, hboxL, List.set_set, reC, findR, reR, reL, reO, List.idxOf_cons, List.filter_cons, List.filter_nil, Option.map_some, Option.map_none, Try.f77, go_sem, ↓reduceIte, Nat.reduceEqDiff, Nat.reduceAdd, Nat.reduceMul, Nat.reduceLT, Nat.reduceLeDiff, reduceCtorEq, Int.reduceNe, Int.reduceEq, Int.reduceLT, Int.reduceLE, Int.reduceAdd, Int.reduceSub, Int.reduceMul, Int.reduceNeg, Int.reduceToNat, UInt8.reduceToNat, natLit, ty3, ty4, ty9, ty55, ty58, ty106]
        refine fin3 _ _ (frE.trans (hf2.trans ((Fr.app hfA).trans (Fr.set (.inl (by simp)))))) (.inr ⟨A.length + 2, A.length + 3, [], [], c2 _ _, ?_, ?_, rfl, by omega, by omega, by omega⟩) rfl
        · rw [cellsAt_set_ne (by omega), cellsAt_app]; rfl
        · rw [cellsAt_set_ne (by omega), cellsAt_app]; rfl
    · have hkA := cellsAt_lt n2
      have hmA := cellsAt_lt n3
      have c1 : ∀ L, LH.cellsAt (A ++ L) b = some [.int .i64 td, .sl kb 0 1 ts.length (ts.length + kl.length), .sl mb 0 1 ts.length (ts.length + kl.length)] := fun L => cellsAt_left n1
      have d1 : decide (b ≠ kb) = true := decide_eq_true (by omega)
      have d2 : decide (b ≠ mb) = true := decide_eq_true (by omega)
      simp only at *
      cases kl with
      | nil =>
        obtain rfl : ml = [] := by cases ml with | nil => rfl | cons x l => simp at n4
        simp only [List.append_nil, List.length_nil, Nat.add_zero] at *
        have ap1 : ∀ L x, appendV fl 1 8 (A ++ L) 1 [x] (.sl kb 0 1 ts.length ts.length) = some (.sl (A ++ L).length 0 1 (ts.length + 1) (ts.length + 1), (A ++ L).set kb .dead ++ [.cells (stK ts ++ [x])]) :=
          fun L x => ap_full (cellsAt_left n2) (stK_len ts) (by omega) 8 (by omega) x
        have ap2 : ∀ L M x, appendV fl 1 8 ((A ++ L).set kb .dead ++ M) 1 [x] (.sl mb 0 1 ts.length ts.length) = some (.sl ((A ++ L).set kb .dead ++ M).length 0 1 (ts.length + 1) (ts.length + 1), ((A ++ L).set kb .dead ++ M).set mb .dead ++ [.cells (stM ts ++ [x])]) :=
          fun L M x => ap_full (cellsAt_left (by rw [cellsAt_set_ne (by omega)]; exact cellsAt_left n3)) (stM_len ts) (by omega) 8 (by omega) x
        have c2 : ∀ L M N, LH.cellsAt (((A ++ L).set kb .dead ++ M).set mb .dead ++ N) b = some [.int .i64 td, .sl kb 0 1 ts.length ts.length, .sl mb 0 1 ts.length ts.length] := fun L M N =>
          cellsAt_left (by rw [cellsAt_set_ne (by omega)]; exact cellsAt_left (by rw [cellsAt_set_ne (by omega)]; exact c1 L))
        have c3 : ∀ L M N l, LH.cellsAt ((((A ++ L).set kb .dead ++ M).set mb .dead ++ N).set b (.cells l)) b = some l := fun L M N l => cellsAt_set (by simp only [List.length_append, List.length_set]; omega)
        have c4 : ∀ x y M, LH.cellsAt ((A ++ [x, Blk.cells y] : LH).set kb .dead ++ M) (A.length + 1) = some y := fun x y M => cellsAt_left (by rw [cellsAt_set_ne (by omega), cellsAt_app]; rfl)
        have fr : ∀ L M N l, Fr f [b] A ((((A ++ L).set kb .dead ++ M).set mb .dead ++ N).set b (.cells l)) := fun L M N l =>
          (Fr.app hfA).trans ((Fr.set (.inr n5)).trans ((Fr.app (by simp only [List.length_append, List.length_set]; omega)).trans ((Fr.set (.inr n6)).trans ((Fr.app (by simp only [List.length_append, List.length_set]; omega)).trans (Fr.set (.inl (by simp)))))))
        rcases k3 with rfl | rfl
        all_goals
          unfold run at *
          rw [Run_zr Try.func77 rfl (by rfl : ok 77 = true) (by rfl : cfg.keep 77 = [0, 1, 3, 4, 5, 6, 7, 8, 16, 17, 28, 33, 59, 63]) (by rfl : cfg.mode 77 = .any) (by rfl : cfg.ord 77 = [(13, [0, 1, 2, 3, 4, 5, 6, 7, 8, 10, 11, 12, 13, 14, 9, 15, 16, 17, 18, 19, 20, 21], [(9, 13)])])]
          simp only [reC, findR, reR, reL, reO, List.idxOf_cons, List.filter_cons, List.filter_nil, Option.map_some, Option.map_none, Try.f77, if_true, if_false, Nat.reduceEqDiff, Nat.reduceBEq, cond_true, cond_false, Nat.reduceAdd, List.map_cons, List.map_nil, List.append_nil, List.nil_append, List.cons_append, List.getElem?_cons_succ, List.getElem?_cons_zero, BEq.rfl, Nat.succ_ne_zero, Bool.false_eq_true]
          simp (config := {contextual := true, maxSteps := 10000000, implicitDefEqProofs := false}) (disch := first | (and_intros <;> omega -splitDisjunctions) | (simp only [List.length_set, List.length_append, List.length_cons, List.length_nil]; and_intros <;> omega -splitDisjunctions) | fail) only [hc, f0, f1, f2, f3, f4, f5, f6, e1, n1, c1, c2, c3, c4, d1, d2, ap1, ap2, hbox, hboxL, List.set_set, reC, findR, reR, reL, reO, List.idxOf_cons, List.filter_cons, List.filter_nil, Option.map_some, Option.map_none, Try.f77, go_sem, ↓reduceIte, Nat.reduceEqDiff, Nat.reduceAdd, Nat.reduceMul, Nat.reduceLT, Nat.reduceLeDiff, reduceCtorEq, Int.reduceNe, Int.reduceEq, Int.reduceLT, Int.reduceLE, Int.reduceAdd, Int.reduceSub, Int.reduceMul, Int.reduceNeg, Int.reduceToNat, UInt8.reduceToNat, natLit, ty3, ty4, ty9, ty55, ty58, ty106]
          refine fin3 _ _ (frE.trans (hf2.trans (fr _ _ _ _))) (.inr ⟨A.length + 2, A.length + 2 + 1, [], [], ?_, ?_, ?_, rfl, by omega, by omega, by omega⟩) rfl
          · rw [c3]; simp only [List.length_append, List.length_singleton, List.length_nil, Nat.add_zero]
          · rw [cellsAt_set_ne (by omega), cellsAt_left (cs := stK (ts ++ [(_, 0)]) ++ [])]
            rw [cellsAt_set_ne (by omega), cellsAt_at (by simp), cellsAt_zero]
            simp [stK]
          · rw [cellsAt_set_ne (by omega), cellsAt_at (by simp), cellsAt_zero]
            simp [stM]
      | cons k0 kl =>
        obtain ⟨m0, ml, rfl⟩ : ∃ m0 l, ml = m0 :: l := by cases ml with | nil => simp at n4 | cons x l => exact ⟨x, l, rfl⟩
        simp only [List.length_cons] at *
        have ap1 : ∀ L x, appendV fl 1 8 (A ++ L) 1 [x] (.sl kb 0 1 ts.length (ts.length + (kl.length + 1))) = some (.sl kb 0 1 (ts.length + 1) (ts.length + (kl.length + 1)), (A ++ L).set kb (.cells (stK ts ++ (x :: kl)))) := fun L x => by
          rw [ap_room (cellsAt_left n2) (by simp [stK_len]) (by omega) (by omega) 8 x, set_mid (stK_len ts)]
        have ap2 : ∀ L l x, appendV fl 1 8 ((A ++ L).set kb (.cells l)) 1 [x] (.sl mb 0 1 ts.length (ts.length + (kl.length + 1))) = some (.sl mb 0 1 (ts.length + 1) (ts.length + (kl.length + 1)), ((A ++ L).set kb (.cells l)).set mb (.cells (stM ts ++ (x :: ml)))) := fun L l x => by
          rw [ap_room (by rw [cellsAt_set_ne (by omega)]; exact cellsAt_left n3) (by simp [stM_len]; omega) (by omega) (by omega) 8 x, set_mid (stM_len ts)]
        have c2 : ∀ L x y, LH.cellsAt (((A ++ L).set kb x).set mb y) b = some [.int .i64 td, .sl kb 0 1 ts.length (ts.length + (kl.length + 1)), .sl mb 0 1 ts.length (ts.length + (kl.length + 1))] := fun L x y => by
          rw [cellsAt_set_ne (by omega), cellsAt_set_ne (by omega)]; exact c1 L
        have c3 : ∀ L x y l, LH.cellsAt ((((A ++ L).set kb x).set mb y).set b (.cells l)) b = some l := fun L x y l => cellsAt_set (by simp only [List.length_append, List.length_set]; omega)
        have c4 : ∀ x y z, LH.cellsAt ((A ++ [x, Blk.cells y] : LH).set kb z) (A.length + 1) = some y := fun x y z => by rw [cellsAt_set_ne (by omega), cellsAt_app]; rfl
        have fr : ∀ L x y l, Fr f [b] A ((((A ++ L).set kb x).set mb y).set b (.cells l)) := fun L x y l =>
          (Fr.app hfA).trans ((Fr.set (.inr n5)).trans ((Fr.set (.inr n6)).trans (Fr.set (.inl (by simp)))))
        rcases k3 with rfl | rfl
        all_goals
          unfold run at *
          rw [Run_zr Try.func77 rfl (by rfl : ok 77 = true) (by rfl : cfg.keep 77 = [0, 1, 3, 4, 5, 6, 7, 8, 16, 17, 28, 33, 59, 63]) (by rfl : cfg.mode 77 = .any) (by rfl : cfg.ord 77 = [(13, [0, 1, 2, 3, 4, 5, 6, 7, 8, 10, 11, 12, 13, 14, 9, 15, 16, 17, 18, 19, 20, 21], [(9, 13)])])]
          simp only [reC, findR, reR, reL, reO, List.idxOf_cons, List.filter_cons, List.filter_nil, Option.map_some, Option.map_none, Try.f77, if_true, if_false, Nat.reduceEqDiff, Nat.reduceBEq, cond_true, cond_false, Nat.reduceAdd, List.map_cons, List.map_nil, List.append_nil, List.nil_append, List.cons_append, List.getElem?_cons_succ, List.getElem?_cons_zero, BEq.rfl, Nat.succ_ne_zero, Bool.false_eq_true]
          simp (config := {contextual := true, maxSteps := 10000000, implicitDefEqProofs := false}) (disch := first | (and_intros <;> omega -splitDisjunctions) | (simp only [List.length_set, List.length_append, List.length_cons, List.length_nil]; and_intros <;> omega -splitDisjunctions) | fail) only [hc, f0, f1, f2, f3, f4, f5, f6, e1, n1, c1, c2, c3, c4, d1, d2, ap1, ap2, hbox, hboxL, List.set_set, reC, findR, reR, reL, reO, List.idxOf_cons, List.filter_cons, List.filter_nil, Option.map_some, Option.map_none, Try.f77, go_sem, ↓reduceIte, Nat.reduceEqDiff, Nat.reduceAdd, Nat.reduceMul, Nat.reduceLT, Nat.reduceLeDiff, reduceCtorEq, Int.reduceNe, Int.reduceEq, Int.reduceLT, Int.reduceLE, Int.reduceAdd, Int.reduceSub, Int.reduceMul, Int.reduceNeg, Int.reduceToNat, UInt8.reduceToNat, natLit, ty3, ty4, ty9, ty55, ty58, ty106]
          refine fin3 _ _ (frE.trans (hf2.trans (fr _ _ _ _))) (.inr ⟨kb, mb, kl, ml, ?_, ?_, ?_, by omega, by omega, by omega, by omega⟩) rfl
          · rw [c3]; simp only [List.length_append, List.length_singleton, show ts.length + 1 + kl.length = ts.length + (kl.length + 1) by omega]
          · rw [cellsAt_set_ne (by omega), cellsAt_set_ne (by omega), cellsAt_set (by simp only [List.length_append]; omega)]
            simp [stK]
          · rw [cellsAt_set_ne (by omega), cellsAt_set (by simp only [List.length_append, List.length_set]; omega)]
            simp [stM]
  · have hs : stepN ⟨doc, st⟩ kind = none := by
      unfold stepN
      rw [if_neg k2, if_neg k5, if_neg k3, if_neg k7, if_neg k8]
    rw [hs]
    have c2 := fun h => k2 h
    have c3 : ¬ kind = 3 := by omega
    have c4 : ¬ kind = 4 := by omega
    have c5 : ¬ kind = 5 := by omega
    have c6 : ¬ kind = 6 := by omega
    unfold run at *
    rw [Run_zr Try.func77 rfl (by rfl : ok 77 = true) (by rfl : cfg.keep 77 = [0, 1, 3, 4, 5, 6, 7, 8, 16, 17, 28, 33, 59, 63]) (by rfl : cfg.mode 77 = .any) (by rfl : cfg.ord 77 = [(13, [0, 1, 2, 3, 4, 5, 6, 7, 8, 10, 11, 12, 13, 14, 9, 15, 16, 17, 18, 19, 20, 21], [(9, 13)])])]
    simp (config := {contextual := true, maxSteps := 10000000, implicitDefEqProofs := false}) (disch := first | (and_intros <;> omega -splitDisjunctions) | (simp only [List.length_set, List.length_append, List.length_cons, List.length_nil]; and_intros <;> omega -splitDisjunctions) | fail) only [hc, f0, f1, f2, f3, f4, f5, f6, k2, k7, k8, c3, c4, c5, c6, reC, findR, reR, reL, reO, List.idxOf_cons, List.filter_cons, List.filter_nil, Option.map_some, Option.map_none, Try.f77, go_sem, ↓reduceIte, Nat.reduceEqDiff, Nat.reduceAdd, Nat.reduceMul, Nat.reduceLT, Nat.reduceLeDiff, reduceCtorEq, Int.reduceNe, Int.reduceEq, Int.reduceLT, Int.reduceLE, Int.reduceAdd, Int.reduceSub, Int.reduceMul, Int.reduceNeg, Int.reduceToNat, UInt8.reduceToNat, natLit, ty3, ty4, ty9, ty55, ty58, ty106]
end Go.Proofs.Ytcbjmggbbnpbpaa.Lg
