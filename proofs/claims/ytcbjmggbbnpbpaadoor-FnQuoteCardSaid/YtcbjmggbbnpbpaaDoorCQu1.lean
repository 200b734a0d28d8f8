/- The reader of scalars in quotes, in the program: its state. No condition. -/
import Derived.Test.YtcbjmggbbnpbpaaDoorCFold
namespace Go.Proofs.YtcbjmggbbnpbpaaDoor.Lg
set_option linter.unusedSimpArgs false
set_option linter.unusedVariables false
set_option maxRecDepth 100000
set_option maxHeartbeats 40000000
open Go.Proofs.YtcbjmggbbnpbpaaDoor

/-- a reader of a scalar in quotes -/
structure QS where
  pos : Nat
  lines : List (ByteArray × Bool)
  cur : ByteArray
  keep : Nat
def quC (s : ByteArray) (lv : V) (q : QS) : List V := [.str s, .int .i64 q.pos, lv, .str q.cur, .int .i64 q.keep]
structure QAt (G H : LH) (b : Nat) (s : ByteArray) (lv : V) (q : QS) : Prop where
  hx : Hx G H
  hG : G.length ≤ b
  cell : H.cellsAt b = some (quC s lv q)
  own : Own (b + 1) H pcC 2 lv q.lines
  le : q.pos ≤ s.size
  keep : q.keep ≤ q.cur.size
  sz : szP q.lines + q.cur.size ≤ 4 * q.pos
theorem QAt.left {G H L : LH} {b : Nat} {s : ByteArray} {lv : V} {q : QS} (h : QAt G H b s lv q) : QAt G (H ++ L) b s lv q := ⟨h.hx.trans Hx.app, h.hG, cellsAt_left h.cell, h.own.ext Hx.app, h.le, h.keep, h.sz⟩
def QS.put (t : ByteArray) (n : Nat) (k : Bool) (q : QS) : QS := ⟨q.pos + n, q.lines, q.cur ++ t, if k = true then (q.cur ++ t).size else q.keep⟩
def QS.ends (s : ByteArray) (g : Bool) (q : QS) : QS := ⟨if markN s (q.pos + 1) = 0 then wtN s (q.pos + 1) else q.pos + 1, q.lines ++ [(if g = true then q.cur else q.cur.extract 0 q.keep, g)], ⟨#[]⟩, 0⟩
theorem szP_app (xs : List (ByteArray × Bool)) (x : ByteArray × Bool) : szP (xs ++ [x]) = szP xs + (x.1.size + 1) := by
  induction xs with
  | nil => show x.1.size + 1 + 0 = 0 + (x.1.size + 1); omega
  | cons y xs ih => rw [List.cons_append, szP_cons, szP_cons, ih]; omega
theorem run_put {G H : LH} {b : Nat} {s : ByteArray} {lv : V} {q : QS} (h : QAt G H b s lv q) (t : ByteArray) (n : Nat) (k : Bool) (fl : Nat) (hf : fl ≤ b) (hs : s.size ≤ 16777216) (hn : n ≤ 16) (ht : t.size ≤ 16) {m : Int} (hm : m = n) :
    run 74 [.ptr b 0, .str t, .int .i64 m, .bool k] fl H = some (und, H.set b (.cells (quC s lv (q.put t n k)))) := by
  subst hm
  have hb := cellsAt_lt h.cell
  have hc := h.cell
  have h1 := h.le; have h2 := h.keep; have h3 := h.sz
  have o1 := (h.own.at pcC_len).isTup; have o2 := (h.own.at pcC_len).one
  unfold quC at *
  unfold run
  rw [Run_z Tryd.func74 rfl (by rfl : ok 74 = true) (by rfl : cfg.keep 74 = [0, 1, 2, 3, 26]) (by rfl : cfg.mode 74 = .any) (by rfl : cfg.ord 74 = [])]
  cases k with
  | true =>
    simp (config := {contextual := true, maxSteps := 10000000, implicitDefEqProofs := false}) (disch := first | (and_intros <;> omega -splitDisjunctions) | (simp only [List.length_set, List.length_append, List.length_cons, List.length_nil]; and_intros <;> omega -splitDisjunctions) | fail) only [hc, o1, o2, hf, cellsAt_set, cellsAt_set_ne, cellsAt_old, set_old, Tryd.f74, go_sem, ↓reduceIte, Nat.reduceEqDiff, Nat.reduceAdd, Nat.reduceMul, Nat.reduceLT, Nat.reduceLeDiff, reduceCtorEq, Int.reduceNe, Int.reduceEq, Int.reduceLT, Int.reduceLE, Int.reduceAdd, Int.reduceSub, Int.reduceMul, Int.reduceNeg, Int.reduceToNat, UInt8.reduceToNat, natLit, ty3, ty4, ty9, ty90, ty92, ty119]
    unfold QS.put
    simp only [if_true, ByteArray.size_append]
    rfl
  | false =>
    simp (config := {contextual := true, maxSteps := 10000000, implicitDefEqProofs := false}) (disch := first | (and_intros <;> omega -splitDisjunctions) | (simp only [List.length_set, List.length_append, List.length_cons, List.length_nil]; and_intros <;> omega -splitDisjunctions) | fail) only [hc, o1, o2, hf, cellsAt_set, cellsAt_set_ne, cellsAt_old, set_old, Tryd.f74, go_sem, ↓reduceIte, Nat.reduceEqDiff, Nat.reduceAdd, Nat.reduceMul, Nat.reduceLT, Nat.reduceLeDiff, reduceCtorEq, Int.reduceNe, Int.reduceEq, Int.reduceLT, Int.reduceLE, Int.reduceAdd, Int.reduceSub, Int.reduceMul, Int.reduceNeg, Int.reduceToNat, UInt8.reduceToNat, natLit, ty3, ty4, ty9, ty90, ty92, ty119]
    rfl
theorem QAt.put {G H : LH} {b : Nat} {s : ByteArray} {lv : V} {q : QS} (h : QAt G H b s lv q) {t : ByteArray} {n : Nat} {k : Bool} (hn : q.pos + n ≤ s.size) (ht : t.size ≤ 4 * n) : QAt G (H.set b (.cells (quC s lv (q.put t n k)))) b s lv (q.put t n k) := by
  have hb := cellsAt_lt h.cell
  have h3 := h.sz; have h2 := h.keep
  refine ⟨h.hx.set h.hG, h.hG, cellsAt_set hb, h.own.setNe (Nat.lt_succ_self b), hn, ?_, ?_⟩
  · show (if k = true then _ else _) ≤ (q.cur ++ t).size
    by_cases hk : k = true
    · rw [if_pos hk]; exact Nat.le_refl _
    · rw [if_neg hk, ByteArray.size_append]; omega
  · show szP q.lines + (q.cur ++ t).size ≤ 4 * (q.pos + n)
    rw [ByteArray.size_append]; omega
theorem QAt.push {G X : LH} {b : Nat} {s : ByteArray} {lv : V} {lines : List (ByteArray × Bool)} (hx : Hx G X) (hG : G.length ≤ b) (hb : b < X.length) (own : Own (b + 1) X pcC 2 lv lines) (x : ByteArray × Bool) (pos : Nat) (hle : pos ≤ s.size) (hsz : szP lines + (x.1.size + 1) ≤ 4 * pos) :
    QAt G (List.set (killV (X ++ [Blk.cells (pcC x)]) lv ++ [Blk.cells (rows pcC (lines ++ [x]))]) b (.cells (quC s (.sl (X.length + 1) 0 2 (lines.length + 1) (lines.length + 1)) ⟨pos, lines ++ [x], ⟨#[]⟩, 0⟩))) b s (.sl (X.length + 1) 0 2 (lines.length + 1) (lines.length + 1)) ⟨pos, lines ++ [x], ⟨#[]⟩, 0⟩ := by
  have hl : (killV (X ++ [Blk.cells (pcC x)]) lv ++ [Blk.cells (rows pcC (lines ++ [x]))]).length = X.length + 2 := by rw [List.length_append, killV_len]; simp
  have an := app_new (enc := pcC) (z := 2) (v := lv) (H := X ++ [Blk.cells (pcC x)]) (f0 := b + 1) (by rw [List.length_append]; omega) (lines ++ [x])
  rw [List.length_append, List.length_append] at an
  refine ⟨(app_hx (hx.trans Hx.app) (own.ext Hx.app) (by omega)).set hG, hG, cellsAt_set (by omega), an.setNe (Nat.lt_succ_self b), hle, Nat.le_refl _, ?_⟩
  show szP (lines ++ [x]) + 0 ≤ 4 * pos
  rw [szP_app]; omega
theorem run_ends {G H : LH} {b : Nat} {s : ByteArray} {lv : V} {q : QS} (h : QAt G H b s lv q) (g : Bool) (fl : Nat) (hf : fl ≤ b) (hs : s.size ≤ 16777216) (hp : q.pos < s.size) :
    Ret (fun w B => w = .bool (decide (markN s (q.pos + 1) = 0)) ∧ ∃ lv', QAt G B b s lv' (q.ends s g)) (run 72 [.ptr b 0, .bool g] fl H) := by
  have hb := cellsAt_lt h.cell
  have hc := h.cell
  have h1 := h.le; have h2 := h.keep; have h3 := h.sz
  have hln := szP_len q.lines
  have o1 := (h.own.at pcC_len).isTup; have o2 := (h.own.at pcC_len).one
  have hle : q.pos + 1 ≤ s.size := hp
  have e1 := fun fl H => run_MarkAtN s (q.pos + 1) fl H hle (by omega)
  have e2 := fun fl H => run_WhiteN s (q.pos + 1) fl H hle (by omega)
  have hp1 : ((q.pos + 1 : Nat) : Int) = (q.pos : Int) + 1 := by omega
  rw [hp1] at e1 e2
  have hwh := wtN_hi hle
  have hwl := wtN_lo s (q.pos + 1)
  have hexs : (q.cur.extract 0 q.keep).size = q.keep := by rw [exts_size h2]; omega
  have key : ∀ (X : LH) (cur : ByteArray), Hx G X → X.cellsAt b = some [.str s, .int .i64 q.pos, lv, .str cur, .int .i64 q.keep] → Own (b + 1) X pcC 2 lv q.lines → cur.size ≤ q.cur.size →
      (∀ L (t : ByteArray) (g : Bool), appendV fl 2 24 (X ++ L) 1 [.str t, .bool g] lv = some (.sl (X ++ L).length 0 2 (q.lines.length + 1) (q.lines.length + 1), killV (X ++ L) lv ++ [.cells (rows pcC (q.lines ++ [(t, g)]))])) ∧
      (∀ L M, LH.cellsAt (killV (X ++ L) lv ++ M) b = some [.str s, .int .i64 q.pos, lv, .str cur, .int .i64 q.keep]) ∧ (∀ L M c, LH.cellsAt (List.set (killV (X ++ L) lv ++ M) b (.cells c)) b = some c) := by
    intro X cur hx hcX hoX hcs
    refine ⟨fun L t g => app_own1 (fl := fl) (hoX.ext (Hx.app (L := L))) pcC_len (by omega) 24 (by unfold mostCells; omega) (t, g), fun L M => app_old (cellsAt_left hcX) (hoX.ext Hx.app) (Nat.lt_succ_self b) M, fun L M c => cellsAt_set ?_⟩
    rw [List.length_append, killV_len, List.length_append]
    have := cellsAt_lt hcX
    omega
  have fin : ∀ (X : LH), Hx G X → b < X.length → Own (b + 1) X pcC 2 lv q.lines → ∀ B, B = List.set (killV (X ++ [Blk.cells (pcC (if g = true then q.cur else q.cur.extract 0 q.keep, g))]) lv ++ [Blk.cells (rows pcC (q.lines ++ [(if g = true then q.cur else q.cur.extract 0 q.keep, g)]))]) b (.cells (quC s (.sl (X.length + 1) 0 2 (q.lines.length + 1) (q.lines.length + 1)) (q.ends s g))) → ∃ lv', QAt G B b s lv' (q.ends s g) := by
    rintro X hx hbX hoX B rfl
    refine ⟨_, QAt.push hx h.hG hbX hoX _ _ ?_ ?_⟩
    · by_cases hm : markN s (q.pos + 1) = 0
      · rw [if_pos hm]; exact hwh
      · rw [if_neg hm]; exact hle
    · have hcs : (if g = true then q.cur else q.cur.extract 0 q.keep).size ≤ q.cur.size := by
        by_cases hg : g = true
        · rw [if_pos hg]; exact Nat.le_refl _
        · rw [if_neg hg]; omega
      dsimp only
      by_cases hm : markN s (q.pos + 1) = 0
      · rw [if_pos hm]; omega
      · rw [if_neg hm]; omega
  unfold quC at *
  unfold run at *
  rw [Run_z Tryd.func72 rfl (by rfl : ok 72 = true) (by rfl : cfg.keep 72 = [0, 1, 4, 6, 56]) (by rfl : cfg.mode 72 = .any) (by rfl : cfg.ord 72 = [])]
  cases g with
  | true =>
    obtain ⟨ap, kb, kb2⟩ := key H q.cur h.hx hc h.own (Nat.le_refl _)
    have hfin := fin H h.hx hb h.own
    clear key fin
    simp only [pcC] at hfin
    by_cases hm : markN s (q.pos + 1) = 0
    · have t1 : (markN s (q.pos + 1) = 0) = True := eq_true hm
      simp (config := {contextual := true, maxSteps := 10000000, implicitDefEqProofs := false}) (disch := first | (and_intros <;> omega -splitDisjunctions) | (simp only [List.length_set, List.length_append, List.length_cons, List.length_nil]; and_intros <;> omega -splitDisjunctions) | fail) only [hc, o1, o2, hf, e1, e2, ap, kb, kb2, t1, cellsAt_set, cellsAt_set_ne, cellsAt_old, set_old, Tryd.f72, go_sem, ↓reduceIte, Nat.reduceEqDiff, Nat.reduceAdd, Nat.reduceMul, Nat.reduceLT, Nat.reduceLeDiff, reduceCtorEq, Int.reduceNe, Int.reduceEq, Int.reduceLT, Int.reduceLE, Int.reduceAdd, Int.reduceSub, Int.reduceMul, Int.reduceNeg, Int.reduceToNat, UInt8.reduceToNat, natLit, ty3, ty4, ty9, ty90, ty92, ty119]
      refine hfin _ ?_
      unfold QS.ends
      simp only [t1, if_true]
      rfl
    · have t1 : (markN s (q.pos + 1) = 0) = False := eq_false hm
      simp (config := {contextual := true, maxSteps := 10000000, implicitDefEqProofs := false}) (disch := first | (and_intros <;> omega -splitDisjunctions) | (simp only [List.length_set, List.length_append, List.length_cons, List.length_nil]; and_intros <;> omega -splitDisjunctions) | fail) only [hc, o1, o2, hf, e1, e2, ap, kb, kb2, t1, cellsAt_set, cellsAt_set_ne, cellsAt_old, set_old, Tryd.f72, go_sem, ↓reduceIte, Nat.reduceEqDiff, Nat.reduceAdd, Nat.reduceMul, Nat.reduceLT, Nat.reduceLeDiff, reduceCtorEq, Int.reduceNe, Int.reduceEq, Int.reduceLT, Int.reduceLE, Int.reduceAdd, Int.reduceSub, Int.reduceMul, Int.reduceNeg, Int.reduceToNat, UInt8.reduceToNat, natLit, ty3, ty4, ty9, ty90, ty92, ty119]
      refine hfin _ ?_
      unfold QS.ends
      simp only [t1, if_true, if_false, hp1]
      rfl
  | false =>
    obtain ⟨ap, kb, kb2⟩ := key (H.set b (.cells [.str s, .int .i64 q.pos, lv, .str (q.cur.extract 0 q.keep), .int .i64 q.keep])) (q.cur.extract 0 q.keep) (h.hx.set h.hG) (cellsAt_set hb) (h.own.setNe (Nat.lt_succ_self b)) (by omega)
    have hfin := fin (H.set b (.cells [.str s, .int .i64 q.pos, lv, .str (q.cur.extract 0 q.keep), .int .i64 q.keep])) (h.hx.set h.hG) (by simpa using hb) (h.own.setNe (Nat.lt_succ_self b))
    clear key fin
    simp only [pcC] at hfin
    by_cases hm : markN s (q.pos + 1) = 0
    · have t1 : (markN s (q.pos + 1) = 0) = True := eq_true hm
      simp (config := {contextual := true, maxSteps := 10000000, implicitDefEqProofs := false}) (disch := first | (and_intros <;> omega -splitDisjunctions) | (simp only [List.length_set, List.length_append, List.length_cons, List.length_nil]; and_intros <;> omega -splitDisjunctions) | fail) only [hc, o1, o2, hf, e1, e2, ap, kb, kb2, t1, cellsAt_set, cellsAt_set_ne, cellsAt_old, set_old, Tryd.f72, go_sem, ↓reduceIte, Nat.reduceEqDiff, Nat.reduceAdd, Nat.reduceMul, Nat.reduceLT, Nat.reduceLeDiff, reduceCtorEq, Int.reduceNe, Int.reduceEq, Int.reduceLT, Int.reduceLE, Int.reduceAdd, Int.reduceSub, Int.reduceMul, Int.reduceNeg, Int.reduceToNat, UInt8.reduceToNat, natLit, ty3, ty4, ty9, ty90, ty92, ty119]
      refine hfin _ ?_
      unfold QS.ends
      simp only [t1, if_true, Bool.false_eq_true, if_false, List.length_set]
      rfl
    · have t1 : (markN s (q.pos + 1) = 0) = False := eq_false hm
      simp (config := {contextual := true, maxSteps := 10000000, implicitDefEqProofs := false}) (disch := first | (and_intros <;> omega -splitDisjunctions) | (simp only [List.length_set, List.length_append, List.length_cons, List.length_nil]; and_intros <;> omega -splitDisjunctions) | fail) only [hc, o1, o2, hf, e1, e2, ap, kb, kb2, t1, cellsAt_set, cellsAt_set_ne, cellsAt_old, set_old, Tryd.f72, go_sem, ↓reduceIte, Nat.reduceEqDiff, Nat.reduceAdd, Nat.reduceMul, Nat.reduceLT, Nat.reduceLeDiff, reduceCtorEq, Int.reduceNe, Int.reduceEq, Int.reduceLT, Int.reduceLE, Int.reduceAdd, Int.reduceSub, Int.reduceMul, Int.reduceNeg, Int.reduceToNat, UInt8.reduceToNat, natLit, ty3, ty4, ty9, ty90, ty92, ty119]
      refine hfin _ ?_
      unfold QS.ends
      simp only [t1, if_true, if_false, hp1, Bool.false_eq_true, List.length_set]
      rfl
theorem run_qdone {G H : LH} {b : Nat} {s : ByteArray} {lv : V} {q : QS} (h : QAt G H b s lv q) (fl : Nat) (hf : fl ≤ b) (hs : s.size ≤ 16777216) (hp : q.pos < s.size) :
    Ret (fun w B => w = .tup [.str (foldF (q.lines ++ [(q.cur, false)])), .int .i64 ((q.pos : Int) + 1), .int .i64 0]) (run 75 [.ptr b 0] fl H) := by
  have hb := cellsAt_lt h.cell
  have hc := h.cell
  have h1 := h.le; have h2 := h.keep; have h3 := h.sz
  have hln := szP_len q.lines
  have o1 := (h.own.at pcC_len).isTup; have o2 := (h.own.at pcC_len).one
  have ap := fun L (t : ByteArray) (g : Bool) => app_own1 (fl := fl) (h.own.ext (Hx.app (L := L))) pcC_len (by omega) 24 (by unfold mostCells; omega) (t, g)
  have kb : ∀ L M, LH.cellsAt (killV (H ++ L) lv ++ M) b = some (quC s lv q) := fun L M => app_old (cellsAt_left hc) (h.own.ext Hx.app) (Nat.lt_succ_self b) M
  have kb2 : ∀ L M c, LH.cellsAt (List.set (killV (H ++ L) lv ++ M) b (.cells c)) b = some c := fun L M c => cellsAt_set (by rw [List.length_append, killV_len, List.length_append]; omega)
  have an := app_new (enc := pcC) (z := 2) (v := lv) (H := H ++ [Blk.cells (pcC (q.cur, false))]) (f0 := b + 1) (by rw [List.length_append]; omega) (q.lines ++ [(q.cur, false)])
  rw [List.length_append, List.length_append] at an
  have an2 := fun c => (an.setNe (x := .cells c) (Nat.lt_succ_self b)).at pcC_len
  have e1 := fun c fl => run_FoldFlow (an2 c) (by rw [szP_app]; show szP q.lines + (q.cur.size + 1) ≤ _; omega) fl
  simp only [List.length_cons, List.length_nil, Nat.zero_add] at e1
  unfold quC at *
  simp only [pcC] at ap e1
  unfold run at *
  rw [Run_z Tryd.func75 rfl (by rfl : ok 75 = true) (by rfl : cfg.keep 75 = [0, 2, 3, 4]) (by rfl : cfg.mode 75 = .any) (by rfl : cfg.ord 75 = [])]
  simp (config := {contextual := true, maxSteps := 10000000, implicitDefEqProofs := false}) (disch := first | (and_intros <;> omega -splitDisjunctions) | (simp only [List.length_set, List.length_append, List.length_cons, List.length_nil]; and_intros <;> omega -splitDisjunctions) | fail) only [hc, o1, o2, hf, e1, ap, kb, kb2, cellsAt_set, cellsAt_set_ne, cellsAt_old, set_old, Tryd.f75, go_sem, ↓reduceIte, Nat.reduceEqDiff, Nat.reduceAdd, Nat.reduceMul, Nat.reduceLT, Nat.reduceLeDiff, reduceCtorEq, Int.reduceNe, Int.reduceEq, Int.reduceLT, Int.reduceLE, Int.reduceAdd, Int.reduceSub, Int.reduceMul, Int.reduceNeg, Int.reduceToNat, UInt8.reduceToNat, natLit, ty3, ty4, ty9, ty90, ty92, ty119]
end Go.Proofs.YtcbjmggbbnpbpaaDoor.Lg
