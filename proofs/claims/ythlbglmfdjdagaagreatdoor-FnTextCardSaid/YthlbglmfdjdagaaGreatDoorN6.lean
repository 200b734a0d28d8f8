/- The logical machine and its contracts, part 6. No condition. -/
import Derived.Test.YthlbglmfdjdagaaGreatDoorN5
namespace Go.Proofs.YthlbglmfdjdagaaGreatDoor.Lg
set_option linter.unusedSimpArgs false
set_option linter.unusedVariables false
set_option maxRecDepth 100000
set_option maxHeartbeats 40000000
open Go.Proofs.YthlbglmfdjdagaaGreatDoor
structure QS where
 pos : Nat
 lines : List (ByteArray × Bool)
 cur : ByteArray
 keep : Nat
def quC (s : ByteArray) (lv : V) (q : QS) : List V := [.str s, .int .i64 q.pos, lv, .str q.cur, .int .i64 q.keep]
structure QAt (G H : LH) (b : Nat) (s : ByteArray) (lv : V) (q : QS) : Prop where
 hx : Hx G H
 hG : G.length ≤ b
 cell : H.cellsAt b = some (quC s lv q)
 own : Own (b + 1) H pcC 2 lv q.lines
 le : q.pos ≤ s.size
 keep : q.keep ≤ q.cur.size
 sz : szP q.lines + q.cur.size ≤ 4 * q.pos
theorem QAt.left {G H L : LH} {b : Nat} {s : ByteArray} {lv : V} {q : QS} (h : QAt G H b s lv q) : QAt G (H ++ L) b s lv q := ⟨h.hx.trans Hx.app, h.hG, Ag h.cell, h.own.ext Hx.app, h.le, h.keep, h.sz⟩
def QS.put (t : ByteArray) (n : Nat) (k : Bool) (q : QS) : QS := ⟨q.pos + n, q.lines, q.cur ++ t, if k = true then (q.cur ++ t).size else q.keep⟩
def QS.ends (s : ByteArray) (g : Bool) (q : QS) : QS := ⟨if Ah s (q.pos + 1) = 0 then wtN s (q.pos + 1) else q.pos + 1, q.lines ++ [(if g = true then q.cur else q.cur.extract 0 q.keep, g)], ⟨#[]⟩, 0⟩
theorem IW (xs : List (ByteArray × Bool)) (x : ByteArray × Bool) : szP (xs ++ [x]) = szP xs + (x.1.size + 1) := by
 induction xs with
 | nil => show x.1.size + 1 + 0 = 0 + (x.1.size + 1); omega
 | cons y xs ih => rw [List.cons_append, BE, BE, ih]; omega
theorem IP {G H : LH} {b : Nat} {s : ByteArray} {lv : V} {q : QS} (h : QAt G H b s lv q) (t : ByteArray) (n : Nat) (k : Bool) (fl : Nat) (hf : fl ≤ b) (hs : s.size ≤ 16777216) (hn : n ≤ 16) (ht : t.size ≤ 16) {m : Int} (hm : m = n) :
 run 112 [.ptr b 0, .str t, .int .i64 m, .bool k] fl H = some (und, H.set b (.cells (quC s lv (q.put t n k)))) := by
 subst hm
 have hb := A5 h.cell
 have hc := h.cell
 have h1 := h.le; have h2 := h.keep; have h3 := h.sz
 have o1 := (h.own.at As).isTup; have o2 := (h.own.at As).one
 unfold quC at *
 unfold run
 rw [z112]
 cases k with
 | true =>
   simp +contextual -implicitDefEqProofs (maxSteps := 10000000) (disch := first | (and_intros <;> omega -splitDisjunctions) | (push_cast; and_intros <;> omega -splitDisjunctions) | fail) only [hc, o1, o2, hf, A1, A0, A2, A3, go_sem, seval]
   unfold QS.put
   simp only [if_true, ByteArray.size_append]
   rfl
 | false =>
   simp +contextual -implicitDefEqProofs (maxSteps := 10000000) (disch := first | (and_intros <;> omega -splitDisjunctions) | (push_cast; and_intros <;> omega -splitDisjunctions) | fail) only [hc, o1, o2, hf, A1, A0, A2, A3, go_sem, seval]
   rfl
theorem QAt.put {G H : LH} {b : Nat} {s : ByteArray} {lv : V} {q : QS} (h : QAt G H b s lv q) {t : ByteArray} {n : Nat} {k : Bool} (hn : q.pos + n ≤ s.size) (ht : t.size ≤ 4 * n) : QAt G (H.set b (.cells (quC s lv (q.put t n k)))) b s lv (q.put t n k) := by
 have hb := A5 h.cell
 have h3 := h.sz; have h2 := h.keep
 refine ⟨h.hx.set h.hG, h.hG, A1 hb, h.own.setNe (Nat.lt_succ_self b), hn, ?_, ?_⟩
 ·show (if k = true then _ else _) ≤ (q.cur ++ t).size
  by_cases hk : k = true
  ·rw [if_pos hk]; exact Nat.le_refl _
  ·rw [if_neg hk, ByteArray.size_append]; omega
 ·show szP q.lines + (q.cur ++ t).size ≤ 4 * (q.pos + n)
  rw [ByteArray.size_append]; omega
theorem QAt.push {G X : LH} {b : Nat} {s : ByteArray} {lv : V} {lines : List (ByteArray × Bool)} (hx : Hx G X) (hG : G.length ≤ b) (hb : b < X.length) (own : Own (b + 1) X pcC 2 lv lines) (x : ByteArray × Bool) (pos : Nat) (hle : pos ≤ s.size) (hsz : szP lines + (x.1.size + 1) ≤ 4 * pos) :
 QAt G (List.set (B5 (X ++ [Blk.cells (pcC x)]) lv ++ [Blk.cells (rows pcC (lines ++ [x]))]) b (.cells (quC s (.sl (X.length + 1) 0 2 (lines.length + 1) (lines.length + 1)) ⟨pos, lines ++ [x], ⟨#[]⟩, 0⟩))) b s (.sl (X.length + 1) 0 2 (lines.length + 1) (lines.length + 1)) ⟨pos, lines ++ [x], ⟨#[]⟩, 0⟩ := by
 have hl : (B5 (X ++ [Blk.cells (pcC x)]) lv ++ [Blk.cells (rows pcC (lines ++ [x]))]).length = X.length + 2 := by rw [List.length_append, Ca]; simp
 have an := D8 (enc := pcC) (z := 2) (v := lv) (H := X ++ [Blk.cells (pcC x)]) (f0 := b + 1) (by rw [List.length_append]; omega) (lines ++ [x])
 rw [List.length_append, List.length_append] at an
 refine ⟨(M1 (hx.trans Hx.app) (own.ext Hx.app) (by omega)).set hG, hG, A1 (by omega), an.setNe (Nat.lt_succ_self b), hle, Nat.le_refl _, ?_⟩
 show szP (lines ++ [x]) + 0 ≤ 4 * pos
 rw [IW]; omega
theorem IJ {G H : LH} {b : Nat} {s : ByteArray} {lv : V} {q : QS} (h : QAt G H b s lv q) (g : Bool) (fl : Nat) (hf : fl ≤ b) (hs : s.size ≤ 16777216) (hp : q.pos < s.size) :
 Ret (fun w B => w = .bool (decide (Ah s (q.pos + 1) = 0)) ∧ ∃ lv', QAt G B b s lv' (q.ends s g)) (run 111 [.ptr b 0, .bool g] fl H) := by
 have hb := A5 h.cell
 have hc := h.cell
 have h1 := h.le; have h2 := h.keep; have h3 := h.sz
 have hln := GO q.lines
 have o1 := (h.own.at As).isTup; have o2 := (h.own.at As).one
 have hle : q.pos + 1 ≤ s.size := hp
 have e1 := fun fl H => AK s (q.pos + 1) fl H hle (by omega)
 have e2 := fun fl H => AJ s (q.pos + 1) fl H hle (by omega)
 have hp1 : ((q.pos + 1 : Nat) : Int) = (q.pos : Int) + 1 := by omega
 rw [hp1] at e1 e2
 have hwh := Bm hle
 have hwl := B8 s (q.pos + 1)
 have hexs : (q.cur.extract 0 q.keep).size = q.keep := by rw [Ap h2]; omega
 have key : ∀ (X : LH) (cur : ByteArray), Hx G X → X.cellsAt b = some [.str s, .int .i64 q.pos, lv, .str cur, .int .i64 q.keep] → Own (b + 1) X pcC 2 lv q.lines → cur.size ≤ q.cur.size →
  (∀ L (t : ByteArray) (g : Bool), AB fl 2 24 (X ++ L) 1 [.str t, .bool g] lv = some (.sl (X ++ L).length 0 2 (q.lines.length + 1) (q.lines.length + 1), B5 (X ++ L) lv ++ [.cells (rows pcC (q.lines ++ [(t, g)]))])) ∧
  (∀ L M, LH.cellsAt (B5 (X ++ L) lv ++ M) b = some [.str s, .int .i64 q.pos, lv, .str cur, .int .i64 q.keep]) ∧ (∀ L M c, LH.cellsAt (List.set (B5 (X ++ L) lv ++ M) b (.cells c)) b = some c) := by
  intro X cur hx hcX hoX hcs
  refine ⟨fun L t g => CR (fl := fl) (hoX.ext (Hx.app (L := L))) As (by omega) 24 (by unfold Aj; omega) (t, g), fun L M => Kz (Ag hcX) (hoX.ext Hx.app) (Nat.lt_succ_self b) M, fun L M c => A1 ?_⟩
  rw [List.length_append, Ca, List.length_append]
  have := A5 hcX
  omega
 have fin : ∀ (X : LH), Hx G X → b < X.length → Own (b + 1) X pcC 2 lv q.lines → ∀ B, B = List.set (B5 (X ++ [Blk.cells (pcC (if g = true then q.cur else q.cur.extract 0 q.keep, g))]) lv ++ [Blk.cells (rows pcC (q.lines ++ [(if g = true then q.cur else q.cur.extract 0 q.keep, g)]))]) b (.cells (quC s (.sl (X.length + 1) 0 2 (q.lines.length + 1) (q.lines.length + 1)) (q.ends s g))) → ∃ lv', QAt G B b s lv' (q.ends s g) := by
  rintro X hx hbX hoX B rfl
  refine ⟨_, QAt.push hx h.hG hbX hoX _ _ ?_ ?_⟩
  ·by_cases hm : Ah s (q.pos + 1) = 0
   ·rw [if_pos hm]; exact hwh
   ·rw [if_neg hm]; exact hle
  ·have hcs : (if g = true then q.cur else q.cur.extract 0 q.keep).size ≤ q.cur.size := by
    by_cases hg : g = true
    ·rw [if_pos hg]; exact Nat.le_refl _
    ·rw [if_neg hg]; omega
   dsimp only
   by_cases hm : Ah s (q.pos + 1) = 0
   ·rw [if_pos hm]; omega
   ·rw [if_neg hm]; omega
 unfold quC at *
 unfold run at *
 rw [z111]
 cases g with
 | true =>
   obtain ⟨ap, kb, kb2⟩ := key H q.cur h.hx hc h.own (Nat.le_refl _)
   have hfin := fin H h.hx hb h.own
   clear key fin
   simp only [pcC] at hfin
   by_cases hm : Ah s (q.pos + 1) = 0
   ·have t1 : (Ah s (q.pos + 1) = 0) = True := eq_true hm
    simp +contextual -implicitDefEqProofs (maxSteps := 10000000) (disch := first | (and_intros <;> omega -splitDisjunctions) | (push_cast; and_intros <;> omega -splitDisjunctions) | fail) only [hc, o1, o2, hf, e1, e2, ap, kb, kb2, t1, A1, A0, A2, A3, go_sem, seval]
    refine hfin _ ?_
    unfold QS.ends
    simp only [t1, if_true]
    rfl
   ·have t1 : (Ah s (q.pos + 1) = 0) = False := eq_false hm
    simp +contextual -implicitDefEqProofs (maxSteps := 10000000) (disch := first | (and_intros <;> omega -splitDisjunctions) | (push_cast; and_intros <;> omega -splitDisjunctions) | fail) only [hc, o1, o2, hf, e1, e2, ap, kb, kb2, t1, A1, A0, A2, A3, go_sem, seval]
    refine hfin _ ?_
    unfold QS.ends
    simp only [t1, if_true, if_false, hp1]
    rfl
 | false =>
   obtain ⟨ap, kb, kb2⟩ := key (H.set b (.cells [.str s, .int .i64 q.pos, lv, .str (q.cur.extract 0 q.keep), .int .i64 q.keep])) (q.cur.extract 0 q.keep) (h.hx.set h.hG) (A1 hb) (h.own.setNe (Nat.lt_succ_self b)) (by omega)
   have hfin := fin (H.set b (.cells [.str s, .int .i64 q.pos, lv, .str (q.cur.extract 0 q.keep), .int .i64 q.keep])) (h.hx.set h.hG) (by simpa using hb) (h.own.setNe (Nat.lt_succ_self b))
   clear key fin
   simp only [pcC] at hfin
   by_cases hm : Ah s (q.pos + 1) = 0
   ·have t1 : (Ah s (q.pos + 1) = 0) = True := eq_true hm
    simp +contextual -implicitDefEqProofs (maxSteps := 10000000) (disch := first | (and_intros <;> omega -splitDisjunctions) | (push_cast; and_intros <;> omega -splitDisjunctions) | fail) only [hc, o1, o2, hf, e1, e2, ap, kb, kb2, t1, A1, A0, A2, A3, go_sem, seval]
    refine hfin _ ?_
    unfold QS.ends
    simp only [t1, if_true, Bool.false_eq_true, if_false, List.length_set]
    rfl
   ·have t1 : (Ah s (q.pos + 1) = 0) = False := eq_false hm
    simp +contextual -implicitDefEqProofs (maxSteps := 10000000) (disch := first | (and_intros <;> omega -splitDisjunctions) | (push_cast; and_intros <;> omega -splitDisjunctions) | fail) only [hc, o1, o2, hf, e1, e2, ap, kb, kb2, t1, A1, A0, A2, A3, go_sem, seval]
    refine hfin _ ?_
    unfold QS.ends
    simp only [t1, if_true, if_false, hp1, Bool.false_eq_true, List.length_set]
    rfl
theorem Kj {G H : LH} {b : Nat} {s : ByteArray} {lv : V} {q : QS} (h : QAt G H b s lv q) (fl : Nat) (hf : fl ≤ b) (hs : s.size ≤ 16777216) (hp : q.pos < s.size) :
 Ret (fun w B => w = .tup [.str (DK (q.lines ++ [(q.cur, false)])), .int .i64 ((q.pos : Int) + 1), .int .i64 0]) (run 113 [.ptr b 0] fl H) := by
 have hb := A5 h.cell
 have hc := h.cell
 have h1 := h.le; have h2 := h.keep; have h3 := h.sz
 have hln := GO q.lines
 have o1 := (h.own.at As).isTup; have o2 := (h.own.at As).one
 have ap := fun L (t : ByteArray) (g : Bool) => CR (fl := fl) (h.own.ext (Hx.app (L := L))) As (by omega) 24 (by unfold Aj; omega) (t, g)
 have kb : ∀ L M, LH.cellsAt (B5 (H ++ L) lv ++ M) b = some (quC s lv q) := fun L M => Kz (Ag hc) (h.own.ext Hx.app) (Nat.lt_succ_self b) M
 have kb2 : ∀ L M c, LH.cellsAt (List.set (B5 (H ++ L) lv ++ M) b (.cells c)) b = some c := fun L M c => A1 (by rw [List.length_append, Ca, List.length_append]; omega)
 have an := D8 (enc := pcC) (z := 2) (v := lv) (H := H ++ [Blk.cells (pcC (q.cur, false))]) (f0 := b + 1) (by rw [List.length_append]; omega) (q.lines ++ [(q.cur, false)])
 rw [List.length_append, List.length_append] at an
 have an2 := fun c => (an.setNe (x := .cells c) (Nat.lt_succ_self b)).at As
 have e1 := fun c fl => Fk (an2 c) (by rw [IW]; show szP q.lines + (q.cur.size + 1) ≤ _; omega) fl
 simp only [List.length_cons, List.length_nil, Nat.zero_add] at e1
 unfold quC at *
 simp only [pcC] at ap e1
 unfold run at *
 rw [z113]
 simp +contextual -implicitDefEqProofs (maxSteps := 10000000) (disch := first | (and_intros <;> omega -splitDisjunctions) | (push_cast; and_intros <;> omega -splitDisjunctions) | fail) only [hc, o1, o2, hf, e1, ap, kb, kb2, A1, A0, A2, A3, go_sem, seval]
open Go.Proofs.YthlbglmfdjdagaaGreatDoor
def b1 (x : Int) : ByteArray := ⟨#[UInt8.ofNat x.toNat]⟩
theorem OI (x : Int) : (b1 x).size = 1 := rfl
def sgGo (s : ByteArray) : Nat → QS → ByteArray × Int × Int
 | 0, _ => (⟨#[]⟩, 0, 0)
 | d + 1, q =>
   if q.pos < s.size then
    if bA s q.pos = 10 then (if Ah s (q.pos + 1) = 0 then sgGo s d (q.ends s false) else (⟨#[]⟩, q.pos + 1, 4))
    else if bA s q.pos = 39 then (if bA s (q.pos + 1) = 39 then sgGo s d (q.put ⟨#[39]⟩ 2 true) else (DK (q.lines ++ [(q.cur, false)]), q.pos + 1, 0))
    else sgGo s d (q.put (b1 (bA s q.pos)) 1 (decide (¬bA s q.pos = 32 ∧ ¬bA s q.pos = 9)))
   else (⟨#[]⟩, s.size, 3)
theorem QZ {s : ByteArray} {d : Nat} {q : QS} : sgGo s (d + 1) q = if q.pos < s.size then
 if bA s q.pos = 10 then (if Ah s (q.pos + 1) = 0 then sgGo s d (q.ends s false) else (⟨#[]⟩, q.pos + 1, 4))
 else if bA s q.pos = 39 then (if bA s (q.pos + 1) = 39 then sgGo s d (q.put ⟨#[39]⟩ 2 true) else (DK (q.lines ++ [(q.cur, false)]), q.pos + 1, 0))
 else sgGo s d (q.put (b1 (bA s q.pos)) 1 (decide (¬bA s q.pos = 32 ∧ ¬bA s q.pos = 9)))
 else (⟨#[]⟩, s.size, 3) := rfl
def AS (s : ByteArray) (p : Nat) : ByteArray × Int × Int := if bA s p = 39 then sgGo s (s.size + 1) ⟨p + 1, [], ⟨#[]⟩, 0⟩ else (⟨#[]⟩, p, 10)
def t3V (r : ByteArray × Int × Int) : V := .tup [.str r.1, .int .i64 r.2.1, .int .i64 r.2.2]
theorem Fl (s : ByteArray) (p : Int) (fl : Nat) (H : LH) (hs : s.size ≤ 16777216) : run 96 [.str s, .int .i64 p] fl H = some (t3V (AS s (spt s p)), H) := by
 have e1 := fun fl H => AA s p fl H (by omega)
 have h1 := BO s p
 generalize spt s p = p0 at *
 have e2 := fun q (h : (0 : Int) ≤ q) fl H => Ad s q fl H h (by omega)
 have e3 := fun b fl H => Bf b fl H
 unfold AS
 by_cases h39 : bA s p0 = 39
 rotate_left
 ·rw [if_neg h39]
  unfold run at *
  rw [z96]
  simp +contextual -implicitDefEqProofs (maxSteps := 10000000) (disch := first | (and_intros <;> omega -splitDisjunctions) | (push_cast; and_intros <;> omega -splitDisjunctions) | fail) only [e1, e2, h39, go_sem, seval]
  rfl
 rw [if_pos h39]
 have hp0 := Ai h39 (by omega)
 unfold run at *
 rw [z96]
 simp +contextual -implicitDefEqProofs (maxSteps := 10000000) (disch := first | (and_intros <;> omega -splitDisjunctions) | (push_cast; and_intros <;> omega -splitDisjunctions) | fail) only [e1, e2, h39, go_sem, seval]
 refine Ae fun c R hc hR => ?_
 have key : ∀ (m : Nat) (B : LH) (lv : V) (q : QS) (x1 x4 x5 x6 x8 x15 x28 x44 x49 x54 x69 : Option V), s.size - q.pos < m → QAt H B H.length s lv q → (∃ d, s.size - q.pos < d ∧ sgGo s d q = sgGo s (s.size + 1) ⟨p0 + 1, [], ⟨#[]⟩, 0⟩) →
  zEv (Ac (mkR Tryz.prog cfg ok [0, 1, 4, 5, 6, 7, 8, 15, 28, 44, 49, 54, 69] H.length) .pure H [ResultVar.tmp 4, ResultVar.tmp 5, ResultVar.tmp 6]) (mkR Tryz.prog cfg ok [0, 1, 4, 5, 6, 7, 8, 15, 28, 44, 49, 54, 69] H.length) (K.code (Code.loop c) :: K.blk 0 :: R) .nrm [some (.str s), x1, x4, x5, x6, some (.ptr H.length 0), x8, x15, x28, x44, x49, x54, x69] (B) = some (t3V (sgGo s (s.size + 1) ⟨p0 + 1, [], ⟨#[]⟩, 0⟩), H) := by
  intro m
  induction m with
  | zero => intro B lv q x1 x4 x5 x6 x8 x15 x28 x44 x49 x54 x69 hm; omega
  | succ m ih =>
    intro B lv q x1 x4 x5 x6 x8 x15 x28 x44 x49 x54 x69 hm hq hf
    obtain ⟨d, hd, hf⟩ := hf
    obtain ⟨d, rfl⟩ : ∃ d', d = d' + 1 := ⟨d - 1, by omega⟩
    rw [QZ] at hf
    have hcq := hq.cell
    have hle := hq.le
    have hxl := hq.hx.len
    unfold quC at hcq
    have o1 := (hq.own.at As).isTup; have o2 := (hq.own.at As).one
    by_cases hlt : q.pos < s.size
    rotate_left
    ·have t1 : ((q.pos : Int) < s.size) = False := eq_false (by omega)
     rw [if_neg hlt] at hf
     rw [A4 hc, ← hR]
     simp +contextual -implicitDefEqProofs (maxSteps := 10000000) (disch := first | (and_intros <;> omega -splitDisjunctions) | (push_cast; and_intros <;> omega -splitDisjunctions) | fail) only [hcq, o1, o2, t1, go_sem, seval]
     rw [← hf]; rfl
    have t1 : ((q.pos : Int) < s.size) = True := eq_true (by omega)
    rw [if_pos hlt] at hf
    by_cases h10 : bA s q.pos = 10
    ·rw [if_pos h10] at hf
     have t2 : (bA s (q.pos : Int) = 10) = True := eq_true h10
     obtain ⟨w, C, e4, rfl, lv', hq'⟩ := IJ hq false H.length (Nat.le_refl _) hs hlt
     have hw1 := B8 s (q.pos + 1)
     unfold run at e4
     by_cases hm : Ah s (q.pos + 1) = 0
     ·rw [if_pos hm] at hf
      rw [decide_eq_true hm] at e4
      rw [A4 hc]
      simp +contextual -implicitDefEqProofs (maxSteps := 10000000) (disch := first | (and_intros <;> omega -splitDisjunctions) | (push_cast; and_intros <;> omega -splitDisjunctions) | fail) only [hcq, o1, o2, t1, t2, e2, e4, go_sem, seval]
      have hpos : (q.ends s false).pos = wtN s (q.pos + 1) := by unfold QS.ends; exact if_pos hm
      have hpl : s.size - (q.ends s false).pos < s.size - q.pos := by rw [hpos]; omega
      exact ih C lv' (q.ends s false) _ _ _ _ _ _ _ _ _ _ _ (by omega) hq' ⟨d, by omega, hf⟩
     ·rw [if_neg hm] at hf
      rw [decide_eq_false hm] at e4
      have hcC := hq'.cell
      have o3 := (hq'.own.at As).isTup; have o4 := (hq'.own.at As).one
      have hpos : ((q.ends s false).pos : Int) = (q.pos : Int) + 1 := by unfold QS.ends; rw [if_neg hm]; show (((q.pos + 1 : Nat)) : Int) = (q.pos : Int) + 1; omega
      unfold quC at hcC
      rw [hpos] at hcC
      rw [A4 hc, ← hR]
      simp +contextual -implicitDefEqProofs (maxSteps := 10000000) (disch := first | (and_intros <;> omega -splitDisjunctions) | (push_cast; and_intros <;> omega -splitDisjunctions) | fail) only [hcq, o1, o2, o3, o4, t1, t2, e2, e4, hcC, go_sem, seval]
      rw [← hf]; rfl
    rw [if_neg h10] at hf
    have t2 : (bA s (q.pos : Int) = 10) = False := eq_false h10
    have hp1 : ((q.pos + 1 : Nat) : Int) = (q.pos : Int) + 1 := by omega
    by_cases h39 : bA s q.pos = 39
    ·rw [if_pos h39] at hf
     have t3 : (bA s (q.pos : Int) = 39) = True := eq_true h39
     by_cases h39b : bA s (q.pos + 1) = 39
     ·rw [if_pos h39b] at hf
      have hlt2 : q.pos + 1 < s.size := Ai h39b (by omega)
      have e4 := IP hq ⟨#[39]⟩ 2 true H.length (Nat.le_refl _) hs (by omega) (by decide) (m := 2) rfl
      unfold run at e4
      rw [A4 hc]
      simp +contextual -implicitDefEqProofs (maxSteps := 10000000) (disch := first | (and_intros <;> omega -splitDisjunctions) | (push_cast; and_intros <;> omega -splitDisjunctions) | fail) only [hcq, o1, o2, t1, t2, t3, h39, h39b, e2, e4, go_sem, seval]
      exact ih _ lv (q.put ⟨#[39]⟩ 2 true) _ _ _ _ _ _ _ _ _ _ _ (by show s.size - (q.pos + 2) < _; omega) (hq.put (by omega) (by decide)) ⟨d, by show s.size - (q.pos + 2) < _; omega, hf⟩
     ·rw [if_neg h39b] at hf
      obtain ⟨w, C, e4, rfl⟩ := Kj hq H.length (Nat.le_refl _) hs hlt
      unfold run at e4
      rw [A4 hc, ← hR]
      simp +contextual -implicitDefEqProofs (maxSteps := 10000000) (disch := first | (and_intros <;> omega -splitDisjunctions) | (push_cast; and_intros <;> omega -splitDisjunctions) | fail) only [hcq, o1, o2, t1, t2, t3, h39, h39b, e2, e4, go_sem, seval]
      rw [← hf]; rfl
    rw [if_neg h39] at hf
    have t3 : (bA s (q.pos : Int) = 39) = False := eq_false h39
    have e4 := fun L => IP (hq.left (L := L)) (b1 (bA s q.pos)) 1 (decide (¬bA s q.pos = 32 ∧ ¬bA s q.pos = 9)) H.length (Nat.le_refl _) hs (by omega) (by rw [OI]; omega) (m := 1) rfl
    unfold run b1 at e4
    rw [A4 hc]
    simp +contextual -implicitDefEqProofs (maxSteps := 10000000) (disch := first | (and_intros <;> omega -splitDisjunctions) | (push_cast; and_intros <;> omega -splitDisjunctions) | fail) only [hcq, o1, o2, t1, t2, t3, e2, e3, e4, go_sem, seval]
    exact ih _ lv (q.put (b1 (bA s q.pos)) 1 (decide (¬bA s q.pos = 32 ∧ ¬bA s q.pos = 9))) _ _ _ _ _ _ _ _ _ _ _ (by show s.size - (q.pos + 1) < _; omega) (hq.left.put (by omega) (by show 1 ≤ 4 * 1; omega)) ⟨d, by show s.size - (q.pos + 1) < _; omega, hf⟩
 exact key (s.size + 1) _ .nilsl ⟨p0 + 1, [], ⟨#[]⟩, 0⟩ _ _ _ _ _ _ _ _ _ _ _ (by show s.size - (p0 + 1) < _; omega) ⟨Hx.app, Nat.le_refl _, by rw [A7]; rfl, .inl ⟨rfl, .inl rfl⟩, hp0, Nat.le_refl _, Nat.zero_le _⟩ ⟨s.size + 1, by show s.size - (p0 + 1) < _; omega, rfl⟩
open Go.Proofs.YthlbglmfdjdagaaGreatDoor
def hexD (b : Int) : Int := if 48 ≤ b ∧ b ≤ 57 then b - 48 else if 97 ≤ b ∧ b ≤ 102 then b - 87 else if 65 ≤ b ∧ b ≤ 70 then b - 55 else 99
def hexP (s : ByteArray) : Nat → Nat → Int → Option Int
 | _, 0, n => some n
 | p, k + 1, n => if hexD (bA s p) = 99 then none else hexP s (p + 1) k (16 * n + hexD (bA s p))
def hexF : Option Int → V
 | none => .tup [.int .i64 0, .bool false]
 | some n => .tup [.int .i64 n, .bool true]
def pw16 (i : Nat) : Int := 16 ^ i
theorem Qy (i : Nat) : pw16 (i + 1) = 16 * pw16 i := by unfold pw16; rw [Int.pow_succ]; omega
theorem V4 {i : Nat} (h : i ≤ 8) : pw16 i ≤ 4294967296 := by
 have : ∀ k, k < 9 → pw16 k ≤ 4294967296 := by decide
 exact this i (by omega)
theorem K9 (s : ByteArray) (p many : Nat) (fl : Nat) (H : LH) (hs : s.size ≤ 1099511627776) (hp : p ≤ 1099511627776) (hm : many ≤ 8) :
 run 126 [.str s, .int .i64 p, .int .i64 many] fl H = some (hexF (hexP s p many 0), H) := by
 have e1 := fun q (h : (0 : Int) ≤ q) fl H => Ad s q fl H h hs
 have e2 := fun a b c fl H => Bl a b c fl H
 unfold run at *
 rw [z126]
 simp +contextual -implicitDefEqProofs (maxSteps := 10000000) (disch := first | (and_intros <;> omega -splitDisjunctions) | (push_cast; and_intros <;> omega -splitDisjunctions) | fail) only [go_sem, seval]
 refine Ae fun c R hc hR => ?_
 have key : ∀ (m : Nat) (i : Nat) (n j : Int) (x9 x10 x13 x20 x28 x37 : Option V), many - i < m → j = (i : Int) → i ≤ many → 0 ≤ n → n < pw16 i → hexP s (p + i) (many - i) n = hexP s p many 0 →
  zEv (Ac (mkR Tryz.prog cfg ok [0, 1, 2, 6, 7, 8, 9, 10, 11, 12, 13, 20, 28, 37] H.length) .pure H [ResultVar.tmp 6, ResultVar.tmp 7]) (mkR Tryz.prog cfg ok [0, 1, 2, 6, 7, 8, 9, 10, 11, 12, 13, 20, 28, 37] H.length) (K.code (Code.loop c) :: K.blk 0 :: R) .nrm [some (.str s), some (.int .i64 p), some (.int .i64 many), some (.int .i64 0), some (.bool false), some (.int .i64 n), x9, x10, some (.int .i64 many), some (.int .i64 j), x13, x20, x28, x37] (H) = some (hexF (hexP s p many 0), H) := by
  intro m
  induction m with
  | zero => intro i n j x9 x10 x13 x20 x28 x37 hm; omega
  | succ m ih =>
    intro i n j x9 x10 x13 x20 x28 x37 hm hj hi h0 hn hf
    subst hj
    have p1 := V4 (i := i) (by omega)
    have p2 := Qy i
    rw [A4 hc, ← hR]
    simp +contextual -implicitDefEqProofs (maxSteps := 10000000) (disch := first | (and_intros <;> omega -splitDisjunctions) | (push_cast; and_intros <;> omega -splitDisjunctions) | fail) only [e1, e2, go_sem, seval]
    try rw [hR]
    refine BM (fun h => ?_) (fun h => ?_)
    ·have e : many - i = (many - (i + 1)) + 1 := by omega
     rw [e, hexP] at hf
     have hb : ((p : Int) + (i : Int)) = ((p + i : Nat) : Int) := by omega
     rw [hb]
     have d0 : hexD (bA s ((p + i : Nat) : Int)) = hexD (bA s ((p + i : Nat) : Int)) := rfl
     conv at d0 => rhs; unfold hexD
     generalize bA s ((p + i : Nat) : Int) = b at *
     refine BM (fun h1 => ?_) (fun h1 => ?_)
     ·rw [if_pos h1] at d0
      rw [if_neg (by omega), d0] at hf
      exact ih (i + 1) _ _ _ _ _ _ _ _ (by omega) (by omega) (by omega) (by omega) (by omega) (by rw [← hf]; congr 1; omega)
     refine BM (fun h2 => ?_) (fun h2 => ?_)
     ·rw [if_neg h1, if_pos h2] at d0
      rw [if_neg (by omega), d0] at hf
      exact ih (i + 1) _ _ _ _ _ _ _ _ (by omega) (by omega) (by omega) (by omega) (by omega) (by rw [← hf]; congr 1; omega)
     refine BM (fun h3 => ?_) (fun h3 => ?_)
     ·rw [if_neg h1, if_neg h2, if_pos h3] at d0
      rw [if_neg (by omega), d0] at hf
      exact ih (i + 1) _ _ _ _ _ _ _ _ (by omega) (by omega) (by omega) (by omega) (by omega) (by rw [← hf]; congr 1; omega)
     ·rw [if_neg h1, if_neg h2, if_neg h3] at d0
      rw [if_pos d0] at hf
      rw [← hf]; rfl
    ·have e : many - i = 0 := by omega
     rw [e, hexP] at hf
     rw [← hf]; rfl
 exact key (many + 1) 0 0 _ _ _ _ _ _ _ (by omega) rfl (by omega) (by decide) (by decide) (by simp)
open Go.Proofs.YthlbglmfdjdagaaGreatDoor
def uI (x : Int) : UInt8 := UInt8.ofNat x.toNat
def encL (r : Int) : List UInt8 :=
 if r < 128 then [uI r] else if r < 2048 then [uI (192 + r / 64), uI (128 + r % 64)]
 else if r < 65536 then [uI (224 + r / 4096), uI (128 + r / 64 % 64), uI (128 + r % 64)]
 else [uI (240 + r / 262144), uI (128 + r / 4096 % 64), uI (128 + r / 64 % 64), uI (128 + r % 64)]
def okR (r : Int) : Prop := (0 ≤ r ∧ r ≤ 1114111) ∧ ¬ (55296 ≤ r ∧ r ≤ 57343)
instance (r : Int) : Decidable (okR r) := by unfold okR; infer_instance
def rbM (r : Int) : ByteArray := if okR r then ⟨(encL r).toArray⟩ else ⟨#[]⟩
theorem MO (r : Int) : (rbM r).size ≤ 4 := by
 unfold rbM
 by_cases h : okR r
 ·rw [if_pos h]
  show (encL r).length ≤ 4
  unfold encL
  (repeat' (refine L7 (P := fun x : List UInt8 => x.length ≤ 4) (fun _ => ?_) (fun _ => ?_))) <;> simp
 ·rw [if_neg h]; show 0 ≤ 4; omega
theorem X3 (r : Int) : rbM r = ⟨#[]⟩ ↔ ¬ okR r := by
 unfold rbM
 by_cases h : okR r
 ·rw [if_pos h]
  refine ⟨fun e => ?_, fun e => absurd h e⟩
  have e2 : (encL r).length = 0 := congrArg ByteArray.size e
  unfold encL at e2
  split at e2
  ·simp at e2
  ·split at e2
   ·simp at e2
   ·split at e2 <;> simp at e2
 ·rw [if_neg h]; exact ⟨fun _ => h, fun _ => rfl⟩
theorem VU {r : Int} (h : okR r) : Utf8.encode r = ⟨(encL r).toArray⟩ := by
 obtain ⟨⟨h1, h2⟩, h3⟩ := h
 obtain ⟨n, rfl⟩ : ∃ n : Nat, r = n := ⟨r.toNat, by omega⟩
 have hv : Utf8.valid (n : Int) = true := by
  unfold Utf8.valid
  simp only [Bool.or_eq_true, Bool.and_eq_true, decide_eq_true_eq]
  omega
 unfold Utf8.encode
 simp only [hv, if_true, Int.toNat_natCast]
 unfold encL uI
 have e0 : ((n : Int) < 128) = (n < 128) := propext (by omega)
 have e1 : ((n : Int) < 2048) = (n < 2048) := propext (by omega)
 have e2 : ((n : Int) < 65536) = (n < 65536) := propext (by omega)
 have d1 : (192 + (n : Int) / 64).toNat = 192 + n / 64 := by omega
 have d2 : (128 + (n : Int) % 64).toNat = 128 + n % 64 := by omega
 have d3 : (224 + (n : Int) / 4096).toNat = 224 + n / 4096 := by omega
 have d4 : (128 + (n : Int) / 64 % 64).toNat = 128 + n / 64 % 64 := by omega
 have d5 : (240 + (n : Int) / 262144).toNat = 240 + n / 262144 := by omega
 have d6 : (128 + (n : Int) / 4096 % 64).toNat = 128 + n / 4096 % 64 := by omega
 simp only [e0, e1, e2, d1, d2, d3, d4, d5, d6, Int.toNat_natCast]
 by_cases c0 : n < 128
 ·simp only [c0, if_true]
 ·simp only [c0, if_false]
  by_cases c1 : n < 2048
  ·simp only [c1, if_true]
  ·simp only [c1, if_false]
   by_cases c2 : n < 65536
   ·simp only [c2, if_true]
   ·simp only [c2, if_false]
theorem EF (r : Int) (fl : Nat) (H : LH) : run 8 [.int .i64 r] fl H = some (.str (rbM r), H) := by
 have e1 := fun a b c fl H => Bl a b c fl H
 unfold rbM
 unfold run at *
 rw [z8]
 by_cases h : okR r
 ·rw [if_pos h]
  have he := VU h
  obtain ⟨⟨h1, h2⟩, h3⟩ := h
  have hw : IntKind.wrap .i32 r = r := IntWalk.i32_in r (by omega)
  have t1 : (0 ≤ r) = True := eq_true h1
  have t2 : (r ≤ 1114111) = True := eq_true h2
  by_cases h4 : 55296 ≤ r
  ·have t3 : (55296 ≤ r) = True := eq_true h4
   have t4 : (r ≤ 57343) = False := eq_false (fun h5 => h3 ⟨h4, h5⟩)
   simp +contextual -implicitDefEqProofs (maxSteps := 10000000) (disch := first | (and_intros <;> omega -splitDisjunctions) | (push_cast; and_intros <;> omega -splitDisjunctions) | fail) only [e1, t1, t2, t3, t4, hw, he, go_sem, seval]
  ·have t3 : (55296 ≤ r) = False := eq_false h4
   simp +contextual -implicitDefEqProofs (maxSteps := 10000000) (disch := first | (and_intros <;> omega -splitDisjunctions) | (push_cast; and_intros <;> omega -splitDisjunctions) | fail) only [e1, t1, t2, t3, hw, he, go_sem, seval]
 ·rw [if_neg h]
  unfold okR at h
  by_cases h1 : 0 ≤ r ∧ r ≤ 1114111
  ·have t1 : (0 ≤ r) = True := eq_true h1.1
   have t2 : (r ≤ 1114111) = True := eq_true h1.2
   have h2 : 55296 ≤ r ∧ r ≤ 57343 := by omega
   have t3 : (55296 ≤ r) = True := eq_true h2.1
   have t4 : (r ≤ 57343) = True := eq_true h2.2
   simp +contextual -implicitDefEqProofs (maxSteps := 10000000) (disch := first | (and_intros <;> omega -splitDisjunctions) | (push_cast; and_intros <;> omega -splitDisjunctions) | fail) only [e1, t1, t2, t3, t4, go_sem, seval]
  ·by_cases h2 : 0 ≤ r
   ·have t1 : (0 ≤ r) = True := eq_true h2
    have t2 : (r ≤ 1114111) = False := eq_false (by omega)
    simp +contextual -implicitDefEqProofs (maxSteps := 10000000) (disch := first | (and_intros <;> omega -splitDisjunctions) | (push_cast; and_intros <;> omega -splitDisjunctions) | fail) only [e1, t1, t2, go_sem, seval]
   ·have t1 : (0 ≤ r) = False := eq_false h2
    simp +contextual -implicitDefEqProofs (maxSteps := 10000000) (disch := first | (and_intros <;> omega -splitDisjunctions) | (push_cast; and_intros <;> omega -splitDisjunctions) | fail) only [e1, t1, go_sem, seval]
theorem Dh {es : List (V × V)} {L : LH} : LH.mapAt (Blk.map es :: L) 0 = some es := rfl
def escN (b : Int) : Int :=
 if b = 48 then 0 else if b = 97 then 7 else if b = 98 then 8 else if b = 116 then 9 else if b = 9 then 9 else if b = 110 then 10 else if b = 118 then 11 else if b = 102 then 12 else if b = 114 then 13
 else if b = 101 then 27 else if b = 32 then 32 else if b = 34 then 34 else if b = 47 then 47 else if b = 92 then 92 else if b = 78 then 133 else if b = 95 then 160 else if b = 76 then 8232 else if b = 80 then 8233 else -1
theorem RZ (b : Int) : -1 ≤ escN b ∧ escN b ≤ 8233 := by
 unfold escN
 (repeat' (refine L7 (P := fun x : Int => -1 ≤ x ∧ x ≤ 8233) (fun _ => ?_) (fun _ => ?_))) <;> omega
theorem GF (b : Int) (fl : Nat) (H : LH) : run 125 [.int .i64 b] fl H = some (.int .i64 (escN b), H) := by
 unfold run
 rw [z125]
 by_cases hb : b = 48 ∨ b = 97 ∨ b = 98 ∨ b = 116 ∨ b = 9 ∨ b = 110 ∨ b = 118 ∨ b = 102 ∨ b = 114 ∨ b = 101 ∨ b = 32 ∨ b = 34 ∨ b = 47 ∨ b = 92 ∨ b = 78 ∨ b = 95 ∨ b = 76 ∨ b = 80
 ·rcases hb with rfl | rfl | rfl | rfl | rfl | rfl | rfl | rfl | rfl | rfl | rfl | rfl | rfl | rfl | rfl | rfl | rfl | rfl
  all_goals
   simp +contextual -implicitDefEqProofs (maxSteps := 10000000) (disch := first | (and_intros <;> omega -splitDisjunctions) | (push_cast; and_intros <;> omega -splitDisjunctions) | fail) only [Cc, mapE, entO, Cb, updV, updO, CB, eqS, C9, Dh, Option.map_some, Option.map_none, A1, A0, A2, A3, go_sem, seval]
  all_goals rfl
 ·simp only [not_or] at hb
  obtain ⟨c0, c1, c2, c3, c4, c5, c6, c7, c8, c9, c10, c11, c12, c13, c14, c15, c16, c17⟩ := hb
  have he : escN b = -1 := by
   unfold escN
   simp only [c0, c1, c2, c3, c4, c5, c6, c7, c8, c9, c10, c11, c12, c13, c14, c15, c16, c17, if_false]
  rw [he]
  simp +contextual -implicitDefEqProofs (maxSteps := 10000000) (disch := first | (and_intros <;> omega -splitDisjunctions) | (push_cast; and_intros <;> omega -splitDisjunctions) | fail) only [c0, c1, c2, c3, c4, c5, c6, c7, c8, c9, c10, c11, c12, c13, c14, c15, c16, c17, go_sem, seval]
def Co (b : Int) : Nat := if b = 120 then 2 else if b = 117 then 4 else if b = 85 then 8 else 0
def escA (s : ByteArray) (p : Nat) : ByteArray × Int :=
 if bA s p ≠ 92 ∨ s.size ≤ p + 1 then (⟨#[]⟩, 0)
 else if 0 ≤ escN (bA s (p + 1)) then (rbM (escN (bA s (p + 1))), p + 2)
 else match hexP s (p + 2) (Co (bA s (p + 1))) 0 with
  | none => (⟨#[]⟩, 0)
  | some n => if Co (bA s (p + 1)) = 0 ∨ ¬ okR n then (⟨#[]⟩, 0) else (rbM n, p + 2 + Co (bA s (p + 1)))
theorem Si : hexD (-1) = 99 := by decide
theorem PT {s : ByteArray} : ∀ (k p : Nat) (n m : Int), hexP s p k n = some m → 0 < k → p + k ≤ s.size
 | 0, p, n, m, h, hk => by omega
 | k + 1, p, n, m, h, _ => by
   unfold hexP at h
   by_cases h9 : hexD (bA s p) = 99
   ·rw [if_pos h9] at h; cases h
   ·rw [if_neg h9] at h
    have hp : p < s.size := by
     refine Nat.lt_of_not_le fun hle => h9 ?_
     rw [B3 (by omega)]; exact Si
    by_cases hk : 0 < k
    ·have := PT k (p + 1) _ m h hk; omega
    ·omega
theorem I4 {s : ByteArray} {p : Nat} : (escA s p).2 = 0 ∨ ((p : Int) + 2 ≤ (escA s p).2 ∧ (escA s p).2 ≤ p + 10 ∧ (escA s p).2 ≤ s.size) := by
 unfold escA
 by_cases h1 : bA s p ≠ 92 ∨ s.size ≤ p + 1
 ·rw [if_pos h1]; exact .inl rfl
 rw [if_neg h1]
 have h1' : ¬ s.size ≤ p + 1 := fun h => h1 (.inr h)
 by_cases h2 : 0 ≤ escN (bA s (p + 1))
 ·rw [if_pos h2]; exact .inr ⟨Int.le_refl _, by show (p : Int) + 2 ≤ _; omega, by show (p : Int) + 2 ≤ _; omega⟩
 rw [if_neg h2]
 cases h3 : hexP s (p + 2) (Co (bA s (p + 1))) 0 with
 | none => exact .inl rfl
 | some n =>
   dsimp only
   by_cases h4 : Co (bA s (p + 1)) = 0 ∨ ¬ okR n
   ·rw [if_pos h4]; exact .inl rfl
   ·rw [if_neg h4]
    have h5 : 0 < Co (bA s (p + 1)) := Nat.pos_of_ne_zero fun h => h4 (.inl h)
    have h6 := PT _ _ _ _ h3 h5
    have h7 : Co (bA s (p + 1)) ≤ 8 := by
     unfold Co
     (repeat' (refine L7 (P := fun x : Nat => x ≤ 8) (fun _ => ?_) (fun _ => ?_))) <;> omega
    refine .inr ⟨?_, ?_, ?_⟩
    ·show (p : Int) + 2 ≤ (p : Int) + 2 + (Co (bA s (p + 1)) : Int); omega
    ·show (p : Int) + 2 + (Co (bA s (p + 1)) : Int) ≤ _; omega
    ·show (p : Int) + 2 + (Co (bA s (p + 1)) : Int) ≤ _; omega
theorem Jk (s : ByteArray) (p : Nat) : (escA s p).1.size ≤ 4 := by
 unfold escA
 by_cases h1 : bA s p ≠ 92 ∨ s.size ≤ p + 1
 ·rw [if_pos h1]; show 0 ≤ 4; omega
 rw [if_neg h1]
 by_cases h2 : 0 ≤ escN (bA s (p + 1))
 ·rw [if_pos h2]; exact MO _
 rw [if_neg h2]
 cases h3 : hexP s (p + 2) (Co (bA s (p + 1))) 0 with
 | none => show 0 ≤ 4; omega
 | some n =>
   dsimp only
   by_cases h4 : Co (bA s (p + 1)) = 0 ∨ ¬ okR n
   ·rw [if_pos h4]; show 0 ≤ 4; omega
   ·rw [if_neg h4]; exact MO _
theorem Iz (s : ByteArray) (p : Nat) (fl : Nat) (H : LH) (hp : p ≤ s.size) (hs : s.size ≤ 1099511627776) : run 114 [.str s, .int .i64 (p : Int)] fl H = some (.tup [.str (escA s p).1, .int .i64 (escA s p).2], H) := by
 have e1 := fun fl H => AA s p fl H hs
 rw [Ay hp] at e1
 have e2 := fun q (h : (0 : Int) ≤ q) fl H => Ad s q fl H h hs
 have e3 := fun b fl H => GF b fl H
 have e4 := fun r fl H => EF r fl H
 have hq : ((p : Int) + 2) = ((p + 2 : Nat) : Int) := by omega
 have hrb := fun r => propext (X3 r)
 unfold escA
 by_cases h92 : bA s p = 92
 rotate_left
 ·rw [if_pos (.inl h92)]
  have t1 : (bA s (p : Int) = 92) = False := eq_false h92
  unfold run at *
  rw [z114]
  simp +contextual -implicitDefEqProofs (maxSteps := 10000000) (disch := first | (and_intros <;> omega -splitDisjunctions) | (push_cast; and_intros <;> omega -splitDisjunctions) | fail) only [e1, e2, t1, go_sem, seval]
 have t1 : (bA s (p : Int) = 92) = True := eq_true h92
 by_cases hle : s.size ≤ p + 1
 ·rw [if_pos (.inr hle)]
  have t2 : ((s.size : Int) ≤ (p : Int) + 1) = True := eq_true (by omega)
  have t3 : ((p : Int) + 1 ≥ s.size) = True := eq_true (by omega)
  unfold run at *
  rw [z114]
  simp +contextual -implicitDefEqProofs (maxSteps := 10000000) (disch := first | (and_intros <;> omega -splitDisjunctions) | (push_cast; and_intros <;> omega -splitDisjunctions) | fail) only [e1, e2, h92, t2, t3, go_sem, seval]
 have t2 : ((s.size : Int) ≤ (p : Int) + 1) = False := eq_false (by omega)
 have t3 : ((p : Int) + 1 ≥ s.size) = False := eq_false (by omega)
 rw [if_neg (fun h => h.elim (fun h => h h92) hle)]
 have hr := RZ (bA s ((p : Int) + 1))
 by_cases hsh : 0 ≤ escN (bA s (p + 1))
 ·rw [if_pos hsh]
  have t4 : (0 ≤ escN (bA s ((p : Int) + 1))) = True := eq_true hsh
  have t5 : (escN (bA s ((p : Int) + 1)) ≥ 0) = True := eq_true hsh
  unfold run at *
  rw [z114]
  simp +contextual -implicitDefEqProofs (maxSteps := 10000000) (disch := first | (and_intros <;> omega -splitDisjunctions) | (push_cast; and_intros <;> omega -splitDisjunctions) | fail) only [e1, e2, e3, e4, h92, t2, t3, t4, t5, go_sem, seval]
 rw [if_neg hsh]
 have t4 : (0 ≤ escN (bA s ((p : Int) + 1))) = False := eq_false hsh
 have t5 : (escN (bA s ((p : Int) + 1)) ≥ 0) = False := eq_false hsh
 have e5 : ∀ (b : Int) (fl : Nat) (H : LH), bA s (p + 1) = b → run 126 [.str s, .int .i64 ((p : Int) + 2), .int .i64 (Co b)] fl H = some (hexF (hexP s (p + 2) (Co b) 0), H) := fun b fl H hb => by
  rw [hq]
  exact K9 s (p + 2) (Co b) fl H hs (by omega) (by
   unfold Co
   (repeat' (refine L7 (P := fun x : Nat => x ≤ 8) (fun _ => ?_) (fun _ => ?_))) <;> omega)
 generalize hb : bA s ((p : Int) + 1) = b at *
 have e6 := fun fl H => e5 b fl H rfl
 clear e5
 unfold run at *
 rw [z114]
 by_cases c0 : b = 120
 ·subst c0
  have hm : Co 120 = 2 := rfl
  rw [hm] at e6 ⊢
  rw [show ((2 : Nat) : Int) = 2 from rfl] at e6
  cases hh : hexP s (p + 2) 2 0 with
  | none =>
    rw [hh] at e6
    unfold hexF at e6
    simp +contextual -implicitDefEqProofs (maxSteps := 10000000) (disch := first | (and_intros <;> omega -splitDisjunctions) | (push_cast; and_intros <;> omega -splitDisjunctions) | fail) only [e1, e2, e3, e4, e6, hb, h92, hrb, t2, t3, t4, t5, Cc, mapE, entO, Cb, updV, updO, CB, eqS, C9, Dh, Option.map_some, Option.map_none, A1, A0, A2, A3, go_sem, seval]
  | some n =>
    rw [hh] at e6
    unfold hexF at e6
    dsimp only
    by_cases ho : okR n
    ·rw [if_neg (show ¬ ((2 : Nat) = 0 ∨ ¬ okR n) from fun h => h.elim (by decide) (fun h => h ho))]
     have t6 : okR n = True := eq_true ho
     simp +contextual -implicitDefEqProofs (maxSteps := 10000000) (disch := first | (and_intros <;> omega -splitDisjunctions) | (push_cast; and_intros <;> omega -splitDisjunctions) | fail) only [t6, not_true, e1, e2, e3, e4, e6, hb, h92, hrb, t2, t3, t4, t5, Cc, mapE, entO, Cb, updV, updO, CB, eqS, C9, Dh, Option.map_some, Option.map_none, A1, A0, A2, A3, go_sem, seval]
    ·rw [if_pos (.inr ho)]
     have t6 : okR n = False := eq_false ho
     simp +contextual -implicitDefEqProofs (maxSteps := 10000000) (disch := first | (and_intros <;> omega -splitDisjunctions) | (push_cast; and_intros <;> omega -splitDisjunctions) | fail) only [t6, not_false_eq_true, e1, e2, e3, e4, e6, hb, h92, hrb, t2, t3, t4, t5, Cc, mapE, entO, Cb, updV, updO, CB, eqS, C9, Dh, Option.map_some, Option.map_none, A1, A0, A2, A3, go_sem, seval]
 by_cases c1 : b = 117
 ·subst c1
  have hm : Co 117 = 4 := rfl
  rw [hm] at e6 ⊢
  rw [show ((4 : Nat) : Int) = 4 from rfl] at e6
  cases hh : hexP s (p + 2) 4 0 with
  | none =>
    rw [hh] at e6
    unfold hexF at e6
    simp +contextual -implicitDefEqProofs (maxSteps := 10000000) (disch := first | (and_intros <;> omega -splitDisjunctions) | (push_cast; and_intros <;> omega -splitDisjunctions) | fail) only [e1, e2, e3, e4, e6, hb, h92, hrb, t2, t3, t4, t5, Cc, mapE, entO, Cb, updV, updO, CB, eqS, C9, Dh, Option.map_some, Option.map_none, A1, A0, A2, A3, go_sem, seval]
  | some n =>
    rw [hh] at e6
    unfold hexF at e6
    dsimp only
    by_cases ho : okR n
    ·rw [if_neg (show ¬ ((4 : Nat) = 0 ∨ ¬ okR n) from fun h => h.elim (by decide) (fun h => h ho))]
     have t6 : okR n = True := eq_true ho
     simp +contextual -implicitDefEqProofs (maxSteps := 10000000) (disch := first | (and_intros <;> omega -splitDisjunctions) | (push_cast; and_intros <;> omega -splitDisjunctions) | fail) only [t6, not_true, e1, e2, e3, e4, e6, hb, h92, hrb, t2, t3, t4, t5, Cc, mapE, entO, Cb, updV, updO, CB, eqS, C9, Dh, Option.map_some, Option.map_none, A1, A0, A2, A3, go_sem, seval]
    ·rw [if_pos (.inr ho)]
     have t6 : okR n = False := eq_false ho
     simp +contextual -implicitDefEqProofs (maxSteps := 10000000) (disch := first | (and_intros <;> omega -splitDisjunctions) | (push_cast; and_intros <;> omega -splitDisjunctions) | fail) only [t6, not_false_eq_true, e1, e2, e3, e4, e6, hb, h92, hrb, t2, t3, t4, t5, Cc, mapE, entO, Cb, updV, updO, CB, eqS, C9, Dh, Option.map_some, Option.map_none, A1, A0, A2, A3, go_sem, seval]
 by_cases c2 : b = 85
 ·subst c2
  have hm : Co 85 = 8 := rfl
  rw [hm] at e6 ⊢
  rw [show ((8 : Nat) : Int) = 8 from rfl] at e6
  cases hh : hexP s (p + 2) 8 0 with
  | none =>
    rw [hh] at e6
    unfold hexF at e6
    simp +contextual -implicitDefEqProofs (maxSteps := 10000000) (disch := first | (and_intros <;> omega -splitDisjunctions) | (push_cast; and_intros <;> omega -splitDisjunctions) | fail) only [e1, e2, e3, e4, e6, hb, h92, hrb, t2, t3, t4, t5, Cc, mapE, entO, Cb, updV, updO, CB, eqS, C9, Dh, Option.map_some, Option.map_none, A1, A0, A2, A3, go_sem, seval]
  | some n =>
    rw [hh] at e6
    unfold hexF at e6
    dsimp only
    by_cases ho : okR n
    ·rw [if_neg (show ¬ ((8 : Nat) = 0 ∨ ¬ okR n) from fun h => h.elim (by decide) (fun h => h ho))]
     have t6 : okR n = True := eq_true ho
     simp +contextual -implicitDefEqProofs (maxSteps := 10000000) (disch := first | (and_intros <;> omega -splitDisjunctions) | (push_cast; and_intros <;> omega -splitDisjunctions) | fail) only [t6, not_true, e1, e2, e3, e4, e6, hb, h92, hrb, t2, t3, t4, t5, Cc, mapE, entO, Cb, updV, updO, CB, eqS, C9, Dh, Option.map_some, Option.map_none, A1, A0, A2, A3, go_sem, seval]
    ·rw [if_pos (.inr ho)]
     have t6 : okR n = False := eq_false ho
     simp +contextual -implicitDefEqProofs (maxSteps := 10000000) (disch := first | (and_intros <;> omega -splitDisjunctions) | (push_cast; and_intros <;> omega -splitDisjunctions) | fail) only [t6, not_false_eq_true, e1, e2, e3, e4, e6, hb, h92, hrb, t2, t3, t4, t5, Cc, mapE, entO, Cb, updV, updO, CB, eqS, C9, Dh, Option.map_some, Option.map_none, A1, A0, A2, A3, go_sem, seval]
 have hm : Co b = 0 := by unfold Co; rw [if_neg c0, if_neg c1, if_neg c2]
 rw [hm] at e6 ⊢
 rw [show ((0 : Nat) : Int) = 0 from rfl] at e6
 have hh : hexP s (p + 2) 0 0 = some 0 := rfl
 rw [hh] at e6 ⊢
 unfold hexF at e6
 dsimp only
 rw [if_pos (.inl rfl)]
 simp +contextual -implicitDefEqProofs (maxSteps := 10000000) (disch := first | (and_intros <;> omega -splitDisjunctions) | (push_cast; and_intros <;> omega -splitDisjunctions) | fail) only [c0, c1, c2, decide_false, decide_true, e1, e2, e3, e4, e6, hb, h92, hrb, t2, t3, t4, t5, Cc, mapE, entO, Cb, updV, updO, CB, eqS, C9, Dh, Option.map_some, Option.map_none, A1, A0, A2, A3, go_sem, seval]
open Go.Proofs.YthlbglmfdjdagaaGreatDoor
theorem Pd (b0 b1 b2 b3 : Int) (h : (decM b0 b1 b2 b3).2 ≠ 0) :
 (decM b0 b1 b2 b3 = (b0, 1) ∧ 0 ≤ b0 ∧ b0 < 128) ∨ (decM b0 b1 b2 b3 = ((b0 - 192) * 64 + (b1 - 128), 2) ∧ (194 ≤ b0 ∧ b0 < 224) ∧ 128 ≤ b1 ∧ b1 ≤ 191) ∨
 (decM b0 b1 b2 b3 = (((b0 - 224) * 64 + (b1 - 128)) * 64 + (b2 - 128), 3) ∧ (224 ≤ b0 ∧ b0 < 240) ∧ (128 ≤ b1 ∧ b1 ≤ 191 ∧ (b0 = 224 → 160 ≤ b1) ∧ (b0 = 237 → b1 ≤ 159)) ∧ 128 ≤ b2 ∧ b2 ≤ 191) ∨
 (decM b0 b1 b2 b3 = ((((b0 - 240) * 64 + (b1 - 128)) * 64 + (b2 - 128)) * 64 + (b3 - 128), 4) ∧ (240 ≤ b0 ∧ b0 ≤ 244) ∧ (128 ≤ b1 ∧ b1 ≤ 191 ∧ (b0 = 240 → 144 ≤ b1) ∧ (b0 = 244 → b1 ≤ 143)) ∧ (128 ≤ b2 ∧ b2 ≤ 191) ∧ 128 ≤ b3 ∧ b3 ≤ 191) := by
 unfold decM at h ⊢
 by_cases c1 : b0 < 0
 ·rw [if_pos c1] at h; exact absurd rfl h
 rw [if_neg c1] at h ⊢
 by_cases c2 : b0 < 128
 ·rw [if_pos c2]; exact .inl ⟨rfl, by omega, c2⟩
 rw [if_neg c2] at h ⊢
 by_cases c3 : b0 < 194 ∨ 244 < b0
 ·rw [if_pos c3] at h; exact absurd rfl h
 rw [if_neg c3] at h ⊢
 by_cases c4 : b0 < 224
 ·rw [if_pos c4] at h ⊢
  by_cases c5 : b1 < 128 ∨ 191 < b1
  ·rw [if_pos c5] at h; exact absurd rfl h
  ·rw [if_neg c5]; exact .inr (.inl ⟨rfl, by omega, by omega, by omega⟩)
 rw [if_neg c4] at h ⊢
 by_cases c5 : b0 < 240
 ·rw [if_pos c5] at h ⊢
  by_cases c6 : b1 < (if b0 = 224 then 160 else 128) ∨ (if b0 = 237 then 159 else 191) < b1 ∨ b2 < 128 ∨ 191 < b2
  ·rw [if_pos c6] at h; exact absurd rfl h
  ·rw [if_neg c6]
   refine .inr (.inr (.inl ⟨rfl, ⟨by omega, c5⟩, ⟨?_, ?_, ?_, ?_⟩, ?_, ?_⟩)) <;> grind
 rw [if_neg c5] at h ⊢
 by_cases c6 : b1 < (if b0 = 240 then 144 else 128) ∨ (if b0 = 244 then 143 else 191) < b1 ∨ b2 < 128 ∨ 191 < b2 ∨ b3 < 128 ∨ 191 < b3
 ·rw [if_pos c6] at h; exact absurd rfl h
 ·rw [if_neg c6]
  refine .inr (.inr (.inr ⟨rfl, ⟨by omega, by omega⟩, ⟨?_, ?_, ?_, ?_⟩, ⟨?_, ?_⟩, ?_, ?_⟩)) <;> grind
theorem FN {s : ByteArray} {p : Nat} (hp : p ≤ s.size) : p + (Au s p).2.toNat ≤ s.size := by
 unfold Au
 rw [FP (by omega) (by omega)]
 by_cases h : (decM (bA s p) (bA s (p + 1)) (bA s (p + 2)) (bA s (p + 3))).2 = 0
 ·rw [h]; exact hp
 have in1 : ∀ k : Nat, 0 ≤ bA s ((p : Int) + (k : Nat)) → p + k < s.size := fun k hk => by
  refine Classical.byContradiction fun hc => ?_
  have := B3 (s := s) (p := (p : Int) + (k : Nat)) (by omega)
  omega
 have i0 := in1 0; have i1 := in1 1; have i2 := in1 2; have i3 := in1 3
 simp only [Int.natCast_zero, Int.add_zero] at i0
 have i1 : 0 ≤ bA s ((p : Int) + 1) → p + 1 < s.size := i1
 have i2 : 0 ≤ bA s ((p : Int) + 2) → p + 2 < s.size := i2
 have i3 : 0 ≤ bA s ((p : Int) + 3) → p + 3 < s.size := i3
 rcases Pd _ _ _ _ h with ⟨e, k⟩ | ⟨e, k⟩ | ⟨e, k⟩ | ⟨e, k⟩ <;> rw [e] <;> dsimp only
 ·have := i0 (by omega); omega
 ·have := i1 (by omega); omega
 ·have := i2 (by omega); omega
 ·have := i3 (by omega); omega
theorem LA (r : Int) (fl : Nat) (H : LH) : run 23 [.int .i64 r] fl H = some (.bool (decide (mayB r)), H) := by
 unfold run
 rw [z23]
 simp +contextual -implicitDefEqProofs (maxSteps := 10000000) (disch := first | (and_intros <;> omega -splitDisjunctions) | (push_cast; and_intros <;> omega -splitDisjunctions) | fail) only [go_sem, seval]
 unfold mayB
 congr 3
 grind
theorem LB (s : ByteArray) (fl : Nat) (H : LH) (hs : s.size ≤ 1099511627776) : run 13 [.str s] fl H = some (.int .i64 (clnM s), H) := by
 have e1 := fun p fl H => Kl s p fl H (by omega)
 have e2 := fun r fl H => LA r fl H
 unfold clnM
 generalize hres : clnG s (s.size + 1) 0 = res
 unfold run at *
 rw [z13]
 simp +contextual -implicitDefEqProofs (maxSteps := 10000000) (disch := first | (and_intros <;> omega -splitDisjunctions) | (push_cast; and_intros <;> omega -splitDisjunctions) | fail) only [go_sem, seval]
 refine Ae fun c R hc hR => ?_
 have key : ∀ (m : Nat) (p : Nat) (j : Int) (x2 x4 x5 x9 x22 : Option V), s.size - p < m → j = p → p ≤ s.size → (∃ d, s.size - p < d ∧ clnG s d p = res) →
  zEv (Ac (mkR Tryz.prog cfg ok [0, 2, 3, 4, 5, 9, 22] H.length) .pure H [ResultVar.tmp 2]) (mkR Tryz.prog cfg ok [0, 2, 3, 4, 5, 9, 22] H.length) (K.code (Code.loop c) :: K.blk 0 :: R) .nrm [some (.str s), x2, some (.int .i64 j), x4, x5, x9, x22] (H) = some (.int .i64 res, H) := by
  intro m
  induction m with
  | zero => intro p j x2 x4 x5 x9 x22 hm; omega
  | succ m ih =>
    intro p j x2 x4 x5 x9 x22 hm hj hp hf
    subst hj
    obtain ⟨d, hd, hf⟩ := hf
    obtain ⟨d, rfl⟩ : ∃ d', d = d' + 1 := ⟨d - 1, by omega⟩
    rw [Mb] at hf
    have q2 := FM s p
    by_cases hlt : p < s.size
    ·rw [if_pos hlt] at hf
     have t1 : ((p : Int) < s.size) = True := eq_true (by omega)
     by_cases hb : (Au s p).2 = 0 ∨ ¬ mayB (Au s p).1
     ·rw [if_pos hb] at hf
      rw [A4 hc, ← hR]
      rcases hb with hb | hb
      ·have t2 : ((Au s (p : Int)).2 = 0) = True := eq_true hb
       simp +contextual -implicitDefEqProofs (maxSteps := 10000000) (disch := first | (and_intros <;> omega -splitDisjunctions) | (push_cast; and_intros <;> omega -splitDisjunctions) | fail) only [t1, t2, e1, e2, go_sem, seval]
       rw [← hf]
      ·have t3 : mayB (Au s (p : Int)).1 = False := eq_false hb
       by_cases hb0 : (Au s (p : Int)).2 = 0
       ·have t2 : ((Au s (p : Int)).2 = 0) = True := eq_true hb0
        simp +contextual -implicitDefEqProofs (maxSteps := 10000000) (disch := first | (and_intros <;> omega -splitDisjunctions) | (push_cast; and_intros <;> omega -splitDisjunctions) | fail) only [t1, t2, e1, e2, go_sem, seval]
        rw [← hf]
       ·have t2 : ((Au s (p : Int)).2 = 0) = False := eq_false hb0
        simp +contextual -implicitDefEqProofs (maxSteps := 10000000) (disch := first | (and_intros <;> omega -splitDisjunctions) | (push_cast; and_intros <;> omega -splitDisjunctions) | fail) only [t1, t2, t3, e1, e2, not_false_eq_true, go_sem, seval]
        rw [← hf]
     ·rw [if_neg hb] at hf
      have t2 : ((Au s (p : Int)).2 = 0) = False := eq_false (fun h => hb (.inl h))
      have t3 : mayB (Au s (p : Int)).1 = True := eq_true (Classical.byContradiction fun h => hb (.inr h))
      have hn0 : (Au s (p : Int)).2 ≠ 0 := fun h => hb (.inl h)
      have hfit := FN hp
      rw [A4 hc]
      simp +contextual -implicitDefEqProofs (maxSteps := 10000000) (disch := first | (and_intros <;> omega -splitDisjunctions) | (push_cast; and_intros <;> omega -splitDisjunctions) | fail) only [t1, t2, t3, e1, e2, not_true_eq_false, go_sem, seval]
      exact ih (p + (Au s p).2.toNat) _ _ _ _ _ _ (by omega) (by omega) hfit ⟨d, by omega, hf⟩
    ·rw [if_neg hlt] at hf
     have t1 : ((p : Int) < s.size) = False := eq_false (by omega)
     rw [A4 hc, ← hR]
     simp +contextual -implicitDefEqProofs (maxSteps := 10000000) (disch := first | (and_intros <;> omega -splitDisjunctions) | (push_cast; and_intros <;> omega -splitDisjunctions) | fail) only [t1, go_sem, seval]
     rw [← hf, show p = s.size by omega]
 exact key (s.size + 1) 0 0 _ _ _ _ _ (by omega) rfl (Nat.zero_le _) ⟨s.size + 1, by omega, hres⟩
def nmL : List UInt8 → List UInt8
 | [] => []
 | x :: r => if x = 13 then (if r.head? = some 10 then nmL r else 10 :: nmL r) else x :: nmL r
theorem AH : ∀ l : List UInt8, (nmL l).length ≤ l.length
 | [] => Nat.le_refl _
 | x :: r => by
   have := AH r
   unfold nmL
   by_cases h : x = 13
   ·rw [if_pos h]
    by_cases h2 : r.head? = some 10
    ·rw [if_pos h2, List.length_cons]; omega
    ·rw [if_neg h2, List.length_cons, List.length_cons]; omega
   ·rw [if_neg h, List.length_cons, List.length_cons]; omega
theorem DO {l : List UInt8} {i : Nat} (h : l.length ≤ i) : nmL (l.drop i) = [] := by rw [List.drop_of_length_le h]; rfl
theorem CD {l : List UInt8} {i : Nat} (h : i < l.length) : nmL (l.drop i) = if l.getD i 0 = 13 then (if i + 1 < l.length ∧ l.getD (i + 1) 0 = 10 then nmL (l.drop (i + 1)) else 10 :: nmL (l.drop (i + 1))) else l.getD i 0 :: nmL (l.drop (i + 1)) := by
 rw [List.drop_eq_getElem_cons h, nmL, Bp h, List.head?_drop]
 by_cases h2 : i + 1 < l.length
 ·rw [List.getElem?_eq_getElem h2, Bp h2]
  simp only [h2, true_and, Option.some.injEq]
 ·rw [List.getElem?_eq_none (by omega)]
  simp only [h2, false_and, reduceCtorEq]
def bomP (l : List UInt8) : Prop := 3 ≤ l.length ∧ l.getD 0 0 = 239 ∧ l.getD 1 0 = 187 ∧ l.getD 2 0 = 191
instance (l : List UInt8) : Decidable (bomP l) := by unfold bomP; infer_instance
def bomN (l : List UInt8) : Nat := if bomP l then 3 else 0
def nrT (l : List UInt8) : ByteArray := ⟨(nmL (l.drop (bomN l))).toArray⟩
def nrM (l : List UInt8) : ByteArray × Int := if 60000 < l.length then (⟨#[]⟩, 1) else if clnM (nrT l) = (nrT l).size then (nrT l, 0) else (⟨#[]⟩, 2)
theorem P7 {s : ByteArray} : ∀ (d p : Nat), p ≤ s.size → clnG s d p ≤ s.size
 | 0, p, h => Nat.zero_le _
 | d + 1, p, h => by
   rw [Mb]
   by_cases h1 : p < s.size
   ·rw [if_pos h1]
    by_cases h2 : (Au s p).2 = 0 ∨ ¬ mayB (Au s p).1
    ·rw [if_pos h2]; exact h
    ·rw [if_neg h2]; exact P7 d _ (FN h)
   ·rw [if_neg h1]; exact Nat.le_refl _
theorem P8 (s : ByteArray) : clnM s ≤ s.size := P7 _ _ (Nat.zero_le _)
theorem BQ {x : UInt8} {n : Nat} (hn : n < 256) : (((x.toNat : Nat) : Int) = (n : Nat)) = (x = UInt8.ofNat n) := by
 refine propext ⟨fun h => UInt8.toNat_inj.1 ?_, fun h => ?_⟩
 ·rw [UInt8.toNat_ofNat', Nat.mod_eq_of_lt hn]; omega
 ·rw [h, UInt8.toNat_ofNat', Nat.mod_eq_of_lt hn]
theorem Dq (v : V) (l : List UInt8) (fl : Nat) (H : LH) (h : At H byC 1 v l) (ho : Own 0 H byC 1 v l) (hl : l.length ≤ 1099511627776) : run 5 [v] fl H = some (.tup [.str (nrM l).1, .int .i64 (nrM l).2], H) := by
 have p1 := h.isTup; have p2 := h.one; have f2 := h.len; have f3 := h.lenOk ty22
 unfold nrM
 by_cases hbig : 60000 < l.length
 ·rw [if_pos hbig]
  have t1 : (60000 < (l.length : Int)) = True := eq_true (by omega)
  unfold run
  rw [z5]
  simp +contextual -implicitDefEqProofs (maxSteps := 10000000) (disch := first | (and_intros <;> omega -splitDisjunctions) | (push_cast; and_intros <;> omega -splitDisjunctions) | fail) only [p1, p2, f2, f3, t1, go_sem, seval]
 rw [if_neg hbig]
 have t1 : (60000 < (l.length : Int)) = False := eq_false (by omega)
 have hz : (nrT l).size ≤ l.length := by
  have := AH (l.drop (bomN l))
  rw [List.length_drop] at this
  show (nmL (l.drop (bomN l))).length ≤ _
  omega
 have e1 := fun fl H => E3 (nrT l) fl H (by omega)
 have hcl := P8 (nrT l)
 by_cases h3 : l.length < 3
 ·have t2 : (3 ≤ (l.length : Int)) = False := eq_false (by omega)
  have hb0 : bomN l = 0 := if_neg (fun k => by have := k.1; omega)
  obtain ⟨v2, hv2⟩ : ∃ v2, v2 = v := ⟨_, rfl⟩
  obtain ⟨l2, hl2⟩ : ∃ l2, l2 = l := ⟨_, rfl⟩
  obtain ⟨n2, hn2⟩ : ∃ n2, n2 = l2.length := ⟨_, rfl⟩
  have hA : At H byC 1 v2 l2 := by rw [hv2, hl2]; exact h
  have hT : nrT l = ⟨(nmL l2).toArray⟩ := by unfold nrT; rw [hb0, hl2]; rfl
  have hle : l2.length ≤ l.length := by rw [hl2]; exact Nat.le_refl _
  unfold run
  rw [z5]
  simp +contextual -implicitDefEqProofs (maxSteps := 10000000) (disch := first | (and_intros <;> omega -splitDisjunctions) | (push_cast; and_intros <;> omega -splitDisjunctions) | fail) only [p1, p2, f2, f3, t1, t2, go_sem, seval]
  rw [← hv2, show l.length = n2 by rw [hn2, hl2]]
  refine Ae fun c R hc hR => ?_
  have key : ∀ (m : Nat) (i : Nat) (j : Int) (u : V) (B : LH) (xs : List UInt8) (x2 x3 x5 x6 x7 x10 x31 x38 x42 x49 x73 : Option V), n2 - i < m → j = i → i ≤ n2 → xs ++ nmL (l2.drop i) = nmL l2 → Hx H B → Own H.length B byC 1 u xs → (∃ b, u = .sl b 0 1 xs.length xs.length) →
   zEv (Ac (mkR Tryz.prog cfg ok [0, 2, 3, 4, 5, 6, 7, 10, 31, 35, 36, 37, 38, 42, 49, 73] H.length) .pure H [ResultVar.tmp 2, ResultVar.tmp 3]) (mkR Tryz.prog cfg ok [0, 2, 3, 4, 5, 6, 7, 10, 31, 35, 36, 37, 38, 42, 49, 73] H.length) (K.code (Code.loop c) :: K.blk 0 :: R) .nrm [some v2, x2, x3, some u, x5, x6, x7, x10, x31, some v2, some (.int .i64 n2), some (.int .i64 j), x38, x42, x49, x73] (B) = some (.tup [.str (if clnM (nrT l) = (nrT l).size then (nrT l, (0 : Int)) else (⟨#[]⟩, 2)).1, .int .i64 (if clnM (nrT l) = (nrT l).size then (nrT l, (0 : Int)) else (⟨#[]⟩, 2)).2], H) := by
   intro m
   induction m with
   | zero => intro i j u B xs x2 x3 x5 x6 x7 x10 x31 x38 x42 x49 x73 hm; omega
   | succ m ih =>
     intro i j u B xs x2 x3 x5 x6 x7 x10 x31 x38 x42 x49 x73 hm hj hi hxs hx ho hu
     subst hj
     have hxl := hx.len
     have o1 := (ho.at Ab).isTup; have o2 := (ho.at Ab).one
     have hlen : xs.length + (nmL (l2.drop i)).length = (nmL l2).length := by rw [← hxs, List.length_append]
     have hln := AH l2
     have r1 := hA.isTup; have r2 := hA.one; have k2 := hA.len; have k3 := hA.lenOk ty22
     rw [← hn2] at k2
     by_cases hlt : i < n2
     rotate_left
     ·have t3 : ((i : Int) < n2) = False := eq_false (by omega)
      rw [DO (by omega), List.append_nil] at hxs
      have hs : (⟨xs.toArray⟩ : ByteArray) = nrT l := by rw [hxs, ← hT]
      obtain ⟨b, rfl⟩ := hu
      obtain ⟨hcb, hbl⟩ : B.cellsAt b = some (rows byC xs) ∧ H.length ≤ b := by
       rcases ho with ⟨_, k | k⟩ | ⟨b', k, k1, k2⟩
       ·cases k
       ·cases k
       ·cases k; exact ⟨k1, k2⟩
      have g1 := Ak Ab xs
      rw [Nat.mul_one] at g1
      have g2 := AQ Ab (xs := xs) (n := xs.length) (by omega)
      have g4 := Am xs
      unfold run at e1
      by_cases k : clnM (nrT l) = (nrT l).size
      ·have t9 : ((clnM (nrT l) : Int) = (nrT l).size) = True := eq_true (by omega)
       rw [A4 hc, ← hR]
       simp +contextual -implicitDefEqProofs (maxSteps := 10000000) (disch := first | (and_intros <;> omega -splitDisjunctions) | (push_cast; and_intros <;> omega -splitDisjunctions) | fail) only [t3, t9, hcb, g1, g2, g4, hs, e1, ne_eq, not_true_eq_false, not_false_eq_true, go_sem, seval]
       rw [if_pos k]
      ·have t9 : ((clnM (nrT l) : Int) = (nrT l).size) = False := eq_false (by omega)
       rw [A4 hc, ← hR]
       simp +contextual -implicitDefEqProofs (maxSteps := 10000000) (disch := first | (and_intros <;> omega -splitDisjunctions) | (push_cast; and_intros <;> omega -splitDisjunctions) | fail) only [t3, t9, hcb, g1, g2, g4, hs, e1, ne_eq, not_true_eq_false, not_false_eq_true, go_sem, seval]
       rw [if_neg k]
     have hlt2 : i < l2.length := by omega
     have t3 : ((i : Int) < n2) = True := eq_true (by omega)
     have rA := hA.ext hx
     have g4 := rA.con (by omega)
     have g5 := hA.idx (T := ty Tryz.prog) (t := 22) (by simp only [Av, AC, ty5, ty22]) .i64 i (by omega) (by omega)
     have g6 := fun n K => rA.load1 0 (fun x => .int .u8 x.toNat) (fun _ => rfl) i hlt2 n K
     have hstep := CD hlt2
     simp only [Nat.mul_one, Int.toNat_natCast] at g5
     by_cases h13 : l2.getD i 0 = 13
     rotate_left
     ·have t4 : ((((l2.getD i 0).toNat : Nat) : Int) = 13) = False := eq_false (fun e => h13 (by have := BQ (x := l2.getD i 0) (n := 13) (by decide); exact this.mp e))
      rw [if_neg h13] at hstep
      generalize l2.getD i 0 = x at *
      obtain ⟨b2, W, a1, a2, a3, _⟩ := AO (fl := H.length) hx ho (Nat.le_refl _) (Nat.le_refl _) hxl [Blk.cells [V.int .u8 (x.toNat : Nat)]] x (by rw [hstep, List.length_cons] at hlen; omega)
      rw [A4 hc]
      simp +contextual -implicitDefEqProofs (maxSteps := 10000000) (disch := first | (and_intros <;> omega -splitDisjunctions) | (push_cast; and_intros <;> omega -splitDisjunctions) | fail) only [t3, t4, k2, k3, r1, r2, g4, g5, g6, a1, o1, o2, ne_eq, not_false_eq_true, go_sem, seval]
      exact ih (i + 1) _ _ W (xs ++ [x]) _ _ _ _ _ _ _ _ _ _ _ (by omega) (by omega) (by omega) (by rw [← hxs, hstep, List.append_assoc]; rfl) a3 a2 ⟨_, by rw [List.length_append]; rfl⟩
     have t4 : ((((l2.getD i 0).toNat : Nat) : Int) = 13) = True := eq_true (by rw [h13]; rfl)
     rw [if_pos h13] at hstep
     obtain ⟨b2, W, a1, a2, a3, _⟩ := AO (fl := H.length) hx ho (Nat.le_refl _) (Nat.le_refl _) hxl [Blk.cells [V.int .u8 10]] 10 (by
      by_cases hcl : i + 1 < l2.length ∧ l2.getD (i + 1) 0 = 10
      ·have := AH (l2.drop (i + 1)); rw [if_pos hcl] at hstep; rw [List.length_drop] at this; omega
      ·rw [if_neg hcl] at hstep; rw [hstep, List.length_cons] at hlen; omega)
     have e10 : V.int .u8 (((10 : UInt8).toNat : Nat) : Int) = V.int .u8 10 := rfl
     rw [e10] at a1
     by_cases hl1 : i + 1 < n2
     rotate_left
     ·have t5 : ((i : Int) + 1 = n2) = True := eq_true (by omega)
      rw [if_neg (fun k => hl1 (by omega))] at hstep
      rw [A4 hc]
      simp +contextual -implicitDefEqProofs (maxSteps := 10000000) (disch := first | (and_intros <;> omega -splitDisjunctions) | (push_cast; and_intros <;> omega -splitDisjunctions) | fail) only [t3, t4, t5, k2, k3, r1, r2, g4, g5, g6, a1, o1, o2, ne_eq, not_true_eq_false, go_sem, seval]
      exact ih (i + 1) _ _ W (xs ++ [10]) _ _ _ _ _ _ _ _ _ _ _ (by omega) (by omega) (by omega) (by rw [← hxs, hstep, List.append_assoc]; rfl) a3 a2 ⟨_, by rw [List.length_append]; rfl⟩
     have t5 : ((i : Int) + 1 = n2) = False := eq_false (by omega)
     have g7 := hA.idx (T := ty Tryz.prog) (t := 22) (by simp only [Av, AC, ty5, ty22]) .i64 ((i : Int) + 1) (by omega) (by omega)
     have g8 := fun n K => rA.load1 0 (fun x => .int .u8 x.toNat) (fun _ => rfl) (i + 1) (by omega) n K
     rw [show ((i : Int) + 1).toNat = i + 1 by omega] at g7
     simp only [Nat.mul_one] at g7
     by_cases h10 : l2.getD (i + 1) 0 = 10
     ·have t6 : ((((l2.getD (i + 1) 0).toNat : Nat) : Int) = 10) = True := eq_true (by rw [h10]; rfl)
      rw [if_pos ⟨by omega, h10⟩] at hstep
      rw [A4 hc]
      simp +contextual -implicitDefEqProofs (maxSteps := 10000000) (disch := first | (and_intros <;> omega -splitDisjunctions) | (push_cast; and_intros <;> omega -splitDisjunctions) | fail) only [t3, t4, t5, t6, k2, k3, r1, r2, g4, g5, g6, g7, g8, a1, o1, o2, ne_eq, not_true_eq_false, go_sem, seval]
      exact ih (i + 1) _ _ B xs _ _ _ _ _ _ _ _ _ _ _ (by omega) (by omega) (by omega) (by rw [← hxs, hstep]) hx ho hu
     ·have t6 : ((((l2.getD (i + 1) 0).toNat : Nat) : Int) = 10) = False := eq_false (fun e => h10 (by have := BQ (x := l2.getD (i + 1) 0) (n := 10) (by decide); exact this.mp e))
      rw [if_neg (fun k => h10 k.2)] at hstep
      rw [A4 hc]
      simp +contextual -implicitDefEqProofs (maxSteps := 10000000) (disch := first | (and_intros <;> omega -splitDisjunctions) | (push_cast; and_intros <;> omega -splitDisjunctions) | fail) only [t3, t4, t5, t6, k2, k3, r1, r2, g4, g5, g6, g7, g8, a1, o1, o2, ne_eq, not_true_eq_false, not_false_eq_true, go_sem, seval]
      exact ih (i + 1) _ _ W (xs ++ [10]) _ _ _ _ _ _ _ _ _ _ _ (by omega) (by omega) (by omega) (by rw [← hxs, hstep, List.append_assoc]; rfl) a3 a2 ⟨_, by rw [List.length_append]; rfl⟩
  exact key (n2 + 1) 0 0 (.sl H.length 0 1 0 0) (H ++ [.cells []]) [] _ _ _ _ _ _ _ _ _ _ _ (by omega) rfl (Nat.zero_le _) rfl Hx.app (.inr ⟨H.length, rfl, by rw [A7]; rfl, Nat.le_refl _⟩) ⟨_, rfl⟩
 have t2 : (3 ≤ (l.length : Int)) = True := eq_true (by omega)
 have hbb : bomP l ↔ ((((l.getD 0 0).toNat : Nat) : Int) = 239 ∧ (((l.getD 1 0).toNat : Nat) : Int) = 187) ∧ (((l.getD 2 0).toNat : Nat) : Int) = 191 := by
  have u0 := BQ (x := l.getD 0 0) (n := 239) (by decide)
  have u1 := BQ (x := l.getD 1 0) (n := 187) (by decide)
  have u2 := BQ (x := l.getD 2 0) (n := 191) (by decide)
  unfold bomP
  have v0 : (((l.getD 0 0).toNat : Nat) : Int) = 239 ↔ l.getD 0 0 = 239 := iff_of_eq u0
  have v1 : (((l.getD 1 0).toNat : Nat) : Int) = 187 ↔ l.getD 1 0 = 187 := iff_of_eq u1
  have v2 : (((l.getD 2 0).toNat : Nat) : Int) = 191 ↔ l.getD 2 0 = 191 := iff_of_eq u2
  rw [v0, v1, v2]
  exact ⟨fun k => ⟨⟨k.2.1, k.2.2.1⟩, k.2.2.2⟩, fun k => ⟨by omega, k.1.1, k.1.2, k.2⟩⟩
 have c4 := h.con (by omega)
 have d0 := h.idx (T := ty Tryz.prog) (t := 22) (by simp only [Av, AC, ty5, ty22]) .i64 0 (by omega) (by omega)
 have d1 := h.idx (T := ty Tryz.prog) (t := 22) (by simp only [Av, AC, ty5, ty22]) .i64 1 (by omega) (by omega)
 have d2 := h.idx (T := ty Tryz.prog) (t := 22) (by simp only [Av, AC, ty5, ty22]) .i64 2 (by omega) (by omega)
 have m0 := fun n K => h.load1 0 (fun x => .int .u8 x.toNat) (fun _ => rfl) 0 (by omega) n K
 have m1 := fun n K => h.load1 0 (fun x => .int .u8 x.toNat) (fun _ => rfl) 1 (by omega) n K
 have m2 := fun n K => h.load1 0 (fun x => .int .u8 x.toNat) (fun _ => rfl) 2 (by omega) n K
 have z0 : (0 : Int).toNat = 0 := rfl
 have z1 : (1 : Int).toNat = 1 := rfl
 have z2 : (2 : Int).toNat = 2 := rfl
 simp only [Nat.mul_one, z0, z1, z2, Nat.add_zero] at d0 d1 d2
 simp only [Nat.zero_mul, Nat.one_mul, Nat.mul_one, Nat.add_zero] at m0 m1 m2
 by_cases hbom : bomP l
 ·have hb0 : bomN l = 3 := if_pos hbom
  have hbc := hbb.mp hbom
  obtain ⟨l2, hl2⟩ : ∃ l2, l2 = l.drop 3 := ⟨_, rfl⟩
  obtain ⟨n2, hn2⟩ : ∃ n2, n2 = l2.length := ⟨_, rfl⟩
  obtain ⟨v2, hsl, hso, hA⟩ : ∃ v2, BN v (some (.int .i64 3)) none = some v2 ∧ Bh (ty Tryz.prog) 22 v = true ∧ At H byC 1 v2 l2 := by
   rw [hl2]
   rcases ho with ⟨k, _⟩ | ⟨bb, hv, hc, _⟩
   ·rw [k] at h3; simp at h3
   ·refine ⟨.sl bb (0 + 3 * 1) 1 (l.length - 3) (l.length - 3), ?_, ?_, ?_⟩
    ·rw [hv, Kn]
     simp only [hiV, Ja, grd]
     rw [if_pos (by omega)]
     simp only [cutL, grd]
     have : (3 : Int).toNat = 3 := rfl
     rw [this, if_pos (by omega)]
    ·rw [hv, HI]
     simp only [Av, AC, ty5, ty22]
     simp
    ·refine .inr ⟨bb, 0 + 3 * 1, _, rows byC l, by rw [List.length_drop], hc, ?_, ?_⟩
     ·rw [List.length_drop, Ak Ab]; omega
     ·rw [show 0 + 3 * 1 = 3 * 1 from rfl, JY Ab l 3]
      exact AQ Ab rfl
  have hT : nrT l = ⟨(nmL l2).toArray⟩ := by unfold nrT; rw [hb0, hl2]
  have hle : l2.length ≤ l.length := by rw [hl2, List.length_drop]; omega
  have i1 := hA.isTup; have i2 := hA.one; have i3 := hA.len; have i4 := hA.lenOk ty22
  rw [← hn2] at i3
  unfold run
  rw [z5]
  simp +contextual -implicitDefEqProofs (maxSteps := 10000000) (disch := first | (and_intros <;> omega -splitDisjunctions) | (push_cast; and_intros <;> omega -splitDisjunctions) | fail) only [p1, p2, f2, f3, t1, t2, c4, d0, d1, d2, m0, m1, m2, hsl, hso, i1, i2, i3, i4, hbc.1.1, hbc.1.2, hbc.2, go_sem, seval]
  refine Ae fun c R hc hR => ?_
  have key : ∀ (m : Nat) (i : Nat) (j : Int) (u : V) (B : LH) (xs : List UInt8) (x2 x3 x5 x6 x7 x10 x31 x38 x42 x49 x73 : Option V), n2 - i < m → j = i → i ≤ n2 → xs ++ nmL (l2.drop i) = nmL l2 → Hx H B → Own H.length B byC 1 u xs → (∃ b, u = .sl b 0 1 xs.length xs.length) →
   zEv (Ac (mkR Tryz.prog cfg ok [0, 2, 3, 4, 5, 6, 7, 10, 31, 35, 36, 37, 38, 42, 49, 73] H.length) .pure H [ResultVar.tmp 2, ResultVar.tmp 3]) (mkR Tryz.prog cfg ok [0, 2, 3, 4, 5, 6, 7, 10, 31, 35, 36, 37, 38, 42, 49, 73] H.length) (K.code (Code.loop c) :: K.blk 0 :: R) .nrm [some v2, x2, x3, some u, x5, x6, x7, x10, x31, some v2, some (.int .i64 n2), some (.int .i64 j), x38, x42, x49, x73] (B) = some (.tup [.str (if clnM (nrT l) = (nrT l).size then (nrT l, (0 : Int)) else (⟨#[]⟩, 2)).1, .int .i64 (if clnM (nrT l) = (nrT l).size then (nrT l, (0 : Int)) else (⟨#[]⟩, 2)).2], H) := by
   intro m
   induction m with
   | zero => intro i j u B xs x2 x3 x5 x6 x7 x10 x31 x38 x42 x49 x73 hm; omega
   | succ m ih =>
     intro i j u B xs x2 x3 x5 x6 x7 x10 x31 x38 x42 x49 x73 hm hj hi hxs hx ho hu
     subst hj
     have hxl := hx.len
     have o1 := (ho.at Ab).isTup; have o2 := (ho.at Ab).one
     have hlen : xs.length + (nmL (l2.drop i)).length = (nmL l2).length := by rw [← hxs, List.length_append]
     have hln := AH l2
     have r1 := hA.isTup; have r2 := hA.one; have k2 := hA.len; have k3 := hA.lenOk ty22
     rw [← hn2] at k2
     by_cases hlt : i < n2
     rotate_left
     ·have t3 : ((i : Int) < n2) = False := eq_false (by omega)
      rw [DO (by omega), List.append_nil] at hxs
      have hs : (⟨xs.toArray⟩ : ByteArray) = nrT l := by rw [hxs, ← hT]
      obtain ⟨b, rfl⟩ := hu
      obtain ⟨hcb, hbl⟩ : B.cellsAt b = some (rows byC xs) ∧ H.length ≤ b := by
       rcases ho with ⟨_, k | k⟩ | ⟨b', k, k1, k2⟩
       ·cases k
       ·cases k
       ·cases k; exact ⟨k1, k2⟩
      have g1 := Ak Ab xs
      rw [Nat.mul_one] at g1
      have g2 := AQ Ab (xs := xs) (n := xs.length) (by omega)
      have g4 := Am xs
      unfold run at e1
      by_cases k : clnM (nrT l) = (nrT l).size
      ·have t9 : ((clnM (nrT l) : Int) = (nrT l).size) = True := eq_true (by omega)
       rw [A4 hc, ← hR]
       simp +contextual -implicitDefEqProofs (maxSteps := 10000000) (disch := first | (and_intros <;> omega -splitDisjunctions) | (push_cast; and_intros <;> omega -splitDisjunctions) | fail) only [t3, t9, hcb, g1, g2, g4, hs, e1, ne_eq, not_true_eq_false, not_false_eq_true, go_sem, seval]
       rw [if_pos k]
      ·have t9 : ((clnM (nrT l) : Int) = (nrT l).size) = False := eq_false (by omega)
       rw [A4 hc, ← hR]
       simp +contextual -implicitDefEqProofs (maxSteps := 10000000) (disch := first | (and_intros <;> omega -splitDisjunctions) | (push_cast; and_intros <;> omega -splitDisjunctions) | fail) only [t3, t9, hcb, g1, g2, g4, hs, e1, ne_eq, not_true_eq_false, not_false_eq_true, go_sem, seval]
       rw [if_neg k]
     have hlt2 : i < l2.length := by omega
     have t3 : ((i : Int) < n2) = True := eq_true (by omega)
     have rA := hA.ext hx
     have g4 := rA.con (by omega)
     have g5 := hA.idx (T := ty Tryz.prog) (t := 22) (by simp only [Av, AC, ty5, ty22]) .i64 i (by omega) (by omega)
     have g6 := fun n K => rA.load1 0 (fun x => .int .u8 x.toNat) (fun _ => rfl) i hlt2 n K
     have hstep := CD hlt2
     simp only [Nat.mul_one, Int.toNat_natCast] at g5
     by_cases h13 : l2.getD i 0 = 13
     rotate_left
     ·have t4 : ((((l2.getD i 0).toNat : Nat) : Int) = 13) = False := eq_false (fun e => h13 (by have := BQ (x := l2.getD i 0) (n := 13) (by decide); exact this.mp e))
      rw [if_neg h13] at hstep
      generalize l2.getD i 0 = x at *
      obtain ⟨b2, W, a1, a2, a3, _⟩ := AO (fl := H.length) hx ho (Nat.le_refl _) (Nat.le_refl _) hxl [Blk.cells [V.int .u8 (x.toNat : Nat)]] x (by rw [hstep, List.length_cons] at hlen; omega)
      rw [A4 hc]
      simp +contextual -implicitDefEqProofs (maxSteps := 10000000) (disch := first | (and_intros <;> omega -splitDisjunctions) | (push_cast; and_intros <;> omega -splitDisjunctions) | fail) only [t3, t4, k2, k3, r1, r2, g4, g5, g6, a1, o1, o2, ne_eq, not_false_eq_true, go_sem, seval]
      exact ih (i + 1) _ _ W (xs ++ [x]) _ _ _ _ _ _ _ _ _ _ _ (by omega) (by omega) (by omega) (by rw [← hxs, hstep, List.append_assoc]; rfl) a3 a2 ⟨_, by rw [List.length_append]; rfl⟩
     have t4 : ((((l2.getD i 0).toNat : Nat) : Int) = 13) = True := eq_true (by rw [h13]; rfl)
     rw [if_pos h13] at hstep
     obtain ⟨b2, W, a1, a2, a3, _⟩ := AO (fl := H.length) hx ho (Nat.le_refl _) (Nat.le_refl _) hxl [Blk.cells [V.int .u8 10]] 10 (by
      by_cases hcl : i + 1 < l2.length ∧ l2.getD (i + 1) 0 = 10
      ·have := AH (l2.drop (i + 1)); rw [if_pos hcl] at hstep; rw [List.length_drop] at this; omega
      ·rw [if_neg hcl] at hstep; rw [hstep, List.length_cons] at hlen; omega)
     have e10 : V.int .u8 (((10 : UInt8).toNat : Nat) : Int) = V.int .u8 10 := rfl
     rw [e10] at a1
     by_cases hl1 : i + 1 < n2
     rotate_left
     ·have t5 : ((i : Int) + 1 = n2) = True := eq_true (by omega)
      rw [if_neg (fun k => hl1 (by omega))] at hstep
      rw [A4 hc]
      simp +contextual -implicitDefEqProofs (maxSteps := 10000000) (disch := first | (and_intros <;> omega -splitDisjunctions) | (push_cast; and_intros <;> omega -splitDisjunctions) | fail) only [t3, t4, t5, k2, k3, r1, r2, g4, g5, g6, a1, o1, o2, ne_eq, not_true_eq_false, go_sem, seval]
      exact ih (i + 1) _ _ W (xs ++ [10]) _ _ _ _ _ _ _ _ _ _ _ (by omega) (by omega) (by omega) (by rw [← hxs, hstep, List.append_assoc]; rfl) a3 a2 ⟨_, by rw [List.length_append]; rfl⟩
     have t5 : ((i : Int) + 1 = n2) = False := eq_false (by omega)
     have g7 := hA.idx (T := ty Tryz.prog) (t := 22) (by simp only [Av, AC, ty5, ty22]) .i64 ((i : Int) + 1) (by omega) (by omega)
     have g8 := fun n K => rA.load1 0 (fun x => .int .u8 x.toNat) (fun _ => rfl) (i + 1) (by omega) n K
     rw [show ((i : Int) + 1).toNat = i + 1 by omega] at g7
     simp only [Nat.mul_one] at g7
     by_cases h10 : l2.getD (i + 1) 0 = 10
     ·have t6 : ((((l2.getD (i + 1) 0).toNat : Nat) : Int) = 10) = True := eq_true (by rw [h10]; rfl)
      rw [if_pos ⟨by omega, h10⟩] at hstep
      rw [A4 hc]
      simp +contextual -implicitDefEqProofs (maxSteps := 10000000) (disch := first | (and_intros <;> omega -splitDisjunctions) | (push_cast; and_intros <;> omega -splitDisjunctions) | fail) only [t3, t4, t5, t6, k2, k3, r1, r2, g4, g5, g6, g7, g8, a1, o1, o2, ne_eq, not_true_eq_false, go_sem, seval]
      exact ih (i + 1) _ _ B xs _ _ _ _ _ _ _ _ _ _ _ (by omega) (by omega) (by omega) (by rw [← hxs, hstep]) hx ho hu
     ·have t6 : ((((l2.getD (i + 1) 0).toNat : Nat) : Int) = 10) = False := eq_false (fun e => h10 (by have := BQ (x := l2.getD (i + 1) 0) (n := 10) (by decide); exact this.mp e))
      rw [if_neg (fun k => h10 k.2)] at hstep
      rw [A4 hc]
      simp +contextual -implicitDefEqProofs (maxSteps := 10000000) (disch := first | (and_intros <;> omega -splitDisjunctions) | (push_cast; and_intros <;> omega -splitDisjunctions) | fail) only [t3, t4, t5, t6, k2, k3, r1, r2, g4, g5, g6, g7, g8, a1, o1, o2, ne_eq, not_true_eq_false, not_false_eq_true, go_sem, seval]
      exact ih (i + 1) _ _ W (xs ++ [10]) _ _ _ _ _ _ _ _ _ _ _ (by omega) (by omega) (by omega) (by rw [← hxs, hstep, List.append_assoc]; rfl) a3 a2 ⟨_, by rw [List.length_append]; rfl⟩
  exact key (n2 + 1) 0 0 (.sl H.length 0 1 0 0) (H ++ [.cells []]) [] _ _ _ _ _ _ _ _ _ _ _ (by omega) rfl (Nat.zero_le _) rfl Hx.app (.inr ⟨H.length, rfl, by rw [A7]; rfl, Nat.le_refl _⟩) ⟨_, rfl⟩
 ·have hb0 : bomN l = 0 := if_neg hbom
  obtain ⟨v2, hv2⟩ : ∃ v2, v2 = v := ⟨_, rfl⟩
  obtain ⟨l2, hl2⟩ : ∃ l2, l2 = l := ⟨_, rfl⟩
  obtain ⟨n2, hn2⟩ : ∃ n2, n2 = l2.length := ⟨_, rfl⟩
  have hA : At H byC 1 v2 l2 := by rw [hv2, hl2]; exact h
  have hT : nrT l = ⟨(nmL l2).toArray⟩ := by unfold nrT; rw [hb0, hl2]; rfl
  have hle : l2.length ≤ l.length := by rw [hl2]; exact Nat.le_refl _
  have hno : ((((((l.getD 0 0).toNat : Nat) : Int) = 239 ∧ (((l.getD 1 0).toNat : Nat) : Int) = 187) ∧ (((l.getD 2 0).toNat : Nat) : Int) = 191)) = False := eq_false (fun k => hbom (hbb.mpr k))
  by_cases j0 : (((l.getD 0 0).toNat : Nat) : Int) = 239
  ·by_cases j1 : (((l.getD 1 0).toNat : Nat) : Int) = 187
   ·have j2 : ((((l.getD 2 0).toNat : Nat) : Int) = 191) = False := eq_false (fun k => hbom (hbb.mpr ⟨⟨j0, j1⟩, k⟩))
    unfold run
    rw [z5]
    simp +contextual -implicitDefEqProofs (maxSteps := 10000000) (disch := first | (and_intros <;> omega -splitDisjunctions) | (push_cast; and_intros <;> omega -splitDisjunctions) | fail) only [p1, p2, f2, f3, t1, t2, c4, d0, d1, d2, m0, m1, m2, j0, j1, j2, go_sem, seval]
    rw [← hv2, show l.length = n2 by rw [hn2, hl2]]
    refine Ae fun c R hc hR => ?_
    have key : ∀ (m : Nat) (i : Nat) (j : Int) (u : V) (B : LH) (xs : List UInt8) (x2 x3 x5 x6 x7 x10 x31 x38 x42 x49 x73 : Option V), n2 - i < m → j = i → i ≤ n2 → xs ++ nmL (l2.drop i) = nmL l2 → Hx H B → Own H.length B byC 1 u xs → (∃ b, u = .sl b 0 1 xs.length xs.length) →
     zEv (Ac (mkR Tryz.prog cfg ok [0, 2, 3, 4, 5, 6, 7, 10, 31, 35, 36, 37, 38, 42, 49, 73] H.length) .pure H [ResultVar.tmp 2, ResultVar.tmp 3]) (mkR Tryz.prog cfg ok [0, 2, 3, 4, 5, 6, 7, 10, 31, 35, 36, 37, 38, 42, 49, 73] H.length) (K.code (Code.loop c) :: K.blk 0 :: R) .nrm [some v2, x2, x3, some u, x5, x6, x7, x10, x31, some v2, some (.int .i64 n2), some (.int .i64 j), x38, x42, x49, x73] (B) = some (.tup [.str (if clnM (nrT l) = (nrT l).size then (nrT l, (0 : Int)) else (⟨#[]⟩, 2)).1, .int .i64 (if clnM (nrT l) = (nrT l).size then (nrT l, (0 : Int)) else (⟨#[]⟩, 2)).2], H) := by
     intro m
     induction m with
     | zero => intro i j u B xs x2 x3 x5 x6 x7 x10 x31 x38 x42 x49 x73 hm; omega
     | succ m ih =>
       intro i j u B xs x2 x3 x5 x6 x7 x10 x31 x38 x42 x49 x73 hm hj hi hxs hx ho hu
       subst hj
       have hxl := hx.len
       have o1 := (ho.at Ab).isTup; have o2 := (ho.at Ab).one
       have hlen : xs.length + (nmL (l2.drop i)).length = (nmL l2).length := by rw [← hxs, List.length_append]
       have hln := AH l2
       have r1 := hA.isTup; have r2 := hA.one; have k2 := hA.len; have k3 := hA.lenOk ty22
       rw [← hn2] at k2
       by_cases hlt : i < n2
       rotate_left
       ·have t3 : ((i : Int) < n2) = False := eq_false (by omega)
        rw [DO (by omega), List.append_nil] at hxs
        have hs : (⟨xs.toArray⟩ : ByteArray) = nrT l := by rw [hxs, ← hT]
        obtain ⟨b, rfl⟩ := hu
        obtain ⟨hcb, hbl⟩ : B.cellsAt b = some (rows byC xs) ∧ H.length ≤ b := by
         rcases ho with ⟨_, k | k⟩ | ⟨b', k, k1, k2⟩
         ·cases k
         ·cases k
         ·cases k; exact ⟨k1, k2⟩
        have g1 := Ak Ab xs
        rw [Nat.mul_one] at g1
        have g2 := AQ Ab (xs := xs) (n := xs.length) (by omega)
        have g4 := Am xs
        unfold run at e1
        by_cases k : clnM (nrT l) = (nrT l).size
        ·have t9 : ((clnM (nrT l) : Int) = (nrT l).size) = True := eq_true (by omega)
         rw [A4 hc, ← hR]
         simp +contextual -implicitDefEqProofs (maxSteps := 10000000) (disch := first | (and_intros <;> omega -splitDisjunctions) | (push_cast; and_intros <;> omega -splitDisjunctions) | fail) only [t3, t9, hcb, g1, g2, g4, hs, e1, ne_eq, not_true_eq_false, not_false_eq_true, go_sem, seval]
         rw [if_pos k]
        ·have t9 : ((clnM (nrT l) : Int) = (nrT l).size) = False := eq_false (by omega)
         rw [A4 hc, ← hR]
         simp +contextual -implicitDefEqProofs (maxSteps := 10000000) (disch := first | (and_intros <;> omega -splitDisjunctions) | (push_cast; and_intros <;> omega -splitDisjunctions) | fail) only [t3, t9, hcb, g1, g2, g4, hs, e1, ne_eq, not_true_eq_false, not_false_eq_true, go_sem, seval]
         rw [if_neg k]
       have hlt2 : i < l2.length := by omega
       have t3 : ((i : Int) < n2) = True := eq_true (by omega)
       have rA := hA.ext hx
       have g4 := rA.con (by omega)
       have g5 := hA.idx (T := ty Tryz.prog) (t := 22) (by simp only [Av, AC, ty5, ty22]) .i64 i (by omega) (by omega)
       have g6 := fun n K => rA.load1 0 (fun x => .int .u8 x.toNat) (fun _ => rfl) i hlt2 n K
       have hstep := CD hlt2
       simp only [Nat.mul_one, Int.toNat_natCast] at g5
       by_cases h13 : l2.getD i 0 = 13
       rotate_left
       ·have t4 : ((((l2.getD i 0).toNat : Nat) : Int) = 13) = False := eq_false (fun e => h13 (by have := BQ (x := l2.getD i 0) (n := 13) (by decide); exact this.mp e))
        rw [if_neg h13] at hstep
        generalize l2.getD i 0 = x at *
        obtain ⟨b2, W, a1, a2, a3, _⟩ := AO (fl := H.length) hx ho (Nat.le_refl _) (Nat.le_refl _) hxl [Blk.cells [V.int .u8 (x.toNat : Nat)]] x (by rw [hstep, List.length_cons] at hlen; omega)
        rw [A4 hc]
        simp +contextual -implicitDefEqProofs (maxSteps := 10000000) (disch := first | (and_intros <;> omega -splitDisjunctions) | (push_cast; and_intros <;> omega -splitDisjunctions) | fail) only [t3, t4, k2, k3, r1, r2, g4, g5, g6, a1, o1, o2, ne_eq, not_false_eq_true, go_sem, seval]
        exact ih (i + 1) _ _ W (xs ++ [x]) _ _ _ _ _ _ _ _ _ _ _ (by omega) (by omega) (by omega) (by rw [← hxs, hstep, List.append_assoc]; rfl) a3 a2 ⟨_, by rw [List.length_append]; rfl⟩
       have t4 : ((((l2.getD i 0).toNat : Nat) : Int) = 13) = True := eq_true (by rw [h13]; rfl)
       rw [if_pos h13] at hstep
       obtain ⟨b2, W, a1, a2, a3, _⟩ := AO (fl := H.length) hx ho (Nat.le_refl _) (Nat.le_refl _) hxl [Blk.cells [V.int .u8 10]] 10 (by
        by_cases hcl : i + 1 < l2.length ∧ l2.getD (i + 1) 0 = 10
        ·have := AH (l2.drop (i + 1)); rw [if_pos hcl] at hstep; rw [List.length_drop] at this; omega
        ·rw [if_neg hcl] at hstep; rw [hstep, List.length_cons] at hlen; omega)
       have e10 : V.int .u8 (((10 : UInt8).toNat : Nat) : Int) = V.int .u8 10 := rfl
       rw [e10] at a1
       by_cases hl1 : i + 1 < n2
       rotate_left
       ·have t5 : ((i : Int) + 1 = n2) = True := eq_true (by omega)
        rw [if_neg (fun k => hl1 (by omega))] at hstep
        rw [A4 hc]
        simp +contextual -implicitDefEqProofs (maxSteps := 10000000) (disch := first | (and_intros <;> omega -splitDisjunctions) | (push_cast; and_intros <;> omega -splitDisjunctions) | fail) only [t3, t4, t5, k2, k3, r1, r2, g4, g5, g6, a1, o1, o2, ne_eq, not_true_eq_false, go_sem, seval]
        exact ih (i + 1) _ _ W (xs ++ [10]) _ _ _ _ _ _ _ _ _ _ _ (by omega) (by omega) (by omega) (by rw [← hxs, hstep, List.append_assoc]; rfl) a3 a2 ⟨_, by rw [List.length_append]; rfl⟩
       have t5 : ((i : Int) + 1 = n2) = False := eq_false (by omega)
       have g7 := hA.idx (T := ty Tryz.prog) (t := 22) (by simp only [Av, AC, ty5, ty22]) .i64 ((i : Int) + 1) (by omega) (by omega)
       have g8 := fun n K => rA.load1 0 (fun x => .int .u8 x.toNat) (fun _ => rfl) (i + 1) (by omega) n K
       rw [show ((i : Int) + 1).toNat = i + 1 by omega] at g7
       simp only [Nat.mul_one] at g7
       by_cases h10 : l2.getD (i + 1) 0 = 10
       ·have t6 : ((((l2.getD (i + 1) 0).toNat : Nat) : Int) = 10) = True := eq_true (by rw [h10]; rfl)
        rw [if_pos ⟨by omega, h10⟩] at hstep
        rw [A4 hc]
        simp +contextual -implicitDefEqProofs (maxSteps := 10000000) (disch := first | (and_intros <;> omega -splitDisjunctions) | (push_cast; and_intros <;> omega -splitDisjunctions) | fail) only [t3, t4, t5, t6, k2, k3, r1, r2, g4, g5, g6, g7, g8, a1, o1, o2, ne_eq, not_true_eq_false, go_sem, seval]
        exact ih (i + 1) _ _ B xs _ _ _ _ _ _ _ _ _ _ _ (by omega) (by omega) (by omega) (by rw [← hxs, hstep]) hx ho hu
       ·have t6 : ((((l2.getD (i + 1) 0).toNat : Nat) : Int) = 10) = False := eq_false (fun e => h10 (by have := BQ (x := l2.getD (i + 1) 0) (n := 10) (by decide); exact this.mp e))
        rw [if_neg (fun k => h10 k.2)] at hstep
        rw [A4 hc]
        simp +contextual -implicitDefEqProofs (maxSteps := 10000000) (disch := first | (and_intros <;> omega -splitDisjunctions) | (push_cast; and_intros <;> omega -splitDisjunctions) | fail) only [t3, t4, t5, t6, k2, k3, r1, r2, g4, g5, g6, g7, g8, a1, o1, o2, ne_eq, not_true_eq_false, not_false_eq_true, go_sem, seval]
        exact ih (i + 1) _ _ W (xs ++ [10]) _ _ _ _ _ _ _ _ _ _ _ (by omega) (by omega) (by omega) (by rw [← hxs, hstep, List.append_assoc]; rfl) a3 a2 ⟨_, by rw [List.length_append]; rfl⟩
    exact key (n2 + 1) 0 0 (.sl H.length 0 1 0 0) (H ++ [.cells []]) [] _ _ _ _ _ _ _ _ _ _ _ (by omega) rfl (Nat.zero_le _) rfl Hx.app (.inr ⟨H.length, rfl, by rw [A7]; rfl, Nat.le_refl _⟩) ⟨_, rfl⟩
   ·have j1 : ((((l.getD 1 0).toNat : Nat) : Int) = 187) = False := eq_false j1
    unfold run
    rw [z5]
    simp +contextual -implicitDefEqProofs (maxSteps := 10000000) (disch := first | (and_intros <;> omega -splitDisjunctions) | (push_cast; and_intros <;> omega -splitDisjunctions) | fail) only [p1, p2, f2, f3, t1, t2, c4, d0, d1, d2, m0, m1, m2, j0, j1, go_sem, seval]
    rw [← hv2, show l.length = n2 by rw [hn2, hl2]]
    refine Ae fun c R hc hR => ?_
    have key : ∀ (m : Nat) (i : Nat) (j : Int) (u : V) (B : LH) (xs : List UInt8) (x2 x3 x5 x6 x7 x10 x31 x38 x42 x49 x73 : Option V), n2 - i < m → j = i → i ≤ n2 → xs ++ nmL (l2.drop i) = nmL l2 → Hx H B → Own H.length B byC 1 u xs → (∃ b, u = .sl b 0 1 xs.length xs.length) →
     zEv (Ac (mkR Tryz.prog cfg ok [0, 2, 3, 4, 5, 6, 7, 10, 31, 35, 36, 37, 38, 42, 49, 73] H.length) .pure H [ResultVar.tmp 2, ResultVar.tmp 3]) (mkR Tryz.prog cfg ok [0, 2, 3, 4, 5, 6, 7, 10, 31, 35, 36, 37, 38, 42, 49, 73] H.length) (K.code (Code.loop c) :: K.blk 0 :: R) .nrm [some v2, x2, x3, some u, x5, x6, x7, x10, x31, some v2, some (.int .i64 n2), some (.int .i64 j), x38, x42, x49, x73] (B) = some (.tup [.str (if clnM (nrT l) = (nrT l).size then (nrT l, (0 : Int)) else (⟨#[]⟩, 2)).1, .int .i64 (if clnM (nrT l) = (nrT l).size then (nrT l, (0 : Int)) else (⟨#[]⟩, 2)).2], H) := by
     intro m
     induction m with
     | zero => intro i j u B xs x2 x3 x5 x6 x7 x10 x31 x38 x42 x49 x73 hm; omega
     | succ m ih =>
       intro i j u B xs x2 x3 x5 x6 x7 x10 x31 x38 x42 x49 x73 hm hj hi hxs hx ho hu
       subst hj
       have hxl := hx.len
       have o1 := (ho.at Ab).isTup; have o2 := (ho.at Ab).one
       have hlen : xs.length + (nmL (l2.drop i)).length = (nmL l2).length := by rw [← hxs, List.length_append]
       have hln := AH l2
       have r1 := hA.isTup; have r2 := hA.one; have k2 := hA.len; have k3 := hA.lenOk ty22
       rw [← hn2] at k2
       by_cases hlt : i < n2
       rotate_left
       ·have t3 : ((i : Int) < n2) = False := eq_false (by omega)
        rw [DO (by omega), List.append_nil] at hxs
        have hs : (⟨xs.toArray⟩ : ByteArray) = nrT l := by rw [hxs, ← hT]
        obtain ⟨b, rfl⟩ := hu
        obtain ⟨hcb, hbl⟩ : B.cellsAt b = some (rows byC xs) ∧ H.length ≤ b := by
         rcases ho with ⟨_, k | k⟩ | ⟨b', k, k1, k2⟩
         ·cases k
         ·cases k
         ·cases k; exact ⟨k1, k2⟩
        have g1 := Ak Ab xs
        rw [Nat.mul_one] at g1
        have g2 := AQ Ab (xs := xs) (n := xs.length) (by omega)
        have g4 := Am xs
        unfold run at e1
        by_cases k : clnM (nrT l) = (nrT l).size
        ·have t9 : ((clnM (nrT l) : Int) = (nrT l).size) = True := eq_true (by omega)
         rw [A4 hc, ← hR]
         simp +contextual -implicitDefEqProofs (maxSteps := 10000000) (disch := first | (and_intros <;> omega -splitDisjunctions) | (push_cast; and_intros <;> omega -splitDisjunctions) | fail) only [t3, t9, hcb, g1, g2, g4, hs, e1, ne_eq, not_true_eq_false, not_false_eq_true, go_sem, seval]
         rw [if_pos k]
        ·have t9 : ((clnM (nrT l) : Int) = (nrT l).size) = False := eq_false (by omega)
         rw [A4 hc, ← hR]
         simp +contextual -implicitDefEqProofs (maxSteps := 10000000) (disch := first | (and_intros <;> omega -splitDisjunctions) | (push_cast; and_intros <;> omega -splitDisjunctions) | fail) only [t3, t9, hcb, g1, g2, g4, hs, e1, ne_eq, not_true_eq_false, not_false_eq_true, go_sem, seval]
         rw [if_neg k]
       have hlt2 : i < l2.length := by omega
       have t3 : ((i : Int) < n2) = True := eq_true (by omega)
       have rA := hA.ext hx
       have g4 := rA.con (by omega)
       have g5 := hA.idx (T := ty Tryz.prog) (t := 22) (by simp only [Av, AC, ty5, ty22]) .i64 i (by omega) (by omega)
       have g6 := fun n K => rA.load1 0 (fun x => .int .u8 x.toNat) (fun _ => rfl) i hlt2 n K
       have hstep := CD hlt2
       simp only [Nat.mul_one, Int.toNat_natCast] at g5
       by_cases h13 : l2.getD i 0 = 13
       rotate_left
       ·have t4 : ((((l2.getD i 0).toNat : Nat) : Int) = 13) = False := eq_false (fun e => h13 (by have := BQ (x := l2.getD i 0) (n := 13) (by decide); exact this.mp e))
        rw [if_neg h13] at hstep
        generalize l2.getD i 0 = x at *
        obtain ⟨b2, W, a1, a2, a3, _⟩ := AO (fl := H.length) hx ho (Nat.le_refl _) (Nat.le_refl _) hxl [Blk.cells [V.int .u8 (x.toNat : Nat)]] x (by rw [hstep, List.length_cons] at hlen; omega)
        rw [A4 hc]
        simp +contextual -implicitDefEqProofs (maxSteps := 10000000) (disch := first | (and_intros <;> omega -splitDisjunctions) | (push_cast; and_intros <;> omega -splitDisjunctions) | fail) only [t3, t4, k2, k3, r1, r2, g4, g5, g6, a1, o1, o2, ne_eq, not_false_eq_true, go_sem, seval]
        exact ih (i + 1) _ _ W (xs ++ [x]) _ _ _ _ _ _ _ _ _ _ _ (by omega) (by omega) (by omega) (by rw [← hxs, hstep, List.append_assoc]; rfl) a3 a2 ⟨_, by rw [List.length_append]; rfl⟩
       have t4 : ((((l2.getD i 0).toNat : Nat) : Int) = 13) = True := eq_true (by rw [h13]; rfl)
       rw [if_pos h13] at hstep
       obtain ⟨b2, W, a1, a2, a3, _⟩ := AO (fl := H.length) hx ho (Nat.le_refl _) (Nat.le_refl _) hxl [Blk.cells [V.int .u8 10]] 10 (by
        by_cases hcl : i + 1 < l2.length ∧ l2.getD (i + 1) 0 = 10
        ·have := AH (l2.drop (i + 1)); rw [if_pos hcl] at hstep; rw [List.length_drop] at this; omega
        ·rw [if_neg hcl] at hstep; rw [hstep, List.length_cons] at hlen; omega)
       have e10 : V.int .u8 (((10 : UInt8).toNat : Nat) : Int) = V.int .u8 10 := rfl
       rw [e10] at a1
       by_cases hl1 : i + 1 < n2
       rotate_left
       ·have t5 : ((i : Int) + 1 = n2) = True := eq_true (by omega)
        rw [if_neg (fun k => hl1 (by omega))] at hstep
        rw [A4 hc]
        simp +contextual -implicitDefEqProofs (maxSteps := 10000000) (disch := first | (and_intros <;> omega -splitDisjunctions) | (push_cast; and_intros <;> omega -splitDisjunctions) | fail) only [t3, t4, t5, k2, k3, r1, r2, g4, g5, g6, a1, o1, o2, ne_eq, not_true_eq_false, go_sem, seval]
        exact ih (i + 1) _ _ W (xs ++ [10]) _ _ _ _ _ _ _ _ _ _ _ (by omega) (by omega) (by omega) (by rw [← hxs, hstep, List.append_assoc]; rfl) a3 a2 ⟨_, by rw [List.length_append]; rfl⟩
       have t5 : ((i : Int) + 1 = n2) = False := eq_false (by omega)
       have g7 := hA.idx (T := ty Tryz.prog) (t := 22) (by simp only [Av, AC, ty5, ty22]) .i64 ((i : Int) + 1) (by omega) (by omega)
       have g8 := fun n K => rA.load1 0 (fun x => .int .u8 x.toNat) (fun _ => rfl) (i + 1) (by omega) n K
       rw [show ((i : Int) + 1).toNat = i + 1 by omega] at g7
       simp only [Nat.mul_one] at g7
       by_cases h10 : l2.getD (i + 1) 0 = 10
       ·have t6 : ((((l2.getD (i + 1) 0).toNat : Nat) : Int) = 10) = True := eq_true (by rw [h10]; rfl)
        rw [if_pos ⟨by omega, h10⟩] at hstep
        rw [A4 hc]
        simp +contextual -implicitDefEqProofs (maxSteps := 10000000) (disch := first | (and_intros <;> omega -splitDisjunctions) | (push_cast; and_intros <;> omega -splitDisjunctions) | fail) only [t3, t4, t5, t6, k2, k3, r1, r2, g4, g5, g6, g7, g8, a1, o1, o2, ne_eq, not_true_eq_false, go_sem, seval]
        exact ih (i + 1) _ _ B xs _ _ _ _ _ _ _ _ _ _ _ (by omega) (by omega) (by omega) (by rw [← hxs, hstep]) hx ho hu
       ·have t6 : ((((l2.getD (i + 1) 0).toNat : Nat) : Int) = 10) = False := eq_false (fun e => h10 (by have := BQ (x := l2.getD (i + 1) 0) (n := 10) (by decide); exact this.mp e))
        rw [if_neg (fun k => h10 k.2)] at hstep
        rw [A4 hc]
        simp +contextual -implicitDefEqProofs (maxSteps := 10000000) (disch := first | (and_intros <;> omega -splitDisjunctions) | (push_cast; and_intros <;> omega -splitDisjunctions) | fail) only [t3, t4, t5, t6, k2, k3, r1, r2, g4, g5, g6, g7, g8, a1, o1, o2, ne_eq, not_true_eq_false, not_false_eq_true, go_sem, seval]
        exact ih (i + 1) _ _ W (xs ++ [10]) _ _ _ _ _ _ _ _ _ _ _ (by omega) (by omega) (by omega) (by rw [← hxs, hstep, List.append_assoc]; rfl) a3 a2 ⟨_, by rw [List.length_append]; rfl⟩
    exact key (n2 + 1) 0 0 (.sl H.length 0 1 0 0) (H ++ [.cells []]) [] _ _ _ _ _ _ _ _ _ _ _ (by omega) rfl (Nat.zero_le _) rfl Hx.app (.inr ⟨H.length, rfl, by rw [A7]; rfl, Nat.le_refl _⟩) ⟨_, rfl⟩
  ·have j0 : ((((l.getD 0 0).toNat : Nat) : Int) = 239) = False := eq_false j0
   unfold run
   rw [z5]
   simp +contextual -implicitDefEqProofs (maxSteps := 10000000) (disch := first | (and_intros <;> omega -splitDisjunctions) | (push_cast; and_intros <;> omega -splitDisjunctions) | fail) only [p1, p2, f2, f3, t1, t2, c4, d0, d1, d2, m0, m1, m2, j0, go_sem, seval]
   rw [← hv2, show l.length = n2 by rw [hn2, hl2]]
   refine Ae fun c R hc hR => ?_
   have key : ∀ (m : Nat) (i : Nat) (j : Int) (u : V) (B : LH) (xs : List UInt8) (x2 x3 x5 x6 x7 x10 x31 x38 x42 x49 x73 : Option V), n2 - i < m → j = i → i ≤ n2 → xs ++ nmL (l2.drop i) = nmL l2 → Hx H B → Own H.length B byC 1 u xs → (∃ b, u = .sl b 0 1 xs.length xs.length) →
    zEv (Ac (mkR Tryz.prog cfg ok [0, 2, 3, 4, 5, 6, 7, 10, 31, 35, 36, 37, 38, 42, 49, 73] H.length) .pure H [ResultVar.tmp 2, ResultVar.tmp 3]) (mkR Tryz.prog cfg ok [0, 2, 3, 4, 5, 6, 7, 10, 31, 35, 36, 37, 38, 42, 49, 73] H.length) (K.code (Code.loop c) :: K.blk 0 :: R) .nrm [some v2, x2, x3, some u, x5, x6, x7, x10, x31, some v2, some (.int .i64 n2), some (.int .i64 j), x38, x42, x49, x73] (B) = some (.tup [.str (if clnM (nrT l) = (nrT l).size then (nrT l, (0 : Int)) else (⟨#[]⟩, 2)).1, .int .i64 (if clnM (nrT l) = (nrT l).size then (nrT l, (0 : Int)) else (⟨#[]⟩, 2)).2], H) := by
    intro m
    induction m with
    | zero => intro i j u B xs x2 x3 x5 x6 x7 x10 x31 x38 x42 x49 x73 hm; omega
    | succ m ih =>
      intro i j u B xs x2 x3 x5 x6 x7 x10 x31 x38 x42 x49 x73 hm hj hi hxs hx ho hu
      subst hj
      have hxl := hx.len
      have o1 := (ho.at Ab).isTup; have o2 := (ho.at Ab).one
      have hlen : xs.length + (nmL (l2.drop i)).length = (nmL l2).length := by rw [← hxs, List.length_append]
      have hln := AH l2
      have r1 := hA.isTup; have r2 := hA.one; have k2 := hA.len; have k3 := hA.lenOk ty22
      rw [← hn2] at k2
      by_cases hlt : i < n2
      rotate_left
      ·have t3 : ((i : Int) < n2) = False := eq_false (by omega)
       rw [DO (by omega), List.append_nil] at hxs
       have hs : (⟨xs.toArray⟩ : ByteArray) = nrT l := by rw [hxs, ← hT]
       obtain ⟨b, rfl⟩ := hu
       obtain ⟨hcb, hbl⟩ : B.cellsAt b = some (rows byC xs) ∧ H.length ≤ b := by
        rcases ho with ⟨_, k | k⟩ | ⟨b', k, k1, k2⟩
        ·cases k
        ·cases k
        ·cases k; exact ⟨k1, k2⟩
       have g1 := Ak Ab xs
       rw [Nat.mul_one] at g1
       have g2 := AQ Ab (xs := xs) (n := xs.length) (by omega)
       have g4 := Am xs
       unfold run at e1
       by_cases k : clnM (nrT l) = (nrT l).size
       ·have t9 : ((clnM (nrT l) : Int) = (nrT l).size) = True := eq_true (by omega)
        rw [A4 hc, ← hR]
        simp +contextual -implicitDefEqProofs (maxSteps := 10000000) (disch := first | (and_intros <;> omega -splitDisjunctions) | (push_cast; and_intros <;> omega -splitDisjunctions) | fail) only [t3, t9, hcb, g1, g2, g4, hs, e1, ne_eq, not_true_eq_false, not_false_eq_true, go_sem, seval]
        rw [if_pos k]
       ·have t9 : ((clnM (nrT l) : Int) = (nrT l).size) = False := eq_false (by omega)
        rw [A4 hc, ← hR]
        simp +contextual -implicitDefEqProofs (maxSteps := 10000000) (disch := first | (and_intros <;> omega -splitDisjunctions) | (push_cast; and_intros <;> omega -splitDisjunctions) | fail) only [t3, t9, hcb, g1, g2, g4, hs, e1, ne_eq, not_true_eq_false, not_false_eq_true, go_sem, seval]
        rw [if_neg k]
      have hlt2 : i < l2.length := by omega
      have t3 : ((i : Int) < n2) = True := eq_true (by omega)
      have rA := hA.ext hx
      have g4 := rA.con (by omega)
      have g5 := hA.idx (T := ty Tryz.prog) (t := 22) (by simp only [Av, AC, ty5, ty22]) .i64 i (by omega) (by omega)
      have g6 := fun n K => rA.load1 0 (fun x => .int .u8 x.toNat) (fun _ => rfl) i hlt2 n K
      have hstep := CD hlt2
      simp only [Nat.mul_one, Int.toNat_natCast] at g5
      by_cases h13 : l2.getD i 0 = 13
      rotate_left
      ·have t4 : ((((l2.getD i 0).toNat : Nat) : Int) = 13) = False := eq_false (fun e => h13 (by have := BQ (x := l2.getD i 0) (n := 13) (by decide); exact this.mp e))
       rw [if_neg h13] at hstep
       generalize l2.getD i 0 = x at *
       obtain ⟨b2, W, a1, a2, a3, _⟩ := AO (fl := H.length) hx ho (Nat.le_refl _) (Nat.le_refl _) hxl [Blk.cells [V.int .u8 (x.toNat : Nat)]] x (by rw [hstep, List.length_cons] at hlen; omega)
       rw [A4 hc]
       simp +contextual -implicitDefEqProofs (maxSteps := 10000000) (disch := first | (and_intros <;> omega -splitDisjunctions) | (push_cast; and_intros <;> omega -splitDisjunctions) | fail) only [t3, t4, k2, k3, r1, r2, g4, g5, g6, a1, o1, o2, ne_eq, not_false_eq_true, go_sem, seval]
       exact ih (i + 1) _ _ W (xs ++ [x]) _ _ _ _ _ _ _ _ _ _ _ (by omega) (by omega) (by omega) (by rw [← hxs, hstep, List.append_assoc]; rfl) a3 a2 ⟨_, by rw [List.length_append]; rfl⟩
      have t4 : ((((l2.getD i 0).toNat : Nat) : Int) = 13) = True := eq_true (by rw [h13]; rfl)
      rw [if_pos h13] at hstep
      obtain ⟨b2, W, a1, a2, a3, _⟩ := AO (fl := H.length) hx ho (Nat.le_refl _) (Nat.le_refl _) hxl [Blk.cells [V.int .u8 10]] 10 (by
       by_cases hcl : i + 1 < l2.length ∧ l2.getD (i + 1) 0 = 10
       ·have := AH (l2.drop (i + 1)); rw [if_pos hcl] at hstep; rw [List.length_drop] at this; omega
       ·rw [if_neg hcl] at hstep; rw [hstep, List.length_cons] at hlen; omega)
      have e10 : V.int .u8 (((10 : UInt8).toNat : Nat) : Int) = V.int .u8 10 := rfl
      rw [e10] at a1
      by_cases hl1 : i + 1 < n2
      rotate_left
      ·have t5 : ((i : Int) + 1 = n2) = True := eq_true (by omega)
       rw [if_neg (fun k => hl1 (by omega))] at hstep
       rw [A4 hc]
       simp +contextual -implicitDefEqProofs (maxSteps := 10000000) (disch := first | (and_intros <;> omega -splitDisjunctions) | (push_cast; and_intros <;> omega -splitDisjunctions) | fail) only [t3, t4, t5, k2, k3, r1, r2, g4, g5, g6, a1, o1, o2, ne_eq, not_true_eq_false, go_sem, seval]
       exact ih (i + 1) _ _ W (xs ++ [10]) _ _ _ _ _ _ _ _ _ _ _ (by omega) (by omega) (by omega) (by rw [← hxs, hstep, List.append_assoc]; rfl) a3 a2 ⟨_, by rw [List.length_append]; rfl⟩
      have t5 : ((i : Int) + 1 = n2) = False := eq_false (by omega)
      have g7 := hA.idx (T := ty Tryz.prog) (t := 22) (by simp only [Av, AC, ty5, ty22]) .i64 ((i : Int) + 1) (by omega) (by omega)
      have g8 := fun n K => rA.load1 0 (fun x => .int .u8 x.toNat) (fun _ => rfl) (i + 1) (by omega) n K
      rw [show ((i : Int) + 1).toNat = i + 1 by omega] at g7
      simp only [Nat.mul_one] at g7
      by_cases h10 : l2.getD (i + 1) 0 = 10
      ·have t6 : ((((l2.getD (i + 1) 0).toNat : Nat) : Int) = 10) = True := eq_true (by rw [h10]; rfl)
       rw [if_pos ⟨by omega, h10⟩] at hstep
       rw [A4 hc]
       simp +contextual -implicitDefEqProofs (maxSteps := 10000000) (disch := first | (and_intros <;> omega -splitDisjunctions) | (push_cast; and_intros <;> omega -splitDisjunctions) | fail) only [t3, t4, t5, t6, k2, k3, r1, r2, g4, g5, g6, g7, g8, a1, o1, o2, ne_eq, not_true_eq_false, go_sem, seval]
       exact ih (i + 1) _ _ B xs _ _ _ _ _ _ _ _ _ _ _ (by omega) (by omega) (by omega) (by rw [← hxs, hstep]) hx ho hu
      ·have t6 : ((((l2.getD (i + 1) 0).toNat : Nat) : Int) = 10) = False := eq_false (fun e => h10 (by have := BQ (x := l2.getD (i + 1) 0) (n := 10) (by decide); exact this.mp e))
       rw [if_neg (fun k => h10 k.2)] at hstep
       rw [A4 hc]
       simp +contextual -implicitDefEqProofs (maxSteps := 10000000) (disch := first | (and_intros <;> omega -splitDisjunctions) | (push_cast; and_intros <;> omega -splitDisjunctions) | fail) only [t3, t4, t5, t6, k2, k3, r1, r2, g4, g5, g6, g7, g8, a1, o1, o2, ne_eq, not_true_eq_false, not_false_eq_true, go_sem, seval]
       exact ih (i + 1) _ _ W (xs ++ [10]) _ _ _ _ _ _ _ _ _ _ _ (by omega) (by omega) (by omega) (by rw [← hxs, hstep, List.append_assoc]; rfl) a3 a2 ⟨_, by rw [List.length_append]; rfl⟩
   exact key (n2 + 1) 0 0 (.sl H.length 0 1 0 0) (H ++ [.cells []]) [] _ _ _ _ _ _ _ _ _ _ _ (by omega) rfl (Nat.zero_le _) rfl Hx.app (.inr ⟨H.length, rfl, by rw [A7]; rfl, Nat.le_refl _⟩) ⟨_, rfl⟩
end Go.Proofs.YthlbglmfdjdagaaGreatDoor.Lg
