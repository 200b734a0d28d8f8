/- The logical machine and its contracts, part 8. No condition. -/
import Derived.Test.YthlbglmfdjdagaaGreatDoorN7
namespace Go.Proofs.YthlbglmfdjdagaaGreatDoor.Lg
set_option linter.unusedSimpArgs false
set_option linter.unusedVariables false
set_option maxRecDepth 100000
set_option maxHeartbeats 40000000
open Go.Proofs.YthlbglmfdjdagaaGreatDoor
def szL : List ByteArray → Nat
 | [] => 0
 | x :: r => x.size + 2 + szL r
theorem Cz {x : ByteArray} {r : List ByteArray} : szL (x :: r) = x.size + 2 + szL r := rfl
theorem GN : ∀ xs : List ByteArray, xs.length ≤ szL xs
 | [] => Nat.le_refl _
 | x :: r => by have := GN r; simp only [szL, List.length_cons]; omega
theorem IV : ∀ (xs : List ByteArray) (n : Nat), szL (xs.take n) ≤ szL xs
 | [], n => by simp [szL]
 | x :: r, 0 => Nat.zero_le _
 | x :: r, n + 1 => by have := IV r n; rw [List.take_succ_cons, Cz, Cz]; omega
theorem I7 : ∀ (xs : List ByteArray) (out last : ByteArray) (many : Nat), (fbG xs out last many).size ≤ out.size + many + szL xs
 | [], out, last, many => by show out.size ≤ _; omega
 | x :: r, out, last, many => by
   unfold fbG
   by_cases h : x = ⟨#[]⟩
   ·rw [if_pos h]
    have := I7 r out last (many + 1)
    rw [Cz]; omega
   ·rw [if_neg h]
    have hz : ∀ o : ByteArray, o.size ≤ out.size + (many + 1) → (fbG r (o ++ x) x 0).size ≤ out.size + many + szL (x :: r) := fun o ho => by
     have := I7 r (o ++ x) x 0
     rw [ByteArray.size_append] at this
     rw [Cz]; omega
    refine hz _ ?_
    (repeat' (refine L7 (P := fun o : ByteArray => o.size ≤ out.size + (many + 1)) (fun _ => ?_) (fun _ => ?_)))
    ·rw [ByteArray.size_append, AF]; omega
    ·rw [ByteArray.size_append, AF]; omega
    ·rw [ByteArray.size_append, sz_1]; omega
    ·rw [ByteArray.size_append, AF]; omega
theorem Hn (xs : List ByteArray) : (Ig xs).size ≤ szL xs := by
 have := I7 xs ⟨#[]⟩ ⟨#[]⟩ 0
 unfold Ig
 rw [sz_e] at this; omega
theorem Kb (s : ByteArray) (fl : Nat) (H : LH) (hs : s.size ≤ 1099511627776) : run 134 [.str s] fl H = some (.bool (decide (farB s)), H) := by
 have e2 := fun fl H => Ad s 0 fl H (by decide) hs
 have e6 := fun b fl H => Bf b fl H
 unfold run at *
 rw [z134]
 simp +contextual -implicitDefEqProofs (maxSteps := 10000000) (disch := first | (and_intros <;> omega -splitDisjunctions) | (push_cast; and_intros <;> omega -splitDisjunctions) | fail) only [e2, e6, go_sem, seval]
 rfl
theorem WP {x : ByteArray} {r : List ByteArray} {out last : ByteArray} {many : Nat} : fbG (x :: r) out last many = if x = ⟨#[]⟩ then fbG r out last (many + 1)
 else fbG r ((if last = ⟨#[]⟩ then out ++ brk many else if farB last ∨ farB x then out ++ brk (many + 1) else if many = 0 then out ++ ⟨#[32]⟩ else out ++ brk many) ++ x) x 0 := rfl
theorem IA {H : LH} {v : V} {xs : List ByteArray} (h : At H strC 1 v xs) (hl : szL xs ≤ 1099511627776) (fl : Nat) :
 run 118 [v] fl H = some (.str (Ig xs), H) := by
 have f1 := h.isTup; have f2 := h.len; have f3 := h.lenOk ty77; have f0 := h.one
 have f4 := fun L hp => (h.left (L := L)).con hp
 have f5 := h.idx (T := ty Tryz.prog) (t := 77) (by simp only [Av, AC, ty9, ty77])
 have f6 := fun L => (h.left (L := L)).loadD BD (⟨#[]⟩ : ByteArray)
 have hl2 := GN xs
 unfold run
 rw [z118]
 simp +contextual -implicitDefEqProofs (maxSteps := 10000000) (disch := first | (and_intros <;> omega -splitDisjunctions) | (push_cast; and_intros <;> omega -splitDisjunctions) | fail) only [f0, f1, f2, f3, f4, f5, f6, go_sem, seval]
 refine Ae fun c R hc hR => ?_
 have key : ∀ (m : Nat) (i w : Nat) (j ww : Int) (out last : ByteArray) (A : LH) (x0 x2 x7 x11 x15 x22 x29 x41 : Option V), xs.length - i < m → j = (i : Int) → ww = (w : Int) → i ≤ xs.length → Hx H A → last.size ≤ 1099511627776 → out.size + w + szL (xs.drop i) ≤ szL xs → fbG (xs.drop i) out last w = Ig xs →
  zEv (Ac (mkR Tryz.prog cfg ok [0, 2, 3, 4, 5, 7, 8, 9, 10, 11, 15, 22, 29, 41] H.length) .pure H [ResultVar.tmp 2]) (mkR Tryz.prog cfg ok [0, 2, 3, 4, 5, 7, 8, 9, 10, 11, 15, 22, 29, 41] H.length) (K.code (Code.loop c) :: K.blk 0 :: R) .nrm [x0, x2, some (.str out), some (.str last), some (.int .i64 ww), x7, some v, some (.int .i64 xs.length), some (.int .i64 j), x11, x15, x22, x29, x41] (A) = some (.str (Ig xs), H) := by
  intro m
  induction m with
  | zero => intro i w j ww out last A x0 x2 x7 x11 x15 x22 x29 x41 hm; omega
  | succ m ih =>
    intro i w j ww out last A x0 x2 x7 x11 x15 x22 x29 x41 hm hj hww hi hA hlast hb hf
    subst hj; subst hww
    have hB := h.ext hA
    have hle := hA.len
    rcases Nat.lt_or_ge i xs.length with hlt | hge
    rotate_left
    ·have t1 : ((i : Int) < xs.length) = False := eq_false (by omega)
     rw [List.drop_of_length_le (by omega)] at hf
     rw [A4 hc, ← hR]
     simp +contextual -implicitDefEqProofs (maxSteps := 10000000) (disch := first | (and_intros <;> omega -splitDisjunctions) | (push_cast; and_intros <;> omega -splitDisjunctions) | fail) only [f0, f1, f2, f3, f4, f5, f6, t1, go_sem, seval]
     rw [← hf]; rfl
    have t1 : ((i : Int) < xs.length) = True := eq_true (by omega)
    have g1 := hB.isTup; have g2 := hB.len; have g3 := hB.lenOk ty77; have g0 := hB.one
    have g4 := fun hp => hB.con hp
    have g5 := hB.idx (T := ty Tryz.prog) (t := 77) (by simp only [Av, AC, ty9, ty77])
    have g6 := hB.load1 (⟨#[]⟩ : ByteArray) (fun x => .str x) (fun _ => rfl)
    have g7 := fun n K => g6 i hlt n K
    rw [List.drop_eq_getElem_cons hlt, ← Bp hlt (⟨#[]⟩ : ByteArray)] at hf hb
    rw [Cz] at hb
    generalize hs : xs.getD i (⟨#[]⟩ : ByteArray) = x at *
    have g6 := g7
    have e1 : ∀ (w : Nat) (hw : w ≤ 140737488355328) (fl : Nat) (H : LH), run 116 [.str ⟨#[10]⟩, .int .i64 (w : Int)] fl H = some (.str (brk w), H) := fun w hw fl H => Fc ⟨#[10]⟩ w (by show 1 * w ≤ _; omega) (by omega) fl H
    have e2 := fun fl H => e1 w (by omega) fl H
    have e3 := fun fl H => e1 (w + 1) (by omega) fl H
    rw [show ((w + 1 : Nat) : Int) = (w : Int) + 1 by omega] at e3
    have e4 := fun fl H => Kb last fl H hlast
    have e5 := fun fl H => Kb x fl H (by omega)
    have bz := AF w
    have bz1 := AF (w + 1)
    rw [WP] at hf
    unfold run at e2 e3 e4 e5
    by_cases hx0 : x = ⟨#[]⟩
    ·rw [if_pos hx0] at hf
     rw [A4 hc]
     simp +contextual -implicitDefEqProofs (maxSteps := 10000000) (disch := first | (and_intros <;> omega -splitDisjunctions) | (push_cast; and_intros <;> omega -splitDisjunctions) | fail) only [g0, g1, g2, g3, g4, g5, g6, t1, hx0, go_sem, seval]
     exact ih (i + 1) (w + 1) ((i : Int) + 1) ((w : Int) + 1) _ _ _ _ _ _ _ _ _ _ _ (by omega) (by omega) (by omega) (by omega) hA hlast (by omega) hf
    rw [if_neg hx0] at hf
    have fin : ∀ (o : ByteArray) (C : LH) (x0 x2 x7 x11 x15 x22 x29 x41 : Option V), o = (if last = ⟨#[]⟩ then out ++ brk w else if farB last ∨ farB x then out ++ brk (w + 1) else if w = 0 then out ++ ⟨#[32]⟩ else out ++ brk w) → o.size ≤ out.size + (w + 1) → Hx H C →
     zEv (Ac (mkR Tryz.prog cfg ok [0, 2, 3, 4, 5, 7, 8, 9, 10, 11, 15, 22, 29, 41] H.length) .pure H [ResultVar.tmp 2]) (mkR Tryz.prog cfg ok [0, 2, 3, 4, 5, 7, 8, 9, 10, 11, 15, 22, 29, 41] H.length) (K.code (Code.loop c) :: K.blk 0 :: R) .nrm [x0, x2, some (.str (o ++ x)), some (.str x), some (.int .i64 0), x7, some v, some (.int .i64 xs.length), some (.int .i64 ((i : Int) + 1)), x11, x15, x22, x29, x41] C = some (.str (Ig xs), H) := by
     intro o C x0 x2 x7 x11 x15 x22 x29 x41 ho hz hC
     rw [← ho] at hf
     exact ih (i + 1) 0 ((i : Int) + 1) 0 _ _ C _ _ _ _ _ _ _ _ (by omega) (by omega) (by omega) (by omega) hC (by omega) (by rw [ByteArray.size_append]; omega) hf
    rw [A4 hc]
    by_cases c1 : last = ⟨#[]⟩
    ·simp +contextual -implicitDefEqProofs (maxSteps := 10000000) (disch := first | (and_intros <;> omega -splitDisjunctions) | (push_cast; and_intros <;> omega -splitDisjunctions) | fail) only [g0, g1, g2, g3, g4, g5, g6, t1, hx0, c1, e2, bz, go_sem, seval]
     exact fin _ _ _ _ _ _ _ _ _ _ (by rw [if_pos c1]) (by rw [ByteArray.size_append, bz]; omega) hA
    ·by_cases c2 : farB last ∨ farB x
     ·have c2' : (decide (farB last) = true ∨ decide (farB x) = true) := by simpa using c2
      by_cases c3 : farB last
      ·simp +contextual -implicitDefEqProofs (maxSteps := 10000000) (disch := first | (and_intros <;> omega -splitDisjunctions) | (push_cast; and_intros <;> omega -splitDisjunctions) | fail) only [g0, g1, g2, g3, g4, g5, g6, t1, hx0, c1, c3, e3, e4, e5, bz1, go_sem, seval]
       exact fin _ _ _ _ _ _ _ _ _ _ (by rw [if_neg c1, if_pos c2]) (by rw [ByteArray.size_append, bz1]; omega) hA
      ·have c4 := c2.resolve_left c3
       simp +contextual -implicitDefEqProofs (maxSteps := 10000000) (disch := first | (and_intros <;> omega -splitDisjunctions) | (push_cast; and_intros <;> omega -splitDisjunctions) | fail) only [g0, g1, g2, g3, g4, g5, g6, t1, hx0, c1, c3, c4, e3, e4, e5, bz1, go_sem, seval]
       exact fin _ _ _ _ _ _ _ _ _ _ (by rw [if_neg c1, if_pos c2]) (by rw [ByteArray.size_append, bz1]; omega) hA
     ·have c3 : ¬ farB last := fun h => c2 (.inl h)
      have c4 : ¬ farB x := fun h => c2 (.inr h)
      by_cases c5 : w = 0
      ·have t5 : ((w : Int) = 0) = True := eq_true (by omega)
       simp +contextual -implicitDefEqProofs (maxSteps := 10000000) (disch := first | (and_intros <;> omega -splitDisjunctions) | (push_cast; and_intros <;> omega -splitDisjunctions) | fail) only [g0, g1, g2, g3, g4, g5, g6, t1, t5, hx0, c1, c3, c4, e2, e4, e5, sz_1, go_sem, seval]
       exact fin _ _ _ _ _ _ _ _ _ _ (by rw [if_neg c1, if_neg c2, if_pos c5]) (by rw [ByteArray.size_append, sz_1]; omega) hA
      ·have t5 : ((w : Int) = 0) = False := eq_false (by omega)
       simp +contextual -implicitDefEqProofs (maxSteps := 10000000) (disch := first | (and_intros <;> omega -splitDisjunctions) | (push_cast; and_intros <;> omega -splitDisjunctions) | fail) only [g0, g1, g2, g3, g4, g5, g6, t1, t5, hx0, c1, c3, c4, e2, e4, e5, bz, go_sem, seval]
       exact fin _ _ _ _ _ _ _ _ _ _ (by rw [if_neg c1, if_neg c2, if_neg c5]) (by rw [ByteArray.size_append, bz]; omega) hA
 exact key (xs.length + 1) 0 0 0 0 _ _ H _ _ _ _ _ _ _ _ (by omega) rfl rfl (Nat.zero_le _) (Hx.refl H) (by decide) (by rw [sz_e, List.drop_zero]; omega) rfl
theorem Tg (F : ByteArray) : F ++ ⟨#[]⟩ = F := by
 apply ByteArray.ext
 simp [ByteArray.data_append]
theorem R9 {H : LH} {b n c : Nat} {ps : List ByteArray} {l : List V} (h : H.cellsAt b = some l) (hl : n ≤ l.length) (hc : n ≤ c) (ht : l.take n = rows strC ps) : N4 H (.sl b 0 1 n c) = some ps := by
 simp only [N4, h]
 rw [if_pos ⟨trivial, hc⟩, if_pos (by omega), List.drop_zero, ht]
 exact Oh ps
theorem Jz (sep : List UInt8) : ∀ xs : List (List UInt8), (Lib.join xs sep).length ≤ (xs.map (fun x => x.length + sep.length)).sum
 | [] => Nat.le_refl _
 | [x] => by
   have : Lib.join [x] sep = x := by simp [Lib.join]
   rw [this]; simp
 | x :: y :: r => by
   have ih := Jz sep (y :: r)
   have : Lib.join (x :: y :: r) sep = x ++ sep ++ Lib.join (y :: r) sep := by simp [Lib.join]
   rw [this]
   simp only [List.length_append, List.map_cons, List.sum_cons] at ih ⊢
   omega
theorem JA (xs : List ByteArray) : (Lib.join (xs.map (·.data.toList)) [10]).length ≤ szL xs := by
 have h := Jz [10] (xs.map (·.data.toList))
 refine Nat.le_trans h ?_
 clear h
 induction xs with
 | nil => exact Nat.le_refl _
 | cons x r ih =>
   rw [Cz]
   simp only [List.map_cons, List.sum_cons, List.length_cons, List.length_nil] at ih ⊢
   have : x.data.toList.length = x.size := by rw [Array.length_toList]; rfl
   omega
theorem Hq (xs : List ByteArray) : (NI xs).size ≤ szL xs := by
 have : (NI xs).size = (Lib.join (xs.map (·.data.toList)) [10]).length := rfl
 rw [this]; exact JA xs
theorem OQ (l : List ByteArray) (f : Bool) (c : Int) : (blkT l f c).size ≤ szL l + l.length + 1 := by
 have h1 := Hn (l.take (trE l l.length)); have h2 := Hq (l.take (trE l l.length)); have h3 := IV l (trE l l.length)
 have h4 := Rf l l.length
 unfold blkT
 by_cases h0 : trE l l.length = 0
 ·rw [if_pos h0]
  by_cases hc : c = 2
  ·rw [if_pos hc, AF]; omega
  ·rw [if_neg hc, sz_e]; omega
 ·rw [if_neg h0, ByteArray.size_append]
  have h5 : (if f = true then Ig (l.take (trE l l.length)) else NI (l.take (trE l l.length))).size ≤ szL l := by
   by_cases hf : f = true
   ·rw [if_pos hf]; omega
   ·rw [if_neg hf]; omega
  have h6 : (if c = 1 then (⟨#[]⟩ : ByteArray) else if c = 2 then brk (1 + (l.length - trE l l.length)) else ⟨#[10]⟩).size ≤ l.length + 1 := by
   by_cases hc : c = 1
   ·rw [if_pos hc, sz_e]; omega
   ·rw [if_neg hc]
    by_cases hc2 : c = 2
    ·rw [if_pos hc2, AF]; omega
    ·rw [if_neg hc2, sz_1]; omega
  omega
theorem X8 {l : List ByteArray} {n : Nat} : trE l (n + 1) = if l.getD n ⟨#[]⟩ = ⟨#[]⟩ then trE l n else n + 1 := rfl
theorem Iy {f0 : Nat} {H : LH} {v : V} {xs : List ByteArray} (h : Own f0 H strC 1 v xs) (f : Bool) (ch : Int) (hl : szL xs ≤ 1099511627) (fl : Nat) :
 run 106 [v, .bool f, .int .i64 ch] fl H = some (.str (blkT xs f ch), H) := by
 have hat := h.at BD
 have f1 := hat.isTup; have f2 := hat.len; have f3 := hat.lenOk ty77; have f0 := hat.one
 have f4 := fun L hp => (hat.left (L := L)).con hp
 have f5 := hat.idx (T := ty Tryz.prog) (t := 77) (by simp only [Av, AC, ty9, ty77])
 have f6 := fun L => (hat.left (L := L)).load1 (⟨#[]⟩ : ByteArray) (fun x => .str x) (fun _ => rfl)
 have hl2 := GN xs
 have e1 : ∀ (w : Nat) (hw : w ≤ 140737488355328) (fl : Nat) (H : LH), run 116 [.str ⟨#[10]⟩, .int .i64 (w : Int)] fl H = some (.str (brk w), H) := fun w hw fl H => Fc ⟨#[10]⟩ w (by show 1 * w ≤ _; omega) (by omega) fl H
 refine (?_ : ∀ res, blkT xs f ch = res → _ = some (V.str res, H)) _ rfl
 intro res hres
 have f4 := fun h => f4 [] h
 simp only [List.append_nil] at f4
 have f6 := fun n i h K => f6 [] i h n K
 simp only [List.append_nil] at f6
 unfold run at *
 rw [z106]
 simp +contextual -implicitDefEqProofs (maxSteps := 10000000) (disch := first | (and_intros <;> omega -splitDisjunctions) | (push_cast; and_intros <;> omega -splitDisjunctions) | fail) only [f0, f1, f2, f3, go_sem, seval]
 refine Ae fun c R hc hR => ?_
 have key : ∀ (P : Option (V × LH) → Prop) (hk : ∀ (n : Nat) (hn : n = trE xs xs.length) (x6 x8 x20 x24 x26 x34 x39 x40 x43 : Option V), P (zEv (Ac (mkR Tryz.prog cfg ok [0, 1, 2, 6, 7, 8, 20, 24, 26, 34, 39, 40, 43] H.length) .pure H [ResultVar.tmp 6]) (mkR Tryz.prog cfg ok [0, 1, 2, 6, 7, 8, 20, 24, 26, 34, 39, 40, 43] H.length) R .nrm [some v, some (.bool f), some (.int .i64 ch), x6, some (.int .i64 n), x8, x20, x24, x26, x34, x39, x40, x43] (H)))
  (m : Nat) (n : Nat) (j : Int) (x6 x8 x20 x24 x26 x34 x39 x40 x43 : Option V), n < m → j = (n : Int) → n ≤ xs.length → trE xs n = trE xs xs.length →
  P (zEv (Ac (mkR Tryz.prog cfg ok [0, 1, 2, 6, 7, 8, 20, 24, 26, 34, 39, 40, 43] H.length) .pure H [ResultVar.tmp 6]) (mkR Tryz.prog cfg ok [0, 1, 2, 6, 7, 8, 20, 24, 26, 34, 39, 40, 43] H.length) (K.code (Code.loop c) :: K.blk 0 :: R) .nrm [some v, some (.bool f), some (.int .i64 ch), x6, some (.int .i64 j), x8, x20, x24, x26, x34, x39, x40, x43] (H)) := by
  intro P hk m
  induction m with
  | zero => intro n j x6 x8 x20 x24 x26 x34 x39 x40 x43 hm; omega
  | succ m ih =>
    intro n j x6 x8 x20 x24 x26 x34 x39 x40 x43 hm hj hn hf
    subst hj
    rw [A4 hc]
    cases n with
    | zero =>
      simp +contextual -implicitDefEqProofs (maxSteps := 10000000) (disch := first | (and_intros <;> omega -splitDisjunctions) | (push_cast; and_intros <;> omega -splitDisjunctions) | fail) only [Int.natCast_zero, go_sem, seval]
      exact hk 0 hf _ _ _ _ _ _ _ _ _
    | succ n =>
      have t1 : (0 < ((n + 1 : Nat) : Int)) = True := eq_true (by omega)
      have t2 : ((n + 1 : Nat) : Int) - 1 = n := by omega
      have g4 := f4 (by omega)
      have g6 := fun m K => f6 m n (by omega) K
      have g5 := f5 .i64 (n : Int) (by omega) (by omega)
      simp only [Int.toNat_natCast, Nat.mul_one] at g5
      rw [X8] at hf
      by_cases h0 : xs.getD n ⟨#[]⟩ = ⟨#[]⟩
      ·rw [if_pos h0] at hf
       simp +contextual -implicitDefEqProofs (maxSteps := 10000000) (disch := first | (and_intros <;> omega -splitDisjunctions) | (push_cast; and_intros <;> omega -splitDisjunctions) | fail) only [f0, f1, f2, f3, g4, g5, g6, t1, t2, h0, go_sem, seval]
       exact ih n _ _ _ _ _ _ _ _ _ _ (by omega) rfl (by omega) hf
      ·rw [if_neg h0] at hf
       simp +contextual -implicitDefEqProofs (maxSteps := 10000000) (disch := first | (and_intros <;> omega -splitDisjunctions) | (push_cast; and_intros <;> omega -splitDisjunctions) | fail) only [f0, f1, f2, f3, g4, g5, g6, t1, t2, h0, go_sem, seval]
       exact hk (n + 1) hf _ _ _ _ _ _ _ _ _
 refine key (fun x => x = some (.str res, H)) (fun n hn x6 x8 x20 x24 x26 x34 x39 x40 x43 => ?_) (xs.length + 1) xs.length _ _ _ _ _ _ _ _ _ _ (by omega) rfl (Nat.le_refl _) rfl
 rw [← hR]
 clear key hR hc
 unfold blkT at hres
 rw [← hn] at hres
 have hnl : n ≤ xs.length := by rw [hn]; exact Rf _ _
 by_cases h0 : n = 0
 ·rw [if_pos h0] at hres
  subst h0
  have e2 := e1 xs.length (by omega)
  by_cases hc2 : ch = 2
  ·rw [if_pos hc2] at hres
   simp +contextual -implicitDefEqProofs (maxSteps := 10000000) (disch := first | (and_intros <;> omega -splitDisjunctions) | (push_cast; and_intros <;> omega -splitDisjunctions) | fail) only [f0, f1, f2, f3, hc2, e2, Int.natCast_zero, go_sem, seval]
   rw [← hres]
  ·rw [if_neg hc2] at hres
   simp +contextual -implicitDefEqProofs (maxSteps := 10000000) (disch := first | (and_intros <;> omega -splitDisjunctions) | (push_cast; and_intros <;> omega -splitDisjunctions) | fail) only [f0, f1, f2, f3, hc2, Int.natCast_zero, go_sem, seval]
   rw [← hres]
 rw [if_neg h0] at hres
 have t0 : ((n : Int) = 0) = False := eq_false (by omega)
 have hpos : 0 < xs.length := by omega
 rcases h with ⟨hh, _⟩ | ⟨b, rfl, hcell, hb⟩
 ·subst hh; exact absurd hpos (by simp)
 have hrl : (rows strC xs).length = xs.length := by rw [Ak BD, Nat.mul_one]
 have htk : (rows strC xs).take n = rows strC (xs.take n) := by have := Gw BD xs n; rwa [Nat.mul_one] at this
 have hlt : (xs.take n).length = n := by rw [List.length_take]; omega
 have hA2 : At H strC 1 (.sl b 0 1 n xs.length) (xs.take n) := .inr ⟨b, 0, xs.length, rows strC xs, by rw [hlt], hcell, by rw [hlt, hrl]; omega, by rw [hlt, List.drop_zero, Nat.mul_one]; exact htk⟩
 have hso := R9 (c := xs.length) hcell (by omega) hnl htk
 have szt := IV xs n
 have e3 : ∀ fl, run 117 [.sl b 0 1 n xs.length, .str ⟨#[10]⟩] fl H = some (.str (NI (xs.take n)), H) := by
  intro fl
  have hjl := JA (xs.take n)
  unfold run
  rw [Oz Tryz.func117 rfl (by rfl : ok 117 = false)]
  unfold F0
  have hk : cfg.lib 117 = some .join := by rfl
  rw [hk]
  simp only [libA, hso]
  rw [if_pos ⟨by omega, by show (Lib.join _ [10]).length ≤ _; omega⟩]
  rfl
 have e4 := fun fl => IA hA2 (by omega) fl
 have s1 := Hq (xs.take n); have s2 := Hn (xs.take n)
 have e5 := e1 (1 + (xs.length - n)) (by omega)
 rw [show ((1 + (xs.length - n) : Nat) : Int) = 1 + (xs.length : Int) - n by omega] at e5
 have bz := AF (1 + (xs.length - n))
 generalize NI (xs.take n) = J at *
 generalize Ig (xs.take n) = F at *
 generalize brk (1 + (xs.length - n)) = KK at *
 have hKz : KK.size ≤ 1099511628 := by omega
 have hz1 : (⟨#[10]⟩ : ByteArray).size = 1 := rfl
 unfold run at e3 e4
 cases f with
 | true =>
   rw [if_pos rfl] at hres
   by_cases c1 : ch = 1
   ·rw [if_pos c1] at hres
    simp +contextual -implicitDefEqProofs (maxSteps := 10000000) (disch := first | (and_intros <;> omega -splitDisjunctions) | (push_cast; and_intros <;> omega -splitDisjunctions) | fail) only [t0, Nat.sub_zero, e3, e4, c1, go_sem, seval]
    rw [← hres, Tg]
   ·rw [if_neg c1] at hres
    by_cases c2 : ch = 2
    ·rw [if_pos c2] at hres
     simp +contextual -implicitDefEqProofs (maxSteps := 10000000) (disch := first | (and_intros <;> omega -splitDisjunctions) | (push_cast; and_intros <;> omega -splitDisjunctions) | fail) only [t0, Nat.sub_zero, f2, f3, e3, e4, e5, c1, c2, go_sem, seval]
     rw [← hres]
    ·rw [if_neg c2] at hres
     simp +contextual -implicitDefEqProofs (maxSteps := 10000000) (disch := first | (and_intros <;> omega -splitDisjunctions) | (push_cast; and_intros <;> omega -splitDisjunctions) | fail) only [t0, Nat.sub_zero, e3, e4, hz1, c1, c2, go_sem, seval]
     rw [← hres]
 | false =>
   rw [if_neg (by decide)] at hres
   by_cases c1 : ch = 1
   ·rw [if_pos c1] at hres
    simp +contextual -implicitDefEqProofs (maxSteps := 10000000) (disch := first | (and_intros <;> omega -splitDisjunctions) | (push_cast; and_intros <;> omega -splitDisjunctions) | fail) only [t0, Nat.sub_zero, e3, e4, c1, go_sem, seval]
    rw [← hres, Tg]
   ·rw [if_neg c1] at hres
    by_cases c2 : ch = 2
    ·rw [if_pos c2] at hres
     simp +contextual -implicitDefEqProofs (maxSteps := 10000000) (disch := first | (and_intros <;> omega -splitDisjunctions) | (push_cast; and_intros <;> omega -splitDisjunctions) | fail) only [t0, Nat.sub_zero, f2, f3, e3, e4, e5, c1, c2, go_sem, seval]
     rw [← hres]
    ·rw [if_neg c2] at hres
     simp +contextual -implicitDefEqProofs (maxSteps := 10000000) (disch := first | (and_intros <;> omega -splitDisjunctions) | (push_cast; and_intros <;> omega -splitDisjunctions) | fail) only [t0, Nat.sub_zero, e3, e4, hz1, c1, c2, go_sem, seval]
     rw [← hres]
open Go.Proofs.YthlbglmfdjdagaaGreatDoor
theorem PS {s : ByteArray} {d q : Nat} {digit chomp : Int} {sign : Bool} : hdGo s (d + 1) q digit chomp sign = if (49 ≤ bA s q ∧ bA s q ≤ 57) ∧ digit = 0 then hdGo s d (q + 1) (bA s q - 48) chomp sign
 else if (bA s q = 43 ∨ bA s q = 45) ∧ sign = false then hdGo s d (q + 1) digit (if bA s q = 45 then 1 else 2) true
 else if rsB s q = true then (digit, chomp, rsN s q, 0) else (0, 0, rsN s q, 6) := rfl
theorem Ch {s : ByteArray} {p : Nat} (h : p ≤ s.size) : p ≤ rsN s p ∧ rsN s p ≤ s.size := by
 have h1 := B8 s p; have h2 := Bm h
 unfold rsN
 by_cases k : rsB s p = true
 ·rw [if_pos k]
  have := B4 h2; have := Be h2
  omega
 ·rw [if_neg k]; exact ⟨h1, h2⟩
theorem Ij (s : ByteArray) : ∀ (d q : Nat) (digit chomp : Int) (sign : Bool), q ≤ s.size → s.size - q < d → 0 ≤ digit → digit ≤ 9 → 0 ≤ chomp → chomp ≤ 2 →
 0 ≤ (hdGo s d q digit chomp sign).1 ∧ (hdGo s d q digit chomp sign).1 ≤ 9 ∧ q ≤ (hdGo s d q digit chomp sign).2.2.1 ∧ (hdGo s d q digit chomp sign).2.2.1 ≤ s.size ∧ 0 ≤ (hdGo s d q digit chomp sign).2.1 ∧ (hdGo s d q digit chomp sign).2.1 ≤ 2 := by
 intro d
 induction d with
 | zero => intro q _ _ _ _ h; omega
 | succ d ih =>
   intro q digit chomp sign hq hd h1 h2 h3 h4
   rw [PS]
   by_cases c1 : (49 ≤ bA s q ∧ bA s q ≤ 57) ∧ digit = 0
   ·rw [if_pos c1]
    have hlt := Ai (s := s) (p := q) rfl (by omega)
    have := ih (q + 1) (bA s q - 48) chomp sign (by omega) (by omega) (by omega) (by omega) h3 h4
    omega
   ·rw [if_neg c1]
    by_cases c2 : (bA s q = 43 ∨ bA s q = 45) ∧ sign = false
    ·rw [if_pos c2]
     have hlt := Ai (s := s) (p := q) rfl (by omega)
     have := ih (q + 1) digit (if bA s q = 45 then 1 else 2) true (by omega) (by omega) h1 h2 (by by_cases h : bA s q = 45 <;> simp [h]) (by by_cases h : bA s q = 45 <;> simp [h])
     omega
    ·rw [if_neg c2]
     have hr := Ch hq
     by_cases c3 : rsB s q = true
     ·rw [if_pos c3]; exact ⟨h1, h2, hr.1, hr.2, h3, h4⟩
     ·rw [if_neg c3]; exact ⟨Int.le_refl _, by show (0 : Int) ≤ 9; decide, hr.1, hr.2, Int.le_refl _, by show (0 : Int) ≤ 2; decide⟩
def t4V (r : Int × Int × Nat × Int) : V := .tup [.int .i64 r.1, .int .i64 r.2.1, .int .i64 (r.2.2.1 : Nat), .int .i64 r.2.2.2]
theorem O3 (s : ByteArray) (p : Nat) (fl : Nat) (H : LH) (hp : p ≤ s.size) (hs : s.size ≤ 1099511627776) : run 101 [.str s, .int .i64 (p : Int)] fl H = some (t4V (AN s p), H) := by
 have e1 := fun fl H => AA s p fl H hs
 rw [Ay hp] at e1
 have e2 := fun q (h : (0 : Int) ≤ q) fl H => Ad s q fl H h hs
 have e3 := fun p fl H => CW s p fl H hs
 have e4 := fun a b c fl H => Bl a b c fl H
 unfold AN
 by_cases h0 : bA s p = 124 ∨ bA s p = 62
 rotate_left
 ·rw [if_neg h0]
  have h1 : ¬ bA s p = 124 := fun h => h0 (.inl h)
  have h2 : ¬ bA s p = 62 := fun h => h0 (.inr h)
  unfold run at *
  rw [z101]
  simp +contextual -implicitDefEqProofs (maxSteps := 10000000) (disch := first | (and_intros <;> omega -splitDisjunctions) | (push_cast; and_intros <;> omega -splitDisjunctions) | fail) only [e1, e2, h1, h2, go_sem, seval]
  rfl
 rw [if_pos h0]
 have hlt : p < s.size := by rcases h0 with h | h <;> exact Ai h (by omega)
 generalize hres : hdGo s (s.size + 2) (p + 1) 0 0 false = res
 have main : ∀ (X : Option (V × LH)), (∀ (h : bA s p = 124 ∨ bA s p = 62), X = some (t4V res, H)) → X = some (t4V res, H) := fun X h => h h0
 have hcast : ((p + 1 : Nat) : Int) = (p : Int) + 1 := by omega
 unfold run at *
 rw [z101]
 rcases h0 with h0 | h0
 all_goals
  simp +contextual -implicitDefEqProofs (maxSteps := 10000000) (disch := first | (and_intros <;> omega -splitDisjunctions) | (push_cast; and_intros <;> omega -splitDisjunctions) | fail) only [e1, e2, h0, go_sem, seval]
  refine Ae fun c R hc hR => ?_
  have key : ∀ (m : Nat) (q : Nat) (j digit chomp sg : Int) (sign : Bool) (x4 x5 x6 x7 x8 x13 x14 x26 x40 x45 x54 x68 : Option V), s.size + 1 - q < m → j = (q : Int) → q ≤ s.size → sg = (if sign = true then 1 else 0) → 0 ≤ digit → digit ≤ 9 → (∃ d, s.size - q < d ∧ hdGo s d q digit chomp sign = res) →
   zEv (Ac (mkR Tryz.prog cfg ok [0, 1, 4, 5, 6, 7, 8, 9, 10, 11, 12, 13, 14, 26, 40, 45, 54, 68] H.length) .pure H [ResultVar.tmp 4, ResultVar.tmp 5, ResultVar.tmp 6, ResultVar.tmp 7]) (mkR Tryz.prog cfg ok [0, 1, 4, 5, 6, 7, 8, 9, 10, 11, 12, 13, 14, 26, 40, 45, 54, 68] H.length) (K.code (Code.loop c) :: K.blk 0 :: R) .nrm [some (.str s), some (.int .i64 p), x4, x5, x6, x7, x8, some (.int .i64 digit), some (.int .i64 chomp), some (.int .i64 sg), some (.int .i64 j), x13, x14, x26, x40, x45, x54, x68] (H) = some (t4V res, H) := by
   intro m
   induction m with
   | zero => intro q j digit chomp sg sign x4 x5 x6 x7 x8 x13 x14 x26 x40 x45 x54 x68 hm; omega
   | succ m ih =>
     intro q j digit chomp sg sign x4 x5 x6 x7 x8 x13 x14 x26 x40 x45 x54 x68 hm hj hq hsg h0d h9 hf
     subst hj
     obtain ⟨d, hd, hf⟩ := hf
     obtain ⟨d, rfl⟩ : ∃ d', d = d' + 1 := ⟨d - 1, by omega⟩
     rw [PS] at hf
     have e5 := fun fl H => e3 (q : Int) fl H
     rw [Ay hq] at e5
     have hb1 := D9 s q
     rw [A4 hc, ← hR]
     by_cases c1 : (49 ≤ bA s q ∧ bA s q ≤ 57) ∧ digit = 0
     ·rw [if_pos c1] at hf
      obtain ⟨⟨c2, c3⟩, c4⟩ := c1
      subst c4
      have t2 : (49 ≤ bA s (q : Int)) = True := eq_true c2
      have t3 : (bA s (q : Int) ≤ 57) = True := eq_true c3
      have hlt := Ai (s := s) (p := q) rfl (by omega)
      simp +contextual -implicitDefEqProofs (maxSteps := 10000000) (disch := first | (and_intros <;> omega -splitDisjunctions) | (push_cast; and_intros <;> omega -splitDisjunctions) | fail) only [e2, e4, t2, t3, go_sem, seval]
      rw [hR]
      exact ih (q + 1) ((q : Int) + 1) (bA s q - 48) chomp sg sign _ _ _ _ _ _ _ _ _ _ _ _ (by omega) (by omega) (by omega) hsg (by omega) (by omega) ⟨d, by omega, hf⟩
     ·rw [if_neg c1] at hf
      have t1 : ((49 ≤ bA s (q : Int) ∧ bA s (q : Int) ≤ 57) ∧ digit = 0) = False := eq_false c1
      by_cases c2 : (bA s q = 43 ∨ bA s q = 45) ∧ sign = false
      ·rw [if_pos c2] at hf
       obtain ⟨c3, c4⟩ := c2
       subst c4
       have hsg0 : sg = 0 := by rw [hsg]; rfl
       subst hsg0
       have hlt : q < s.size := by rcases c3 with h | h <;> exact Ai h (by omega)
       rcases c3 with c3 | c3
       ·rw [c3] at hf
        simp +contextual -implicitDefEqProofs (maxSteps := 10000000) (disch := first | (and_intros <;> omega -splitDisjunctions) | (push_cast; and_intros <;> omega -splitDisjunctions) | fail) only [e2, e4, c3, go_sem, seval]
        rw [hR]
        exact ih (q + 1) ((q : Int) + 1) digit 2 1 true _ _ _ _ _ _ _ _ _ _ _ _ (by omega) (by omega) (by omega) rfl h0d h9 ⟨d, by omega, hf⟩
       ·rw [c3] at hf
        simp +contextual -implicitDefEqProofs (maxSteps := 10000000) (disch := first | (and_intros <;> omega -splitDisjunctions) | (push_cast; and_intros <;> omega -splitDisjunctions) | fail) only [e2, e4, c3, go_sem, seval]
        rw [hR]
        exact ih (q + 1) ((q : Int) + 1) digit 1 1 true _ _ _ _ _ _ _ _ _ _ _ _ (by omega) (by omega) (by omega) rfl h0d h9 ⟨d, by omega, hf⟩
      ·rw [if_neg c2] at hf
       have t2 : ((bA s (q : Int) = 43 ∨ bA s (q : Int) = 45) ∧ sg = 0) = False := eq_false (fun h => c2 ⟨h.1, by
        cases sign with
        | false => rfl
        | true => rw [hsg] at h; exact absurd h.2 (by decide)⟩)
       by_cases c3 : rsB s q = true
       ·rw [if_pos c3] at hf
        simp +contextual -implicitDefEqProofs (maxSteps := 10000000) (disch := first | (and_intros <;> omega -splitDisjunctions) | (push_cast; and_intros <;> omega -splitDisjunctions) | fail) only [e2, e4, e5, t1, t2, c3, go_sem, seval]
        rw [← hf]; rfl
       ·rw [if_neg c3] at hf
        have c3 : rsB s q = false := by simpa using c3
        simp +contextual -implicitDefEqProofs (maxSteps := 10000000) (disch := first | (and_intros <;> omega -splitDisjunctions) | (push_cast; and_intros <;> omega -splitDisjunctions) | fail) only [e2, e4, e5, t1, t2, c3, go_sem, seval]
        rw [← hf]; rfl
  exact key (s.size + 2) (p + 1) _ 0 0 0 false _ _ _ _ _ _ _ _ _ _ _ _ (by omega) hcast.symm (by omega) rfl (by omega) (by omega) ⟨s.size + 2, by omega, hres⟩
theorem Da {s : ByteArray} {e : Nat} (h : e ≤ s.size) : e ≤ bhN s e ∧ bhN s e ≤ s.size ∧ (e < s.size → e < bhN s e) := by
 unfold bhN
 by_cases k : e + 1 ≤ s.size
 ·rw [if_pos k]; omega
 ·rw [if_neg k]; omega
theorem CE (s : ByteArray) (e : Nat) (fl : Nat) (H : LH) (he : e ≤ s.size) (hs : s.size ≤ 1099511627776) : run 102 [.str s, .int .i64 (e : Int)] fl H = some (.int .i64 (bhN s e), H) := by
 unfold run
 rw [z102]
 simp +contextual -implicitDefEqProofs (maxSteps := 10000000) (disch := first | (and_intros <;> omega -splitDisjunctions) | (push_cast; and_intros <;> omega -splitDisjunctions) | fail) only [minV, go_sem, seval]
 unfold bhN
 by_cases k : e + 1 ≤ s.size
 ·rw [if_pos k]
  congr 3
  grind
 ·rw [if_neg k]
  congr 3
  grind
theorem Tu {s : ByteArray} {n : Int} {d a : Nat} : lcGo s n (d + 1) a = if a < s.size ∧ Ah s a = 0 then
 (if lonB s a = true then lcGo s n d (bhN s (endN s a)) else if n < indN s a then (indN s a, a) else (60000, s.size))
 else (60000, s.size) := rfl
theorem UC {s : ByteArray} {a : Nat} (ha : a ≤ s.size) : indN s a ≤ s.size := by
 have h2 := Dg s a
 have h3 := OP (s := s) (p := lnN s a) (by omega)
 unfold indN; omega
theorem Mv (s : ByteArray) (n : Int) : ∀ (d a : Nat), a ≤ s.size → (lcGo s n d a).1 ≤ s.size + 60000 ∧ (lcGo s n d a).2 ≤ s.size
 | 0, a, _ => ⟨by show 60000 ≤ _; omega, Nat.le_refl _⟩
 | d + 1, a, ha => by
   rw [Tu]
   by_cases h1 : a < s.size ∧ Ah s a = 0
   ·rw [if_pos h1]
    by_cases h2 : lonB s a = true
    ·rw [if_pos h2]
     exact Mv s n d _ (Da (Be ha)).2.1
    ·rw [if_neg h2]
     by_cases h3 : n < indN s a
     ·rw [if_pos h3]; have := UC ha; exact ⟨by show indN s a ≤ _; omega, ha⟩
     ·rw [if_neg h3]; exact ⟨by show 60000 ≤ _; omega, Nat.le_refl _⟩
   ·rw [if_neg h1]; exact ⟨by show 60000 ≤ _; omega, Nat.le_refl _⟩
theorem H5 (s : ByteArray) (a0 : Nat) (n : Int) (fl : Nat) (H : LH) (ha0 : a0 ≤ s.size) (hs : s.size ≤ 1099511627776) : run 103 [.str s, .int .i64 (a0 : Int), .int .i64 n] fl H = some (.tup [.int .i64 (lcGo s n (s.size + 1) a0).1, .int .i64 (lcGo s n (s.size + 1) a0).2], H) := by
 have e3 := fun p fl H => IC s p fl H hs
 generalize hres : lcGo s n (s.size + 1) a0 = res
 unfold run at *
 rw [z103]
 simp +contextual -implicitDefEqProofs (maxSteps := 10000000) (disch := first | (and_intros <;> omega -splitDisjunctions) | (push_cast; and_intros <;> omega -splitDisjunctions) | fail) only [go_sem, seval]
 refine Ae fun c R hc hR => ?_
 have key : ∀ (m : Nat) (a : Nat) (j : Int) (x6 x7 x17 x21 x26 : Option V), s.size + 1 - a < m → j = (a : Int) → a ≤ s.size → (∃ d, s.size - a < d ∧ lcGo s n d a = res) →
  zEv (Ac (mkR Tryz.prog cfg ok [0, 1, 2, 6, 7, 17, 21, 26] H.length) .pure H [ResultVar.tmp 6, ResultVar.tmp 7]) (mkR Tryz.prog cfg ok [0, 1, 2, 6, 7, 17, 21, 26] H.length) (K.code (Code.loop c) :: K.blk 0 :: R) .nrm [some (.str s), some (.int .i64 j), some (.int .i64 n), x6, x7, x17, x21, x26] (H) = some (.tup [.int .i64 res.1, .int .i64 res.2], H) := by
  intro m
  induction m with
  | zero => intro a j x6 x7 x17 x21 x26 hm; omega
  | succ m ih =>
    intro a j x6 x7 x17 x21 x26 hm hj ha hf
    subst hj
    obtain ⟨d, hd, hf⟩ := hf
    obtain ⟨d, rfl⟩ : ∃ d', d = d' + 1 := ⟨d - 1, by omega⟩
    rw [Tu] at hf
    have l1 := B4 ha; have l2 := Be ha
    have e3' := fun fl H => e3 (a : Int) fl H
    rw [Ay ha] at e3'
    have e4 := fun fl H => C2 s a fl H ha hs
    have e5 := fun fl H => CE s (endN s a) fl H l2 hs
    have e6 := fun fl H => AK s a fl H ha hs
    have e7 := fun fl H => CU s a fl H ha hs
    have b1 := Da l2
    unfold run at e4 e5 e6 e7
    rw [A4 hc, ← hR]
    by_cases h1 : a < s.size ∧ Ah s a = 0
    rotate_left
    ·rw [if_neg h1] at hf
     by_cases h2 : a < s.size
     ·have h3 : ¬ Ah s a = 0 := fun h => h1 ⟨h2, h⟩
      have t1 : ((a : Int) < s.size) = True := eq_true (by omega)
      simp +contextual -implicitDefEqProofs (maxSteps := 10000000) (disch := first | (and_intros <;> omega -splitDisjunctions) | (push_cast; and_intros <;> omega -splitDisjunctions) | fail) only [e6, t1, h3, go_sem, seval]
      rw [← hf]; rfl
     ·have t1 : ((a : Int) < s.size) = False := eq_false (by omega)
      simp +contextual -implicitDefEqProofs (maxSteps := 10000000) (disch := first | (and_intros <;> omega -splitDisjunctions) | (push_cast; and_intros <;> omega -splitDisjunctions) | fail) only [e6, t1, go_sem, seval]
      rw [← hf]; rfl
    rw [if_pos h1] at hf
    obtain ⟨h1, h3⟩ := h1
    have t1 : ((a : Int) < s.size) = True := eq_true (by omega)
    by_cases h2 : lonB s a = true
    ·rw [if_pos h2] at hf
     simp +contextual -implicitDefEqProofs (maxSteps := 10000000) (disch := first | (and_intros <;> omega -splitDisjunctions) | (push_cast; and_intros <;> omega -splitDisjunctions) | fail) only [e3', e4, e5, e6, t1, h2, h3, go_sem, seval]
     rw [hR]
     exact ih (bhN s (endN s a)) _ _ _ _ _ _ (by
      by_cases h : endN s a < s.size
      ·have := b1.2.2 h; omega
      ·omega) rfl b1.2.1 ⟨d, by
      by_cases h : endN s a < s.size
      ·have := b1.2.2 h; omega
      ·omega, hf⟩
    ·rw [if_neg h2] at hf
     have h2 : lonB s a = false := by simpa using h2
     by_cases h4 : n < indN s a
     ·rw [if_pos h4] at hf
      have t4 : (n < (indN s a : Int)) = True := eq_true h4
      simp +contextual -implicitDefEqProofs (maxSteps := 10000000) (disch := first | (and_intros <;> omega -splitDisjunctions) | (push_cast; and_intros <;> omega -splitDisjunctions) | fail) only [e3', e4, e5, e6, e7, t1, t4, h2, h3, go_sem, seval]
      rw [← hf]
     ·rw [if_neg h4] at hf
      have t4 : (n < (indN s a : Int)) = False := eq_false h4
      simp +contextual -implicitDefEqProofs (maxSteps := 10000000) (disch := first | (and_intros <;> omega -splitDisjunctions) | (push_cast; and_intros <;> omega -splitDisjunctions) | fail) only [e3', e4, e5, e6, e7, t1, t4, h2, h3, go_sem, seval]
      rw [← hf]; rfl
 exact key (s.size + 2) a0 _ _ _ _ _ _ (by omega) rfl ha0 ⟨s.size + 1, by omega, hres⟩
open Go.Proofs.YthlbglmfdjdagaaGreatDoor
theorem U7 (s : ByteArray) : ∀ (d p : Nat), s.size - p ≤ d → ∀ j : Nat, p ≤ j → j < blN s p → bA s j = 32 := by
 intro d
 induction d with
 | zero =>
   intro p hd j h1 h2
   rw [Ec (by rw [B3 (by omega)]; omega)] at h2
   omega
 | succ d ih =>
   intro p hd j h1 h2
   by_cases h : bA s p = 32
   ·have hlt := Ai h (by omega)
    rw [OO h] at h2
    by_cases e : j = p
    ·rw [e]; exact h
    ·exact ih (p + 1) (by omega) j (by omega) h2
   ·rw [Ec h] at h2; omega
theorem UD {s : ByteArray} {a : Nat} (ha : a ≤ s.size) (hl : lnN s a = a) : a + indN s a ≤ endN s a := by
 unfold indN
 rw [hl]
 have h1 := Tj s a
 have h2 := OP ha
 rw [show a + (blN s a - a) = blN s a by omega]
 refine Nat.le_of_not_lt fun h => ?_
 have h3 := U7 s _ a (Nat.le_refl _) (endN s a) (B4 ha) h
 have h4 := G9 ha (by omega)
 omega
theorem OM {s : ByteArray} {e : Nat} (he : e ≤ s.size) (h : e < s.size → bA s e = 10) (h2 : bhN s e < s.size) : lnN s (bhN s e) = bhN s e := by
 unfold bhN at *
 by_cases k : e + 1 ≤ s.size
 ·rw [if_pos k] at h2 ⊢
  rw [WV, if_pos (h (by omega))]
 ·rw [if_neg k] at h2; omega
theorem Wm {s : ByteArray} {p : Nat} (hp : p ≤ s.size) (h : rsB s p = true) : rsN s p < s.size → bA s (rsN s p) = 10 := by
 have h2 := Bm hp
 unfold rsN
 rw [if_pos h]
 exact G9 h2
theorem PQ (s : ByteArray) : ∀ (d q : Nat) (digit chomp : Int) (sign : Bool), q ≤ s.size → s.size - q < d → (hdGo s d q digit chomp sign).2.2.2 = 0 → (hdGo s d q digit chomp sign).2.2.1 < s.size → bA s (hdGo s d q digit chomp sign).2.2.1 = 10 := by
 intro d
 induction d with
 | zero => intro q _ _ _ _ h; omega
 | succ d ih =>
   intro q digit chomp sign hq hd
   rw [PS]
   by_cases c1 : (49 ≤ bA s q ∧ bA s q ≤ 57) ∧ digit = 0
   ·rw [if_pos c1]
    have hlt := Ai (s := s) (p := q) rfl (by omega)
    exact ih (q + 1) (bA s q - 48) chomp sign (by omega) (by omega)
   ·rw [if_neg c1]
    by_cases c2 : (bA s q = 43 ∨ bA s q = 45) ∧ sign = false
    ·rw [if_pos c2]
     have hlt := Ai (s := s) (p := q) rfl (by omega)
     exact ih (q + 1) digit _ true (by omega) (by omega)
    ·rw [if_neg c2]
     by_cases c3 : rsB s q = true
     ·rw [if_pos c3]
      intro _ h
      exact Wm hq c3 h
     ·rw [if_neg c3]
      intro h; cases h
theorem Lb {s : ByteArray} {w first d a : Nat} {l : List ByteArray} : Fu s w first (d + 1) a l = if (a < s.size ∧ Ah s a = 0) ∧ (lonB s a = true ∨ w ≤ indN s a) then
 Fu s w first d (bhN s (endN s a)) (l ++ [if first ≤ a ∧ (lonB s a = false ∨ w < indN s a) then s.extract (a + w) (endN s a) else ⟨#[]⟩])
 else (l, a) := rfl
theorem Ra (xs : List ByteArray) (x : ByteArray) : szL (xs ++ [x]) = szL xs + (x.size + 2) := by
 induction xs with
 | nil => show x.size + 2 + 0 = 0 + (x.size + 2); omega
 | cons y xs ih => rw [List.cons_append, Cz, Cz, ih]; omega
theorem OH {G B : LH} {v : V} {xs : List ByteArray} (hx : Hx G B) (ho : Own G.length B strC 1 v xs) (hn : xs.length + 1 ≤ 1099511627) (L : LH) (x : ByteArray) :
 ∃ b W, AB G.length 1 16 (B ++ L) 1 [V.str x] v = some (.sl b 0 1 (xs.length + 1) (xs.length + 1), W) ∧ Own G.length W strC 1 (.sl b 0 1 (xs.length + 1) (xs.length + 1)) (xs ++ [x]) ∧ Hx G W := by
 have ap := CR (fl := G.length) (ho.ext (Hx.app (L := L))) BD (Nat.le_refl _) 16 (by unfold Aj; omega) x
 have an := D8 (enc := strC) (z := 1) (v := v) (H := B ++ L) (f0 := G.length) (by have := hx.len; rw [List.length_append]; omega) (xs ++ [x])
 have e : (xs ++ [x]).length = xs.length + 1 := by rw [List.length_append]; rfl
 rw [e] at an
 exact ⟨_, _, ap, an, M1 (hx.trans Hx.app) (ho.ext Hx.app) (Nat.le_refl _)⟩
theorem IB (s : ByteArray) (p : Nat) (n : Int) (fl : Nat) (H : LH) (hp : p ≤ s.size) (hs : s.size ≤ 16777216) : run 86 [.str s, .int .i64 (p : Int), .int .i64 n] fl H = some (t3V (AG s p n), H) := by
 have e1 := fun fl H => AA s p fl H (by omega)
 rw [Ay hp] at e1
 have e2 := fun fl H => O3 s p fl H hp (by omega)
 unfold AG
 by_cases h0 : bA s p = 124 ∨ bA s p = 62
 rotate_left
 ·have hm : AN s p = (0, 0, p, 10) := if_neg h0
  rw [hm] at e2 ⊢
  unfold run t4V at *
  rw [z86]
  simp +contextual -implicitDefEqProofs (maxSteps := 10000000) (disch := first | (and_intros <;> omega -splitDisjunctions) | (push_cast; and_intros <;> omega -splitDisjunctions) | fail) only [e1, e2, go_sem, seval]
  rfl
 have hlt : p < s.size := by rcases h0 with h | h <;> exact Ai h (by omega)
 have hm : AN s p = hdGo s (s.size + 2) (p + 1) 0 0 false := if_pos h0
 have hr := Ij s (s.size + 2) (p + 1) 0 0 false (by omega) (by omega) (Int.le_refl _) (by decide) (Int.le_refl _) (by decide)
 have hln := PQ s (s.size + 2) (p + 1) 0 0 false (by omega) (by omega)
 rw [← hm] at hr hln
 generalize AN s p = hd at *
 obtain ⟨digit, chomp, e, code⟩ := hd
 dsimp only at *
 unfold t4V at e2
 dsimp only at e2
 by_cases hc0 : code ≠ 0
 ·rw [if_pos hc0]
  unfold run at *
  rw [z86]
  simp +contextual -implicitDefEqProofs (maxSteps := 10000000) (disch := first | (and_intros <;> omega -splitDisjunctions) | (push_cast; and_intros <;> omega -splitDisjunctions) | fail) only [e1, e2, hc0, go_sem, seval]
  rfl
 rw [if_neg hc0]
 have hc0 : code = 0 := by simpa using hc0
 subst hc0
 obtain ⟨r1, r2, r3, r4, r5, r6⟩ := hr
 have hb := Da r4
 have hbl := OM r4 (hln rfl)
 have e3 := fun fl H => CE s e fl H r4 (by omega)
 have e4 := fun fl H => H5 s (bhN s e) n fl H hb.2.1 (by omega)
 generalize hA0 : bhN s e = a0 at *
 have hlr := Mv s n (s.size + 1) a0 hb.2.1
 generalize hW : litW s n digit a0 = W
 have hWr : W.1 ≤ s.size + 70000 ∧ W.2 ≤ s.size := by
  rw [← hW]; unfold litW
  by_cases k1 : 0 < digit ∧ n ≤ 60000
  ·rw [if_pos k1]
   refine ⟨?_, hb.2.1⟩
   show ((if n < 0 then 0 else n) + digit).toNat ≤ _
   by_cases k2 : n < 0
   ·rw [if_pos k2]; omega
   ·rw [if_neg k2]; omega
  ·rw [if_neg k1]
   by_cases k2 : digit = 0
   ·rw [if_pos k2]; exact ⟨by omega, hlr.2⟩
   ·rw [if_neg k2]; exact ⟨by show 60000 ≤ _; omega, hb.2.1⟩
 obtain ⟨w, first⟩ := W
 dsimp only at hWr ⊢
 generalize hres : Fu s w first (s.size + 1) a0 [] = res
 have e5 := fun p fl H => IC s p fl H (by omega : s.size ≤ 1099511627776)
 have three : ((0 < digit) = True ∧ (n ≤ 60000) = True ∧ (digit = 0) = False ∧ ((if n < 0 then 0 else n) + digit = (w : Int)) ∧ True ∧ first = a0 ∧ True) ∨ ((0 < digit) = False ∧ True ∧ (digit = 0) = True ∧ True ∧ (lcGo s n (s.size + 1) a0).1 = w ∧ (lcGo s n (s.size + 1) a0).2 = first) ∨ ((0 < digit) = True ∧ (n ≤ 60000) = False ∧ (digit = 0) = False ∧ True ∧ w = 60000 ∧ first = a0 ∧ True) := by
  unfold litW at hW
  by_cases k1 : 0 < digit
  ·by_cases k2 : n ≤ 60000
   ·rw [if_pos ⟨k1, k2⟩] at hW
    cases hW
    refine .inl ⟨eq_true k1, eq_true k2, eq_false (by omega), ?_, trivial, rfl, trivial⟩
    by_cases k3 : n < 0
    ·rw [if_pos k3]; omega
    ·rw [if_neg k3]; omega
   ·rw [if_neg (fun h => k2 h.2), if_neg (by omega)] at hW
    cases hW
    exact .inr (.inr ⟨eq_true k1, eq_false k2, eq_false (by omega), trivial, rfl, rfl, trivial⟩)
  ·rw [if_neg (fun h => k1 h.1), if_pos (by omega)] at hW
   exact .inr (.inl ⟨eq_false k1, trivial, eq_true (by omega), trivial, by rw [hW], by rw [hW]⟩)
 obtain ⟨w1, w2⟩ := hWr
 unfold run at *
 rw [z86]
 have hw : ∃ ww : Int, ww = w := ⟨_, rfl⟩
 have ha0l := hb.2.1
 clear hW
 rcases three with ⟨t1, t2, t3, t4, t5, rfl, t7⟩ | ⟨t1, t2, t3, t4, t5, t7⟩ | ⟨t1, t2, t3, t4, t5, rfl, t7⟩
 all_goals
  simp +contextual -implicitDefEqProofs (maxSteps := 10000000) (disch := first | (and_intros <;> omega -splitDisjunctions) | (push_cast; and_intros <;> omega -splitDisjunctions) | fail) only [e1, e2, e3, e4, t1, t2, t3, t4, t5, t7, maxV, go_sem, seval]
  refine Ae fun c R hc hR => ?_
  have key : ∀ (m : Nat) (a : Nat) (j ww : Int) (B : LH) (lv : V) (l : List ByteArray) (x6 x7 x8 x9 x11 x12 x17 x30 x37 x48 x80 x96 : Option V), s.size + 1 - a < m → j = (a : Int) → ww = (w : Int) → a ≤ s.size → (a < s.size → lnN s a = a) → Hx H B → Own H.length B strC 1 lv l → szL l ≤ 3 * a → (∃ d, s.size - a < d ∧ Fu s w first d a l = res) →
   zEv (Ac (mkR Tryz.prog cfg ok [0, 1, 2, 6, 7, 8, 9, 10, 11, 12, 13, 14, 15, 16, 17, 30, 37, 48, 80, 96] H.length) .pure H [ResultVar.tmp 6, ResultVar.tmp 7, ResultVar.tmp 8]) (mkR Tryz.prog cfg ok [0, 1, 2, 6, 7, 8, 9, 10, 11, 12, 13, 14, 15, 16, 17, 30, 37, 48, 80, 96] H.length) (K.code (Code.loop c) :: K.blk 1 :: R) .nrm [some (.str s), some (.int .i64 p), some (.int .i64 n), x6, x7, x8, x9, some (.int .i64 chomp), x11, x12, some (.int .i64 j), some (.int .i64 ww), some (.int .i64 first), some lv, x17, x30, x37, x48, x80, x96] (B) = some (t3V (blkT res.1 (decide (bA s p = 62)) chomp, res.2, 0), H) := by
   intro m
   induction m with
   | zero => intro a j ww B lv l x6 x7 x8 x9 x11 x12 x17 x30 x37 x48 x80 x96 hm; omega
   | succ m ih =>
     intro a j ww B lv l x6 x7 x8 x9 x11 x12 x17 x30 x37 x48 x80 x96 hm hj hww ha hal hx ho hz hf
     subst hj
     subst hww
     obtain ⟨d, hd, hf⟩ := hf
     obtain ⟨d, rfl⟩ : ∃ d', d = d' + 1 := ⟨d - 1, by omega⟩
     rw [Lb] at hf
     have hxl := hx.len
     have o1 := (ho.at BD).isTup; have o2 := (ho.at BD).one
     have hln2 := GN l
     have l1 := B4 ha; have l2 := Be ha
     have g5 := fun fl H => e5 (a : Int) fl H
     rw [Ay ha] at g5
     have g4 := fun fl H => C2 s a fl H ha (by omega)
     have g3 := fun fl H => CE s (endN s a) fl H l2 (by omega)
     have g6 := fun fl H => AK s a fl H ha (by omega)
     have g7 := fun fl H => CU s a fl H ha (by omega)
     have b1 := Da l2
     have b2 := OM l2 (G9 ha)
     have g8 := fun fl => Iy ho (decide (bA s p = 62)) chomp (by omega) fl
     unfold run at g3 g4 g6 g7 g8
     by_cases h1 : (a < s.size ∧ Ah s a = 0) ∧ (lonB s a = true ∨ w ≤ indN s a)
     rotate_left
     ·rw [if_neg h1] at hf
      rw [A4 hc, ← hR]
      by_cases h2 : a < s.size
      ·have u1 : ((a : Int) < s.size) = True := eq_true (by omega)
       by_cases h3 : Ah s a = 0
       ·have h4 : ¬ (lonB s a = true ∨ w ≤ indN s a) := fun h => h1 ⟨⟨h2, h3⟩, h⟩
        have h5 : lonB s a = false := by
         cases h : lonB s a with
         | false => rfl
         | true => exact absurd (.inl h) h4
        have u2 : ((w : Int) ≤ (indN s a : Int)) = False := eq_false (fun h => h4 (.inr (by omega)))
        simp +contextual -implicitDefEqProofs (maxSteps := 10000000) (disch := first | (and_intros <;> omega -splitDisjunctions) | (push_cast; and_intros <;> omega -splitDisjunctions) | fail) only [g5, g6, g7, g8, o1, o2, u1, u2, h3, h5, go_sem, seval]
        rw [← hf]; rfl
       ·simp +contextual -implicitDefEqProofs (maxSteps := 10000000) (disch := first | (and_intros <;> omega -splitDisjunctions) | (push_cast; and_intros <;> omega -splitDisjunctions) | fail) only [g5, g6, g7, g8, o1, o2, u1, h3, go_sem, seval]
        rw [← hf]; rfl
      ·have u1 : ((a : Int) < s.size) = False := eq_false (by omega)
       simp +contextual -implicitDefEqProofs (maxSteps := 10000000) (disch := first | (and_intros <;> omega -splitDisjunctions) | (push_cast; and_intros <;> omega -splitDisjunctions) | fail) only [g5, g6, g7, g8, o1, o2, u1, go_sem, seval]
       rw [← hf]; rfl
     rw [if_pos h1] at hf
     obtain ⟨⟨h2, h3⟩, h4⟩ := h1
     have u1 : ((a : Int) < s.size) = True := eq_true (by omega)
     have hie := UD ha (hal h2)
     have hbg : a < bhN s (endN s a) := by
      by_cases h : endN s a < s.size
      ·have := b1.2.2 h; omega
      ·omega
     have next : ∀ (X : LH) (x : ByteArray), x.size ≤ endN s a - a → x = (if first ≤ a ∧ (lonB s a = false ∨ w < indN s a) then s.extract (a + w) (endN s a) else ⟨#[]⟩) → Hx H X → Own H.length X strC 1 lv l → ∃ b W, AB H.length 1 16 X 1 [V.str x] lv = some (.sl b 0 1 (l.length + 1) (l.length + 1), W) ∧ ∀ (x6 x7 x8 x9 x11 x12 x17 x30 x37 x48 x80 x96 : Option V), zEv (Ac (mkR Tryz.prog cfg ok [0, 1, 2, 6, 7, 8, 9, 10, 11, 12, 13, 14, 15, 16, 17, 30, 37, 48, 80, 96] H.length) .pure H [ResultVar.tmp 6, ResultVar.tmp 7, ResultVar.tmp 8]) (mkR Tryz.prog cfg ok [0, 1, 2, 6, 7, 8, 9, 10, 11, 12, 13, 14, 15, 16, 17, 30, 37, 48, 80, 96] H.length) (K.code (Code.loop c) :: K.blk 1 :: R) .nrm [some (.str s), some (.int .i64 p), some (.int .i64 n), x6, x7, x8, x9, some (.int .i64 chomp), x11, x12, some (.int .i64 (bhN s (endN s a) : Nat)), some (.int .i64 (w : Nat)), some (.int .i64 first), some (.sl b 0 1 (l.length + 1) (l.length + 1)), x17, x30, x37, x48, x80, x96] W = some (t3V (blkT res.1 (decide (bA s p = 62)) chomp, res.2, 0), H) := by
      intro X x hxz hxe hX oX
      obtain ⟨b, W, ap, oW, xW⟩ := OH hX oX (by omega) [] x
      rw [List.append_nil] at ap
      refine ⟨b, W, ap, fun x6 x7 x8 x9 x11 x12 x17 x30 x37 x48 x80 x96 => ?_⟩
      exact ih (bhN s (endN s a)) _ _ W _ _ _ _ _ _ _ _ _ _ _ _ _ _ (by omega) rfl rfl b1.2.1 b2 xW (by rw [show l.length + 1 = (l ++ [x]).length by simp] at oW ⊢; exact oW) (by rw [Ra]; omega) ⟨d, by omega, by rw [hxe]; exact hf⟩
     rw [A4 hc]
     by_cases h6 : first ≤ a ∧ (lonB s a = false ∨ w < indN s a)
     ·have hwi : w ≤ indN s a := by
       rcases h6.2 with h | h
       ·rcases h4 with h4 | h4
        ·rw [h] at h4; cases h4
        ·exact h4
       ·omega
      have hxz : (s.extract (a + w) (endN s a)).size = endN s a - (a + w) := Ap l2
      obtain ⟨b, W, ap, go⟩ := next (B ++ [.cells [.str (s.extract (a + w) (endN s a))]]) (s.extract (a + w) (endN s a)) (by omega) (by rw [if_pos h6]) (hx.trans Hx.app) (ho.ext Hx.app)
      have u3 : ((first : Int) ≤ a) = True := eq_true (by omega)
      have u4 : ((a : Int) + w).toNat = a + w := by omega
      have u5 : a + w ≤ endN s a := by omega
      cases h7 : lonB s a with
      | false =>
        have u2 : ((w : Int) ≤ (indN s a : Int)) = True := eq_true (by omega)
        simp +contextual -implicitDefEqProofs (maxSteps := 10000000) (disch := first | (and_intros <;> omega -splitDisjunctions) | (push_cast; and_intros <;> omega -splitDisjunctions) | fail) only [g3, g4, g5, g6, g7, o1, o2, u1, u2, u3, u4, u5, h3, h7, ap, go_sem, seval]
        exact go _ _ _ _ _ _ _ _ _ _ _ _
      | true =>
        have h8 : w < indN s a := h6.2.resolve_left (by rw [h7]; simp)
        have u2 : ((w : Int) < (indN s a : Int)) = True := eq_true (by omega)
        simp +contextual -implicitDefEqProofs (maxSteps := 10000000) (disch := first | (and_intros <;> omega -splitDisjunctions) | (push_cast; and_intros <;> omega -splitDisjunctions) | fail) only [g3, g4, g5, g6, g7, o1, o2, u1, u2, u3, u4, u5, h3, h7, ap, go_sem, seval]
        exact go _ _ _ _ _ _ _ _ _ _ _ _
     ·obtain ⟨b, W, ap, go⟩ := next (B ++ [.cells [.str ⟨#[]⟩]]) ⟨#[]⟩ (Nat.zero_le _) (by rw [if_neg h6]) (hx.trans Hx.app) (ho.ext Hx.app)
      by_cases h9 : first ≤ a
      ·have u3 : ((first : Int) ≤ a) = True := eq_true (by omega)
       have h7 : lonB s a = true := by
        cases h : lonB s a with
        | true => rfl
        | false => exact absurd ⟨h9, .inl h⟩ h6
       have u2 : ((w : Int) < (indN s a : Int)) = False := eq_false (fun h => h6 ⟨h9, .inr (by omega)⟩)
       simp +contextual -implicitDefEqProofs (maxSteps := 10000000) (disch := first | (and_intros <;> omega -splitDisjunctions) | (push_cast; and_intros <;> omega -splitDisjunctions) | fail) only [g3, g4, g5, g6, g7, o1, o2, u1, u2, u3, h3, h7, ap, go_sem, seval]
       exact go _ _ _ _ _ _ _ _ _ _ _ _
      ·have u3 : ((first : Int) ≤ a) = False := eq_false (by omega)
       cases h7 : lonB s a with
       | false =>
         have u2 : ((w : Int) ≤ (indN s a : Int)) = True := eq_true (by
          rcases h4 with h4 | h4
          ·rw [h7] at h4; cases h4
          ·omega)
         simp +contextual -implicitDefEqProofs (maxSteps := 10000000) (disch := first | (and_intros <;> omega -splitDisjunctions) | (push_cast; and_intros <;> omega -splitDisjunctions) | fail) only [g3, g4, g5, g6, g7, o1, o2, u1, u2, u3, h3, h7, ap, go_sem, seval]
         exact go _ _ _ _ _ _ _ _ _ _ _ _
       | true =>
         simp +contextual -implicitDefEqProofs (maxSteps := 10000000) (disch := first | (and_intros <;> omega -splitDisjunctions) | (push_cast; and_intros <;> omega -splitDisjunctions) | fail) only [g3, g4, g5, g6, g7, o1, o2, u1, u3, h3, h7, ap, go_sem, seval]
         exact go _ _ _ _ _ _ _ _ _ _ _ _
  refine key (s.size + 2) _ _ _ _ _ [] _ _ _ _ _ _ _ _ _ _ _ _ (by omega) rfl (by first | rfl | omega) ha0l hbl Hx.app (.inr ⟨H.length, rfl, by rw [A7]; rfl, Nat.le_refl _⟩) (Nat.zero_le _) ⟨s.size + 1, by omega, hres⟩
open Go.Proofs.YthlbglmfdjdagaaGreatDoor
theorem CP (b : Int) (fl : Nat) (H : LH) : run 44 [.int .i64 b] fl H = some (.bool (decide (flwP b)), H) := by
 unfold run flwP
 rw [z44]
 simp +contextual -implicitDefEqProofs (maxSteps := 10000000) (disch := first | (and_intros <;> omega -splitDisjunctions) | (push_cast; and_intros <;> omega -splitDisjunctions) | fail) only [or_assoc, go_sem, seval]
theorem GH (s : ByteArray) (p : Nat) (fl : Nat) (H : LH) (hp : p ≤ s.size) (hs : s.size ≤ 1099511627776) : run 110 [.str s, .int .i64 (p : Int)] fl H = some (.int .i64 (stN s p), H) := by
 have e2 := fun q (h : (0 : Int) ≤ q) fl H => Ad s q fl H h hs
 have e3 := fun b fl H => CP b fl H
 have e4 := fun q (h : (0 : Int) ≤ q) fl H => B7 s q fl H h hs
 unfold run at *
 rw [z110]
 simp +contextual -implicitDefEqProofs (maxSteps := 10000000) (disch := first | (and_intros <;> omega -splitDisjunctions) | (push_cast; and_intros <;> omega -splitDisjunctions) | fail) only [go_sem, seval]
 refine Ae fun c R hc hR => ?_
 have key : ∀ (m : Nat) (q : Nat) (j : Int) (x4 x15 : Option V), s.size - q < m → j = (q : Int) → q ≤ s.size → stN s q = stN s p →
  zEv (Ac (mkR Tryz.prog cfg ok [0, 1, 4, 15] H.length) .pure H [ResultVar.tmp 4]) (mkR Tryz.prog cfg ok [0, 1, 4, 15] H.length) (K.code (Code.loop c) :: K.blk 0 :: R) .nrm [some (.str s), some (.int .i64 j), x4, x15] (H) = some (.int .i64 (stN s p), H) := by
  intro m
  induction m with
  | zero => intro q j x4 x15 hm; omega
  | succ m ih =>
    intro q j x4 x15 hm hj hq hf
    subst hj
    rw [A4 hc, ← hR]
    by_cases hg : gapP s q
    ·simp +contextual -implicitDefEqProofs (maxSteps := 10000000) (disch := first | (and_intros <;> omega -splitDisjunctions) | (push_cast; and_intros <;> omega -splitDisjunctions) | fail) only [e2, e3, e4, hg, go_sem, seval]
     rw [N0 (.inl hg)] at hf
     rw [hf]
    ·by_cases hw : flwP (bA s q)
     ·simp +contextual -implicitDefEqProofs (maxSteps := 10000000) (disch := first | (and_intros <;> omega -splitDisjunctions) | (push_cast; and_intros <;> omega -splitDisjunctions) | fail) only [e2, e3, e4, hg, hw, go_sem, seval]
      rw [N0 (.inr hw)] at hf
      rw [hf]
     ·simp +contextual -implicitDefEqProofs (maxSteps := 10000000) (disch := first | (and_intros <;> omega -splitDisjunctions) | (push_cast; and_intros <;> omega -splitDisjunctions) | fail) only [e2, e3, e4, hg, hw, go_sem, seval]
      try rw [hR]
      have hlt := CS hg
      rw [TD hg hw] at hf
      exact ih (q + 1) ((q : Int) + 1) _ _ (by omega) rfl (by omega) hf
 exact key (s.size + 1) p _ _ _ (by omega) rfl hp rfl
theorem Fa (s : ByteArray) (p : Int) (fl : Nat) (H : LH) (hs : s.size ≤ 1099511627776) : run 93 [.str s, .int .i64 p] fl H = some (t3N (AP s (spt s p)), H) := by
 have e1 := fun fl H => AA s p fl H hs
 have h1 := BO s p
 generalize spt s p = q at *
 have e2 := fun fl H => Ad s q fl H (by omega) hs
 have e5 := fun a b c fl H => Bl a b c fl H
 unfold AP
 by_cases hb : bA s q = 38 ∨ bA s q = 42
 rotate_left
 ·rw [if_neg (fun h => hb h.1)]
  have b1 : (bA s q = 38) = False := eq_false (fun e => hb (.inl e))
  have b2 : (bA s q = 42) = False := eq_false (fun e => hb (.inr e))
  unfold run at *
  rw [z93]
  simp +contextual -implicitDefEqProofs (maxSteps := 10000000) (disch := first | (and_intros <;> omega -splitDisjunctions) | (push_cast; and_intros <;> omega -splitDisjunctions) | fail) only [e1, e2, b1, b2, go_sem, seval]
  rfl
 have hq : q < s.size := by rcases hb with h | h <;> exact Ai h (by omega)
 have e3 := fun fl H => GH s (q + 1) fl H (by omega) hs
 have l1 := R5 s (q + 1); have l2 := N1 (s := s) (p := q + 1) (by omega)
 rw [show ((q + 1 : Nat) : Int) = (q : Int) + 1 by omega] at e3
 generalize stN s (q + 1) = e at *
 by_cases hk : q + 2 ≤ e ∧ e ≤ q + 61
 ·rw [if_pos ⟨hb, hk⟩]
  have t1 : (1 ≤ (e : Int) - q - 1) = True := eq_true (by omega)
  have t2 : ((e : Int) - q - 1 ≤ 60) = True := eq_true (by omega)
  unfold run at *
  rw [z93]
  rcases hb with hb | hb <;> simp +contextual -implicitDefEqProofs (maxSteps := 10000000) (disch := first | (and_intros <;> omega -splitDisjunctions) | (push_cast; and_intros <;> omega -splitDisjunctions) | fail) only [e1, e2, e3, e5, hb, t1, t2, go_sem, seval] <;> rfl
 ·rw [if_neg (fun h => hk h.2)]
  have t0 : (decide (1 ≤ (e : Int) - q - 1 ∧ (e : Int) - q - 1 ≤ 60)) = false := decide_eq_false (by omega)
  unfold run at *
  rw [z93]
  rcases hb with hb | hb <;> simp +contextual -implicitDefEqProofs (maxSteps := 10000000) (disch := first | (and_intros <;> omega -splitDisjunctions) | (push_cast; and_intros <;> omega -splitDisjunctions) | fail) only [e1, e2, e3, e5, hb, t0, go_sem, seval] <;> rfl
open Go.Proofs.YthlbglmfdjdagaaGreatDoor
theorem QM (s : ByteArray) (p : Int) (fl : Nat) (H : LH) (hs : s.size ≤ 1099511627776) : run 94 [.str s, .int .i64 p] fl H = some (t3N (tagM s (spt s p)), H) := by
 have e1 := fun fl H => AA s p fl H hs
 have h1 := BO s p
 generalize spt s p = q at *
 have e2 := fun q (h : (0 : Int) ≤ q) fl H => Ad s q fl H h hs
 have e4 := fun q (h : (0 : Int) ≤ q) fl H => B7 s q fl H h hs
 by_cases hb : bA s q = 33
 rotate_left
 ·unfold tagM
  rw [if_neg (fun h => hb h.1)]
  unfold run at *
  rw [z94]
  simp +contextual -implicitDefEqProofs (maxSteps := 10000000) (disch := first | (and_intros <;> omega -splitDisjunctions) | (push_cast; and_intros <;> omega -splitDisjunctions) | fail) only [e1, e2, hb, go_sem, seval]
  rfl
 have hq : q < s.size := Ai hb (by omega)
 have e3 := fun fl H => GH s q fl H (by omega) hs
 have l1 := R5 s q; have l2 := N1 (s := s) (p := q) (by omega)
 have t0 : (bA s (q : Int) = 33) = True := eq_true hb
 have fin : ∀ (e : Nat), e = tagE s q → q ≤ e → e ≤ s.size → (if 60 < (e : Int) - q then some (V.tup [.str ⟨#[]⟩, .int .i64 0, .bool false], H) else some (V.tup [.str (s.extract q e), .int .i64 e, .bool true], H)) = some (t3N (tagM s q), H) := by
  intro e he h1 h2
  subst he
  unfold tagM
  by_cases hk : tagE s q ≤ q + 60
  ·rw [if_neg (by omega), if_pos ⟨hb, hk⟩]; rfl
  ·rw [if_pos (by omega), if_neg (fun h => hk h.2)]; rfl
 have hp1 : ((q + 1 : Nat) : Int) = (q : Int) + 1 := by omega
 have hp2 : ((q + 2 : Nat) : Int) = (q : Int) + 2 := by omega
 by_cases h60 : bA s ((q : Int) + 1) = 60
 rotate_left
 ·have hE : tagE s q = stN s q := by unfold tagE; rw [hp1, if_neg (fun h => h60 h.1)]
  unfold run at *
  rw [z94]
  simp +contextual -implicitDefEqProofs (maxSteps := 10000000) (disch := first | (and_intros <;> omega -splitDisjunctions) | (push_cast; and_intros <;> omega -splitDisjunctions) | fail) only [e1, e2, e3, t0, h60, go_sem, seval]
  exact fin (stN s q) hE.symm l1 l2
 have hq1 : q + 1 < s.size := by
  have := Ai (p := q + 1) (c := 60) (by rw [hp1]; exact h60) (by omega)
  exact this
 have t1 : (bA s ((q : Int) + 1) = 60) = True := eq_true h60
 have m1 := Tq s (q + 2); have m2 := W1 (s := s) (p := q + 2) (by omega)
 generalize hg : gtN s (q + 2) = g at *
 unfold run at *
 rw [z94]
 simp +contextual -implicitDefEqProofs (maxSteps := 10000000) (disch := first | (and_intros <;> omega -splitDisjunctions) | (push_cast; and_intros <;> omega -splitDisjunctions) | fail) only [e1, e2, e3, t0, t1, go_sem, seval]
 refine Ae fun c R hc hR => ?_
 have key : ∀ (m : Nat) (r : Nat) (j : Int) (x4 x5 x6 x15 x23 x35 x47 x53 : Option V), s.size - r < m → j = (r : Int) → q + 2 ≤ r → r ≤ s.size → gtN s r = g →
  zEv (Ac (mkR Tryz.prog cfg ok [0, 1, 4, 5, 6, 7, 8, 15, 23, 35, 47, 53] H.length) .pure H [ResultVar.tmp 4, ResultVar.tmp 5, ResultVar.tmp 6]) (mkR Tryz.prog cfg ok [0, 1, 4, 5, 6, 7, 8, 15, 23, 35, 47, 53] H.length) (K.code (Code.loop c) :: K.blk 0 :: R) .nrm [some (.str s), some (.int .i64 q), x4, x5, x6, some (.int .i64 (stN s q)), some (.int .i64 j), x15, x23, x35, x47, x53] (H) = some (t3N (tagM s q), H) := by
  intro m
  induction m with
  | zero => intro r j x4 x5 x6 x15 x23 x35 x47 x53 hm; omega
  | succ m ih =>
    intro r j x4 x5 x6 x15 x23 x35 x47 x53 hm hj hr hr2 hf
    subst hj
    by_cases hs1 : gapP s r
    ·rw [Mp (.inl hs1)] at hf
     subst hf
     have h62 : ¬ bA s (r : Int) = 62 := by rcases hs1 with (h | h) | h | h <;> omega
     have hE : tagE s q = stN s q := by unfold tagE; rw [hg, if_neg (fun h => h62 h.2.1)]
     rw [A4 hc, ← hR]
     simp +contextual -implicitDefEqProofs (maxSteps := 10000000) (disch := first | (and_intros <;> omega -splitDisjunctions) | (push_cast; and_intros <;> omega -splitDisjunctions) | fail) only [e2, e4, hs1, h62, go_sem, seval]
     exact fin (stN s q) hE.symm l1 l2
    by_cases h62 : bA s (r : Int) = 62
    ·rw [Mp (.inr h62)] at hf
     subst hf
     have hlt := CS hs1
     by_cases h2 : r = q + 2
     ·have hE : tagE s q = stN s q := by unfold tagE; rw [hg, if_neg (fun h => h.2.2 h2)]
      have t2 : ((q : Int) + 2 < r) = False := eq_false (by omega)
      rw [A4 hc, ← hR]
      simp +contextual -implicitDefEqProofs (maxSteps := 10000000) (disch := first | (and_intros <;> omega -splitDisjunctions) | (push_cast; and_intros <;> omega -splitDisjunctions) | fail) only [e2, e4, hs1, h62, t2, go_sem, seval]
      exact fin (stN s q) hE.symm l1 l2
     ·have t5 : ((r : Int) + 1).toNat = r + 1 := by omega
      have hE : tagE s q = r + 1 := by unfold tagE; rw [hg, hp1, if_pos ⟨h60, h62, h2⟩]
      have t2 : ((q : Int) + 2 < r) = True := eq_true (by omega)
      rw [A4 hc, ← hR]
      simp +contextual -implicitDefEqProofs (maxSteps := 10000000) (disch := first | (and_intros <;> omega -splitDisjunctions) | (push_cast; and_intros <;> omega -splitDisjunctions) | fail) only [e2, e4, hs1, h62, t2, t5, go_sem, seval]
      exact fin (r + 1) hE.symm (by omega) (by omega)
    ·rw [W0 hs1 h62] at hf
     have hlt := CS hs1
     rw [A4 hc, ← hR]
     simp +contextual -implicitDefEqProofs (maxSteps := 10000000) (disch := first | (and_intros <;> omega -splitDisjunctions) | (push_cast; and_intros <;> omega -splitDisjunctions) | fail) only [e2, e4, hs1, h62, go_sem, seval]
     rw [hR]
     exact ih (r + 1) ((r : Int) + 1) _ _ _ _ _ _ _ _ (by omega) (by omega) (by omega) (by omega) hf
 exact key (s.size + 1) (q + 2) ((q : Int) + 2) _ _ _ _ _ _ _ _ (by omega) (by omega) (by omega) (by omega) hg
open Go.Proofs.YthlbglmfdjdagaaGreatDoor
theorem PV (s : ByteArray) (c : UInt8) : 0 ≤ idxB s c ↔ c ∈ bs s := by
 rcases Ik s c with ⟨h1, h2⟩ | ⟨i, h1, h2, h3, h4⟩
 ·rw [h1]
  refine ⟨fun h => by omega, fun h => ?_⟩
  obtain ⟨j, hj, rfl⟩ := List.getElem_of_mem h
  have := h2 j hj
  rw [Bn hj] at this
  exact absurd rfl this
 ·rw [h1]
  refine ⟨fun _ => ?_, fun _ => by omega⟩
  have e : c = (bs s)[i]'h2 := by
   rw [Bn h2] at h3
   exact UInt8.toNat_inj.1 (by omega)
  rw [e]; exact List.getElem_mem _
def nsT : ByteArray := ⟨#[44, 91, 93, 123, 125, 35, 38, 42, 33, 124, 62, 39, 34, 37]⟩
theorem Wh : ∀ n : Nat, n < 256 → ((UInt8.ofNat n ∈ bs nsT) ↔ (flwP n ∨ (n : Int) = 35 ∨ (n : Int) = 38 ∨ (n : Int) = 42 ∨ (n : Int) = 33 ∨ (n : Int) = 124 ∨ (n : Int) = 62 ∨ (n : Int) = 39 ∨ (n : Int) = 34 ∨ (n : Int) = 37)) := by
 intro n hn
 have hb : bs nsT = [44, 91, 93, 123, 125, 35, 38, 42, 33, 124, 62, 39, 34, 37] := rfl
 rw [hb]
 have hx : ∀ m : Nat, m < 256 → (UInt8.ofNat n = UInt8.ofNat m ↔ (n : Int) = m) := fun m hm => by
  constructor
  ·intro h
   have := congrArg UInt8.toNat h
   rw [UInt8.toNat_ofNat_of_lt' (by simpa using hn), UInt8.toNat_ofNat_of_lt' (by simpa using hm)] at this
   omega
  ·intro h
   have : n = m := by omega
   rw [this]
 simp only [List.mem_cons, List.not_mem_nil, or_false]
 unfold flwP
 rw [show (44 : UInt8) = UInt8.ofNat 44 from rfl, show (91 : UInt8) = UInt8.ofNat 91 from rfl, show (93 : UInt8) = UInt8.ofNat 93 from rfl, show (123 : UInt8) = UInt8.ofNat 123 from rfl, show (125 : UInt8) = UInt8.ofNat 125 from rfl,
  show (35 : UInt8) = UInt8.ofNat 35 from rfl, show (38 : UInt8) = UInt8.ofNat 38 from rfl, show (42 : UInt8) = UInt8.ofNat 42 from rfl, show (33 : UInt8) = UInt8.ofNat 33 from rfl, show (124 : UInt8) = UInt8.ofNat 124 from rfl,
  show (62 : UInt8) = UInt8.ofNat 62 from rfl, show (39 : UInt8) = UInt8.ofNat 39 from rfl, show (34 : UInt8) = UInt8.ofNat 34 from rfl, show (37 : UInt8) = UInt8.ofNat 37 from rfl,
  hx 44 (by decide), hx 91 (by decide), hx 93 (by decide), hx 123 (by decide), hx 125 (by decide), hx 35 (by decide), hx 38 (by decide), hx 42 (by decide), hx 33 (by decide), hx 124 (by decide), hx 62 (by decide), hx 39 (by decide), hx 34 (by decide), hx 37 (by decide)]
 omega
theorem B6 (s : ByteArray) (p : Int) (f : Bool) (fl : Nat) (H : LH) (hs : s.size ≤ 1099511627776) : run 91 [.str s, .int .i64 p, .bool f] fl H = some (.bool (pfB s (spt s p) f), H) := by
 have e1 := fun fl H => AA s p fl H hs
 have h1 := BO s p
 generalize spt s p = q at *
 have e2 := fun q (h : (0 : Int) ≤ q) fl H => Ad s q fl H h hs
 have e3 := fun b fl H => CP b fl H
 have e4 := fun q (h : (0 : Int) ≤ q) fl H => B7 s q fl H h hs
 have hp1 : ((q + 1 : Nat) : Int) = (q : Int) + 1 := by omega
 unfold pfB
 rw [hp1]
 by_cases hg : gapP s q
 ·rw [decide_eq_false (fun h => h.1 hg)]
  unfold run at *
  rw [z91]
  simp +contextual -implicitDefEqProofs (maxSteps := 10000000) (disch := first | (and_intros <;> omega -splitDisjunctions) | (push_cast; and_intros <;> omega -splitDisjunctions) | fail) only [e1, e2, e4, hg, go_sem, seval]
 have hlt := CS hg
 have b0 := J6 (s := s) (p := q) (by omega) (by omega)
 have b1 := D9 s q
 obtain ⟨n, hn⟩ : ∃ n : Nat, bA s q = n := ⟨(bA s q).toNat, by omega⟩
 have e5 := fun fl H => GB nsT (bA s q) fl H
 rw [hn, Int.toNat_natCast] at e5
 have hm := (PV nsT (UInt8.ofNat n)).trans (Wh n (by omega))
 have hw : IntKind.wrap .u8 (n : Int) = n := IntWalk.u8_in _ (by omega)
 generalize idxB nsT (UInt8.ofNat n) = ix at *
 unfold nsT at e5
 rw [hn]
 have hN : notP (n : Int) ↔ (((n : Int) = 64 ∨ (n : Int) = 96) ∨ 0 ≤ ix) := by
  rw [hm]; unfold notP; grind
 have hF : ∀ p : Int, fwP s f p ↔ (f = true ∧ flwP (bA s p)) := fun _ => Iff.rfl
 simp only [hN, hF, hg, not_false_eq_true, true_and]
 unfold run at *
 rw [z91]
 simp +contextual -implicitDefEqProofs (maxSteps := 10000000) (disch := first | (and_intros <;> omega -splitDisjunctions) | (push_cast; and_intros <;> omega -splitDisjunctions) | fail) only [e1, e2, e3, e4, e5, hg, hn, hw, go_sem, seval]
 refine BM (fun c => ?_) (fun c => ?_)
 ·refine congrArg (fun b => some (V.bool b, H)) ?_; grind
 refine BM (fun d => ?_) (fun d => ?_)
 ·refine congrArg (fun b => some (V.bool b, H)) ?_; grind
 ·refine congrArg (fun b => some (V.bool b, H)) ?_; grind
theorem R6 {s : ByteArray} {p0 : Nat} {f : Bool} {q : Nat} (h : ¬ GL s p0 f q) : q < s.size := by
 have : ¬ bA s q < 0 := fun e => h (.inl (.inr e))
 rw [M2] at this
 omega
theorem Tz {s : ByteArray} {p0 : Nat} {f : Bool} {q : Nat} (h : ¬ GL s p0 f q) : pgN s p0 f q = pgN s p0 f (q + 1) := by rw [pgN, if_pos ⟨R6 h, h⟩]
theorem Ir {s : ByteArray} {p0 : Nat} {f : Bool} {q : Nat} (h : GL s p0 f q) : pgN s p0 f q = q := by rw [pgN, if_neg (fun k => k.2 h)]
theorem Ln (s : ByteArray) (p0 : Nat) (f : Bool) : ∀ (d q : Nat), s.size - q ≤ d → q ≤ pgN s p0 f q ∧ (q ≤ s.size → pgN s p0 f q ≤ s.size)
 | 0, p, h => by
   rw [pgN, if_neg (fun k => by omega)]
   exact ⟨Nat.le_refl _, id⟩
 | d + 1, p, h => by
   by_cases k : p < s.size ∧ ¬ GL s p0 f p
   ·rw [pgN, if_pos k]
    have := Ln s p0 f d (p + 1) (by omega)
    exact ⟨by omega, fun _ => this.2 (by omega)⟩
   ·rw [pgN, if_neg k]
    exact ⟨Nat.le_refl _, id⟩
theorem MM (s : ByteArray) (p0 : Nat) (f : Bool) (p : Nat) : p ≤ pgN s p0 f p := (Ln s p0 f _ p (Nat.le_refl _)).1
theorem TA {s : ByteArray} {p0 : Nat} {f : Bool} {p : Nat} (h : p ≤ s.size) : pgN s p0 f p ≤ s.size := (Ln s p0 f _ p (Nat.le_refl _)).2 h
theorem Vp {s : ByteArray} {p0 q : Nat} : trN s p0 (q + 1) = if p0 < q + 1 ∧ whP s q then trN s p0 q else q + 1 := rfl
theorem LQ (s : ByteArray) (p0 : Nat) : ∀ q, p0 ≤ q → p0 ≤ trN s p0 q ∧ trN s p0 q ≤ q
 | 0, h => ⟨h, Nat.le_refl _⟩
 | q + 1, h => by
   rw [Vp]
   by_cases k : p0 < q + 1 ∧ whP s q
   ·rw [if_pos k]
    have := LQ s p0 q (by omega)
    omega
   ·rw [if_neg k]; omega
theorem JT (s : ByteArray) (p : Nat) (f : Bool) : p ≤ peN s p f := (LQ s p _ (MM s p f p)).1
theorem Ey {s : ByteArray} {p : Nat} {f : Bool} (h : p ≤ s.size) : peN s p f ≤ s.size := Nat.le_trans (LQ s p _ (MM s p f p)).2 (TA h)
theorem Cx (s : ByteArray) (p : Int) (f : Bool) (fl : Nat) (H : LH) (hs : s.size ≤ 1099511627776) : run 99 [.str s, .int .i64 p, .bool f] fl H = some (.int .i64 (peN s (spt s p) f), H) := by
 have e1 := fun fl H => AA s p fl H hs
 have h1 := BO s p
 generalize spt s p = p0 at *
 have e2 := fun q (h : (0 : Int) ≤ q) fl H => Ad s q fl H h hs
 have e3 := fun b fl H => CP b fl H
 have e4 := fun q (h : (0 : Int) ≤ q) fl H => B7 s q fl H h hs
 have e5 := fun b fl H => CX b fl H
 have e6 := fun b fl H => Bf b fl H
 unfold peN
 have hgl := MM s p0 f p0
 have hgh := TA (p0 := p0) (f := f) h1
 generalize hres : pgN s p0 f p0 = g at *
 unfold run at *
 rw [z99]
 simp +contextual -implicitDefEqProofs (maxSteps := 10000000) (disch := first | (and_intros <;> omega -splitDisjunctions) | (push_cast; and_intros <;> omega -splitDisjunctions) | fail) only [e1, go_sem, seval]
 refine Ae fun c R hc hR => ?_
 have key : ∀ (P : Option (V × LH) → Prop) (hk : ∀  (x2 x6 x8 x9 x18 x63 x75 : Option V), P (zEv (Ac (mkR Tryz.prog cfg ok [0, 1, 2, 6, 7, 8, 9, 18, 63, 75] H.length) .pure H [ResultVar.tmp 6]) (mkR Tryz.prog cfg ok [0, 1, 2, 6, 7, 8, 9, 18, 63, 75] H.length) R .nrm [some (.str s), some (.int .i64 p0), x2, x6, some (.int .i64 g), x8, x9, x18, x63, x75] (H)))
  (m : Nat) (q : Nat) (j : Int) (x6 x8 x9 x18 x63 x75 : Option V), s.size - q < m → j = (q : Int) → p0 ≤ q → q ≤ s.size → pgN s p0 f q = g →
  P (zEv (Ac (mkR Tryz.prog cfg ok [0, 1, 2, 6, 7, 8, 9, 18, 63, 75] H.length) .pure H [ResultVar.tmp 6]) (mkR Tryz.prog cfg ok [0, 1, 2, 6, 7, 8, 9, 18, 63, 75] H.length) (K.code (Code.loop c) :: K.blk 0 :: R) .nrm [some (.str s), some (.int .i64 p0), some (.bool f), x6, some (.int .i64 j), x8, x9, x18, x63, x75] (H)) := by
  intro P hk m
  induction m with
  | zero => intro q j x6 x8 x9 x18 x63 x75 hm; omega
  | succ m ih =>
    intro q j x6 x8 x9 x18 x63 x75 hm hj hq0 hq hf
    subst hj
    have hF : fwP s f q = (f = true ∧ flwP (bA s q)) := rfl
    have hp1 : ((q + 1 : Nat) : Int) = (q : Int) + 1 := by omega
    have hS : GL s p0 f q = ((bA s q = 10 ∨ bA s q < 0) ∨ (bA s q = 35 ∧ p0 < q ∧ whP s ((q : Int) - 1)) ∨ (bA s q = 58 ∧ (gapP s ((q : Int) + 1) ∨ (f = true ∧ flwP (bA s ((q : Int) + 1))))) ∨ (f = true ∧ flwP (bA s q))) := by rw [← hp1]; rfl
    by_cases hb : bA s q = 10 ∨ bA s q < 0
    ·rw [Ir (.inl hb)] at hf
     subst hf
     rw [A4 hc]
     simp +contextual -implicitDefEqProofs (maxSteps := 10000000) (disch := first | (and_intros <;> omega -splitDisjunctions) | (push_cast; and_intros <;> omega -splitDisjunctions) | fail) only [e2, e3, e4, e5, e6, hb, go_sem, seval]
     exact hk _ _ _ _ _ _ _
    have hlt : q < s.size := by
     have : ¬ bA s q < 0 := fun e => hb (.inr e)
     rw [M2] at this
     omega
    by_cases hA : bA s q = 35 ∧ (p0 : Int) < q ∧ (bA s ((q : Int) - 1) = 32 ∨ bA s ((q : Int) - 1) = 9)
    ·rw [Ir (by rw [hS]; exact .inr (.inl ⟨hA.1, by omega, hA.2.2⟩))] at hf
     subst hf
     obtain ⟨a1, a2, a3⟩ := hA
     rw [A4 hc]
     simp +contextual -implicitDefEqProofs (maxSteps := 10000000) (disch := first | (and_intros <;> omega -splitDisjunctions) | (push_cast; and_intros <;> omega -splitDisjunctions) | fail) only [e2, e3, e4, e5, e6, a1, a2, a3, go_sem, seval]
     exact hk _ _ _ _ _ _ _
    have go : ¬ GL s p0 f q → pgN s p0 f (q + 1) = g := fun h => by rw [← Tz h]; exact hf
    have here : GL s p0 f q → q = g := fun h => by rw [← Ir h]; exact hf
    rw [hS] at go here
    cases f with
    | true =>
      by_cases hB : bA s q = 58 ∧ (gapP s ((q : Int) + 1) ∨ flwP (bA s ((q : Int) + 1)))
      ·have := here (.inr (.inr (.inl ⟨hB.1, hB.2.imp id (fun h => ⟨rfl, h⟩)⟩)))
       subst this
       obtain ⟨b1, b2⟩ := hB
       rw [A4 hc]
       simp +contextual -implicitDefEqProofs (maxSteps := 10000000) (disch := first | (and_intros <;> omega -splitDisjunctions) | (push_cast; and_intros <;> omega -splitDisjunctions) | fail) only [e2, e3, e4, e5, e6, b1, b2, go_sem, seval]
       exact hk _ _ _ _ _ _ _
      ·by_cases hC : flwP (bA s q)
       ·have := here (.inr (.inr (.inr ⟨rfl, hC⟩)))
        subst this
        rw [A4 hc]
        simp +contextual -implicitDefEqProofs (maxSteps := 10000000) (disch := first | (and_intros <;> omega -splitDisjunctions) | (push_cast; and_intros <;> omega -splitDisjunctions) | fail) only [e2, e3, e4, e5, e6, hb, hA, hB, hC, go_sem, seval]
        exact hk _ _ _ _ _ _ _
       ·have hg := go (fun h => by
         rcases h with h | h | h | h
         ·exact hb h
         ·exact hA ⟨h.1, by omega, h.2.2⟩
         ·exact hB ⟨h.1, h.2.imp id (fun h => h.2)⟩
         ·exact hC h.2)
        rw [A4 hc]
        simp +contextual -implicitDefEqProofs (maxSteps := 10000000) (disch := first | (and_intros <;> omega -splitDisjunctions) | (push_cast; and_intros <;> omega -splitDisjunctions) | fail) only [e2, e3, e4, e5, e6, hb, hA, hB, hC, go_sem, seval]
        exact ih (q + 1) ((q : Int) + 1) _ _ _ _ _ _ (by omega) (by omega) (by omega) (by omega) hg
    | false =>
      by_cases hB : bA s q = 58 ∧ gapP s ((q : Int) + 1)
      ·have := here (.inr (.inr (.inl ⟨hB.1, .inl hB.2⟩)))
       subst this
       obtain ⟨b1, b2⟩ := hB
       rw [A4 hc]
       simp +contextual -implicitDefEqProofs (maxSteps := 10000000) (disch := first | (and_intros <;> omega -splitDisjunctions) | (push_cast; and_intros <;> omega -splitDisjunctions) | fail) only [e2, e3, e4, e5, e6, b1, b2, go_sem, seval]
       exact hk _ _ _ _ _ _ _
      ·have hg := go (fun h => by
        rcases h with h | h | h | h
        ·exact hb h
        ·exact hA ⟨h.1, by omega, h.2.2⟩
        ·exact hB ⟨h.1, h.2.resolve_right (fun h => by cases h.1)⟩
        ·cases h.1)
       rw [A4 hc]
       simp +contextual -implicitDefEqProofs (maxSteps := 10000000) (disch := first | (and_intros <;> omega -splitDisjunctions) | (push_cast; and_intros <;> omega -splitDisjunctions) | fail) only [e2, e3, e4, e5, e6, hb, hA, hB, go_sem, seval]
       exact ih (q + 1) ((q : Int) + 1) _ _ _ _ _ _ (by omega) (by omega) (by omega) (by omega) hg
 refine key (fun x => x = some (.int .i64 (trN s p0 g), H)) (fun x2 x6 x8 x9 x18 x63 x75 => ?_) (s.size + 1) p0 _ _ _ _ _ _ _ (by omega) rfl (Nat.le_refl _) h1 hres
 rw [← hR]
 clear key hR hc R c
 simp +contextual -implicitDefEqProofs (maxSteps := 10000000) (disch := first | (and_intros <;> omega -splitDisjunctions) | (push_cast; and_intros <;> omega -splitDisjunctions) | fail) only [go_sem, seval]
 refine Ae fun c2 R2 hc2 hR2 => ?_
 have key2 : ∀ (m : Nat) (q : Nat) (j : Int) (x2 x6 x8 x9 x18 x63 x75 : Option V), q < m → j = (q : Int) → p0 ≤ q → q ≤ s.size → trN s p0 q = trN s p0 g →
  zEv (Ac (mkR Tryz.prog cfg ok [0, 1, 2, 6, 7, 8, 9, 18, 63, 75] H.length) .pure H [ResultVar.tmp 6]) (mkR Tryz.prog cfg ok [0, 1, 2, 6, 7, 8, 9, 18, 63, 75] H.length) (K.code (Code.loop c2) :: K.blk 2 :: R2) .nrm [some (.str s), some (.int .i64 p0), x2, x6, some (.int .i64 j), x8, x9, x18, x63, x75] (H) = some (.int .i64 (trN s p0 g), H) := by
  intro m
  induction m with
  | zero => intro q j x2 x6 x8 x9 x18 x63 x75 hm; omega
  | succ m ih2 =>
    intro q j x2 x6 x8 x9 x18 x63 x75 hm hj hq0 hq hf
    subst hj
    rw [A4 hc2, ← hR2]
    cases q with
    | zero =>
      have : p0 = 0 := by omega
      have t1 : ((p0 : Int) < ((0 : Nat) : Int)) = False := eq_false (by omega)
      simp +contextual -implicitDefEqProofs (maxSteps := 10000000) (disch := first | (and_intros <;> omega -splitDisjunctions) | (push_cast; and_intros <;> omega -splitDisjunctions) | fail) only [e2, e6, t1, go_sem, seval]
      rw [← hf]; rfl
    | succ q =>
      have t2 : (((q + 1 : Nat) : Int) - 1) = q := by omega
      rw [Vp] at hf
      by_cases h0 : p0 < q + 1
      ·have t1 : ((p0 : Int) < ((q + 1 : Nat) : Int)) = True := eq_true (by omega)
       by_cases hw : bA s q = 32 ∨ bA s q = 9
       ·rw [if_pos ⟨h0, hw⟩] at hf
        simp +contextual -implicitDefEqProofs (maxSteps := 10000000) (disch := first | (and_intros <;> omega -splitDisjunctions) | (push_cast; and_intros <;> omega -splitDisjunctions) | fail) only [e2, e6, t1, t2, hw, go_sem, seval]
        rw [hR2]
        exact ih2 q _ _ _ _ _ _ _ _ (by omega) (by omega) (by omega) (by omega) hf
       ·rw [if_neg (fun h => hw h.2)] at hf
        simp +contextual -implicitDefEqProofs (maxSteps := 10000000) (disch := first | (and_intros <;> omega -splitDisjunctions) | (push_cast; and_intros <;> omega -splitDisjunctions) | fail) only [e2, e6, t1, t2, hw, go_sem, seval]
        rw [← hf]
      ·have t1 : ((p0 : Int) < ((q + 1 : Nat) : Int)) = False := eq_false (by omega)
       rw [if_neg (fun h => h0 h.1)] at hf
       simp +contextual -implicitDefEqProofs (maxSteps := 10000000) (disch := first | (and_intros <;> omega -splitDisjunctions) | (push_cast; and_intros <;> omega -splitDisjunctions) | fail) only [e2, e6, t1, go_sem, seval]
       rw [← hf]
 exact key2 (s.size + 1) g _ _ _ _ _ _ _ _ (by omega) rfl hgl (hgh) rfl
open Go.Proofs.YthlbglmfdjdagaaGreatDoor
theorem Mz {s : ByteArray} {d a k : Nat} : Es s (d + 1) a k = if lonB s a = true then (if endN s a = s.size then none else Es s d (endN s a + 1) (k + 1)) else some (a, k) := rfl
theorem Ht (s : ByteArray) : ∀ (d a k a' k' : Nat), a ≤ s.size → Es s d a k = some (a', k') → k ≤ k' ∧ a + (k' - k) ≤ a' ∧ a' ≤ s.size
 | 0, _, _, _, _, _, h => by cases h
 | d + 1, a, k, a', k', ha, h => by
   rw [Mz] at h
   by_cases h1 : lonB s a = true
   ·rw [if_pos h1] at h
    by_cases h2 : endN s a = s.size
    ·rw [if_pos h2] at h; cases h
    ·rw [if_neg h2] at h
     have l1 := B4 ha; have l2 := Be ha
     have := Ht s d _ _ _ _ (by omega) h
     omega
   ·rw [if_neg h1] at h
    cases h
    exact ⟨Nat.le_refl _, by omega, ha⟩
theorem Gm {s : ByteArray} {e : Nat} {n : Int} {f : Bool} {q k : Nat} (he : e ≤ s.size) (h : Io s e n f = some (q, k)) : e + 1 + k ≤ q ∧ q ≤ s.size ∧ q < peN s q f := by
 unfold Io at h
 by_cases h1 : bA s (wtN s e) ≠ 10
 ·rw [if_pos h1] at h; cases h
 ·rw [if_neg h1] at h
  have h1 : bA s (wtN s e) = 10 := by simpa using h1
  have w1 := B8 s e
  have w2 := Ai h1 (by omega)
  cases h2 : Es s (s.size + 1) (wtN s e + 1) 0 with
  | none => rw [h2] at h; cases h
  | some ak =>
    obtain ⟨a, k0⟩ := ak
    rw [h2] at h
    have h3 := Ht s _ _ _ _ _ (by omega) h2
    have w3 := B8 s a; have w4 := Bm h3.2.2
    have pl := JT s (wtN s a) f
    dsimp only at h
    by_cases h4 : Ah s a ≠ 0 ∨ (f = false ∧ (indN s a : Int) ≤ n) ∨ bA s (wtN s a) = 35 ∨ peN s (wtN s a) f = wtN s a
    ·rw [if_pos h4] at h; cases h
    ·rw [if_neg h4] at h
     cases h
     have : peN s (wtN s a) f ≠ wtN s a := fun e => h4 (.inr (.inr (.inr e)))
     omega
def nxV (r : Option (Nat × Nat)) : V := match r with
 | none => .tup [.int .i64 0, .int .i64 0, .bool false]
 | some (q, k) => .tup [.int .i64 q, .int .i64 k, .bool true]
theorem IN (s : ByteArray) (e : Nat) (n : Int) (f : Bool) (fl : Nat) (H : LH) (he : e ≤ s.size) (hs : s.size ≤ 1099511627776) : run 123 [.str s, .int .i64 (e : Int), .int .i64 n, .bool f] fl H = some (nxV (Io s e n f), H) := by
 have e1 := fun fl H => AJ s e fl H he hs
 have w1 := B8 s e; have w2 := Bm he
 have e2 := fun q (h : (0 : Int) ≤ q) fl H => Ad s q fl H h hs
 have e3 := fun p fl H => IC s p fl H hs
 unfold Io
 by_cases h1 : bA s (wtN s e) ≠ 10
 ·rw [if_pos h1]
  unfold run at *
  rw [z123]
  simp +contextual -implicitDefEqProofs (maxSteps := 10000000) (disch := first | (and_intros <;> omega -splitDisjunctions) | (push_cast; and_intros <;> omega -splitDisjunctions) | fail) only [e1, e2, h1, go_sem, seval]
  rfl
 rw [if_neg h1]
 have h1 : bA s (wtN s e : Int) = 10 := by simpa using h1
 have w3 := Ai h1 (by omega)
 have hcast : ((wtN s e + 1 : Nat) : Int) = (wtN s e : Int) + 1 := by omega
 refine (?_ : ∀ res, (match Es s (s.size + 1) (wtN s e + 1) 0 with | none => none | some (a, k) => if Ah s a ≠ 0 ∨ (f = false ∧ (indN s a : Int) ≤ n) ∨ bA s (wtN s a) = 35 ∨ peN s (wtN s a) f = wtN s a then none else some (wtN s a, k)) = res → _ = some (nxV res, H)) _ rfl
 intro res hres
 unfold run at *
 rw [z123]
 simp +contextual -implicitDefEqProofs (maxSteps := 10000000) (disch := first | (and_intros <;> omega -splitDisjunctions) | (push_cast; and_intros <;> omega -splitDisjunctions) | fail) only [e1, e2, h1, go_sem, seval]
 generalize hst : Es s (s.size + 1) (wtN s e + 1) 0 = st at *
 refine Ae fun c R hc hR => ?_
 have key : ∀ (m : Nat) (a k : Nat) (j jk : Int) (x8 x9 x10 x13 x19 x26 x32 x70 : Option V), s.size + 1 - a < m → j = (a : Int) → jk = (k : Int) → a ≤ s.size → k ≤ a → (∃ d, s.size - a < d ∧ Es s d a k = st) →
  zEv (Ac (mkR Tryz.prog cfg ok [0, 1, 2, 3, 8, 9, 10, 11, 12, 13, 19, 26, 32, 70] H.length) .pure H [ResultVar.tmp 8, ResultVar.tmp 9, ResultVar.tmp 10]) (mkR Tryz.prog cfg ok [0, 1, 2, 3, 8, 9, 10, 11, 12, 13, 19, 26, 32, 70] H.length) (K.code (Code.loop c) :: K.blk 0 :: R) .nrm [some (.str s), some (.int .i64 e), some (.int .i64 n), some (.bool f), x8, x9, x10, some (.int .i64 j), some (.int .i64 jk), x13, x19, x26, x32, x70] (H) = some (nxV res, H) := by
  intro m
  induction m with
  | zero => intro a k j jk x8 x9 x10 x13 x19 x26 x32 x70 hm; omega
  | succ m ih =>
    intro a k j jk x8 x9 x10 x13 x19 x26 x32 x70 hm hj hjk ha hak hf
    subst hj
    subst hjk
    obtain ⟨d, hd, hf⟩ := hf
    obtain ⟨d, rfl⟩ : ∃ d', d = d' + 1 := ⟨d - 1, by omega⟩
    rw [Mz] at hf
    have hsp := Ay ha
    have e3' := fun fl H => e3 (a : Int) fl H
    rw [hsp] at e3'
    have l1 := B4 ha; have l2 := Be ha
    have e4 := fun fl H => C2 s a fl H ha hs
    have e5 := fun fl H => AJ s a fl H ha hs
    have e6 := fun fl H => AK s a fl H ha hs
    have e7 := fun fl H => CU s a fl H ha hs
    have w5 := B8 s a; have w6 := Bm ha
    have e8 := fun fl H => Cx s (wtN s a) f fl H hs
    have hsp2 := Ay w6
    rw [hsp2] at e8
    unfold run at e4 e5 e6 e7 e8
    rw [A4 hc, ← hR]
    by_cases h2 : lonB s a = true
    ·rw [if_pos h2] at hf
     by_cases h3 : endN s a = s.size
     ·rw [if_pos h3] at hf
      subst hf
      have t1 : ((endN s a : Int) = s.size) = True := eq_true (by omega)
      simp +contextual -implicitDefEqProofs (maxSteps := 10000000) (disch := first | (and_intros <;> omega -splitDisjunctions) | (push_cast; and_intros <;> omega -splitDisjunctions) | fail) only [e3', e4, h2, t1, go_sem, seval]
      rw [← hres]; rfl
     ·rw [if_neg h3] at hf
      have t1 : ((endN s a : Int) = s.size) = False := eq_false (by omega)
      simp +contextual -implicitDefEqProofs (maxSteps := 10000000) (disch := first | (and_intros <;> omega -splitDisjunctions) | (push_cast; and_intros <;> omega -splitDisjunctions) | fail) only [e3', e4, h2, t1, go_sem, seval]
      rw [hR]
      exact ih (endN s a + 1) (k + 1) ((endN s a : Int) + 1) ((k : Int) + 1) _ _ _ _ _ _ _ _ (by omega) (by omega) (by omega) (by omega) (by omega) ⟨d, by omega, hf⟩
    ·rw [if_neg h2] at hf
     subst hf
     have h2 : lonB s a = false := by simpa using h2
     dsimp only at hres
     have dE : ((peN s (wtN s a) f : Int) = wtN s a) = (peN s (wtN s a) f = wtN s a) := propext (by omega)
     simp +contextual -implicitDefEqProofs (maxSteps := 10000000) (disch := first | (and_intros <;> omega -splitDisjunctions) | (push_cast; and_intros <;> omega -splitDisjunctions) | fail) only [e2, e3', e4, e5, e6, e7, e8, h2, dE, go_sem, seval]
     rw [← hres]
     by_cases h4 : Ah s a ≠ 0 ∨ (f = false ∧ (indN s a : Int) ≤ n) ∨ bA s (wtN s a) = 35 ∨ peN s (wtN s a) f = wtN s a
     ·rw [if_pos h4, if_pos (by grind)]; rfl
     ·rw [if_neg h4, if_neg (by grind)]; rfl
 exact key (s.size + 2) (wtN s e + 1) 0 _ _ _ _ _ _ _ _ _ _ (by omega) hcast.symm rfl (by omega) (by omega) ⟨s.size + 1, by omega, hst⟩
theorem Th {G B : LH} {v : V} {xs : List (ByteArray × Bool)} (hx : Hx G B) (ho : Own G.length B pcC 2 v xs) (hn : xs.length + 1 ≤ 1099511627) (L : LH) (x : ByteArray) (g : Bool) :
 ∃ b W, AB G.length 2 24 (B ++ L) 1 [V.str x, V.bool g] v = some (.sl b 0 2 (xs.length + 1) (xs.length + 1), W) ∧ Own G.length W pcC 2 (.sl b 0 2 (xs.length + 1) (xs.length + 1)) (xs ++ [(x, g)]) ∧ Hx G W := by
 have ap := CR (fl := G.length) (ho.ext (Hx.app (L := L))) As (Nat.le_refl _) 24 (by unfold Aj; omega) (x, g)
 have an := D8 (enc := pcC) (z := 2) (v := v) (H := B ++ L) (f0 := G.length) (by have := hx.len; rw [List.length_append]; omega) (xs ++ [(x, g)])
 have e : (xs ++ [(x, g)]).length = xs.length + 1 := by rw [List.length_append]; rfl
 rw [e] at an
 exact ⟨_, _, ap, an, M1 (hx.trans Hx.app) (ho.ext Hx.app) (Nat.le_refl _)⟩
theorem Rb (k : Nat) : szP (List.replicate k ((⟨#[]⟩ : ByteArray), false)) = k := by
 induction k with
 | zero => rfl
 | succ k ih => rw [List.replicate_succ, BE, ih]; show 0 + 1 + k = k + 1; omega
theorem FQ (xs ys : List (ByteArray × Bool)) : szP (xs ++ ys) = szP xs + szP ys := by
 induction xs with
 | nil => show szP ys = 0 + szP ys; omega
 | cons y xs ih => rw [List.cons_append, BE, BE, ih]; omega
theorem Gp {s : ByteArray} {n : Int} {f : Bool} {d e : Nat} {l : List (ByteArray × Bool)} : Ce s n f (d + 1) e l = match Io s e n f with
 | none => (DK l, e)
 | some (q, k) => Ce s n f d (peN s q f) (l ++ List.replicate k (⟨#[]⟩, false) ++ [(s.extract q (peN s q f), false)]) := rfl
theorem Lt (s : ByteArray) (p : Int) (n : Int) (f : Bool) (fl : Nat) (H : LH) (hs : s.size ≤ 16777216) : run 109 [.str s, .int .i64 p, .int .i64 n, .bool f] fl H = some (t3N (CL s (spt s p) n f), H) := by
 have e1 := fun fl H => AA s p fl H (by omega)
 have e2 := fun fl H => B6 s (spt s p) f fl H (by omega)
 have h1 := BO s p
 rw [Ay h1] at e2
 generalize spt s p = p0 at *
 unfold CL
 by_cases hf0 : pfB s p0 f = true
 rotate_left
 ·rw [if_neg hf0]
  have hf0 : pfB s p0 f = false := by simpa using hf0
  unfold run at *
  rw [z109]
  simp +contextual -implicitDefEqProofs (maxSteps := 10000000) (disch := first | (and_intros <;> omega -splitDisjunctions) | (push_cast; and_intros <;> omega -splitDisjunctions) | fail) only [e1, e2, hf0, go_sem, seval]
  rfl
 rw [if_pos hf0]
 have pl := JT s p0 f; have ph := Ey (f := f) h1
 have e3 := fun fl H => Cx s p0 f fl H (by omega)
 rw [Ay h1] at e3
 have hxz : (s.extract p0 (peN s p0 f)).size = peN s p0 f - p0 := Ap ph
 refine (?_ : ∀ res, Ce s n f (s.size + 1) (peN s p0 f) [(s.extract p0 (peN s p0 f), false)] = res → _ = some (t3N (res.1, res.2, true), H)) _ rfl
 intro res hres
 unfold run at *
 rw [z109]
 simp +contextual -implicitDefEqProofs (maxSteps := 10000000) (disch := first | (and_intros <;> omega -splitDisjunctions) | (push_cast; and_intros <;> omega -splitDisjunctions) | fail) only [e1, e2, e3, hf0, go_sem, seval]
 refine Ae fun c R hc hR => ?_
 have key : ∀ (m : Nat) (e : Nat) (j : Int) (B : LH) (lv : V) (l : List (ByteArray × Bool)) (x8 x9 x10 x13 x14 x15 x23 x44 x48 x49 x50 : Option V), s.size + 1 - e < m → j = (e : Int) → e ≤ s.size → Hx H B → Own H.length B pcC 2 lv l → szP l ≤ e + 1 → (∃ d, s.size - e < d ∧ Ce s n f d e l = res) →
  zEv (Ac (mkR Tryz.prog cfg ok [0, 1, 2, 3, 8, 9, 10, 11, 12, 13, 14, 15, 23, 44, 48, 49, 50] H.length) .pure H [ResultVar.tmp 8, ResultVar.tmp 9, ResultVar.tmp 10]) (mkR Tryz.prog cfg ok [0, 1, 2, 3, 8, 9, 10, 11, 12, 13, 14, 15, 23, 44, 48, 49, 50] H.length) (K.code (Code.loop c) :: K.blk 0 :: R) .nrm [some (.str s), some (.int .i64 p0), some (.int .i64 n), some (.bool f), x8, x9, x10, some (.int .i64 j), some lv, x13, x14, x15, x23, x44, x48, x49, x50] (B) = some (t3N (res.1, res.2, true), H) := by
  intro m
  induction m with
  | zero => intro e j B lv l x8 x9 x10 x13 x14 x15 x23 x44 x48 x49 x50 hm; omega
  | succ m ih =>
    intro e j B lv l x8 x9 x10 x13 x14 x15 x23 x44 x48 x49 x50 hm hj he hx ho hz hf
    subst hj
    obtain ⟨d, hd, hf⟩ := hf
    obtain ⟨d, rfl⟩ : ∃ d', d = d' + 1 := ⟨d - 1, by omega⟩
    rw [Gp] at hf
    have e4 := fun fl H => IN s e n f fl H he (by omega)
    have o1 := (ho.at As).isTup; have o2 := (ho.at As).one
    have hln := GO l
    cases hnx : Io s e n f with
    | none =>
      rw [hnx] at hf e4
      dsimp only at hf
      have e5 := fun fl => Fk (ho.at As) (by omega) fl
      unfold run nxV at e4
      unfold run at e5
      rw [A4 hc, ← hR]
      simp +contextual -implicitDefEqProofs (maxSteps := 10000000) (disch := first | (and_intros <;> omega -splitDisjunctions) | (push_cast; and_intros <;> omega -splitDisjunctions) | fail) only [e4, e5, o1, o2, go_sem, seval]
      rw [← hf]; rfl
    | some qk =>
      obtain ⟨q, k⟩ := qk
      rw [hnx] at hf e4
      dsimp only at hf
      obtain ⟨r1, r2, r3⟩ := Gm he hnx
      unfold run nxV at e4
      rw [A4 hc]
      simp +contextual -implicitDefEqProofs (maxSteps := 10000000) (disch := first | (and_intros <;> omega -splitDisjunctions) | (push_cast; and_intros <;> omega -splitDisjunctions) | fail) only [e4, o1, o2, go_sem, seval]
      have e6 := fun fl H => Cx s q f fl H (by omega)
      rw [Ay r2] at e6
      have ph2 := Ey (f := f) r2
      have hxz2 : (s.extract q (peN s q f)).size = peN s q f - q := Ap ph2
      unfold run at e6
      refine Ae fun c2 R2 hc2 hR2 => ?_
      have key2 : ∀ (P : Option (V × LH) → Prop) (hk2 : ∀ (C : LH) (mv : V) (hxC : Hx H C) (hoC : Own H.length C pcC 2 mv (l ++ List.replicate k (⟨#[]⟩, false))) (x8 x9 x10 x11 x14 x15 x23 x44 x48 x49 x50 : Option V), P (zEv (Ac (mkR Tryz.prog cfg ok [0, 1, 2, 3, 8, 9, 10, 11, 12, 13, 14, 15, 23, 44, 48, 49, 50] H.length) .pure H [ResultVar.tmp 8, ResultVar.tmp 9, ResultVar.tmp 10]) (mkR Tryz.prog cfg ok [0, 1, 2, 3, 8, 9, 10, 11, 12, 13, 14, 15, 23, 44, 48, 49, 50] H.length) R2 .nrm [some (.str s), some (.int .i64 p0), some (.int .i64 n), some (.bool f), x8, x9, x10, x11, some mv, some (.int .i64 q), x14, x15, x23, x44, x48, x49, x50] (C)))
       (m : Nat) (i : Nat) (ji : Int) (C : LH) (mv : V) (ml : List (ByteArray × Bool)) (x8 x9 x10 x14 x15 x23 x44 x50 : Option V), k - i < m → ji = (i : Int) → i ≤ k → Hx H C → Own H.length C pcC 2 mv ml → ml = l ++ List.replicate i (⟨#[]⟩, false) →
       P (zEv (Ac (mkR Tryz.prog cfg ok [0, 1, 2, 3, 8, 9, 10, 11, 12, 13, 14, 15, 23, 44, 48, 49, 50] H.length) .pure H [ResultVar.tmp 8, ResultVar.tmp 9, ResultVar.tmp 10]) (mkR Tryz.prog cfg ok [0, 1, 2, 3, 8, 9, 10, 11, 12, 13, 14, 15, 23, 44, 48, 49, 50] H.length) (K.code (Code.loop c2) :: K.blk 2 :: R2) .nrm [some (.str s), some (.int .i64 p0), some (.int .i64 n), some (.bool f), x8, x9, x10, some (.int .i64 e), some mv, some (.int .i64 q), x14, x15, x23, x44, some (.int .i64 k), some (.int .i64 ji), x50] (C)) := by
       intro P hk2 m
       induction m with
       | zero => intro i ji C mv ml x8 x9 x10 x14 x15 x23 x44 x50 hm; omega
       | succ m ih2 =>
         intro i ji C mv ml x8 x9 x10 x14 x15 x23 x44 x50 hm hji hik hxC hoC hml0
         subst hji
         have o3 := (hoC.at As).isTup; have o4 := (hoC.at As).one
         by_cases hlt : i < k
         ·have t1 : ((i : Int) < k) = True := eq_true (by omega)
          have hml : ml.length ≤ s.size + 2 := by rw [hml0, List.length_append, List.length_replicate]; omega
          obtain ⟨b, W, ap, oW, xW⟩ := Th hxC hoC (by omega) [.cells (pcC pc0)] ⟨#[]⟩ false
          simp only [pcC, pc0] at ap
          rw [A4 hc2]
          simp +contextual -implicitDefEqProofs (maxSteps := 10000000) (disch := first | (and_intros <;> omega -splitDisjunctions) | (push_cast; and_intros <;> omega -splitDisjunctions) | fail) only [t1, ap, o3, o4, go_sem, seval]
          exact ih2 (i + 1) ((i : Int) + 1) W _ _ _ _ _ _ _ _ _ _ (by omega) (by omega) (by omega) xW (by rw [show ml.length + 1 = (ml ++ [((⟨#[]⟩ : ByteArray), false)]).length by simp] at oW ⊢; exact oW) (by rw [hml0, List.append_assoc, ← List.replicate_succ'])
         ·have t1 : ((i : Int) < k) = False := eq_false (by omega)
          have : i = k := by omega
          subst this
          rw [A4 hc2]
          simp +contextual -implicitDefEqProofs (maxSteps := 10000000) (disch := first | (and_intros <;> omega -splitDisjunctions) | (push_cast; and_intros <;> omega -splitDisjunctions) | fail) only [t1, o3, o4, go_sem, seval]
          subst hml0
          exact hk2 C mv hxC hoC _ _ _ _ _ _ _ _ _ _ _
      refine key2 (fun x => x = some (t3N (res.1, res.2, true), H)) (fun C mv hxC hoC x8 x9 x10 x11 x14 x15 x23 x44 x48 x49 x50 => ?_) (k + 1) 0 0 B lv l _ _ _ _ _ _ _ _ (by omega) rfl (Nat.zero_le _) hx ho (by simp)
      rw [← hR2]
      clear key2 hR2 hc2
      have o3 := (hoC.at As).isTup; have o4 := (hoC.at As).one
      have hml : (l ++ List.replicate k ((⟨#[]⟩ : ByteArray), false)).length ≤ s.size + 2 := by rw [List.length_append, List.length_replicate]; omega
      obtain ⟨b, W, ap, oW, xW⟩ := Th hxC hoC (by omega) [.cells (pcC (s.extract q (peN s q f), false))] (s.extract q (peN s q f)) false
      simp only [pcC] at ap
      have hsz : szP (l ++ List.replicate k ((⟨#[]⟩ : ByteArray), false) ++ [(s.extract q (peN s q f), false)]) ≤ peN s q f + 1 := by
       rw [FQ, FQ, Rb]
       show szP l + k + ((s.extract q (peN s q f)).size + 1 + 0) ≤ _
       omega
      generalize hl2 : l ++ List.replicate k ((⟨#[]⟩ : ByteArray), false) = l2 at *
      simp +contextual -implicitDefEqProofs (maxSteps := 10000000) (disch := first | (and_intros <;> omega -splitDisjunctions) | (push_cast; and_intros <;> omega -splitDisjunctions) | fail) only [e6, ap, o3, o4, go_sem, seval]
      exact ih (peN s q f) _ W _ _ _ _ _ _ _ _ _ _ _ _ _ (by omega) rfl ph2 xW (by rw [show l2.length + 1 = (l2 ++ [(s.extract q (peN s q f), false)]).length by simp] at oW ⊢; exact oW) hsz ⟨d, by omega, hf⟩
 exact key (s.size + 2) (peN s p0 f) _ _ _ [(s.extract p0 (peN s p0 f), false)] _ _ _ _ _ _ _ _ _ _ _ (by omega) rfl ph Hx.app (.inr ⟨H.length, rfl, by rw [A7]; rfl, Nat.le_refl _⟩) (by show (s.extract p0 (peN s p0 f)).size + 1 + 0 ≤ _; omega) ⟨s.size + 1, by omega, hres⟩
open Go.Proofs.YthlbglmfdjdagaaGreatDoor
theorem I3 {s : ByteArray} {g : Bool} {q : QS} (h : Ah s (q.pos + 1) = 0) : (q.ends s g).pos = wtN s (q.pos + 1) := by unfold QS.ends; exact if_pos h
theorem SR (s : ByteArray) : ∀ (d : Nat) (q : QS), s.size - q.pos < d → q.pos ≤ s.size → (sgGo s d q).2.2 = 0 → (q.pos : Int) < (sgGo s d q).2.1 ∧ (sgGo s d q).2.1 ≤ s.size := by
 intro d
 induction d with
 | zero => intro q h; omega
 | succ d ih =>
   intro q hd hq
   rw [QZ]
   by_cases h1 : q.pos < s.size
   rotate_left
   ·rw [if_neg h1]; intro h; cases h
   rw [if_pos h1]
   by_cases h2 : bA s q.pos = 10
   ·rw [if_pos h2]
    by_cases h3 : Ah s (q.pos + 1) = 0
    ·rw [if_pos h3]
     have w1 := B8 s (q.pos + 1); have w2 := Bm (s := s) (p := q.pos + 1) (by omega)
     have hp := I3 (g := false) h3
     intro h
     have := ih (q.ends s false) (by rw [hp]; omega) (by rw [hp]; exact w2) h
     rw [hp] at this; omega
    ·rw [if_neg h3]; intro h; cases h
   rw [if_neg h2]
   by_cases h3 : bA s q.pos = 39
   ·rw [if_pos h3]
    by_cases h4 : bA s (q.pos + 1) = 39
    ·rw [if_pos h4]
     have := Ai (s := s) (p := q.pos + 1) (c := 39) h4 (by omega)
     intro h
     have hp : (q.put ⟨#[39]⟩ 2 true).pos = q.pos + 2 := rfl
     have := ih (q.put ⟨#[39]⟩ 2 true) (by rw [hp]; omega) (by rw [hp]; omega) h
     rw [hp] at this; omega
    ·rw [if_neg h4]; intro _; show (q.pos : Int) < (q.pos : Int) + 1 ∧ (q.pos : Int) + 1 ≤ _; omega
   rw [if_neg h3]
   intro h
   have := ih (q.put (b1 (bA s q.pos)) 1 (decide (¬bA s q.pos = 32 ∧ ¬bA s q.pos = 9))) (by show s.size - (q.pos + 1) < d; omega) (by show q.pos + 1 ≤ _; omega) h
   have hp : (q.put (b1 (bA s q.pos)) 1 (decide (¬bA s q.pos = 32 ∧ ¬bA s q.pos = 9))).pos = q.pos + 1 := rfl
   rw [hp] at this; omega
theorem RQ (s : ByteArray) : ∀ (d : Nat) (q : QS), s.size - q.pos < d → q.pos ≤ s.size → (dqGo s d q).2.2 = 0 → (q.pos : Int) < (dqGo s d q).2.1 ∧ (dqGo s d q).2.1 ≤ s.size := by
 intro d
 induction d with
 | zero => intro q h; omega
 | succ d ih =>
   intro q hd hq
   have ends : ∀ (g : Bool) (q2 : QS), q.pos ≤ q2.pos → q2.pos < s.size → (Ft s (dqGo s d) g q2).2.2 = 0 → (q.pos : Int) < (Ft s (dqGo s d) g q2).2.1 ∧ (Ft s (dqGo s d) g q2).2.1 ≤ s.size := by
    intro g q2 h1 h2
    unfold Ft
    by_cases h3 : Ah s (q2.pos + 1) = 0
    ·rw [if_pos h3]
     have w1 := B8 s (q2.pos + 1); have w2 := Bm (s := s) (p := q2.pos + 1) (by omega)
     have hp := I3 (g := g) h3
     intro h
     have := ih (q2.ends s g) (by rw [hp]; omega) (by rw [hp]; exact w2) h
     rw [hp] at this; omega
    ·rw [if_neg h3]; intro h; cases h
   rw [Pi]
   by_cases h1 : q.pos < s.size
   rotate_left
   ·rw [if_neg h1]; intro h; cases h
   rw [if_pos h1]
   by_cases h2 : bA s q.pos = 10
   ·rw [if_pos h2]; exact ends false q (Nat.le_refl _) h1
   rw [if_neg h2]
   by_cases h3 : bA s q.pos = 92
   ·rw [if_pos h3]
    by_cases h4 : bA s (q.pos + 1) = 10
    ·rw [if_pos h4]
     have := Ai (s := s) (p := q.pos + 1) (c := 10) h4 (by omega)
     exact ends true q.adv (by show q.pos ≤ q.pos + 1; omega) (by show q.pos + 1 < _; omega)
    ·rw [if_neg h4]
     by_cases h5 : (escA s q.pos).2 = 0
     ·rw [if_pos h5]; intro h; cases h
     ·rw [if_neg h5]
      have hr := (I4 (s := s) (p := q.pos)).resolve_left h5
      intro h
      have hp : (q.put (escA s q.pos).1 ((escA s q.pos).2 - q.pos).toNat true).pos = q.pos + ((escA s q.pos).2 - q.pos).toNat := rfl
      have := ih (q.put (escA s q.pos).1 ((escA s q.pos).2 - q.pos).toNat true) (by rw [hp]; omega) (by rw [hp]; omega) h
      rw [hp] at this; omega
   rw [if_neg h3]
   by_cases h4 : bA s q.pos = 34
   ·rw [if_pos h4]; intro _; show (q.pos : Int) < (q.pos : Int) + 1 ∧ (q.pos : Int) + 1 ≤ _; omega
   rw [if_neg h4]
   intro h
   have hp : (q.put (b1 (bA s q.pos)) 1 (decide (¬bA s q.pos = 32 ∧ ¬bA s q.pos = 9))).pos = q.pos + 1 := rfl
   have := ih (q.put (b1 (bA s q.pos)) 1 (decide (¬bA s q.pos = 32 ∧ ¬bA s q.pos = 9))) (by rw [hp]; omega) (by rw [hp]; omega) h
   rw [hp] at this; omega
theorem Cl {s : ByteArray} {p : Nat} (hp : p ≤ s.size) (h : (AS s p).2.2 = 0) : (p : Int) < (AS s p).2.1 ∧ (AS s p).2.1 ≤ s.size := by
 unfold AS at *
 by_cases h1 : bA s p = 39
 ·rw [if_pos h1] at *
  have hl := Ai h1 (by omega)
  have := SR s (s.size + 1) ⟨p + 1, [], ⟨#[]⟩, 0⟩ (by show s.size - (p + 1) < _; omega) (by show p + 1 ≤ _; omega) h
  have e : ((⟨p + 1, [], ⟨#[]⟩, 0⟩ : QS).pos : Int) = p + 1 := by show ((p + 1 : Nat) : Int) = _; omega
  rw [e] at this; omega
 ·rw [if_neg h1] at h; cases h
theorem C8 {s : ByteArray} {p : Nat} (hp : p ≤ s.size) (h : (AR s p).2.2 = 0) : (p : Int) < (AR s p).2.1 ∧ (AR s p).2.1 ≤ s.size := by
 unfold AR at *
 by_cases h1 : bA s p = 34
 ·rw [if_pos h1] at *
  have hl := Ai h1 (by omega)
  have := RQ s (s.size + 1) ⟨p + 1, [], ⟨#[]⟩, 0⟩ (by show s.size - (p + 1) < _; omega) (by show p + 1 ≤ _; omega) h
  have e : ((⟨p + 1, [], ⟨#[]⟩, 0⟩ : QS).pos : Int) = p + 1 := by show ((p + 1 : Nat) : Int) = _; omega
  rw [e] at this; omega
 ·rw [if_neg h1] at h; cases h
theorem Cd {s : ByteArray} {p : Nat} (hp : p ≤ s.size) (h : (AP s p).2.2 = true) : p + 2 ≤ (AP s p).2.1 ∧ (AP s p).2.1 ≤ s.size ∧ (AP s p).1.size ≤ 60 ∧ (AP s p).1 ≠ ⟨#[]⟩ := by
 unfold AP at *
 by_cases h1 : (bA s p = 38 ∨ bA s p = 42) ∧ p + 2 ≤ stN s (p + 1) ∧ stN s (p + 1) ≤ p + 61
 ·rw [if_pos h1] at *
  have hl : p < s.size := by rcases h1.1 with h | h <;> exact Ai h (by omega)
  have := N1 (s := s) (p := p + 1) (by omega)
  have hz : (s.extract (p + 1) (stN s (p + 1))).size = stN s (p + 1) - (p + 1) := Ap this
  refine ⟨h1.2.1, this, by show (s.extract (p + 1) (stN s (p + 1))).size ≤ 60; omega, fun e => ?_⟩
  have : (s.extract (p + 1) (stN s (p + 1))).size = 0 := by
   have e2 : s.extract (p + 1) (stN s (p + 1)) = ⟨#[]⟩ := e
   rw [e2]; rfl
  omega
 ·rw [if_neg h1] at h; cases h
theorem WL {s : ByteArray} {p e : Nat} (hp : p ≤ e) (he : e ≤ s.size) : (bs (s.extract p e)).any (fun b => b == 10) = decide (endN s p < e) := by
 rw [Bool.eq_iff_iff, List.any_eq_true, decide_eq_true_iff]
 have hps : p ≤ s.size := by omega
 have hz : (s.extract p e).size = e - p := Ap he
 have hb : ∀ (j : Nat) (hj : j < (bs (s.extract p e)).length), ((bs (s.extract p e))[j].toNat : Int) = bA s (p + j : Nat) := by
  intro j hj
  have hj' : j < e - p := by rw [C6, hz] at hj; exact hj
  rw [Bn (by omega)]
  simp only [HX]
  rw [List.getElem_take, List.getElem_drop]
 constructor
 ·rintro ⟨x, hx, hxe⟩
  obtain ⟨j, hj, rfl⟩ := List.getElem_of_mem hx
  have h1 := hb j hj
  have h2 : (bs (s.extract p e))[j] = 10 := by simpa using hxe
  rw [h2] at h1
  have hj' : j < e - p := by rw [C6, hz] at hj; exact hj
  refine Nat.lt_of_not_le fun h => ?_
  exact KO hps (p + j : Nat) (by omega) (by omega) (by rw [← h1]; rfl)
 ·intro h
  have l1 := B4 hps
  have h1 := G9 hps (by omega)
  have hj : endN s p - p < (bs (s.extract p e)).length := by rw [C6, hz]; omega
  refine ⟨(bs (s.extract p e))[endN s p - p], List.getElem_mem _, ?_⟩
  have h2 := hb (endN s p - p) hj
  rw [show p + (endN s p - p) = endN s p by omega, h1] at h2
  rw [beq_iff_eq]
  exact UInt8.toNat_inj.1 (by rw [show (10 : UInt8).toNat = 10 from rfl]; omega)
theorem IG (s : ByteArray) (c : UInt8) (fl : Nat) (H : LH) : run 98 [.str s, .str ⟨#[c]⟩] fl H = some (.bool ((bs s).any (fun b => b == c)), H) := by
 have e1 := fun fl H => O6 s c fl H
 have e2 : ∀ fl H, run 115 [.str s, .str ⟨#[c]⟩] fl H = some (.int .i64 (idxB s c), H) := by
  intro fl H
  unfold run at *
  rw [z115]
  simp +contextual -implicitDefEqProofs (maxSteps := 10000000) (disch := first | (and_intros <;> omega -splitDisjunctions) | (push_cast; and_intros <;> omega -splitDisjunctions) | fail) only [e1, go_sem, seval]
 have hany : (bs s).any (fun b => b == c) = decide (0 ≤ idxB s c) := by
  rw [Bool.eq_iff_iff, decide_eq_true_iff, PV, List.any_eq_true]
  constructor
  ·rintro ⟨x, hx, e⟩; rw [beq_iff_eq] at e; rw [← e]; exact hx
  ·intro h; exact ⟨c, h, by simp⟩
 rw [hany]
 unfold run at *
 rw [z98]
 simp +contextual -implicitDefEqProofs (maxSteps := 10000000) (disch := first | (and_intros <;> omega -splitDisjunctions) | (push_cast; and_intros <;> omega -splitDisjunctions) | fail) only [e2, go_sem, seval]
theorem Cj (b : Int) (fl : Nat) (H : LH) : run 89 [.int .i64 b] fl H = some (.bool (decide (quoB b)), H) := by
 unfold run
 rw [z89]
 simp +contextual -implicitDefEqProofs (maxSteps := 10000000) (disch := first | (and_intros <;> omega -splitDisjunctions) | (push_cast; and_intros <;> omega -splitDisjunctions) | fail) only [go_sem, seval]
 rfl
theorem DF (s : ByteArray) (p : Nat) (fl : Nat) (H : LH) (hs : s.size ≤ 1099511627776) : run 74 [.str s, .int .i64 (p : Int)] fl H = some (.bool (decide (BG s p)), H) := by
 have e2 := fun fl H => Ad s p fl H (by omega) hs
 have e4 := fun q (h : (0 : Int) ≤ q) fl H => B7 s q fl H h hs
 have hp1 : ((p + 1 : Nat) : Int) = (p : Int) + 1 := by omega
 by_cases h : bA s p = 45
 ·have h' : (p : Int) < s.size := by have := Ai h (by omega); omega
  by_cases h2 : gapP s ((p : Int) + 1)
  ·rw [decide_eq_true (show BG s p from ⟨h, by rw [hp1]; exact h2⟩)]
   unfold run at *
   rw [z74]
   simp +contextual -implicitDefEqProofs (maxSteps := 10000000) (disch := first | (and_intros <;> omega -splitDisjunctions) | (push_cast; and_intros <;> omega -splitDisjunctions) | fail) only [e2, e4, h, h2, go_sem, seval]
  ·rw [decide_eq_false (show ¬ BG s p from fun k => h2 (by rw [← hp1]; exact k.2))]
   unfold run at *
   rw [z74]
   simp +contextual -implicitDefEqProofs (maxSteps := 10000000) (disch := first | (and_intros <;> omega -splitDisjunctions) | (push_cast; and_intros <;> omega -splitDisjunctions) | fail) only [e2, e4, h, h2, go_sem, seval]
 ·rw [decide_eq_false (show ¬ BG s p from fun k => h k.1)]
  unfold run at *
  rw [z74]
  simp +contextual -implicitDefEqProofs (maxSteps := 10000000) (disch := first | (and_intros <;> omega -splitDisjunctions) | (push_cast; and_intros <;> omega -splitDisjunctions) | fail) only [e2, e4, h, go_sem, seval]
def keV (r : Option Nat) (w : V) : Prop := match r with
 | none => ∃ j : Int, w = .tup [.int .i64 j, .bool false]
 | some e => w = .tup [.int .i64 e, .bool true]
theorem O7 (s : ByteArray) (p : Nat) (fl : Nat) (H : LH) (hp : p ≤ s.size) (hs : s.size ≤ 16777216) : Ret (fun w B => keV (keyE s p) w ∧ B = H) (run 81 [.str s, .int .i64 (p : Int)] fl H) := by
 have e1 := fun fl H => Ad s p fl H (by omega) (by omega)
 have e2 := fun b fl H => Cj b fl H
 have e3 := fun fl H => Fa s p fl H (by omega)
 have e4 := fun fl H => Fl s p fl H hs
 have e5 := fun fl H => Fj s p fl H hs
 have e6 := fun fl H => B6 s p false fl H (by omega)
 have e7 := fun fl H => Cx s p false fl H (by omega)
 rw [Ay hp] at e3 e4 e5 e6 e7
 unfold t3N at e3
 unfold t3V at e4 e5
 unfold keyE
 by_cases c1 : bA s p = 42
 ·rw [if_pos c1]
  unfold run at *
  rw [z81]
  generalize hQ : (fun (w : V) (B : LH) => keV (if (AP s p).2.2 = true then some (AP s p).2.1 else none) w ∧ B = H) = Q
  simp +contextual -implicitDefEqProofs (maxSteps := 10000000) (disch := first | (and_intros <;> omega -splitDisjunctions) | (push_cast; and_intros <;> omega -splitDisjunctions) | fail) only [e1, e2, e3, c1, go_sem, seval]
  subst hQ
  cases h : (AP s p).2.2 with
  | true => rw [if_pos rfl]; exact ⟨rfl, rfl⟩
  | false => rw [if_neg (by decide)]; exact ⟨⟨_, rfl⟩, rfl⟩
 rw [if_neg c1]
 have quo : ∀ (r : ByteArray × Int × Int), (r.2.2 = 0 → (p : Int) < r.2.1 ∧ r.2.1 ≤ s.size) → ∀ fl H, r.2.2 = 0 → run 98 [.str (s.extract p r.2.1.toNat), .str ⟨#[10]⟩] fl H = some (.bool (decide ((endN s p : Int) < r.2.1)), H) := by
  intro r hr fl H h
  have := hr h
  rw [IG, WL (by omega) (by omega)]
  congr 3
  exact decide_eq_decide.2 (by omega)
 by_cases c2 : bA s p = 39
 ·rw [if_pos c2]
  have q1 := quo (AS s p) (Cl hp)
  have q2 := Cl (s := s) hp
  generalize AS s p = r at *
  obtain ⟨t, e, code⟩ := r
  dsimp only at *
  generalize hQ : (fun (w : V) (B : LH) => keV (if code = 0 ∧ e ≤ (endN s p : Int) then some e.toNat else none) w ∧ B = H) = Q
  by_cases c3 : code = 0
  ·subst c3
   have q1 := fun fl H => q1 fl H rfl
   obtain ⟨r1, r2⟩ := q2 rfl
   have hc : quoB 39 := .inl rfl
   have r3 : p ≤ e.toNat := by omega
   have r4 : e.toNat ≤ s.size := by omega
   unfold run at *
   rw [z81]
   simp +contextual -implicitDefEqProofs (maxSteps := 10000000) (disch := first | (and_intros <;> omega -splitDisjunctions) | (push_cast; and_intros <;> omega -splitDisjunctions) | fail) only [e1, e2, e4, c2, hc, q1, r3, r4, go_sem, seval]
   subst hQ
   by_cases c4 : e ≤ (endN s p : Int)
   ·rw [if_pos ⟨rfl, c4⟩]
    refine ⟨?_, rfl⟩
    show V.tup [.int .i64 e, .bool _] = .tup [.int .i64 (e.toNat : Nat), .bool true]
    congr 3
    ·omega
    ·congr 1 <;> simp [c4]
   ·rw [if_neg (fun h => c4 h.2)]
    refine ⟨⟨e, ?_⟩, rfl⟩
    congr 3
    simp [c4]
  ·have hc : quoB 39 := .inl rfl
   unfold run at *
   rw [z81]
   simp +contextual -implicitDefEqProofs (maxSteps := 10000000) (disch := first | (and_intros <;> omega -splitDisjunctions) | (push_cast; and_intros <;> omega -splitDisjunctions) | fail) only [e1, e2, e4, c2, c3, hc, go_sem, seval]
   subst hQ
   rw [if_neg (fun h => c3 h.1)]
   exact ⟨⟨e, rfl⟩, rfl⟩
 rw [if_neg c2]
 by_cases c3 : bA s p = 34
 ·rw [if_pos c3]
  have q1 := quo (AR s p) (C8 hp)
  have q2 := C8 (s := s) hp
  generalize AR s p = r at *
  obtain ⟨t, e, code⟩ := r
  dsimp only at *
  generalize hQ : (fun (w : V) (B : LH) => keV (if code = 0 ∧ e ≤ (endN s p : Int) then some e.toNat else none) w ∧ B = H) = Q
  by_cases c4 : code = 0
  ·subst c4
   have q1 := fun fl H => q1 fl H rfl
   obtain ⟨r1, r2⟩ := q2 rfl
   have hc : quoB 34 := .inr rfl
   have r3 : p ≤ e.toNat := by omega
   have r4 : e.toNat ≤ s.size := by omega
   unfold run at *
   rw [z81]
   simp +contextual -implicitDefEqProofs (maxSteps := 10000000) (disch := first | (and_intros <;> omega -splitDisjunctions) | (push_cast; and_intros <;> omega -splitDisjunctions) | fail) only [e1, e2, e4, e5, c3, hc, q1, r3, r4, go_sem, seval]
   subst hQ
   by_cases c4 : e ≤ (endN s p : Int)
   ·rw [if_pos ⟨rfl, c4⟩]
    refine ⟨?_, rfl⟩
    show V.tup [.int .i64 e, .bool _] = .tup [.int .i64 (e.toNat : Nat), .bool true]
    congr 3
    ·omega
    ·congr 1 <;> simp [c4]
   ·rw [if_neg (fun h => c4 h.2)]
    refine ⟨⟨e, ?_⟩, rfl⟩
    congr 3
    simp [c4]
  ·have hc : quoB 34 := .inr rfl
   unfold run at *
   rw [z81]
   simp +contextual -implicitDefEqProofs (maxSteps := 10000000) (disch := first | (and_intros <;> omega -splitDisjunctions) | (push_cast; and_intros <;> omega -splitDisjunctions) | fail) only [e1, e2, e4, e5, c3, c4, hc, go_sem, seval]
   subst hQ
   rw [if_neg (fun h => c4 h.1)]
   exact ⟨⟨e, rfl⟩, rfl⟩
 rw [if_neg c3]
 have hc : ¬ quoB (bA s p) := fun h => by rcases h with h | h; exact c2 h; exact c3 h
 have hpe := JT s p false
 by_cases c4 : pfB s p false = true
 ·rw [if_pos c4]
  generalize hQ : (fun (w : V) (B : LH) => keV (if p < peN s p false then some (peN s p false) else none) w ∧ B = H) = Q
  unfold run at *
  rw [z81]
  simp +contextual -implicitDefEqProofs (maxSteps := 10000000) (disch := first | (and_intros <;> omega -splitDisjunctions) | (push_cast; and_intros <;> omega -splitDisjunctions) | fail) only [e1, e2, e6, e7, c1, hc, c4, go_sem, seval]
  subst hQ
  by_cases c5 : p < peN s p false
  ·rw [if_pos c5]
   refine ⟨?_, rfl⟩
   have : ((p : Int) < (peN s p false : Int)) := by omega
   rw [decide_eq_true this]; rfl
  ·rw [if_neg c5]
   refine ⟨⟨(peN s p false : Nat), ?_⟩, rfl⟩
   have : ¬ ((p : Int) < (peN s p false : Int)) := by omega
   rw [decide_eq_false this]
 ·rw [if_neg c4]
  have c4 : pfB s p false = false := by simpa using c4
  generalize hQ : (fun (w : V) (B : LH) => keV none w ∧ B = H) = Q
  unfold run at *
  rw [z81]
  simp +contextual -implicitDefEqProofs (maxSteps := 10000000) (disch := first | (and_intros <;> omega -splitDisjunctions) | (push_cast; and_intros <;> omega -splitDisjunctions) | fail) only [e1, e2, e6, c1, hc, c4, go_sem, seval]
  subst hQ
  exact ⟨⟨0, rfl⟩, rfl⟩
theorem Mt {s : ByteArray} {p e : Nat} (hp : p ≤ s.size) (h : keyE s p = some e) : p < e ∧ e ≤ s.size := by
 unfold keyE at h
 by_cases c1 : bA s p = 42
 ·rw [if_pos c1] at h
  by_cases c : (AP s p).2.2 = true
  ·rw [if_pos c] at h; cases h
   have := Cd hp c; omega
  ·rw [if_neg c] at h; cases h
 rw [if_neg c1] at h
 by_cases c2 : bA s p = 39
 ·rw [if_pos c2] at h
  by_cases c : (AS s p).2.2 = 0 ∧ (AS s p).2.1 ≤ endN s p
  ·rw [if_pos c] at h; cases h
   have := Cl hp c.1; omega
  ·rw [if_neg c] at h; cases h
 rw [if_neg c2] at h
 by_cases c3 : bA s p = 34
 ·rw [if_pos c3] at h
  by_cases c : (AR s p).2.2 = 0 ∧ (AR s p).2.1 ≤ endN s p
  ·rw [if_pos c] at h; cases h
   have := C8 hp c.1; omega
  ·rw [if_neg c] at h; cases h
 rw [if_neg c3] at h
 by_cases c4 : pfB s p false = true
 ·rw [if_pos c4] at h
  by_cases c : p < peN s p false
  ·rw [if_pos c] at h; cases h
   exact ⟨c, Ey hp⟩
  ·rw [if_neg c] at h; cases h
 ·rw [if_neg c4] at h; cases h
theorem Dx {s : ByteArray} {p e k : Nat} (hp : p ≤ s.size) (h : keyM s p = some (e, k)) : p < e ∧ e ≤ k ∧ k < s.size := by
 unfold keyM at h
 cases h1 : keyE s p with
 | none => rw [h1] at h; cases h
 | some x =>
   rw [h1] at h
   dsimp only at h
   have := Mt hp h1
   by_cases c1 : p + 1000 < x
   ·rw [if_pos c1] at h; cases h
   ·rw [if_neg c1] at h
    by_cases c2 : bA s (wtN s x) = 58 ∧ gapP s (wtN s x + 1 : Nat)
    ·rw [if_pos c2] at h; cases h
     have w1 := B8 s e
     exact ⟨this.1, w1, Ai c2.1 (by omega)⟩
    ·rw [if_neg c2] at h; cases h
def kyV (r : Option (Nat × Nat)) : V := match r with
 | none => .tup [.int .i64 0, .int .i64 0, .bool false]
 | some (e, k) => .tup [.int .i64 e, .int .i64 k, .bool true]
theorem EE (s : ByteArray) (p : Nat) (fl : Nat) (H : LH) (hp : p ≤ s.size) (hs : s.size ≤ 16777216) : run 72 [.str s, .int .i64 (p : Int)] fl H = some (kyV (keyM s p), H) := by
 have e1 := fun fl H => AA s p fl H (by omega)
 rw [Ay hp] at e1
 obtain ⟨w, B, e2, hw, rfl⟩ := O7 s p H.length H hp hs
 unfold keyM
 cases h1 : keyE s p with
 | none =>
   rw [h1] at hw
   obtain ⟨j, rfl⟩ := hw
   unfold run at *
   rw [z72]
   simp +contextual -implicitDefEqProofs (maxSteps := 10000000) (disch := first | (and_intros <;> omega -splitDisjunctions) | (push_cast; and_intros <;> omega -splitDisjunctions) | fail) only [e1, e2, go_sem, seval]
   rfl
 | some e =>
   rw [h1] at hw
   have hw : w = .tup [.int .i64 e, .bool true] := hw
   subst hw
   have hr := Mt hp h1
   dsimp only
   by_cases c1 : p + 1000 < e
   ·rw [if_pos c1]
    have t1 : (1000 < (e : Int) - p) = True := eq_true (by omega)
    unfold run at *
    rw [z72]
    simp +contextual -implicitDefEqProofs (maxSteps := 10000000) (disch := first | (and_intros <;> omega -splitDisjunctions) | (push_cast; and_intros <;> omega -splitDisjunctions) | fail) only [e1, e2, t1, go_sem, seval]
    rfl
   rw [if_neg c1]
   have t1 : (1000 < (e : Int) - p) = False := eq_false (by omega)
   have e3 := fun fl H => AJ s e fl H hr.2 (by omega)
   have w1 := B8 s e; have w2 := Bm hr.2
   have e4 := fun fl H => Ad s (wtN s e) fl H (by omega) (by omega)
   have e5 := fun q (h : (0 : Int) ≤ q) fl H => B7 s q fl H h (by omega)
   have hp1 : ((wtN s e + 1 : Nat) : Int) = (wtN s e : Int) + 1 := by omega
   rw [hp1]
   by_cases c2 : bA s (wtN s e) = 58
   ·by_cases c3 : gapP s ((wtN s e : Int) + 1)
    ·rw [if_pos ⟨c2, c3⟩]
     unfold run at *
     rw [z72]
     simp +contextual -implicitDefEqProofs (maxSteps := 10000000) (disch := first | (and_intros <;> omega -splitDisjunctions) | (push_cast; and_intros <;> omega -splitDisjunctions) | fail) only [e1, e2, e3, e4, e5, t1, c2, c3, go_sem, seval]
     rfl
    ·rw [if_neg (fun h => c3 h.2)]
     unfold run at *
     rw [z72]
     simp +contextual -implicitDefEqProofs (maxSteps := 10000000) (disch := first | (and_intros <;> omega -splitDisjunctions) | (push_cast; and_intros <;> omega -splitDisjunctions) | fail) only [e1, e2, e3, e4, e5, t1, c2, c3, go_sem, seval]
     rfl
   ·rw [if_neg (fun h => c2 h.1)]
    unfold run at *
    rw [z72]
    simp +contextual -implicitDefEqProofs (maxSteps := 10000000) (disch := first | (and_intros <;> omega -splitDisjunctions) | (push_cast; and_intros <;> omega -splitDisjunctions) | fail) only [e1, e2, e3, e4, e5, t1, c2, go_sem, seval]
    rfl
open Go.Proofs.YthlbglmfdjdagaaGreatDoor
theorem sz0t (s : ByteArray) : s.size = 0 ↔ s = ⟨#[]⟩ := by
 refine ⟨fun h => ?_, fun h => by rw [h]; rfl⟩
 apply ByteArray.ext
 exact Array.eq_empty_of_size_eq_zero h
theorem Lz (b : Int) (fl : Nat) (H : LH) : run 79 [.int .u8 b] fl H = some (.bool (decide (wrdP b)), H) := by
 unfold run
 rw [z79]
 simp +contextual -implicitDefEqProofs (maxSteps := 10000000) (disch := first | (and_intros <;> omega -splitDisjunctions) | (push_cast; and_intros <;> omega -splitDisjunctions) | fail) only [go_sem, seval]
 unfold wrdP
 congr 3
 grind
theorem W2 {s : ByteArray} {d i : Nat} : insG s (d + 1) i = if i + 1 < s.size then (if wrdP (bA s i) then insG s d (i + 1) else false) else true := rfl
theorem HG (s : ByteArray) (fl : Nat) (H : LH) (hs : s.size ≤ 1099511627776) : run 68 [.str s] fl H = some (.bool (nmH s), H) := by
 have e1 := fun b fl H => Lz b fl H
 unfold nmH
 by_cases hb : s.size ≤ 60 ∧ s.size ≠ 0 ∧ bA s 0 = 33 ∧ bA s ((s.size : Int) - 1) = 33
 rotate_left
 ·rw [decide_eq_false hb, Bool.false_and]
  by_cases h1 : s.size ≤ 60
  ·have t1 : (60 < (s.size : Int)) = False := eq_false (by omega)
   by_cases h2 : s = ⟨#[]⟩
   ·subst h2
    unfold run at *
    rw [z68]
    simp +contextual -implicitDefEqProofs (maxSteps := 10000000) (disch := first | (and_intros <;> omega -splitDisjunctions) | (push_cast; and_intros <;> omega -splitDisjunctions) | fail) only [go_sem, seval]
   ·have h2' : s.size ≠ 0 := fun e => h2 ((sz0t s).1 e)
    have hpos : 0 < s.size := by omega
    by_cases h3 : bA s 0 = 33
    ·have h4 : ¬ bA s ((s.size : Int) - 1) = 33 := fun h => hb ⟨h1, h2', h3, h⟩
     unfold run at *
     rw [z68]
     simp +contextual -implicitDefEqProofs (maxSteps := 10000000) (disch := first | (and_intros <;> omega -splitDisjunctions) | (push_cast; and_intros <;> omega -splitDisjunctions) | fail) only [t1, h2, h3, h4, go_sem, seval]
    ·unfold run at *
     rw [z68]
     simp +contextual -implicitDefEqProofs (maxSteps := 10000000) (disch := first | (and_intros <;> omega -splitDisjunctions) | (push_cast; and_intros <;> omega -splitDisjunctions) | fail) only [t1, h2, h3, go_sem, seval]
  ·have t1 : (60 < (s.size : Int)) = True := eq_true (by omega)
   unfold run at *
   rw [z68]
   simp +contextual -implicitDefEqProofs (maxSteps := 10000000) (disch := first | (and_intros <;> omega -splitDisjunctions) | (push_cast; and_intros <;> omega -splitDisjunctions) | fail) only [t1, go_sem, seval]
 rw [decide_eq_true hb, Bool.true_and]
 obtain ⟨h1, h2, h3, h4⟩ := hb
 have h2' : s ≠ ⟨#[]⟩ := fun e => h2 ((sz0t s).2 e)
 have t1 : (60 < (s.size : Int)) = False := eq_false (by omega)
 have t2 : (s = ⟨#[]⟩) = False := eq_false h2'
 have hpos : 0 < s.size := by omega
 generalize hres : insG s (s.size + 1) 1 = res
 unfold run at *
 rw [z68]
 simp +contextual -implicitDefEqProofs (maxSteps := 10000000) (disch := first | (and_intros <;> omega -splitDisjunctions) | (push_cast; and_intros <;> omega -splitDisjunctions) | fail) only [t1, t2, h3, h4, go_sem, seval]
 refine Ae fun c R hc hR => ?_
 have key : ∀ (m : Nat) (i : Nat) (j : Int) (x2 x23 x28 x35 : Option V), s.size + 1 - i < m → j = (i : Int) → i ≤ s.size → insG s (s.size + 2 - i) i = res →
  zEv (Ac (mkR Tryz.prog cfg ok [0, 2, 3, 23, 28, 35] H.length) .pure H [ResultVar.tmp 2]) (mkR Tryz.prog cfg ok [0, 2, 3, 23, 28, 35] H.length) (K.code (Code.loop c) :: K.blk 0 :: R) .nrm [some (.str s), x2, some (.int .i64 j), x23, x28, x35] (H) = some (.bool res, H) := by
  intro m
  induction m with
  | zero => intro i j x2 x23 x28 x35 hm; omega
  | succ m ih =>
    intro i j x2 x23 x28 x35 hm hj hi hf
    subst hj
    obtain ⟨d, hd⟩ : ∃ d, s.size + 2 - i = d + 1 := ⟨s.size + 1 - i, by omega⟩
    rw [hd, W2] at hf
    rw [A4 hc, ← hR]
    by_cases hlt : i + 1 < s.size
    ·have t3 : ((i : Int) + 1 < s.size) = True := eq_true (by omega)
     rw [if_pos hlt] at hf
     by_cases hw : wrdP (bA s i)
     ·rw [if_pos hw] at hf
      simp +contextual -implicitDefEqProofs (maxSteps := 10000000) (disch := first | (and_intros <;> omega -splitDisjunctions) | (push_cast; and_intros <;> omega -splitDisjunctions) | fail) only [t3, hw, e1, go_sem, seval]
      rw [hR]
      exact ih (i + 1) ((i : Int) + 1) _ _ _ _ (by omega) (by omega) (by omega) (by rw [show s.size + 2 - (i + 1) = d by omega]; exact hf)
     ·rw [if_neg hw] at hf
      simp +contextual -implicitDefEqProofs (maxSteps := 10000000) (disch := first | (and_intros <;> omega -splitDisjunctions) | (push_cast; and_intros <;> omega -splitDisjunctions) | fail) only [t3, hw, e1, go_sem, seval]
      rw [← hf]
    ·have t3 : ((i : Int) + 1 < s.size) = False := eq_false (by omega)
     rw [if_neg hlt] at hf
     simp +contextual -implicitDefEqProofs (maxSteps := 10000000) (disch := first | (and_intros <;> omega -splitDisjunctions) | (push_cast; and_intros <;> omega -splitDisjunctions) | fail) only [t3, go_sem, seval]
     rw [← hf]
 exact key (s.size + 1) 1 1 _ _ _ _ (by omega) (by omega) (by omega) (by rw [show s.size + 2 - 1 = s.size + 1 by omega]; exact hres)
theorem Kc (s : ByteArray) (fl : Nat) (H : LH) (hs : s.size ≤ 9223372036854775807) : run 69 [.str s] fl H = some (.bool (UE s), H) := by
 have hok : ∀ (k : Nat) (h : k < s.size), (fun b : UInt8 => decide (33 ≤ b.toNat ∧ b.toNat ≤ 126)) ((bs s)[k]'h) = !(decide (bA s k < 33) || decide (126 < bA s k)) := fun k h => by
  rw [Bn h, Bool.eq_iff_iff]
  simp only [decide_eq_true_eq, Bool.not_eq_true', Bool.or_eq_false_iff, decide_eq_false_iff_not]
  omega
 unfold run
 rw [z69]
 simp +contextual -implicitDefEqProofs (maxSteps := 10000000) (disch := first | (and_intros <;> omega -splitDisjunctions) | (push_cast; and_intros <;> omega -splitDisjunctions) | fail) only [go_sem, seval]
 unfold UE
 generalize (fun b : UInt8 => decide (33 ≤ b.toNat ∧ b.toNat ≤ 126)) = okk at *
 refine Ae fun c R hc hR => ?_
 have key : ∀ (m : Nat) (k : Nat) (kk : Int) (x2 x3 x7 x18 : Option V), s.size - k < m → kk = k → k ≤ s.size →
  zEv (Ac (mkR Tryz.prog cfg ok [0, 2, 3, 5, 6, 7, 18] H.length) .pure H [ResultVar.tmp 2]) (mkR Tryz.prog cfg ok [0, 2, 3, 5, 6, 7, 18] H.length) (K.code (Code.loop c) :: K.blk 0 :: R) .nrm [some (.str s), x2, x3, some (.int .i64 s.size), some (.int .i64 kk), x7, x18] (H) = some (.bool (((bs s).drop k).all okk), H) := by
  intro m
  induction m with
  | zero => intro k kk x2 x3 x7 x18 hm; omega
  | succ m ih =>
    intro k kk x2 x3 x7 x18 hm hk hkl
    subst hk
    by_cases hlt : k < s.size
    rotate_left
    ·have t1 : ((k : Int) < s.size) = False := eq_false (by omega)
     rw [List.drop_of_length_le (by rw [C6]; omega)]
     rw [A4 hc, ← hR]
     simp +contextual -implicitDefEqProofs (maxSteps := 10000000) (disch := first | (and_intros <;> omega -splitDisjunctions) | (push_cast; and_intros <;> omega -splitDisjunctions) | fail) only [t1, go_sem, seval]
     rfl
    have t1 : ((k : Int) < s.size) = True := eq_true (by omega)
    have l1 := J6 (s := s) (p := k) (by omega) (by omega)
    have l2 := D9 s k
    rw [A4 hc, ← hR]
    simp +contextual -implicitDefEqProofs (maxSteps := 10000000) (disch := first | (and_intros <;> omega -splitDisjunctions) | (push_cast; and_intros <;> omega -splitDisjunctions) | fail) only [t1, go_sem, seval]
    rw [hR]
    rw [List.drop_eq_getElem_cons (show k < (bs s).length from hlt), List.all_cons, hok k hlt]
    refine BM (fun w => ?_) (fun w => ?_)
    ·have : (!(decide (bA s k < 33) || decide (126 < bA s k))) = false := by rcases w with w | w <;> simp [w]
     rw [this, Bool.false_and]
    ·have : (!(decide (bA s k < 33) || decide (126 < bA s k))) = true := by simp only [not_or] at w; simp [w.1, w.2]
     rw [this, Bool.true_and]
     exact ih (k + 1) ((k : Int) + 1) _ _ _ _ (by omega) (by omega) (by omega)
 exact key (s.size + 1) 0 0 _ _ _ _ (by omega) rfl (by omega)
def hdC (h : ByteArray × ByteArray) : List V := [.str h.1, .str h.2]
theorem DW (h : ByteArray × ByteArray) : (hdC h).length = 2 := rfl
def hd0 : ByteArray × ByteArray := (⟨#[]⟩, ⟨#[]⟩)
theorem K0 (h : ByteArray × ByteArray) (fl : Nat) (H : LH) (h1 : h.1.size ≤ 1099511627776) (h2 : h.2.size ≤ 1099511627776) : run 61 [.agg (hdC h)] fl H = some (.bool (hOk h), H) := by
 have e1 := fun fl H => HG h.1 fl H h1
 have e2 := fun fl H => Kc h.2 fl H (by omega)
 have e3 := fun a b c fl H => Bl a b c fl H
 unfold run hdC hOk at *
 rw [z61]
 have d1 : (1 ≤ (h.2.size : Int) ∧ (h.2.size : Int) ≤ 60) = (1 ≤ h.2.size ∧ h.2.size ≤ 60) := propext ⟨fun h => by omega, fun h => by omega⟩
 by_cases c1 : nmH h.1 = true
 ·by_cases c2 : 1 ≤ h.2.size ∧ h.2.size ≤ 60
  ·simp +contextual -implicitDefEqProofs (maxSteps := 10000000) (disch := first | (and_intros <;> omega -splitDisjunctions) | (push_cast; and_intros <;> omega -splitDisjunctions) | fail) only [e1, e2, e3, c1, c2, d1, go_sem, seval]
  ·simp +contextual -implicitDefEqProofs (maxSteps := 10000000) (disch := first | (and_intros <;> omega -splitDisjunctions) | (push_cast; and_intros <;> omega -splitDisjunctions) | fail) only [e1, e2, e3, c1, c2, d1, go_sem, seval]
 ·have c1 : nmH h.1 = false := by simpa using c1
  simp +contextual -implicitDefEqProofs (maxSteps := 10000000) (disch := first | (and_intros <;> omega -splitDisjunctions) | (push_cast; and_intros <;> omega -splitDisjunctions) | fail) only [e1, e2, e3, c1, go_sem, seval]
open Go.Proofs.YthlbglmfdjdagaaGreatDoor
theorem Gh (s : ByteArray) (c : Int) : ∀ p, -1 ≤ DZ s c p ∧ DZ s c p < p
 | 0 => ⟨Int.le_refl _, by show (-1 : Int) < _; omega⟩
 | p + 1 => by
   unfold DZ
   have := Gh s c p
   by_cases h : bA s p = c
   ·rw [if_pos h]; omega
   ·rw [if_neg h]; omega
theorem MB (s : ByteArray) : lstN s ≤ s.size := by
 have := Gh s 33 s.size
 unfold lstN; omega
def tgV (r : Option ByteArray) : V := match r with
 | none => .tup [.str ⟨#[]⟩, .bool false]
 | some t => .tup [.str t, .bool true]
theorem Tl {hs : List (ByteArray × ByteArray)} {i : Nat} (h : i < hs.length) : hs.drop i = hs.getD i hd0 :: hs.drop (i + 1) := by
 rw [List.drop_eq_getElem_cons h, Bp h]
theorem Lu {H : LH} {v : V} {hs : List (ByteArray × ByteArray)} (raw : ByteArray) (h : At H hdC 2 v hs) (hz : raw.size ≤ 1048576) (hzl : ∀ x ∈ hs, x.1.size ≤ 1048576 ∧ x.2.size ≤ 1048576) (hl : hs.length ≤ 16777216) (fl : Nat) :
 run 95 [.str raw, v] fl H = some (tgV (tagR raw hs), H) := by
 have e1 := fun fl H => Kh raw 33 fl H (by omega)
 have e2 := fun s (h : s.size ≤ 1099511627776) fl H => HG s fl H h
 have hk := MB raw
 have hk2 : DZ raw 33 raw.size + 1 = lstN raw := by
  have := Gh raw 33 raw.size
  unfold lstN; omega
 have i1 := h.isTup; have i2 := h.one
 unfold tagR
 by_cases c1 : raw.size = 0 ∨ bA raw 0 ≠ 33
 ·rw [if_pos c1]
  by_cases c0 : raw = ⟨#[]⟩
  ·subst c0
   unfold run at *
   rw [z95]
   simp +contextual -implicitDefEqProofs (maxSteps := 10000000) (disch := first | (and_intros <;> omega -splitDisjunctions) | (push_cast; and_intros <;> omega -splitDisjunctions) | fail) only [i1, i2, go_sem, seval]
   rfl
  ·have c1' : ¬ bA raw 0 = 33 := fun e => by rcases c1 with c | c; exact c0 ((sz0t raw).1 c); exact c e
   have hpos : 0 < raw.size := Nat.pos_of_ne_zero fun e => c0 ((sz0t raw).1 e)
   unfold run at *
   rw [z95]
   simp +contextual -implicitDefEqProofs (maxSteps := 10000000) (disch := first | (and_intros <;> omega -splitDisjunctions) | (push_cast; and_intros <;> omega -splitDisjunctions) | fail) only [c0, c1', i1, i2, go_sem, seval]
   rfl
 rw [if_neg c1]
 have hpos : 0 < raw.size := Nat.pos_of_ne_zero fun e => c1 (.inl e)
 have c0 : (raw = ⟨#[]⟩) = False := eq_false fun e => c1 (.inl ((sz0t raw).2 e))
 have c33 : bA raw 0 = 33 := Classical.byContradiction fun e => c1 (.inr e)
 by_cases c2 : angP raw
 ·rw [if_pos c2]
  obtain ⟨a1, a2, a3⟩ := c2
  have t1 : (3 < (raw.size : Int)) = True := eq_true (by omega)
  obtain ⟨n, hn, hn1⟩ : ∃ n, n + 1 = raw.size ∧ raw.size - 1 = n := ⟨raw.size - 1, by omega, rfl⟩
  have t2 : ((raw.size : Int) - 1).toNat = n := by omega
  have t3 : 2 ≤ n := by omega
  have t4 : n ≤ raw.size := by omega
  rw [hn1]
  unfold run at *
  rw [z95]
  simp +contextual -implicitDefEqProofs (maxSteps := 10000000) (disch := first | (and_intros <;> omega -splitDisjunctions) | (push_cast; and_intros <;> omega -splitDisjunctions) | fail) only [c0, c33, t1, t2, t3, t4, a2, a3, i1, i2, go_sem, seval]
  rfl
 rw [if_neg c2]
 by_cases c3 : raw = ⟨#[33]⟩
 ·rw [if_pos c3]
  subst c3
  unfold run at *
  rw [z95]
  simp +contextual -implicitDefEqProofs (maxSteps := 10000000) (disch := first | (and_intros <;> omega -splitDisjunctions) | (push_cast; and_intros <;> omega -splitDisjunctions) | fail) only [i1, i2, go_sem, seval]
  rfl
 rw [if_neg c3]
 have c2' : ¬ ((3 < (raw.size : Int) ∧ bA raw 1 = 60) ∧ bA raw ((raw.size : Int) - 1) = 62) := fun h => c2 ⟨by omega, h.1.2, h.2⟩
 have hzA : (raw.extract 0 (lstN raw)).size = lstN raw := by rw [Ap hk]; omega
 have hzB : (raw.extract (lstN raw) raw.size).size = raw.size - lstN raw := Ap (Nat.le_refl _)
 generalize lstN raw = k at *
 generalize hA1 : raw.extract 0 k = nm at *
 generalize hB1 : raw.extract k raw.size = rst at *
 have t9 : ((k : Nat) : Int).toNat = k := Int.toNat_natCast _
 have e2n := e2 nm (by omega)
 have hzC : rst.size ≤ 1048576 := by omega
 have hrst : (rst = ⟨#[]⟩) ↔ k = raw.size := by
  rw [← sz0t]; omega
 have hlv := h.len; have hlo := h.lenOk ty65
 unfold run at *
 rw [z95]
 simp +contextual -implicitDefEqProofs (maxSteps := 10000000) (disch := first | (and_intros <;> omega -splitDisjunctions) | (push_cast; and_intros <;> omega -splitDisjunctions) | fail) only [c0, c33, c3, c2', e1, hk2, hA1, hB1, hk, e2n, t9, i1, i2, hlv, hlo, go_sem, seval]
 by_cases c4 : rst = ⟨#[]⟩ ∨ nmH nm = false
 ·rw [if_pos c4, if_pos (c4.imp hrst.1 id)]; rfl
 rw [if_neg c4, if_neg (fun e => c4 (e.imp hrst.2 id))]
 refine (?_ : ∀ res : Option ByteArray, (match fstH nm hs with | some p => if p = ⟨#[]⟩ then none else some (p ++ rst) | none => if nm = ⟨#[33, 33]⟩ then some (coreT ++ rst) else if nm = ⟨#[33]⟩ then some ((⟨#[33]⟩ : ByteArray) ++ rst) else none) = res → _ = some (tgV res, H)) _ rfl
 intro res hres
 refine Ae fun c R hc hR => ?_
 have key : ∀ (m : Nat) (i : Nat) (j : Int) (A : LH) (x0 x1 x4 x10 x11 x19 x41 x59 x63 x69 x72 x78 x79 x83 : Option V), hs.length - i < m → j = (i : Int) → i ≤ hs.length → Hx H A → fstH nm (hs.drop i) = fstH nm hs →
  zEv (Ac (mkR Tryz.prog cfg ok [0, 1, 4, 5, 6, 7, 8, 10, 11, 19, 41, 59, 60, 61, 62, 63, 69, 72, 78, 79, 83] H.length) .pure H [ResultVar.tmp 4, ResultVar.tmp 5]) (mkR Tryz.prog cfg ok [0, 1, 4, 5, 6, 7, 8, 10, 11, 19, 41, 59, 60, 61, 62, 63, 69, 72, 78, 79, 83] H.length) (K.code (Code.loop c) :: K.blk 1 :: R) .nrm [x0, x1, x4, some (.bool false), some (.int .i64 k), some (.str nm), some (.str rst), x10, x11, x19, x41, x59, some v, some (.int .i64 hs.length), some (.int .i64 j), x63, x69, x72, x78, x79, x83] (A) = some (tgV res, H) := by
  intro m
  induction m with
  | zero => intro i j A x0 x1 x4 x10 x11 x19 x41 x59 x63 x69 x72 x78 x79 x83 hm; omega
  | succ m ih =>
    intro i j A x0 x1 x4 x10 x11 x19 x41 x59 x63 x69 x72 x78 x79 x83 hm hj hi hA hf
    subst hj
    have hle := hA.len
    have hB := h.ext hA
    by_cases hlt : i < hs.length
    ·have t1 : ((i : Int) < hs.length) = True := eq_true (by omega)
     have g1 := hB.isTup; have g2 := hB.len; have g3 := hB.lenOk ty65; have g0 := hB.one
     have g4 := fun hp => hB.con hp
     have g5 := hB.idx (T := ty Tryz.prog) (t := 65) (by simp only [Av, AC, ty9, ty65, ty81])
     have g6 := hB.loadD DW hd0
     have g7 := fun K => g6 i hlt K
     have hmem : hs.getD i hd0 ∈ hs := by rw [Bp hlt]; exact List.getElem_mem _
     have hzx := hzl _ hmem
     rw [Tl hlt] at hf
     generalize hs.getD i hd0 = x at *
     obtain ⟨xn, xp⟩ := x
     unfold hdC at g7
     dsimp only at hzx
     have g6 := g7
     rw [A4 hc, ← hR]
     by_cases h1 : xn = nm
     ·have hf : some xp = fstH nm hs := by rw [← hf]; unfold fstH; rw [if_pos h1]
      rw [← hf] at hres
      dsimp only at hres
      by_cases h2 : xp = ⟨#[]⟩
      ·rw [if_pos h2] at hres
       simp +contextual -implicitDefEqProofs (maxSteps := 10000000) (disch := first | (and_intros <;> omega -splitDisjunctions) | (push_cast; and_intros <;> omega -splitDisjunctions) | fail) only [g0, g1, g2, g3, g4, g5, g6, t1, h1, h2, hle, go_sem, seval]
       rw [← hres]; rfl
      ·rw [if_neg h2] at hres
       simp +contextual -implicitDefEqProofs (maxSteps := 10000000) (disch := first | (and_intros <;> omega -splitDisjunctions) | (push_cast; and_intros <;> omega -splitDisjunctions) | fail) only [g0, g1, g2, g3, g4, g5, g6, t1, h1, h2, hle, go_sem, seval]
       rw [← hres]; rfl
     ·have hf : fstH nm (hs.drop (i + 1)) = fstH nm hs := by rw [← hf]; conv => rhs; unfold fstH; rw [if_neg h1]
      simp +contextual -implicitDefEqProofs (maxSteps := 10000000) (disch := first | (and_intros <;> omega -splitDisjunctions) | (push_cast; and_intros <;> omega -splitDisjunctions) | fail) only [g0, g1, g2, g3, g4, g5, g6, t1, h1, hle, go_sem, seval]
      rw [hR]
      exact ih (i + 1) ((i : Int) + 1) _ _ _ _ _ _ _ _ _ _ _ _ _ _ _ (by omega) (by omega) (by omega) (hA.trans Hx.app) hf
    ·have t1 : ((i : Int) < hs.length) = False := eq_false (by omega)
     rw [List.drop_of_length_le (by omega)] at hf
     rw [← hf] at hres
     dsimp only [fstH] at hres
     rw [A4 hc, ← hR]
     have hcs : (⟨#[116, 97, 103, 58, 121, 97, 109, 108, 46, 111, 114, 103, 44, 50, 48, 48, 50, 58]⟩ : ByteArray).size = 18 := rfl
     have hc1 : (⟨#[33]⟩ : ByteArray).size = 1 := rfl
     by_cases h1 : nm = ⟨#[33, 33]⟩
     ·rw [if_pos h1] at hres
      simp +contextual -implicitDefEqProofs (maxSteps := 10000000) (disch := first | (and_intros <;> omega -splitDisjunctions) | (push_cast; and_intros <;> omega -splitDisjunctions) | fail) only [t1, h1, hcs, go_sem, seval]
      rw [← hres]; rfl
     ·rw [if_neg h1] at hres
      by_cases h2 : nm = ⟨#[33]⟩
      ·rw [if_pos h2] at hres
       simp +contextual -implicitDefEqProofs (maxSteps := 10000000) (disch := first | (and_intros <;> omega -splitDisjunctions) | (push_cast; and_intros <;> omega -splitDisjunctions) | fail) only [t1, h1, h2, hc1, go_sem, seval]
       rw [← hres]; rfl
      ·rw [if_neg h2] at hres
       simp +contextual -implicitDefEqProofs (maxSteps := 10000000) (disch := first | (and_intros <;> omega -splitDisjunctions) | (push_cast; and_intros <;> omega -splitDisjunctions) | fail) only [t1, h1, h2, go_sem, seval]
       rw [← hres]; rfl
 exact key (hs.length + 1) 0 0 H _ _ _ _ _ _ _ _ _ _ _ _ _ _ (by omega) rfl (by omega) (Hx.refl H) rfl
open Go.Proofs.YthlbglmfdjdagaaGreatDoor
structure Fx (f : Nat) (E : List Nat) (A B : LH) : Prop where
 len : A.length ≤ B.length
 get : ∀ b, b < f → b ∉ E → B[b]? = A[b]?
theorem Fx.refl {f : Nat} {E : List Nat} (A : LH) : Fx f E A A := ⟨Nat.le_refl _, fun _ _ _ => rfl⟩
theorem Fx.app {f : Nat} {E : List Nat} {A L : LH} (hf : f ≤ A.length) : Fx f E A (A ++ L) := ⟨by simp, fun b h1 _ => List.getElem?_append_left (by omega)⟩
theorem Fx.set {f b : Nat} {E : List Nat} {A : LH} {x : Blk} (hb : b ∈ E ∨ f ≤ b) : Fx f E A (A.set b x) := ⟨by simp, fun c h1 h2 => by
 rw [List.getElem?_set_ne]
 rcases hb with hb | hb
 ·intro e; subst e; exact h2 hb
 ·omega⟩
theorem Fx.trans {f : Nat} {E E' : List Nat} {A B C : LH} (h : Fx f E A B) (k : Fx B.length E' B C) (hf : f ≤ A.length) (he : ∀ c, c < f → c ∈ E' → c ∈ E) : Fx f E A C :=
 ⟨Nat.le_trans h.len k.len, fun b h1 h2 => (k.get b (by have := h.len; omega) (fun h3 => h2 (he b h1 h3))).trans (h.get b h1 h2)⟩
theorem RI {A B : LH} {b : Nat} (h : B[b]? = A[b]?) : LH.cellsAt B b = LH.cellsAt A b := by
 unfold LH.cellsAt
 rw [h]
theorem Fx.cells {f b : Nat} {E : List Nat} {A B : LH} {l : List V} (h : Fx f E A B) (hc : LH.cellsAt A b = some l) (h1 : b < f) (h2 : b ∉ E) : LH.cellsAt B b = some l := by
 rw [RI (h.get b h1 h2)]; exact hc
theorem Fx.hx {f : Nat} {E : List Nat} {A B G : LH} (h : Fx f E A B) (hx : Hx G A) (hl : G.length ≤ f) (hE : ∀ b ∈ E, G.length ≤ b) : Hx G B := by
 obtain ⟨L, rfl⟩ := hx
 refine ⟨B.drop G.length, ?_⟩
 have hlen := h.len
 rw [List.length_append] at hlen
 have : B.take G.length = G := by
  apply List.ext_getElem?
  intro i
  rw [List.getElem?_take]
  by_cases hi : i < G.length
  ·rw [if_pos hi, h.get i (by omega) (fun hm => by have := hE i hm; omega), List.getElem?_append_left hi]
  ·rw [if_neg hi, List.getElem?_eq_none (by omega)]
 conv => lhs; rw [← List.take_append_drop G.length B, this]
def sbk : V → List Nat
 | .sl b _ _ _ _ => [b]
 | _ => []
theorem At.fr {α : Type} {enc : α → List V} {z f : Nat} {E : List Nat} {A B : LH} {v : V} {xs : List α} (h : At A enc z v xs) (k : Fx f E A B) (hv : ∀ c ∈ sbk v, c < f ∧ c ∉ E) : At B enc z v xs := by
 rcases h with h | ⟨b, o, c, l, rfl, h1, h2⟩
 ·exact .inl h
 ·have := hv b (by simp [sbk])
  exact .inr ⟨b, o, c, l, rfl, k.cells h1 this.1 this.2, h2⟩
theorem Own.fr {α : Type} {enc : α → List V} {z g f : Nat} {E : List Nat} {A B : LH} {v : V} {xs : List α} (h : Own g A enc z v xs) (k : Fx f E A B) (hv : ∀ c ∈ sbk v, c < f ∧ c ∉ E) : Own g B enc z v xs := by
 rcases h with h | ⟨b, rfl, h1, h2⟩
 ·exact .inl h
 ·have := hv b (by simp [sbk])
  exact .inr ⟨b, rfl, k.cells h1 this.1 this.2, h2⟩
theorem Own.sbk {α : Type} {enc : α → List V} {z g : Nat} {A : LH} {v : V} {xs : List α} (h : Own g A enc z v xs) : ∀ c ∈ sbk v, g ≤ c ∧ c < A.length := by
 intro c hc
 rcases h with ⟨_, rfl | rfl⟩ | ⟨b, rfl, h1, h2⟩
 ·simp [Lg.sbk] at hc
 ·simp [Lg.sbk] at hc
 ·simp [Lg.sbk] at hc
  subst hc
  exact ⟨h2, A5 h1⟩
theorem At.sbk {α : Type} {enc : α → List V} {z : Nat} {A : LH} {v : V} {xs : List α} (h : At A enc z v xs) : ∀ c ∈ sbk v, c < A.length := by
 intro c hc
 rcases h with ⟨_, rfl | rfl⟩ | ⟨b, o, q, l, rfl, h1, h2⟩
 ·simp [Lg.sbk] at hc
 ·simp [Lg.sbk] at hc
 ·simp [Lg.sbk] at hc
  subst hc
  exact A5 h1
theorem Il {α : Type} {enc : α → List V} {z g : Nat} {A L : LH} {v : V} {xs : List α} (h : Own g A enc z v xs) : Fx A.length (sbk v) A (B5 A v ++ L) := by
 rcases h with ⟨rfl, rfl | rfl⟩ | ⟨b, rfl, hc, h2⟩
 ·exact Fx.app (Nat.le_refl _)
 ·exact Fx.app (Nat.le_refl _)
 ·refine ⟨by simp [B5], fun c h1 h2 => ?_⟩
  have hcb : c ≠ b := fun e => h2 (by simp [sbk, e])
  show ((A.set b .dead) ++ L)[c]? = A[c]?
  rw [List.getElem?_append_left (by rw [List.length_set]; exact h1), List.getElem?_set_ne (Ne.symm hcb)]
theorem Fx.up {f : Nat} {E : List Nat} {A B : LH} (h : Fx f [] A B) : Fx f E A B := ⟨h.len, fun c h1 _ => h.get c h1 (by simp)⟩
theorem Fx.sub {f : Nat} {E E' : List Nat} {A B : LH} (h : Fx f E A B) (k : ∀ c ∈ E, c ∈ E') : Fx f E' A B := ⟨h.len, fun c h1 h2 => h.get c h1 (fun h3 => h2 (k c h3))⟩
theorem Fx.up2 {f b : Nat} {E : List Nat} {A B : LH} (h : Fx f E A B) : Fx f (b :: E) A B := h.sub (fun c hc => List.mem_cons_of_mem _ hc)
end Go.Proofs.YthlbglmfdjdagaaGreatDoor.Lg
