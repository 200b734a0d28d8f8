/- The logical machine and its contracts, part 7. No condition. -/
import Derived.Test.YthlbglmfdjdagaaGreatDoorN6
namespace Go.Proofs.YthlbglmfdjdagaaGreatDoor.Lg
set_option linter.unusedSimpArgs false
set_option linter.unusedVariables false
set_option maxRecDepth 100000
set_option maxHeartbeats 40000000
open Go.Proofs.YthlbglmfdjdagaaGreatDoor
theorem Kk (v : V) (l : List UInt8) (fl : Nat) (H : LH) (h : At H byC 1 v l) (hl : l.length ≤ 1099511627776) : run 6 [v] fl H = some (.tup [.str (nrM l).1, .int .i64 (nrM l).2], H) := by
 have p1 := h.isTup; have p2 := h.one; have f2 := h.len; have f3 := h.lenOk ty22
 unfold nrM
 by_cases hbig : 60000 < l.length
 ·rw [if_pos hbig]
  have t1 : (60000 < (l.length : Int)) = True := eq_true (by omega)
  unfold run
  rw [z6]
  simp +contextual -implicitDefEqProofs (maxSteps := 10000000) (disch := first | (and_intros <;> omega -splitDisjunctions) | (push_cast; and_intros <;> omega -splitDisjunctions) | fail) only [p1, p2, f2, f3, t1, go_sem, seval]
 rw [if_neg hbig]
 have t1 : (60000 < (l.length : Int)) = False := eq_false (by omega)
 have hz : (nrT l).size ≤ l.length := by
  have := AH (l.drop (bomN l))
  rw [List.length_drop] at this
  show (nmL (l.drop (bomN l))).length ≤ _
  omega
 have e1 := fun fl H => LB (nrT l) fl H (by omega)
 have hcl := P8 (nrT l)
 by_cases h3 : l.length < 3
 ·have t2 : (3 ≤ (l.length : Int)) = False := eq_false (by omega)
  have hb0 : bomN l = 0 := if_neg (fun k => by have := k.1; omega)
  unfold run
  rw [z6]
  simp +contextual -implicitDefEqProofs (maxSteps := 10000000) (disch := first | (and_intros <;> omega -splitDisjunctions) | (push_cast; and_intros <;> omega -splitDisjunctions) | fail) only [p1, p2, f2, f3, t1, t2, go_sem, seval]
  refine Ae fun c R hc hR => ?_
  have key : ∀ (m : Nat) (i : Nat) (j : Int) (u : V) (B : LH) (xs : List UInt8) (x2 x3 x6 x9 x30 x35 x42 x62 x72 : Option V), l.length - i < m → j = i → i ≤ l.length → xs ++ nmL (l.drop i) = nmL (l.drop (bomN l)) → Hx H B → Own H.length B byC 1 u xs → (∃ b, u = .sl b 0 1 xs.length xs.length) →
   zEv (Ac (mkR Tryz.prog cfg ok [0, 2, 3, 4, 5, 6, 9, 30, 35, 42, 62, 72] H.length) .pure H [ResultVar.tmp 2, ResultVar.tmp 3]) (mkR Tryz.prog cfg ok [0, 2, 3, 4, 5, 6, 9, 30, 35, 42, 62, 72] H.length) (K.code (Code.loop c) :: K.blk 0 :: R) .nrm [some v, x2, x3, some (.int .i64 j), some u, x6, x9, x30, x35, x42, x62, x72] (B) = some (.tup [.str (if clnM (nrT l) = (nrT l).size then (nrT l, (0 : Int)) else (⟨#[]⟩, 2)).1, .int .i64 (if clnM (nrT l) = (nrT l).size then (nrT l, (0 : Int)) else (⟨#[]⟩, 2)).2], H) := by
   intro m
   induction m with
   | zero => intro i j u B xs x2 x3 x6 x9 x30 x35 x42 x62 x72 hm; omega
   | succ m ih =>
     intro i j u B xs x2 x3 x6 x9 x30 x35 x42 x62 x72 hm hj hi hxs hx ho hu
     subst hj
     have hxl := hx.len
     have o1 := (ho.at Ab).isTup; have o2 := (ho.at Ab).one
     have hlen : xs.length + (nmL (l.drop i)).length = (nmL (l.drop (bomN l))).length := by rw [← hxs, List.length_append]
     have hln := AH (l.drop (bomN l))
     rw [List.length_drop] at hln
     by_cases hlt : i < l.length
     rotate_left
     ·have t3 : ((i : Int) < l.length) = False := eq_false (by omega)
      rw [DO (by omega), List.append_nil] at hxs
      have hs : (⟨xs.toArray⟩ : ByteArray) = nrT l := by rw [hxs]; rfl
      obtain ⟨b, rfl⟩ := hu
      obtain ⟨hcb, hbl⟩ : B.cellsAt b = some (rows byC xs) ∧ H.length ≤ b := by
       rcases ho with ⟨_, k | k⟩ | ⟨b', k, k1, k2⟩
       ·cases k
       ·cases k
       ·cases k; exact ⟨k1, k2⟩
      have g1 := Ak Ab xs
      rw [Nat.mul_one] at g1
      have g2 := AQ Ab (xs := xs) (n := xs.length) (by omega)
      have g4 := Am xs
      unfold run at e1
      by_cases k : clnM (nrT l) = (nrT l).size
      ·have t9 : ((clnM (nrT l) : Int) < (nrT l).size) = False := eq_false (by omega)
       rw [A4 hc, ← hR]
       simp +contextual -implicitDefEqProofs (maxSteps := 10000000) (disch := first | (and_intros <;> omega -splitDisjunctions) | (push_cast; and_intros <;> omega -splitDisjunctions) | fail) only [t3, t9, p1, p2, f2, f3, hcb, g1, g2, g4, hs, e1, ne_eq, not_true_eq_false, not_false_eq_true, go_sem, seval]
       rw [if_pos k]
      ·have t9 : ((clnM (nrT l) : Int) < (nrT l).size) = True := eq_true (by omega)
       rw [A4 hc, ← hR]
       simp +contextual -implicitDefEqProofs (maxSteps := 10000000) (disch := first | (and_intros <;> omega -splitDisjunctions) | (push_cast; and_intros <;> omega -splitDisjunctions) | fail) only [t3, t9, p1, p2, f2, f3, hcb, g1, g2, g4, hs, e1, ne_eq, not_true_eq_false, not_false_eq_true, go_sem, seval]
       rw [if_neg k]
     have t3 : ((i : Int) < l.length) = True := eq_true (by omega)
     have rA := h.ext hx
     have g4 := rA.con (by omega)
     have g5 := h.idx (T := ty Tryz.prog) (t := 22) (by simp only [Av, AC, ty5, ty22]) .i64 i (by omega) (by omega)
     have g6 := fun n K => rA.load1 0 (fun x => .int .u8 x.toNat) (fun _ => rfl) i hlt n K
     have hstep := CD hlt
     simp only [Nat.mul_one, Int.toNat_natCast] at g5
     by_cases h13 : l.getD i 0 = 13
     rotate_left
     ·have t4 : ((((l.getD i 0).toNat : Nat) : Int) = 13) = False := eq_false (fun e => h13 (by have := BQ (x := l.getD i 0) (n := 13) (by decide); exact this.mp e))
      rw [if_neg h13] at hstep
      generalize l.getD i 0 = x at *
      obtain ⟨b2, W, a1, a2, a3, _⟩ := AO (fl := H.length) hx ho (Nat.le_refl _) (Nat.le_refl _) hxl [Blk.cells [V.int .u8 (x.toNat : Nat)]] x (by rw [hstep, List.length_cons] at hlen; omega)
      rw [A4 hc]
      simp +contextual -implicitDefEqProofs (maxSteps := 10000000) (disch := first | (and_intros <;> omega -splitDisjunctions) | (push_cast; and_intros <;> omega -splitDisjunctions) | fail) only [t3, t4, p1, p2, f2, f3, g4, g5, g6, a1, o1, o2, ne_eq, not_false_eq_true, go_sem, seval]
      exact ih (i + 1) _ _ W (xs ++ [x]) _ _ _ _ _ _ _ _ _ (by omega) (by omega) (by omega) (by rw [← hxs, hstep, List.append_assoc]; rfl) a3 a2 ⟨_, by rw [List.length_append]; rfl⟩
     have t4 : ((((l.getD i 0).toNat : Nat) : Int) = 13) = True := eq_true (by rw [h13]; rfl)
     rw [if_pos h13] at hstep
     obtain ⟨b2, W, a1, a2, a3, _⟩ := AO (fl := H.length) hx ho (Nat.le_refl _) (Nat.le_refl _) hxl [Blk.cells [V.int .u8 10]] 10 (by
      by_cases hcl : i + 1 < l.length ∧ l.getD (i + 1) 0 = 10
      ·have h8 := AH (l.drop (i + 1)); rw [if_pos hcl] at hstep; rw [List.length_drop] at h8; omega
      ·rw [if_neg hcl] at hstep; rw [hstep, List.length_cons] at hlen; omega)
     have e10 : V.int .u8 (((10 : UInt8).toNat : Nat) : Int) = V.int .u8 10 := rfl
     rw [e10] at a1
     by_cases hl1 : i + 1 < l.length
     rotate_left
     ·have t5 : ((l.length : Int) ≤ (i : Int) + 1) = True := eq_true (by omega)
      rw [if_neg (fun k => hl1 (by omega))] at hstep
      rw [A4 hc]
      simp +contextual -implicitDefEqProofs (maxSteps := 10000000) (disch := first | (and_intros <;> omega -splitDisjunctions) | (push_cast; and_intros <;> omega -splitDisjunctions) | fail) only [t3, t4, t5, p1, p2, f2, f3, g4, g5, g6, a1, o1, o2, ne_eq, not_true_eq_false, go_sem, seval]
      exact ih (i + 1) _ _ W (xs ++ [10]) _ _ _ _ _ _ _ _ _ (by omega) (by omega) (by omega) (by rw [← hxs, hstep, List.append_assoc]; rfl) a3 a2 ⟨_, by rw [List.length_append]; rfl⟩
     have t5 : ((l.length : Int) ≤ (i : Int) + 1) = False := eq_false (by omega)
     have g7 := h.idx (T := ty Tryz.prog) (t := 22) (by simp only [Av, AC, ty5, ty22]) .i64 ((i : Int) + 1) (by omega) (by omega)
     have g8 := fun n K => rA.load1 0 (fun x => .int .u8 x.toNat) (fun _ => rfl) (i + 1) (by omega) n K
     rw [show ((i : Int) + 1).toNat = i + 1 by omega] at g7
     simp only [Nat.mul_one] at g7
     by_cases h10 : l.getD (i + 1) 0 = 10
     ·have t6 : ((((l.getD (i + 1) 0).toNat : Nat) : Int) = 10) = True := eq_true (by rw [h10]; rfl)
      rw [if_pos ⟨by omega, h10⟩] at hstep
      rw [A4 hc]
      simp +contextual -implicitDefEqProofs (maxSteps := 10000000) (disch := first | (and_intros <;> omega -splitDisjunctions) | (push_cast; and_intros <;> omega -splitDisjunctions) | fail) only [t3, t4, t5, t6, p1, p2, f2, f3, g4, g5, g6, g7, g8, a1, o1, o2, ne_eq, not_true_eq_false, go_sem, seval]
      exact ih (i + 1) _ _ B xs _ _ _ _ _ _ _ _ _ (by omega) (by omega) (by omega) (by rw [← hxs, hstep]) hx ho hu
     ·have t6 : ((((l.getD (i + 1) 0).toNat : Nat) : Int) = 10) = False := eq_false (fun e => h10 (by have := BQ (x := l.getD (i + 1) 0) (n := 10) (by decide); exact this.mp e))
      rw [if_neg (fun k => h10 k.2)] at hstep
      rw [A4 hc]
      simp +contextual -implicitDefEqProofs (maxSteps := 10000000) (disch := first | (and_intros <;> omega -splitDisjunctions) | (push_cast; and_intros <;> omega -splitDisjunctions) | fail) only [t3, t4, t5, t6, p1, p2, f2, f3, g4, g5, g6, g7, g8, a1, o1, o2, ne_eq, not_true_eq_false, not_false_eq_true, go_sem, seval]
      exact ih (i + 1) _ _ W (xs ++ [10]) _ _ _ _ _ _ _ _ _ (by omega) (by omega) (by omega) (by rw [← hxs, hstep, List.append_assoc]; rfl) a3 a2 ⟨_, by rw [List.length_append]; rfl⟩
  exact key (l.length + 1) 0 (0 : Nat) (.sl H.length 0 1 0 0) (H ++ [.cells []]) [] _ _ _ _ _ _ _ _ _ (by omega) rfl (by omega) (by rw [hb0]; rfl) Hx.app (.inr ⟨H.length, rfl, by rw [A7]; rfl, Nat.le_refl _⟩) ⟨_, rfl⟩
 have t2 : (3 ≤ (l.length : Int)) = True := eq_true (by omega)
 have hbb : bomP l ↔ ((((l.getD 0 0).toNat : Nat) : Int) = 239 ∧ (((l.getD 1 0).toNat : Nat) : Int) = 187) ∧ (((l.getD 2 0).toNat : Nat) : Int) = 191 := by
  have u0 := BQ (x := l.getD 0 0) (n := 239) (by decide)
  have u1 := BQ (x := l.getD 1 0) (n := 187) (by decide)
  have u2 := BQ (x := l.getD 2 0) (n := 191) (by decide)
  unfold bomP
  have v0 : (((l.getD 0 0).toNat : Nat) : Int) = 239 ↔ l.getD 0 0 = 239 := iff_of_eq u0
  have v1 : (((l.getD 1 0).toNat : Nat) : Int) = 187 ↔ l.getD 1 0 = 187 := iff_of_eq u1
  have v2 : (((l.getD 2 0).toNat : Nat) : Int) = 191 ↔ l.getD 2 0 = 191 := iff_of_eq u2
  rw [v0, v1, v2]
  exact ⟨fun k => ⟨⟨k.2.1, k.2.2.1⟩, k.2.2.2⟩, fun k => ⟨by omega, k.1.1, k.1.2, k.2⟩⟩
 have c4 := h.con (by omega)
 have d0 := h.idx (T := ty Tryz.prog) (t := 22) (by simp only [Av, AC, ty5, ty22]) .i64 0 (by omega) (by omega)
 have d1 := h.idx (T := ty Tryz.prog) (t := 22) (by simp only [Av, AC, ty5, ty22]) .i64 1 (by omega) (by omega)
 have d2 := h.idx (T := ty Tryz.prog) (t := 22) (by simp only [Av, AC, ty5, ty22]) .i64 2 (by omega) (by omega)
 have m0 := fun n K => h.load1 0 (fun x => .int .u8 x.toNat) (fun _ => rfl) 0 (by omega) n K
 have m1 := fun n K => h.load1 0 (fun x => .int .u8 x.toNat) (fun _ => rfl) 1 (by omega) n K
 have m2 := fun n K => h.load1 0 (fun x => .int .u8 x.toNat) (fun _ => rfl) 2 (by omega) n K
 have z0 : (0 : Int).toNat = 0 := rfl
 have z1 : (1 : Int).toNat = 1 := rfl
 have z2 : (2 : Int).toNat = 2 := rfl
 simp only [Nat.mul_one, z0, z1, z2, Nat.add_zero] at d0 d1 d2
 simp only [Nat.zero_mul, Nat.one_mul, Nat.mul_one, Nat.add_zero] at m0 m1 m2
 by_cases hbom : bomP l
 ·have hb0 : bomN l = 3 := if_pos hbom
  have hbc := hbb.mp hbom
  unfold run
  rw [z6]
  simp +contextual -implicitDefEqProofs (maxSteps := 10000000) (disch := first | (and_intros <;> omega -splitDisjunctions) | (push_cast; and_intros <;> omega -splitDisjunctions) | fail) only [p1, p2, f2, f3, t1, t2, c4, d0, d1, d2, m0, m1, m2, hbc.1.1, hbc.1.2, hbc.2, go_sem, seval]
  refine Ae fun c R hc hR => ?_
  have key : ∀ (m : Nat) (i : Nat) (j : Int) (u : V) (B : LH) (xs : List UInt8) (x2 x3 x6 x9 x30 x35 x42 x62 x72 : Option V), l.length - i < m → j = i → i ≤ l.length → xs ++ nmL (l.drop i) = nmL (l.drop (bomN l)) → Hx H B → Own H.length B byC 1 u xs → (∃ b, u = .sl b 0 1 xs.length xs.length) →
   zEv (Ac (mkR Tryz.prog cfg ok [0, 2, 3, 4, 5, 6, 9, 30, 35, 42, 62, 72] H.length) .pure H [ResultVar.tmp 2, ResultVar.tmp 3]) (mkR Tryz.prog cfg ok [0, 2, 3, 4, 5, 6, 9, 30, 35, 42, 62, 72] H.length) (K.code (Code.loop c) :: K.blk 0 :: R) .nrm [some v, x2, x3, some (.int .i64 j), some u, x6, x9, x30, x35, x42, x62, x72] (B) = some (.tup [.str (if clnM (nrT l) = (nrT l).size then (nrT l, (0 : Int)) else (⟨#[]⟩, 2)).1, .int .i64 (if clnM (nrT l) = (nrT l).size then (nrT l, (0 : Int)) else (⟨#[]⟩, 2)).2], H) := by
   intro m
   induction m with
   | zero => intro i j u B xs x2 x3 x6 x9 x30 x35 x42 x62 x72 hm; omega
   | succ m ih =>
     intro i j u B xs x2 x3 x6 x9 x30 x35 x42 x62 x72 hm hj hi hxs hx ho hu
     subst hj
     have hxl := hx.len
     have o1 := (ho.at Ab).isTup; have o2 := (ho.at Ab).one
     have hlen : xs.length + (nmL (l.drop i)).length = (nmL (l.drop (bomN l))).length := by rw [← hxs, List.length_append]
     have hln := AH (l.drop (bomN l))
     rw [List.length_drop] at hln
     by_cases hlt : i < l.length
     rotate_left
     ·have t3 : ((i : Int) < l.length) = False := eq_false (by omega)
      rw [DO (by omega), List.append_nil] at hxs
      have hs : (⟨xs.toArray⟩ : ByteArray) = nrT l := by rw [hxs]; rfl
      obtain ⟨b, rfl⟩ := hu
      obtain ⟨hcb, hbl⟩ : B.cellsAt b = some (rows byC xs) ∧ H.length ≤ b := by
       rcases ho with ⟨_, k | k⟩ | ⟨b', k, k1, k2⟩
       ·cases k
       ·cases k
       ·cases k; exact ⟨k1, k2⟩
      have g1 := Ak Ab xs
      rw [Nat.mul_one] at g1
      have g2 := AQ Ab (xs := xs) (n := xs.length) (by omega)
      have g4 := Am xs
      unfold run at e1
      by_cases k : clnM (nrT l) = (nrT l).size
      ·have t9 : ((clnM (nrT l) : Int) < (nrT l).size) = False := eq_false (by omega)
       rw [A4 hc, ← hR]
       simp +contextual -implicitDefEqProofs (maxSteps := 10000000) (disch := first | (and_intros <;> omega -splitDisjunctions) | (push_cast; and_intros <;> omega -splitDisjunctions) | fail) only [t3, t9, p1, p2, f2, f3, hcb, g1, g2, g4, hs, e1, ne_eq, not_true_eq_false, not_false_eq_true, go_sem, seval]
       rw [if_pos k]
      ·have t9 : ((clnM (nrT l) : Int) < (nrT l).size) = True := eq_true (by omega)
       rw [A4 hc, ← hR]
       simp +contextual -implicitDefEqProofs (maxSteps := 10000000) (disch := first | (and_intros <;> omega -splitDisjunctions) | (push_cast; and_intros <;> omega -splitDisjunctions) | fail) only [t3, t9, p1, p2, f2, f3, hcb, g1, g2, g4, hs, e1, ne_eq, not_true_eq_false, not_false_eq_true, go_sem, seval]
       rw [if_neg k]
     have t3 : ((i : Int) < l.length) = True := eq_true (by omega)
     have rA := h.ext hx
     have g4 := rA.con (by omega)
     have g5 := h.idx (T := ty Tryz.prog) (t := 22) (by simp only [Av, AC, ty5, ty22]) .i64 i (by omega) (by omega)
     have g6 := fun n K => rA.load1 0 (fun x => .int .u8 x.toNat) (fun _ => rfl) i hlt n K
     have hstep := CD hlt
     simp only [Nat.mul_one, Int.toNat_natCast] at g5
     by_cases h13 : l.getD i 0 = 13
     rotate_left
     ·have t4 : ((((l.getD i 0).toNat : Nat) : Int) = 13) = False := eq_false (fun e => h13 (by have := BQ (x := l.getD i 0) (n := 13) (by decide); exact this.mp e))
      rw [if_neg h13] at hstep
      generalize l.getD i 0 = x at *
      obtain ⟨b2, W, a1, a2, a3, _⟩ := AO (fl := H.length) hx ho (Nat.le_refl _) (Nat.le_refl _) hxl [Blk.cells [V.int .u8 (x.toNat : Nat)]] x (by rw [hstep, List.length_cons] at hlen; omega)
      rw [A4 hc]
      simp +contextual -implicitDefEqProofs (maxSteps := 10000000) (disch := first | (and_intros <;> omega -splitDisjunctions) | (push_cast; and_intros <;> omega -splitDisjunctions) | fail) only [t3, t4, p1, p2, f2, f3, g4, g5, g6, a1, o1, o2, ne_eq, not_false_eq_true, go_sem, seval]
      exact ih (i + 1) _ _ W (xs ++ [x]) _ _ _ _ _ _ _ _ _ (by omega) (by omega) (by omega) (by rw [← hxs, hstep, List.append_assoc]; rfl) a3 a2 ⟨_, by rw [List.length_append]; rfl⟩
     have t4 : ((((l.getD i 0).toNat : Nat) : Int) = 13) = True := eq_true (by rw [h13]; rfl)
     rw [if_pos h13] at hstep
     obtain ⟨b2, W, a1, a2, a3, _⟩ := AO (fl := H.length) hx ho (Nat.le_refl _) (Nat.le_refl _) hxl [Blk.cells [V.int .u8 10]] 10 (by
      by_cases hcl : i + 1 < l.length ∧ l.getD (i + 1) 0 = 10
      ·have h8 := AH (l.drop (i + 1)); rw [if_pos hcl] at hstep; rw [List.length_drop] at h8; omega
      ·rw [if_neg hcl] at hstep; rw [hstep, List.length_cons] at hlen; omega)
     have e10 : V.int .u8 (((10 : UInt8).toNat : Nat) : Int) = V.int .u8 10 := rfl
     rw [e10] at a1
     by_cases hl1 : i + 1 < l.length
     rotate_left
     ·have t5 : ((l.length : Int) ≤ (i : Int) + 1) = True := eq_true (by omega)
      rw [if_neg (fun k => hl1 (by omega))] at hstep
      rw [A4 hc]
      simp +contextual -implicitDefEqProofs (maxSteps := 10000000) (disch := first | (and_intros <;> omega -splitDisjunctions) | (push_cast; and_intros <;> omega -splitDisjunctions) | fail) only [t3, t4, t5, p1, p2, f2, f3, g4, g5, g6, a1, o1, o2, ne_eq, not_true_eq_false, go_sem, seval]
      exact ih (i + 1) _ _ W (xs ++ [10]) _ _ _ _ _ _ _ _ _ (by omega) (by omega) (by omega) (by rw [← hxs, hstep, List.append_assoc]; rfl) a3 a2 ⟨_, by rw [List.length_append]; rfl⟩
     have t5 : ((l.length : Int) ≤ (i : Int) + 1) = False := eq_false (by omega)
     have g7 := h.idx (T := ty Tryz.prog) (t := 22) (by simp only [Av, AC, ty5, ty22]) .i64 ((i : Int) + 1) (by omega) (by omega)
     have g8 := fun n K => rA.load1 0 (fun x => .int .u8 x.toNat) (fun _ => rfl) (i + 1) (by omega) n K
     rw [show ((i : Int) + 1).toNat = i + 1 by omega] at g7
     simp only [Nat.mul_one] at g7
     by_cases h10 : l.getD (i + 1) 0 = 10
     ·have t6 : ((((l.getD (i + 1) 0).toNat : Nat) : Int) = 10) = True := eq_true (by rw [h10]; rfl)
      rw [if_pos ⟨by omega, h10⟩] at hstep
      rw [A4 hc]
      simp +contextual -implicitDefEqProofs (maxSteps := 10000000) (disch := first | (and_intros <;> omega -splitDisjunctions) | (push_cast; and_intros <;> omega -splitDisjunctions) | fail) only [t3, t4, t5, t6, p1, p2, f2, f3, g4, g5, g6, g7, g8, a1, o1, o2, ne_eq, not_true_eq_false, go_sem, seval]
      exact ih (i + 1) _ _ B xs _ _ _ _ _ _ _ _ _ (by omega) (by omega) (by omega) (by rw [← hxs, hstep]) hx ho hu
     ·have t6 : ((((l.getD (i + 1) 0).toNat : Nat) : Int) = 10) = False := eq_false (fun e => h10 (by have := BQ (x := l.getD (i + 1) 0) (n := 10) (by decide); exact this.mp e))
      rw [if_neg (fun k => h10 k.2)] at hstep
      rw [A4 hc]
      simp +contextual -implicitDefEqProofs (maxSteps := 10000000) (disch := first | (and_intros <;> omega -splitDisjunctions) | (push_cast; and_intros <;> omega -splitDisjunctions) | fail) only [t3, t4, t5, t6, p1, p2, f2, f3, g4, g5, g6, g7, g8, a1, o1, o2, ne_eq, not_true_eq_false, not_false_eq_true, go_sem, seval]
      exact ih (i + 1) _ _ W (xs ++ [10]) _ _ _ _ _ _ _ _ _ (by omega) (by omega) (by omega) (by rw [← hxs, hstep, List.append_assoc]; rfl) a3 a2 ⟨_, by rw [List.length_append]; rfl⟩
  exact key (l.length + 1) 3 (3 : Nat) (.sl H.length 0 1 0 0) (H ++ [.cells []]) [] _ _ _ _ _ _ _ _ _ (by omega) rfl (by omega) (by rw [hb0]; rfl) Hx.app (.inr ⟨H.length, rfl, by rw [A7]; rfl, Nat.le_refl _⟩) ⟨_, rfl⟩
 ·have hb0 : bomN l = 0 := if_neg hbom
  by_cases j0 : (((l.getD 0 0).toNat : Nat) : Int) = 239
  ·by_cases j1 : (((l.getD 1 0).toNat : Nat) : Int) = 187
   ·have j2 : ((((l.getD 2 0).toNat : Nat) : Int) = 191) = False := eq_false (fun k => hbom (hbb.mpr ⟨⟨j0, j1⟩, k⟩))
    unfold run
    rw [z6]
    simp +contextual -implicitDefEqProofs (maxSteps := 10000000) (disch := first | (and_intros <;> omega -splitDisjunctions) | (push_cast; and_intros <;> omega -splitDisjunctions) | fail) only [p1, p2, f2, f3, t1, t2, c4, d0, d1, d2, m0, m1, m2, j0, j1, j2, go_sem, seval]
    refine Ae fun c R hc hR => ?_
    have key : ∀ (m : Nat) (i : Nat) (j : Int) (u : V) (B : LH) (xs : List UInt8) (x2 x3 x6 x9 x30 x35 x42 x62 x72 : Option V), l.length - i < m → j = i → i ≤ l.length → xs ++ nmL (l.drop i) = nmL (l.drop (bomN l)) → Hx H B → Own H.length B byC 1 u xs → (∃ b, u = .sl b 0 1 xs.length xs.length) →
     zEv (Ac (mkR Tryz.prog cfg ok [0, 2, 3, 4, 5, 6, 9, 30, 35, 42, 62, 72] H.length) .pure H [ResultVar.tmp 2, ResultVar.tmp 3]) (mkR Tryz.prog cfg ok [0, 2, 3, 4, 5, 6, 9, 30, 35, 42, 62, 72] H.length) (K.code (Code.loop c) :: K.blk 0 :: R) .nrm [some v, x2, x3, some (.int .i64 j), some u, x6, x9, x30, x35, x42, x62, x72] (B) = some (.tup [.str (if clnM (nrT l) = (nrT l).size then (nrT l, (0 : Int)) else (⟨#[]⟩, 2)).1, .int .i64 (if clnM (nrT l) = (nrT l).size then (nrT l, (0 : Int)) else (⟨#[]⟩, 2)).2], H) := by
     intro m
     induction m with
     | zero => intro i j u B xs x2 x3 x6 x9 x30 x35 x42 x62 x72 hm; omega
     | succ m ih =>
       intro i j u B xs x2 x3 x6 x9 x30 x35 x42 x62 x72 hm hj hi hxs hx ho hu
       subst hj
       have hxl := hx.len
       have o1 := (ho.at Ab).isTup; have o2 := (ho.at Ab).one
       have hlen : xs.length + (nmL (l.drop i)).length = (nmL (l.drop (bomN l))).length := by rw [← hxs, List.length_append]
       have hln := AH (l.drop (bomN l))
       rw [List.length_drop] at hln
       by_cases hlt : i < l.length
       rotate_left
       ·have t3 : ((i : Int) < l.length) = False := eq_false (by omega)
        rw [DO (by omega), List.append_nil] at hxs
        have hs : (⟨xs.toArray⟩ : ByteArray) = nrT l := by rw [hxs]; rfl
        obtain ⟨b, rfl⟩ := hu
        obtain ⟨hcb, hbl⟩ : B.cellsAt b = some (rows byC xs) ∧ H.length ≤ b := by
         rcases ho with ⟨_, k | k⟩ | ⟨b', k, k1, k2⟩
         ·cases k
         ·cases k
         ·cases k; exact ⟨k1, k2⟩
        have g1 := Ak Ab xs
        rw [Nat.mul_one] at g1
        have g2 := AQ Ab (xs := xs) (n := xs.length) (by omega)
        have g4 := Am xs
        unfold run at e1
        by_cases k : clnM (nrT l) = (nrT l).size
        ·have t9 : ((clnM (nrT l) : Int) < (nrT l).size) = False := eq_false (by omega)
         rw [A4 hc, ← hR]
         simp +contextual -implicitDefEqProofs (maxSteps := 10000000) (disch := first | (and_intros <;> omega -splitDisjunctions) | (push_cast; and_intros <;> omega -splitDisjunctions) | fail) only [t3, t9, p1, p2, f2, f3, hcb, g1, g2, g4, hs, e1, ne_eq, not_true_eq_false, not_false_eq_true, go_sem, seval]
         rw [if_pos k]
        ·have t9 : ((clnM (nrT l) : Int) < (nrT l).size) = True := eq_true (by omega)
         rw [A4 hc, ← hR]
         simp +contextual -implicitDefEqProofs (maxSteps := 10000000) (disch := first | (and_intros <;> omega -splitDisjunctions) | (push_cast; and_intros <;> omega -splitDisjunctions) | fail) only [t3, t9, p1, p2, f2, f3, hcb, g1, g2, g4, hs, e1, ne_eq, not_true_eq_false, not_false_eq_true, go_sem, seval]
         rw [if_neg k]
       have t3 : ((i : Int) < l.length) = True := eq_true (by omega)
       have rA := h.ext hx
       have g4 := rA.con (by omega)
       have g5 := h.idx (T := ty Tryz.prog) (t := 22) (by simp only [Av, AC, ty5, ty22]) .i64 i (by omega) (by omega)
       have g6 := fun n K => rA.load1 0 (fun x => .int .u8 x.toNat) (fun _ => rfl) i hlt n K
       have hstep := CD hlt
       simp only [Nat.mul_one, Int.toNat_natCast] at g5
       by_cases h13 : l.getD i 0 = 13
       rotate_left
       ·have t4 : ((((l.getD i 0).toNat : Nat) : Int) = 13) = False := eq_false (fun e => h13 (by have := BQ (x := l.getD i 0) (n := 13) (by decide); exact this.mp e))
        rw [if_neg h13] at hstep
        generalize l.getD i 0 = x at *
        obtain ⟨b2, W, a1, a2, a3, _⟩ := AO (fl := H.length) hx ho (Nat.le_refl _) (Nat.le_refl _) hxl [Blk.cells [V.int .u8 (x.toNat : Nat)]] x (by rw [hstep, List.length_cons] at hlen; omega)
        rw [A4 hc]
        simp +contextual -implicitDefEqProofs (maxSteps := 10000000) (disch := first | (and_intros <;> omega -splitDisjunctions) | (push_cast; and_intros <;> omega -splitDisjunctions) | fail) only [t3, t4, p1, p2, f2, f3, g4, g5, g6, a1, o1, o2, ne_eq, not_false_eq_true, go_sem, seval]
        exact ih (i + 1) _ _ W (xs ++ [x]) _ _ _ _ _ _ _ _ _ (by omega) (by omega) (by omega) (by rw [← hxs, hstep, List.append_assoc]; rfl) a3 a2 ⟨_, by rw [List.length_append]; rfl⟩
       have t4 : ((((l.getD i 0).toNat : Nat) : Int) = 13) = True := eq_true (by rw [h13]; rfl)
       rw [if_pos h13] at hstep
       obtain ⟨b2, W, a1, a2, a3, _⟩ := AO (fl := H.length) hx ho (Nat.le_refl _) (Nat.le_refl _) hxl [Blk.cells [V.int .u8 10]] 10 (by
        by_cases hcl : i + 1 < l.length ∧ l.getD (i + 1) 0 = 10
        ·have h8 := AH (l.drop (i + 1)); rw [if_pos hcl] at hstep; rw [List.length_drop] at h8; omega
        ·rw [if_neg hcl] at hstep; rw [hstep, List.length_cons] at hlen; omega)
       have e10 : V.int .u8 (((10 : UInt8).toNat : Nat) : Int) = V.int .u8 10 := rfl
       rw [e10] at a1
       by_cases hl1 : i + 1 < l.length
       rotate_left
       ·have t5 : ((l.length : Int) ≤ (i : Int) + 1) = True := eq_true (by omega)
        rw [if_neg (fun k => hl1 (by omega))] at hstep
        rw [A4 hc]
        simp +contextual -implicitDefEqProofs (maxSteps := 10000000) (disch := first | (and_intros <;> omega -splitDisjunctions) | (push_cast; and_intros <;> omega -splitDisjunctions) | fail) only [t3, t4, t5, p1, p2, f2, f3, g4, g5, g6, a1, o1, o2, ne_eq, not_true_eq_false, go_sem, seval]
        exact ih (i + 1) _ _ W (xs ++ [10]) _ _ _ _ _ _ _ _ _ (by omega) (by omega) (by omega) (by rw [← hxs, hstep, List.append_assoc]; rfl) a3 a2 ⟨_, by rw [List.length_append]; rfl⟩
       have t5 : ((l.length : Int) ≤ (i : Int) + 1) = False := eq_false (by omega)
       have g7 := h.idx (T := ty Tryz.prog) (t := 22) (by simp only [Av, AC, ty5, ty22]) .i64 ((i : Int) + 1) (by omega) (by omega)
       have g8 := fun n K => rA.load1 0 (fun x => .int .u8 x.toNat) (fun _ => rfl) (i + 1) (by omega) n K
       rw [show ((i : Int) + 1).toNat = i + 1 by omega] at g7
       simp only [Nat.mul_one] at g7
       by_cases h10 : l.getD (i + 1) 0 = 10
       ·have t6 : ((((l.getD (i + 1) 0).toNat : Nat) : Int) = 10) = True := eq_true (by rw [h10]; rfl)
        rw [if_pos ⟨by omega, h10⟩] at hstep
        rw [A4 hc]
        simp +contextual -implicitDefEqProofs (maxSteps := 10000000) (disch := first | (and_intros <;> omega -splitDisjunctions) | (push_cast; and_intros <;> omega -splitDisjunctions) | fail) only [t3, t4, t5, t6, p1, p2, f2, f3, g4, g5, g6, g7, g8, a1, o1, o2, ne_eq, not_true_eq_false, go_sem, seval]
        exact ih (i + 1) _ _ B xs _ _ _ _ _ _ _ _ _ (by omega) (by omega) (by omega) (by rw [← hxs, hstep]) hx ho hu
       ·have t6 : ((((l.getD (i + 1) 0).toNat : Nat) : Int) = 10) = False := eq_false (fun e => h10 (by have := BQ (x := l.getD (i + 1) 0) (n := 10) (by decide); exact this.mp e))
        rw [if_neg (fun k => h10 k.2)] at hstep
        rw [A4 hc]
        simp +contextual -implicitDefEqProofs (maxSteps := 10000000) (disch := first | (and_intros <;> omega -splitDisjunctions) | (push_cast; and_intros <;> omega -splitDisjunctions) | fail) only [t3, t4, t5, t6, p1, p2, f2, f3, g4, g5, g6, g7, g8, a1, o1, o2, ne_eq, not_true_eq_false, not_false_eq_true, go_sem, seval]
        exact ih (i + 1) _ _ W (xs ++ [10]) _ _ _ _ _ _ _ _ _ (by omega) (by omega) (by omega) (by rw [← hxs, hstep, List.append_assoc]; rfl) a3 a2 ⟨_, by rw [List.length_append]; rfl⟩
    exact key (l.length + 1) 0 (0 : Nat) (.sl H.length 0 1 0 0) (H ++ [.cells []]) [] _ _ _ _ _ _ _ _ _ (by omega) rfl (by omega) (by rw [hb0]; rfl) Hx.app (.inr ⟨H.length, rfl, by rw [A7]; rfl, Nat.le_refl _⟩) ⟨_, rfl⟩
   ·have j1 : ((((l.getD 1 0).toNat : Nat) : Int) = 187) = False := eq_false j1
    unfold run
    rw [z6]
    simp +contextual -implicitDefEqProofs (maxSteps := 10000000) (disch := first | (and_intros <;> omega -splitDisjunctions) | (push_cast; and_intros <;> omega -splitDisjunctions) | fail) only [p1, p2, f2, f3, t1, t2, c4, d0, d1, d2, m0, m1, m2, j0, j1, go_sem, seval]
    refine Ae fun c R hc hR => ?_
    have key : ∀ (m : Nat) (i : Nat) (j : Int) (u : V) (B : LH) (xs : List UInt8) (x2 x3 x6 x9 x30 x35 x42 x62 x72 : Option V), l.length - i < m → j = i → i ≤ l.length → xs ++ nmL (l.drop i) = nmL (l.drop (bomN l)) → Hx H B → Own H.length B byC 1 u xs → (∃ b, u = .sl b 0 1 xs.length xs.length) →
     zEv (Ac (mkR Tryz.prog cfg ok [0, 2, 3, 4, 5, 6, 9, 30, 35, 42, 62, 72] H.length) .pure H [ResultVar.tmp 2, ResultVar.tmp 3]) (mkR Tryz.prog cfg ok [0, 2, 3, 4, 5, 6, 9, 30, 35, 42, 62, 72] H.length) (K.code (Code.loop c) :: K.blk 0 :: R) .nrm [some v, x2, x3, some (.int .i64 j), some u, x6, x9, x30, x35, x42, x62, x72] (B) = some (.tup [.str (if clnM (nrT l) = (nrT l).size then (nrT l, (0 : Int)) else (⟨#[]⟩, 2)).1, .int .i64 (if clnM (nrT l) = (nrT l).size then (nrT l, (0 : Int)) else (⟨#[]⟩, 2)).2], H) := by
     intro m
     induction m with
     | zero => intro i j u B xs x2 x3 x6 x9 x30 x35 x42 x62 x72 hm; omega
     | succ m ih =>
       intro i j u B xs x2 x3 x6 x9 x30 x35 x42 x62 x72 hm hj hi hxs hx ho hu
       subst hj
       have hxl := hx.len
       have o1 := (ho.at Ab).isTup; have o2 := (ho.at Ab).one
       have hlen : xs.length + (nmL (l.drop i)).length = (nmL (l.drop (bomN l))).length := by rw [← hxs, List.length_append]
       have hln := AH (l.drop (bomN l))
       rw [List.length_drop] at hln
       by_cases hlt : i < l.length
       rotate_left
       ·have t3 : ((i : Int) < l.length) = False := eq_false (by omega)
        rw [DO (by omega), List.append_nil] at hxs
        have hs : (⟨xs.toArray⟩ : ByteArray) = nrT l := by rw [hxs]; rfl
        obtain ⟨b, rfl⟩ := hu
        obtain ⟨hcb, hbl⟩ : B.cellsAt b = some (rows byC xs) ∧ H.length ≤ b := by
         rcases ho with ⟨_, k | k⟩ | ⟨b', k, k1, k2⟩
         ·cases k
         ·cases k
         ·cases k; exact ⟨k1, k2⟩
        have g1 := Ak Ab xs
        rw [Nat.mul_one] at g1
        have g2 := AQ Ab (xs := xs) (n := xs.length) (by omega)
        have g4 := Am xs
        unfold run at e1
        by_cases k : clnM (nrT l) = (nrT l).size
        ·have t9 : ((clnM (nrT l) : Int) < (nrT l).size) = False := eq_false (by omega)
         rw [A4 hc, ← hR]
         simp +contextual -implicitDefEqProofs (maxSteps := 10000000) (disch := first | (and_intros <;> omega -splitDisjunctions) | (push_cast; and_intros <;> omega -splitDisjunctions) | fail) only [t3, t9, p1, p2, f2, f3, hcb, g1, g2, g4, hs, e1, ne_eq, not_true_eq_false, not_false_eq_true, go_sem, seval]
         rw [if_pos k]
        ·have t9 : ((clnM (nrT l) : Int) < (nrT l).size) = True := eq_true (by omega)
         rw [A4 hc, ← hR]
         simp +contextual -implicitDefEqProofs (maxSteps := 10000000) (disch := first | (and_intros <;> omega -splitDisjunctions) | (push_cast; and_intros <;> omega -splitDisjunctions) | fail) only [t3, t9, p1, p2, f2, f3, hcb, g1, g2, g4, hs, e1, ne_eq, not_true_eq_false, not_false_eq_true, go_sem, seval]
         rw [if_neg k]
       have t3 : ((i : Int) < l.length) = True := eq_true (by omega)
       have rA := h.ext hx
       have g4 := rA.con (by omega)
       have g5 := h.idx (T := ty Tryz.prog) (t := 22) (by simp only [Av, AC, ty5, ty22]) .i64 i (by omega) (by omega)
       have g6 := fun n K => rA.load1 0 (fun x => .int .u8 x.toNat) (fun _ => rfl) i hlt n K
       have hstep := CD hlt
       simp only [Nat.mul_one, Int.toNat_natCast] at g5
       by_cases h13 : l.getD i 0 = 13
       rotate_left
       ·have t4 : ((((l.getD i 0).toNat : Nat) : Int) = 13) = False := eq_false (fun e => h13 (by have := BQ (x := l.getD i 0) (n := 13) (by decide); exact this.mp e))
        rw [if_neg h13] at hstep
        generalize l.getD i 0 = x at *
        obtain ⟨b2, W, a1, a2, a3, _⟩ := AO (fl := H.length) hx ho (Nat.le_refl _) (Nat.le_refl _) hxl [Blk.cells [V.int .u8 (x.toNat : Nat)]] x (by rw [hstep, List.length_cons] at hlen; omega)
        rw [A4 hc]
        simp +contextual -implicitDefEqProofs (maxSteps := 10000000) (disch := first | (and_intros <;> omega -splitDisjunctions) | (push_cast; and_intros <;> omega -splitDisjunctions) | fail) only [t3, t4, p1, p2, f2, f3, g4, g5, g6, a1, o1, o2, ne_eq, not_false_eq_true, go_sem, seval]
        exact ih (i + 1) _ _ W (xs ++ [x]) _ _ _ _ _ _ _ _ _ (by omega) (by omega) (by omega) (by rw [← hxs, hstep, List.append_assoc]; rfl) a3 a2 ⟨_, by rw [List.length_append]; rfl⟩
       have t4 : ((((l.getD i 0).toNat : Nat) : Int) = 13) = True := eq_true (by rw [h13]; rfl)
       rw [if_pos h13] at hstep
       obtain ⟨b2, W, a1, a2, a3, _⟩ := AO (fl := H.length) hx ho (Nat.le_refl _) (Nat.le_refl _) hxl [Blk.cells [V.int .u8 10]] 10 (by
        by_cases hcl : i + 1 < l.length ∧ l.getD (i + 1) 0 = 10
        ·have h8 := AH (l.drop (i + 1)); rw [if_pos hcl] at hstep; rw [List.length_drop] at h8; omega
        ·rw [if_neg hcl] at hstep; rw [hstep, List.length_cons] at hlen; omega)
       have e10 : V.int .u8 (((10 : UInt8).toNat : Nat) : Int) = V.int .u8 10 := rfl
       rw [e10] at a1
       by_cases hl1 : i + 1 < l.length
       rotate_left
       ·have t5 : ((l.length : Int) ≤ (i : Int) + 1) = True := eq_true (by omega)
        rw [if_neg (fun k => hl1 (by omega))] at hstep
        rw [A4 hc]
        simp +contextual -implicitDefEqProofs (maxSteps := 10000000) (disch := first | (and_intros <;> omega -splitDisjunctions) | (push_cast; and_intros <;> omega -splitDisjunctions) | fail) only [t3, t4, t5, p1, p2, f2, f3, g4, g5, g6, a1, o1, o2, ne_eq, not_true_eq_false, go_sem, seval]
        exact ih (i + 1) _ _ W (xs ++ [10]) _ _ _ _ _ _ _ _ _ (by omega) (by omega) (by omega) (by rw [← hxs, hstep, List.append_assoc]; rfl) a3 a2 ⟨_, by rw [List.length_append]; rfl⟩
       have t5 : ((l.length : Int) ≤ (i : Int) + 1) = False := eq_false (by omega)
       have g7 := h.idx (T := ty Tryz.prog) (t := 22) (by simp only [Av, AC, ty5, ty22]) .i64 ((i : Int) + 1) (by omega) (by omega)
       have g8 := fun n K => rA.load1 0 (fun x => .int .u8 x.toNat) (fun _ => rfl) (i + 1) (by omega) n K
       rw [show ((i : Int) + 1).toNat = i + 1 by omega] at g7
       simp only [Nat.mul_one] at g7
       by_cases h10 : l.getD (i + 1) 0 = 10
       ·have t6 : ((((l.getD (i + 1) 0).toNat : Nat) : Int) = 10) = True := eq_true (by rw [h10]; rfl)
        rw [if_pos ⟨by omega, h10⟩] at hstep
        rw [A4 hc]
        simp +contextual -implicitDefEqProofs (maxSteps := 10000000) (disch := first | (and_intros <;> omega -splitDisjunctions) | (push_cast; and_intros <;> omega -splitDisjunctions) | fail) only [t3, t4, t5, t6, p1, p2, f2, f3, g4, g5, g6, g7, g8, a1, o1, o2, ne_eq, not_true_eq_false, go_sem, seval]
        exact ih (i + 1) _ _ B xs _ _ _ _ _ _ _ _ _ (by omega) (by omega) (by omega) (by rw [← hxs, hstep]) hx ho hu
       ·have t6 : ((((l.getD (i + 1) 0).toNat : Nat) : Int) = 10) = False := eq_false (fun e => h10 (by have := BQ (x := l.getD (i + 1) 0) (n := 10) (by decide); exact this.mp e))
        rw [if_neg (fun k => h10 k.2)] at hstep
        rw [A4 hc]
        simp +contextual -implicitDefEqProofs (maxSteps := 10000000) (disch := first | (and_intros <;> omega -splitDisjunctions) | (push_cast; and_intros <;> omega -splitDisjunctions) | fail) only [t3, t4, t5, t6, p1, p2, f2, f3, g4, g5, g6, g7, g8, a1, o1, o2, ne_eq, not_true_eq_false, not_false_eq_true, go_sem, seval]
        exact ih (i + 1) _ _ W (xs ++ [10]) _ _ _ _ _ _ _ _ _ (by omega) (by omega) (by omega) (by rw [← hxs, hstep, List.append_assoc]; rfl) a3 a2 ⟨_, by rw [List.length_append]; rfl⟩
    exact key (l.length + 1) 0 (0 : Nat) (.sl H.length 0 1 0 0) (H ++ [.cells []]) [] _ _ _ _ _ _ _ _ _ (by omega) rfl (by omega) (by rw [hb0]; rfl) Hx.app (.inr ⟨H.length, rfl, by rw [A7]; rfl, Nat.le_refl _⟩) ⟨_, rfl⟩
  ·have j0 : ((((l.getD 0 0).toNat : Nat) : Int) = 239) = False := eq_false j0
   unfold run
   rw [z6]
   simp +contextual -implicitDefEqProofs (maxSteps := 10000000) (disch := first | (and_intros <;> omega -splitDisjunctions) | (push_cast; and_intros <;> omega -splitDisjunctions) | fail) only [p1, p2, f2, f3, t1, t2, c4, d0, d1, d2, m0, m1, m2, j0, go_sem, seval]
   refine Ae fun c R hc hR => ?_
   have key : ∀ (m : Nat) (i : Nat) (j : Int) (u : V) (B : LH) (xs : List UInt8) (x2 x3 x6 x9 x30 x35 x42 x62 x72 : Option V), l.length - i < m → j = i → i ≤ l.length → xs ++ nmL (l.drop i) = nmL (l.drop (bomN l)) → Hx H B → Own H.length B byC 1 u xs → (∃ b, u = .sl b 0 1 xs.length xs.length) →
    zEv (Ac (mkR Tryz.prog cfg ok [0, 2, 3, 4, 5, 6, 9, 30, 35, 42, 62, 72] H.length) .pure H [ResultVar.tmp 2, ResultVar.tmp 3]) (mkR Tryz.prog cfg ok [0, 2, 3, 4, 5, 6, 9, 30, 35, 42, 62, 72] H.length) (K.code (Code.loop c) :: K.blk 0 :: R) .nrm [some v, x2, x3, some (.int .i64 j), some u, x6, x9, x30, x35, x42, x62, x72] (B) = some (.tup [.str (if clnM (nrT l) = (nrT l).size then (nrT l, (0 : Int)) else (⟨#[]⟩, 2)).1, .int .i64 (if clnM (nrT l) = (nrT l).size then (nrT l, (0 : Int)) else (⟨#[]⟩, 2)).2], H) := by
    intro m
    induction m with
    | zero => intro i j u B xs x2 x3 x6 x9 x30 x35 x42 x62 x72 hm; omega
    | succ m ih =>
      intro i j u B xs x2 x3 x6 x9 x30 x35 x42 x62 x72 hm hj hi hxs hx ho hu
      subst hj
      have hxl := hx.len
      have o1 := (ho.at Ab).isTup; have o2 := (ho.at Ab).one
      have hlen : xs.length + (nmL (l.drop i)).length = (nmL (l.drop (bomN l))).length := by rw [← hxs, List.length_append]
      have hln := AH (l.drop (bomN l))
      rw [List.length_drop] at hln
      by_cases hlt : i < l.length
      rotate_left
      ·have t3 : ((i : Int) < l.length) = False := eq_false (by omega)
       rw [DO (by omega), List.append_nil] at hxs
       have hs : (⟨xs.toArray⟩ : ByteArray) = nrT l := by rw [hxs]; rfl
       obtain ⟨b, rfl⟩ := hu
       obtain ⟨hcb, hbl⟩ : B.cellsAt b = some (rows byC xs) ∧ H.length ≤ b := by
        rcases ho with ⟨_, k | k⟩ | ⟨b', k, k1, k2⟩
        ·cases k
        ·cases k
        ·cases k; exact ⟨k1, k2⟩
       have g1 := Ak Ab xs
       rw [Nat.mul_one] at g1
       have g2 := AQ Ab (xs := xs) (n := xs.length) (by omega)
       have g4 := Am xs
       unfold run at e1
       by_cases k : clnM (nrT l) = (nrT l).size
       ·have t9 : ((clnM (nrT l) : Int) < (nrT l).size) = False := eq_false (by omega)
        rw [A4 hc, ← hR]
        simp +contextual -implicitDefEqProofs (maxSteps := 10000000) (disch := first | (and_intros <;> omega -splitDisjunctions) | (push_cast; and_intros <;> omega -splitDisjunctions) | fail) only [t3, t9, p1, p2, f2, f3, hcb, g1, g2, g4, hs, e1, ne_eq, not_true_eq_false, not_false_eq_true, go_sem, seval]
        rw [if_pos k]
       ·have t9 : ((clnM (nrT l) : Int) < (nrT l).size) = True := eq_true (by omega)
        rw [A4 hc, ← hR]
        simp +contextual -implicitDefEqProofs (maxSteps := 10000000) (disch := first | (and_intros <;> omega -splitDisjunctions) | (push_cast; and_intros <;> omega -splitDisjunctions) | fail) only [t3, t9, p1, p2, f2, f3, hcb, g1, g2, g4, hs, e1, ne_eq, not_true_eq_false, not_false_eq_true, go_sem, seval]
        rw [if_neg k]
      have t3 : ((i : Int) < l.length) = True := eq_true (by omega)
      have rA := h.ext hx
      have g4 := rA.con (by omega)
      have g5 := h.idx (T := ty Tryz.prog) (t := 22) (by simp only [Av, AC, ty5, ty22]) .i64 i (by omega) (by omega)
      have g6 := fun n K => rA.load1 0 (fun x => .int .u8 x.toNat) (fun _ => rfl) i hlt n K
      have hstep := CD hlt
      simp only [Nat.mul_one, Int.toNat_natCast] at g5
      by_cases h13 : l.getD i 0 = 13
      rotate_left
      ·have t4 : ((((l.getD i 0).toNat : Nat) : Int) = 13) = False := eq_false (fun e => h13 (by have := BQ (x := l.getD i 0) (n := 13) (by decide); exact this.mp e))
       rw [if_neg h13] at hstep
       generalize l.getD i 0 = x at *
       obtain ⟨b2, W, a1, a2, a3, _⟩ := AO (fl := H.length) hx ho (Nat.le_refl _) (Nat.le_refl _) hxl [Blk.cells [V.int .u8 (x.toNat : Nat)]] x (by rw [hstep, List.length_cons] at hlen; omega)
       rw [A4 hc]
       simp +contextual -implicitDefEqProofs (maxSteps := 10000000) (disch := first | (and_intros <;> omega -splitDisjunctions) | (push_cast; and_intros <;> omega -splitDisjunctions) | fail) only [t3, t4, p1, p2, f2, f3, g4, g5, g6, a1, o1, o2, ne_eq, not_false_eq_true, go_sem, seval]
       exact ih (i + 1) _ _ W (xs ++ [x]) _ _ _ _ _ _ _ _ _ (by omega) (by omega) (by omega) (by rw [← hxs, hstep, List.append_assoc]; rfl) a3 a2 ⟨_, by rw [List.length_append]; rfl⟩
      have t4 : ((((l.getD i 0).toNat : Nat) : Int) = 13) = True := eq_true (by rw [h13]; rfl)
      rw [if_pos h13] at hstep
      obtain ⟨b2, W, a1, a2, a3, _⟩ := AO (fl := H.length) hx ho (Nat.le_refl _) (Nat.le_refl _) hxl [Blk.cells [V.int .u8 10]] 10 (by
       by_cases hcl : i + 1 < l.length ∧ l.getD (i + 1) 0 = 10
       ·have h8 := AH (l.drop (i + 1)); rw [if_pos hcl] at hstep; rw [List.length_drop] at h8; omega
       ·rw [if_neg hcl] at hstep; rw [hstep, List.length_cons] at hlen; omega)
      have e10 : V.int .u8 (((10 : UInt8).toNat : Nat) : Int) = V.int .u8 10 := rfl
      rw [e10] at a1
      by_cases hl1 : i + 1 < l.length
      rotate_left
      ·have t5 : ((l.length : Int) ≤ (i : Int) + 1) = True := eq_true (by omega)
       rw [if_neg (fun k => hl1 (by omega))] at hstep
       rw [A4 hc]
       simp +contextual -implicitDefEqProofs (maxSteps := 10000000) (disch := first | (and_intros <;> omega -splitDisjunctions) | (push_cast; and_intros <;> omega -splitDisjunctions) | fail) only [t3, t4, t5, p1, p2, f2, f3, g4, g5, g6, a1, o1, o2, ne_eq, not_true_eq_false, go_sem, seval]
       exact ih (i + 1) _ _ W (xs ++ [10]) _ _ _ _ _ _ _ _ _ (by omega) (by omega) (by omega) (by rw [← hxs, hstep, List.append_assoc]; rfl) a3 a2 ⟨_, by rw [List.length_append]; rfl⟩
      have t5 : ((l.length : Int) ≤ (i : Int) + 1) = False := eq_false (by omega)
      have g7 := h.idx (T := ty Tryz.prog) (t := 22) (by simp only [Av, AC, ty5, ty22]) .i64 ((i : Int) + 1) (by omega) (by omega)
      have g8 := fun n K => rA.load1 0 (fun x => .int .u8 x.toNat) (fun _ => rfl) (i + 1) (by omega) n K
      rw [show ((i : Int) + 1).toNat = i + 1 by omega] at g7
      simp only [Nat.mul_one] at g7
      by_cases h10 : l.getD (i + 1) 0 = 10
      ·have t6 : ((((l.getD (i + 1) 0).toNat : Nat) : Int) = 10) = True := eq_true (by rw [h10]; rfl)
       rw [if_pos ⟨by omega, h10⟩] at hstep
       rw [A4 hc]
       simp +contextual -implicitDefEqProofs (maxSteps := 10000000) (disch := first | (and_intros <;> omega -splitDisjunctions) | (push_cast; and_intros <;> omega -splitDisjunctions) | fail) only [t3, t4, t5, t6, p1, p2, f2, f3, g4, g5, g6, g7, g8, a1, o1, o2, ne_eq, not_true_eq_false, go_sem, seval]
       exact ih (i + 1) _ _ B xs _ _ _ _ _ _ _ _ _ (by omega) (by omega) (by omega) (by rw [← hxs, hstep]) hx ho hu
      ·have t6 : ((((l.getD (i + 1) 0).toNat : Nat) : Int) = 10) = False := eq_false (fun e => h10 (by have := BQ (x := l.getD (i + 1) 0) (n := 10) (by decide); exact this.mp e))
       rw [if_neg (fun k => h10 k.2)] at hstep
       rw [A4 hc]
       simp +contextual -implicitDefEqProofs (maxSteps := 10000000) (disch := first | (and_intros <;> omega -splitDisjunctions) | (push_cast; and_intros <;> omega -splitDisjunctions) | fail) only [t3, t4, t5, t6, p1, p2, f2, f3, g4, g5, g6, g7, g8, a1, o1, o2, ne_eq, not_true_eq_false, not_false_eq_true, go_sem, seval]
       exact ih (i + 1) _ _ W (xs ++ [10]) _ _ _ _ _ _ _ _ _ (by omega) (by omega) (by omega) (by rw [← hxs, hstep, List.append_assoc]; rfl) a3 a2 ⟨_, by rw [List.length_append]; rfl⟩
   exact key (l.length + 1) 0 (0 : Nat) (.sl H.length 0 1 0 0) (H ++ [.cells []]) [] _ _ _ _ _ _ _ _ _ (by omega) rfl (by omega) (by rw [hb0]; rfl) Hx.app (.inr ⟨H.length, rfl, by rw [A7]; rfl, Nat.le_refl _⟩) ⟨_, rfl⟩
theorem HT {s : ByteArray} {i : Nat} (h : i < s.size) : bA s (i : Int) = ((((bs s).getD i 0).toNat : Nat) : Int) := by rw [Bn h, Bp (by exact h)]
theorem Md {s : ByteArray} {d p : Nat} (h : clnG s (d + 1) p = s.size) (hp : p < s.size) : (Au s p).2 ≠ 0 ∧ mayB (Au s p).1 ∧ clnG s d (p + (Au s p).2.toNat) = s.size := by
 rw [Mb, if_pos hp] at h
 by_cases h2 : (Au s p).2 = 0 ∨ ¬ mayB (Au s p).1
 ·rw [if_pos h2] at h; omega
 ·rw [if_neg h2] at h
  exact ⟨fun k => h2 (.inl k), Classical.byContradiction fun k => h2 (.inr k), h⟩
theorem Mc {s : ByteArray} : ∀ (d p : Nat), s.size - p < d → p ≤ s.size → clnG s d p = s.size → ∀ i, p ≤ i → i < s.size → bA s (i : Nat) ≠ 13
 | 0, p, h, _, _, i, _, _ => by omega
 | d + 1, p, hd, hp, h, i, hi, hi2 => by
   obtain ⟨h1, h2, h3⟩ := Md h (by omega)
   have hf := FN hp
   have hn := FM s p
   by_cases hlt : i < p + (Au s p).2.toNat
   ·unfold Au at h1 h2 hlt hn
    rw [FP (by omega) (by omega)] at h1 h2 hlt hn
    rcases Pd _ _ _ _ h1 with ⟨e, k⟩ | ⟨e, k⟩ | ⟨e, k⟩ | ⟨e, k⟩ <;> rw [e] at hlt h2 <;> dsimp only at hlt h2
    ·have : i = p := by omega
     subst this
     unfold mayB at h2
     omega
    ·have : (i : Int) = p ∨ (i : Int) = (p : Int) + 1 := by omega
     rcases this with k2 | k2 <;> rw [k2] <;> omega
    ·have : (i : Int) = p ∨ (i : Int) = (p : Int) + 1 ∨ (i : Int) = (p : Int) + 2 := by omega
     rcases this with k2 | k2 | k2 <;> rw [k2] <;> omega
    ·have : (i : Int) = p ∨ (i : Int) = (p : Int) + 1 ∨ (i : Int) = (p : Int) + 2 ∨ (i : Int) = (p : Int) + 3 := by omega
     rcases this with k2 | k2 | k2 | k2 <;> rw [k2] <;> omega
   ·exact Mc d _ (by omega) hf h3 i (by omega) hi2
theorem Ty : ∀ (l : List UInt8), (∀ x ∈ l, x ≠ 13) → nmL l = l
 | [], _ => rfl
 | x :: r, h => by
   unfold nmL
   rw [if_neg (h x (by simp)), Ty r (fun y hy => h y (List.mem_cons_of_mem _ hy))]
theorem Ud {s : ByteArray} (h : clnM s = s.size) : ¬ bomP (bs s) := by
 rintro ⟨h0, h1, h2, h3⟩
 rw [C6] at h0
 have e0 : bA s ((0 : Nat) : Int) = 239 := by rw [HT (by omega), h1]; rfl
 have e1 : bA s ((1 : Nat) : Int) = 187 := by rw [HT (by omega), h2]; rfl
 have e2 : bA s ((2 : Nat) : Int) = 191 := by rw [HT (by omega), h3]; rfl
 obtain ⟨k1, k2, _⟩ := Md h (by omega)
 unfold Au at k1 k2
 rw [FP (by omega) (by omega)] at k1 k2
 have f0 : bA s (((0 : Nat) : Int)) = 239 := e0
 have f1 : bA s (((0 : Nat) : Int) + 1) = 187 := e1
 have f2 : bA s (((0 : Nat) : Int) + 2) = 191 := e2
 rw [f0, f1, f2] at k2
 have : (decM 239 187 191 (bA s (((0 : Nat) : Int) + 3))).1 = 65279 := by
  unfold decM
  simp
 rw [this] at k2
 unfold mayB at k2
 omega
theorem Wg {s : ByteArray} (h : clnM s = s.size) (hz : s.size ≤ 60000) : nrM (bs s) = (s, 0) := by
 have hb : bomN (bs s) = 0 := if_neg (Ud h)
 have hn : nmL (bs s) = bs s := Ty _ (fun x hx e => by
  obtain ⟨i, hi, he⟩ := List.mem_iff_getElem.1 hx
  rw [C6] at hi
  refine Mc _ 0 (by omega) (Nat.zero_le _) h i (Nat.zero_le _) hi ?_
  rw [Bn hi, he, e]; rfl)
 have ht : nrT (bs s) = s := by
  unfold nrT
  rw [hb, List.drop_zero, hn]
 unfold nrM
 rw [if_neg (by rw [C6]; omega), ht, if_pos h]
theorem Qn (l : List UInt8) : ((nrM l).2 = 0 ∧ clnM (nrM l).1 = (nrM l).1.size) ∨ ((nrM l).2 ≠ 0 ∧ (nrM l).1 = ⟨#[]⟩) := by
 unfold nrM
 by_cases h : 60000 < l.length
 ·rw [if_pos h]; exact .inr ⟨by show (1 : Int) ≠ 0; decide, rfl⟩
 ·rw [if_neg h]
  by_cases k : clnM (nrT l) = (nrT l).size
  ·rw [if_pos k]; exact .inl ⟨rfl, k⟩
  ·rw [if_neg k]; exact .inr ⟨by show (2 : Int) ≠ 0; decide, rfl⟩
theorem DQ (x : UInt8) : uI ((x.toNat : Nat) : Int) = x := by
 unfold uI
 rw [Int.toNat_natCast]
 exact UInt8.toNat_inj.1 (by rw [UInt8.toNat_ofNat', Nat.mod_eq_of_lt x.toNat_lt])
theorem Wo : ∀ l : List UInt8, 1 ≤ l.length → l.take 1 = [l.getD 0 0]
 | a :: r, _ => rfl
theorem Wp : ∀ l : List UInt8, 2 ≤ l.length → l.take 2 = [l.getD 0 0, l.getD 1 0]
 | a :: b :: r, _ => rfl
theorem Wq : ∀ l : List UInt8, 3 ≤ l.length → l.take 3 = [l.getD 0 0, l.getD 1 0, l.getD 2 0]
 | a :: b :: c :: r, _ => rfl
theorem Wr : ∀ l : List UInt8, 4 ≤ l.length → l.take 4 = [l.getD 0 0, l.getD 1 0, l.getD 2 0, l.getD 3 0]
 | a :: b :: c :: d :: r, _ => rfl
theorem rb_1 {x0 : Int} (h : 0 ≤ x0 ∧ x0 < 128) : rbM x0 = ⟨#[uI x0]⟩ := by
 have hok : okR x0 := ⟨⟨by omega, by omega⟩, by omega⟩
 unfold rbM
 rw [if_pos hok]
 unfold encL
 rw [if_pos h.2]
theorem rb_2 {x0 x1 : Int} (h : 194 ≤ x0 ∧ x0 < 224) (h1 : 128 ≤ x1 ∧ x1 ≤ 191) : rbM ((x0 - 192) * 64 + (x1 - 128)) = ⟨#[uI x0, uI x1]⟩ := by
 have hok : okR ((x0 - 192) * 64 + (x1 - 128)) := ⟨⟨by omega, by omega⟩, by omega⟩
 have q0 : 192 + ((x0 - 192) * 64 + (x1 - 128)) / 64 = x0 := by omega
 have q1 : 128 + ((x0 - 192) * 64 + (x1 - 128)) % 64 = x1 := by omega
 unfold rbM
 rw [if_pos hok]
 unfold encL
 rw [if_neg (by omega), if_pos (by omega), q0, q1]
theorem rb_3 {x0 x1 x2 : Int} (h : 224 ≤ x0 ∧ x0 < 240) (h1 : 128 ≤ x1 ∧ x1 ≤ 191 ∧ (x0 = 224 → 160 ≤ x1) ∧ (x0 = 237 → x1 ≤ 159)) (h2 : 128 ≤ x2 ∧ x2 ≤ 191) : rbM (((x0 - 224) * 64 + (x1 - 128)) * 64 + (x2 - 128)) = ⟨#[uI x0, uI x1, uI x2]⟩ := by
 obtain ⟨a1, a2, a3, a4⟩ := h1
 have hok : okR (((x0 - 224) * 64 + (x1 - 128)) * 64 + (x2 - 128)) := ⟨⟨by omega, by omega⟩, by omega⟩
 have q0 : 224 + (((x0 - 224) * 64 + (x1 - 128)) * 64 + (x2 - 128)) / 4096 = x0 := by omega
 have q1 : 128 + (((x0 - 224) * 64 + (x1 - 128)) * 64 + (x2 - 128)) / 64 % 64 = x1 := by omega
 have q2 : 128 + (((x0 - 224) * 64 + (x1 - 128)) * 64 + (x2 - 128)) % 64 = x2 := by omega
 unfold rbM
 rw [if_pos hok]
 unfold encL
 rw [if_neg (by omega), if_neg (by omega), if_pos (by omega), q0, q1, q2]
theorem rb_4 {x0 x1 x2 x3 : Int} (h : 240 ≤ x0 ∧ x0 ≤ 244) (h1 : 128 ≤ x1 ∧ x1 ≤ 191 ∧ (x0 = 240 → 144 ≤ x1) ∧ (x0 = 244 → x1 ≤ 143)) (h2 : 128 ≤ x2 ∧ x2 ≤ 191) (h3 : 128 ≤ x3 ∧ x3 ≤ 191) :
 rbM ((((x0 - 240) * 64 + (x1 - 128)) * 64 + (x2 - 128)) * 64 + (x3 - 128)) = ⟨#[uI x0, uI x1, uI x2, uI x3]⟩ := by
 obtain ⟨a1, a2, a3, a4⟩ := h1
 have hok : okR ((((x0 - 240) * 64 + (x1 - 128)) * 64 + (x2 - 128)) * 64 + (x3 - 128)) := ⟨⟨by omega, by omega⟩, by omega⟩
 have q0 : 240 + ((((x0 - 240) * 64 + (x1 - 128)) * 64 + (x2 - 128)) * 64 + (x3 - 128)) / 262144 = x0 := by omega
 have q1 : 128 + ((((x0 - 240) * 64 + (x1 - 128)) * 64 + (x2 - 128)) * 64 + (x3 - 128)) / 4096 % 64 = x1 := by omega
 have q2 : 128 + ((((x0 - 240) * 64 + (x1 - 128)) * 64 + (x2 - 128)) * 64 + (x3 - 128)) / 64 % 64 = x2 := by omega
 have q3 : 128 + ((((x0 - 240) * 64 + (x1 - 128)) * 64 + (x2 - 128)) * 64 + (x3 - 128)) % 64 = x3 := by omega
 unfold rbM
 rw [if_pos hok]
 unfold encL
 rw [if_neg (by omega), if_neg (by omega), if_neg (by omega), q0, q1, q2, q3]
theorem V5 {l : List UInt8} {r n : Int} (h : Au ⟨l.toArray⟩ 0 = (r, n)) (hn : 0 < n) : rbM r = ⟨(l.take n.toNat).toArray⟩ ∧ n.toNat ≤ l.length := by
 have hz : (⟨l.toArray⟩ : ByteArray).size = l.length := rfl
 have hfit := FN (s := ⟨l.toArray⟩) (p := 0) (Nat.zero_le _)
 rw [show ((0 : Nat) : Int) = 0 from rfl, h, hz] at hfit
 dsimp only at hfit
 unfold Au at h
 rw [FP (by omega) (by omega)] at h
 have at_ : ∀ (i : Nat), i < l.length → bA ⟨l.toArray⟩ (i : Int) = (((l.getD i 0).toNat : Nat) : Int) := fun i hi => by
  rw [HT (by exact hi), WO]
 have hne : (decM (bA ⟨l.toArray⟩ 0) (bA ⟨l.toArray⟩ (0 + 1)) (bA ⟨l.toArray⟩ (0 + 2)) (bA ⟨l.toArray⟩ (0 + 3))).2 ≠ 0 := by rw [h]; show n ≠ 0; omega
 refine ⟨?_, by omega⟩
 have e0 : 0 < l.length → bA ⟨l.toArray⟩ 0 = (((l.getD 0 0).toNat : Nat) : Int) := at_ 0
 have e1 : 1 < l.length → bA ⟨l.toArray⟩ (0 + 1) = (((l.getD 1 0).toNat : Nat) : Int) := at_ 1
 have e2 : 2 < l.length → bA ⟨l.toArray⟩ (0 + 2) = (((l.getD 2 0).toNat : Nat) : Int) := at_ 2
 have e3 : 3 < l.length → bA ⟨l.toArray⟩ (0 + 3) = (((l.getD 3 0).toNat : Nat) : Int) := at_ 3
 clear at_
 rcases Pd _ _ _ _ hne with ⟨e, k⟩ | ⟨e, k⟩ | ⟨e, k⟩ | ⟨e, k⟩ <;> rw [h] at e <;> have er := congrArg Prod.fst e <;> have en := congrArg Prod.snd e <;> dsimp only at er en <;> subst er <;> subst en
 ·rw [e0 (by omega)] at k ⊢
  rw [rb_1 ⟨k.1, k.2⟩, show (1 : Int).toNat = 1 from rfl, Wo l (by omega), DQ]
 ·rw [e0 (by omega), e1 (by omega)] at k ⊢
  rw [rb_2 k.1 k.2, show (2 : Int).toNat = 2 from rfl, Wp l (by omega), DQ, DQ]
 ·rw [e0 (by omega), e1 (by omega), e2 (by omega)] at k ⊢
  rw [rb_3 k.1 k.2.1 k.2.2, show (3 : Int).toNat = 3 from rfl, Wq l (by omega), DQ, DQ, DQ]
 ·rw [e0 (by omega), e1 (by omega), e2 (by omega), e3 (by omega)] at k ⊢
  rw [rb_4 k.1 k.2.1 k.2.2.1 k.2.2.2, show (4 : Int).toNat = 4 from rfl, Wr l (by omega), DQ, DQ, DQ, DQ]
open Go.Proofs.YthlbglmfdjdagaaGreatDoor
theorem DAt.bel {G H : LH} {b : Nat} {cv : V} {code : List UInt8} (h : DAt G H b cv code) : b < H.length := by
 obtain ⟨_, _, _, _, i, n, hc, _⟩ := h
 exact A5 hc
theorem Cur.len {H B : LH} {b : Nat} (h : Cur H B b) : B.length = H.length := by
 obtain ⟨c, rfl⟩ := h
 exact List.length_set
theorem Ua {x : Int} (h0 : 0 ≤ x) (h1 : x ≤ 255) : ∃ y : UInt8, x = ((y.toNat : Nat) : Int) := ⟨UInt8.ofNat x.toNat, by rw [UInt8.toNat_ofNat', Nat.mod_eq_of_lt (by omega)]; omega⟩
theorem Kg {G H : LH} {b : Nat} {cv : V} {code : List UInt8} (h : DAt G H b cv code) (n : Int) (h0 : 0 ≤ n) (h1 : n ≤ 1000) (fl : Nat) (hf : fl ≤ b) :
 Ret (fun w B => ∃ l : List UInt8, (l.length : Int) ≤ n ∧ Own H.length B byC 1 w l ∧ (∃ k, w = .sl k 0 1 l.length l.length) ∧ Hx G B) (run 12 [.ptr b 0, .int .i64 n] fl H) := by
 generalize hQ : (fun (w : V) (B : LH) => ∃ l : List UInt8, (l.length : Int) ≤ n ∧ Own H.length B byC 1 w l ∧ (∃ k, w = .sl k 0 1 l.length l.length) ∧ Hx G B) = Q
 obtain ⟨_, A, e1, r, rfl, r0, r1, hA, cA⟩ := Kf h (n + 1) (by omega) fl hf
 have r1 : r ≤ n := by omega
 have hbH := h.bel
 have hlA : A.length = H.length := by
  rcases cA with rfl | cA
  ·rfl
  ·exact cA.len
 unfold run at *
 rw [z12]
 simp +contextual -implicitDefEqProofs (maxSteps := 10000000) (disch := first | (and_intros <;> omega -splitDisjunctions) | (push_cast; and_intros <;> omega -splitDisjunctions) | fail) only [e1, go_sem, seval]
 refine B9 fun c R hc hR => ?_
 have key : ∀ (m : Nat) (i : Nat) (j : Int) (u : V) (B : LH) (xs : List UInt8) (x1 x4 x15 : Option V), r.toNat - i < m → j = i → (i : Int) ≤ r → xs.length = i → DAt G B b cv code → H.length ≤ B.length → Own H.length B byC 1 u xs → (∃ k, u = .sl k 0 1 xs.length xs.length) →
  Ret Q (zEv (Ac (mkR Tryz.prog cfg ok [0, 1, 4, 5, 6, 7, 15] fl) .any H [ResultVar.tmp 4]) (mkR Tryz.prog cfg ok [0, 1, 4, 5, 6, 7, 15] fl) (K.code (Code.loop c) :: K.blk 0 :: R) .nrm [some (.ptr b 0), x1, x4, some (.int .i64 r), some u, some (.int .i64 j), x15] (B)) := by
  intro m
  induction m with
  | zero => intro i j u B xs x1 x4 x15 hm; omega
  | succ m ih =>
    intro i j u B xs x1 x4 x15 hm hj hi hxl hB hlB ho hu
    subst hj
    by_cases hlt : (i : Int) < r
    rotate_left
    ·have t3 : ((i : Int) < r) = False := eq_false hlt
     rw [A4 hc, ← hR]
     simp +contextual -implicitDefEqProofs (maxSteps := 10000000) (disch := first | (and_intros <;> omega -splitDisjunctions) | (push_cast; and_intros <;> omega -splitDisjunctions) | fail) only [t3, go_sem, seval]
     subst hQ
     exact ⟨xs, by omega, ho, hu, hB.hx⟩
    have t3 : ((i : Int) < r) = True := eq_true hlt
    have o1 := (ho.at Ab).isTup; have o2 := (ho.at Ab).one
    obtain ⟨_, C, e2, x, rfl, x0, x1, hC, cC⟩ := Ck hB fl hf
    obtain ⟨y, rfl⟩ := Ua x0 x1
    have hlC := cC.len
    have hoC : Own H.length C byC 1 u xs := by
     obtain ⟨cc, rfl⟩ := cC
     exact ho.setNe hbH
    obtain ⟨b2, W, a1, a2, a3, a4⟩ := AO (fl := fl) hC.hx hoC (by omega) h.hx.len (by omega) [Blk.cells [V.int .u8 (y.toNat : Nat)]] y (by omega)
    have a5 : H.length ≤ W.length := by
     have := a2.at Ab
     rcases a2 with ⟨_, k | k⟩ | ⟨b', k, k1, k2⟩
     ·cases k
     ·cases k
     ·have := A5 k1; omega
    have hW : DAt G W b cv code := by
     obtain ⟨c1, c2, c3, c4, c5, c6, c7, c8⟩ := hC
     exact ⟨a3, c2, c3, c4, c5, c6, a4 _ _ c7 hbH, c8⟩
    unfold run at e2
    rw [A4 hc]
    simp +contextual -implicitDefEqProofs (maxSteps := 10000000) (disch := first | (and_intros <;> omega -splitDisjunctions) | (push_cast; and_intros <;> omega -splitDisjunctions) | fail) only [t3, o1, o2, e2, a1, go_sem, seval]
    exact ih (i + 1) _ _ W (xs ++ [y]) _ _ _ (by omega) (by omega) (by omega) (by rw [List.length_append, hxl]; rfl) hW a5 a2 ⟨_, by rw [List.length_append]; rfl⟩
 exact key (r.toNat + 1) 0 0 (.sl A.length 0 1 0 0) (A ++ [.cells []]) [] _ _ _ (by omega) rfl r0 rfl hA.left (by rw [List.length_append]; omega) (.inr ⟨A.length, rfl, by rw [A7]; rfl, by omega⟩) ⟨_, rfl⟩
theorem ID {H : LH} {cv : V} {code : List UInt8} (h : At H byC 1 cv code) (hl : code.length ≤ 1099511627776) (fl : Nat) :
 Ret (fun w B => ∃ l : List UInt8, l.length ≤ 40 ∧ Own H.length B byC 1 w l ∧ (∃ k, w = .sl k 0 1 l.length l.length) ∧ Hx H B) (run 4 [cv] fl H) := by
 generalize hQ : (fun (w : V) (B : LH) => ∃ l : List UInt8, l.length ≤ 40 ∧ Own H.length B byC 1 w l ∧ (∃ k, w = .sl k 0 1 l.length l.length) ∧ Hx H B) = Q
 have p1 := h.isTup; have p2 := h.one
 obtain ⟨_, A, e1, rfl, hA, lA⟩ := O8 h hl H.length
 obtain ⟨w, B, e2, l, l1, ho, ⟨k, rfl⟩, hB⟩ := Kg hA 40 (by decide) (by decide) H.length (Nat.le_refl _)
 unfold run at *
 rw [z4]
 simp +contextual -implicitDefEqProofs (maxSteps := 10000000) (disch := first | (and_intros <;> omega -splitDisjunctions) | (push_cast; and_intros <;> omega -splitDisjunctions) | fail) only [p1, p2, e1, e2, go_sem, seval]
 subst hQ
 exact ⟨l, by omega, ho.down (by omega), ⟨k, rfl⟩, hB⟩
open Go.Proofs.YthlbglmfdjdagaaGreatDoor
theorem Ke (b : Int) (fl : Nat) (H : LH) : run 42 [.int .i64 b] fl H = some (.bool (decide (b = 32 ∨ b = 9)), H) := by
 unfold run
 rw [z42]
 simp +contextual -implicitDefEqProofs (maxSteps := 10000000) (disch := first | (and_intros <;> omega -splitDisjunctions) | (push_cast; and_intros <;> omega -splitDisjunctions) | fail) only [go_sem, seval]
theorem Ka (b : Int) (fl : Nat) (H : LH) : run 43 [.int .i64 b] fl H = some (.bool (decide (b = 10 ∨ b < 0)), H) := by
 unfold run
 rw [z43]
 simp +contextual -implicitDefEqProofs (maxSteps := 10000000) (disch := first | (and_intros <;> omega -splitDisjunctions) | (push_cast; and_intros <;> omega -splitDisjunctions) | fail) only [go_sem, seval]
theorem Ly (b : Int) (fl : Nat) (H : LH) : run 44 [.int .i64 b] fl H = some (.bool (decide (b = 44 ∨ b = 91 ∨ b = 93 ∨ b = 123 ∨ b = 125)), H) := by
 unfold run
 rw [z44]
 simp +contextual -implicitDefEqProofs (maxSteps := 10000000) (disch := first | (and_intros <;> omega -splitDisjunctions) | (push_cast; and_intros <;> omega -splitDisjunctions) | fail) only [or_assoc, go_sem, seval]
def SA (b : UInt8) : Bool := decide (¬ ((b.toNat : Int) = 32 ∨ (b.toNat : Int) = 9 ∨ (b.toNat : Int) = 10 ∨ (b.toNat : Int) < 0 ∨ (b.toNat : Int) = 44 ∨ (b.toNat : Int) = 91 ∨ (b.toNat : Int) = 93 ∨ (b.toNat : Int) = 123 ∨ (b.toNat : Int) = 125))
def nmOk (s : ByteArray) : Bool := decide (s.size ≤ 60) && (bs s).all SA
theorem Fb (s : ByteArray) (fl : Nat) (H : LH) (hs : s.size ≤ 9223372036854775807) : run 36 [.str s] fl H = some (.bool (nmOk s), H) := by
 have e1 := fun b fl H => Ke b fl H
 have e2 := fun b fl H => Ka b fl H
 have e3 := fun b fl H => Ly b fl H
 unfold run at *
 rw [z36]
 simp +contextual -implicitDefEqProofs (maxSteps := 10000000) (disch := first | (and_intros <;> omega -splitDisjunctions) | (push_cast; and_intros <;> omega -splitDisjunctions) | fail) only [go_sem, seval]
 by_cases h6 : (60 : Int) < (s.size : Int)
 ·rw [if_pos h6, nmOk, decide_eq_false (by omega)]; rfl
 have h7 : decide (s.size ≤ 60) = true := decide_eq_true (by omega)
 rw [if_neg h6, nmOk, h7, Bool.true_and]
 generalize hL : K.code (Code.loop _) = L
 generalize hR : (K.blk _ :: _ : List K) = R
 have key : ∀ (d i : Nat) (x2 x3 x4 x7 x11 x26 : Option V), s.size - i = d → i ≤ s.size →
  zEv (Ac (mkR Tryz.prog cfg ok [0, 2, 3, 4, 7, 9, 10, 11, 26] H.length) .pure H [ResultVar.tmp 2]) (mkR Tryz.prog cfg ok [0, 2, 3, 4, 7, 9, 10, 11, 26] H.length) (L :: R) .nrm [some (.str s), x2, x3, x4, x7, some (.int .i64 s.size), some (.int .i64 i), x11, x26] H = some (.bool (((bs s).drop i).all SA), H) := by
  intro d
  induction d using Nat.strongRecOn with
  | _ d ih =>
  intro i x2 x3 x4 x7 x11 x26 hd hi
  rw [← hL, ← hR, EQ]
  simp +contextual -implicitDefEqProofs (maxSteps := 10000000) (disch := first | (and_intros <;> omega -splitDisjunctions) | (push_cast; and_intros <;> omega -splitDisjunctions) | fail) only [e1, e2, e3, go_sem, seval]
  rw [hL, hR]
  split
  ·rename_i hlt
   have hlt : i < (bs s).length := by rw [C6]; omega
   rw [show (i : Int) + 1 = ((i + 1 : Nat) : Int) from rfl, ih (s.size - (i + 1)) (by omega) (i + 1) _ _ _ _ _ _ rfl (by omega), List.drop_eq_getElem_cons hlt, List.all_cons, Bn hlt]
   split
   ·rename_i hc; rw [show SA (bs s)[i] = false from decide_eq_false (by omega)]; rfl
   ·rename_i hc; rw [show SA (bs s)[i] = true from decide_eq_true (by omega)]; rfl
  ·rw [List.drop_of_length_le (by rw [C6]; omega)]; rfl
 exact (key s.size 0 _ _ _ _ _ _ rfl (Nat.zero_le _)).trans (by rw [List.drop_zero])
open Go.Proofs.YthlbglmfdjdagaaGreatDoor
structure Ev where
 kind : Int
 style : Int
 flag : Bool
 text : ByteArray
 anchor : ByteArray
 tag : ByteArray
 place : Int
 code : Int
 deriving DecidableEq
def evC (e : Ev) : List V := [.int .i64 e.kind, .int .i64 e.style, .bool e.flag, .str e.text, .str e.anchor, .str e.tag, .int .i64 e.place, .int .i64 e.code]
theorem CA (e : Ev) : (evC e).length = 8 := rfl
def ev0 : Ev := ⟨0, 0, false, ⟨#[]⟩, ⟨#[]⟩, ⟨#[]⟩, 0, 0⟩
def Po (e : Ev) : Prop := e.text.size ≤ 9223372036854775807 ∧ e.anchor.size ≤ 9223372036854775807 ∧ e.tag.size ≤ 9223372036854775807
open Go.Proofs.YthlbglmfdjdagaaGreatDoor
def EvOk (e : Ev) : Prop :=
 (1 ≤ e.kind ∧ e.kind ≤ 10) ∧
 (e.kind = 10 → 1 ≤ e.code ∧ e.code ≤ 99 ∧ 0 ≤ e.place) ∧ (e.kind ≠ 10 → e.code = 0 ∧ e.place = 0) ∧
 (e.kind = 3 ∨ e.kind = 4 → 6 ≤ e.style ∧ e.style ≤ 7) ∧ (e.kind = 5 → 1 ≤ e.style ∧ e.style ≤ 5) ∧ (¬ (e.kind = 3 ∨ e.kind = 4 ∨ e.kind = 5) → e.style = 0) ∧
 (¬ (e.kind = 2 ∨ e.kind = 8) → e.flag = false) ∧ (¬ (e.kind = 5 ∨ e.kind = 6) → e.text = ⟨#[]⟩) ∧
 (¬ (e.kind = 3 ∨ e.kind = 4 ∨ e.kind = 5) → e.anchor = ⟨#[]⟩ ∧ e.tag = ⟨#[]⟩) ∧
 (e.kind = 6 → e.text ≠ ⟨#[]⟩ ∧ nmOk e.text = true) ∧ nmOk e.anchor = true ∧ e.tag.size ≤ 120
instance (e : Ev) : Decidable (EvOk e) := by unfold EvOk; infer_instance
theorem ten {k : Int} (h1 : 1 ≤ k) (h2 : k ≤ 10) : k = 1 ∨ k = 2 ∨ k = 3 ∨ k = 4 ∨ k = 5 ∨ k = 6 ∨ k = 7 ∨ k = 8 ∨ k = 9 ∨ k = 10 := by omega
theorem nm0 : nmOk ⟨#[]⟩ = true := by decide
theorem IK (e : Ev) (fl : Nat) (H : LH) (h3 : Po e) : run 29 [.agg (evC e)] fl H = some (.bool (decide (EvOk e)), H) := by
 unfold Po at h3
 have e1 := fun a b c fl H => Bl a b c fl H
 have e2 := fun fl H => Fb e.anchor fl H h3.2.1
 have e3 := fun fl H => Fb e.text fl H h3.1
 have e4 := fun fl H => Fb ⟨#[]⟩ fl H (by decide)
 unfold run evC at *
 rw [z29]
 have hsz : ByteArray.size ⟨#[]⟩ = 0 := rfl
 by_cases hk : 1 ≤ e.kind ∧ e.kind ≤ 10
 ·rcases ten hk.1 hk.2 with h | h | h | h | h | h | h | h | h | h
  all_goals
   simp +contextual -implicitDefEqProofs (maxSteps := 10000000) (disch := first | (and_intros <;> omega -splitDisjunctions) | (push_cast; and_intros <;> omega -splitDisjunctions) | fail) only [h, nm0, e1, e2, e3, e4, eqL, eqS, andO, yesO, Sq, go_sem, seval]
   clear e1 e2 e3 e4
   simp only [EvOk, h, nm0, Int.reduceEq, Int.reduceLT, Int.reduceLE, or_false, false_or, or_true, true_or, and_true, true_and, and_false, false_and, not_true_eq_false, not_false_eq_true, forall_const, false_implies, true_implies, ne_eq]
   have n0 := nm0
   (repeat' (refine BM (fun _ => ?_) (fun _ => ?_))) <;> (refine congrArg (fun b => some (V.bool b, H)) ?_; rw [Bool.eq_iff_iff]; simp only [decide_eq_true_eq]; grind)
 ·have hk2 : e.kind < 1 ∨ 10 < e.kind := by omega
  have c1 : ¬ e.kind = 1 := by omega
  have c2 : ¬ e.kind = 2 := by omega
  have c3 : ¬ e.kind = 3 := by omega
  have c4 : ¬ e.kind = 4 := by omega
  have c5 : ¬ e.kind = 5 := by omega
  have c6 : ¬ e.kind = 6 := by omega
  have c7 : ¬ e.kind = 7 := by omega
  have c8 : ¬ e.kind = 8 := by omega
  have c9 : ¬ e.kind = 9 := by omega
  have c10 : ¬ e.kind = 10 := by omega
  have hf : ¬ EvOk e := fun h => hk h.1
  simp +contextual -implicitDefEqProofs (maxSteps := 10000000) (disch := first | (and_intros <;> omega -splitDisjunctions) | (push_cast; and_intros <;> omega -splitDisjunctions) | fail) only [c1, c2, c3, c4, c5, c6, c7, c8, c9, c10, hk2, nm0, hf, e1, e2, e3, e4, eqL, eqS, andO, yesO, Sq, go_sem, seval]
open Go.Proofs.YthlbglmfdjdagaaGreatDoor
def escI (b : Int) : List UInt8 :=
 if b = 92 then [92, 92] else if b = 10 then [92, 110] else if b = 9 then [92, 116] else if b = 13 then [92, 114] else if b = 8 then [92, 98] else if b = 0 then [92, 48] else [UInt8.ofNat b.toNat]
def escB (b : UInt8) : List UInt8 := escI b.toNat
def escT (s : ByteArray) : ByteArray := ⟨((bs s).flatMap escB).toArray⟩
theorem RY (b : Int) : 1 ≤ (escI b).length ∧ (escI b).length ≤ 2 := by
 unfold escI
 (repeat' split) <;> simp
theorem Pn (l : List UInt8) : (l.flatMap escB).length ≤ 2 * l.length := by
 induction l with
 | nil => simp
 | cons b l ih => have : (escB b).length ≤ 2 := (RY b.toNat).2; simp only [List.flatMap_cons, List.length_append, List.length_cons]; omega
theorem S0 {s : ByteArray} {i : Nat} (hi : i < s.size) : ((bs s).take (i + 1)).flatMap escB = ((bs s).take i).flatMap escB ++ escI (bA s i) := by
 have hi' : i < (bs s).length := by rw [C6]; omega
 rw [List.take_succ_eq_append_getElem hi', List.flatMap_append, Bn hi]
 simp [escB]
theorem VN {s : ByteArray} {i : Int} (h : 0 ≤ bA s i) : byC (UInt8.ofNat (bA s i).toNat) = [.int .u8 (bA s i)] := by
 have h2 := D9 s i
 unfold byC
 rw [UInt8.toNat_ofNat', Nat.mod_eq_of_lt (by omega), Int.toNat_of_nonneg h]
theorem Lw (s : ByteArray) (fl : Nat) (H : LH) (hs : s.size ≤ 1073741824) : run 31 [.str s] fl H = some (.str (escT s), H) := by
 unfold run
 rw [z31]
 simp +contextual -implicitDefEqProofs (maxSteps := 10000000) (disch := first | (and_intros <;> omega -splitDisjunctions) | (push_cast; and_intros <;> omega -splitDisjunctions) | fail) only [go_sem, seval]
 refine Ae fun c0 R hc0 hR => ?_
 have key : ∀ (d i : Nat) (x2 x4 x9 x13 x20 x25 x30 x35 x40 x45 : Option V) (b n : Nat) (j : Int) (l : List UInt8) (H1 : LH), s.size - i = d → i ≤ s.size → H.length ≤ b → H1.cellsAt b = some (rows byC l) → l = ((bs s).take i).flatMap escB → n = l.length → j = i →
  zEv (Ac (mkR Tryz.prog cfg ok [0, 2, 3, 4, 7, 8, 9, 13, 20, 25, 30, 35, 40, 45] H.length) .pure H [ResultVar.tmp 2]) (mkR Tryz.prog cfg ok [0, 2, 3, 4, 7, 8, 9, 13, 20, 25, 30, 35, 40, 45] H.length) (K.code (Code.loop c0) :: K.blk 0 :: R) .nrm [some (.str s), x2, some (.sl b 0 1 n n), x4, some (.int .i64 s.size), some (.int .i64 j), x9, x13, x20, x25, x30, x35, x40, x45] H1 = some (.str (escT s), H) := by
  intro d
  induction d using Nat.strongRecOn with
  | _ d ih =>
  intro i x2 x4 x9 x13 x20 x25 x30 x35 x40 x45 b n j l H1 hd hi hb hc hl hn hj
  subst hn; subst hj
  have hb1 := A5 hc
  have g1 := Ak Ab l
  rw [Nat.mul_one] at g1
  have g2 := AQ Ab (xs := l) (n := l.length) (by omega)
  have g3 : l.length ≤ 2 * i := by
   rw [hl]
   have := Pn ((bs s).take i)
   rw [List.length_take] at this
   omega
  have g4 := Am l
  rw [A4 hc0]
  simp +contextual -implicitDefEqProofs (maxSteps := 10000000) (disch := first | (and_intros <;> omega -splitDisjunctions) | (push_cast; and_intros <;> omega -splitDisjunctions) | fail) only [hc, A2, A3, SC, g1, g2, go_sem, seval]
  refine BM (fun hlt => ?_) (fun hge => ?_)
  ·have go := fun x2 x4 x9 x13 x20 x25 x30 x35 x40 x45 b n j l H1 h1 h2 h3 h4 h5 => ih (s.size - (i + 1)) (by omega) (i + 1) x2 x4 x9 x13 x20 x25 x30 x35 x40 x45 b n j l H1 rfl (by omega) h1 h2 h3 h4 h5
   rw [S0 (by omega), ← hl] at go
   have p0 := J6 (s := s) (p := i) (by omega) (by omega)
   (repeat' (refine BM (fun _ => ?_) (fun _ => ?_))) <;> refine go _ _ _ _ _ _ _ _ _ _ _ _ _ _ _ ?_ ?_ rfl ?_ rfl
   all_goals try simp only [escI, *, if_true, if_false, Int.reduceEq, List.length_append, List.length_cons, List.length_nil]
   all_goals first | omega | skip
   all_goals rw [Db]; simp only [QF, DC, MP, VN p0]; rfl
  ·have : i = s.size := by omega
   subst this
   rw [← hR]
   simp +contextual -implicitDefEqProofs (maxSteps := 10000000) (disch := first | (and_intros <;> omega -splitDisjunctions) | (push_cast; and_intros <;> omega -splitDisjunctions) | fail) only [hc, g1, g2, g4, go_sem, seval]
   rw [hl, List.take_of_length_le (by rw [C6]; omega)]
   rfl
 exact key s.size 0 _ _ _ _ _ _ _ _ _ _ H.length 0 0 [] _ rfl (Nat.zero_le _) (Nat.le_refl _) (by rw [A7]; rfl) rfl rfl rfl
open Go.Proofs.YthlbglmfdjdagaaGreatDoor
def Gq (e : Ev) : ByteArray :=
 if e.tag = ⟨#[]⟩ then (if e.anchor = ⟨#[]⟩ then ⟨#[]⟩ else ⟨#[32, 38]⟩ ++ e.anchor)
 else (if e.anchor = ⟨#[]⟩ then ⟨#[]⟩ else ⟨#[32, 38]⟩ ++ e.anchor) ++ ⟨#[32, 60]⟩ ++ e.tag ++ ⟨#[62]⟩
theorem SS : ByteArray.size ⟨#[]⟩ = 0 := rfl
theorem Gr (e : Ev) : (Gq e).size ≤ e.anchor.size + e.tag.size + 5 := by
 unfold Gq
 (repeat' split) <;> simp only [ByteArray.size_append, FO, List.length_cons, List.length_nil] <;> omega
theorem Jl (s : ByteArray) : (escT s).size ≤ 2 * s.size := Pn (bs s)
theorem JM (n : Int) : (numT n).size ≤ 4294967296 := by
 unfold numT
 split
 ·simp [SS]
 ·have := Pc n.toNat; omega
theorem O9 (e : Ev) (fl : Nat) (H : LH) (h1 : e.anchor.size ≤ 1073741824) (h2 : e.tag.size ≤ 1073741824) : run 30 [.agg (evC e)] fl H = some (.str (Gq e), H) := by
 unfold run evC Gq
 rw [z30]
 simp +contextual -implicitDefEqProofs (maxSteps := 10000000) (disch := first | (and_intros <;> omega -splitDisjunctions) | (push_cast; and_intros <;> omega -splitDisjunctions) | fail) only [go_sem, seval]
 (repeat' (refine BM (fun _ => ?_) (fun _ => ?_))) <;> simp only [*, if_true, if_false]
def N5 (n : Int) : ByteArray := if n = 1 then ⟨#[58]⟩ else if n = 2 then ⟨#[39]⟩ else if n = 3 then ⟨#[34]⟩ else if n = 4 then ⟨#[124]⟩ else ⟨#[62]⟩
def BI (e : Ev) : ByteArray :=
 if EvOk e then
  if e.kind = 1 then ⟨#[43, 83, 84, 82]⟩
  else if e.kind = 2 then (if e.flag = true then ⟨#[43, 68, 79, 67, 32, 45, 45, 45]⟩ else ⟨#[43, 68, 79, 67]⟩)
  else if e.kind = 3 then (if e.style = 6 then ⟨#[43, 83, 69, 81, 32, 91, 93]⟩ else ⟨#[43, 83, 69, 81]⟩) ++ Gq e
  else if e.kind = 4 then (if e.style = 6 then ⟨#[43, 77, 65, 80, 32, 123, 125]⟩ else ⟨#[43, 77, 65, 80]⟩) ++ Gq e
  else if e.kind = 5 then ⟨#[61, 86, 65, 76]⟩ ++ Gq e ++ ⟨#[32]⟩ ++ N5 e.style ++ escT e.text
  else if e.kind = 6 then ⟨#[61, 65, 76, 73, 32, 42]⟩ ++ e.text
  else if e.kind = 7 then ⟨#[45, 69, 78, 68]⟩
  else if e.kind = 8 then (if e.flag = true then ⟨#[45, 68, 79, 67, 32, 46, 46, 46]⟩ else ⟨#[45, 68, 79, 67]⟩)
  else if e.kind = 9 then ⟨#[45, 83, 84, 82]⟩
  else ⟨#[33, 70, 65, 85, 76, 84, 32]⟩ ++ numT e.code ++ ⟨#[32]⟩ ++ numT e.place
 else ⟨#[]⟩
theorem UO {a b : List UInt8} : (⟨a.toArray⟩ : ByteArray) ++ ⟨b.toArray⟩ = ⟨(a ++ b).toArray⟩ := (UU a b).symm
theorem S5 {a : List UInt8} {l h : Nat} : ByteArray.extract ⟨a.toArray⟩ l h = ⟨((a.drop l).take (h - l)).toArray⟩ := by
 apply ByteArray.ext
 simp [ByteArray.data_extract]
theorem GD (e : Ev) (fl : Nat) (H : LH) (h3 : e.text.size + e.anchor.size + e.tag.size ≤ 1073741824) : run 25 [.agg (evC e)] fl H = some (.str (BI e), H) := by
 have hF : Po e := ⟨by omega, by omega, by omega⟩
 have e1 := fun fl H => IK e fl H hF
 have e2 := fun fl H => O9 e fl H (by omega) (by omega)
 have e3 := fun fl H => Lw e.text fl H (by omega)
 have e4 := fun n fl H => QP n fl H
 have s1 := Gr e
 have s2 := Jl e.text
 have s3 := JM e.code
 have s4 := JM e.place
 by_cases hok : EvOk e
 ·have hk := hok.1
  have hst := hok.2.2.2.2.1
  have hst3 := hok.2.2.2.1
  obtain ⟨k, st, fg, tx, an, tg, pl, cd⟩ := e
  unfold run at *
  rw [z25]
  dsimp only [evC] at *
  rcases ten hk.1 hk.2 with rfl | rfl | rfl | rfl | rfl | rfl | rfl | rfl | rfl | rfl
  case inr.inr.inr.inr.inl =>
   have hst := hst rfl
   have : st = 1 ∨ st = 2 ∨ st = 3 ∨ st = 4 ∨ st = 5 := by omega
   rcases this with rfl | rfl | rfl | rfl | rfl <;> (simp +contextual -implicitDefEqProofs (maxSteps := 10000000) (disch := first | (and_intros <;> omega -splitDisjunctions) | (push_cast; and_intros <;> omega -splitDisjunctions) | fail) only [hok, e1, e2, e3, e4, S5, go_sem, seval]; simp only [BI, N5, hok, if_true, if_false, Int.reduceEq]; try rfl)
  case inr.inr.inl =>
   have hst := hst3 (.inl rfl)
   have : st = 6 ∨ st = 7 := by omega
   rcases this with rfl | rfl <;> (simp +contextual -implicitDefEqProofs (maxSteps := 10000000) (disch := first | (and_intros <;> omega -splitDisjunctions) | (push_cast; and_intros <;> omega -splitDisjunctions) | fail) only [hok, e1, e2, e3, e4, go_sem, seval]; simp only [BI, hok, if_true, if_false, Int.reduceEq]; try rfl)
  case inr.inr.inr.inl =>
   have hst := hst3 (.inr rfl)
   have : st = 6 ∨ st = 7 := by omega
   rcases this with rfl | rfl <;> (simp +contextual -implicitDefEqProofs (maxSteps := 10000000) (disch := first | (and_intros <;> omega -splitDisjunctions) | (push_cast; and_intros <;> omega -splitDisjunctions) | fail) only [hok, e1, e2, e3, e4, go_sem, seval]; simp only [BI, hok, if_true, if_false, Int.reduceEq]; try rfl)
  all_goals
   simp +contextual -implicitDefEqProofs (maxSteps := 10000000) (disch := first | (and_intros <;> omega -splitDisjunctions) | (push_cast; and_intros <;> omega -splitDisjunctions) | fail) only [hok, e1, e2, e3, e4, go_sem, seval]
   simp only [BI, hok, if_true, if_false, Int.reduceEq]
   try ((repeat' (refine BM (fun _ => ?_) (fun _ => ?_))) <;> simp only [*, if_true, if_false, UO, Ky, List.cons_append, List.nil_append, Bool.false_eq_true])
 ·unfold run evC at *
  rw [z25]
  simp +contextual -implicitDefEqProofs (maxSteps := 10000000) (disch := first | (and_intros <;> omega -splitDisjunctions) | (push_cast; and_intros <;> omega -splitDisjunctions) | fail) only [hok, e1, e2, e3, e4, go_sem, seval]
  simp only [BI, hok, if_false]
open Go.Proofs.YthlbglmfdjdagaaGreatDoor
theorem Mf : ∀ (k n : Nat), n < 10 ^ (k + 1) → (decT n).size ≤ k + 1
 | k, n, h => by
   unfold decT
   by_cases h1 : n < 10
   ·rw [if_pos h1]; show 1 ≤ _; omega
   ·rw [if_neg h1, ByteArray.size_append]
    cases k with
    | zero => simp at h; omega
    | succ k =>
      have := Mf k (n / 10) (by rw [Nat.div_lt_iff_lt_mul (by decide)]; rw [Nat.pow_succ] at h; exact h)
      have h2 : (dig (n % 10)).size = 1 := rfl
      omega
theorem Gn (n : Int) : (numT n).size ≤ 10 := by
 unfold numT
 by_cases h : n < 0 ∨ 4294967295 < n
 ·rw [if_pos h]; show 0 ≤ _; decide
 ·rw [if_neg h]
  have := Mf 9 n.toNat (by have : (10 : Nat) ^ (9 + 1) = 10000000000 := by decide
                           omega)
  exact this
theorem LP (n : Int) : (N5 n).size = 1 := by unfold N5; (repeat' split) <;> rfl
theorem KP (e : Ev) : (BI e).size ≤ 2 * e.text.size + e.anchor.size + e.tag.size + 40 := by
 have s1 := Gr e
 have s2 := Jl e.text
 have s3 := Gn e.code
 have s4 := Gn e.place
 have s5 := LP e.style
 unfold BI
 (repeat' (refine L7 (P := fun b : ByteArray => b.size ≤ 2 * e.text.size + e.anchor.size + e.tag.size + 40) (fun _ => ?_) (fun _ => ?_))) <;>
  (try simp only [ByteArray.size_append, s5])
 all_goals first
  | (show 0 ≤ _; omega) | (show 4 ≤ _; omega) | (show 8 ≤ _; omega) | skip
 all_goals first
  | (have : ∀ a b : ByteArray, a.size ≤ 8 → b.size ≤ 8 → (if e.style = 6 then a else b).size ≤ 8 := fun a b ha hb => by by_cases k : e.style = 6; (rw [if_pos k]; exact ha); (rw [if_neg k]; exact hb)
     have k8 := this ⟨#[43, 83, 69, 81, 32, 91, 93]⟩ ⟨#[43, 83, 69, 81]⟩ (by decide) (by decide)
     have k9 := this ⟨#[43, 77, 65, 80, 32, 123, 125]⟩ ⟨#[43, 77, 65, 80]⟩ (by decide) (by decide)
     omega)
  | (have q1 : ByteArray.size ⟨#[61, 86, 65, 76]⟩ = 4 := rfl
     have q2 : ByteArray.size ⟨#[32]⟩ = 1 := rfl
     omega)
  | (have q1 : ByteArray.size ⟨#[61, 65, 76, 73, 32, 42]⟩ = 6 := rfl
     omega)
  | (have q1 : ByteArray.size ⟨#[33, 70, 65, 85, 76, 84, 32]⟩ = 7 := rfl
     have q2 : ByteArray.size ⟨#[32]⟩ = 1 := rfl
     omega)
def evsT (l : List Ev) : List UInt8 := l.flatMap fun e => bs (BI e) ++ [10]
theorem Pq {l : List Ev} {i : Nat} (h : i < l.length) : evsT (l.drop i) = bs (BI (l.getD i ev0)) ++ ([10] ++ evsT (l.drop (i + 1))) := by
 rw [List.drop_eq_getElem_cons h, Bp h]
 unfold evsT
 rw [List.flatMap_cons, List.append_assoc]
theorem Mj (k : Nat) : ∀ (l : List Ev), (∀ e ∈ l, (BI e).size ≤ k) → (evsT l).length ≤ l.length * (k + 1)
 | [], _ => by simp [evsT]
 | e :: l, h => by
   have h1 := Mj k l (fun x hx => h x (List.mem_cons_of_mem _ hx))
   have h2 := h e (by simp)
   have : evsT (e :: l) = bs (BI e) ++ [10] ++ evsT l := by unfold evsT; rw [List.flatMap_cons]
   have h3 : (e :: l).length * (k + 1) = l.length * (k + 1) + (k + 1) := Nat.succ_mul _ _
   rw [this, List.length_append, List.length_append, C6, h3]
   show (BI e).size + 1 + _ ≤ _
   omega
theorem U0 {G B : LH} {v : V} {xs : List UInt8} {fl f0 : Nat} (hx : Hx G B) (ho : Own f0 B byC 1 v xs) (hf : fl ≤ f0) (hg : G.length ≤ f0) (hB : f0 ≤ B.length) (L : LH) (ys : List UInt8) (hn : xs.length + ys.length ≤ 1099511627776) :
 ∃ u W, AB fl 1 1 (B ++ L) ys.length (rows byC ys) v = some (u, W) ∧ Own f0 W byC 1 u (xs ++ ys) ∧ Hx G W ∧ f0 ≤ W.length := by
 by_cases hy : 0 < ys.length
 ·obtain ⟨b, W, a1, a2, a3, _⟩ := OF hx ho hf hg hB L ys hy hn
  refine ⟨_, W, a1, a2, a3, ?_⟩
  rcases a2 with ⟨_, k | k⟩ | ⟨b', k, k1, k2⟩
  ·cases k
  ·cases k
  ·have := A5 k1; omega
 ·have : ys = [] := List.length_eq_zero_iff.1 (by omega)
  subst this
  refine ⟨v, B ++ L, ?_, by rw [List.append_nil]; exact ho.ext Hx.app, hx.trans Hx.app, by rw [List.length_append]; omega⟩
  rcases ho with ⟨_, rfl | rfl⟩ | ⟨b', rfl, k1, k2⟩
  ·rfl
  ·rfl
  ·rfl
theorem Fv (v : V) (l : List Ev) (fl : Nat) (H : LH) (h : At H evC 8 v l) (hl : l.length ≤ 1000001) (hz : ∀ e ∈ l, e.text.size + e.anchor.size + e.tag.size ≤ 1073741824) (hn : (evsT l).length ≤ 1099511627776) : run 17 [v] fl H = some (.str ⟨(evsT l).toArray⟩, H) := by
 have e1 := fun (e : Ev) (he : e ∈ l) fl H => GD e fl H (hz e he)
 have f1 := h.isTup; have f2 := h.len; have f3 := h.lenOk ty40; have f0 := h.one
 have f4 := fun hp => h.con hp
 have f5 := h.idx (T := ty Tryz.prog) (t := 40) (by simp only [Av, AC, ty3, ty4, ty9, ty40, ty48])
 have f6 := h.loadD CA ev0
 unfold run
 rw [z17]
 simp +contextual -implicitDefEqProofs (maxSteps := 10000000) (disch := first | (and_intros <;> omega -splitDisjunctions) | (push_cast; and_intros <;> omega -splitDisjunctions) | fail) only [f0, f1, f2, f3, f4, f5, f6, go_sem, seval]
 refine Ae fun c R hc hR => ?_
 have key : ∀ (m : Nat) (i : Nat) (j : Int) (u : V) (B : LH) (xs : List UInt8) (x0 x2 x5 x10 : Option V), l.length - i < m → j = i → i ≤ l.length → xs ++ evsT (l.drop i) = evsT l → Hx H B → Own H.length B byC 1 u xs →
  zEv (Ac (mkR Tryz.prog cfg ok [0, 2, 3, 5, 7, 8, 9, 10] H.length) .pure H [ResultVar.tmp 2]) (mkR Tryz.prog cfg ok [0, 2, 3, 5, 7, 8, 9, 10] H.length) (K.code (Code.loop c) :: K.blk 0 :: R) .nrm [x0, x2, some u, x5, some v, some (.int .i64 l.length), some (.int .i64 j), x10] (B) = some (.str ⟨(evsT l).toArray⟩, H) := by
  intro m
  induction m with
  | zero => intro i j u B xs x0 x2 x5 x10 hm; omega
  | succ m ih =>
    intro i j u B xs x0 x2 x5 x10 hm hj hi hxs hx ho
    subst hj
    have hxl := hx.len
    have o1 := (ho.at Ab).isTup; have o2 := (ho.at Ab).one
    have hlen : xs.length + (evsT (l.drop i)).length = (evsT l).length := by rw [← hxs, List.length_append]
    by_cases hlt : i < l.length
    rotate_left
    ·have t3 : ((i : Int) < l.length) = False := eq_false (by omega)
     have hxe : xs = evsT l := by rw [← hxs, List.drop_of_length_le (by omega)]; simp [evsT]
     have q2 := Am xs
     have g1 := Ak Ab xs
     rw [Nat.mul_one] at g1
     have g2 := AQ Ab (xs := xs) (n := xs.length) (by omega)
     rcases ho with ⟨rfl, rfl | rfl⟩ | ⟨b, rfl, hcb, hbl⟩
     ·rw [A4 hc, ← hR]
      simp +contextual -implicitDefEqProofs (maxSteps := 10000000) (disch := first | (and_intros <;> omega -splitDisjunctions) | (push_cast; and_intros <;> omega -splitDisjunctions) | fail) only [t3, go_sem, seval]
      rw [← hxe]
     ·rw [A4 hc, ← hR]
      simp +contextual -implicitDefEqProofs (maxSteps := 10000000) (disch := first | (and_intros <;> omega -splitDisjunctions) | (push_cast; and_intros <;> omega -splitDisjunctions) | fail) only [t3, go_sem, seval]
      rw [← hxe]
     ·rw [A4 hc, ← hR]
      simp +contextual -implicitDefEqProofs (maxSteps := 10000000) (disch := first | (and_intros <;> omega -splitDisjunctions) | (push_cast; and_intros <;> omega -splitDisjunctions) | fail) only [t3, hcb, g1, g2, q2, go_sem, seval]
      rw [← hxe]
    have t3 : ((i : Int) < l.length) = True := eq_true (by omega)
    have rB := h.ext hx
    have k1 := rB.isTup; have k2 := rB.len; have k3 := rB.lenOk ty40; have k0 := rB.one
    have k4 := fun hp => rB.con hp
    have k5 := rB.idx (T := ty Tryz.prog) (t := 40) (by simp only [Av, AC, ty3, ty4, ty9, ty40, ty48])
    have k6 := rB.loadD CA ev0
    have k6 := k6 i hlt
    have he : l.getD i ev0 ∈ l := by rw [Bp hlt]; exact List.getElem_mem _
    have e2 := e1 _ he
    have hst := Pq hlt
    generalize l.getD i ev0 = ev at *
    have hlx : xs.length + ((bs (BI ev)).length + (1 + (evsT (l.drop (i + 1))).length)) = (evsT l).length := by
     rw [← hlen, hst, List.length_append, List.length_append]; rfl
    obtain ⟨u2, W, a1, a2, a3, a4⟩ := U0 (fl := H.length) hx ho (Nat.le_refl _) (Nat.le_refl _) hxl [Blk.cells (evC ev)] (bs (BI ev)) (by omega)
    obtain ⟨b3, X, c1, c2, c3, c4⟩ := AO (fl := H.length) a3 a2 (Nat.le_refl _) (Nat.le_refl _) a4 [Blk.cells [V.int .u8 10]] 10 (by rw [List.length_append]; omega)
    have e10 : V.int .u8 (((10 : UInt8).toNat : Nat) : Int) = V.int .u8 10 := rfl
    rw [e10] at c1
    have p1 := (a2.at Ab).isTup; have p2 := (a2.at Ab).one
    rw [C6] at a1
    have hxs2 : (xs ++ bs (BI ev) ++ [10]) ++ evsT (l.drop (i + 1)) = evsT l := by
     rw [← hxs, hst]; simp only [List.append_assoc]
    generalize BI ev = tx at *
    obtain ⟨kind, style, flag, text, anchor, tag, place, code⟩ := ev
    unfold run evC at *
    rw [A4 hc]
    simp +contextual -implicitDefEqProofs (maxSteps := 10000000) (disch := first | (and_intros <;> omega -splitDisjunctions) | (push_cast; and_intros <;> omega -splitDisjunctions) | fail) only [t3, k0, k1, k2, k3, k4, k5, k6, e2, o1, o2, p1, p2, a1, c1, go_sem, seval]
    exact ih (i + 1) _ _ X _ _ _ _ _ (by omega) (by omega) (by omega) hxs2 c3 (by rw [List.length_append] at c2; exact c2)
 exact key (l.length + 1) 0 0 (.sl H.length 0 1 0 0) (H ++ [.cells []]) [] _ _ _ _ (by omega) rfl (Nat.zero_le _) rfl Hx.app (.inr ⟨H.length, rfl, by rw [A7]; rfl, Nat.le_refl _⟩)
def flwP (b : Int) : Prop := b = 44 ∨ b = 91 ∨ b = 93 ∨ b = 123 ∨ b = 125
instance (b : Int) : Decidable (flwP b) := by unfold flwP; infer_instance
theorem CS {s : ByteArray} {p : Nat} (h : ¬ gapP s p) : p < s.size := by
 have : ¬ bA s p < 0 := fun e => h (.inr (.inr e))
 rw [M2] at this
 omega
def stN (s : ByteArray) (p : Nat) : Nat := if p < s.size ∧ ¬ gapP s p ∧ ¬ flwP (bA s p) then stN s (p + 1) else p
termination_by s.size - p
theorem TD {s : ByteArray} {p : Nat} (h : ¬ gapP s p) (h2 : ¬ flwP (bA s p)) : stN s p = stN s (p + 1) := by rw [stN, if_pos ⟨CS h, h, h2⟩]
theorem N0 {s : ByteArray} {p : Nat} (h : gapP s p ∨ flwP (bA s p)) : stN s p = p := by rw [stN, if_neg (fun k => h.elim k.2.1 k.2.2)]
theorem LM (s : ByteArray) : ∀ (d p : Nat), s.size - p ≤ d → p ≤ stN s p ∧ (p ≤ s.size → stN s p ≤ s.size)
 | 0, p, h => by
   rw [stN, if_neg (fun k => by omega)]
   exact ⟨Nat.le_refl _, id⟩
 | d + 1, p, h => by
   by_cases k : p < s.size ∧ ¬ gapP s p ∧ ¬ flwP (bA s p)
   ·rw [stN, if_pos k]
    have := LM s d (p + 1) (by omega)
    exact ⟨by omega, fun _ => this.2 (by omega)⟩
   ·rw [stN, if_neg k]
    exact ⟨Nat.le_refl _, id⟩
theorem R5 (s : ByteArray) (p : Nat) : p ≤ stN s p := (LM s _ p (Nat.le_refl _)).1
theorem N1 {s : ByteArray} {p : Nat} (h : p ≤ s.size) : stN s p ≤ s.size := (LM s _ p (Nat.le_refl _)).2 h
def gtN (s : ByteArray) (p : Nat) : Nat := if p < s.size ∧ ¬ gapP s p ∧ bA s p ≠ 62 then gtN s (p + 1) else p
termination_by s.size - p
theorem W0 {s : ByteArray} {p : Nat} (h : ¬ gapP s p) (h2 : bA s p ≠ 62) : gtN s p = gtN s (p + 1) := by rw [gtN, if_pos ⟨CS h, h, h2⟩]
theorem Mp {s : ByteArray} {p : Nat} (h : gapP s p ∨ bA s p = 62) : gtN s p = p := by rw [gtN, if_neg (fun k => h.elim k.2.1 k.2.2)]
theorem L3 (s : ByteArray) : ∀ (d p : Nat), s.size - p ≤ d → p ≤ gtN s p ∧ (p ≤ s.size → gtN s p ≤ s.size)
 | 0, p, h => by
   rw [gtN, if_neg (fun k => by omega)]
   exact ⟨Nat.le_refl _, id⟩
 | d + 1, p, h => by
   by_cases k : p < s.size ∧ ¬ gapP s p ∧ bA s p ≠ 62
   ·rw [gtN, if_pos k]
    have := L3 s d (p + 1) (by omega)
    exact ⟨by omega, fun _ => this.2 (by omega)⟩
   ·rw [gtN, if_neg k]
    exact ⟨Nat.le_refl _, id⟩
theorem Tq (s : ByteArray) (p : Nat) : p ≤ gtN s p := (L3 s _ p (Nat.le_refl _)).1
theorem W1 {s : ByteArray} {p : Nat} (h : p ≤ s.size) : gtN s p ≤ s.size := (L3 s _ p (Nat.le_refl _)).2 h
def t3N (r : ByteArray × Nat × Bool) : V := .tup [.str r.1, .int .i64 (r.2.1 : Nat), .bool r.2.2]
def AP (s : ByteArray) (p : Nat) : ByteArray × Nat × Bool :=
 if (bA s p = 38 ∨ bA s p = 42) ∧ p + 2 ≤ stN s (p + 1) ∧ stN s (p + 1) ≤ p + 61 then (s.extract (p + 1) (stN s (p + 1)), stN s (p + 1), true) else (⟨#[]⟩, 0, false)
def tagE (s : ByteArray) (p : Nat) : Nat := if bA s (p + 1 : Nat) = 60 ∧ bA s (gtN s (p + 2)) = 62 ∧ gtN s (p + 2) ≠ p + 2 then gtN s (p + 2) + 1 else stN s p
def tagM (s : ByteArray) (p : Nat) : ByteArray × Nat × Bool :=
 if bA s p = 33 ∧ tagE s p ≤ p + 60 then (s.extract p (tagE s p), tagE s p, true) else (⟨#[]⟩, 0, false)
def whP (s : ByteArray) (p : Int) : Prop := bA s p = 32 ∨ bA s p = 9
instance (s : ByteArray) (p : Int) : Decidable (whP s p) := by unfold whP; infer_instance
def fwP (s : ByteArray) (f : Bool) (p : Int) : Prop := f = true ∧ flwP (bA s p)
instance (s : ByteArray) (f : Bool) (p : Int) : Decidable (fwP s f p) := by unfold fwP; infer_instance
def notP (b : Int) : Prop := flwP b ∨ b = 35 ∨ b = 38 ∨ b = 42 ∨ b = 33 ∨ b = 124 ∨ b = 62 ∨ b = 39 ∨ b = 34 ∨ b = 37 ∨ b = 64 ∨ b = 96
instance (b : Int) : Decidable (notP b) := by unfold notP; infer_instance
def pfB (s : ByteArray) (p : Nat) (f : Bool) : Bool :=
 decide (¬ gapP s p ∧ ¬ notP (bA s p) ∧ ((bA s p = 45 ∨ bA s p = 63 ∨ bA s p = 58) → ¬ gapP s (p + 1 : Nat) ∧ ¬ fwP s f (p + 1 : Nat)))
def GL (s : ByteArray) (p0 : Nat) (f : Bool) (q : Nat) : Prop := (bA s q = 10 ∨ bA s q < 0) ∨ (bA s q = 35 ∧ p0 < q ∧ whP s ((q : Int) - 1)) ∨ (bA s q = 58 ∧ (gapP s (q + 1 : Nat) ∨ fwP s f (q + 1 : Nat))) ∨ fwP s f q
instance (s : ByteArray) (p0 : Nat) (f : Bool) (q : Nat) : Decidable (GL s p0 f q) := by unfold GL; infer_instance
def pgN (s : ByteArray) (p0 : Nat) (f : Bool) (q : Nat) : Nat := if q < s.size ∧ ¬ GL s p0 f q then pgN s p0 f (q + 1) else q
termination_by s.size - q
def trN (s : ByteArray) (p0 : Nat) : Nat → Nat
 | 0 => 0
 | q + 1 => if p0 < q + 1 ∧ whP s q then trN s p0 q else q + 1
def peN (s : ByteArray) (p : Nat) (f : Bool) : Nat := trN s p (pgN s p f p)
def Es (s : ByteArray) : Nat → Nat → Nat → Option (Nat × Nat)
 | 0, _, _ => none
 | d + 1, a, k => if lonB s a = true then (if endN s a = s.size then none else Es s d (endN s a + 1) (k + 1)) else some (a, k)
def Io (s : ByteArray) (e : Nat) (n : Int) (f : Bool) : Option (Nat × Nat) :=
 if bA s (wtN s e) ≠ 10 then none
 else match Es s (s.size + 1) (wtN s e + 1) 0 with
  | none => none
  | some (a, k) => if Ah s a ≠ 0 ∨ (f = false ∧ (indN s a : Int) ≤ n) ∨ bA s (wtN s a) = 35 ∨ peN s (wtN s a) f = wtN s a then none else some (wtN s a, k)
def Ce (s : ByteArray) (n : Int) (f : Bool) : Nat → Nat → List (ByteArray × Bool) → ByteArray × Nat
 | 0, e, l => (DK l, e)
 | d + 1, e, l => match Io s e n f with
   | none => (DK l, e)
   | some (q, k) => Ce s n f d (peN s q f) (l ++ List.replicate k (⟨#[]⟩, false) ++ [(s.extract q (peN s q f), false)])
def CL (s : ByteArray) (p : Nat) (n : Int) (f : Bool) : ByteArray × Nat × Bool :=
 if pfB s p f = true then ((Ce s n f (s.size + 1) (peN s p f) [(s.extract p (peN s p f), false)]).1, (Ce s n f (s.size + 1) (peN s p f) [(s.extract p (peN s p f), false)]).2, true) else (⟨#[]⟩, 0, false)
def wrdP (b : Int) : Prop := (97 ≤ b ∧ b ≤ 122) ∨ (65 ≤ b ∧ b ≤ 90) ∨ (48 ≤ b ∧ b ≤ 57) ∨ b = 45
instance (b : Int) : Decidable (wrdP b) := by unfold wrdP; infer_instance
def insG (s : ByteArray) : Nat → Nat → Bool
 | 0, _ => true
 | d + 1, i => if i + 1 < s.size then (if wrdP (bA s i) then insG s d (i + 1) else false) else true
def nmH (s : ByteArray) : Bool := decide (s.size ≤ 60 ∧ s.size ≠ 0 ∧ bA s 0 = 33 ∧ bA s ((s.size : Int) - 1) = 33) && insG s (s.size + 1) 1
def UE (s : ByteArray) : Bool := (bs s).all (fun b => decide (33 ≤ b.toNat ∧ b.toNat ≤ 126))
def hOk (h : ByteArray × ByteArray) : Bool := nmH h.1 && decide (1 ≤ h.2.size ∧ h.2.size ≤ 60) && UE h.2
def coreT : ByteArray := ⟨#[116, 97, 103, 58, 121, 97, 109, 108, 46, 111, 114, 103, 44, 50, 48, 48, 50, 58]⟩
def fstH (n : ByteArray) : List (ByteArray × ByteArray) → Option ByteArray
 | [] => none
 | h :: l => if h.1 = n then some h.2 else fstH n l
def angP (s : ByteArray) : Prop := 3 < s.size ∧ bA s 1 = 60 ∧ bA s ((s.size : Int) - 1) = 62
instance (s : ByteArray) : Decidable (angP s) := by unfold angP; infer_instance
def lstN (s : ByteArray) : Nat := (DZ s 33 s.size + 1).toNat
def tagR (raw : ByteArray) (l : List (ByteArray × ByteArray)) : Option ByteArray :=
 if raw.size = 0 ∨ bA raw 0 ≠ 33 then none
 else if angP raw then some (raw.extract 2 (raw.size - 1))
 else if raw = ⟨#[33]⟩ then some ⟨#[33]⟩
 else if lstN raw = raw.size ∨ nmH (raw.extract 0 (lstN raw)) = false then none
 else match fstH (raw.extract 0 (lstN raw)) l with
  | some p => if p = ⟨#[]⟩ then none else some (p ++ raw.extract (lstN raw) raw.size)
  | none => if raw.extract 0 (lstN raw) = ⟨#[33, 33]⟩ then some (coreT ++ raw.extract (lstN raw) raw.size)
    else if raw.extract 0 (lstN raw) = ⟨#[33]⟩ then some (⟨#[33]⟩ ++ raw.extract (lstN raw) raw.size) else none
open Go.Proofs.YthlbglmfdjdagaaGreatDoor
def QS.adv (q : QS) : QS := ⟨q.pos + 1, q.lines, q.cur, q.keep⟩
theorem QAt.adv {G H : LH} {b : Nat} {s : ByteArray} {lv : V} {q : QS} (h : QAt G H b s lv q) (hn : q.pos + 1 ≤ s.size) : QAt G (H.set b (.cells (quC s lv q.adv))) b s lv q.adv :=
 ⟨h.hx.set h.hG, h.hG, A1 (A5 h.cell), h.own.setNe (Nat.lt_succ_self b), hn, h.keep, by have := h.sz; show szP q.lines + q.cur.size ≤ 4 * (q.pos + 1); omega⟩
def Ft (s : ByteArray) (k : QS → ByteArray × Int × Int) (g : Bool) (q : QS) : ByteArray × Int × Int := if Ah s (q.pos + 1) = 0 then k (q.ends s g) else (⟨#[]⟩, q.pos + 1, 4)
def dqGo (s : ByteArray) : Nat → QS → ByteArray × Int × Int
 | 0, _ => (⟨#[]⟩, 0, 0)
 | d + 1, q =>
   if q.pos < s.size then
    if bA s q.pos = 10 then Ft s (dqGo s d) false q
    else if bA s q.pos = 92 then
     (if bA s (q.pos + 1) = 10 then Ft s (dqGo s d) true q.adv
      else if (escA s q.pos).2 = 0 then (⟨#[]⟩, q.pos, 5) else dqGo s d (q.put (escA s q.pos).1 ((escA s q.pos).2 - q.pos).toNat true))
    else if bA s q.pos = 34 then (DK (q.lines ++ [(q.cur, false)]), q.pos + 1, 0)
    else dqGo s d (q.put (b1 (bA s q.pos)) 1 (decide (¬bA s q.pos = 32 ∧ ¬bA s q.pos = 9)))
   else (⟨#[]⟩, s.size, 3)
theorem Pi {s : ByteArray} {d : Nat} {q : QS} : dqGo s (d + 1) q = if q.pos < s.size then
 if bA s q.pos = 10 then Ft s (dqGo s d) false q
 else if bA s q.pos = 92 then
  (if bA s (q.pos + 1) = 10 then Ft s (dqGo s d) true q.adv
   else if (escA s q.pos).2 = 0 then (⟨#[]⟩, q.pos, 5) else dqGo s d (q.put (escA s q.pos).1 ((escA s q.pos).2 - q.pos).toNat true))
 else if bA s q.pos = 34 then (DK (q.lines ++ [(q.cur, false)]), q.pos + 1, 0)
 else dqGo s d (q.put (b1 (bA s q.pos)) 1 (decide (¬bA s q.pos = 32 ∧ ¬bA s q.pos = 9)))
 else (⟨#[]⟩, s.size, 3) := rfl
def AR (s : ByteArray) (p : Nat) : ByteArray × Int × Int := if bA s p = 34 then dqGo s (s.size + 1) ⟨p + 1, [], ⟨#[]⟩, 0⟩ else (⟨#[]⟩, p, 10)
theorem Fj (s : ByteArray) (p : Int) (fl : Nat) (H : LH) (hs : s.size ≤ 16777216) : run 97 [.str s, .int .i64 p] fl H = some (t3V (AR s (spt s p)), H) := by
 have e1 := fun fl H => AA s p fl H (by omega)
 have h1 := BO s p
 generalize spt s p = p0 at *
 have e2 := fun q (h : (0 : Int) ≤ q) fl H => Ad s q fl H h (by omega)
 have e3 := fun b fl H => Bf b fl H
 unfold AR
 by_cases h39 : bA s p0 = 34
 rotate_left
 ·rw [if_neg h39]
  unfold run at *
  rw [z97]
  simp +contextual -implicitDefEqProofs (maxSteps := 10000000) (disch := first | (and_intros <;> omega -splitDisjunctions) | (push_cast; and_intros <;> omega -splitDisjunctions) | fail) only [e1, e2, h39, go_sem, seval]
  rfl
 rw [if_pos h39]
 have hp0 := Ai h39 (by omega)
 unfold run at *
 rw [z97]
 simp +contextual -implicitDefEqProofs (maxSteps := 10000000) (disch := first | (and_intros <;> omega -splitDisjunctions) | (push_cast; and_intros <;> omega -splitDisjunctions) | fail) only [e1, e2, h39, go_sem, seval]
 refine Ae fun c R hc hR => ?_
 have key : ∀ (m : Nat) (B : LH) (lv : V) (q : QS) (x1 x4 x5 x6 x8 x9 x10 x11 x18 x31 x59 x65 x76 x81 x94 x108 : Option V), s.size - q.pos < m → QAt H B H.length s lv q → (∃ d, s.size - q.pos < d ∧ dqGo s d q = dqGo s (s.size + 1) ⟨p0 + 1, [], ⟨#[]⟩, 0⟩) →
  zEv (Ac (mkR Tryz.prog cfg ok [0, 1, 4, 5, 6, 7, 8, 9, 10, 11, 18, 31, 59, 65, 76, 81, 94, 108] H.length) .pure H [ResultVar.tmp 4, ResultVar.tmp 5, ResultVar.tmp 6]) (mkR Tryz.prog cfg ok [0, 1, 4, 5, 6, 7, 8, 9, 10, 11, 18, 31, 59, 65, 76, 81, 94, 108] H.length) (K.code (Code.loop c) :: K.blk 0 :: R) .nrm [some (.str s), x1, x4, x5, x6, some (.ptr H.length 0), x8, x9, x10, x11, x18, x31, x59, x65, x76, x81, x94, x108] (B) = some (t3V (dqGo s (s.size + 1) ⟨p0 + 1, [], ⟨#[]⟩, 0⟩), H) := by
  intro m
  induction m with
  | zero => intro B lv q x1 x4 x5 x6 x8 x9 x10 x11 x18 x31 x59 x65 x76 x81 x94 x108 hm; omega
  | succ m ih =>
    intro B lv q x1 x4 x5 x6 x8 x9 x10 x11 x18 x31 x59 x65 x76 x81 x94 x108 hm hq hf
    obtain ⟨d, hd, hf⟩ := hf
    obtain ⟨d, rfl⟩ : ∃ d', d = d' + 1 := ⟨d - 1, by omega⟩
    rw [Pi] at hf
    have hcq := hq.cell
    have hle := hq.le
    have hxl := hq.hx.len
    unfold quC at hcq
    have o1 := (hq.own.at As).isTup; have o2 := (hq.own.at As).one
    by_cases hlt : q.pos < s.size
    rotate_left
    ·have t1 : ((q.pos : Int) < s.size) = False := eq_false (by omega)
     rw [if_neg hlt] at hf
     rw [A4 hc, ← hR]
     simp +contextual -implicitDefEqProofs (maxSteps := 10000000) (disch := first | (and_intros <;> omega -splitDisjunctions) | (push_cast; and_intros <;> omega -splitDisjunctions) | fail) only [hcq, o1, o2, t1, go_sem, seval]
     rw [← hf]; rfl
    have t1 : ((q.pos : Int) < s.size) = True := eq_true (by omega)
    rw [if_pos hlt] at hf
    have hp1 : ((q.pos + 1 : Nat) : Int) = (q.pos : Int) + 1 := by omega
    by_cases h10 : bA s q.pos = 10
    ·rw [if_pos h10] at hf
     have t2 : (bA s (q.pos : Int) = 10) = True := eq_true h10
     have t3 : (bA s (q.pos : Int) = 92) = False := eq_false (by omega)
     unfold Ft at hf
     obtain ⟨w, C, e4, rfl, lv', hq'⟩ := IJ hq false H.length (Nat.le_refl _) hs hlt
     have hw1 := B8 s (q.pos + 1)
     unfold run at e4
     by_cases hm : Ah s (q.pos + 1) = 0
     ·rw [if_pos hm] at hf
      rw [decide_eq_true hm] at e4
      rw [A4 hc]
      simp +contextual -implicitDefEqProofs (maxSteps := 10000000) (disch := first | (and_intros <;> omega -splitDisjunctions) | (push_cast; and_intros <;> omega -splitDisjunctions) | fail) only [hcq, o1, o2, t1, t3, h10, e2, e4, A1, A0, A2, A3, go_sem, seval]
      have hpos : (q.ends s false).pos = wtN s (q.pos + 1) := by unfold QS.ends; exact if_pos hm
      have hpl : s.size - (q.ends s false).pos < s.size - q.pos := by rw [hpos]; omega
      exact ih C lv' (q.ends s false) _ _ _ _ _ _ _ _ _ _ _ _ _ _ _ _ (by omega) hq' ⟨d, by omega, hf⟩
     ·rw [if_neg hm] at hf
      rw [decide_eq_false hm] at e4
      have hcC := hq'.cell
      have o3 := (hq'.own.at As).isTup; have o4 := (hq'.own.at As).one
      have hpos : ((q.ends s false).pos : Int) = (q.pos : Int) + 1 := by unfold QS.ends; rw [if_neg hm]; show (((q.pos + 1 : Nat)) : Int) = (q.pos : Int) + 1; omega
      unfold quC at hcC
      rw [hpos] at hcC
      rw [A4 hc, ← hR]
      simp +contextual -implicitDefEqProofs (maxSteps := 10000000) (disch := first | (and_intros <;> omega -splitDisjunctions) | (push_cast; and_intros <;> omega -splitDisjunctions) | fail) only [hcq, o1, o2, o3, o4, t1, t3, h10, e2, e4, hcC, A1, A0, A2, A3, go_sem, seval]
      rw [← hf]; rfl
    rw [if_neg h10] at hf
    have t2 : (bA s (q.pos : Int) = 10) = False := eq_false h10
    by_cases h92 : bA s q.pos = 92
    ·rw [if_pos h92] at hf
     have t3 : (bA s (q.pos : Int) = 92) = True := eq_true h92
     by_cases h10b : bA s (q.pos + 1) = 10
     ·rw [if_pos h10b] at hf
      have hlt2 : q.pos + 1 < s.size := Ai h10b (by omega)
      have t4 : True := trivial
      unfold Ft at hf
      obtain ⟨w, C, e4, rfl, lv', hq'⟩ := IJ (hq.adv (by omega)) true H.length (Nat.le_refl _) hs hlt2
      have hw1 := B8 s (q.adv.pos + 1)
      unfold run quC at e4
      by_cases hm : Ah s (q.adv.pos + 1) = 0
      ·rw [if_pos hm] at hf
       rw [decide_eq_true hm] at e4
       simp only [QS.adv, hp1] at e4
       rw [A4 hc]
       simp +contextual -implicitDefEqProofs (maxSteps := 10000000) (disch := first | (and_intros <;> omega -splitDisjunctions) | (push_cast; and_intros <;> omega -splitDisjunctions) | fail) only [hcq, o1, o2, t1, h92, h10b, e2, e4, A1, A0, A2, A3, go_sem, seval]
       have hpos : (q.adv.ends s true).pos = wtN s (q.adv.pos + 1) := by unfold QS.ends; exact if_pos hm
       have hpl : s.size - (q.adv.ends s true).pos < s.size - q.pos := by rw [hpos]; show s.size - wtN s (q.pos + 1 + 1) < _; have : q.adv.pos + 1 = q.pos + 1 + 1 := rfl; rw [this] at hw1; omega
       exact ih C lv' (q.adv.ends s true) _ _ _ _ _ _ _ _ _ _ _ _ _ _ _ _ (by omega) hq' ⟨d, by omega, hf⟩
      ·rw [if_neg hm] at hf
       rw [decide_eq_false hm] at e4
       simp only [QS.adv, hp1] at e4
       have hcC := hq'.cell
       have o3 := (hq'.own.at As).isTup; have o4 := (hq'.own.at As).one
       have hpos : ((q.adv.ends s true).pos : Int) = (q.adv.pos : Int) + 1 := by unfold QS.ends; rw [if_neg hm]; show (((q.adv.pos + 1 : Nat)) : Int) = (q.adv.pos : Int) + 1; omega
       unfold quC at hcC
       rw [hpos] at hcC
       rw [A4 hc, ← hR]
       simp +contextual -implicitDefEqProofs (maxSteps := 10000000) (disch := first | (and_intros <;> omega -splitDisjunctions) | (push_cast; and_intros <;> omega -splitDisjunctions) | fail) only [hcq, o1, o2, o3, o4, t1, h92, h10b, e2, e4, hcC, A1, A0, A2, A3, go_sem, seval]
       rw [← hf]; rfl
     rw [if_neg h10b] at hf
     have hes := Jk s q.pos
     have e5 := fun fl H => Iz s q.pos fl H hle (by omega)
     have her := I4 (s := s) (p := q.pos)
     unfold run at e5
     by_cases he0 : (escA s q.pos).2 = 0
     ·rw [if_pos he0] at hf
      rw [he0] at e5
      rw [A4 hc, ← hR]
      simp +contextual -implicitDefEqProofs (maxSteps := 10000000) (disch := first | (and_intros <;> omega -splitDisjunctions) | (push_cast; and_intros <;> omega -splitDisjunctions) | fail) only [hcq, o1, o2, t1, h92, h10b, e2, e5, go_sem, seval]
      rw [← hf]; rfl
     ·rw [if_neg he0] at hf
      obtain ⟨g1, g2, g3⟩ := her.resolve_left he0
      have t5 : ((escA s q.pos).2 = 0) = False := eq_false he0
      have e4 := IP hq (escA s q.pos).1 ((escA s q.pos).2 - q.pos).toNat true H.length (Nat.le_refl _) hs (by omega) (by omega) (m := (escA s q.pos).2 - q.pos) (by omega)
      generalize escA s q.pos = es at *
      obtain ⟨et, ee⟩ := es
      dsimp only at *
      unfold run at e4
      rw [A4 hc]
      simp +contextual -implicitDefEqProofs (maxSteps := 10000000) (disch := first | (and_intros <;> omega -splitDisjunctions) | (push_cast; and_intros <;> omega -splitDisjunctions) | fail) only [hcq, o1, o2, t1, t5, h92, h10b, e2, e4, e5, go_sem, seval]
      exact ih _ lv (q.put et (ee - q.pos).toNat true) _ _ _ _ _ _ _ _ _ _ _ _ _ _ _ _ (by show s.size - (q.pos + _) < _; omega) (hq.put (by omega) (by omega)) ⟨d, by show s.size - (q.pos + _) < _; omega, hf⟩
    rw [if_neg h92] at hf
    have t3 : (bA s (q.pos : Int) = 92) = False := eq_false h92
    by_cases h39 : bA s q.pos = 34
    ·rw [if_pos h39] at hf
     obtain ⟨w, C, e4, rfl⟩ := Kj hq H.length (Nat.le_refl _) hs hlt
     unfold run at e4
     rw [A4 hc, ← hR]
     simp +contextual -implicitDefEqProofs (maxSteps := 10000000) (disch := first | (and_intros <;> omega -splitDisjunctions) | (push_cast; and_intros <;> omega -splitDisjunctions) | fail) only [hcq, o1, o2, t1, h39, e2, e4, go_sem, seval]
     rw [← hf]; rfl
    rw [if_neg h39] at hf
    have t4 : (bA s (q.pos : Int) = 34) = False := eq_false h39
    have e4 := fun L => IP (hq.left (L := L)) (b1 (bA s q.pos)) 1 (decide (¬bA s q.pos = 32 ∧ ¬bA s q.pos = 9)) H.length (Nat.le_refl _) hs (by omega) (by rw [OI]; omega) (m := 1) rfl
    unfold run b1 at e4
    rw [A4 hc]
    simp +contextual -implicitDefEqProofs (maxSteps := 10000000) (disch := first | (and_intros <;> omega -splitDisjunctions) | (push_cast; and_intros <;> omega -splitDisjunctions) | fail) only [hcq, o1, o2, t1, t2, t3, t4, e2, e3, e4, go_sem, seval]
    exact ih _ lv (q.put (b1 (bA s q.pos)) 1 (decide (¬bA s q.pos = 32 ∧ ¬bA s q.pos = 9))) _ _ _ _ _ _ _ _ _ _ _ _ _ _ _ _ (by show s.size - (q.pos + 1) < _; omega) (hq.left.put (by omega) (by show 1 ≤ 4 * 1; omega)) ⟨d, by show s.size - (q.pos + 1) < _; omega, hf⟩
 exact key (s.size + 1) _ .nilsl ⟨p0 + 1, [], ⟨#[]⟩, 0⟩ _ _ _ _ _ _ _ _ _ _ _ _ _ _ _ _ (by show s.size - (p0 + 1) < _; omega) ⟨Hx.app, Nat.le_refl _, by rw [A7]; rfl, .inl ⟨rfl, .inl rfl⟩, hp0, Nat.le_refl _, Nat.zero_le _⟩ ⟨s.size + 1, by show s.size - (p0 + 1) < _; omega, rfl⟩
def farB (s : ByteArray) : Prop := bA s 0 = 32 ∨ bA s 0 = 9
instance (s : ByteArray) : Decidable (farB s) := by unfold farB; infer_instance
def fbG : List ByteArray → ByteArray → ByteArray → Nat → ByteArray
 | [], out, _, _ => out
 | x :: r, out, last, many =>
   if x = ⟨#[]⟩ then fbG r out last (many + 1)
   else fbG r ((if last = ⟨#[]⟩ then out ++ brk many else if farB last ∨ farB x then out ++ brk (many + 1) else if many = 0 then out ++ ⟨#[32]⟩ else out ++ brk many) ++ x) x 0
def Ig (l : List ByteArray) : ByteArray := fbG l ⟨#[]⟩ ⟨#[]⟩ 0
def trE (l : List ByteArray) : Nat → Nat
 | 0 => 0
 | n + 1 => if l.getD n ⟨#[]⟩ = ⟨#[]⟩ then trE l n else n + 1
theorem Rf (l : List ByteArray) : ∀ n, trE l n ≤ n
 | 0 => Nat.le_refl _
 | n + 1 => by
   unfold trE
   by_cases h : l.getD n ⟨#[]⟩ = ⟨#[]⟩
   ·rw [if_pos h]; have := Rf l n; omega
   ·rw [if_neg h]; exact Nat.le_refl _
def NI (l : List ByteArray) : ByteArray := ⟨(Lib.join (l.map (·.data.toList)) [10]).toArray⟩
def blkT (l : List ByteArray) (folded : Bool) (chomp : Int) : ByteArray :=
 if trE l l.length = 0 then (if chomp = 2 then brk l.length else ⟨#[]⟩)
 else (if folded = true then Ig (l.take (trE l l.length)) else NI (l.take (trE l l.length))) ++ (if chomp = 1 then ⟨#[]⟩ else if chomp = 2 then brk (1 + (l.length - trE l l.length)) else ⟨#[10]⟩)
def hdGo (s : ByteArray) : Nat → Nat → Int → Int → Bool → Int × Int × Nat × Int
 | 0, _, _, _, _ => (0, 0, 0, 0)
 | d + 1, q, digit, chomp, sign =>
   if (49 ≤ bA s q ∧ bA s q ≤ 57) ∧ digit = 0 then hdGo s d (q + 1) (bA s q - 48) chomp sign
   else if (bA s q = 43 ∨ bA s q = 45) ∧ sign = false then hdGo s d (q + 1) digit (if bA s q = 45 then 1 else 2) true
   else if rsB s q = true then (digit, chomp, rsN s q, 0) else (0, 0, rsN s q, 6)
def AN (s : ByteArray) (p : Nat) : Int × Int × Nat × Int := if bA s p = 124 ∨ bA s p = 62 then hdGo s (s.size + 2) (p + 1) 0 0 false else (0, 0, p, 10)
def bhN (s : ByteArray) (e : Nat) : Nat := if e + 1 ≤ s.size then e + 1 else s.size
def lcGo (s : ByteArray) (n : Int) : Nat → Nat → Nat × Nat
 | 0, _ => (60000, s.size)
 | d + 1, a =>
   if a < s.size ∧ Ah s a = 0 then
    (if lonB s a = true then lcGo s n d (bhN s (endN s a)) else if n < indN s a then (indN s a, a) else (60000, s.size))
   else (60000, s.size)
def Fu (s : ByteArray) (w first : Nat) : Nat → Nat → List ByteArray → List ByteArray × Nat
 | 0, a, l => (l, a)
 | d + 1, a, l =>
   if (a < s.size ∧ Ah s a = 0) ∧ (lonB s a = true ∨ w ≤ indN s a) then
    Fu s w first d (bhN s (endN s a)) (l ++ [if first ≤ a ∧ (lonB s a = false ∨ w < indN s a) then s.extract (a + w) (endN s a) else ⟨#[]⟩])
   else (l, a)
def litW (s : ByteArray) (n digit : Int) (a : Nat) : Nat × Nat :=
 if 0 < digit ∧ n ≤ 60000 then (((if n < 0 then 0 else n) + digit).toNat, a) else if digit = 0 then lcGo s n (s.size + 1) a else (60000, a)
def AG (s : ByteArray) (p : Nat) (n : Int) : ByteArray × Int × Int :=
 if (AN s p).2.2.2 ≠ 0 then (⟨#[]⟩, (AN s p).2.2.1, (AN s p).2.2.2)
 else
  (blkT (Fu s (litW s n (AN s p).1 (bhN s (AN s p).2.2.1)).1 (litW s n (AN s p).1 (bhN s (AN s p).2.2.1)).2 (s.size + 1) (bhN s (AN s p).2.2.1) []).1 (decide (bA s p = 62)) (AN s p).2.1,
   (Fu s (litW s n (AN s p).1 (bhN s (AN s p).2.2.1)).1 (litW s n (AN s p).1 (bhN s (AN s p).2.2.1)).2 (s.size + 1) (bhN s (AN s p).2.2.1) []).2, 0)
def keyE (s : ByteArray) (p : Nat) : Option Nat :=
 if bA s p = 42 then (if (AP s p).2.2 = true then some (AP s p).2.1 else none)
 else if bA s p = 39 then (if (AS s p).2.2 = 0 ∧ (AS s p).2.1 ≤ endN s p then some (AS s p).2.1.toNat else none)
 else if bA s p = 34 then (if (AR s p).2.2 = 0 ∧ (AR s p).2.1 ≤ endN s p then some (AR s p).2.1.toNat else none)
 else if pfB s p false = true then (if p < peN s p false then some (peN s p false) else none)
 else none
def keyM (s : ByteArray) (p : Nat) : Option (Nat × Nat) :=
 match keyE s p with
 | none => none
 | some e => if p + 1000 < e then none else if bA s (wtN s e) = 58 ∧ gapP s (wtN s e + 1 : Nat) then some (e, wtN s e) else none
def BG (s : ByteArray) (p : Nat) : Prop := bA s p = 45 ∧ gapP s (p + 1 : Nat)
instance (s : ByteArray) (p : Nat) : Decidable (BG s p) := by unfold BG; infer_instance
def gaN (s : ByteArray) (p : Nat) : Nat := if p < s.size ∧ ¬ gapP s p then gaN s (p + 1) else p
termination_by s.size - p
theorem To {s : ByteArray} {p : Nat} (h : ¬ gapP s p) : gaN s p = gaN s (p + 1) := by rw [gaN, if_pos ⟨CS h, h⟩]
theorem Sf {s : ByteArray} {p : Nat} (h : gapP s p) : gaN s p = p := by rw [gaN, if_neg (fun k => k.2 h)]
theorem KY (s : ByteArray) : ∀ (d p : Nat), s.size - p ≤ d → p ≤ gaN s p ∧ (p ≤ s.size → gaN s p ≤ s.size)
 | 0, p, h => by
   rw [gaN, if_neg (fun k => by omega)]
   exact ⟨Nat.le_refl _, id⟩
 | d + 1, p, h => by
   by_cases k : p < s.size ∧ ¬ gapP s p
   ·rw [gaN, if_pos k]
    have := KY s d (p + 1) (by omega)
    exact ⟨by omega, fun _ => this.2 (by omega)⟩
   ·rw [gaN, if_neg k]
    exact ⟨Nat.le_refl _, id⟩
theorem VZ (s : ByteArray) (p : Nat) : p ≤ gaN s p := (KY s _ p (Nat.le_refl _)).1
theorem VY {s : ByteArray} {p : Nat} (h : p ≤ s.size) : gaN s p ≤ s.size := (KY s _ p (Nat.le_refl _)).2 h
def wdGo (s : ByteArray) (e : Nat) : Nat → Nat → List ByteArray → List ByteArray
 | 0, _, l => l
 | d + 1, p, l => if e ≤ wtN s p ∨ bA s (wtN s p) = 35 then l else wdGo s e d (gaN s (wtN s p)) (l ++ [s.extract (wtN s p) (gaN s (wtN s p))])
def DR (s : ByteArray) (p : Nat) : List ByteArray := wdGo s (endN s p) (s.size + 1) p []
def e0 : ByteArray := ⟨#[]⟩
structure PR where
 has : Bool
 anchor : ByteArray
 tag : ByteArray
 frm : Nat
 fin : Nat
def pr0 : PR := ⟨false, ⟨#[]⟩, ⟨#[]⟩, 0, 0⟩
structure RS where
 pos : Nat
 out : List Ev
 names : List (ByteArray × Nat)
 ended : List Bool
 hands : List (ByteArray × ByteArray)
 depth : Nat
inductive RR (α : Type) where
 | bad (out : List Ev) (code place : Int)
 | ok (a : α) (st : RS)
def mb {α β : Type} (x : Option (RR α)) (k : α → RS → Option (RR β)) : Option (RR β) :=
 match x with
 | none => none
 | some (.bad o c p) => some (.bad o c p)
 | some (.ok a st) => k a st
theorem A8 {α β : Type} {x : Option (RR α)} {k : α → RS → Option (RR β)} {r : RR β} (h : mb x k = some r) : (∃ o c p, x = some (.bad o c p) ∧ r = .bad o c p) ∨ ∃ a st, x = some (.ok a st) ∧ k a st = some r := by
 cases x with
 | none => cases h
 | some y =>
   cases y with
   | bad o c p => cases h; exact .inl ⟨o, c, p, rfl, rfl⟩
   | ok a st => exact .inr ⟨a, st, rfl, h⟩
def RS.at (st : RS) (p : Nat) : RS := ⟨p, st.out, st.names, st.ended, st.hands, st.depth⟩
def badM {α : Type} (st : RS) (code place : Int) : Option (RR α) := some (.bad st.out code place)
def okM {α : Type} (a : α) (st : RS) : Option (RR α) := some (.ok a st)
def evN (k style : Int) (flag : Bool) (text anchor tag : ByteArray) : Ev := ⟨k, style, flag, text, anchor, tag, 0, 0⟩
def fitE (e : Ev) : Prop := e.text.size ≤ 16777216 ∧ e.anchor.size ≤ 1000 ∧ e.tag.size ≤ 1000
instance (e : Ev) : Decidable (fitE e) := by unfold fitE; infer_instance
def GW (e : Ev) : Bool := decide (e.kind ≠ 3) && decide (e.kind ≠ 4)
def RS.tell (st : RS) (e : Ev) : RS := ⟨st.pos, st.out ++ [e], if e.anchor = ⟨#[]⟩ then st.names else st.names ++ [(e.anchor, st.out.length)], st.ended ++ [GW e], st.hands, st.depth⟩
def Ds (st : RS) (e : Ev) : Option (RR Nat) := if st.out.length < 1000000 ∧ fitE e then some (.ok st.out.length (st.tell e)) else none
theorem AD {st : RS} {e : Ev} {r : RR Nat} (h : Ds st e = some r) : (st.out.length < 1000000 ∧ fitE e) ∧ r = .ok st.out.length (st.tell e) := by
 unfold Ds at h
 by_cases k : st.out.length < 1000000 ∧ fitE e
 ·rw [if_pos k] at h; cases h; exact ⟨k, rfl⟩
 ·rw [if_neg k] at h; cases h
def E6 (st : RS) (style : Int) (t : ByteArray) (p : PR) : Option (RR Unit) := mb (Ds st (evN 5 style false t p.anchor p.tag)) fun _ st => okM () st
def Ct : List (ByteArray × Nat) → ByteArray → Option Nat
 | [], _ => none
 | x :: l, t => match Ct l t with
   | some j => some j
   | none => if x.1 = t then some x.2 else none
theorem Hw (t a : ByteArray) (k : Nat) : ∀ l, Ct (l ++ [(a, k)]) t = if a = t then some k else Ct l t
 | [] => by show (if a = t then some k else none) = _; rfl
 | x :: l => by
   have ih := Hw t a k l
   show (match Ct (l ++ [(a, k)]) t with | some j => some j | none => if x.1 = t then some x.2 else none) = _
   rw [ih]
   by_cases h : a = t
   ·rw [if_pos h, if_pos h]
   ·rw [if_neg h, if_neg h]; rfl
def BP (s : ByteArray) (p : Nat) : Int := if s.size ≤ p then 3 else if Ah s p ≠ 0 then 4 else 0
def Aw (s : ByteArray) (p : Nat) : Prop := s.size ≤ p ∨ Ah s p ≠ 0
instance (s : ByteArray) (p : Nat) : Decidable (Aw s p) := by unfold Aw; infer_instance
def GV (s : ByteArray) (st : RS) : Option (RR Unit) := if BP s st.pos = 0 then okM () st else badM st (BP s st.pos) st.pos
def gapM (s : ByteArray) (st : RS) : Option (RR Unit) := GV s (st.at (gpN s st.pos))
def sepP (s : ByteArray) (f : Bool) (e : Nat) : Prop := gapP s e ∨ (f = true ∧ flwP (bA s e))
instance (s : ByteArray) (f : Bool) (e : Nat) : Decidable (sepP s f e) := by unfold sepP; infer_instance
def JP (s : ByteArray) (f : Bool) (e : Nat) : Nat := if f = true then gpN s e else wtN s e
def H3 (s : ByteArray) (f : Bool) (st : RS) (p : PR) : Option (RR PR) :=
 if bA s st.pos = 38 then
  (if (AP s st.pos).2.2 = false ∨ p.anchor ≠ ⟨#[]⟩ ∨ ¬ sepP s f (AP s st.pos).2.1 then badM st 7 st.pos
   else okM ⟨true, (AP s st.pos).1, p.tag, p.frm, (AP s st.pos).2.1⟩ (st.at (JP s f (AP s st.pos).2.1)))
 else if (tagM s st.pos).2.2 = false ∨ p.tag ≠ ⟨#[]⟩ ∨ ¬ sepP s f (tagM s st.pos).2.1 then badM st 7 st.pos
 else match tagR (tagM s st.pos).1 st.hands with
  | none => badM st 15 st.pos
  | some t => okM ⟨true, p.anchor, t, p.frm, (tagM s st.pos).2.1⟩ (st.at (JP s f (tagM s st.pos).2.1))
def E2 (s : ByteArray) (f : Bool) : Nat → RS → PR → Option (RR PR)
 | 0, _, _ => none
 | d + 1, st, p => if bA s st.pos = 38 ∨ bA s st.pos = 33 then mb (H3 s f st p) fun p st => E2 s f d st p else okM p st
def CN (s : ByteArray) (f : Bool) (st : RS) : Option (RR PR) := E2 s f (s.size + 1) st ⟨false, ⟨#[]⟩, ⟨#[]⟩, st.pos, st.pos⟩
def Ez (s : ByteArray) (st : RS) : Option (RR PR) := mb (CN s true st) fun p st => if p.has = true then mb (GV s st) fun _ st => okM p st else okM p st
def GZ (st : RS) (kind style : Int) (p : PR) (sign : Nat) : Option (RR Nat) :=
 if 40 ≤ st.depth then badM st 12 sign else Ds ⟨st.pos, st.out, st.names, st.ended, st.hands, st.depth + 1⟩ (evN kind style false ⟨#[]⟩ p.anchor p.tag)
def Pm (st : RS) (k : Nat) : RS := ⟨st.pos, st.out, st.names, st.ended.set k true, st.hands, st.depth⟩
def GI (st : RS) (k : Nat) : Option (RR Unit) := mb (Ds ⟨st.pos, st.out, st.names, st.ended, st.hands, st.depth - 1⟩ (evN 7 0 false ⟨#[]⟩ ⟨#[]⟩ ⟨#[]⟩)) fun _ st => okM () (Pm st k)
def CG (s : ByteArray) (st : RS) (p : PR) : Option (RR Unit) :=
 if (AP s st.pos).2.2 = false then badM st 7 st.pos
 else if p.has = true then badM st 16 st.pos
 else match Ct st.names (AP s st.pos).1 with
  | none => badM st 14 st.pos
  | some k => if st.ended.getD k false = false then badM st 14 st.pos
    else mb (Ds st (evN 6 0 false (AP s st.pos).1 ⟨#[]⟩ ⟨#[]⟩)) fun _ st' => okM () (st'.at (AP s st.pos).2.1)
def Cg (s : ByteArray) (p : Nat) : ByteArray × Int × Int := if bA s p = 34 then AR s p else AS s p
def CO (s : ByteArray) (st : RS) (p : PR) : Option (RR Unit) :=
 if (Cg s st.pos).2.2 ≠ 0 then badM st (Cg s st.pos).2.2 (Cg s st.pos).2.1
 else mb (E6 st (if bA s st.pos = 34 then 3 else 2) (Cg s st.pos).1 p) fun _ st' => okM () (st'.at (Cg s st.pos).2.1.toNat)
def Dm (s : ByteArray) (st : RS) (p : PR) (n : Int) (f : Bool) : Option (RR Unit) :=
 mb (E6 st 1 (CL s st.pos n f).1 p) fun _ st' => okM () (st'.at (CL s st.pos n f).2.1)
def DM (s : ByteArray) (c : Int) (st : RS) : Option (RR Unit) := if bA s st.pos = 44 then okM () (st.at (st.pos + 1)) else if bA s st.pos = c then okM () st else badM st 11 st.pos
def Fg (s : ByteArray) (rec : RS → Option (RR Unit)) (k : Nat) : Nat → RS → Option (RR Unit)
 | 0, _ => none
 | d + 1, st => mb (gapM s st) fun _ st =>
   if bA s st.pos = 93 then GI (st.at (st.pos + 1)) k
   else mb (rec st) fun _ st => mb (gapM s st) fun _ st => mb (DM s 93 st) fun _ st => Fg s rec k d st
def Dd (s : ByteArray) (rec : RS → Option (RR Unit)) (n : Nat) (st : RS) (p : PR) : Option (RR Unit) := mb (GZ st 3 6 p st.pos) fun k st => Fg s rec k n (st.at (st.pos + 1))
def quoB (b : Int) : Prop := b = 39 ∨ b = 34
instance (b : Int) : Decidable (quoB b) := by unfold quoB; infer_instance
def Ia (s : ByteArray) (st : RS) (p : PR) : Option (RR Unit) :=
 if bA s st.pos = 42 then CG s st p
 else if quoB (bA s st.pos) then CO s st p
 else if pfB s st.pos true = true then Dm s st p (-1) true
 else if p.has = true ∧ (bA s st.pos = 44 ∨ bA s st.pos = 125 ∨ bA s st.pos = 58) then E6 st 1 ⟨#[]⟩ p
 else badM st 10 st.pos
def Ih (s : ByteArray) (rec : RS → Option (RR Unit)) (q : Bool) (st : RS) : Option (RR Unit) :=
 if bA s st.pos = 58 ∧ (gapP s (st.pos + 1 : Nat) ∨ flwP (bA s (st.pos + 1 : Nat)) ∨ q = true) then
  mb (gapM s (st.at (st.pos + 1))) fun _ st => if bA s st.pos = 44 ∨ bA s st.pos = 125 then E6 st 1 ⟨#[]⟩ pr0 else rec st
 else E6 st 1 ⟨#[]⟩ pr0
def JR (s : ByteArray) (rec : RS → Option (RR Unit)) (st : RS) : Option (RR Unit) :=
 mb (Ez s st) fun p st => mb (Ia s st p) fun _ st' => mb (gapM s st') fun _ st' => Ih s rec (decide (quoB (bA s st.pos))) st'
def JG (s : ByteArray) (rec : RS → Option (RR Unit)) (k : Nat) : Nat → RS → Option (RR Unit)
 | 0, _ => none
 | d + 1, st => mb (gapM s st) fun _ st =>
   if bA s st.pos = 125 then GI (st.at (st.pos + 1)) k
   else mb (JR s rec st) fun _ st => mb (gapM s st) fun _ st => mb (DM s 125 st) fun _ st => JG s rec k d st
def Eq (s : ByteArray) (rec : RS → Option (RR Unit)) (n : Nat) (st : RS) (p : PR) : Option (RR Unit) := mb (GZ st 4 6 p st.pos) fun k st => JG s rec k n (st.at (st.pos + 1))
def HW (s : ByteArray) (rec : RS → Option (RR Unit)) (n : Nat) (st : RS) (p : PR) : Option (RR Unit) :=
 if bA s st.pos = 91 then Dd s rec n st p
 else if bA s st.pos = 123 then Eq s rec n st p
 else if bA s st.pos = 42 then CG s st p
 else if quoB (bA s st.pos) then CO s st p
 else if pfB s st.pos true = true then Dm s st p (-1) true
 else if p.has = true ∧ (bA s st.pos = 44 ∨ bA s st.pos = 93 ∨ bA s st.pos = 125) then E6 st 1 ⟨#[]⟩ p
 else badM st 10 st.pos
def Ic (s : ByteArray) : Nat → RS → Option (RR Unit)
 | 0, _ => none
 | n + 1, st => mb (Ez s st) fun p st => HW s (Ic s n) n st p
def tabG (s : ByteArray) (e : Nat) : Nat → Nat → Option Nat
 | 0, _ => none
 | d + 1, a => if a < e then (if bA s a = 9 then some a else tabG s e d (a + 1)) else none
def JC (s : ByteArray) (st : RS) : Option (RR Unit) :=
 if wtN s (lnN s st.pos) ≠ st.pos then okM () st
 else match tabG s st.pos (s.size + 1) (lnN s st.pos) with
  | none => okM () st
  | some k => badM st 2 k
def E0 (s : ByteArray) (p : Nat) (st : RS) : Option (RR Unit) := if Aw s (gpN s p) then okM () (st.at (gpN s p)) else JC s (st.at (gpN s p))
def colN (s : ByteArray) (p : Nat) : Nat := p - lnN s p
def EV (s : ByteArray) (p : Nat) (c : Int) (loose : Bool) : Prop := c < colN s p ∨ (loose = true ∧ (colN s p : Int) = c ∧ BG s p)
instance (s : ByteArray) (p : Nat) (c : Int) (loose : Bool) : Decidable (EV s p c loose) := by unfold EV; infer_instance
def GY (st : RS) (p : PR) (fin : Nat) : Option (RR Bool) := mb (E6 st 1 ⟨#[]⟩ p) fun _ st => okM true (st.at fin)
def litM (s : ByteArray) (st : RS) (p : PR) (n : Int) : Option (RR Bool) :=
 if (AG s st.pos n).2.2 ≠ 0 then badM st (AG s st.pos n).2.2 (AG s st.pos n).2.1
 else mb (E6 st (if bA s st.pos = 62 then 5 else 4) (AG s st.pos n).1 p) fun _ st' => okM true (st'.at (AG s st.pos n).2.1.toNat)
def H6 (s : ByteArray) (m : Nat) (st : RS) (p : PR) (n : Int) : Option (RR Bool) :=
 if bA s st.pos = 124 ∨ bA s st.pos = 62 then litM s st p n
 else mb (if bA s st.pos = 91 ∨ bA s st.pos = 123 then HW s (Ic s m) m st p
  else if bA s st.pos = 42 then CG s st p
  else if quoB (bA s st.pos) then CO s st p
  else if pfB s st.pos false = true then Dm s st p n false
  else badM st 10 st.pos) fun _ st => okM false st
def F4 (s : ByteArray) (free : Bool) (st : RS) : Option (RR Nat) :=
 if free = false ∧ rsB s st.pos = false then badM st 8 (rsN s st.pos) else mb (E0 s st.pos st) fun _ st' => okM st.pos st'
def GQ (st : RS) (k back : Nat) : Option (RR Bool) := mb (GI st k) fun _ st => okM true (st.at back)
def J7 (s : ByteArray) (st : RS) (p : PR) : Option (RR Nat) :=
 mb (if bA s st.pos = 42 then CG s st p
  else if quoB (bA s st.pos) then CO s st p
  else E6 st 1 (s.extract st.pos ((keyM s st.pos).getD (0, 0)).1) p) fun _ st' => okM ((keyM s st.pos).getD (0, 0)).2 st'
def valM (s : ByteArray) (rec : Int → Bool → Bool → RS → Option (RR Bool)) (sign c : Nat) (list : Bool) (st : RS) : Option (RR Bool) :=
 if rsB s (sign + 1) = false then rec c (!list) false (st.at (wtN s (sign + 1)))
 else mb (E0 s (sign + 1) st) fun _ st =>
  if Aw s st.pos ∨ ¬ EV s st.pos c (!list) then GY st pr0 (rsN s (sign + 1)) else rec c false (!list) st
def G5 (s : ByteArray) (rec : Int → Bool → Bool → RS → Option (RR Bool)) (c k : Nat) : Nat → RS → PR → Option (RR Bool)
 | 0, _, _ => none
 | d + 1, st, own => mb (J7 s st own) fun colon st => mb (valM s rec colon c false st) fun free st => mb (F4 s free st) fun back st =>
   if Aw s st.pos ∨ colN s st.pos < c then GQ st k back
   else if c < colN s st.pos then badM st 9 st.pos
   else mb (CN s false st) fun own st => if (keyM s st.pos).isSome = true then G5 s rec c k d st own else badM st 10 st.pos
def Nk (s : ByteArray) (rec : Int → Bool → Bool → RS → Option (RR Bool)) (m : Nat) (st : RS) (outer own : PR) : Option (RR Bool) :=
 mb (GZ st 4 7 outer (if own.has = true then own.frm else st.pos)) fun k st' => G5 s rec (colN s (if own.has = true then own.frm else st.pos)) k m st' own
def DT (s : ByteArray) (rec : Int → Bool → Bool → RS → Option (RR Bool)) (c k : Nat) : Nat → RS → Option (RR Bool)
 | 0, _ => none
 | d + 1, st => mb (valM s rec st.pos c true st) fun free st => mb (F4 s free st) fun back st =>
   if Aw s st.pos ∨ colN s st.pos < c ∨ (colN s st.pos = c ∧ ¬ BG s st.pos) then GQ st k back
   else if c < colN s st.pos then badM st 9 st.pos
   else DT s rec c k d st
def Hd (s : ByteArray) (rec : Int → Bool → Bool → RS → Option (RR Bool)) (m : Nat) (st : RS) (outer : PR) : Option (RR Bool) :=
 mb (GZ st 3 7 outer st.pos) fun k st' => DT s rec (colN s st.pos) k m st'
def DL (s : ByteArray) (rec : Int → Bool → Bool → RS → Option (RR Bool)) (m : Nat) (n : Int) (inline : Bool) (outer own : PR) (st : RS) : Option (RR Bool) :=
 if inline = false ∧ (keyM s st.pos).isSome = true then Nk s rec m st outer own
 else if inline = false ∧ own.has = false ∧ BG s st.pos then Hd s rec m st outer
 else if outer.has = true ∧ own.has = true then (if rsB s own.fin = true then badM st 10 (wtN s own.fin) else badM st 7 own.frm)
 else H6 s m st (if outer.has = true then outer else own) n
def Cq (s : ByteArray) : Nat → Int → Bool → Bool → RS → Option (RR Bool)
 | 0, _, _, _, _ => none
 | m + 1, n, inline, loose, st => mb (CN s false st) fun own st =>
   if own.has = true ∧ rsB s own.fin = true then
    mb (E0 s own.fin st) fun _ st =>
     if Aw s st.pos ∨ ¬ EV s st.pos n loose then GY st own (rsN s own.fin)
     else mb (CN s false st) fun own2 st => DL s (Cq s m) m n false own own2 st
   else DL s (Cq s m) m n inline pr0 own st
def dirT (s : ByteArray) (p : Nat) : Prop := bA s p = 37 ∧ colN s p = 0
instance (s : ByteArray) (p : Nat) : Decidable (dirT s p) := by unfold dirT; infer_instance
def T3 : ByteArray := ⟨#[37, 89, 65, 77, 76]⟩
def tagT : ByteArray := ⟨#[37, 84, 65, 71]⟩
def dirR (s : ByteArray) (st : RS) (y : Bool) : Option (RR Bool) :=
 mb (match DR s st.pos with
  | [a, b] => if a = T3 ∧ (b = ⟨#[49, 46, 49]⟩ ∨ b = ⟨#[49, 46, 50]⟩) ∧ y = false then okM true st else badM st 13 st.pos
  | [a, b, c] => if a = tagT ∧ hOk (b, c) = true ∧ (st.hands.all fun h => decide (h.1 ≠ b)) = true then (if st.hands.length < 1000000 then okM y ⟨st.pos, st.out, st.names, st.ended, st.hands ++ [(b, c)], st.depth⟩ else none) else badM st 13 st.pos
  | _ => badM st 13 st.pos) fun y st' =>
 if Ah s (gpN s (endN s st.pos)) = 1 ∨ dirT s (gpN s (endN s st.pos)) then okM y (st'.at (gpN s (endN s st.pos))) else badM (st'.at (gpN s (endN s st.pos))) 13 (gpN s (endN s st.pos))
def Hj (s : ByteArray) : Nat → RS → Bool → Option (RR Unit)
 | 0, _, _ => none
 | d + 1, st, y => if dirT s st.pos then mb (dirR s st y) fun y st => Hj s d st y else okM () st
def Ls (s : ByteArray) (m : Nat) (mark : Bool) (st : RS) : Option (RR Bool) :=
 if mark = false then mb (JC s st) fun _ st => Cq s m (-1) false false st
 else if rsB s (st.pos + 3) = false then Cq s m (-1) true false (st.at (wtN s (st.pos + 3)))
 else mb (E0 s (st.pos + 3) st) fun _ st' => if Aw s st'.pos then GY st' pr0 (rsN s (st.pos + 3)) else Cq s m (-1) false false st'
def H4 (s : ByteArray) (st : RS) : Option (RR Unit) := if rsB s (st.pos + 3) = false then badM st 8 (rsN s (st.pos + 3)) else okM () (st.at (rsN s (st.pos + 3)))
def docM (s : ByteArray) (m : Nat) (st : RS) : Option (RR Unit) :=
 mb (Hj s m ⟨st.pos, st.out, [], st.ended, [], st.depth⟩ false) fun _ st =>
 mb (Ds st (evN 2 0 (decide (Ah s st.pos = 1)) ⟨#[]⟩ ⟨#[]⟩ ⟨#[]⟩)) fun _ st =>
 mb (Ls s m (decide (Ah s st.pos = 1)) st) fun free st => mb (F4 s free st) fun _ st =>
 if ¬ Aw s st.pos then badM st 9 st.pos
 else mb (if Ah s st.pos = 2 then H4 s st else okM () st) fun _ st' => mb (Ds st' (evN 8 0 (decide (Ah s st.pos = 2)) ⟨#[]⟩ ⟨#[]⟩ ⟨#[]⟩)) fun _ st => okM () st
def AU (s : ByteArray) (m : Nat) : Nat → RS → Option (RR Unit)
 | 0, _ => none
 | d + 1, st =>
   if s.size ≤ gpN s st.pos then mb (Ds (st.at (gpN s st.pos)) (evN 9 0 false ⟨#[]⟩ ⟨#[]⟩ ⟨#[]⟩)) fun _ st => okM () st
   else if Ah s (gpN s st.pos) = 2 then mb (H4 s (st.at (gpN s st.pos))) fun _ st => AU s m d st
   else mb (docM s m (st.at (gpN s st.pos))) fun _ st => AU s m d st
def rsA : RS := ⟨0, [evN 1 0 false ⟨#[]⟩ ⟨#[]⟩ ⟨#[]⟩], [], [true], [], 0⟩
def evF (c p : Int) : Ev := ⟨10, 0, false, ⟨#[]⟩, ⟨#[]⟩, ⟨#[]⟩, p, c⟩
def MJ (s : ByteArray) : Option (List Ev) :=
 match AU s (2 * s.size + 10) (2 * s.size + 10) rsA with
 | none => none
 | some (.bad o c p) => some (o ++ [evF c p])
 | some (.ok _ st) => some st.out
end Go.Proofs.YthlbglmfdjdagaaGreatDoor.Lg
