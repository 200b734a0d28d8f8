/- The logical machine and its contracts, part 12. No condition. -/
import Derived.Test.YthlbglmfdjdagaaGreatDoorN11
import Derived.Test.YthlbglmfdjdagaaGreatDoorRows
namespace Go.Proofs.YthlbglmfdjdagaaGreatDoor.Lg
set_option linter.unusedSimpArgs false
set_option linter.unusedVariables false
set_option maxRecDepth 100000
set_option maxHeartbeats 40000000
open Go.Proofs.YthlbglmfdjdagaaGreatDoor
theorem HK {s : ByteArray} {m d : Nat} {st : RS} : AU s m (d + 1) st =
 if s.size ≤ gpN s st.pos then mb (Ds (st.at (gpN s st.pos)) (evN 9 0 false ⟨#[]⟩ ⟨#[]⟩ ⟨#[]⟩)) fun _ st => okM () st
 else if Ah s (gpN s st.pos) = 2 then mb (H4 s (st.at (gpN s st.pos))) fun _ st => AU s m d st
 else mb (docM s m (st.at (gpN s st.pos))) fun _ st => AU s m d st := rfl
theorem Oa {mm n : Nat} {G H : LH} {b : Nat} {s : ByteArray} {c : RC} {fr : Bool} {la : Int} {st : RS} (h : RAt G H b s c 0 0 fr la st) (hmb : mm ≤ 999999) (hs : s.size ≤ 1048576) (fl : Nat) (hf : fl ≤ G.length) {r : RR Unit} (hm : AU s mm n st = some r) :
 Ret (Rr G H b s c r) (run 35 [.ptr b 0] fl H) := by
 generalize hQ : Rr G H b s c r = Q
 have hs2 : s.size ≤ 16777216 := by omega
 unfold run at *
 rw [z35]
 simp +contextual -implicitDefEqProofs (maxSteps := 10000000) (disch := first | (and_intros <;> omega -splitDisjunctions) | (push_cast; and_intros <;> omega -splitDisjunctions) | fail) only [go_sem, seval]
 refine B9 fun c2 R2 hc2 hR2 => ?_
 have key2 : ∀ (m : Nat) (d : Nat) (B : LH) (c1 : RC) (st1 : RS) (fr1 : Bool) (la1 : Int) (x2 x15 x29 x42 x43 : Option V), d < m → RAt G B b s c1 0 0 fr1 la1 st1 → RFr b H c B c1 → AU s mm d st1 = some r →
  Ret Q (zEv (Ac (mkR Tryz.prog cfg ok [0, 2, 15, 29, 42, 43] fl) .any H [ResultVar.tmp 2]) (mkR Tryz.prog cfg ok [0, 2, 15, 29, 42, 43] fl) (K.code (Code.loop c2) :: K.blk 0 :: R2) .nrm [some (.ptr b 0), x2, x15, x29, x42, x43] (B)) := by
  intro m
  induction m with
  | zero => intro d B c1 st1 fr1 la1 x2 x15 x29 x42 x43 hm; omega
  | succ m ih2 =>
    intro d B c1 st1 fr1 la1 x2 x15 x29 x42 x43 hm hB hFB hgo
    cases d with
    | zero => cases hgo
    | succ d =>
    rw [HK] at hgo
    have hle := hB.le
    have hcB := hB.hp.cell
    have hbB := A5 hcB
    have hG := hB.hp.hG
    obtain ⟨o1, o2, o3, o4, o5, o6⟩ := hB.hp.o1
    have e1 := fun fl H => DD s st1.pos fl H hle (by omega)
    have g2 := BL hle
    have e2 := fun fl H => AK s (gpN s st1.pos) fl H g2 (by omega)
    have hC := hB.upd (cd' := 0) (pl' := 0) (fr' := fr1) (la' := la1) g2 hB.dep
    have hFC := hFB.trans (RFr.set (x := .cells (rdC s c1 (gpN s st1.pos) st1.depth 0 0 fr1 la1)))
    have hat : (⟨gpN s st1.pos, st1.out, st1.names, st1.ended, st1.hands, st1.depth⟩ : RS) = st1.at (gpN s st1.pos) := rfl
    have hcC := hC.hp.cell
    rw [hat] at hC
    dsimp only at hcC
    unfold run at e1 e2
    by_cases h1 : s.size ≤ gpN s st1.pos
    ·rw [if_pos h1] at hgo
     have t1 : ((s.size : Int) ≤ (gpN s st1.pos : Nat)) = True := eq_true (by omega)
     rcases A8 hgo with ⟨o, cc, q, m5, m6⟩ | ⟨k5, st6, m5, hgo6⟩
     ·have := (AD m5).2; cases this
     obtain ⟨⟨t4, t5⟩, t6⟩ := AD m5
     cases t6
     cases hgo6
     obtain ⟨w, X, e8, rfl, c6, hX, hFX⟩ := BC hC (evN 9 0 false ⟨#[]⟩ ⟨#[]⟩ ⟨#[]⟩) t4 t5 fl hf
     have hFX2 := hFC.trans hFX
     unfold evN evC at e8
     unfold rdC at hcB hcC e8
     dsimp only at e8
     unfold run at e8
     rw [A4 hc2, ← hR2]
     simp +contextual -implicitDefEqProofs (maxSteps := 10000000) (disch := first | (and_intros <;> omega -splitDisjunctions) | (push_cast; and_intros <;> omega -splitDisjunctions) | fail) only [hcB, hcC, e1, e2, e8, t1, o1, o2, o3, o4, o5, o6, A1, A0, A2, A3, go_sem, seval]
     subst hQ
     exact ⟨rfl, fr1, la1, c6, hX, hFX2⟩
    rw [if_neg h1] at hgo
    have t1 : ((s.size : Int) ≤ (gpN s st1.pos : Nat)) = False := eq_false (by omega)
    by_cases h2 : Ah s (gpN s st1.pos) = 2
    ·rw [if_pos h2] at hgo
     have h33 : (st1.at (gpN s st1.pos)).pos + 3 ≤ s.size := F3 (s := s) (p := gpN s st1.pos) (by omega)
     rcases A8 hgo with ⟨o, cd, pl, m4, rfl⟩ | ⟨_, st5, m4, hgo5⟩
     ·obtain ⟨w, F, e7, rfl, hbad⟩ := EI hC h33 hs2 fl hf m4
      have hbad2 := hbad.trans hFC
      clear hbad
      unfold rdC at hcB hcC e7
      unfold run at e7
      rw [A4 hc2, ← hR2]
      simp +contextual -implicitDefEqProofs (maxSteps := 10000000) (disch := first | (and_intros <;> omega -splitDisjunctions) | (push_cast; and_intros <;> omega -splitDisjunctions) | fail) only [hcB, hcC, e1, e2, e7, t1, h2, o1, o2, o3, o4, o5, o6, A1, A0, A2, A3, go_sem, seval]
      subst hQ
      exact ⟨rfl, hbad2⟩
     obtain ⟨w, F, e7, rfl, c5, hF5, hFF⟩ := EI hC h33 hs2 fl hf m4
     have hFF2 := hFC.trans hFF
     unfold rdC at hcB hcC e7
     unfold run at e7
     rw [A4 hc2]
     simp +contextual -implicitDefEqProofs (maxSteps := 10000000) (disch := first | (and_intros <;> omega -splitDisjunctions) | (push_cast; and_intros <;> omega -splitDisjunctions) | fail) only [hcB, hcC, e1, e2, e7, t1, h2, o1, o2, o3, o4, o5, o6, A1, A0, A2, A3, go_sem, seval]
     exact ih2 d F c5 st5 fr1 la1 _ _ _ _ _ (by omega) hF5 hFF2 hgo5
    rw [if_neg h2] at hgo
    obtain ⟨r1, hr1⟩ : ∃ r1, docM s mm (st1.at (gpN s st1.pos)) = some r1 := by
     cases hh : docM s mm (st1.at (gpN s st1.pos)) with
     | none => rw [hh] at hgo; cases hgo
     | some r1 => exact ⟨r1, rfl⟩
    obtain ⟨w, F, e7, hP⟩ := K4 hC hmb hs fl hf hr1
    rw [hr1] at hgo
    cases r1 with
    | bad o cd pl =>
      obtain ⟨rfl, hbad⟩ := hP
      cases hgo
      have hbad2 := hbad.trans hFC
      clear hbad
      unfold rdC at hcB hcC e7
      unfold run at e7
      rw [A4 hc2, ← hR2]
      simp +contextual -implicitDefEqProofs (maxSteps := 10000000) (disch := first | (and_intros <;> omega -splitDisjunctions) | (push_cast; and_intros <;> omega -splitDisjunctions) | fail) only [hcB, hcC, e1, e2, e7, t1, h2, o1, o2, o3, o4, o5, o6, A1, A0, A2, A3, go_sem, seval]
      subst hQ
      exact ⟨rfl, hbad2⟩
    | ok u st5 =>
      obtain ⟨rfl, fr5, la5, c5, hF5, hFF⟩ := hP
      have hFF2 := hFC.trans hFF
      unfold rdC at hcB hcC e7
      unfold run at e7
      rw [A4 hc2]
      simp +contextual -implicitDefEqProofs (maxSteps := 10000000) (disch := first | (and_intros <;> omega -splitDisjunctions) | (push_cast; and_intros <;> omega -splitDisjunctions) | fail) only [hcB, hcC, e1, e2, e7, t1, h2, o1, o2, o3, o4, o5, o6, A1, A0, A2, A3, go_sem, seval]
      exact ih2 d F c5 st5 fr5 la5 _ _ _ _ _ (by omega) hF5 hFF2 hgo
 exact key2 (n + 1) n H c st fr la _ _ _ _ _ (by omega) h RFr.refl hm
theorem IM (s : ByteArray) (fl : Nat) (H : LH) (hs : s.size ≤ 16777216) : run 33 [.str s, .int .i64 0] fl H = some (.ptr (H.length + 1) 0, H ++ [.map [], .cells (rdC s ⟨.nilsl, .nilsl, H.length, .nilsl⟩ 0 0 0 0 false 0)]) := by
 have e1 := fun fl H => AA s ((0 : Nat) : Int) fl H (by omega)
 rw [Ay (Nat.zero_le _)] at e1
 have e1 : ∀ fl H, run 15 [.str s, .int .i64 0] fl H = some (.int .i64 0, H) := e1
 unfold run at *
 rw [z33]
 simp +contextual -implicitDefEqProofs (maxSteps := 10000000) (disch := first | (and_intros <;> omega -splitDisjunctions) | (push_cast; and_intros <;> omega -splitDisjunctions) | fail) only [e1, go_sem, seval]
 rfl
def Fi (s : ByteArray) : Option (List Ev) :=
 if 60000 < s.size then some [evN 1 0 false ⟨#[]⟩ ⟨#[]⟩ ⟨#[]⟩, evF 1 60000]
 else if clnM s ≠ s.size then some [evN 1 0 false ⟨#[]⟩ ⟨#[]⟩ ⟨#[]⟩, evF 1 (clnM s : Nat)]
 else MJ s
theorem QL (s : ByteArray) (fl : Nat) (H : LH) (hs : s.size ≤ 16777216) {l : List Ev} (hm : Fi s = some l) (hbd : ∀ o c p, AU s (2 * s.size + 10) (2 * s.size + 10) rsA = some (.bad o c p) → o.length < 1000000) :
 Ret (fun w B => Hx H B ∧ Own H.length B evC 8 w l ∧ ∀ e ∈ l, fitE e) (run 26 [.str s] fl H) := by
 have e1 := fun fl H => E3 s fl H (by omega)
 have e2 := fun fl H => IM s fl H hs
 generalize hQ : (fun (w : V) (B : LH) => Hx H B ∧ Own H.length B evC 8 w l ∧ ∀ e ∈ l, fitE e) = Q
 have two : ∀ n : Int, l = [evN 1 0 false ⟨#[]⟩ ⟨#[]⟩ ⟨#[]⟩, evF 1 n] → Q (.sl H.length 0 8 2 2) (H ++ [.cells [.int .i64 1, .int .i64 0, .bool false, .str ⟨#[]⟩, .str ⟨#[]⟩, .str ⟨#[]⟩, .int .i64 0, .int .i64 0, .int .i64 10, .int .i64 0, .bool false, .str ⟨#[]⟩, .str ⟨#[]⟩, .str ⟨#[]⟩, .int .i64 n, .int .i64 1]]) := by
  rintro n rfl
  rw [← hQ]
  refine ⟨Hx.app, .inr ⟨H.length, rfl, by rw [A7]; rfl, Nat.le_refl _⟩, fun e he => ?_⟩
  simp only [List.mem_cons, List.not_mem_nil, or_false] at he
  rcases he with rfl | rfl <;> exact ⟨Nat.zero_le _, Nat.zero_le _, Nat.zero_le _⟩
 unfold Fi at hm
 by_cases h1 : 60000 < s.size
 ·rw [if_pos h1] at hm
  have t1 : (60000 < (s.size : Int)) = True := eq_true (by omega)
  have hP := two 60000 (by cases hm; rfl)
  unfold run at *
  rw [z26]
  simp +contextual -implicitDefEqProofs (maxSteps := 10000000) (disch := first | (and_intros <;> omega -splitDisjunctions) | (push_cast; and_intros <;> omega -splitDisjunctions) | fail) only [t1, go_sem, seval]
  exact hP
 rw [if_neg h1] at hm
 have t1 : (60000 < (s.size : Int)) = False := eq_false (by omega)
 by_cases h2 : clnM s ≠ s.size
 ·rw [if_pos h2] at hm
  have t2 : ((clnM s : Int) = s.size) = False := eq_false (by omega)
  have hP := two (clnM s : Nat) (by cases hm; rfl)
  unfold run at *
  rw [z26]
  simp +contextual -implicitDefEqProofs (maxSteps := 10000000) (disch := first | (and_intros <;> omega -splitDisjunctions) | (push_cast; and_intros <;> omega -splitDisjunctions) | fail) only [e1, t1, t2, ne_eq, go_sem, seval]
  exact hP
 rw [if_neg h2] at hm
 have t2 : ((clnM s : Int) = s.size) = True := eq_true (by omega)
 clear two
 have h0 : RAt H (H ++ [Blk.map [], Blk.cells (rdC s ⟨.nilsl, .nilsl, H.length, .nilsl⟩ 0 0 0 0 false 0)]) (H.length + 1) s ⟨.nilsl, .nilsl, H.length, .nilsl⟩ 0 0 false 0 ⟨0, [], [], [], [], 0⟩ := by
  refine ⟨⟨Hx.app, by omega, by rw [Bd]; rfl, .inl ⟨rfl, .inl rfl⟩, .inl ⟨rfl, .inl rfl⟩, .inl ⟨rfl, .inl rfl⟩, ⟨[], ?_, fun t => rfl⟩, Nat.le_refl _, by simp [sbk], by simp [sbk], by simp [sbk], by simp [sbk], by simp [sbk], by simp [sbk], by simp [sbk], by simp [sbk], by simp [sbk]⟩, Nat.zero_le _, rfl, Nat.zero_le _, Nat.zero_le _, Nat.zero_le _, by simp, by simp, by simp⟩
  have := F2 H [Blk.map [], Blk.cells (rdC s ⟨.nilsl, .nilsl, H.length, .nilsl⟩ 0 0 0 0 false 0)]
  rw [this]; rfl
 obtain ⟨w, B, e3, rfl, c1, hB, hFB⟩ := BC h0 (evN 1 0 false ⟨#[]⟩ ⟨#[]⟩ ⟨#[]⟩) (by show 0 < _; decide) ⟨by decide, by decide, by decide⟩ H.length (Nat.le_refl _)
 have hrs : (⟨0, [], [], [], [], 0⟩ : RS).tell (evN 1 0 false ⟨#[]⟩ ⟨#[]⟩ ⟨#[]⟩) = rsA := rfl
 rw [hrs] at hB
 unfold MJ at hm
 obtain ⟨r, hr⟩ : ∃ r, AU s (2 * s.size + 10) (2 * s.size + 10) rsA = some r := by
  cases hh : AU s (2 * s.size + 10) (2 * s.size + 10) rsA with
  | none => rw [hh] at hm; cases hm
  | some r => exact ⟨r, rfl⟩
 rw [hr] at hm
 obtain ⟨w, C, e4, hP⟩ := Oa hB (by omega) (by omega) H.length (Nat.le_refl _) hr
 unfold evN evC at e3
 unfold run at *
 rw [z26]
 cases r with
 | ok u st =>
   obtain ⟨rfl, fr, la, c2, hC, hFC⟩ := hP
   cases hm
   have hcC := hC.hp.cell
   obtain ⟨p1, p2, p3, p4, p5, p6⟩ := hC.hp.o1
   unfold rdC at hcC
   simp +contextual -implicitDefEqProofs (maxSteps := 10000000) (disch := first | (and_intros <;> omega -splitDisjunctions) | (push_cast; and_intros <;> omega -splitDisjunctions) | fail) only [e1, e2, e3, e4, t1, t2, ne_eq, hcC, p1, p2, p3, p4, p5, p6, A1, A0, A2, A3, go_sem, seval]
   subst hQ
   exact ⟨hC.hp.hx, hC.hp.oo, hC.fit⟩
 | bad o cd pl =>
   obtain ⟨rfl, c2, fr, la, st, hC, ho, hcd, hFC⟩ := hP
   have hol := hbd o cd pl hr
   cases hm
   obtain ⟨w, D, e5, rfl, c3, hD, hFD⟩ := BC hC (evF cd pl) (by rw [ho]; exact hol) ⟨by show 0 ≤ _; decide, by show 0 ≤ _; decide, by show 0 ≤ _; decide⟩ H.length (Nat.le_refl _)
   have hcC := hC.hp.cell
   obtain ⟨p1, p2, p3, p4, p5, p6⟩ := hC.hp.o1
   have hcD := hD.hp.cell
   obtain ⟨q1, q2, q3, q4, q5, q6⟩ := hD.hp.o1
   have hout : (st.tell (evF cd pl)).out = o ++ [evF cd pl] := by show st.out ++ [evF cd pl] = _; rw [ho]
   have hDo := hD.hp.oo
   have hDf := hD.fit
   rw [hout] at hDo hDf
   have hDx := hD.hp.hx
   unfold evF evC at e5
   unfold rdC at hcC hcD
   unfold run at e5
   simp +contextual -implicitDefEqProofs (maxSteps := 10000000) (disch := first | (and_intros <;> omega -splitDisjunctions) | (push_cast; and_intros <;> omega -splitDisjunctions) | fail) only [e1, e2, e3, e4, e5, t1, t2, ne_eq, hcC, hcD, p1, p2, p3, p4, p5, p6, q1, q2, q3, q4, q5, q6, A1, A0, A2, A3, go_sem, seval]
   subst hQ
   exact ⟨hDx, hDo, hDf⟩
theorem Qf {s : ByteArray} {st : RS} (h : st.out.length ≤ 950000) (hh : HS st) : Tt (JC s st) (fun _ st' => st' = st) := by
 unfold JC
 refine Tt.ite (fun _ => Tt.ok rfl hh) (fun _ => ?_)
 cases h1 : tabG s st.pos (s.size + 1) (lnN s st.pos) with
 | none => exact Tt.ok rfl hh
 | some k => exact Tt.bad h
theorem Iq {s : ByteArray} {p : Nat} {st : RS} (h : st.out.length ≤ 950000) (hh : HS st) : Tt (E0 s p st) (fun _ st' => st' = st.at (gpN s p)) := by
 unfold E0
 exact Tt.ite (fun _ => Tt.ok rfl hh) (fun _ => Qf (st := st.at (gpN s p)) h hh)
theorem Li {st : RS} {p : PR} {fin : Nat} (h : st.out.length ≤ 950000) (hp : PF p) (hh : HS st) : Tt (GY st p fin) (fun _ st' => st'.out.length = st.out.length + 1 ∧ st'.pos = fin) := by
 unfold GY
 exact (D2 h (by decide) hp hh).mb fun _ st1 _ q hs => Tt.ok ⟨q.1, rfl⟩ hs
theorem W9 {s : ByteArray} {st : RS} {p : PR} {n : Int} (hsz : s.size ≤ 60000) (hp : st.pos ≤ s.size) (h : st.out.length ≤ 950000) (hf : PF p) (hh : HS st) : Tt (litM s st p n) (fun _ st' => st'.out.length = st.out.length + 1 ∧ st.pos < st'.pos ∧ st'.pos ≤ s.size) := by
 unfold litM
 refine Tt.ite (fun _ => Tt.bad h) (fun h2 => ?_)
 have hr := Df hp (by simpa using h2)
 have := Lc (n := n) hp
 refine (D2 h (by omega) hf hh).mb fun _ st1 _ q hs => Tt.ok ⟨q.1, ?_, ?_⟩ hs
 ·show st.pos < (AG s st.pos n).2.1.toNat; omega
 ·show (AG s st.pos n).2.1.toNat ≤ _; omega
theorem Vf {s : ByteArray} {k : Nat} {st : RS} {p : PR} {n : Int} (hsz : s.size ≤ 60000) (hp : st.pos ≤ s.size) (hn : s.size - st.pos ≤ k) (hb : Bg s st ≤ 900000) (hf : PF p) (hh : HS st) :
 Tt (H6 s k st p n) (fun _ st' => (p.has = false → Bg s st' + 5 ≤ Bg s st) ∧ Bg s st' ≤ Bg s st + 1) := by
 have hb0 := hb
 unfold Bg at hb
 unfold H6
 have one : ∀ (st' : RS), st'.out.length = st.out.length + 1 → st.pos < st'.pos → st'.pos ≤ s.size → (p.has = false → Bg s st' + 5 ≤ Bg s st) ∧ Bg s st' ≤ Bg s st + 1 := by
  intro st' h1 h2 h3
  have : Bg s st' + 5 ≤ Bg s st := by unfold Bg; omega
  exact ⟨fun _ => this, by omega⟩
 refine Tt.ite (fun _ => (W9 hsz hp (by omega) hf hh).mono fun _ st' _ q => one st' q.1 q.2.1 q.2.2) (fun _ => ?_)
 have : ∀ x : Option (RR Unit), Tt x (fun _ st' => (p.has = false → Bg s st' + 5 ≤ Bg s st) ∧ Bg s st' ≤ Bg s st + 1) → Tt (mb x fun _ st => okM false st) (fun _ st' => (p.has = false → Bg s st' + 5 ≤ Bg s st) ∧ Bg s st' ≤ Bg s st + 1) :=
  fun x hx => hx.mb fun _ st1 _ q hs => Tt.ok q hs
 refine this _ ?_
 refine Tt.ite (fun _ => ?_) (fun _ => Tt.ite (fun _ => ?_) (fun _ => Tt.ite (fun _ => ?_) (fun _ => Tt.ite (fun k => ?_) (fun _ => Tt.bad (by omega)))))
 ·exact (OU hsz (Px hsz k) hp hn hh hf hb0).mono fun _ st' _ q => ⟨fun hp0 => (q.1 (.inl hp0)).1, q.2.1⟩
 ·exact (FA hp (by omega) hh).mono fun _ st' e q => one st' q (BU e hp).2 (BU e hp).1.le
 ·exact (FL hsz hp (by omega) hh hf).mono fun _ st' e q => one st' q (BZ e hp).2 (BZ e hp).1.le
 ·exact (It hsz hp (by omega) hh hf).mono fun _ st' e q => one st' q (Cu e k hp).2 (Cu e k hp).1.le
theorem Lh {s : ByteArray} {free : Bool} {st : RS} (h : st.out.length ≤ 950000) (hh : HS st) : Tt (F4 s free st) (fun back st' => st' = st.at (gpN s st.pos) ∧ back = st.pos) := by
 unfold F4
 exact Tt.ite (fun _ => Tt.bad h) (fun _ => (Iq h hh).mb fun _ st1 _ q hs => Tt.ok ⟨q, rfl⟩ hs)
theorem Ph {st : RS} {k back : Nat} (h : st.out.length ≤ 950000) (hh : HS st) : Tt (GQ st k back) (fun _ st' => st'.out.length = st.out.length + 1 ∧ st'.pos = back) := by
 unfold GQ
 exact (LD h hh).mb fun _ st1 _ q hs => Tt.ok ⟨q.1, rfl⟩ hs
theorem U6 {s : ByteArray} {st : RS} {p : PR} {e k : Nat} (hsz : s.size ≤ 60000) (hp : st.pos ≤ s.size) (h : st.out.length ≤ 950000) (hf : PF p) (hh : HS st) (hk : keyM s st.pos = some (e, k)) : Tt (J7 s st p) (fun colon st' => colon = k ∧ st'.out.length = st.out.length + 1) := by
 unfold J7
 rw [hk]
 dsimp only [Option.getD_some]
 have : ∀ x : Option (RR Unit), Tt x (fun _ st' => st'.out.length = st.out.length + 1) → Tt (mb x fun _ st => okM k st) (fun colon st' => colon = k ∧ st'.out.length = st.out.length + 1) :=
  fun x hx => hx.mb fun _ st1 _ q hs => Tt.ok ⟨rfl, q⟩ hs
 refine this _ ?_
 refine Tt.ite (fun _ => FA hp h hh) (fun _ => Tt.ite (fun _ => FL hsz hp h hh hf) (fun _ => ?_))
 have hx : (s.extract st.pos e).size = min e s.size - st.pos := ByteArray.size_extract
 exact (D2 h (by omega) hf hh).mono fun _ st' _ q => q.1
def BT (s : ByteArray) (rec : Int → Bool → Bool → RS → Option (RR Bool)) (n : Nat) : Prop :=
 ∀ i a l st, st.pos ≤ s.size → HS st → Bg s st ≤ 900000 → s.size - st.pos < n → Tt (rec i a l st) (fun _ st' => Bg s st' + 5 ≤ Bg s st)
theorem TH {s : ByteArray} {rec : Int → Bool → Bool → RS → Option (RR Bool)} {n : Nat} (hrec : BT s rec n) {sign c : Nat} {list : Bool} {st : RS} (h1 : st.pos ≤ sign + 1) (h2 : sign + 1 ≤ s.size) (hn : s.size - (sign + 1) < n) (hb : st.out.length + 8 * (s.size - (sign + 1)) ≤ 900000) (hh : HS st) :
 Tt (valM s rec sign c list st) (fun _ st' => Bg s st' ≤ st.out.length + 8 * (s.size - (sign + 1)) + 1) := by
 unfold valM
 refine Tt.ite (fun _ => ?_) (fun _ => ?_)
 ·have w1 := B8 s (sign + 1); have w2 := Bm h2
  have e1 : Bg s (st.at (wtN s (sign + 1))) = st.out.length + 8 * (s.size - wtN s (sign + 1)) := rfl
  have e2 : (st.at (wtN s (sign + 1))).pos = wtN s (sign + 1) := rfl
  exact (hrec _ _ _ (st.at (wtN s (sign + 1))) (by rw [e2]; exact w2) hh (by rw [e1]; omega) (by rw [e2]; omega)).mono fun _ st' _ q => by rw [e1] at q; omega
 ·refine (Iq (by omega) hh).mb fun _ st1 _ q hs => ?_
  subst q
  have w1 := CH s (sign + 1); have w2 := BL h2
  have e1 : Bg s (st.at (gpN s (sign + 1))) = st.out.length + 8 * (s.size - gpN s (sign + 1)) := rfl
  have e2 : (st.at (gpN s (sign + 1))).pos = gpN s (sign + 1) := rfl
  refine Tt.ite (fun _ => ?_) (fun _ => ?_)
  ·have rr := Ch h2
   refine (Li (by show st.out.length ≤ _; omega) PF0 hs).mono fun _ st' _ q => ?_
   have e3 : (st.at (gpN s (sign + 1))).out = st.out := rfl
   rw [e3] at q
   unfold Bg
   omega
  ·exact (hrec _ _ _ (st.at (gpN s (sign + 1))) (by rw [e2]; exact w2) hs (by rw [e1]; omega) (by rw [e2]; omega)).mono fun _ st' _ q => by rw [e1] at q; omega
theorem OS {s : ByteArray} {rec : Int → Bool → Bool → RS → Option (RR Bool)} {n : Nat} (hsz : s.size ≤ 60000) (hkp : KpB s rec) (hrec : BT s rec n) (c k : Nat) : ∀ (d : Nat) (st : RS) (own : PR), s.size - st.pos ≤ d → s.size - st.pos ≤ n → st.pos ≤ s.size → (keyM s st.pos).isSome = true → HS st → PF own → Bg s st ≤ 900001 →
 Tt (G5 s rec c k d st own) (fun _ st' => Bg s st' + 13 ≤ Bg s st) := by
 intro d
 induction d with
 | zero =>
   intro st own hd hn hp hky hh hf hb
   obtain ⟨⟨e, kk⟩, hk⟩ := Option.isSome_iff_exists.1 hky
   have hr := Dx hp hk
   omega
 | succ d ih =>
   intro st own hd hn hp hky hh hf hb
   have hb0 := hb
   unfold Bg at hb
   obtain ⟨⟨e, kk⟩, hk⟩ := Option.isSome_iff_exists.1 hky
   have hr := Dx hp hk
   rw [HV]
   refine (U6 hsz hp (by omega) hf hh hk).mb fun colon st1 he1 q1 h1 => ?_
   obtain ⟨k1, k2, k3⟩ := KB he1 hk hp
   subst k2
   refine (TH hrec (by omega) (by omega) (by omega) (by omega) h1).mb fun free st2 he2 q2 h2 => ?_
   obtain ⟨j1, j2⟩ := HN hkp he2 (by omega) (by omega)
   have j3 := j1.le
   have hb2 : Bg s st2 + 14 ≤ Bg s st := by
    have e1 : Bg s st = st.out.length + 8 * (s.size - st.pos) := rfl
    omega
   have hb2e : Bg s st2 = st2.out.length + 8 * (s.size - st2.pos) := rfl
   refine (Lh (by omega) h2).mb fun back st3 he3 q3 h3 => ?_
   obtain ⟨l1, l2⟩ := F5 he3 j3
   have lp := l1.pos; have ll := l1.le
   have ho3 : st3.out = st2.out := by rw [q3.1]; rfl
   refine Tt.ite (fun _ => ?_) (fun _ => Tt.ite (fun _ => Tt.bad (by rw [ho3]; omega)) (fun _ => ?_))
   ·refine (Ph (by rw [ho3]; omega) h3).mono fun _ st4 _ q4 => ?_
    have e1 : Bg s st4 = st4.out.length + 8 * (s.size - st4.pos) := rfl
    rw [ho3] at q4
    omega
   ·have hb3 : Bg s st3 ≤ Bg s st2 := by unfold Bg; rw [ho3]; omega
    have hb3e : Bg s st3 = st3.out.length + 8 * (s.size - st3.pos) := rfl
    refine (FI ll (by omega) h3).mb fun own2 st4 he4 q4 h4 => ?_
    obtain ⟨p1, p2, p3, p4⟩ := Ba he4 ll
    have p5 := p1.pos; have p6 := p1.le
    have hb4 : Bg s st4 ≤ Bg s st3 := by unfold Bg; rw [q4.2]; omega
    refine Tt.ite (fun a3 => ?_) (fun _ => Tt.bad (by rw [q4.2, ho3]; omega))
    exact (ih st4 own2 (by omega) (by omega) p6 a3 h4 q4.1 (by omega)).mono fun _ st5 _ q5 => by omega
theorem Nj {s : ByteArray} {rec : Int → Bool → Bool → RS → Option (RR Bool)} {n : Nat} (hsz : s.size ≤ 60000) (hkp : KpB s rec) (hrec : BT s rec n) (c k : Nat) : ∀ (d : Nat) (st : RS), s.size - st.pos ≤ d → s.size - st.pos ≤ n → st.pos < s.size → HS st → Bg s st ≤ 900001 →
 Tt (DT s rec c k d st) (fun _ st' => Bg s st' + 6 ≤ Bg s st) := by
 intro d
 induction d with
 | zero => intro st hd hn hp hh hb; omega
 | succ d ih =>
   intro st hd hn hp hh hb
   have hb0 := hb
   unfold Bg at hb
   rw [G4]
   refine (TH hrec (by omega) (by omega) (by omega) (by omega) hh).mb fun free st2 he2 q2 h2 => ?_
   obtain ⟨j1, j2⟩ := HN hkp he2 (by omega) (by omega)
   have j3 := j1.le
   have hb2 : Bg s st2 + 7 ≤ Bg s st := by
    have e1 : Bg s st = st.out.length + 8 * (s.size - st.pos) := rfl
    omega
   have hb2e : Bg s st2 = st2.out.length + 8 * (s.size - st2.pos) := rfl
   refine (Lh (by omega) h2).mb fun back st3 he3 q3 h3 => ?_
   obtain ⟨l1, l2⟩ := F5 he3 j3
   have lp := l1.pos; have ll := l1.le
   have ho3 : st3.out = st2.out := by rw [q3.1]; rfl
   refine Tt.ite (fun _ => ?_) (fun a1 => Tt.ite (fun _ => Tt.bad (by rw [ho3]; omega)) (fun a2 => ?_))
   ·refine (Ph (by rw [ho3]; omega) h3).mono fun _ st4 _ q4 => ?_
    have e1 : Bg s st4 = st4.out.length + 8 * (s.size - st4.pos) := rfl
    rw [ho3] at q4
    omega
   ·have hb3 : Bg s st3 ≤ Bg s st2 := by unfold Bg; rw [ho3]; omega
    have hd2 : BG s st3.pos := Classical.byContradiction fun kd => a1 (.inr (by
     by_cases e : colN s st3.pos < c
     ·exact .inl e
     ·exact .inr ⟨by omega, kd⟩))
    exact (ih st3 (by omega) (by omega) (EU hd2) h3 (by omega)).mono fun _ st5 _ q5 => by omega
theorem M5 {s : ByteArray} {rec : Int → Bool → Bool → RS → Option (RR Bool)} {k : Nat} (hsz : s.size ≤ 60000) (hkp : KpB s rec) (hrec : BT s rec k) {n : Int} {i : Bool} {outer own : PR} {st : RS} (hp : st.pos ≤ s.size) (hn : s.size - st.pos ≤ k) (hb : Bg s st ≤ 900000) (hf1 : PF outer) (hf2 : PF own) (hh : HS st) :
 Tt (DL s rec k n i outer own st) (fun _ st' => (outer.has = false → own.has = false → Bg s st' + 5 ≤ Bg s st) ∧ Bg s st' ≤ Bg s st + 1) := by
 have hb0 := hb
 have hbe : Bg s st = st.out.length + 8 * (s.size - st.pos) := rfl
 unfold Bg at hb
 unfold DL
 refine Tt.ite (fun h1 => ?_) (fun _ => Tt.ite (fun h2 => ?_) (fun _ => Tt.ite (fun h3 => ?_) (fun h3 => ?_)))
 ·unfold Nk
  refine (Ip (by omega) hh hf1).mb fun kk st1 _ q1 hs => ?_
  have e1 : Bg s st1 = st1.out.length + 8 * (s.size - st1.pos) := rfl
  exact (OS hsz hkp hrec _ _ _ st1 own (by omega) (by omega) (by omega) (by rw [q1.2]; exact h1.2) hs hf2 (by omega)).mono fun _ st2 _ q2 => ⟨fun _ _ => by omega, by omega⟩
 ·unfold Hd
  have := EU h2.2.2
  refine (Ip (by omega) hh hf1).mb fun kk st1 _ q1 hs => ?_
  have e1 : Bg s st1 = st1.out.length + 8 * (s.size - st1.pos) := rfl
  exact (Nj hsz hkp hrec _ _ _ st1 (by omega) (by omega) (by omega) hs (by omega)).mono fun _ st2 _ q2 => ⟨fun _ _ => by omega, by omega⟩
 ·exact Tt.ite (fun _ => Tt.bad (by omega)) (fun _ => Tt.bad (by omega))
 ·refine (Vf hsz hp hn hb0 (p := if outer.has = true then outer else own) ?_ hh).mono fun _ st1 _ q1 => ⟨fun a b => q1.1 ?_, q1.2⟩
  ·by_cases ho : outer.has = true
   ·rw [if_pos ho]; exact hf1
   ·rw [if_neg ho]; exact hf2
  ·rw [if_neg (by rw [a]; decide)]; exact b
theorem Ed {s : ByteArray} (hsz : s.size ≤ 60000) : ∀ n, BT s (Cq s n) n
 | 0 => fun i a l st _ _ _ h => by omega
 | k + 1 => fun i a l st hp hh hb hn => by
   have hbe : Bg s st = st.out.length + 8 * (s.size - st.pos) := rfl
   rw [HU]
   refine (FI hp (by omega) hh).mb fun own st1 he1 q1 h1 => ?_
   obtain ⟨k1, k2, k3, k4⟩ := Ba he1 hp
   have k5 := k1.pos; have k6 := k1.le
   have hb1 : Bg s st1 ≤ Bg s st := by unfold Bg; rw [q1.2]; omega
   refine Tt.ite (fun a1 => ?_) (fun _ => ?_)
   ·obtain ⟨b1, b2⟩ := k2 a1.1
    have hfs : own.fin ≤ s.size := by omega
    have hb1e : Bg s st1 = st1.out.length + 8 * (s.size - st1.pos) := rfl
    refine (Iq (by omega) h1).mb fun _ st2 _ q2 h2 => ?_
    subst q2
    have w1 := CH s own.fin; have w2 := BL hfs
    have e1 : Bg s (st1.at (gpN s own.fin)) = st1.out.length + 8 * (s.size - gpN s own.fin) := rfl
    have e2 : (st1.at (gpN s own.fin)).pos = gpN s own.fin := rfl
    have e3 : (st1.at (gpN s own.fin)).out = st1.out := rfl
    have e4 : st1.out.length = st.out.length := by rw [q1.2]
    refine Tt.ite (fun _ => ?_) (fun _ => ?_)
    ·have rr := Ch hfs
     refine (Li (by rw [e3]; omega) q1.1 h2).mono fun _ st3 _ q3 => ?_
     rw [e3] at q3
     unfold Bg at *
     omega
    ·refine (FI (by rw [e2]; exact w2) (by rw [e3]; omega) h2).mb fun own2 st3 he3 q3 h3 => ?_
     obtain ⟨p1, p2, p3, p4⟩ := Ba he3 (by rw [e2]; exact w2)
     have p5 := p1.pos; have p6 := p1.le
     rw [e2] at p5
     have e5 : st3.out.length = st.out.length := by rw [q3.2, e3, e4]
     have e6 : Bg s st3 = st3.out.length + 8 * (s.size - st3.pos) := rfl
     exact (M5 hsz (Cr s k) (Ed hsz k) p6 (by omega) (by omega) q1.1 q3.1 h3).mono fun _ st4 _ q4 => by omega
   ·refine (M5 hsz (Cr s k) (Ed hsz k) k6 (by omega) (by omega) PF0 q1.1 h1).mono fun _ st2 _ q2 => ?_
    cases hps : own.has with
    | false => have := q2.1 rfl hps; omega
    | true =>
      have e4 : st1.out.length = st.out.length := by rw [q1.2]
      have hb1e : Bg s st1 = st1.out.length + 8 * (s.size - st1.pos) := rfl
      have := k2 hps
      omega
theorem VS {s : ByteArray} {st : RS} {y : Bool} (hp : st.pos ≤ s.size) (h : st.out.length ≤ 950000) (hh : HS st) (hl : st.hands.length < 1000000) (hd : dirT s st.pos) : Tt (dirR s st y) (fun _ st' => st'.out = st.out ∧ st.pos < st'.pos ∧ st'.pos ≤ s.size) := by
 have hlt := Ai hd.1 (by omega)
 have he : st.pos < endN s st.pos := by
  rw [I2 hlt (by rw [hd.1]; decide)]
  have := B4 (s := s) (p := st.pos + 1) (by omega)
  omega
 have g0 := Be hp
 have g1 := CH s (endN s st.pos); have g2 := BL g0
 unfold dirR
 have first : Tt (match DR s st.pos with
  | [a, b] => if a = T3 ∧ (b = ⟨#[49, 46, 49]⟩ ∨ b = ⟨#[49, 46, 50]⟩) ∧ y = false then okM true st else badM st 13 st.pos
  | [a, b, c] => if a = tagT ∧ hOk (b, c) = true ∧ (st.hands.all fun h => decide (h.1 ≠ b)) = true then (if st.hands.length < 1000000 then okM y ⟨st.pos, st.out, st.names, st.ended, st.hands ++ [(b, c)], st.depth⟩ else none) else badM st 13 st.pos
  | _ => badM st 13 st.pos) (fun _ st' => st'.out = st.out) := by
  generalize DR s st.pos = ws at *
  rcases ws with _ | ⟨a, _ | ⟨b', _ | ⟨c', _ | ⟨d', t⟩⟩⟩⟩
  ·exact Tt.bad h
  ·exact Tt.bad h
  ·exact Tt.ite (fun _ => Tt.ok rfl hh) (fun _ => Tt.bad h)
  ·refine Tt.ite (fun k => ?_) (fun _ => Tt.bad h)
   rw [if_pos hl]
   refine Tt.ok rfl ⟨fun x hx => ?_, hh.2⟩
   rcases List.mem_append.1 hx with hx | hx
   ·exact hh.1 x hx
   ·rw [List.mem_singleton.1 hx]
    have k2 := k.2.1
    unfold hOk at k2
    simp only [Bool.and_eq_true, decide_eq_true_eq] at k2
    exact k2.1.2.2
  ·exact Tt.bad h
 refine first.mb fun y2 st2 _ q hs => Tt.ite (fun _ => Tt.ok ⟨q, ?_, g2⟩ hs) (fun _ => Tt.bad ?_)
 ·show st.pos < gpN s (endN s st.pos); omega
 ·show st2.out.length ≤ _; rw [q]; exact h
theorem Uj {s : ByteArray} : ∀ (d : Nat) {st : RS} {y : Bool}, s.size - st.pos < d → st.pos ≤ s.size → st.out.length ≤ 950000 → HS st → st.hands.length + d ≤ 999999 → Tt (Hj s d st y) (fun _ st' => st'.out = st.out ∧ st.pos ≤ st'.pos ∧ st'.pos ≤ s.size ∧ (st'.pos = st.pos ∨ st.pos < st'.pos)) := by
 intro d
 induction d with
 | zero => intro st y h; omega
 | succ d ih =>
   intro st y hd hp h hh hl
   rw [Mh]
   refine Tt.ite (fun h1 => ?_) (fun _ => Tt.ok ⟨rfl, Nat.le_refl _, hp, .inl rfl⟩ hh)
   refine (VS hp h hh (by omega) h1).mb fun y2 st2 he q hs => ?_
   have := Hh he
   refine (ih (by omega) q.2.2 (by rw [q.1]; exact h) hs (by omega)).mono fun _ st3 _ q3 => ⟨q3.1.trans q.1, by omega, q3.2.2.1, by omega⟩
theorem Vb {s : ByteArray} {n : Nat} {mark : Bool} {st : RS} (hsz : s.size ≤ 60000) (hp : st.pos ≤ s.size) (hlt : mark = true → st.pos + 3 ≤ s.size) (hn : s.size - st.pos < n) (hb : Bg s st ≤ 900000) (hh : HS st) :
 Tt (Ls s n mark st) (fun _ st' => Bg s st' + 5 ≤ Bg s st ∧ st'.pos ≤ s.size ∧ st.out.length ≤ st'.out.length) := by
 have hb0 := hb
 have hbe : Bg s st = st.out.length + 8 * (s.size - st.pos) := rfl
 unfold Ls
 refine Tt.ite (fun _ => ?_) (fun h0 => ?_)
 ·refine (Qf (by omega) hh).mb fun _ st1 _ q1 h1 => ?_
  rw [q1]
  refine (Ed hsz n _ _ _ st hp hh hb hn).mono fun _ st2 he2 q2 => ?_
  have k := Cr s n _ _ _ _ _ _ he2 hp
  exact ⟨q2, k.le, k.out⟩
 ·have hm : mark = true := by simpa using h0
  have h3 := hlt hm
  refine Tt.ite (fun _ => ?_) (fun _ => ?_)
  ·have w1 := B8 s (st.pos + 3); have w2 := Bm h3
   have e1 : Bg s (st.at (wtN s (st.pos + 3))) = st.out.length + 8 * (s.size - wtN s (st.pos + 3)) := rfl
   have e2 : (st.at (wtN s (st.pos + 3))).pos = wtN s (st.pos + 3) := rfl
   refine (Ed hsz n _ _ _ (st.at (wtN s (st.pos + 3))) (by rw [e2]; exact w2) hh (by omega) (by rw [e2]; omega)).mono fun _ st2 he2 q2 => ?_
   have k := Cr s n _ _ _ _ _ _ he2 w2
   exact ⟨by omega, k.le, k.out⟩
  ·refine (Iq (by omega) hh).mb fun _ st1 _ q hs => ?_
   subst q
   have w1 := CH s (st.pos + 3); have w2 := BL h3
   have e1 : Bg s (st.at (gpN s (st.pos + 3))) = st.out.length + 8 * (s.size - gpN s (st.pos + 3)) := rfl
   have e2 : (st.at (gpN s (st.pos + 3))).pos = gpN s (st.pos + 3) := rfl
   have e3 : (st.at (gpN s (st.pos + 3))).out = st.out := rfl
   refine Tt.ite (fun _ => ?_) (fun _ => ?_)
   ·have rr := Ch h3
    refine (Li (by rw [e3]; omega) PF0 hs).mono fun _ st2 _ q2 => ?_
    rw [e3] at q2
    have e4 : Bg s st2 = st2.out.length + 8 * (s.size - st2.pos) := rfl
    omega
   ·refine (Ed hsz n _ _ _ (st.at (gpN s (st.pos + 3))) (by rw [e2]; exact w2) hs (by omega) (by rw [e2]; omega)).mono fun _ st2 he2 q2 => ?_
    have k := Cr s n _ _ _ _ _ _ he2 w2
    exact ⟨by omega, k.le, k.out⟩
theorem QC {s : ByteArray} {st : RS} (h3 : st.pos + 3 ≤ s.size) (h : st.out.length ≤ 950000) (hh : HS st) : Tt (H4 s st) (fun _ st' => st'.out = st.out ∧ st.pos + 3 ≤ st'.pos ∧ st'.pos ≤ s.size) := by
 unfold H4
 have rr := Ch h3
 exact Tt.ite (fun _ => Tt.bad h) (fun _ => Tt.ok ⟨rfl, rr.1, rr.2⟩ hh)
theorem VT {s : ByteArray} {n : Nat} {st : RS} (hsz : s.size ≤ 60000) (hp : st.pos ≤ s.size) (hn : s.size - st.pos < n) (hn2 : n ≤ 900000) (hb : Bg s st ≤ 800000) (hh : HS st) :
 Tt (docM s n st) (fun _ st' => Bg s st' + 3 ≤ Bg s st ∧ st'.pos ≤ s.size ∧ st.out.length ≤ st'.out.length) := by
 have hbe : Bg s st = st.out.length + 8 * (s.size - st.pos) := rfl
 unfold docM
 refine (Uj (st := ⟨st.pos, st.out, [], st.ended, [], st.depth⟩) n (by exact hn) hp (by show st.out.length ≤ _; omega) ⟨fun x hx => absurd hx (by simp), hh.2⟩ (by show 0 + n ≤ _; omega)).mb fun _ st1 _ q1 h1 => ?_
 obtain ⟨a1, a2, a3, a4⟩ := q1
 have a1 : st1.out = st.out := a1
 have a2 : st.pos ≤ st1.pos := a2
 refine (E5 (by rw [a1]; omega) ⟨by show 0 ≤ _; decide, by show 0 ≤ _; decide, by show 0 ≤ _; decide⟩ h1).mb fun _ st2 _ q2 h2 => ?_
 have b1 : st2.out.length = st.out.length + 1 := by rw [q2, D0, a1]
 have b2 : st2.pos = st1.pos := by rw [q2]; rfl
 have b3 : Bg s st2 = st2.out.length + 8 * (s.size - st2.pos) := rfl
 refine (Vb hsz (by omega) (fun hm => ?_) (by omega) (by omega) h2).mb fun free st3 _ q3 h3 => ?_
 ·have hm : Ah s st2.pos = 1 := of_decide_eq_true hm
  exact F3 (by omega)
 obtain ⟨c1, c2, c3⟩ := q3
 have c4 : Bg s st3 = st3.out.length + 8 * (s.size - st3.pos) := rfl
 refine (Lh (by omega) h3).mb fun back st4 _ q4 h4 => ?_
 obtain ⟨q4, _⟩ := q4
 have d1 : st4.out = st3.out := by rw [q4]; rfl
 have d2 : st4.pos = gpN s st3.pos := by rw [q4]; rfl
 have d3 := CH s st3.pos; have d4 := BL c2
 refine Tt.ite (fun _ => Tt.bad (by rw [d1]; omega)) (fun _ => ?_)
 have mid : Tt (if Ah s st4.pos = 2 then H4 s st4 else okM () st4) (fun _ st' => st'.out = st4.out ∧ st4.pos ≤ st'.pos ∧ st'.pos ≤ s.size) := by
  refine Tt.ite (fun hm => ?_) (fun _ => Tt.ok ⟨rfl, Nat.le_refl _, by omega⟩ h4)
  exact (QC (F3 (by omega)) (by rw [d1]; omega) h4).mono fun _ st5 _ q5 => ⟨q5.1, by omega, q5.2.2⟩
 refine mid.mb fun _ st5 _ q5 h5 => ?_
 refine (E5 (by rw [q5.1, d1]; omega) ⟨by show 0 ≤ _; decide, by show 0 ≤ _; decide, by show 0 ≤ _; decide⟩ h5).mb fun _ st6 _ q6 h6 => Tt.ok ?_ h6
 have e1 : st6.out.length = st3.out.length + 1 := by rw [q6, D0, q5.1, d1]
 have e2 : st6.pos = st5.pos := by rw [q6]; rfl
 have e3 : Bg s st6 = st6.out.length + 8 * (s.size - st6.pos) := rfl
 omega
theorem R8 {s : ByteArray} {n : Nat} (hsz : s.size ≤ 60000) (hn : s.size < n) (hn2 : n ≤ 900000) : ∀ (d : Nat) {st : RS}, s.size - st.pos < d → st.pos ≤ s.size → HS st → Bg s st ≤ 800000 → 0 < st.out.length → Tt (AU s n d st) (fun _ st' => 0 < st'.out.length ∧ st'.out.length ≤ 900000) := by
 intro d
 induction d with
 | zero => intro st h; omega
 | succ d ih =>
   intro st hd hp hh hb ho
   have hbe : Bg s st = st.out.length + 8 * (s.size - st.pos) := rfl
   rw [HK]
   have g1 := CH s st.pos; have g2 := BL hp
   have e1 : Bg s (st.at (gpN s st.pos)) = st.out.length + 8 * (s.size - gpN s st.pos) := rfl
   have e2 : (st.at (gpN s st.pos)).pos = gpN s st.pos := rfl
   have e3 : (st.at (gpN s st.pos)).out = st.out := rfl
   refine Tt.ite (fun _ => ?_) (fun hlt => Tt.ite (fun hm => ?_) (fun _ => ?_))
   ·refine (E5 (st := st.at (gpN s st.pos)) (e := evN 9 0 false ⟨#[]⟩ ⟨#[]⟩ ⟨#[]⟩) (by rw [e3]; omega) ⟨by show 0 ≤ _; decide, by show 0 ≤ _; decide, by show 0 ≤ _; decide⟩ hh).mb fun _ st2 _ q2 h2 => Tt.ok ?_ h2
    rw [q2, D0, e3]; omega
   ·have h33 : (st.at (gpN s st.pos)).pos + 3 ≤ s.size := F3 (s := s) (p := gpN s st.pos) (by omega)
    refine (QC h33 (by rw [e3]; omega) hh).mb fun _ st2 _ q2 h2 => ?_
    rw [e2, e3] at q2
    have e4 : Bg s st2 = st2.out.length + 8 * (s.size - st2.pos) := rfl
    rw [q2.1] at e4
    exact ih (by omega) q2.2.2 h2 (by omega) (by rw [q2.1]; exact ho)
   ·refine (VT (st := st.at (gpN s st.pos)) hsz (by rw [e2]; exact g2) (by rw [e2]; omega) hn2 (by omega) hh).mb fun _ st2 _ q2 h2 => ?_
    obtain ⟨q3, q4, q5⟩ := q2
    rw [e3] at q5
    have e4 : Bg s st2 = st2.out.length + 8 * (s.size - st2.pos) := rfl
    exact ih (by omega) q4 h2 (by omega) (by omega)
theorem Kq {s : ByteArray} (hsz : s.size ≤ 60000) : Tt (AU s (2 * s.size + 10) (2 * s.size + 10) rsA) (fun _ st' => 0 < st'.out.length ∧ st'.out.length ≤ 900000) :=
 R8 hsz (by omega) (by omega) _ (by show s.size - 0 < _; omega) (Nat.zero_le _) ⟨fun x hx => absurd hx (by simp [rsA]), fun e he => by rw [List.mem_singleton.1 (show e ∈ [evN 1 0 false ⟨#[]⟩ ⟨#[]⟩ ⟨#[]⟩] from he)]; exact Nat.zero_le _⟩ (by show 1 + 8 * (s.size - 0) ≤ _; omega) (by show 0 < 1; decide)
theorem Lk (s : ByteArray) : ∃ l, Fi s = some l ∧ (l ≠ [] ∧ l.length ≤ 950001 ∧ ∀ e ∈ l, e.text.size ≤ 360001) ∧ ∀ o c p, s.size ≤ 60000 → AU s (2 * s.size + 10) (2 * s.size + 10) rsA = some (.bad o c p) → o.length < 1000000 := by
 have two : ∀ n : Int, ([evN 1 0 false ⟨#[]⟩ ⟨#[]⟩ ⟨#[]⟩, evF 1 n] : List Ev) ≠ [] ∧ ([evN 1 0 false ⟨#[]⟩ ⟨#[]⟩ ⟨#[]⟩, evF 1 n] : List Ev).length ≤ 950001 ∧ ∀ e ∈ ([evN 1 0 false ⟨#[]⟩ ⟨#[]⟩ ⟨#[]⟩, evF 1 n] : List Ev), e.text.size ≤ 360001 := fun n =>
  ⟨by simp, by simp, fun e he => by
    simp only [List.mem_cons, List.not_mem_nil, or_false] at he
    rcases he with rfl | rfl <;> exact Nat.zero_le _⟩
 by_cases h1 : 60000 < s.size
 ·exact ⟨_, by unfold Fi; exact if_pos h1, two _, fun o c p h => by omega⟩
 obtain ⟨r, h2, h3⟩ := Kq (s := s) (by omega)
 have hb : ∀ o c p, s.size ≤ 60000 → AU s (2 * s.size + 10) (2 * s.size + 10) rsA = some (.bad o c p) → o.length < 1000000 := by
  intro o c p _ h
  rw [h2] at h
  cases h
  have : o.length ≤ 950000 := h3.1
  omega
 by_cases h4 : clnM s ≠ s.size
 ·exact ⟨_, by unfold Fi; rw [if_neg h1]; exact if_pos h4, two _, hb⟩
 ·cases r with
  | bad o c p =>
    refine ⟨o ++ [evF c p], by unfold Fi MJ; rw [if_neg h1, if_neg h4, h2], ⟨by simp, ?_, fun e he => ?_⟩, hb⟩
    ·have : o.length ≤ 950000 := h3.1
     rw [List.length_append, List.length_singleton]; omega
    ·rcases List.mem_append.1 he with h | h
     ·exact h3.2 e h
     ·rw [List.mem_singleton.1 h]; exact Nat.zero_le _
  | ok u st =>
    have h5 : 0 < st.out.length ∧ st.out.length ≤ 900000 := h3.1
    refine ⟨st.out, by unfold Fi MJ; rw [if_neg h1, if_neg h4, h2], ⟨fun k => ?_, by omega, h3.2.2⟩, hb⟩
    rw [k] at h5
    exact absurd h5.1 (by decide)
open Go.Proofs.YthlbglmfdjdagaaGreatDoor
def PB (l : List UInt8) (L : List Ev) : Prop := if (nrM l).2 = 0 then Fi (nrM l).1 = some L else L = [evN 1 0 false ⟨#[]⟩ ⟨#[]⟩ ⟨#[]⟩, evF 1 0]
def FewE (L : List Ev) : Prop := L ≠ [] ∧ L.length ≤ 950001 ∧ (∀ e ∈ L, e.text.size ≤ 360001) ∧ ∀ e ∈ L, fitE e
theorem MH (l : List UInt8) : (nrT l).size ≤ l.length := by
 have := AH (l.drop (bomN l))
 rw [List.length_drop] at this
 show (nmL (l.drop (bomN l))).length ≤ _
 omega
theorem MG (l : List UInt8) : (nrM l).1.size ≤ 60000 := by
 unfold nrM
 by_cases h : 60000 < l.length
 ·rw [if_pos h]; show 0 ≤ _; decide
 ·rw [if_neg h]
  by_cases k : clnM (nrT l) = (nrT l).size
  ·rw [if_pos k]; have := MH l; show (nrT l).size ≤ _; omega
  ·rw [if_neg k]; show 0 ≤ _; decide
theorem Fw (v : V) (l : List UInt8) (fl : Nat) (H : LH) (h : At H byC 1 v l) (ho : Own 0 H byC 1 v l) (hl : l.length ≤ 1099511627776) :
 Ret (fun w B => ∃ L, PB l L ∧ FewE L ∧ Hx H B ∧ Own H.length B evC 8 w L) (run 18 [v] fl H) := by
 generalize hQ : (fun (w : V) (B : LH) => ∃ L, PB l L ∧ FewE L ∧ Hx H B ∧ Own H.length B evC 8 w L) = Q
 have p1 := h.isTup; have p2 := h.one
 have e1 := fun fl => Dq v l fl H h ho hl
 have hz := MG l
 by_cases h0 : (nrM l).2 = 0
 ·have t1 : ((nrM l).2 = 0) = True := eq_true h0
  obtain ⟨L, h1, ⟨h2, h3, h4⟩, h5⟩ := Lk (nrM l).1
  obtain ⟨w, B, e2, h6, h7, h8⟩ := QL (nrM l).1 H.length H (by omega) h1 (fun o c p => h5 o c p hz)
  have o1 := (h7.at CA).isTup; have o2 := (h7.at CA).one
  unfold run at *
  rw [z18]
  simp +contextual -implicitDefEqProofs (maxSteps := 10000000) (disch := first | (and_intros <;> omega -splitDisjunctions) | (push_cast; and_intros <;> omega -splitDisjunctions) | fail) only [p1, p2, e1, e2, t1, o1, o2, ne_eq, not_true_eq_false, go_sem, seval]
  subst hQ
  exact ⟨L, by unfold PB; rw [if_pos h0]; exact h1, ⟨h2, h3, h4, h8⟩, h6, h7⟩
 ·have t1 : ((nrM l).2 = 0) = False := eq_false h0
  unfold run at *
  rw [z18]
  simp +contextual -implicitDefEqProofs (maxSteps := 10000000) (disch := first | (and_intros <;> omega -splitDisjunctions) | (push_cast; and_intros <;> omega -splitDisjunctions) | fail) only [p1, p2, e1, t1, ne_eq, not_false_eq_true, go_sem, seval]
  subst hQ
  refine ⟨[evN 1 0 false ⟨#[]⟩ ⟨#[]⟩ ⟨#[]⟩, evF 1 0], by unfold PB; rw [if_neg h0], ⟨by simp, by simp, ?_, ?_⟩, Hx.app, .inr ⟨H.length, rfl, by rw [A7]; rfl, Nat.le_refl _⟩⟩ <;> intro e he <;> simp only [List.mem_cons, List.not_mem_nil, or_false] at he
  ·rcases he with rfl | rfl <;> exact Nat.zero_le _
  ·rcases he with rfl | rfl <;> exact ⟨Nat.zero_le _, Nat.zero_le _, Nat.zero_le _⟩
theorem FewE.len {L : List Ev} (h : FewE L) : (evsT L).length ≤ 1099511627776 := by
 obtain ⟨_, h1, h2, h3⟩ := h
 have := Mj 730000 L (fun e he => by
  have := KP e; have := h2 e he; have := h3 e he
  unfold fitE at this
  omega)
 have h4 : L.length * (730000 + 1) ≤ 950001 * 730001 := Nat.mul_le_mul h1 (Nat.le_refl _)
 omega
theorem GC (v : V) (l : List UInt8) (fl : Nat) (H : LH) (h : At H byC 1 v l) (ho : Own 0 H byC 1 v l) (hl : l.length ≤ 1099511627776) :
 ∃ L, PB l L ∧ FewE L ∧ ∀ fl, run 9 [v] fl H = some (.str ⟨(evsT L).toArray⟩, H) := by
 have p1 := h.isTup; have p2 := h.one
 obtain ⟨w, B, e1, L, h1, h2, h3, h4⟩ := Fw v l H.length H h ho hl
 refine ⟨L, h1, h2, fun fl => ?_⟩
 have h5 := h2.2.1; have h6 := h2.2.2.2
 have e2 := Fv w L H.length B (h4.at CA) (by omega) (fun e he => by have := h6 e he; unfold fitE at this; omega) h2.len
 have o1 := (h4.at CA).isTup; have o2 := (h4.at CA).one
 unfold run at *
 rw [z9]
 simp +contextual -implicitDefEqProofs (maxSteps := 10000000) (disch := first | (and_intros <;> omega -splitDisjunctions) | (push_cast; and_intros <;> omega -splitDisjunctions) | fail) only [p1, p2, e1, e2, o1, o2, go_sem, seval]
open Go.Proofs.YthlbglmfdjdagaaGreatDoor
theorem Pr : (⟨(evsT [evN 1 0 false ⟨#[]⟩ ⟨#[]⟩ ⟨#[]⟩, evF 1 0]).toArray⟩ : ByteArray) = ⟨#[43, 83, 84, 82, 10, 33, 70, 65, 85, 76, 84, 32, 49, 32, 48, 10]⟩ := by
 kernel_rfl
theorem Uu {L : List Ev} (h : L ≠ []) : 0 < (⟨(evsT L).toArray⟩ : ByteArray).size := by
 cases L with
 | nil => exact absurd rfl h
 | cons e L =>
   show 0 < (evsT (e :: L)).length
   unfold evsT
   rw [List.flatMap_cons, List.length_append, List.length_append]
   show 0 < _ + 1 + _
   omega
theorem O2 (cv : V) (code : List UInt8) (fl : Nat) (H : LH) (h : At H byC 1 cv code) (hl : code.length ≤ 9223372036854775807) : run 3 [cv] fl H = some (.bool true, H) := by
 have p1 := h.isTup; have p2 := h.one; have f2 := h.len; have f3 := h.lenOk ty22
 by_cases hbig : 1048576 < code.length
 ·have t1 : ((code.length : Int) > 1048576) = True := eq_true (by omega)
  have t2 : (1048576 < (code.length : Int)) = True := eq_true (by omega)
  unfold run
  rw [z3]
  simp +contextual -implicitDefEqProofs (maxSteps := 10000000) (disch := first | (and_intros <;> omega -splitDisjunctions) | (push_cast; and_intros <;> omega -splitDisjunctions) | fail) only [p1, p2, f2, f3, t1, t2, go_sem, seval]
 have t1 : ((code.length : Int) > 1048576) = False := eq_false (by omega)
 have t2 : (1048576 < (code.length : Int)) = False := eq_false (by omega)
 obtain ⟨w, B, e1, l, l40, ho, ⟨k, rfl⟩, hB⟩ := ID h (by omega) H.length
 have hA := ho.at Ab
 have ho0 := ho.down (Nat.zero_le _)
 have e2 := fun fl => Dq _ l fl B hA ho0 (by omega)
 have e3 := fun fl => Kk _ l fl B hA (by omega)
 have e4 := fun fl H => Fp ⟨l.toArray⟩ 0 fl H (by show l.length ≤ _; omega)
 have e5 := fun r fl H => EF r fl H
 obtain ⟨L, hPB, hFE, e6⟩ := GC _ l H.length B hA ho0 (by omega)
 obtain ⟨hcb, hbl⟩ : B.cellsAt k = some (rows byC l) ∧ H.length ≤ k := by
  rcases ho with ⟨_, q | q⟩ | ⟨b', q, k1, k2⟩
  ·cases q
  ·cases q
  ·cases q; exact ⟨k1, k2⟩
 have g1 := Ak Ab l
 rw [Nat.mul_one] at g1
 have g2 := AQ Ab (xs := l) (n := l.length) (by omega)
 have g4 := Am l
 have hrb := fun hn => V5 (l := l) (r := (Au ⟨l.toArray⟩ 0).1) (n := (Au ⟨l.toArray⟩ 0).2) rfl hn
 have hn0 := FM ⟨l.toArray⟩ 0
 generalize (Au ⟨l.toArray⟩ 0).1 = r at *
 generalize (Au ⟨l.toArray⟩ 0).2 = n at *
 have hz := MG l
 have hzz : (nrM l).1.size ≤ 40 := by
  unfold nrM
  by_cases q : 60000 < l.length
  ·rw [if_pos q]; show 0 ≤ _; decide
  ·rw [if_neg q]
   have := MH l
   by_cases q2 : clnM (nrT l) = (nrT l).size
   ·rw [if_pos q2]; show (nrT l).size ≤ _; omega
   ·rw [if_neg q2]; show 0 ≤ _; decide
 have hcs := Qn l
 have hid := fun q => Wg (s := (nrM l).1) q hz
 have hpb : (nrM l).2 ≠ 0 → (⟨(evsT L).toArray⟩ : ByteArray) = ⟨#[43, 83, 84, 82, 10, 33, 70, 65, 85, 76, 84, 32, 49, 32, 48, 10]⟩ := fun q => by
  unfold PB at hPB
  rw [if_neg q] at hPB
  rw [hPB, Pr]
 have e7 := fun (fl : Nat) (H : LH) => E3 (nrM l).1 fl H (by omega)
 have nrm2 : ∀ fl, clnM (nrM l).1 = (nrM l).1.size → run 5 [.sl B.length 0 1 (nrM l).1.size (nrM l).1.size] fl (B ++ [.cells (rows byC (bs (nrM l).1))]) = some (.tup [.str (nrM l).1, .int .i64 0], B ++ [.cells (rows byC (bs (nrM l).1))]) := fun fl q => by
  have hO : Own 0 (B ++ [.cells (rows byC (bs (nrM l).1))]) byC 1 (.sl B.length 0 1 (nrM l).1.size (nrM l).1.size) (bs (nrM l).1) := .inr ⟨B.length, by rw [C6], by rw [A7]; rfl, Nat.zero_le _⟩
  have := Dq _ (bs (nrM l).1) fl _ (hO.at Ab) hO (by rw [C6]; omega)
  rw [hid q] at this
  exact this
 obtain ⟨L2, _, hFE2, e8⟩ := GC _ l H.length (B ++ [.cells (rows byC (bs (nrM l).1))]) hA.left (ho0.ext Hx.app) (by omega)
 have hps := Uu hFE2.1
 generalize (⟨(evsT L).toArray⟩ : ByteArray) = T at *
 generalize (⟨(evsT L2).toArray⟩ : ByteArray) = T2 at *
 have t3 : (0 < (T2.size : Int)) = True := eq_true (by omega)
 generalize hS : (nrM l).1 = S at *
 generalize hC : (nrM l).2 = C at *
 have tail : ∀ (A : Prop), True := fun _ => trivial
 by_cases hn : 0 < n
 ·obtain ⟨q1, q2⟩ := hrb hn
  have t4 : (0 < n) = True := eq_true hn
  have q3 : n ≤ (l.length : Int) := by omega
  have q4 : 0 ≤ n := by omega
  have q5 : 0 ≤ n ∧ n ≤ (l.length : Int) := ⟨q4, q3⟩
  have g5 : (rows byC l).take n.toNat = rows byC (l.take n.toNat) := by
   have := Gw (enc := byC) Ab l n.toNat
   rw [Nat.mul_one] at this
   exact this
  have g6 := Am (l.take n.toNat)
  generalize hX : (⟨(l.take n.toNat).toArray⟩ : ByteArray) = X at *
  obtain ⟨m, hnn⟩ : ∃ m : Nat, n = m := ⟨n.toNat, by omega⟩
  subst hnn
  simp only [Int.toNat_natCast] at q1 q2 g5 g6 hX
  rcases hcs with ⟨c1, c2⟩ | ⟨c1, c2⟩
  ·subst c1
   have n2 := fun fl => nrm2 fl c2
   have t5 : ((clnM S : Int) = S.size) = True := eq_true (by omega)
   unfold run at *
   rw [z3]
   simp +contextual -implicitDefEqProofs (maxSteps := 10000000) (disch := first | (and_intros <;> omega -splitDisjunctions) | (push_cast; and_intros <;> omega -splitDisjunctions) | fail) only [p1, p2, f2, f3, t1, t2, t3, t4, t5, e1, e2, e3, e4, e5, q1, g1, g2, g4, g5, g6, hcb, hX, Nat.sub_zero, n2, e7, e8, ne_eq, not_true_eq_false, go_sem, seval]
  ·have t5 : (C = 0) = False := eq_false c1
   have c3 := hpb c1
   subst c2
   rw [c3] at e6
   unfold run at *
   rw [z3]
   simp +contextual -implicitDefEqProofs (maxSteps := 10000000) (disch := first | (and_intros <;> omega -splitDisjunctions) | (push_cast; and_intros <;> omega -splitDisjunctions) | fail) only [p1, p2, f2, f3, t1, t2, t4, t5, e1, e2, e3, e4, e5, e6, q1, g1, g2, g4, g5, g6, hcb, hX, Nat.sub_zero, ne_eq, not_false_eq_true, go_sem, seval]
 ·have t4 : (0 < n) = False := eq_false hn
  rcases hcs with ⟨c1, c2⟩ | ⟨c1, c2⟩
  ·subst c1
   have n2 := fun fl => nrm2 fl c2
   have t5 : ((clnM S : Int) = S.size) = True := eq_true (by omega)
   unfold run at *
   rw [z3]
   simp +contextual -implicitDefEqProofs (maxSteps := 10000000) (disch := first | (and_intros <;> omega -splitDisjunctions) | (push_cast; and_intros <;> omega -splitDisjunctions) | fail) only [p1, p2, f2, f3, t1, t2, t3, t4, t5, e1, e2, e3, e4, g1, g2, g4, hcb, n2, e7, e8, ne_eq, not_true_eq_false, go_sem, seval]
  ·have t5 : (C = 0) = False := eq_false c1
   have c3 := hpb c1
   subst c2
   rw [c3] at e6
   unfold run at *
   rw [z3]
   simp +contextual -implicitDefEqProofs (maxSteps := 10000000) (disch := first | (and_intros <;> omega -splitDisjunctions) | (push_cast; and_intros <;> omega -splitDisjunctions) | fail) only [p1, p2, f2, f3, t1, t2, t4, t5, e1, e2, e3, e4, e6, g1, g2, g4, hcb, ne_eq, not_false_eq_true, go_sem, seval]
open Go.Proofs.YthlbglmfdjdagaaGreatDoor
theorem Qp {H : LH} {x : V} (h : ShpA (ty Tryz.prog) 12 22 H x) : ∃ xs : List UInt8, At H byC 1 x xs ∧ xs.length ≤ 9223372036854775807 := by
 unfold ShpA at h
 rw [ty22] at h
 obtain ⟨xs, h1, h2, _⟩ := R1 (P := fun _ => True) (enc := byC) ty22 (by simp only [AC, ty5, ty22]) Ab (fun cs h => by
  simp only [Shp, ty5] at h
  obtain ⟨m, rfl, hm⟩ := h
  have hr : 0 ≤ m ∧ m < 256 := by
   have h1 : (decide (IntKind.u8.min ≤ m) && decide (m ≤ IntKind.u8.max)) = true := hm
   rw [Bool.and_eq_true, decide_eq_true_eq, decide_eq_true_eq] at h1
   have h2 : IntKind.u8.min = 0 := by decide
   have h3 : IntKind.u8.max = 255 := by decide
   omega
  refine ⟨UInt8.ofNat m.toNat, ?_, trivial⟩
  unfold byC
  rw [UInt8.toNat_ofNat', Nat.mod_eq_of_lt (by omega), Int.toNat_of_nonneg hr.1]) h
 exact ⟨xs, h1, h2⟩
open Go.Proofs.YthlbglmfdjdagaaGreatDoor
def Qa : List (String × DataW Unit) := [("unicode/utf8.acceptRanges", Rows.laid_unicode_utf8_acceptRanges), ("unicode/utf8.first", Rows.laid_unicode_utf8_first)]
theorem NJ : (Rows.laid_unicode_utf8_first : DataW Unit) = .agg (firstL.map fun z => .lit (.int .u8 z)) := by kernel_rfl
theorem Sr : (Rows.laid_unicode_utf8_acceptRanges : DataW Unit) = .agg (accL.map fun z => .agg [.lit (.int .u8 z.1), .lit (.int .u8 z.2)]) := by kernel_rfl
theorem WS {W : World} (h : laidMetH Tryz.prog Qa W) : ∀ g cs, cfg.glob g = some cs → Td W g cs := by
 rw [MakeChecks.laidMetH_plain _ _ _ (by kernel_rfl)] at h
 obtain ⟨ps, ⟨g0, t0, cs0, f0, p0, q0, hg0, ht0, hv0, hd0, ⟨g1, t1, cs1, f1, p1, q1, hg1, ht1, hv1, hd1, _, _⟩, _⟩, _, _⟩ := h
 obtain rfl := Option.some.inj ((show Tryz.prog.globalNamed "unicode/utf8.acceptRanges" = some 1 by kernel_rfl).symm.trans hg0)
 obtain rfl := Option.some.inj ((show Tryz.prog.globalNamed "unicode/utf8.first" = some 0 by kernel_rfl).symm.trans hg1)
 obtain rfl := Option.some.inj ((show (Tryz.prog.globals[1]?).map (·.type) = some 56 by kernel_rfl).symm.trans ht0)
 obtain rfl := Option.some.inj ((show (Tryz.prog.globals[0]?).map (·.type) = some 53 by kernel_rfl).symm.trans ht1)
 rw [NJ] at hd1
 rw [Sr] at hd0
 have a1 := VK Tryz.underlying53 Tryz.underlying5 (by kernel_rfl) hd1
 have a0 := Rw (b := 5) Tryz.underlying56 Tryz.underlying55 rfl rfl rfl rfl rfl Tryz.underlying5 (by kernel_rfl) (by kernel_rfl) hd0
 have s1 : 255 < cs1.size := by
  have := a1 255 241 (by kernel_rfl)
  have := (List.getElem?_eq_some_iff.1 this).1
  simpa using this
 have s0 : 31 < cs0.size := by
  have := a0 31 0 (by kernel_rfl)
  have := (List.getElem?_eq_some_iff.1 this).1
  simpa using this
 intro g cs e
 have e : (if g = 0 then some (u8s firstL) else if g = 1 then some (u8s (D7 accL)) else none) = some cs := e
 by_cases c1 : g = 0
 ·rw [if_pos c1] at e
  injection e with e
  subst e; subst c1
  refine PK hg1 hv1 (fun i z hz => ?_) ?_
  ·have := a1 i z hz
   simpa using this
  ·rw [show firstL.length = 256 by kernel_rfl]; omega
 ·rw [if_neg c1] at e
  by_cases c2 : g = 1
  ·rw [if_pos c2] at e
   injection e with e
   subst e; subst c2
   refine PK hg0 hv0 (fun i z hz => ?_) ?_
   ·have := a0 i z hz
    simpa using this
   ·rw [show (D7 accL).length = 32 by kernel_rfl]; omega
  ·rw [if_neg c2] at e
   cases e
end Go.Proofs.YthlbglmfdjdagaaGreatDoor.Lg
