/- The logical machine and its contracts, part 11. No condition. -/
import Derived.Test.YthlbglmfdjdagaaGreatDoorN10
namespace Go.Proofs.YthlbglmfdjdagaaGreatDoor.Lg
set_option linter.unusedSimpArgs false
set_option linter.unusedVariables false
set_option maxRecDepth 100000
set_option maxHeartbeats 40000000
open Go.Proofs.YthlbglmfdjdagaaGreatDoor
theorem ED (s : ByteArray) (p : Nat) (hp : p ≤ s.size) (hs : s.size ≤ 1099511627776) (fl : Nat) (H : LH) : run 59 [.str s, .int .i64 (p : Int)] fl H = some (.int .i64 (colN s p : Nat), H) := by
 have e1 := QJ s p fl H hs
 rw [Ay hp] at e1
 have l1 := Dg s p
 rw [e1]
 congr 3
 unfold colN; omega
theorem K3 {rec : Int → Bool → Bool → RS → Option (RR Bool)} {m : Nat} {G H : LH} {b : Nat} {s : ByteArray} {c : RC} {fr : Bool} {la : Int} {st : RS} (IH : FU G b s rec) (hrec : KpB s rec) (h : RAt G H b s c 0 0 fr la st) (outer own : PR) (hof : own.has = true → own.frm ≤ s.size) (hky : (keyM s st.pos).isSome = true) (hs : s.size ≤ 1048576) (fl : Nat) (hf : fl ≤ G.length) {r : RR Bool} (hm : Nk s rec m st outer own = some r) :
 Ret (PostB G H b s c r) (run 73 [.ptr b 0, .agg (prC outer), .agg (prC own)] fl H) := by
 have hs2 : s.size ≤ 16777216 := by omega
 have hc := h.hp.cell
 have hb := A5 hc
 have hG := h.hp.hG
 have hle := h.le
 have hxl := h.hp.hx.len
 obtain ⟨o1, o2, o3, o4, o5, o6⟩ := h.hp.o1
 have hL := h.left (L := [.cells (prC outer), .cells (prC own)])
 have hn1 : H.length + 1 ∉ rbl b c := fun k => by have := h.hp.rb _ k; omega
 have hown : LH.cellsAt (H ++ [Blk.cells (prC outer), Blk.cells (prC own)]) (H.length + 1) = some (prC own) := by rw [Bd]; rfl
 generalize hQ : PostB G H b s c r = Q
 unfold Nk at hm
 have hF0 : (if own.has = true then own.frm else st.pos) ≤ s.size := by
  by_cases k : own.has = true
  ·rw [if_pos k]; exact hof k
  ·rw [if_neg k]; exact hle
 generalize hfst : (if own.has = true then own.frm else st.pos) = first at *
 have hfi : (own.has = true ∧ own.frm = first) ∨ (own.has = false ∧ st.pos = first) := by
  by_cases k : own.has = true
  ·rw [if_pos k] at hfst; exact .inl ⟨k, hfst⟩
  ·rw [if_neg k] at hfst; exact .inr ⟨by simpa using k, hfst⟩
 have e2 := fun fl H => ED s first hF0 (by omega) fl H
 rcases A8 hm with ⟨o, cd, pl, m1, rfl⟩ | ⟨k, st1, m1, hmg⟩
 ·obtain ⟨w, B, e1, ⟨j, rfl⟩, hbad⟩ := Cy hL 4 7 outer first fl hf m1
  have hbad2 := hbad.trans (RFr.app (H := H))
  clear hbad
  obtain ⟨wh, wa, wg, wf, wn⟩ := own
  unfold rdC prC at *
  dsimp only at hfi
  unfold run at *
  rw [z73]
  rcases hfi with ⟨rfl, rfl⟩ | ⟨rfl, rfl⟩
  ·simp +contextual -implicitDefEqProofs (maxSteps := 10000000) (disch := first | (and_intros <;> omega -splitDisjunctions) | (push_cast; and_intros <;> omega -splitDisjunctions) | fail) only [hc, e1, e2, o1, o2, o3, o4, o5, o6, A1, A0, A2, A3, go_sem, seval]
   subst hQ
   exact ⟨rfl, hbad2⟩
  ·simp +contextual -implicitDefEqProofs (maxSteps := 10000000) (disch := first | (and_intros <;> omega -splitDisjunctions) | (push_cast; and_intros <;> omega -splitDisjunctions) | fail) only [hc, e1, e2, o1, o2, o3, o4, o5, o6, A1, A0, A2, A3, go_sem, seval]
   subst hQ
   exact ⟨rfl, hbad2⟩
 obtain ⟨w, B, e1, rfl, c1, hA1, hF1⟩ := Cy hL 4 7 outer first fl hf m1
 have hownB := hF1.cells hown hn1
 have hF1b := RFr.from hF1
 clear hF1
 obtain ⟨k1, k2, k3, k4, k5⟩ := Dl (s := s) m1 hle
 rw [← k4] at hky
 have main : ∀ (X : Option (V × LH)) (cz : Code) (R : List K) (x1 x2 x4 x6 x7 x10 x11 x12 x13 x16 x22 x39 x59 x69 x84 x100 x115 : Option V), True := fun _ _ _ x1 x2 x4 x6 x7 x10 x11 x12 x13 x16 x22 x39 x59 x69 x84 x100 x115 => trivial
 clear main
 generalize hcc : colN s first = cc at *
 have finish : ∀ (cz : Code) (R : List K), True := fun _ _ => trivial
 clear finish
 obtain ⟨wh, wa, wg, wf, wn⟩ := own
 have e1' := e1
 unfold prC at e1
 dsimp only at hfi
 unfold rdC at hc
 unfold run at *
 rw [z73]
 rcases hfi with ⟨rfl, rfl⟩ | ⟨rfl, rfl⟩
 all_goals
  simp +contextual -implicitDefEqProofs (maxSteps := 10000000) (disch := first | (and_intros <;> omega -splitDisjunctions) | (push_cast; and_intros <;> omega -splitDisjunctions) | fail) only [hc, e1, e2, prC, o1, o2, o3, o4, o5, o6, A1, A0, A2, A3, go_sem, seval]
  refine B9 fun c2 R2 hc2 hR2 => ?_
  have key2 : ∀ (m : Nat) (d : Nat) (B : LH) (c' : RC) (st' : RS) (ow : PR) (fr' : Bool) (la' : Int) (x1 x2 x4 x6 x7 x10 x11 x12 x13 x16 x22 x39 x59 x69 x84 x100 x115 : Option V), d < m → RAt G B b s c' 0 0 fr' la' st' → RFr b H c B c' → B.cellsAt (H.length + 1) = some (prC ow) → H.length + 1 ∉ rbl b c' → (keyM s st'.pos).isSome = true → k < st'.out.length → 0 < st'.depth → G5 s rec cc k d st' ow = some r →
   Ret Q (zEv (Ac (mkR Tryz.prog cfg ok [0, 1, 2, 4, 5, 6, 7, 8, 9, 10, 11, 12, 13, 16, 22, 39, 59, 69, 84, 100, 115] fl) .any H [ResultVar.tmp 6]) (mkR Tryz.prog cfg ok [0, 1, 2, 4, 5, 6, 7, 8, 9, 10, 11, 12, 13, 16, 22, 39, 59, 69, 84, 100, 115] fl) (K.code (Code.loop c2) :: K.blk 0 :: R2) .nrm [some (.ptr b 0), x1, x2, x4, some (.ptr (H.length + 1) 0), x6, x7, some (.int .i64 (cc : Nat)), some (.int .i64 k), x10, x11, x12, x13, x16, x22, x39, x59, x69, x84, x100, x115] (B)) := by
   intro m
   induction m with
   | zero => intro d B c' st' ow fr' la' x1 x2 x4 x6 x7 x10 x11 x12 x13 x16 x22 x39 x59 x69 x84 x100 x115 hm; omega
   | succ m ih2 =>
     intro d B c' st' ow fr' la' x1 x2 x4 x6 x7 x10 x11 x12 x13 x16 x22 x39 x59 x69 x84 x100 x115 hm hA hF how hon hky hk hd hgo
     cases d with
     | zero => cases hgo
     | succ d =>
     rw [HV] at hgo
     obtain ⟨⟨e, kk⟩, hkm⟩ := Option.isSome_iff_exists.1 hky
     have hkr := Dx hA.le hkm
     have howc := how
     unfold prC at howc
     rcases A8 hgo with ⟨o, cd, pl, m1, rfl⟩ | ⟨colon, st1, m1, hgo⟩
     ·obtain ⟨w, C, e3, ⟨j, rfl⟩, hbad⟩ := MR hA ow hkm hs fl hf m1
      unfold prC at e3
      unfold run at e3
      rw [A4 hc2, ← hR2]
      simp +contextual -implicitDefEqProofs (maxSteps := 10000000) (disch := first | (and_intros <;> omega -splitDisjunctions) | (push_cast; and_intros <;> omega -splitDisjunctions) | fail) only [e3, howc, A1, A0, A2, A3, go_sem, seval]
      subst hQ
      exact ⟨rfl, hbad.trans hF⟩
     obtain ⟨w, C, e3, rfl, c1, hA1, hF1⟩ := MR hA ow hkm hs fl hf m1
     obtain ⟨g1, g2, g3⟩ := KB m1 hkm hA.le
     subst g2
     have hFC := hF.trans hF1
     unfold prC at e3
     unfold run at e3
     rcases A8 hgo with ⟨o, cd, pl, m2, rfl⟩ | ⟨free, st2, m2, hgo⟩
     ·obtain ⟨w, D, e4, rfl, hbad⟩ := EJ IH hA1 colon cc false (by omega) hs fl hf m2
      unfold run at e4
      rw [A4 hc2, ← hR2]
      simp +contextual -implicitDefEqProofs (maxSteps := 10000000) (disch := first | (and_intros <;> omega -splitDisjunctions) | (push_cast; and_intros <;> omega -splitDisjunctions) | fail) only [e3, e4, howc, A1, A0, A2, A3, go_sem, seval]
      subst hQ
      exact ⟨rfl, hbad.trans hFC⟩
     obtain ⟨w, D, e4, rfl, la2, c2x, hA2, hF2⟩ := EJ IH hA1 colon cc false (by omega) hs fl hf m2
     obtain ⟨v1, v2⟩ := HN hrec m2 (by omega) (by omega)
     have hFD := hFC.trans hF2
     unfold run at e4
     rcases A8 hgo with ⟨o, cd, pl, m3, rfl⟩ | ⟨back, st3, m3, hgo⟩
     ·obtain ⟨w, E, e5, rfl, hbad⟩ := DG hA2 hs2 fl hf m3
      unfold run at e5
      rw [A4 hc2, ← hR2]
      simp +contextual -implicitDefEqProofs (maxSteps := 10000000) (disch := first | (and_intros <;> omega -splitDisjunctions) | (push_cast; and_intros <;> omega -splitDisjunctions) | fail) only [e3, e4, e5, howc, A1, A0, A2, A3, go_sem, seval]
      subst hQ
      exact ⟨rfl, hbad.trans hFD⟩
     obtain ⟨w, E, e5, rfl, c3x, hA3, hF3⟩ := DG hA2 hs2 fl hf m3
     obtain ⟨x1, x2⟩ := F5 m3 v1.le
     have hFE := hFD.trans hF3
     have hcE := hA3.hp.cell
     obtain ⟨p1, p2, p3, p4, p5, p6⟩ := hA3.hp.o1
     have hbE := A5 hcE
     have e6 := By hA3 st3.pos hA3.le hs2 fl hf
     have e7 := fun fl H => ED s st3.pos hA3.le (by omega) fl H
     have KK := (g1.trans v1).trans x1
     have Kd := KK.dep; have Ko := KK.out
     have v1le := v1.le
     have hfault := fun cd pl => Ao hA3 cd pl fl hf
     have hbad3 := fun cd (hcd : cd ≠ 0) pl => (Bo hA3 (cd := cd) (pl := pl) hcd).trans hFE
     unfold rdC at hcE hfault hbad3
     unfold run at e5
     by_cases a1 : Aw s st3.pos ∨ colN s st3.pos < cc
     ·rw [if_pos a1] at hgo
      obtain ⟨w, X, e8, hP0⟩ := K5 (la := 0) hA3 k (by omega) (by omega) (by omega) fl hf hgo
      obtain ⟨x, rfl⟩ := hP0.bool
      have hP := hP0.trans hFE
      rw [hQ] at hP
      clear hP0
      unfold run at e8
      rw [A4 hc2, ← hR2]
      by_cases a2 : Aw s st3.pos
      ·simp +contextual -implicitDefEqProofs (maxSteps := 10000000) (disch := first | (and_intros <;> omega -splitDisjunctions) | (push_cast; and_intros <;> omega -splitDisjunctions) | fail) only [e3, e4, e5, e6, e7, e8, hcE, a2, p1, p2, p3, p4, p5, p6, howc, A1, A0, A2, A3, go_sem, seval]
       exact hP
      ·have a3 : ((colN s st3.pos : Int) < (cc : Nat)) = True := eq_true (by have := a1.resolve_left a2; omega)
       simp +contextual -implicitDefEqProofs (maxSteps := 10000000) (disch := first | (and_intros <;> omega -splitDisjunctions) | (push_cast; and_intros <;> omega -splitDisjunctions) | fail) only [e3, e4, e5, e6, e7, e8, hcE, a2, a3, p1, p2, p3, p4, p5, p6, howc, A1, A0, A2, A3, go_sem, seval]
       exact hP
     rw [if_neg a1] at hgo
     have a2 : ¬ Aw s st3.pos := fun kx => a1 (.inl kx)
     have a3 : ((colN s st3.pos : Int) < (cc : Nat)) = False := eq_false (fun kx => a1 (.inr (by omega)))
     by_cases a4 : cc < colN s st3.pos
     ·rw [if_pos a4] at hgo
      cases hgo
      have a5 : ((cc : Int) < (colN s st3.pos : Nat)) = True := eq_true (by omega)
      have hbad := hbad3 9 (by decide) st3.pos
      rw [A4 hc2, ← hR2]
      simp +contextual -implicitDefEqProofs (maxSteps := 10000000) (disch := first | (and_intros <;> omega -splitDisjunctions) | (push_cast; and_intros <;> omega -splitDisjunctions) | fail) only [e3, e4, e5, e6, e7, hfault, hcE, a2, a3, a5, p1, p2, p3, p4, p5, p6, howc, A1, A0, A2, A3, go_sem, seval]
      subst hQ
      exact ⟨rfl, hbad⟩
     rw [if_neg a4] at hgo
     have a5 : ((cc : Int) < (colN s st3.pos : Nat)) = False := eq_false (by omega)
     have howE := (hF1.trans (hF2.trans hF3)).cells how hon
     rcases A8 hgo with ⟨o, cd, pl, m4, rfl⟩ | ⟨own2, st4, m4, hgo⟩
     ·obtain ⟨w, X, e8, ⟨p, rfl⟩, hbad⟩ := AV hA3 false hs fl hf m4
      obtain ⟨c4, fr4, la4, st4, b1, b2, b3, b4⟩ := hbad
      have howX := b4.cells howE.1 howE.2
      have hlX := A5 howX.1
      have hBX := b1.other (y := .cells (prC p)) howX.2 (by omega)
      have hssX := fun z => A1 (cs := z) hlX
      have hfin : BadA G H b s c o cd pl (X.set (H.length + 1) (.cells (prC p))) := ⟨c4, fr4, la4, st4, hBX, b2, b3, (hFE.trans b4).setHi (by omega)⟩
      have howXc := howX.1
      unfold prC at e8 hfin howXc
      unfold run at e8
      rw [A4 hc2, ← hR2]
      simp +contextual -implicitDefEqProofs (maxSteps := 10000000) (disch := first | (and_intros <;> omega -splitDisjunctions) | (push_cast; and_intros <;> omega -splitDisjunctions) | fail) only [e3, e4, e5, e6, e7, e8, hcE, a2, a3, a5, p1, p2, p3, p4, p5, p6, howc, howXc, hssX, A1, A0, A2, A3, go_sem, seval]
      subst hQ
      exact ⟨rfl, hfin⟩
     obtain ⟨w, X, e8, rfl, c4, hA4, hF4⟩ := AV hA3 false hs fl hf m4
     obtain ⟨y1, y2, y3, y4⟩ := Ba m4 x1.le
     have howX := hF4.cells howE.1 howE.2
     have hlX := A5 howX.1
     have hA5 := hA4.other (y := .cells (prC own2)) howX.2 (by omega)
     have hF5 := (hFE.trans hF4).setHi (x := H.length + 1) (y := .cells (prC own2)) (by omega)
     have hssX := A1 (cs := prC own2) hlX
     have hcX := hA5.hp.cell
     obtain ⟨q1, q2, q3, q4, q5, q6⟩ := hA5.hp.o1
     have hbX := A5 hcX
     have e9 := fun fl H => EE s st4.pos fl H hA4.le hs2
     have hfault2 := fun cd pl => Ao hA5 cd pl fl hf
     have hbad4 := fun cd (hcd : cd ≠ 0) pl => (Bo hA5 (cd := cd) (pl := pl) hcd).trans hF5
     have howXc := howX.1
     have y1d := y1.dep; have y1o := y1.out
     unfold prC at e8 howXc
     unfold rdC at hcX
     by_cases a6 : (keyM s st4.pos).isSome = true
     ·rw [if_pos a6] at hgo
      obtain ⟨⟨e', kk'⟩, hkm'⟩ := Option.isSome_iff_exists.1 a6
      rw [hkm'] at e9
      unfold kyV at e9
      dsimp only at e9
      have nxt := fun x1 x2 x4 x6 x7 x10 x11 x12 x13 x16 x22 x39 x59 x69 x84 x100 x115 => ih2 d (X.set (H.length + 1) (.cells (prC own2))) c4 st4 own2 free (back : Int) x1 x2 x4 x6 x7 x10 x11 x12 x13 x16 x22 x39 x59 x69 x84 x100 x115 (by omega) hA5 hF5 hssX howX.2 a6 (by omega) (by omega) hgo
      unfold prC at nxt hssX hcX
      unfold run at e8 e9
      rw [A4 hc2]
      simp +contextual -implicitDefEqProofs (maxSteps := 10000000) (disch := first | (and_intros <;> omega -splitDisjunctions) | (push_cast; and_intros <;> omega -splitDisjunctions) | fail) only [e3, e4, e5, e6, e7, e8, e9, hcE, hcX, a2, a3, a5, p1, p2, p3, p4, p5, p6, q1, q2, q3, q4, q5, q6, howc, howXc, hssX, A1, A0, A2, A3, go_sem, seval]
      exact nxt _ _ _ _ _ _ _ _ _ _ _ _ _ _ _ _ _
     ·rw [if_neg a6] at hgo
      cases hgo
      have hkm' : keyM s st4.pos = none := by
       cases hh : keyM s st4.pos with
       | none => rfl
       | some x => rw [hh] at a6; exact absurd rfl a6
      rw [hkm'] at e9
      unfold kyV at e9
      dsimp only at e9
      have hbad := hbad4 10 (by decide) st4.pos
      unfold prC at hssX hcX hfault2 hbad
      unfold rdC at hfault2 hbad
      unfold run at e8 e9
      rw [A4 hc2, ← hR2]
      simp +contextual -implicitDefEqProofs (maxSteps := 10000000) (disch := first | (and_intros <;> omega -splitDisjunctions) | (push_cast; and_intros <;> omega -splitDisjunctions) | fail) only [e3, e4, e5, e6, e7, e8, e9, hfault2, hcE, hcX, a2, a3, a5, p1, p2, p3, p4, p5, p6, q1, q2, q3, q4, q5, q6, howc, howXc, hssX, A1, A0, A2, A3, go_sem, seval]
      subst hQ
      exact ⟨rfl, hbad⟩
  exact key2 (m + 1) m B c1 st1 _ fr la _ _ _ _ _ _ _ _ _ _ _ _ _ _ _ _ _ (by omega) hA1 hF1b hownB.1 hownB.2 hky (by omega) (by omega) hmg
open Go.Proofs.YthlbglmfdjdagaaGreatDoor
theorem IE {rec : Int → Bool → Bool → RS → Option (RR Bool)} {m : Nat} {G H : LH} {b : Nat} {s : ByteArray} {c : RC} {fr : Bool} {la : Int} {st : RS} (IH : FU G b s rec) (hrec : KpB s rec) (h : RAt G H b s c 0 0 fr la st) (outer : PR) (hlt : st.pos < s.size) (hs : s.size ≤ 1048576) (fl : Nat) (hf : fl ≤ G.length) {r : RR Bool} (hm : Hd s rec m st outer = some r) :
 Ret (PostB G H b s c r) (run 75 [.ptr b 0, .agg (prC outer)] fl H) := by
 have hs2 : s.size ≤ 16777216 := by omega
 have hc := h.hp.cell
 have hb := A5 hc
 have hG := h.hp.hG
 have hle := h.le
 obtain ⟨o1, o2, o3, o4, o5, o6⟩ := h.hp.o1
 have hL := h.left (L := [.cells (prC outer)])
 generalize hQ : PostB G H b s c r = Q
 unfold Hd at hm
 have e2 := fun fl H => ED s st.pos hle (by omega) fl H
 rcases A8 hm with ⟨o, cd, pl, m1, rfl⟩ | ⟨k, st1, m1, hm⟩
 ·obtain ⟨w, B, e1, ⟨j, rfl⟩, hbad⟩ := Cy hL 3 7 outer st.pos fl hf m1
  have hbad2 := hbad.trans (RFr.app (H := H))
  clear hbad
  unfold rdC prC at *
  unfold run at *
  rw [z75]
  simp +contextual -implicitDefEqProofs (maxSteps := 10000000) (disch := first | (and_intros <;> omega -splitDisjunctions) | (push_cast; and_intros <;> omega -splitDisjunctions) | fail) only [hc, e1, e2, o1, o2, o3, o4, o5, o6, A1, A0, A2, A3, go_sem, seval]
  subst hQ
  exact ⟨rfl, hbad2⟩
 obtain ⟨w, B, e1, rfl, c1, hA1, hF1⟩ := Cy hL 3 7 outer st.pos fl hf m1
 have hF1b := RFr.from hF1
 clear hF1
 obtain ⟨k1, k2, k3, k4, k5⟩ := Dl (s := s) m1 hle
 generalize hcc : colN s st.pos = cc at *
 unfold prC at e1
 unfold rdC at hc
 unfold run at *
 rw [z75]
 simp +contextual -implicitDefEqProofs (maxSteps := 10000000) (disch := first | (and_intros <;> omega -splitDisjunctions) | (push_cast; and_intros <;> omega -splitDisjunctions) | fail) only [hc, e1, e2, prC, o1, o2, o3, o4, o5, o6, A1, A0, A2, A3, go_sem, seval]
 refine B9 fun c2 R2 hc2 hR2 => ?_
 have key2 : ∀ (m : Nat) (d : Nat) (B : LH) (c' : RC) (st' : RS) (fr' : Bool) (la' : Int) (x1 x3 x4 x7 x8 x29 x42 x52 x84 : Option V), d < m → RAt G B b s c' 0 0 fr' la' st' → RFr b H c B c' → st'.pos < s.size → k < st'.out.length → 0 < st'.depth → DT s rec cc k d st' = some r →
  Ret Q (zEv (Ac (mkR Tryz.prog cfg ok [0, 1, 3, 4, 5, 6, 7, 8, 29, 42, 52, 84] fl) .any H [ResultVar.tmp 4]) (mkR Tryz.prog cfg ok [0, 1, 3, 4, 5, 6, 7, 8, 29, 42, 52, 84] fl) (K.code (Code.loop c2) :: K.blk 0 :: R2) .nrm [some (.ptr b 0), x1, x3, x4, some (.int .i64 (cc : Nat)), some (.int .i64 k), x7, x8, x29, x42, x52, x84] (B)) := by
  intro m
  induction m with
  | zero => intro d B c' st' fr' la' x1 x3 x4 x7 x8 x29 x42 x52 x84 hm; omega
  | succ m ih2 =>
    intro d B c' st' fr' la' x1 x3 x4 x7 x8 x29 x42 x52 x84 hm hA hF hl hk hd hgo
    cases d with
    | zero => cases hgo
    | succ d =>
    rw [G4] at hgo
    have hcB := hA.hp.cell
    have hbB := A5 hcB
    obtain ⟨n1, n2, n3, n4, n5, n6⟩ := hA.hp.o1
    unfold rdC at hcB
    rcases A8 hgo with ⟨o, cd, pl, m2, rfl⟩ | ⟨free, st2, m2, hgo⟩
    ·obtain ⟨w, D, e4, rfl, hbad⟩ := EJ IH hA st'.pos cc true (by omega) hs fl hf m2
     unfold run at e4
     rw [A4 hc2, ← hR2]
     simp +contextual -implicitDefEqProofs (maxSteps := 10000000) (disch := first | (and_intros <;> omega -splitDisjunctions) | (push_cast; and_intros <;> omega -splitDisjunctions) | fail) only [e4, hcB, n1, n2, n3, n4, n5, n6, A1, A0, A2, A3, go_sem, seval]
     subst hQ
     exact ⟨rfl, hbad.trans hF⟩
    obtain ⟨w, D, e4, rfl, la2, c2x, hA2, hF2⟩ := EJ IH hA st'.pos cc true (by omega) hs fl hf m2
    obtain ⟨v1, v2⟩ := HN hrec m2 (by omega) (by omega)
    have hFD := hF.trans hF2
    unfold run at e4
    rcases A8 hgo with ⟨o, cd, pl, m3, rfl⟩ | ⟨back, st3, m3, hgo⟩
    ·obtain ⟨w, E, e5, rfl, hbad⟩ := DG hA2 hs2 fl hf m3
     unfold run at e5
     rw [A4 hc2, ← hR2]
     simp +contextual -implicitDefEqProofs (maxSteps := 10000000) (disch := first | (and_intros <;> omega -splitDisjunctions) | (push_cast; and_intros <;> omega -splitDisjunctions) | fail) only [e4, e5, hcB, n1, n2, n3, n4, n5, n6, A1, A0, A2, A3, go_sem, seval]
     subst hQ
     exact ⟨rfl, hbad.trans hFD⟩
    obtain ⟨w, E, e5, rfl, c3x, hA3, hF3⟩ := DG hA2 hs2 fl hf m3
    obtain ⟨x1, x2⟩ := F5 m3 v1.le
    have hFE := hFD.trans hF3
    have hcE := hA3.hp.cell
    obtain ⟨p1, p2, p3, p4, p5, p6⟩ := hA3.hp.o1
    have hbE := A5 hcE
    have e6 := By hA3 st3.pos hA3.le hs2 fl hf
    have e7 := fun fl H => ED s st3.pos hA3.le (by omega) fl H
    have e9 := fun fl H => DF s st3.pos fl H (by omega)
    have KK := v1.trans x1
    have Kd := KK.dep; have Ko := KK.out
    have v1le := v1.le
    have hfault := fun cd pl => Ao hA3 cd pl fl hf
    have hbad3 := fun cd (hcd : cd ≠ 0) pl => (Bo hA3 (cd := cd) (pl := pl) hcd).trans hFE
    unfold rdC at hcE hfault hbad3
    unfold run at e5
    by_cases a1 : Aw s st3.pos ∨ colN s st3.pos < cc ∨ (colN s st3.pos = cc ∧ ¬ BG s st3.pos)
    ·rw [if_pos a1] at hgo
     obtain ⟨w, X, e8, hP0⟩ := K5 (la := 0) hA3 k (by omega) (by omega) (by omega) fl hf hgo
     obtain ⟨x, rfl⟩ := hP0.bool
     have hP := hP0.trans hFE
     rw [hQ] at hP
     clear hP0
     unfold run at e8
     rw [A4 hc2, ← hR2]
     by_cases a2 : Aw s st3.pos
     ·simp +contextual -implicitDefEqProofs (maxSteps := 10000000) (disch := first | (and_intros <;> omega -splitDisjunctions) | (push_cast; and_intros <;> omega -splitDisjunctions) | fail) only [e4, e5, e6, e7, e8, hcB, hcE, a2, n1, n2, n3, n4, n5, n6, p1, p2, p3, p4, p5, p6, A1, A0, A2, A3, go_sem, seval]
      exact hP
     ·by_cases a3n : colN s st3.pos < cc
      ·have a3 : ((colN s st3.pos : Int) < (cc : Nat)) = True := eq_true (by omega)
       simp +contextual -implicitDefEqProofs (maxSteps := 10000000) (disch := first | (and_intros <;> omega -splitDisjunctions) | (push_cast; and_intros <;> omega -splitDisjunctions) | fail) only [e4, e5, e6, e7, e8, hcB, hcE, a2, a3, n1, n2, n3, n4, n5, n6, p1, p2, p3, p4, p5, p6, A1, A0, A2, A3, go_sem, seval]
       exact hP
      ·have a3 : ((colN s st3.pos : Int) < (cc : Nat)) = False := eq_false (by omega)
       obtain ⟨a4, a5⟩ := (a1.resolve_left a2).resolve_left a3n
       have a6 : ((colN s st3.pos : Int) = (cc : Nat)) = True := eq_true (by omega)
       simp +contextual -implicitDefEqProofs (maxSteps := 10000000) (disch := first | (and_intros <;> omega -splitDisjunctions) | (push_cast; and_intros <;> omega -splitDisjunctions) | fail) only [e4, e5, e6, e7, e8, e9, hcB, hcE, a2, a3, a5, a6, n1, n2, n3, n4, n5, n6, p1, p2, p3, p4, p5, p6, A1, A0, A2, A3, go_sem, seval]
       exact hP
    rw [if_neg a1] at hgo
    have a2 : ¬ Aw s st3.pos := fun kx => a1 (.inl kx)
    have a3 : ((colN s st3.pos : Int) < (cc : Nat)) = False := eq_false (fun kx => a1 (.inr (.inl (by omega))))
    by_cases a4 : cc < colN s st3.pos
    ·rw [if_pos a4] at hgo
     cases hgo
     have a5 : ((cc : Int) < (colN s st3.pos : Nat)) = True := eq_true (by omega)
     have a6 : ((colN s st3.pos : Int) = (cc : Nat)) = False := eq_false (by omega)
     have hbad := hbad3 9 (by decide) st3.pos
     rw [A4 hc2, ← hR2]
     simp +contextual -implicitDefEqProofs (maxSteps := 10000000) (disch := first | (and_intros <;> omega -splitDisjunctions) | (push_cast; and_intros <;> omega -splitDisjunctions) | fail) only [e4, e5, e6, e7, hfault, hcB, hcE, a2, a3, a5, a6, n1, n2, n3, n4, n5, n6, p1, p2, p3, p4, p5, p6, A1, A0, A2, A3, go_sem, seval]
     subst hQ
     exact ⟨rfl, hbad⟩
    rw [if_neg a4] at hgo
    have a5 : ((cc : Int) < (colN s st3.pos : Nat)) = False := eq_false (by omega)
    have a7 : colN s st3.pos = cc := by
     have : ¬ colN s st3.pos < cc := fun kx => a1 (.inr (.inl kx))
     omega
    have a6 : ((colN s st3.pos : Int) = (cc : Nat)) = True := eq_true (by omega)
    have a8 : BG s st3.pos := Classical.byContradiction fun kx => a1 (.inr (.inr ⟨a7, kx⟩))
    rw [A4 hc2]
    simp +contextual -implicitDefEqProofs (maxSteps := 10000000) (disch := first | (and_intros <;> omega -splitDisjunctions) | (push_cast; and_intros <;> omega -splitDisjunctions) | fail) only [e4, e5, e6, e7, e9, hcB, hcE, a2, a3, a5, a6, a8, n1, n2, n3, n4, n5, n6, p1, p2, p3, p4, p5, p6, A1, A0, A2, A3, go_sem, seval]
    exact ih2 d E c3x st3 free (back : Int) _ _ _ _ _ _ _ _ _ (by omega) hA3 hFE (EU a8) (by omega) (by omega) hgo
 exact key2 (m + 1) m B c1 st1 fr la _ _ _ _ _ _ _ _ _ (by omega) hA1 hF1b (by omega) (by omega) (by omega) hm
theorem Cr (s : ByteArray) : ∀ m, KpB s (Cq s m)
 | 0 => fun n i l st st' u h => by cases h
 | m + 1 => fun n i l st st' u h hp => by
   rw [HU] at h
   rcases A8 h with ⟨o, cc, q, m2, m3⟩ | ⟨own, st1, m2, h⟩
   ·cases m3
   obtain ⟨k1, k2, k3, k4⟩ := Ba m2 hp
   by_cases a1 : own.has = true ∧ rsB s own.fin = true
   ·rw [if_pos a1] at h
    obtain ⟨b1, b2⟩ := k2 a1.1
    have hfs : own.fin ≤ s.size := by have := k1.le; omega
    rcases A8 h with ⟨o, cc, q, m3, m4⟩ | ⟨_, st2, m3, h⟩
    ·cases m4
    have ho := Qs m3
    have g1 := CH s own.fin; have g2 := BL hfs
    have kd := k1.dep; have ko := k1.out
    have K2 : Kp s st st2 := by
     rw [ho]
     exact ⟨kd, ko, by show st.pos ≤ gpN s own.fin; omega, g2⟩
    by_cases a2 : Aw s st2.pos ∨ ¬ EV s st2.pos n l
    ·rw [if_pos a2] at h
     have rr := Ch hfs
     have := Qm h K2.le rr.2
     have kd := K2.dep; have ko := K2.out
     exact ⟨by omega, by omega, by omega, by omega⟩
    ·rw [if_neg a2] at h
     rcases A8 h with ⟨o, cc, q, m4, m5⟩ | ⟨own2, st3, m4, h⟩
     ·cases m5
     have k5 := (Ba m4 K2.le).1
     exact (K2.trans k5).trans (M4 (Cr s m) h k5.le).1
   ·rw [if_neg a1] at h
    exact k1.trans (M4 (Cr s m) h k1.le).1
def HS (st : RS) : Prop := HF st.hands ∧ ∀ e ∈ st.out, e.text.size ≤ 360001
def Tt {α : Type} (x : Option (RR α)) (Q : α → RS → Prop) : Prop :=
 ∃ r, x = some r ∧ match r with
  | .ok a st => Q a st ∧ HS st
  | .bad o _ _ => o.length ≤ 950000 ∧ ∀ e ∈ o, e.text.size ≤ 360001
theorem Tt.mb {α β : Type} {x : Option (RR α)} {k : α → RS → Option (RR β)} {Q : α → RS → Prop} {Q' : β → RS → Prop} (h : Tt x Q) (hk : ∀ a st, x = some (.ok a st) → Q a st → HS st → Tt (k a st) Q') : Tt (Lg.mb x k) Q' := by
 obtain ⟨r, h1, h2⟩ := h
 cases r with
 | bad o c p => exact ⟨.bad o c p, by rw [h1]; rfl, h2⟩
 | ok a st =>
   obtain ⟨r2, h3, h4⟩ := hk a st h1 h2.1 h2.2
   exact ⟨r2, by rw [h1]; exact h3, h4⟩
theorem Tt.mono {α : Type} {x : Option (RR α)} {Q Q' : α → RS → Prop} (h : Tt x Q) (hk : ∀ a st, x = some (.ok a st) → Q a st → Q' a st) : Tt x Q' := by
 obtain ⟨r, h1, h2⟩ := h
 cases r with
 | bad o c p => exact ⟨_, h1, h2⟩
 | ok a st => exact ⟨_, h1, hk a st h1 h2.1, h2.2⟩
theorem Tt.ok {α : Type} {a : α} {st : RS} {Q : α → RS → Prop} (h : Q a st) (hh : HS st) : Tt (okM a st) Q := ⟨_, rfl, h, hh⟩
theorem Tt.bad {α : Type} {st : RS} {c p : Int} {Q : α → RS → Prop} (h : st.out.length ≤ 950000) (hh : HS st := by assumption) : Tt (badM st c p) Q := ⟨_, rfl, h, hh.2⟩
theorem Tt.ite {α : Type} {c : Prop} [Decidable c] {a b : Option (RR α)} {Q : α → RS → Prop} (h1 : c → Tt a Q) (h2 : ¬ c → Tt b Q) : Tt (if c then a else b) Q := by
 by_cases h : c
 ·rw [if_pos h]; exact h1 h
 ·rw [if_neg h]; exact h2 h
def Bg (s : ByteArray) (st : RS) : Nat := st.out.length + 8 * (s.size - st.pos)
theorem E5 {st : RS} {e : Ev} (h : st.out.length ≤ 950000) (he : fitE e) (hh : HS st) (ht : e.text.size ≤ 360001 := by exact Nat.zero_le _) : Tt (Ds st e) (fun _ st' => st' = st.tell e) := by
 refine ⟨.ok st.out.length (st.tell e), ?_, rfl, hh.1, fun x hx => ?_⟩
 rotate_left
 ·rcases List.mem_append.1 (show x ∈ st.out ++ [e] from hx) with h | h
  ·exact hh.2 x h
  ·rw [List.mem_singleton.1 h]; exact ht
 unfold Ds
 rw [if_pos ⟨by omega, he⟩]
theorem D0 {st : RS} {e : Ev} : (st.tell e).out.length = st.out.length + 1 := by simp [RS.tell]
theorem D2 {st : RS} {style : Int} {t : ByteArray} {p : PR} (h : st.out.length ≤ 950000) (ht : t.size ≤ 360001) (hp : PF p) (hh : HS st) : Tt (E6 st style t p) (fun _ st' => st'.out.length = st.out.length + 1 ∧ st'.pos = st.pos) := by
 obtain ⟨h1, h2⟩ := hp
 refine (E5 h ⟨by show t.size ≤ _; omega, by show p.anchor.size ≤ _; omega, by show p.tag.size ≤ _; omega⟩ hh ht).mb fun a st' _ e hs => Tt.ok ?_ hs
 subst e
 exact ⟨D0, rfl⟩
theorem PL {s : ByteArray} {st : RS} (h : st.out.length ≤ 950000) (hh : HS st) : Tt (GV s st) (fun _ st' => st' = st) := by
 unfold GV
 exact Tt.ite (fun _ => Tt.ok rfl hh) (fun _ => Tt.bad h)
theorem Ho {s : ByteArray} {st : RS} (h : st.out.length ≤ 950000) (hh : HS st) : Tt (gapM s st) (fun _ st' => st' = st.at (gpN s st.pos)) := PL (st := st.at (gpN s st.pos)) h hh
theorem V2 {s : ByteArray} {f : Bool} {st : RS} {p : PR} (hp : st.pos ≤ s.size) (h : st.out.length ≤ 950000) (hh : HS st) (hf : PF p) : Tt (H3 s f st p) (fun p' st' => PF p' ∧ st'.out = st.out) := by
 unfold H3
 refine Tt.ite (fun h1 => Tt.ite (fun _ => Tt.bad h) (fun h2 => ?_)) (fun h1 => Tt.ite (fun _ => Tt.bad h) (fun h2 => ?_))
 ·have h3 : (AP s st.pos).2.2 = true := by
   cases h4 : (AP s st.pos).2.2 with
   | true => rfl
   | false => exact absurd (.inl h4) h2
  exact Tt.ok ⟨⟨(Cd hp h3).2.2.1, hf.2⟩, rfl⟩ hh
 ·have h3 : (tagM s st.pos).2.2 = true := by
   cases h4 : (tagM s st.pos).2.2 with
   | true => rfl
   | false => exact absurd (.inl h4) h2
  cases h5 : tagR (tagM s st.pos).1 st.hands with
  | none => exact Tt.bad h
  | some t => exact Tt.ok ⟨⟨hf.1, Vn (IX hp h3).2.2 hh.1 h5⟩, rfl⟩ hh
theorem NZ {s : ByteArray} {f : Bool} : ∀ (d : Nat) {st : RS} {p : PR}, s.size - st.pos < d → st.pos ≤ s.size → st.out.length ≤ 950000 → HS st → PF p → Tt (E2 s f d st p) (fun p' st' => PF p' ∧ st'.out = st.out) := by
 intro d
 induction d with
 | zero => intro st p h; omega
 | succ d ih =>
   intro st p hd hp h hh hf
   rw [CM]
   refine Tt.ite (fun h1 => ?_) (fun _ => Tt.ok ⟨hf, rfl⟩ hh)
   refine (V2 hp h hh hf).mb fun p2 st2 he hq hs => ?_
   obtain ⟨k1, k2, _⟩ := Lo he hp
   have hle := k1.le
   refine (ih (by omega) hle (by rw [hq.2]; exact h) hs hq.1).mono fun a st3 _ hq3 => ⟨hq3.1, hq3.2.trans hq.2⟩
theorem FI {s : ByteArray} {f : Bool} {st : RS} (hp : st.pos ≤ s.size) (h : st.out.length ≤ 950000) (hh : HS st) : Tt (CN s f st) (fun p' st' => PF p' ∧ st'.out = st.out) :=
 NZ _ (by omega) hp h hh ⟨Nat.zero_le _, Nat.zero_le _⟩
theorem JV {s : ByteArray} {st : RS} (hp : st.pos ≤ s.size) (h : st.out.length ≤ 950000) (hh : HS st) : Tt (Ez s st) (fun p' st' => PF p' ∧ st'.out = st.out) := by
 unfold Ez
 refine (FI hp h hh).mb fun p st2 he hq hs => Tt.ite (fun _ => ?_) (fun _ => Tt.ok hq hs)
 refine (PL (by rw [hq.2]; exact h) hs).mb fun a st3 _ e hs3 => ?_
 subst e
 exact Tt.ok hq hs3
theorem FA {s : ByteArray} {st : RS} {p : PR} (hp : st.pos ≤ s.size) (h : st.out.length ≤ 950000) (hh : HS st) : Tt (CG s st p) (fun _ st' => st'.out.length = st.out.length + 1) := by
 unfold CG
 refine Tt.ite (fun _ => Tt.bad h) (fun h1 => Tt.ite (fun _ => Tt.bad h) (fun _ => ?_))
 have hr := Cd hp (by simpa using h1)
 cases h3 : Ct st.names (AP s st.pos).1 with
 | none => exact Tt.bad h
 | some k =>
   dsimp only
   refine Tt.ite (fun _ => Tt.bad h) (fun _ => ?_)
   refine (E5 h ⟨by show (AP s st.pos).1.size ≤ _; omega, Nat.zero_le _, Nat.zero_le _⟩ hh (by show (AP s st.pos).1.size ≤ _; omega)).mb fun a st2 _ e hs => Tt.ok ?_ hs
   subst e
   exact D0
theorem FL {s : ByteArray} {st : RS} {p : PR} (hsz : s.size ≤ 60000) (hp : st.pos ≤ s.size) (h : st.out.length ≤ 950000) (hh : HS st) (hf : PF p) : Tt (CO s st p) (fun _ st' => st'.out.length = st.out.length + 1) := by
 unfold CO
 refine Tt.ite (fun _ => Tt.bad h) (fun _ => ?_)
 have := SH hp
 exact (D2 h (by omega) hf hh).mb fun a st2 _ e hs => Tt.ok e.1 hs
theorem It {s : ByteArray} {st : RS} {p : PR} {n : Int} {f : Bool} (hsz : s.size ≤ 60000) (hp : st.pos ≤ s.size) (h : st.out.length ≤ 950000) (hh : HS st) (hf : PF p) : Tt (Dm s st p n f) (fun _ st' => st'.out.length = st.out.length + 1) := by
 unfold Dm
 have := Qv (n := n) (f := f) hp
 exact (D2 h (by omega) hf hh).mb fun a st2 _ e hs => Tt.ok e.1 hs
theorem Me {s : ByteArray} {st : RS} {c : Int} (h : st.out.length ≤ 950000) (hh : HS st) : Tt (DM s c st) (fun _ st' => st'.out = st.out) := by
 unfold DM
 exact Tt.ite (fun _ => Tt.ok rfl hh) (fun _ => Tt.ite (fun _ => Tt.ok rfl hh) (fun _ => Tt.bad h))
theorem Ip {st : RS} {kind style : Int} {p : PR} {sign : Nat} (h : st.out.length ≤ 950000) (hh : HS st) (hf : PF p) : Tt (GZ st kind style p sign) (fun _ st' => st'.out.length = st.out.length + 1 ∧ st'.pos = st.pos) := by
 unfold GZ
 refine Tt.ite (fun _ => Tt.bad h) (fun _ => ?_)
 obtain ⟨h1, h2⟩ := hf
 refine (E5 (st := ⟨st.pos, st.out, st.names, st.ended, st.hands, st.depth + 1⟩) h ⟨Nat.zero_le _, by show p.anchor.size ≤ _; omega, by show p.tag.size ≤ _; omega⟩ hh).mono fun a st' _ e => ?_
 subst e
 exact ⟨D0, rfl⟩
theorem LD {st : RS} {k : Nat} (h : st.out.length ≤ 950000) (hh : HS st) : Tt (GI st k) (fun _ st' => st'.out.length = st.out.length + 1 ∧ st'.pos = st.pos) := by
 unfold GI
 refine (E5 (st := ⟨st.pos, st.out, st.names, st.ended, st.hands, st.depth - 1⟩) h ⟨Nat.zero_le _, Nat.zero_le _, Nat.zero_le _⟩ hh).mb fun a st' _ e hs => Tt.ok ?_ hs
 subst e
 exact ⟨D0, rfl⟩
def FT (s : ByteArray) (rec : RS → Option (RR Unit)) (n : Nat) : Prop :=
 ∀ st, st.pos < s.size → HS st → Bg s st ≤ 900000 → s.size - st.pos < n → Tt (rec st) (fun _ st' => Bg s st' + 5 ≤ Bg s st ∧ st.pos < st'.pos ∧ st'.pos ≤ s.size)
theorem UN {s : ByteArray} {rec : RS → Option (RR Unit)} {n : Nat} (hrec : FT s rec n) (k : Nat) : ∀ (d : Nat) (st : RS), s.size - st.pos < d → s.size - st.pos < n → st.pos ≤ s.size → HS st → Bg s st ≤ 900000 → Tt (Fg s rec k d st) (fun _ st' => Bg s st' ≤ Bg s st ∧ st.pos < st'.pos ∧ st'.pos ≤ s.size) := by
 intro d
 induction d with
 | zero => intro st h; omega
 | succ d ih =>
   intro st hd hn hp hh hb
   have hb0 := hb
   unfold Bg at hb
   rw [Im]
   refine (Ho (by omega) hh).mb fun _ st1 he1 q1 h1 => ?_
   obtain ⟨g1, g2, g3⟩ := Bu he1 hp
   have gp := g1.pos
   have ho1 : st1.out = st.out := by rw [q1]; rfl
   refine Tt.ite (fun _ => ?_) (fun _ => ?_)
   ·refine (LD (st := st1.at (st1.pos + 1)) (by show st1.out.length ≤ _; rw [ho1]; omega) h1).mono fun _ st2 _ q => ?_
    obtain ⟨a, b⟩ := q
    have e1 : (st1.at (st1.pos + 1)).out = st1.out := rfl
    have e2 : (st1.at (st1.pos + 1)).pos = st1.pos + 1 := rfl
    rw [e1, ho1] at a
    rw [e2] at b
    unfold Bg
    omega
   ·have hb1 : Bg s st1 ≤ Bg s st := by unfold Bg; rw [ho1]; omega
    refine (hrec st1 g2 h1 (by omega) (by omega)).mb fun _ st2 he2 q2 h2 => ?_
    have hb2 : Bg s st2 ≤ 900000 := by omega
    have hb2' := hb2
    unfold Bg at hb2'
    refine (Ho (by omega) h2).mb fun _ st3 he3 q3 h3 => ?_
    obtain ⟨l1, l2, l3⟩ := Bu he3 q2.2.2
    have lp := l1.pos
    have ho3 : st3.out = st2.out := by rw [q3]; rfl
    refine (Me (by rw [ho3]; omega) h3).mb fun _ st4 he4 q4 h4 => ?_
    have c1 := Dw he4 l2
    have cp := c1.pos; have cl := c1.le
    have hb4 : Bg s st4 ≤ Bg s st2 := by unfold Bg; rw [q4, ho3]; omega
    refine (ih st4 (by omega) (by omega) cl h4 (by omega)).mono fun _ st5 _ q5 => ⟨by omega, by omega, q5.2.2⟩
theorem Uv {s : ByteArray} {st : RS} {p : PR} (hsz : s.size ≤ 60000) (hp : st.pos ≤ s.size) (h : st.out.length ≤ 950000) (hh : HS st) (hf : PF p) : Tt (Ia s st p) (fun _ st' => st'.out.length = st.out.length + 1 ∧ (p.has = false → st.pos < st'.pos)) := by
 unfold Ia
 refine Tt.ite (fun _ => (FA hp h hh).mono fun _ st' e q => ⟨q, fun _ => (BU e hp).2⟩) (fun _ => Tt.ite (fun _ => (FL hsz hp h hh hf).mono fun _ st' e q => ⟨q, fun _ => (BZ e hp).2⟩) (fun _ => Tt.ite (fun k => (It hsz hp h hh hf).mono fun _ st' e q => ⟨q, fun _ => (Cu e k hp).2⟩) (fun _ => Tt.ite (fun k => ?_) (fun _ => Tt.bad h))))
 exact (D2 h (by decide) hf hh).mono fun _ st' e q => ⟨q.1, fun k2 => by rw [k.1] at k2; cases k2⟩
theorem PF0 : PF pr0 := ⟨Nat.zero_le _, Nat.zero_le _⟩
theorem Uz {s : ByteArray} {rec : RS → Option (RR Unit)} {n : Nat} (hrec : FT s rec n) {q : Bool} {st : RS} (hp : st.pos < s.size) (hn : s.size - st.pos ≤ n) (hh : HS st) (hb : Bg s st ≤ 900000) : Tt (Ih s rec q st) (fun _ st' => Bg s st' ≤ Bg s st + 1 ∧ st.pos ≤ st'.pos ∧ st'.pos ≤ s.size) := by
 have hb0 := hb
 unfold Bg at hb
 unfold Ih
 refine Tt.ite (fun _ => ?_) (fun _ => ?_)
 ·refine (Ho (st := st.at (st.pos + 1)) (by show st.out.length ≤ _; omega) hh).mb fun _ st1 he1 q1 h1 => ?_
  obtain ⟨g1, g2, g3⟩ := Bu he1 (show st.pos + 1 ≤ s.size by omega)
  have gp : st.pos + 1 ≤ st1.pos := g1.pos
  have ho1 : st1.out = st.out := by rw [q1]; rfl
  have hb1 : Bg s st1 ≤ Bg s st := by unfold Bg; rw [ho1]; omega
  refine Tt.ite (fun _ => ?_) (fun _ => ?_)
  ·refine (D2 (by rw [ho1]; omega) (by decide) PF0 h1).mono fun _ st2 _ q2 => ?_
   unfold Bg at *
   rw [ho1] at q2
   omega
  ·refine (hrec st1 g2 h1 (by omega) (by omega)).mono fun _ st2 _ q2 => ⟨by omega, by omega, q2.2.2⟩
 ·refine (D2 (by omega) (by decide) PF0 hh).mono fun _ st2 _ q2 => ?_
  unfold Bg at *
  omega
theorem V0 {s : ByteArray} {rec : RS → Option (RR Unit)} {n : Nat} (hsz : s.size ≤ 60000) (hrec : FT s rec n) {st : RS} (hp : st.pos < s.size) (hn : s.size - st.pos ≤ n) (hh : HS st) (hb : Bg s st ≤ 900000) : Tt (JR s rec st) (fun _ st' => Bg s st' ≤ Bg s st ∧ st.pos < st'.pos ∧ st'.pos ≤ s.size) := by
 have hb0 := hb
 unfold Bg at hb
 unfold JR
 refine (JV (by omega) (by omega) hh).mb fun p st1 he1 q1 h1 => ?_
 obtain ⟨k1, k2, k3, k4⟩ := EA he1 (by omega) hp
 have kp := k1.pos
 refine (Uv hsz k1.le (by rw [q1.2]; omega) h1 q1.1).mb fun _ st2 he2 q2 h2 => ?_
 have k5 := Ib he2 k1.le
 have k5p := k5.pos; have k5l := k5.le
 have hstrict : st.pos < st2.pos := by
  cases hps : p.has with
  | true => have := k3 hps; omega
  | false => have := q2.2 hps; omega
 have ho2 : st2.out.length = st.out.length + 1 := by rw [q2.1, q1.2]
 have hb2 : Bg s st2 + 7 ≤ Bg s st := by unfold Bg; omega
 refine (Ho (by omega) h2).mb fun _ st3 he3 q3 h3 => ?_
 obtain ⟨l1, l2, l3⟩ := Bu he3 k5l
 have lp := l1.pos
 have ho3 : st3.out = st2.out := by rw [q3]; rfl
 have hb3 : Bg s st3 ≤ Bg s st2 := by unfold Bg; rw [ho3]; omega
 refine (Uz hrec l2 (by omega) h3 (by omega)).mono fun _ st4 _ q4 => ⟨by omega, by omega, q4.2.2⟩
theorem Wa {s : ByteArray} {rec : RS → Option (RR Unit)} {n : Nat} (hsz : s.size ≤ 60000) (hrec : FT s rec n) (k : Nat) : ∀ (d : Nat) (st : RS), s.size - st.pos < d → s.size - st.pos < n → st.pos ≤ s.size → HS st → Bg s st ≤ 900000 → Tt (JG s rec k d st) (fun _ st' => Bg s st' ≤ Bg s st ∧ st.pos < st'.pos ∧ st'.pos ≤ s.size) := by
 intro d
 induction d with
 | zero => intro st h; omega
 | succ d ih =>
   intro st hd hn hp hh hb
   have hb0 := hb
   unfold Bg at hb
   rw [Le]
   refine (Ho (by omega) hh).mb fun _ st1 he1 q1 h1 => ?_
   obtain ⟨g1, g2, g3⟩ := Bu he1 hp
   have gp := g1.pos
   have ho1 : st1.out = st.out := by rw [q1]; rfl
   refine Tt.ite (fun _ => ?_) (fun _ => ?_)
   ·refine (LD (st := st1.at (st1.pos + 1)) (by show st1.out.length ≤ _; rw [ho1]; omega) h1).mono fun _ st2 _ q => ?_
    obtain ⟨a, b⟩ := q
    have e1 : (st1.at (st1.pos + 1)).out = st1.out := rfl
    have e2 : (st1.at (st1.pos + 1)).pos = st1.pos + 1 := rfl
    rw [e1, ho1] at a
    rw [e2] at b
    unfold Bg
    omega
   ·have hb1 : Bg s st1 ≤ Bg s st := by unfold Bg; rw [ho1]; omega
    refine (V0 hsz hrec g2 (by omega) h1 (by omega)).mb fun _ st2 he2 q2 h2 => ?_
    have hb2 : Bg s st2 ≤ 900000 := by omega
    have hb2' := hb2
    unfold Bg at hb2'
    refine (Ho (by omega) h2).mb fun _ st3 he3 q3 h3 => ?_
    obtain ⟨l1, l2, l3⟩ := Bu he3 q2.2.2
    have lp := l1.pos
    have ho3 : st3.out = st2.out := by rw [q3]; rfl
    refine (Me (by rw [ho3]; omega) h3).mb fun _ st4 he4 q4 h4 => ?_
    have c1 := Dw he4 l2
    have cp := c1.pos; have cl := c1.le
    have hb4 : Bg s st4 ≤ Bg s st2 := by unfold Bg; rw [q4, ho3]; omega
    refine (ih st4 (by omega) (by omega) cl h4 (by omega)).mono fun _ st5 _ q5 => ⟨by omega, by omega, q5.2.2⟩
theorem OU {s : ByteArray} {rec : RS → Option (RR Unit)} {n : Nat} (hsz : s.size ≤ 60000) (hrec : FT s rec n) {st : RS} {p : PR} (hp : st.pos ≤ s.size) (hn : s.size - st.pos ≤ n) (hh : HS st) (hf : PF p) (hb : Bg s st ≤ 900000) :
 Tt (HW s rec n st p) (fun _ st' => ((p.has = false ∨ bA s st.pos = 91 ∨ bA s st.pos = 123) → Bg s st' + 5 ≤ Bg s st ∧ st.pos < st'.pos) ∧ Bg s st' ≤ Bg s st + 1 ∧ st.pos ≤ st'.pos ∧ st'.pos ≤ s.size) := by
 have hb0 := hb
 unfold Bg at hb
 unfold HW
 have one : ∀ (st' : RS), st'.out.length = st.out.length + 1 → st.pos < st'.pos → st'.pos ≤ s.size → ((p.has = false ∨ bA s st.pos = 91 ∨ bA s st.pos = 123) → Bg s st' + 5 ≤ Bg s st ∧ st.pos < st'.pos) ∧ Bg s st' ≤ Bg s st + 1 ∧ st.pos ≤ st'.pos ∧ st'.pos ≤ s.size := by
  intro st' h1 h2 h3
  have : Bg s st' + 5 ≤ Bg s st := by unfold Bg; omega
  exact ⟨fun _ => ⟨this, h2⟩, by omega, by omega, h3⟩
 have coll : ∀ (x : Option (RR Nat)) (go : Nat → RS → Option (RR Unit)), bA s st.pos = 91 ∨ bA s st.pos = 123 → Tt x (fun _ st' => st'.out.length = st.out.length + 1 ∧ st'.pos = st.pos) →
  (∀ k st1, s.size - st1.pos < n → st1.pos ≤ s.size → HS st1 → Bg s st1 ≤ 900000 → Tt (go k st1) (fun _ st' => Bg s st' ≤ Bg s st1 ∧ st1.pos < st'.pos ∧ st'.pos ≤ s.size)) →
  Tt (mb x fun k st => go k (st.at (st.pos + 1))) (fun _ st' => ((p.has = false ∨ bA s st.pos = 91 ∨ bA s st.pos = 123) → Bg s st' + 5 ≤ Bg s st ∧ st.pos < st'.pos) ∧ Bg s st' ≤ Bg s st + 1 ∧ st.pos ≤ st'.pos ∧ st'.pos ≤ s.size) := by
  intro x go hbr hx hgo
  have hlt : st.pos < s.size := by rcases hbr with k | k <;> exact Ai k (by omega)
  refine hx.mb fun k st1 _ q1 h1 => ?_
  have e1 : (st1.at (st1.pos + 1)).out = st1.out := rfl
  have e2 : (st1.at (st1.pos + 1)).pos = st1.pos + 1 := rfl
  have hbb : Bg s (st1.at (st1.pos + 1)) + 7 ≤ Bg s st := by unfold Bg; rw [e1, e2]; omega
  refine (hgo k (st1.at (st1.pos + 1)) (by rw [e2]; omega) (by rw [e2]; omega) h1 (by omega)).mono fun _ st2 _ q2 => ?_
  rw [e2] at q2
  have hq : Bg s st2 + 5 ≤ Bg s st := by omega
  exact ⟨fun _ => ⟨hq, by omega⟩, by omega, by omega, q2.2.2⟩
 refine Tt.ite (fun h1 => ?_) (fun _ => Tt.ite (fun h2 => ?_) (fun _ => Tt.ite (fun _ => ?_) (fun _ => Tt.ite (fun _ => ?_) (fun _ => Tt.ite (fun k => ?_) (fun _ => Tt.ite (fun k => ?_) (fun _ => Tt.bad (by omega)))))))
 ·exact coll _ (fun k st => Fg s rec k n st) (.inl h1) (Ip (by omega) hh hf) (fun k st1 a b c d => UN hrec k n st1 a a b c d)
 ·exact coll _ (fun k st => JG s rec k n st) (.inr h2) (Ip (by omega) hh hf) (fun k st1 a b c d => Wa hsz hrec k n st1 a a b c d)
 ·exact (FA hp (by omega) hh).mono fun _ st' e q => one st' q (BU e hp).2 (BU e hp).1.le
 ·exact (FL hsz hp (by omega) hh hf).mono fun _ st' e q => one st' q (BZ e hp).2 (BZ e hp).1.le
 ·exact (It hsz hp (by omega) hh hf).mono fun _ st' e q => one st' q (Cu e k hp).2 (Cu e k hp).1.le
 ·refine (D2 (by omega) (by decide) hf hh).mono fun _ st' e q => ⟨fun j => ?_, ?_, by omega, by omega⟩
  ·rcases j with j | j | j
   ·rw [k.1] at j; cases j
   ·rcases k.2 with m | m | m <;> omega
   ·rcases k.2 with m | m | m <;> omega
  ·unfold Bg; omega
theorem Px {s : ByteArray} (hsz : s.size ≤ 60000) : ∀ n, FT s (Ic s n) n
 | 0 => fun st _ _ _ h => by omega
 | n + 1 => fun st hp hh hb hn => by
   have hb0 := hb
   unfold Bg at hb
   rw [KT]
   refine (JV (by omega) (by omega) hh).mb fun p st1 he1 q1 h1 => ?_
   obtain ⟨k1, k2, k3, k4⟩ := EA he1 (by omega) hp
   have kp := k1.pos
   have hb1 : Bg s st1 ≤ Bg s st := by unfold Bg; rw [q1.2]; omega
   refine (OU hsz (Px hsz n) k1.le (by omega) h1 q1.1 (by omega)).mono fun _ st2 _ q2 => ?_
   obtain ⟨r1, r2, r3, r4⟩ := q2
   cases hps : p.has with
   | false =>
     have := r1 (.inl hps)
     exact ⟨by omega, by omega, r4⟩
   | true =>
     have hlt := k3 hps
     have : Bg s st1 + 8 ≤ Bg s st := by unfold Bg; rw [q1.2]; omega
     exact ⟨by omega, by omega, r4⟩
open Go.Proofs.YthlbglmfdjdagaaGreatDoor
theorem Dy {s : ByteArray} {p : Nat} (h : ¬ (keyM s p).isSome = true) : keyM s p = none := by
 cases hh : keyM s p with
 | none => rfl
 | some x => rw [hh] at h; exact absurd rfl h
theorem IF {m : Nat} {G H : LH} {b : Nat} {s : ByteArray} {c : RC} {fr : Bool} {la : Int} {st : RS} (IH : FU G b s (Cq s m)) (h : RAt G H b s c 0 0 fr la st) (n : Int) (inl loose : Bool) (hs : s.size ≤ 1048576) (fl : Nat) (hf : fl ≤ G.length) {r : RR Bool} (hm : Cq s (m + 1) n inl loose st = some r) :
 Ret (PostB G H b s c r) (run 63 [.ptr b 0, .int .i64 n, .bool inl, .bool loose] fl H) := by
 have hs2 : s.size ≤ 16777216 := by omega
 have hG := h.hp.hG
 have hle := h.le
 have hrec := Cr s m
 rw [HU] at hm
 generalize hQ : PostB G H b s c r = Q
 rcases A8 hm with ⟨o, cd, pl, m1, rfl⟩ | ⟨own, st1, m1, hmg⟩
 ·obtain ⟨w, B, e1, ⟨p, rfl⟩, hbad⟩ := AV h false hs fl hf m1
  obtain ⟨c', fr', la', st', b1, b2, b3, b4⟩ := hbad
  have hxB := b1.hp.hx.len
  have hfin : BadA G H b s c o cd pl (B ++ [.cells (prC p)]) := ⟨c', fr', la', st', b1.left, b2, b3, b4.trans RFr.app⟩
  unfold prC at *
  unfold run at *
  rw [z63]
  simp +contextual -implicitDefEqProofs (maxSteps := 10000000) (disch := first | (and_intros <;> omega -splitDisjunctions) | (push_cast; and_intros <;> omega -splitDisjunctions) | fail) only [e1, A1, A0, A2, A3, go_sem, seval]
  subst hQ
  exact ⟨rfl, hfin⟩
 obtain ⟨w, B, e1, rfl, c1, hA1, hF1⟩ := AV h false hs fl hf m1
 obtain ⟨k1, k2, k3, k4⟩ := Ba m1 hle
 have hxB := hA1.hp.hx.len
 have hxl := h.hp.hx.len
 have hlB := hF1.fx.len
 have hn9 : B.length ∉ rbl b c1 := fun k => by have := (hA1.hp.rb _ k).2; omega
 have hn11 : B.length + 1 ∉ rbl b c1 := fun k => by have := (hA1.hp.rb _ k).2; omega
 obtain ⟨o1, o2, o3, o4, o5, o6⟩ := hA1.hp.o1
 have hcB := hA1.hp.cell
 have hbB := A5 hcB
 have rest := fun p fl H => CW s p fl H (by omega : s.size ≤ 1099511627776)
 have body : ∀ (E : LH) (c2 : RC) (fr2 : Bool) (la2 : Int) (st2 : RS) (i : Bool) (ou ow : PR), RAt G E b s c2 0 0 fr2 la2 st2 → RFr b H c E c2 → (ow.has = true → ow.frm ≤ s.size) → DL s (Cq s m) m n i ou ow st2 = some r →
  ((i = false ∧ (keyM s st2.pos).isSome = true) ∧ ∃ x X, run 73 [.ptr b 0, .agg (prC ou), .agg (prC ow)] fl E = some (.bool x, X) ∧ Q (.bool x) X) ∨
  (¬ (i = false ∧ (keyM s st2.pos).isSome = true) ∧ (i = false ∧ ow.has = false ∧ BG s st2.pos) ∧ ∃ x X, run 75 [.ptr b 0, .agg (prC ou)] fl E = some (.bool x, X) ∧ Q (.bool x) X) ∨
  (¬ (i = false ∧ (keyM s st2.pos).isSome = true) ∧ ¬ (i = false ∧ ow.has = false ∧ BG s st2.pos) ∧ (ou.has = true ∧ ow.has = true) ∧ rsB s ow.fin = true ∧ Q (.bool false) (E.set b (.cells (rdC s c2 st2.pos st2.depth 10 (wtN s ow.fin : Nat) fr2 la2)))) ∨
  (¬ (i = false ∧ (keyM s st2.pos).isSome = true) ∧ ¬ (i = false ∧ ow.has = false ∧ BG s st2.pos) ∧ (ou.has = true ∧ ow.has = true) ∧ rsB s ow.fin = false ∧ Q (.bool false) (E.set b (.cells (rdC s c2 st2.pos st2.depth 7 (ow.frm : Nat) fr2 la2)))) ∨
  (¬ (i = false ∧ (keyM s st2.pos).isSome = true) ∧ ¬ (i = false ∧ ow.has = false ∧ BG s st2.pos) ∧ ¬ (ou.has = true ∧ ow.has = true) ∧ H6 s m st2 (if ou.has = true then ou else ow) n = some r) := by
  intro E c2 fr2 la2 st2 i ou ow hE hFE how hgo
  unfold DL at hgo
  by_cases a1 : i = false ∧ (keyM s st2.pos).isSome = true
  ·rw [if_pos a1] at hgo
   obtain ⟨w, X, e, hP⟩ := K3 IH hrec hE ou ow how a1.2 hs fl hf hgo
   obtain ⟨x, rfl⟩ := hP.bool
   exact .inl ⟨a1, x, X, e, by rw [← hQ]; exact hP.trans hFE⟩
  rw [if_neg a1] at hgo
  by_cases a2 : i = false ∧ ow.has = false ∧ BG s st2.pos
  ·rw [if_pos a2] at hgo
   obtain ⟨w, X, e, hP⟩ := IE IH hrec hE ou (EU a2.2.2) hs fl hf hgo
   obtain ⟨x, rfl⟩ := hP.bool
   exact .inr (.inl ⟨a1, a2, x, X, e, by rw [← hQ]; exact hP.trans hFE⟩)
  rw [if_neg a2] at hgo
  by_cases a3 : ou.has = true ∧ ow.has = true
  ·rw [if_pos a3] at hgo
   by_cases a4 : rsB s ow.fin = true
   ·rw [if_pos a4] at hgo
    cases hgo
    exact .inr (.inr (.inl ⟨a1, a2, a3, a4, by rw [← hQ]; exact ⟨rfl, (Bo hE (by decide)).trans hFE⟩⟩))
   ·rw [if_neg a4] at hgo
    cases hgo
    exact .inr (.inr (.inr (.inl ⟨a1, a2, a3, by simpa using a4, by rw [← hQ]; exact ⟨rfl, (Bo hE (by decide)).trans hFE⟩⟩)))
  ·rw [if_neg a3] at hgo
   exact .inr (.inr (.inr (.inr ⟨a1, a2, a3, hgo⟩)))
 by_cases hown : own.has = true ∧ rsB s own.fin = true
 rotate_left
 ·
  rw [if_neg hown] at hmg
  have hA2 := hA1.left (L := [.cells (prC own), .cells (prC pr0)])
  have hF2 := hF1.trans (RFr.app (L := [.cells (prC own), .cells (prC pr0)]))
  have bd := body _ c1 fr la st1 inl pr0 own hA2 hF2 (fun _ => by rw [k4]; exact hle) hmg
  have ek := fun fl H => EE s st1.pos fl H hA1.le hs2
  have ed := fun fl H => DF s st1.pos fl H (by omega)
  have hfo : own.has = true → own.fin ≤ s.size := fun k => by have := k2 k; have := k1.le; omega
  have er := rest own.fin
  have hpr : own.has = true → spt s (own.fin : Int) = own.fin := fun k => Ay (hfo k)
  clear body
  obtain ⟨wh, wa, wg, wf, wn⟩ := own
  dsimp only at *
  have hscal : ∀ (hh : H6 s m st1 ⟨wh, wa, wg, wf, wn⟩ n = some r), ∃ x X, run 76 [.ptr b 0, .agg (prC ⟨wh, wa, wg, wf, wn⟩), .int .i64 n] fl (B ++ [.cells (prC ⟨wh, wa, wg, wf, wn⟩), .cells (prC pr0)]) = some (.bool x, X) ∧ Q (.bool x) X := fun hh => by
   obtain ⟨w, X, e, hP⟩ := HH hA2 ⟨wh, wa, wg, wf, wn⟩ n hs fl hf hh
   obtain ⟨x, rfl⟩ := hP.bool
   exact ⟨x, X, e, by rw [← hQ]; exact hP.trans hF2⟩
  rcases bd with ⟨⟨a1, a2⟩, x, X, e, hP⟩ | ⟨a1, ⟨a2, a3, a4⟩, x, X, e, hP⟩ | ⟨_, _, ⟨a, _⟩, _⟩ | ⟨_, _, ⟨a, _⟩, _⟩ | ⟨a1, a2, a3, hh⟩
  ·subst a1
   obtain ⟨⟨ke, kk⟩, hkm⟩ := Option.isSome_iff_exists.1 a2
   rw [hkm] at ek
   unfold kyV at ek
   have e : run 73 [.ptr b 0, .agg [.bool false, .str ⟨#[]⟩, .str ⟨#[]⟩, .int .i64 0, .int .i64 0], .agg (prC ⟨wh, wa, wg, wf, wn⟩)] fl (B ++ [.cells (prC ⟨wh, wa, wg, wf, wn⟩), .cells [.bool false, .str ⟨#[]⟩, .str ⟨#[]⟩, .int .i64 0, .int .i64 0]]) = some (.bool x, X) := e
   unfold rdC at hcB
   unfold prC at *
   dsimp only at *
   unfold run at *
   rw [z63]
   cases wh with
   | false =>
     simp +contextual -implicitDefEqProofs (maxSteps := 10000000) (disch := first | (and_intros <;> omega -splitDisjunctions) | (push_cast; and_intros <;> omega -splitDisjunctions) | fail) only [e1, ek, e, hcB, o1, o2, o3, o4, o5, o6, A1, A0, A2, A3, go_sem, seval]
     exact hP
   | true =>
     have hr : rsB s wn = false := by
      cases hh : rsB s wn with
      | false => rfl
      | true => exact absurd ⟨rfl, hh⟩ hown
     rw [hpr rfl, hr] at er
     simp +contextual -implicitDefEqProofs (maxSteps := 10000000) (disch := first | (and_intros <;> omega -splitDisjunctions) | (push_cast; and_intros <;> omega -splitDisjunctions) | fail) only [e1, ek, e, er, hcB, o1, o2, o3, o4, o5, o6, A1, A0, A2, A3, go_sem, seval]
     exact hP
  ·subst a2
   subst a3
   have hkm := Dy (fun k => a1 ⟨rfl, k⟩)
   rw [hkm] at ek
   unfold kyV at ek
   have e : run 75 [.ptr b 0, .agg [.bool false, .str ⟨#[]⟩, .str ⟨#[]⟩, .int .i64 0, .int .i64 0]] fl (B ++ [.cells (prC ⟨false, wa, wg, wf, wn⟩), .cells [.bool false, .str ⟨#[]⟩, .str ⟨#[]⟩, .int .i64 0, .int .i64 0]]) = some (.bool x, X) := e
   unfold rdC at hcB
   unfold prC at *
   dsimp only at *
   unfold run at *
   rw [z63]
   simp +contextual -implicitDefEqProofs (maxSteps := 10000000) (disch := first | (and_intros <;> omega -splitDisjunctions) | (push_cast; and_intros <;> omega -splitDisjunctions) | fail) only [e1, ek, ed, e, a4, hcB, o1, o2, o3, o4, o5, o6, A1, A0, A2, A3, go_sem, seval]
   exact hP
  ·cases a
  ·cases a
  ·obtain ⟨x, X, e, hP⟩ := hscal (by rw [if_neg (by decide)] at hh; exact hh)
   clear hscal
   have e : run 76 [.ptr b 0, .agg (prC ⟨wh, wa, wg, wf, wn⟩), .int .i64 n] fl (B ++ [.cells (prC ⟨wh, wa, wg, wf, wn⟩), .cells [.bool false, .str ⟨#[]⟩, .str ⟨#[]⟩, .int .i64 0, .int .i64 0]]) = some (.bool x, X) := e
   cases inl with
   | true =>
     obtain ⟨ky, hkv⟩ : ∃ ky, keyM s st1.pos = ky := ⟨_, rfl⟩
     rw [hkv] at ek
     unfold rdC at hcB
     unfold prC at *
     dsimp only at *
     unfold run at *
     rw [z63]
     cases ky with
     | none =>
       unfold kyV at ek
       cases wh with
       | false =>
         simp +contextual -implicitDefEqProofs (maxSteps := 10000000) (disch := first | (and_intros <;> omega -splitDisjunctions) | (push_cast; and_intros <;> omega -splitDisjunctions) | fail) only [e1, ek, e, hcB, o1, o2, o3, o4, o5, o6, A1, A0, A2, A3, go_sem, seval]
         exact hP
       | true =>
         have hr : rsB s wn = false := by
          cases hh : rsB s wn with
          | false => rfl
          | true => exact absurd ⟨rfl, hh⟩ hown
         rw [hpr rfl, hr] at er
         simp +contextual -implicitDefEqProofs (maxSteps := 10000000) (disch := first | (and_intros <;> omega -splitDisjunctions) | (push_cast; and_intros <;> omega -splitDisjunctions) | fail) only [e1, ek, e, er, hcB, o1, o2, o3, o4, o5, o6, A1, A0, A2, A3, go_sem, seval]
         exact hP
     | some kk =>
       obtain ⟨ke, kk⟩ := kk
       unfold kyV at ek
       cases wh with
       | false =>
         simp +contextual -implicitDefEqProofs (maxSteps := 10000000) (disch := first | (and_intros <;> omega -splitDisjunctions) | (push_cast; and_intros <;> omega -splitDisjunctions) | fail) only [e1, ek, e, hcB, o1, o2, o3, o4, o5, o6, A1, A0, A2, A3, go_sem, seval]
         exact hP
       | true =>
         have hr : rsB s wn = false := by
          cases hh : rsB s wn with
          | false => rfl
          | true => exact absurd ⟨rfl, hh⟩ hown
         rw [hpr rfl, hr] at er
         simp +contextual -implicitDefEqProofs (maxSteps := 10000000) (disch := first | (and_intros <;> omega -splitDisjunctions) | (push_cast; and_intros <;> omega -splitDisjunctions) | fail) only [e1, ek, e, er, hcB, o1, o2, o3, o4, o5, o6, A1, A0, A2, A3, go_sem, seval]
         exact hP
   | false =>
     have hkm := Dy (fun k => a1 ⟨rfl, k⟩)
     rw [hkm] at ek
     unfold kyV at ek
     unfold rdC at hcB
     unfold prC at *
     dsimp only at *
     unfold run at *
     rw [z63]
     cases wh with
     | false =>
       have hd : ¬ BG s st1.pos := fun k => a2 ⟨rfl, rfl, k⟩
       simp +contextual -implicitDefEqProofs (maxSteps := 10000000) (disch := first | (and_intros <;> omega -splitDisjunctions) | (push_cast; and_intros <;> omega -splitDisjunctions) | fail) only [e1, ek, ed, hd, e, hcB, o1, o2, o3, o4, o5, o6, A1, A0, A2, A3, go_sem, seval]
       exact hP
     | true =>
       have hr : rsB s wn = false := by
        cases hh : rsB s wn with
        | false => rfl
        | true => exact absurd ⟨rfl, hh⟩ hown
       rw [hpr rfl, hr] at er
       simp +contextual -implicitDefEqProofs (maxSteps := 10000000) (disch := first | (and_intros <;> omega -splitDisjunctions) | (push_cast; and_intros <;> omega -splitDisjunctions) | fail) only [e1, ek, e, er, hcB, o1, o2, o3, o4, o5, o6, A1, A0, A2, A3, go_sem, seval]
       exact hP
 obtain ⟨hh, hrs⟩ := hown
 rw [if_pos ⟨hh, hrs⟩] at hmg
 have hA2 := hA1.left (L := [.cells (prC own), .cells (prC pr0)])
 have hF2 := hF1.trans (RFr.app (L := [.cells (prC own), .cells (prC pr0)]))
 have hfo : own.fin ≤ s.size := by have := k2 hh; have := k1.le; omega
 have hfrm : own.frm ≤ s.size := by rw [k4]; exact hle
 have er := rest own.fin
 rw [Ay hfo, hrs] at er
 clear rest
 have c9 : LH.cellsAt (B ++ [Blk.cells (prC own), Blk.cells (prC pr0)]) B.length = some (prC own) := by rw [A7]; rfl
 have c11 : LH.cellsAt (B ++ [Blk.cells (prC own), Blk.cells (prC pr0)]) (B.length + 1) = some (prC pr0) := by rw [Bd]; rfl
 obtain ⟨wh, wa, wg, wf, wn⟩ := own
 dsimp only at hh hrs hfo hfrm er hmg
 subst hh
 rcases A8 hmg with ⟨o, cd, pl, m2, rfl⟩ | ⟨_, st2, m2, hmg2⟩
 ·obtain ⟨w, C, e2, rfl, hbad⟩ := CY hA2 wn hfo hs2 fl hf m2
  have hbad2 := hbad.trans hF2
  clear hbad body
  have e2 : run 64 [.ptr b 0, .int .i64 (wn : Nat)] fl (B ++ [.cells (prC ⟨true, wa, wg, wf, wn⟩), .cells [.bool false, .str ⟨#[]⟩, .str ⟨#[]⟩, .int .i64 0, .int .i64 0]]) = some (.bool false, C) := e2
  unfold rdC at hcB
  unfold prC at *
  dsimp only at *
  unfold run at *
  rw [z63]
  simp +contextual -implicitDefEqProofs (maxSteps := 10000000) (disch := first | (and_intros <;> omega -splitDisjunctions) | (push_cast; and_intros <;> omega -splitDisjunctions) | fail) only [e1, e2, er, hcB, o1, o2, o3, o4, o5, o6, A1, A0, A2, A3, go_sem, seval]
  subst hQ
  exact ⟨rfl, hbad2⟩
 obtain ⟨w, C, e2, rfl, c2, hC, hFC⟩ := CY hA2 wn hfo hs2 fl hf m2
 have d9 := hFC.cells c9 hn9
 have d11 := hFC.cells c11 hn11
 have hFC2 := hF2.trans hFC
 have hlC := hFC.fx.len
 have e2 : run 64 [.ptr b 0, .int .i64 (wn : Nat)] fl (B ++ [.cells (prC ⟨true, wa, wg, wf, wn⟩), .cells [.bool false, .str ⟨#[]⟩, .str ⟨#[]⟩, .int .i64 0, .int .i64 0]]) = some (.bool true, C) := e2
 have e3 := By hC st2.pos hC.le hs2 fl hf
 have e4 := HE hC n loose hs2 fl hf
 have hcC := hC.hp.cell
 have hbC := A5 hcC
 obtain ⟨p1, p2, p3, p4, p5, p6⟩ := hC.hp.o1
 have hl9 := A5 d9.1
 have hl11 := A5 d11.1
 have d9c := d9.1
 have d11c : C.cellsAt (B.length + 1) = some [.bool false, .str ⟨#[]⟩, .str ⟨#[]⟩, .int .i64 0, .int .i64 0] := d11.1
 by_cases hst : Aw s st2.pos ∨ ¬ EV s st2.pos n loose
 ·rw [if_pos hst] at hmg2
  have rr := Ch hfo
  obtain ⟨w, D, e6, rfl, st3, rfl, c3, hD, hFD⟩ := E4 hC ⟨true, wa, wg, wf, wn⟩ (rsN s wn) rr.2 fl hf hmg2
  have hP : Q (.bool true) D := by rw [← hQ]; exact ⟨rfl, la, c3, hD, hFC2.trans hFD⟩
  clear hQ body
  unfold rdC at hcB hcC
  unfold prC at *
  dsimp only at *
  unfold run at *
  rw [z63]
  by_cases h3 : Aw s st2.pos
  ·simp +contextual -implicitDefEqProofs (maxSteps := 10000000) (disch := first | (and_intros <;> omega -splitDisjunctions) | (push_cast; and_intros <;> omega -splitDisjunctions) | fail) only [e1, e2, e3, e6, er, h3, d9c, hcB, hcC, p1, p2, p3, p4, p5, p6, o1, o2, o3, o4, o5, o6, A1, A0, A2, A3, go_sem, seval]
   exact hP
  ·have h4 := hst.resolve_left h3
   rw [decide_eq_false h4] at e4
   simp +contextual -implicitDefEqProofs (maxSteps := 10000000) (disch := first | (and_intros <;> omega -splitDisjunctions) | (push_cast; and_intros <;> omega -splitDisjunctions) | fail) only [e1, e2, e3, e4, e6, er, h3, d9c, hcB, hcC, p1, p2, p3, p4, p5, p6, o1, o2, o3, o4, o5, o6, A1, A0, A2, A3, go_sem, seval]
   exact hP
 rw [if_neg hst] at hmg2
 have h3 : ¬ Aw s st2.pos := fun k => hst (.inl k)
 have h4 : EV s st2.pos n loose := Classical.byContradiction fun k => hst (.inr k)
 rw [decide_eq_true h4] at e4
 have hC2 := hC.other (y := .cells (prC ⟨true, wa, wg, wf, wn⟩)) d11.2 (by omega)
 have hFC3 : RFr b H c (C.set (B.length + 1) (.cells (prC ⟨true, wa, wg, wf, wn⟩))) c2 := hFC2.setHi (by omega)
 have f9 : LH.cellsAt (C.set (B.length + 1) (.cells (prC ⟨true, wa, wg, wf, wn⟩))) B.length = some (prC ⟨true, wa, wg, wf, wn⟩) := by rw [A0 (by omega)]; exact d9.1
 have f11 : LH.cellsAt (C.set (B.length + 1) (.cells (prC ⟨true, wa, wg, wf, wn⟩))) (B.length + 1) = some (prC ⟨true, wa, wg, wf, wn⟩) := A1 hl11
 rcases A8 hmg2 with ⟨o, cd, pl, m3, rfl⟩ | ⟨ow2, st3, m3, hmg3⟩
 ·obtain ⟨w, D, e5, ⟨p, rfl⟩, c3, fr3, la3, st3, b1, b2, b3, b4⟩ := AV hC2 false hs fl hf m3
  have g9 := b4.cells f9 d9.2
  have hl9D := A5 g9.1
  have hBX := b1.other (y := .cells (prC p)) g9.2 (by omega)
  have hfin : BadA G H b s c o cd pl (D.set B.length (.cells (prC p))) := ⟨c3, fr3, la3, st3, hBX, b2, b3, (hFC3.trans b4).setHi (by omega)⟩
  have g9c := g9.1
  clear body
  unfold rdC at hcB hcC
  unfold prC at *
  dsimp only at *
  unfold run at *
  rw [z63]
  simp +contextual -implicitDefEqProofs (maxSteps := 10000000) (disch := first | (and_intros <;> omega -splitDisjunctions) | (push_cast; and_intros <;> omega -splitDisjunctions) | fail) only [e1, e2, e3, e4, e5, er, h3, d9c, d11c, g9c, hcB, hcC, p1, p2, p3, p4, p5, p6, o1, o2, o3, o4, o5, o6, A1, A0, A2, A3, go_sem, seval]
  subst hQ
  exact ⟨rfl, hfin⟩
 obtain ⟨w, D, e5, rfl, c3, hD, hFD⟩ := AV hC2 false hs fl hf m3
 obtain ⟨j1, j2, j3, j4⟩ := Ba m3 hC.le
 have g9 := hFD.cells f9 d9.2
 have g11 := hFD.cells f11 d11.2
 have hl9D := A5 g9.1
 have hl11D := A5 g11.1
 have hFD2 := hFC3.trans hFD
 have hE := hD.other (y := .cells (prC ow2)) g9.2 (by omega)
 have hFE : RFr b H c (D.set B.length (.cells (prC ow2))) c3 := hFD2.setHi (by omega)
 have g11E : ∀ y, LH.cellsAt (D.set B.length y) (B.length + 1) = some (prC ⟨true, wa, wg, wf, wn⟩) := fun y => by rw [A0 (by omega)]; exact g11.1
 have g9E : ∀ z, LH.cellsAt (D.set B.length (.cells z)) B.length = some z := fun z => A1 hl9D
 have hcE := fun y => (hD.other (y := y) g9.2 (by omega)).hp.cell
 obtain ⟨q1, q2, q3, q4, q5, q6⟩ := hD.hp.o1
 have bd := body _ c3 fr la st3 false ⟨true, wa, wg, wf, wn⟩ ow2 hE hFE (fun _ => by rw [j4]; exact hC.le) hmg3
 clear body
 have ek := fun fl H => EE s st3.pos fl H hD.le hs2
 have ed := fun fl H => DF s st3.pos fl H (by omega)
 have hfin2 : ow2.has = true → ow2.fin ≤ s.size := fun k => by have := j2 k; have := j1.le; omega
 have er2 : ow2.has = true → ∀ fl H, run 49 [.str s, .int .i64 (ow2.fin : Int)] fl H = some (.tup [.int .i64 (rsN s ow2.fin), .bool (rsB s ow2.fin)], H) := fun k fl H => by
  have := CW s (ow2.fin : Int) fl H (by omega)
  rwa [Ay (hfin2 k)] at this
 have ew : ow2.has = true → ∀ fl H, run 58 [.str s, .int .i64 (ow2.fin : Int)] fl H = some (.int .i64 (wtN s ow2.fin), H) := fun k fl H => AJ s ow2.fin fl H (hfin2 k) (by omega)
 have hflt := fun cd pl => Ao hE cd pl fl hf
 obtain ⟨vh, va, vg, vf, vn⟩ := ow2
 dsimp only at *
 have hscal : ∀ (hx : H6 s m st3 ⟨true, wa, wg, wf, wn⟩ n = some r), ∃ x X, run 76 [.ptr b 0, .agg (prC ⟨true, wa, wg, wf, wn⟩), .int .i64 n] fl (D.set B.length (.cells (prC ⟨true, wa, wg, wf, wn⟩))) = some (.bool x, X) ∧ Q (.bool x) X := fun hx => by
  have hE2 := hD.other (y := .cells (prC ⟨true, wa, wg, wf, wn⟩)) g9.2 (by omega)
  have hFE2 : RFr b H c (D.set B.length (.cells (prC ⟨true, wa, wg, wf, wn⟩))) c3 := hFD2.setHi (by omega)
  obtain ⟨w, X, e, hP⟩ := HH hE2 ⟨true, wa, wg, wf, wn⟩ n hs fl hf hx
  obtain ⟨x, rfl⟩ := hP.bool
  exact ⟨x, X, e, by rw [← hQ]; exact hP.trans hFE2⟩
 have g9c := g9.1
 unfold rdC at hcB hcC hcE hflt
 rcases bd with ⟨⟨_, a2⟩, x, X, e, hP⟩ | ⟨a1, ⟨_, a3, a4⟩, x, X, e, hP⟩ | ⟨a1, a2, ⟨_, a3⟩, a4, hP⟩ | ⟨a1, a2, ⟨_, a3⟩, a4, hP⟩ | ⟨a1, a2, a3, hx⟩
 ·obtain ⟨⟨ke, kk⟩, hkm⟩ := Option.isSome_iff_exists.1 a2
  rw [hkm] at ek
  clear hscal hflt
  unfold kyV at ek
  unfold prC at *
  dsimp only at *
  unfold run at *
  rw [z63]
  simp +contextual -implicitDefEqProofs (maxSteps := 10000000) (disch := first | (and_intros <;> omega -splitDisjunctions) | (push_cast; and_intros <;> omega -splitDisjunctions) | fail) only [e1, e2, e3, e4, e5, er, ek, e, h3, d9c, d11c, g9c, g11E, g9E, hcB, hcC, hcE, p1, p2, p3, p4, p5, p6, q1, q2, q3, q4, q5, q6, o1, o2, o3, o4, o5, o6, A1, A0, A2, A3, go_sem, seval]
  exact hP
 ·have hkm := Dy (fun k => a1 ⟨rfl, k⟩)
  rw [hkm] at ek
  clear hscal hflt
  unfold kyV at ek
  subst a3
  unfold prC at *
  dsimp only at *
  unfold run at *
  rw [z63]
  simp +contextual -implicitDefEqProofs (maxSteps := 10000000) (disch := first | (and_intros <;> omega -splitDisjunctions) | (push_cast; and_intros <;> omega -splitDisjunctions) | fail) only [e1, e2, e3, e4, e5, er, ek, ed, a4, e, h3, d9c, d11c, g9c, g11E, g9E, hcB, hcC, hcE, p1, p2, p3, p4, p5, p6, q1, q2, q3, q4, q5, q6, o1, o2, o3, o4, o5, o6, A1, A0, A2, A3, go_sem, seval]
  exact hP
 ·have hkm := Dy (fun k => a1 ⟨rfl, k⟩)
  rw [hkm] at ek
  clear hscal
  unfold kyV at ek
  subst a3
  have er2 := er2 rfl
  have ew := ew rfl
  rw [a4] at er2
  have hflt := hflt 10 (wtN s vn : Nat)
  unfold rdC at hP
  unfold prC at *
  dsimp only at *
  unfold run at *
  rw [z63]
  simp +contextual -implicitDefEqProofs (maxSteps := 10000000) (disch := first | (and_intros <;> omega -splitDisjunctions) | (push_cast; and_intros <;> omega -splitDisjunctions) | fail) only [e1, e2, e3, e4, e5, er, er2, ew, hflt, ek, h3, d9c, d11c, g9c, g11E, g9E, hcB, hcC, hcE, p1, p2, p3, p4, p5, p6, q1, q2, q3, q4, q5, q6, o1, o2, o3, o4, o5, o6, A1, A0, A2, A3, go_sem, seval]
  exact hP
 ·have hkm := Dy (fun k => a1 ⟨rfl, k⟩)
  rw [hkm] at ek
  clear hscal
  unfold kyV at ek
  subst a3
  have er2 := er2 rfl
  rw [a4] at er2
  have hflt := hflt 7 (vf : Nat)
  unfold rdC at hP
  unfold prC at *
  dsimp only at *
  unfold run at *
  rw [z63]
  simp +contextual -implicitDefEqProofs (maxSteps := 10000000) (disch := first | (and_intros <;> omega -splitDisjunctions) | (push_cast; and_intros <;> omega -splitDisjunctions) | fail) only [e1, e2, e3, e4, e5, er, er2, hflt, ek, h3, d9c, d11c, g9c, g11E, g9E, hcB, hcC, hcE, p1, p2, p3, p4, p5, p6, q1, q2, q3, q4, q5, q6, o1, o2, o3, o4, o5, o6, A1, A0, A2, A3, go_sem, seval]
  exact hP
 ·have hkm := Dy (fun k => a1 ⟨rfl, k⟩)
  rw [hkm] at ek
  clear hflt
  unfold kyV at ek
  have a5 : vh = false := by
   cases hv : vh with
   | false => rfl
   | true => exact absurd ⟨rfl, hv⟩ a3
  subst a5
  have a6 : ¬ BG s st3.pos := fun k => a2 ⟨rfl, rfl, k⟩
  obtain ⟨x, X, e, hP⟩ := hscal (by rw [if_pos rfl] at hx; exact hx)
  clear hscal
  unfold prC at *
  dsimp only at *
  unfold run at *
  rw [z63]
  simp +contextual -implicitDefEqProofs (maxSteps := 10000000) (disch := first | (and_intros <;> omega -splitDisjunctions) | (push_cast; and_intros <;> omega -splitDisjunctions) | fail) only [e1, e2, e3, e4, e5, er, ek, ed, a6, e, h3, d9c, d11c, g9c, g11E, g9E, hcB, hcC, hcE, List.set_set, p1, p2, p3, p4, p5, p6, q1, q2, q3, q4, q5, q6, o1, o2, o3, o4, o5, o6, A1, A0, A2, A3, go_sem, seval]
  exact hP
theorem M6 {G : LH} {b : Nat} {s : ByteArray} (hs : s.size ≤ 1048576) : ∀ m, FU G b s (Cq s m)
 | 0 => fun H c fr la st n i l fl r h hf hm => by cases hm
 | m + 1 => fun H c fr la st n i l fl r h hf hm => IF (M6 hs m) h n i l hs fl hf hm
open Go.Proofs.YthlbglmfdjdagaaGreatDoor
theorem N8 {s : ByteArray} {e d p : Nat} {l : List ByteArray} : wdGo s e (d + 1) p l = if e ≤ wtN s p ∨ bA s (wtN s p) = 35 then l else wdGo s e d (gaN s (wtN s p)) (l ++ [s.extract (wtN s p) (gaN s (wtN s p))]) := rfl
theorem Gy (s : ByteArray) (p0 : Nat) (fl : Nat) (H : LH) (hp : p0 ≤ s.size) (hs : s.size ≤ 16777216) :
 Ret (fun w B => ∃ lv, w = .tup [lv, .int .i64 (endN s p0 : Nat)] ∧ Hx H B ∧ Own H.length B strC 1 lv (DR s p0)) (run 60 [.str s, .int .i64 (p0 : Int)] fl H) := by
 have e1 := fun fl H => AA s p0 fl H (by omega)
 rw [Ay hp] at e1
 have e2 := fun fl H => C2 s p0 fl H hp (by omega)
 have l1 := B4 hp; have l2 := Be hp
 have e4 := fun q (h : (0 : Int) ≤ q) fl H => B7 s q fl H h (by omega)
 unfold DR
 generalize hend : endN s p0 = e at *
 generalize hres : wdGo s e (s.size + 1) p0 [] = res
 have hE : ∀ p : Nat, p0 ≤ p → p < e → bA s p ≠ 10 := fun p h1 h2 => KO hp p h1 (by rw [hend]; exact h2)
 unfold run at *
 rw [z60]
 simp +contextual -implicitDefEqProofs (maxSteps := 10000000) (disch := first | (and_intros <;> omega -splitDisjunctions) | (push_cast; and_intros <;> omega -splitDisjunctions) | fail) only [e1, e2, go_sem, seval]
 refine B9 fun c R hc hR => ?_
 have key : ∀ (m : Nat) (p : Nat) (j : Int) (B : LH) (lv : V) (l : List ByteArray) (x4 x5 x8 x27 x34 : Option V), s.size + 1 - p < m → j = (p : Int) → p ≤ s.size → p0 ≤ p → Hx H B → Own H.length B strC 1 lv l → l.length ≤ p → (∃ d, s.size - p < d ∧ wdGo s e d p l = res) →
  Ret (fun w B => ∃ lv, w = .tup [lv, .int .i64 (e : Nat)] ∧ Hx H B ∧ Own H.length B strC 1 lv res) (zEv (Ac (mkR Tryz.prog cfg ok [0, 1, 4, 5, 6, 7, 8, 27, 34] H.length) .fresh H [ResultVar.tmp 4, ResultVar.tmp 5]) (mkR Tryz.prog cfg ok [0, 1, 4, 5, 6, 7, 8, 27, 34] H.length) (K.code (Code.loop c) :: K.blk 0 :: R) .nrm [some (.str s), some (.int .i64 j), x4, x5, some (.int .i64 e), some lv, x8, x27, x34] (B)) := by
  intro m
  induction m with
  | zero => intro p j B lv l x4 x5 x8 x27 x34 hm; omega
  | succ m ih =>
    intro p j B lv l x4 x5 x8 x27 x34 hm hj hp2 hp3 hx ho hz hf
    subst hj
    obtain ⟨d, hd, hf⟩ := hf
    obtain ⟨d, rfl⟩ : ∃ d', d = d' + 1 := ⟨d - 1, by omega⟩
    rw [N8] at hf
    have o1 := (ho.at BD).isTup; have o2 := (ho.at BD).one
    have e3 := fun fl H => AJ s p fl H hp2 (by omega)
    have w1 := B8 s p; have w2 := Bm hp2; have w3 := WC s p
    generalize wtN s p = w at *
    unfold run at e3
    by_cases h1 : e ≤ w ∨ bA s w = 35
    ·rw [if_pos h1] at hf
     subst hf
     rw [A4 hc, ← hR]
     by_cases h2 : e ≤ w
     ·have t1 : ((e : Int) ≤ w) = True := eq_true (by omega)
      simp +contextual -implicitDefEqProofs (maxSteps := 10000000) (disch := first | (and_intros <;> omega -splitDisjunctions) | (push_cast; and_intros <;> omega -splitDisjunctions) | fail) only [e3, t1, o1, o2, go_sem, seval]
      exact ⟨_, rfl, hx, ho⟩
     ·have t1 : ((e : Int) ≤ w) = False := eq_false (by omega)
      have h3 := h1.resolve_left h2
      simp +contextual -implicitDefEqProofs (maxSteps := 10000000) (disch := first | (and_intros <;> omega -splitDisjunctions) | (push_cast; and_intros <;> omega -splitDisjunctions) | fail) only [e3, t1, h3, o1, o2, go_sem, seval]
      exact ⟨_, rfl, hx, ho⟩
    rw [if_neg h1] at hf
    have h2 : w < e := by
     have : ¬ e ≤ w := fun k => h1 (.inl k)
     omega
    have h3 : ¬ bA s w = 35 := fun k => h1 (.inr k)
    have t1 : ((e : Int) ≤ w) = False := eq_false (by omega)
    have hg : ¬ gapP s w := fun k => by
     rcases k with k | k | k
     ·exact w3 k
     ·exact hE w (by omega) h2 k
     ·rw [M2] at k; omega
    have g1 := VZ s (w + 1)
    rw [← To hg] at g1
    have g2 := VY w2
    rw [A4 hc]
    simp +contextual -implicitDefEqProofs (maxSteps := 10000000) (disch := first | (and_intros <;> omega -splitDisjunctions) | (push_cast; and_intros <;> omega -splitDisjunctions) | fail) only [e3, t1, h3, o1, o2, go_sem, seval]
    refine B9 fun c2 R2 hc2 hR2 => ?_
    have key2 : ∀ (P : Option (V × LH) → Prop) (hk2 : ∀  (x4 x5 x27 x34 : Option V), P (zEv (Ac (mkR Tryz.prog cfg ok [0, 1, 4, 5, 6, 7, 8, 27, 34] H.length) .fresh H [ResultVar.tmp 4, ResultVar.tmp 5]) (mkR Tryz.prog cfg ok [0, 1, 4, 5, 6, 7, 8, 27, 34] H.length) R2 .nrm [some (.str s), some (.int .i64 w), x4, x5, some (.int .i64 e), some lv, some (.int .i64 (gaN s w : Nat)), x27, x34] (B)))
     (m : Nat) (q : Nat) (jq : Int) (x4 x5 x27 x34 : Option V), s.size + 1 - q < m → jq = (q : Int) → w ≤ q → q ≤ s.size → gaN s q = gaN s w →
     P (zEv (Ac (mkR Tryz.prog cfg ok [0, 1, 4, 5, 6, 7, 8, 27, 34] H.length) .fresh H [ResultVar.tmp 4, ResultVar.tmp 5]) (mkR Tryz.prog cfg ok [0, 1, 4, 5, 6, 7, 8, 27, 34] H.length) (K.code (Code.loop c2) :: K.blk 2 :: R2) .nrm [some (.str s), some (.int .i64 w), x4, x5, some (.int .i64 e), some lv, some (.int .i64 jq), x27, x34] (B)) := by
     intro P hk2 m
     induction m with
     | zero => intro q jq x4 x5 x27 x34 hm; omega
     | succ m ih2 =>
       intro q jq x4 x5 x27 x34 hm hjq hq1 hq2 hq3
       subst hjq
       rw [A4 hc2]
       by_cases hgq : gapP s q
       ·rw [Sf hgq] at hq3
        subst hq3
        simp +contextual -implicitDefEqProofs (maxSteps := 10000000) (disch := first | (and_intros <;> omega -splitDisjunctions) | (push_cast; and_intros <;> omega -splitDisjunctions) | fail) only [e4, hgq, go_sem, seval]
        exact hk2 _ _ _ _
       ·rw [To hgq] at hq3
        have hlt := CS hgq
        simp +contextual -implicitDefEqProofs (maxSteps := 10000000) (disch := first | (and_intros <;> omega -splitDisjunctions) | (push_cast; and_intros <;> omega -splitDisjunctions) | fail) only [e4, hgq, go_sem, seval]
        exact ih2 (q + 1) ((q : Int) + 1) _ _ _ _ (by omega) (by omega) (by omega) (by omega) hq3
    refine key2 (Ret _) (fun x4 x5 x27 x34 => ?_) (s.size + 2) w _ _ _ _ _ (by omega) rfl (Nat.le_refl _) w2 rfl
    rw [← hR2]
    clear key2 hR2 hc2
    obtain ⟨b3, W, ap, oW, xW⟩ := OH hx ho (by omega) [.cells [.str (s.extract w (gaN s w))]] (s.extract w (gaN s w))
    have t5 : w ≤ gaN s w := by omega
    simp +contextual -implicitDefEqProofs (maxSteps := 10000000) (disch := first | (and_intros <;> omega -splitDisjunctions) | (push_cast; and_intros <;> omega -splitDisjunctions) | fail) only [ap, o1, o2, t5, go_sem, seval]
    exact ih (gaN s w) _ W _ _ _ _ _ _ _ (by omega) rfl g2 (by omega) xW (by rw [show l.length + 1 = (l ++ [s.extract w (gaN s w)]).length by simp] at oW ⊢; exact oW) (by rw [List.length_append, List.length_singleton]; omega) ⟨d, by omega, hf⟩
 exact key (s.size + 2) p0 _ _ _ [] _ _ _ _ _ (by omega) rfl hp (Nat.le_refl _) Hx.app (.inr ⟨H.length, rfl, by rw [A7]; rfl, Nat.le_refl _⟩) (Nat.zero_le _) ⟨s.size + 1, by omega, hres⟩
theorem Dr {G H : LH} {b : Nat} {s : ByteArray} {c : RC} {fr : Bool} {la : Int} {st : RS} (h : RAt G H b s c 0 0 fr la st) (hs : s.size ≤ 16777216) (fl : Nat) (hf : fl ≤ G.length) :
 run 51 [.ptr b 0] fl H = some (.bool (decide (dirT s st.pos)), H) := by
 have hc := h.hp.cell
 have hb := A5 hc
 have hle := h.le
 have e1 := fun fl H => Ad s st.pos fl H (by omega) (by omega)
 have e2 := fun fl H => ED s st.pos hle (by omega) fl H
 obtain ⟨o1, o2, o3, o4, o5, o6⟩ := h.hp.o1
 have hD : dirT s st.pos ↔ (bA s st.pos = 37 ∧ colN s st.pos = 0) := Iff.rfl
 unfold rdC at *
 unfold run at *
 rw [z51]
 by_cases h1 : bA s st.pos = 37
 ·by_cases h2 : colN s st.pos = 0
  ·rw [decide_eq_true (hD.2 ⟨h1, h2⟩)]
   have t1 : ((colN s st.pos : Int) = 0) = True := eq_true (by omega)
   simp +contextual -implicitDefEqProofs (maxSteps := 10000000) (disch := first | (and_intros <;> omega -splitDisjunctions) | (push_cast; and_intros <;> omega -splitDisjunctions) | fail) only [hc, e1, e2, h1, t1, o1, o2, o3, o4, o5, o6, A1, A0, A2, A3, go_sem, seval]
  ·rw [decide_eq_false (fun k => h2 (hD.1 k).2)]
   have t1 : ((colN s st.pos : Int) = 0) = False := eq_false (by omega)
   simp +contextual -implicitDefEqProofs (maxSteps := 10000000) (disch := first | (and_intros <;> omega -splitDisjunctions) | (push_cast; and_intros <;> omega -splitDisjunctions) | fail) only [hc, e1, e2, h1, t1, o1, o2, o3, o4, o5, o6, A1, A0, A2, A3, go_sem, seval]
 ·rw [decide_eq_false (fun k => h1 (hD.1 k).1)]
  simp +contextual -implicitDefEqProofs (maxSteps := 10000000) (disch := first | (and_intros <;> omega -splitDisjunctions) | (push_cast; and_intros <;> omega -splitDisjunctions) | fail) only [hc, e1, e2, h1, o1, o2, o3, o4, o5, o6, A1, A0, A2, A3, go_sem, seval]
theorem F3 {s : ByteArray} {p : Nat} (h : Ah s p ≠ 0) : p + 3 ≤ s.size := by
 unfold Ah at h
 by_cases h1 : (lnN s p ≠ p ∨ s.size < p + 3) ∨ ¬ gapP s (p + 3 : Nat)
 ·rw [if_pos h1] at h; exact absurd rfl h
 ·refine Nat.le_of_not_lt fun k => h1 (.inl (.inr k))
theorem EI {G H : LH} {b : Nat} {s : ByteArray} {c : RC} {fr : Bool} {la : Int} {st : RS} (h : RAt G H b s c 0 0 fr la st) (h3 : st.pos + 3 ≤ s.size) (hs : s.size ≤ 16777216) (fl : Nat) (hf : fl ≤ G.length) {r : RR Unit} (hm : H4 s st = some r) :
 Ret (PostU G H b s c fr la r) (run 40 [.ptr b 0] fl H) := by
 have hc := h.hp.cell
 have hb := A5 hc
 have hG := h.hp.hG
 have e1 := fun fl H => CW s ((st.pos + 3 : Nat) : Int) fl H (by omega)
 rw [Ay h3, show ((st.pos + 3 : Nat) : Int) = (st.pos : Int) + 3 by omega] at e1
 have rr := Ch h3
 have hfin := h.upd (cd' := 0) (pl' := 0) (fr' := fr) (la' := la) (p := rsN s (st.pos + 3)) (d := st.depth) rr.2 h.dep
 have e2 := fun cd pl fl hf => Ao h cd pl fl hf
 have hbad := Bo h (cd := 8) (pl := (rsN s (st.pos + 3) : Nat)) (by decide)
 obtain ⟨o1, o2, o3, o4, o5, o6⟩ := h.hp.o1
 generalize hQ : PostU G H b s c fr la r = Q
 unfold H4 at hm
 unfold rdC at *
 by_cases h1 : rsB s (st.pos + 3) = false
 ·rw [if_pos h1] at hm
  cases hm
  unfold run at *
  rw [z40]
  simp +contextual -implicitDefEqProofs (maxSteps := 10000000) (disch := first | (and_intros <;> omega -splitDisjunctions) | (push_cast; and_intros <;> omega -splitDisjunctions) | fail) only [hc, e1, e2, h1, o1, o2, o3, o4, o5, o6, A1, A0, A2, A3, go_sem, seval]
  subst hQ
  exact ⟨rfl, hbad⟩
 ·rw [if_neg h1] at hm
  cases hm
  have h1 : rsB s (st.pos + 3) = true := by simpa using h1
  unfold run at *
  rw [z40]
  simp +contextual -implicitDefEqProofs (maxSteps := 10000000) (disch := first | (and_intros <;> omega -splitDisjunctions) | (push_cast; and_intros <;> omega -splitDisjunctions) | fail) only [hc, e1, e2, h1, o1, o2, o3, o4, o5, o6, A1, A0, A2, A3, go_sem, seval]
  subst hQ
  exact ⟨rfl, c, hfin, RFr.set⟩
theorem MT {m : Nat} {G H : LH} {b : Nat} {s : ByteArray} {c : RC} {fr : Bool} {la : Int} {st : RS} (h : RAt G H b s c 0 0 fr la st) (mark : Bool) (h3 : mark = true → st.pos + 3 ≤ s.size) (hs : s.size ≤ 1048576) (fl : Nat) (hf : fl ≤ G.length) {r : RR Bool} (hm : Ls s m mark st = some r) :
 Ret (PostB G H b s c r) (run 53 [.ptr b 0, .bool mark] fl H) := by
 have hs2 : s.size ≤ 16777216 := by omega
 have IH := M6 (G := G) (b := b) hs m
 have hc := h.hp.cell
 have hb := A5 hc
 have hG := h.hp.hG
 obtain ⟨o1, o2, o3, o4, o5, o6⟩ := h.hp.o1
 generalize hQ : PostB G H b s c r = Q
 unfold Ls at hm
 cases mark with
 | false =>
   rw [if_pos rfl] at hm
   rcases A8 hm with ⟨o, cd, pl, m1, rfl⟩ | ⟨_, st1, m1, hm2⟩
   ·obtain ⟨w, B, e1, ⟨rfl, hbad⟩, _⟩ := GE h hs2 fl hf m1
    unfold run at *
    rw [z53]
    simp +contextual -implicitDefEqProofs (maxSteps := 10000000) (disch := first | (and_intros <;> omega -splitDisjunctions) | (push_cast; and_intros <;> omega -splitDisjunctions) | fail) only [e1, A1, A0, A2, A3, go_sem, seval]
    subst hQ
    exact ⟨rfl, hbad⟩
   ·obtain ⟨w, B, e1, ⟨rfl, hgood⟩, hE⟩ := GE h hs2 fl hf m1
    obtain ⟨rfl, rfl⟩ := hE _ _ rfl
    obtain ⟨w, C, e2, hP⟩ := IH _ _ _ _ _ _ _ _ fl r h hf hm2
    obtain ⟨x, rfl⟩ := hP.bool
    rw [hQ] at hP
    unfold run at *
    rw [z53]
    simp +contextual -implicitDefEqProofs (maxSteps := 10000000) (disch := first | (and_intros <;> omega -splitDisjunctions) | (push_cast; and_intros <;> omega -splitDisjunctions) | fail) only [e1, e2, A1, A0, A2, A3, go_sem, seval]
    exact hP
 | true =>
   rw [if_neg (by decide)] at hm
   have h3 := h3 rfl
   have e1 := fun fl H => CW s ((st.pos + 3 : Nat) : Int) fl H (by omega)
   have e5 := fun fl H => AJ s (st.pos + 3) fl H h3 (by omega)
   have hcast : ((st.pos + 3 : Nat) : Int) = (st.pos : Int) + 3 := by omega
   rw [Ay h3, hcast] at e1
   rw [hcast] at e5
   have rr := Ch h3
   have w2 := Bm h3
   by_cases h1 : rsB s (st.pos + 3) = false
   ·rw [if_pos h1] at hm
    have h2 := h.upd (cd' := 0) (pl' := 0) (fr' := fr) (la' := la) w2 h.dep
    obtain ⟨w, C, e2, hP⟩ := IH _ _ _ _ _ _ _ _ fl r h2 hf hm
    obtain ⟨x, rfl⟩ := hP.bool
    have hP := hP.trans (RFr.set (b := b) (H := H) (c := c))
    rw [hQ] at hP
    unfold rdC at *
    unfold run at *
    rw [z53]
    simp +contextual -implicitDefEqProofs (maxSteps := 10000000) (disch := first | (and_intros <;> omega -splitDisjunctions) | (push_cast; and_intros <;> omega -splitDisjunctions) | fail) only [hc, e1, e2, e5, h1, o1, o2, o3, o4, o5, o6, A1, A0, A2, A3, go_sem, seval]
    exact hP
   rw [if_neg h1] at hm
   have h1 : rsB s (st.pos + 3) = true := by simpa using h1
   rcases A8 hm with ⟨o, cd, pl, m1, rfl⟩ | ⟨_, st1, m1, hm2⟩
   ·obtain ⟨w, B, e3, rfl, hbad⟩ := CY h (st.pos + 3) h3 hs2 fl hf m1
    rw [hcast] at e3
    unfold rdC at *
    unfold run at *
    rw [z53]
    simp +contextual -implicitDefEqProofs (maxSteps := 10000000) (disch := first | (and_intros <;> omega -splitDisjunctions) | (push_cast; and_intros <;> omega -splitDisjunctions) | fail) only [hc, e1, e3, h1, o1, o2, o3, o4, o5, o6, A1, A0, A2, A3, go_sem, seval]
    subst hQ
    exact ⟨rfl, hbad⟩
   obtain ⟨w, B, e3, rfl, c1, hB, hF⟩ := CY h (st.pos + 3) h3 hs2 fl hf m1
   rw [hcast] at e3
   have hcB := hB.hp.cell
   obtain ⟨p1, p2, p3, p4, p5, p6⟩ := hB.hp.o1
   have e4 := By hB st1.pos hB.le hs2 fl hf
   have hbB := A5 hcB
   by_cases h4 : Aw s st1.pos
   ·rw [if_pos h4] at hm2
    rw [decide_eq_true h4] at e4
    obtain ⟨w, C, e6, rfl, st2, rfl, c2, hC, hF2⟩ := E4 hB pr0 (rsN s (st.pos + 3)) rr.2 fl hf hm2
    have hP : Q (.bool true) C := by rw [← hQ]; exact ⟨rfl, la, c2, hC, hF.trans hF2⟩
    clear hQ
    have e6 : run 65 [.ptr b 0, .agg [.bool false, .str ⟨#[]⟩, .str ⟨#[]⟩, .int .i64 0, .int .i64 0], .int .i64 (rsN s (st.pos + 3) : Nat)] fl B = some (und, C) := e6
    unfold rdC at *
    unfold run at *
    rw [z53]
    simp +contextual -implicitDefEqProofs (maxSteps := 10000000) (disch := first | (and_intros <;> omega -splitDisjunctions) | (push_cast; and_intros <;> omega -splitDisjunctions) | fail) only [hc, hcB, h1, e1, e3, e4, e6, o1, o2, o3, o4, o5, o6, p1, p2, p3, p4, p5, p6, A1, A0, A2, A3, go_sem, seval]
    exact hP
   ·rw [if_neg h4] at hm2
    rw [decide_eq_false h4] at e4
    obtain ⟨w, C, e6, hP⟩ := IH _ _ _ _ _ _ _ _ fl r hB hf hm2
    obtain ⟨x, rfl⟩ := hP.bool
    have hP := hP.trans hF
    rw [hQ] at hP
    unfold rdC at *
    unfold run at *
    rw [z53]
    simp +contextual -implicitDefEqProofs (maxSteps := 10000000) (disch := first | (and_intros <;> omega -splitDisjunctions) | (push_cast; and_intros <;> omega -splitDisjunctions) | fail) only [hc, hcB, h1, e1, e3, e4, e6, o1, o2, o3, o4, o5, o6, p1, p2, p3, p4, p5, p6, A1, A0, A2, A3, go_sem, seval]
    exact hP
open Go.Proofs.YthlbglmfdjdagaaGreatDoor
theorem RH.appH {G H : LH} {b : Nat} {s : ByteArray} {c : RC} {pos depth : Nat} {cd pl : Int} {fr : Bool} {la : Int} {out : List Ev} {ended : List Bool} {hands : List (ByteArray × ByteArray)} {names : List (ByteArray × Nat)} (h : RH G H b s c pos depth cd pl fr la out ended hands names) (e : ByteArray × ByteArray) (hl : hands.length ≤ 1000000) {fl : Nat} (hf : fl ≤ G.length) :
 ∃ Y X, (∀ bytes : Nat, (hands.length + 1) * bytes ≤ 1099511627776 → AB fl 2 bytes H 1 [.str e.1, .str e.2] c.hv = some (.sl H.length 0 2 (hands.length + 1) (hands.length + 1), Y)) ∧ Y.cellsAt b = some (rdC s c pos depth cd pl fr la) ∧
  Y.set b (.cells (rdC s ⟨c.o, c.en, c.nm, .sl H.length 0 2 (hands.length + 1) (hands.length + 1)⟩ pos depth cd pl fr la)) = X ∧ RH G X b s ⟨c.o, c.en, c.nm, .sl H.length 0 2 (hands.length + 1) (hands.length + 1)⟩ pos depth cd pl fr la out ended (hands ++ [e]) names ∧ RFr b H c X ⟨c.o, c.en, c.nm, .sl H.length 0 2 (hands.length + 1) (hands.length + 1)⟩ := by
 have hb := A5 h.cell
 have k := Q9 (X := [Blk.cells (rows hdC (hands ++ [e]))]) (l := rdC s ⟨c.o, c.en, c.nm, .sl H.length 0 2 (hands.length + 1) (hands.length + 1)⟩ pos depth cd pl fr la) h.oh hb
 have hlen : (B5 H c.hv ++ [Blk.cells (rows hdC (hands ++ [e]))]).length = H.length + 1 := by rw [List.length_append, Ca]; rfl
 obtain ⟨M, hm1, hm2⟩ := h.mp
 have hmb := Bj h.cell hm1
 have hMm : c.nm ∉ b :: sbk c.hv := fun hm => by
  rcases List.mem_cons.1 hm with e | hm
  ·exact hmb e.symm
  ·exact h.mh hm
 have an := D8 (enc := hdC) (z := 2) (v := c.hv) (H := H) (f0 := H.length) (Nat.le_refl _) (hands ++ [e])
 have el : (hands ++ [e]).length = hands.length + 1 := by simp
 rw [el] at an
 refine ⟨_, _, fun bytes hby => CR h.oh DW hf bytes (by unfold Aj; omega) e, ?_, rfl, ⟨k.hx h.hx h.hx.len (fun x hx => ?_), h.hG, A1 (by rw [hlen]; omega), h.oo.fr k (fun x hx => ?_), h.oe.fr k (fun x hx => ?_), (an.setNe hb).down h.hx.len,
  ⟨M, by rw [FH (k.get _ (BB hm1) hMm)]; exact hm1, hm2⟩, h.hm, h.bo, h.be, ?_, h.oe0, ?_, ?_, h.mo, h.me, ?_⟩, ?_⟩
 ·exact (Il (L := [.cells (rows hdC (hands ++ [e]))]) h.oh).cells h.cell hb h.bh
 ·rcases List.mem_cons.1 hx with rfl | hx
  ·exact h.hG
  ·exact (h.oh.sbk x hx).1
 ·refine ⟨(h.oo.sbk x hx).2, fun hm => ?_⟩
  rcases List.mem_cons.1 hm with rfl | hm
  ·exact h.bo hx
  ·exact h.oh0 x hx hm
 ·refine ⟨(h.oe.sbk x hx).2, fun hm => ?_⟩
  rcases List.mem_cons.1 hm with rfl | hm
  ·exact h.be hx
  ·exact h.eh0 x hx hm
 ·intro hm
  have : b = H.length := by simpa [sbk] using hm
  omega
 ·intro x hx hm
  have : x = H.length := by simpa [sbk] using hm
  have := h.oo.sbk x hx; omega
 ·intro x hx hm
  have : x = H.length := by simpa [sbk] using hm
  have := h.oe.sbk x hx; omega
 ·intro hm
  have : c.nm = H.length := by simpa [sbk] using hm
  have := BB hm1; omega
 ·refine ⟨k.sub (fun x hx => ?_), fun x hx => ?_⟩
  ·rcases List.mem_cons.1 hx with rfl | hx
   ·exact Gt
   ·exact Wk hx
  ·unfold rbl at hx ⊢
   simp only [List.mem_cons, List.mem_append, sbk, List.not_mem_nil, or_false] at hx ⊢
   grind
theorem N7 (s : ByteArray) (e : Nat) : ∀ (d p : Nat) (l : List ByteArray), ∃ t, wdGo s e d p l = l ++ t
 | 0, p, l => ⟨[], by simp [wdGo]⟩
 | d + 1, p, l => by
   rw [N8]
   by_cases h : e ≤ wtN s p ∨ bA s (wtN s p) = 35
   ·rw [if_pos h]; exact ⟨[], by simp⟩
   ·rw [if_neg h]
    obtain ⟨t, ht⟩ := N7 s e d (gaN s (wtN s p)) (l ++ [s.extract (wtN s p) (gaN s (wtN s p))])
    exact ⟨s.extract (wtN s p) (gaN s (wtN s p)) :: t, by rw [ht]; simp⟩
theorem Rl (s : ByteArray) (e : Nat) : ∀ (d p : Nat) (l : List ByteArray), (∀ x ∈ l, x.size ≤ s.size) → ∀ x ∈ wdGo s e d p l, x.size ≤ s.size
 | 0, p, l, h => h
 | d + 1, p, l, h => by
   rw [N8]
   by_cases h1 : e ≤ wtN s p ∨ bA s (wtN s p) = 35
   ·rw [if_pos h1]; exact h
   ·rw [if_neg h1]
    refine Rl s e d _ _ (fun x hx => ?_)
    rcases List.mem_append.1 hx with hx | hx
    ·exact h x hx
    ·rw [List.mem_singleton.1 hx]
     have : (s.extract (wtN s p) (gaN s (wtN s p))).size = min (gaN s (wtN s p)) s.size - wtN s p := ByteArray.size_extract
     omega
theorem T0 {s : ByteArray} {p : Nat} : ∀ x ∈ DR s p, x.size ≤ s.size := Rl s _ _ _ _ (by simp)
theorem SZ {s : ByteArray} {p : Nat} (h : bA s p = 37) : DR s p ≠ [] := by
 have hlt := Ai h (by omega)
 have hw : wtN s p = p := FS (by omega)
 have he : p < endN s p := by
  rw [I2 hlt (by omega)]
  have := B4 (s := s) (p := p + 1) (by omega)
  omega
 unfold DR
 rw [N8, if_neg (by rw [hw]; omega)]
 obtain ⟨t, ht⟩ := N7 s (endN s p) s.size (gaN s (wtN s p)) ([] ++ [s.extract (wtN s p) (gaN s (wtN s p))])
 rw [ht]; simp
def Ng (G H : LH) (b yb : Nat) (s : ByteArray) (c : RC) (fr : Bool) (la : Int) (r : RR Bool) (w : V) (B : LH) : Prop :=
 ∃ c', Fx H.length (yb :: rbl b c) H B ∧ (∀ x ∈ rbl b c', x ∈ rbl b c ∨ H.length ≤ x) ∧ match r with
 | .ok y st => w = .bool true ∧ RAt G B b s c' 0 0 fr la st ∧ B.cellsAt yb = some [.bool y]
 | .bad o cd pl => w = .bool false ∧ ∃ st, RAt G B b s c' cd pl fr la st ∧ st.out = o ∧ cd ≠ 0
theorem II {G H : LH} {b : Nat} {s : ByteArray} {c : RC} {fr : Bool} {la : Int} {st : RS} (h : RAt G H b s c 0 0 fr la st) (y : Bool) (yb : Nat) (hy : H.cellsAt yb = some [.bool y]) (hyn : yb ∉ rbl b c) (hyG : G.length ≤ yb) (hdt : dirT s st.pos) (hhl : st.hands.length < 1000000) (hs : s.size ≤ 1048576) (fl : Nat) (hf : fl ≤ G.length) {r : RR Bool} (hm : dirR s st y = some r) :
 Ret (Ng G H b yb s c fr la r) (run 52 [.ptr b 0, .ptr yb 0] fl H) := by
 have hs2 : s.size ≤ 16777216 := by omega
 have hle := h.le
 have hyl := A5 hy
 have hG := h.hp.hG
 have hxl := h.hp.hx.len
 obtain ⟨_, B, e1, lv, rfl, ⟨L, rfl⟩, how⟩ := Gy s st.pos fl H hle hs2
 have hwne := SZ hdt.1
 have hwsz := T0 (s := s) (p := st.pos)
 have hH1 := h.left (L := L)
 have hy1 := Ag (L := L) hy
 have hyb : yb ≠ b := fun e => hyn (by rw [e]; exact Gt)
 have l1 := B4 hle; have l2 := Be hle
 have g1 := CH s (endN s st.pos); have g2 := BL l2
 have tail : ∀ (E : LH) (c2 : RC) (st2 : RS) (y2 : Bool), RAt G E b s c2 0 0 fr la st2 → Fx H.length (yb :: rbl b c) H E → (∀ x ∈ rbl b c2, x ∈ rbl b c ∨ H.length ≤ x) → E.cellsAt yb = some [.bool y2] → yb ∉ rbl b c2 →
  (if Ah s (gpN s (endN s st.pos)) = 1 ∨ dirT s (gpN s (endN s st.pos)) then okM y2 (st2.at (gpN s (endN s st.pos))) else badM (st2.at (gpN s (endN s st.pos))) 13 (gpN s (endN s st.pos))) = some r →
  ∃ X, E.set b (.cells (rdC s c2 (gpN s (endN s st.pos)) st2.depth 0 0 fr la)) = X ∧ LH.cellsAt X b = some (rdC s c2 (gpN s (endN s st.pos)) st2.depth 0 0 fr la) ∧ (∀ fl, run 51 [.ptr b 0] fl X = some (.bool (decide (dirT s (gpN s (endN s st.pos)))), X) ∨ ¬ fl ≤ G.length) ∧
   ((Ah s (gpN s (endN s st.pos)) = 1 ∧ Ng G H b yb s c fr la r (.bool true) X) ∨ (¬ Ah s (gpN s (endN s st.pos)) = 1 ∧ dirT s (gpN s (endN s st.pos)) ∧ Ng G H b yb s c fr la r (.bool true) X) ∨
    (¬ Ah s (gpN s (endN s st.pos)) = 1 ∧ ¬ dirT s (gpN s (endN s st.pos)) ∧ ∃ Z, run 50 [.ptr b 0, .int .i64 13, .int .i64 (gpN s (endN s st.pos) : Nat)] fl X = some (.bool false, Z) ∧ Ng G H b yb s c fr la r (.bool false) Z)) := by
  intro E c2 st2 y2 hE hFx hnw hyE hynE hr
  have hX := hE.upd (cd' := 0) (pl' := 0) (fr' := fr) (la' := la) g2 hE.dep
  have hbE := A5 hE.hp.cell
  have hFxb : ∀ z, Fx H.length (yb :: rbl b c) H (E.set b z) := fun z => by
   refine hFx.trans (Fx.set (E := [b]) (.inl (by simp))) (Nat.le_refl _) (fun x _ hx => ?_)
   rw [List.mem_singleton.1 hx]
   exact List.mem_cons_of_mem _ Gt
  have hyX : ∀ z, LH.cellsAt (E.set b z) yb = some [.bool y2] := fun z => by rw [A0 (Ne.symm hyb)]; exact hyE
  refine ⟨_, rfl, A1 hbE, fun fl => ?_, ?_⟩
  ·by_cases hfl : fl ≤ G.length
   ·exact .inl (Dr hX hs2 fl hfl)
   ·exact .inr hfl
  ·by_cases a1 : Ah s (gpN s (endN s st.pos)) = 1
   ·rw [if_pos (.inl a1)] at hr
    cases hr
    exact .inl ⟨a1, c2, hFxb _, hnw, rfl, hX, hyX _⟩
   ·by_cases a2 : dirT s (gpN s (endN s st.pos))
    ·rw [if_pos (.inr a2)] at hr
     cases hr
     exact .inr (.inl ⟨a1, a2, c2, hFxb _, hnw, rfl, hX, hyX _⟩)
    ·rw [if_neg (fun k => by rcases k with k | k; exact a1 k; exact a2 k)] at hr
     cases hr
     refine .inr (.inr ⟨a1, a2, _, Ao hX 13 (gpN s (endN s st.pos) : Nat) fl hf, c2, ?_, hnw, rfl, _, hX.upd g2 hX.dep, rfl, by decide⟩)
     rw [List.set_set]; exact hFxb _
 have bad13 : ∀ (E : LH) (c2 : RC) (st2 : RS), RAt G E b s c2 0 0 fr la st2 → Fx H.length (yb :: rbl b c) H E → (∀ x ∈ rbl b c2, x ∈ rbl b c ∨ H.length ≤ x) → st2.out = st.out → st2.pos = st.pos → r = .bad st.out 13 st.pos →
  ∃ X, run 50 [.ptr b 0, .int .i64 13, .int .i64 (st.pos : Nat)] fl E = some (.bool false, X) ∧ Ng G H b yb s c fr la r (.bool false) X := by
  intro E c2 st2 hE hFx hnw ho hp hr
  subst hr
  refine ⟨_, Ao hE 13 (st.pos : Nat) fl hf, c2, ?_, hnw, rfl, _, hE.upd hE.le hE.dep, ho, by decide⟩
  refine hFx.trans (Fx.set (E := [b]) (.inl (by simp))) (Nat.le_refl _) (fun x _ hx => ?_)
  rw [List.mem_singleton.1 hx]
  exact List.mem_cons_of_mem _ Gt
 have e2 := fun fl H => DD s (endN s st.pos) fl H l2 (by omega)
 have e3 := fun fl H => AK s (gpN s (endN s st.pos)) fl H g2 (by omega)
 have fxL : Fx H.length (yb :: rbl b c) H (H ++ L) := Fx.app (Nat.le_refl _)
 have hc := h.hp.cell
 have hb := A5 hc
 have hc1 := hH1.hp.cell
 obtain ⟨o1, o2, o3, o4, o5, o6⟩ := h.hp.o1
 generalize hQ : Ng G H b yb s c fr la r = Q at *
 unfold dirR at hm
 generalize DR s st.pos = ws at *
 obtain ⟨b2, rfl, hcl, hb2⟩ : ∃ b2, lv = .sl b2 0 1 ws.length ws.length ∧ LH.cellsAt (H ++ L) b2 = some (rows strC ws) ∧ H.length ≤ b2 := by
  rcases how with ⟨hn, _⟩ | hh
  ·exact absurd hn hwne
  ·exact hh
 have i1 : b2 ≠ b := fun e => by omega
 rcases ws with _ | ⟨a, _ | ⟨b', _ | ⟨c', _ | ⟨d', t⟩⟩⟩⟩
 ·exact absurd rfl hwne
 ·
  have hr : r = .bad st.out 13 st.pos := by cases hm; rfl
  obtain ⟨X, e5, hP⟩ := bad13 _ c st hH1 fxL (fun x hx => .inl hx) rfl rfl hr
  clear tail bad13
  have hcl : LH.cellsAt (H ++ L) b2 = some [.str a] := hcl
  unfold rdC at hc hc1
  unfold run at *
  rw [z52]
  simp +contextual -implicitDefEqProofs (maxSteps := 10000000) (disch := first | (and_intros <;> omega -splitDisjunctions) | (push_cast; and_intros <;> omega -splitDisjunctions) | fail) only [hc, hc1, hcl, e1, e5, List.length_cons, List.length_nil, o1, o2, o3, o4, o5, o6, A1, A0, A2, A3, go_sem, seval]
  exact hP
 ·
  have hcl : LH.cellsAt (H ++ L) b2 = some [.str a, .str b'] := hcl
  unfold T3 at hm
  dsimp only at hm
  by_cases ha : a = ⟨#[37, 89, 65, 77, 76]⟩
  rotate_left
  ·rw [if_neg (fun k => ha k.1)] at hm
   have hr : r = .bad st.out 13 st.pos := by cases hm; rfl
   obtain ⟨X, e5, hP⟩ := bad13 _ c st hH1 fxL (fun x hx => .inl hx) rfl rfl hr
   clear tail bad13
   unfold rdC at hc hc1
   unfold run at *
   rw [z52]
   simp +contextual -implicitDefEqProofs (maxSteps := 10000000) (disch := first | (and_intros <;> omega -splitDisjunctions) | (push_cast; and_intros <;> omega -splitDisjunctions) | fail) only [hc, hc1, hcl, ha, e1, e5, List.length_cons, List.length_nil, o1, o2, o3, o4, o5, o6, A1, A0, A2, A3, go_sem, seval]
   exact hP
  subst ha
  have hE := hH1.other (y := .cells [.bool true]) hyn hyG
  have fxE : Fx H.length (yb :: rbl b c) H ((H ++ L).set yb (.cells [.bool true])) := fxL.trans (Fx.set (E := [yb]) (.inl (by simp))) (Nat.le_refl _) (fun x _ hx => by rw [List.mem_singleton.1 hx]; simp)
  have hyl1 := A5 hy1
  have hyE : LH.cellsAt ((H ++ L).set yb (.cells [.bool true])) yb = some [.bool true] := A1 hyl1
  have hcE := hE.hp.cell
  have i2 : yb ≠ b2 := fun e => by omega
  have hclE : LH.cellsAt ((H ++ L).set yb (.cells [.bool true])) b2 = some [.str ⟨#[37, 89, 65, 77, 76]⟩, .str b'] := by rw [A0 i2]; exact hcl
  have hsetL : (H ++ L).set yb (.cells [.bool true]) = H.set yb (.cells [.bool true]) ++ L := A3 hyl
  by_cases hb' : (b' = ⟨#[49, 46, 49]⟩ ∨ b' = ⟨#[49, 46, 50]⟩) ∧ y = false
  rotate_left
  ·rw [if_neg (fun k => hb' k.2)] at hm
   have hr : r = .bad st.out 13 st.pos := by cases hm; rfl
   obtain ⟨X, e5, hP⟩ := bad13 _ c st hE fxE (fun x hx => .inl hx) rfl rfl hr
   rw [hsetL] at e5 hcE
   clear tail bad13
   unfold rdC at hc hc1 hcE
   unfold run at *
   rw [z52]
   cases y with
   | true =>
     by_cases hb1 : b' = ⟨#[49, 46, 49]⟩
     ·simp +contextual -implicitDefEqProofs (maxSteps := 10000000) (disch := first | (and_intros <;> omega -splitDisjunctions) | (push_cast; and_intros <;> omega -splitDisjunctions) | fail) only [hc, hc1, hcE, hcl, hb1, hy1, e1, e5, List.length_cons, List.length_nil, o1, o2, o3, o4, o5, o6, A1, A0, A2, A3, go_sem, seval]
      exact hP
     ·by_cases hb2' : b' = ⟨#[49, 46, 50]⟩
      ·simp +contextual -implicitDefEqProofs (maxSteps := 10000000) (disch := first | (and_intros <;> omega -splitDisjunctions) | (push_cast; and_intros <;> omega -splitDisjunctions) | fail) only [hc, hc1, hcE, hcl, hb1, hb2', hy1, e1, e5, List.length_cons, List.length_nil, o1, o2, o3, o4, o5, o6, A1, A0, A2, A3, go_sem, seval]
       exact hP
      ·simp +contextual -implicitDefEqProofs (maxSteps := 10000000) (disch := first | (and_intros <;> omega -splitDisjunctions) | (push_cast; and_intros <;> omega -splitDisjunctions) | fail) only [hc, hc1, hcE, hcl, hb1, hb2', hy1, e1, e5, List.length_cons, List.length_nil, o1, o2, o3, o4, o5, o6, A1, A0, A2, A3, go_sem, seval]
       exact hP
   | false =>
     have hb1 : ¬ b' = ⟨#[49, 46, 49]⟩ := fun k => hb' ⟨.inl k, rfl⟩
     have hb2' : ¬ b' = ⟨#[49, 46, 50]⟩ := fun k => hb' ⟨.inr k, rfl⟩
     simp +contextual -implicitDefEqProofs (maxSteps := 10000000) (disch := first | (and_intros <;> omega -splitDisjunctions) | (push_cast; and_intros <;> omega -splitDisjunctions) | fail) only [hc, hc1, hcE, hcl, hb1, hb2', hy1, e1, e5, List.length_cons, List.length_nil, o1, o2, o3, o4, o5, o6, A1, A0, A2, A3, go_sem, seval]
     exact hP
  rw [if_pos ⟨rfl, hb'⟩] at hm
  obtain ⟨hb', rfl⟩ := hb'
  obtain ⟨X, hXe, hcX, e7, hT⟩ := tail _ c st true hE fxE (fun x hx => .inl hx) hyE hyn hm
  have e7 := (e7 fl).resolve_right (fun k => k hf)
  rw [hsetL] at hXe hcE
  clear tail bad13
  unfold rdC at hc hc1 hcE hXe hcX
  unfold run at *
  rw [z52]
  rcases hb' with rfl | rfl
  all_goals
   rcases hT with ⟨m1, hP⟩ | ⟨m1, m2, hP⟩ | ⟨m1, m2, Z, e9, hP⟩
   ·simp +contextual -implicitDefEqProofs (maxSteps := 10000000) (disch := first | (and_intros <;> omega -splitDisjunctions) | (push_cast; and_intros <;> omega -splitDisjunctions) | fail) only [hc, hc1, hcE, hcl, hy1, e1, e2, e3, e7, hXe, hcX, m1, List.length_cons, List.length_nil, o1, o2, o3, o4, o5, o6, A1, A0, A2, A3, go_sem, seval]
    exact hP
   ·simp +contextual -implicitDefEqProofs (maxSteps := 10000000) (disch := first | (and_intros <;> omega -splitDisjunctions) | (push_cast; and_intros <;> omega -splitDisjunctions) | fail) only [hc, hc1, hcE, hcl, hy1, e1, e2, e3, e7, hXe, hcX, m1, m2, List.length_cons, List.length_nil, o1, o2, o3, o4, o5, o6, A1, A0, A2, A3, go_sem, seval]
    exact hP
   ·simp +contextual -implicitDefEqProofs (maxSteps := 10000000) (disch := first | (and_intros <;> omega -splitDisjunctions) | (push_cast; and_intros <;> omega -splitDisjunctions) | fail) only [hc, hc1, hcE, hcl, hy1, e1, e2, e3, e7, hXe, hcX, m1, m2, e9, List.length_cons, List.length_nil, o1, o2, o3, o4, o5, o6, A1, A0, A2, A3, go_sem, seval]
    exact hP
 ·
  have hcl : LH.cellsAt (H ++ L) b2 = some [.str a, .str b', .str c'] := hcl
  unfold tagT at hm
  dsimp only at hm
  by_cases ha : a = ⟨#[37, 84, 65, 71]⟩
  rotate_left
  ·rw [if_neg (fun k => ha k.1)] at hm
   have hr : r = .bad st.out 13 st.pos := by cases hm; rfl
   obtain ⟨X, e5, hP⟩ := bad13 _ c st hH1 fxL (fun x hx => .inl hx) rfl rfl hr
   clear tail bad13
   unfold rdC at hc hc1
   unfold run at *
   rw [z52]
   by_cases hy5 : a = ⟨#[37, 89, 65, 77, 76]⟩
   ·subst hy5
    have ne1 : ((⟨#[37, 89, 65, 77, 76]⟩ : ByteArray) = ⟨#[37, 84, 65, 71]⟩) = False := eq_false (by decide)
    simp +contextual -implicitDefEqProofs (maxSteps := 10000000) (disch := first | (and_intros <;> omega -splitDisjunctions) | (push_cast; and_intros <;> omega -splitDisjunctions) | fail) only [hc, hc1, hcl, ne1, e1, e5, List.length_cons, List.length_nil, o1, o2, o3, o4, o5, o6, A1, A0, A2, A3, go_sem, seval]
    exact hP
   ·simp +contextual -implicitDefEqProofs (maxSteps := 10000000) (disch := first | (and_intros <;> omega -splitDisjunctions) | (push_cast; and_intros <;> omega -splitDisjunctions) | fail) only [hc, hc1, hcl, ha, hy5, e1, e5, List.length_cons, List.length_nil, o1, o2, o3, o4, o5, o6, A1, A0, A2, A3, go_sem, seval]
    exact hP
  subst ha
  have sz1 : b'.size ≤ s.size := hwsz b' (by simp)
  have sz2 : c'.size ≤ s.size := hwsz c' (by simp)
  have e4 := fun fl H => K0 (b', c') fl H (by show b'.size ≤ _; omega) (by show c'.size ≤ _; omega)
  unfold hdC at e4
  dsimp only at e4
  have hH2 := hH1.left (L := [.cells [.str b', .str c']])
  have hoh := hH1.hp.oh.at DW
  have k1 := hoh.isTup; have k2 := hoh.len; have k3 := hoh.lenOk ty65; have k0 := hoh.one
  have hlH := h.fewh
  have hlenB : (H ++ L).length = H.length + L.length := by simp
  have hcL : LH.cellsAt ((H ++ L) ++ [Blk.cells [V.str b', V.str c']]) b = some (rdC s c st.pos st.depth 0 0 fr la) := Ag hc1
  have after : ∀ (A : LH) (okv : Bool), Hx ((H ++ L) ++ [.cells [.str b', .str c']]) A → okv = (hOk (b', c') && st.hands.all fun h => decide (h.1 ≠ b')) →
   ∃ Y X, (∀ bytes : Nat, (st.hands.length + 1) * bytes ≤ 1099511627776 → AB fl 2 bytes (A ++ [.cells [.str b', .str c']]) 1 [.str b', .str c'] c.hv = some (.sl (A.length + 1) 0 2 (st.hands.length + 1) (st.hands.length + 1), Y)) ∧ LH.cellsAt Y b = some (rdC s c st.pos st.depth 0 0 fr la) ∧
    Y.set b (.cells (rdC s ⟨c.o, c.en, c.nm, .sl (A.length + 1) 0 2 (st.hands.length + 1) (st.hands.length + 1)⟩ st.pos st.depth 0 0 fr la)) = X ∧ LH.cellsAt X b = some (rdC s ⟨c.o, c.en, c.nm, .sl (A.length + 1) 0 2 (st.hands.length + 1) (st.hands.length + 1)⟩ st.pos st.depth 0 0 fr la) ∧
    ((okv = false ∧ ∃ Z, run 50 [.ptr b 0, .int .i64 13, .int .i64 (st.pos : Nat)] fl X = some (.bool false, Z) ∧ Q (.bool false) Z) ∨
     (okv = true ∧ ∃ X2, X.set b (.cells (rdC s ⟨c.o, c.en, c.nm, .sl (A.length + 1) 0 2 (st.hands.length + 1) (st.hands.length + 1)⟩ (gpN s (endN s st.pos)) st.depth 0 0 fr la)) = X2 ∧ LH.cellsAt X2 b = some (rdC s ⟨c.o, c.en, c.nm, .sl (A.length + 1) 0 2 (st.hands.length + 1) (st.hands.length + 1)⟩ (gpN s (endN s st.pos)) st.depth 0 0 fr la) ∧ run 51 [.ptr b 0] fl X2 = some (.bool (decide (dirT s (gpN s (endN s st.pos)))), X2) ∧
      ((Ah s (gpN s (endN s st.pos)) = 1 ∧ Q (.bool true) X2) ∨ (¬ Ah s (gpN s (endN s st.pos)) = 1 ∧ dirT s (gpN s (endN s st.pos)) ∧ Q (.bool true) X2) ∨
       (¬ Ah s (gpN s (endN s st.pos)) = 1 ∧ ¬ dirT s (gpN s (endN s st.pos)) ∧ ∃ Z, run 50 [.ptr b 0, .int .i64 13, .int .i64 (gpN s (endN s st.pos) : Nat)] fl X2 = some (.bool false, Z) ∧ Q (.bool false) Z)))) := by
   intro A okv hA hok
   obtain ⟨M, rfl⟩ := hA
   have hA2 := (hH2.left (L := M)).left (L := [.cells [.str b', .str c']])
   obtain ⟨Y, X, a1, a2, a3, a4, a5⟩ := hA2.hp.appH (b', c') hlH hf
   have hlen1 : (((H ++ L) ++ [Blk.cells [V.str b', V.str c']] ++ M) ++ [Blk.cells [V.str b', V.str c']]).length = ((H ++ L) ++ [Blk.cells [V.str b', V.str c']] ++ M).length + 1 := by simp only [List.length_append, List.length_cons, List.length_nil]
   rw [hlen1] at a1 a3 a4 a5
   have hRX : RAt G X b s ⟨c.o, c.en, c.nm, .sl (((H ++ L) ++ [Blk.cells [V.str b', V.str c']] ++ M).length + 1) 0 2 (st.hands.length + 1) (st.hands.length + 1)⟩ 0 0 fr la ⟨st.pos, st.out, st.names, st.ended, st.hands ++ [(b', c')], st.depth⟩ :=
    ⟨a4, h.le, h.len, h.dep, h.few, by simp; omega, h.fit, fun x hx => by
      rcases List.mem_append.1 hx with hx | hx
      ·exact h.fith x hx
      ·rw [List.mem_singleton.1 hx]; exact ⟨by show b'.size ≤ _; omega, by show c'.size ≤ _; omega⟩, h.num⟩
   have hbase : RFr b H c (((H ++ L) ++ [Blk.cells [V.str b', V.str c']] ++ M) ++ [Blk.cells [V.str b', V.str c']]) c := RFr.app.trans (RFr.app.trans (RFr.app.trans RFr.app))
   have hFX := hbase.trans a5
   have hyX := (hFX.cells hy hyn)
   have fxX : Fx H.length (yb :: rbl b c) H X := hFX.fx.up2
   refine ⟨Y, X, a1, a2, a3, a4.cell, ?_⟩
   by_cases hgood : hOk (b', c') = true ∧ (st.hands.all fun h => decide (h.1 ≠ b')) = true
   ·rw [if_pos ⟨rfl, hgood⟩, if_pos hhl] at hm
    obtain ⟨X2, hXe, hcX, e7, hT⟩ := tail X _ ⟨st.pos, st.out, st.names, st.ended, st.hands ++ [(b', c')], st.depth⟩ y hRX fxX hFX.nw hyX.1 hyX.2 hm
    exact .inr ⟨by rw [hok, hgood.1, hgood.2]; rfl, X2, hXe, hcX, (e7 fl).resolve_right (fun k => k hf), hT⟩
   ·rw [if_neg (fun k => hgood k.2)] at hm
    have hr : r = .bad st.out 13 st.pos := by cases hm; rfl
    refine .inl ⟨?_, bad13 X _ _ hRX fxX hFX.nw rfl rfl hr⟩
    rw [hok]
    cases h1 : hOk (b', c') with
    | false => rfl
    | true =>
      cases h2 : (st.hands.all fun h => decide (h.1 ≠ b')) with
      | false => rfl
      | true => exact absurd ⟨h1, h2⟩ hgood
  clear tail bad13
  unfold rdC at hc hc1 hcL
  unfold run at *
  rw [z52]
  simp +contextual -implicitDefEqProofs (maxSteps := 10000000) (disch := first | (and_intros <;> omega -splitDisjunctions) | (push_cast; and_intros <;> omega -splitDisjunctions) | fail) only [hc, hc1, hcL, hcl, e1, e4, k0, k1, k2, k3, List.length_cons, List.length_nil, o1, o2, o3, o4, o5, o6, A1, A0, A2, A3, go_sem, seval]
  have ne2 : ((⟨#[37, 84, 65, 71]⟩ : ByteArray) = ⟨#[37, 89, 65, 77, 76]⟩) = False := eq_false (by decide)
  refine B9 fun c2 R2 hc2 hR2 => ?_
  have key2 : ∀ (m : Nat) (i : Nat) (j : Int) (okv : Bool) (A : LH) (x4 x5 x10 x23 x51 x76 x99 : Option V), st.hands.length - i < m → j = (i : Int) → i ≤ st.hands.length → Hx (H ++ (L ++ [.cells [.str b', .str c']])) A → (okv && (st.hands.drop i).all fun h => decide (h.1 ≠ b')) = (hOk (b', c') && st.hands.all fun h => decide (h.1 ≠ b')) →
   Ret Q (zEv (Ac (mkR Tryz.prog cfg ok [0, 1, 4, 5, 6, 7, 8, 10, 23, 51, 73, 74, 75, 76, 99] fl) .any H [ResultVar.tmp 4]) (mkR Tryz.prog cfg ok [0, 1, 4, 5, 6, 7, 8, 10, 23, 51, 73, 74, 75, 76, 99] fl) (K.code (Code.loop c2) :: K.blk 1 :: R2) .nrm [some (.ptr b 0), some (.ptr yb 0), x4, x5, some (.int .i64 (endN s st.pos : Nat)), some (.bool okv), some (.ptr (H.length + L.length) 0), x10, x23, x51, some c.hv, some (.int .i64 st.hands.length), some (.int .i64 j), x76, x99] (A)) := by
   intro m
   induction m with
   | zero => intro i j okv A x4 x5 x10 x23 x51 x76 x99 hm; omega
   | succ m ih2 =>
     intro i j okv A x4 x5 x10 x23 x51 x76 x99 hm hj hi hA hfin
     subst hj
     have hA' : Hx ((H ++ L) ++ [.cells [.str b', .str c']]) A := by rw [List.append_assoc]; exact hA
     have hhb : A.cellsAt (H.length + L.length) = some [.str b', .str c'] := hA'.cells (by rw [← hlenB, A7]; rfl)
     have hcA := hA'.cells hcL
     have hlA := hA.len
     simp only [List.length_append] at hlA
     have hhbl := A5 hhb
     by_cases hlt : i < st.hands.length
     ·have t1 : ((i : Int) < st.hands.length) = True := eq_true (by omega)
      have hBA := (hoh.left (L := [.cells [.str b', .str c']])).ext hA'
      have g1 := hBA.isTup; have g2 := hBA.len; have g3 := hBA.lenOk ty65; have g0 := hBA.one
      have g4 := fun hp => hBA.con hp
      have g5 := hBA.idx (T := ty Tryz.prog) (t := 65) (by simp only [Av, AC, ty9, ty65, ty81])
      have g6 := hBA.loadD DW hd0
      have g7 := fun K => g6 i hlt K
      have hhb2 : ∀ M, LH.cellsAt (A ++ M) (H.length + L.length) = some [.str b', .str c'] := fun M => Ag hhb
      rw [Tl hlt, List.all_cons] at hfin
      generalize st.hands.getD i hd0 = x at *
      obtain ⟨xn, xp⟩ := x
      unfold hdC at g7
      dsimp only at hfin
      have g6 := g7
      rw [A4 hc2, ← hR2]
      cases okv with
      | false =>
        simp +contextual -implicitDefEqProofs (maxSteps := 10000000) (disch := first | (and_intros <;> omega -splitDisjunctions) | (push_cast; and_intros <;> omega -splitDisjunctions) | fail) only [g0, g1, g2, g3, g4, g5, g6, t1, hhb2, A1, A0, A2, A3, go_sem, seval]
        rw [hR2]
        exact ih2 (i + 1) ((i : Int) + 1) false _ _ _ _ _ _ _ _ (by omega) (by omega) (by omega) (hA.trans Hx.app) (by rw [← hfin]; simp)
      | true =>
        by_cases hne : xn = b'
        ·subst hne
         simp +contextual -implicitDefEqProofs (maxSteps := 10000000) (disch := first | (and_intros <;> omega -splitDisjunctions) | (push_cast; and_intros <;> omega -splitDisjunctions) | fail) only [g0, g1, g2, g3, g4, g5, g6, t1, hhb2, A1, A0, A2, A3, go_sem, seval]
         rw [hR2]
         exact ih2 (i + 1) ((i : Int) + 1) false _ _ _ _ _ _ _ _ (by omega) (by omega) (by omega) (hA.trans Hx.app) (by rw [← hfin]; simp)
        ·simp +contextual -implicitDefEqProofs (maxSteps := 10000000) (disch := first | (and_intros <;> omega -splitDisjunctions) | (push_cast; and_intros <;> omega -splitDisjunctions) | fail) only [g0, g1, g2, g3, g4, g5, g6, t1, hne, hhb2, A1, A0, A2, A3, go_sem, seval]
         rw [hR2]
         exact ih2 (i + 1) ((i : Int) + 1) true _ _ _ _ _ _ _ _ (by omega) (by omega) (by omega) (hA.trans Hx.app) (by rw [← hfin]; simp [hne])
     ·have t1 : ((i : Int) < st.hands.length) = False := eq_false (by omega)
      rw [List.drop_of_length_le (by omega)] at hfin
      obtain ⟨Y, X, a1, a2, a3, a4, hT⟩ := after A okv hA' (by rw [← hfin]; simp)
      have hbA := A5 hcA
      have hbY := A5 a2
      unfold rdC at a2 a3 a4 hT
      dsimp only at a2 a3 a4 hT
      rw [A4 hc2, ← hR2]
      rcases hT with ⟨rfl, Z, e9, hP⟩ | ⟨rfl, X2, b1, b3, e7, ⟨m1, hP⟩ | ⟨m1, m2, hP⟩ | ⟨m1, m2, Z, e9, hP⟩⟩
      ·simp +contextual -implicitDefEqProofs (maxSteps := 10000000) (disch := first | (and_intros <;> omega -splitDisjunctions) | (push_cast; and_intros <;> omega -splitDisjunctions) | fail) only [t1, hhb, hcA, a1, a2, a3, a4, e9, k0, k1, o1, o2, o3, o4, o5, o6, A1, A0, A2, A3, go_sem, seval]
       exact hP
      ·simp +contextual -implicitDefEqProofs (maxSteps := 10000000) (disch := first | (and_intros <;> omega -splitDisjunctions) | (push_cast; and_intros <;> omega -splitDisjunctions) | fail) only [t1, hhb, hcA, a1, a2, a3, a4, b1, b3, e2, e3, e7, m1, k0, k1, o1, o2, o3, o4, o5, o6, A1, A0, A2, A3, go_sem, seval]
       exact hP
      ·simp +contextual -implicitDefEqProofs (maxSteps := 10000000) (disch := first | (and_intros <;> omega -splitDisjunctions) | (push_cast; and_intros <;> omega -splitDisjunctions) | fail) only [t1, hhb, hcA, a1, a2, a3, a4, b1, b3, e2, e3, e7, m1, m2, k0, k1, o1, o2, o3, o4, o5, o6, A1, A0, A2, A3, go_sem, seval]
       exact hP
      ·simp +contextual -implicitDefEqProofs (maxSteps := 10000000) (disch := first | (and_intros <;> omega -splitDisjunctions) | (push_cast; and_intros <;> omega -splitDisjunctions) | fail) only [t1, hhb, hcA, a1, a2, a3, a4, b1, b3, e2, e3, e7, e9, m1, m2, k0, k1, o1, o2, o3, o4, o5, o6, A1, A0, A2, A3, go_sem, seval]
       exact hP
  exact key2 (st.hands.length + 1) 0 0 _ _ _ _ _ _ _ _ _ (by omega) rfl (Nat.zero_le _) (Hx.refl _) (by rw [List.drop_zero])
 ·
  have hr : r = .bad st.out 13 st.pos := by cases hm; rfl
  obtain ⟨X, e5, hP⟩ := bad13 _ c st hH1 fxL (fun x hx => .inl hx) rfl rfl hr
  clear tail bad13
  have hcl : LH.cellsAt (H ++ L) b2 = some (.str a :: .str b' :: .str c' :: .str d' :: rows strC t) := hcl
  have hrl : (rows strC t).length = t.length := by rw [Ak BD, Nat.mul_one]
  have n2 : (((t.length + 1 + 1 + 1 + 1 : Nat) : Int) = 2) = False := eq_false (by omega)
  have n3 : (((t.length + 1 + 1 + 1 + 1 : Nat) : Int) = 3) = False := eq_false (by omega)
  have i0 : (0 : Int) < ((t.length + 1 + 1 + 1 + 1 : Nat) : Int) := by omega
  simp only [List.length_cons] at e1
  unfold rdC at hc hc1
  unfold run at *
  rw [z52]
  by_cases h1 : a = ⟨#[37, 89, 65, 77, 76]⟩
  ·subst h1
   have ne1 : ((⟨#[37, 89, 65, 77, 76]⟩ : ByteArray) = ⟨#[37, 84, 65, 71]⟩) = False := eq_false (by decide)
   simp +contextual -implicitDefEqProofs (maxSteps := 10000000) (disch := first | (and_intros <;> omega -splitDisjunctions) | (push_cast; and_intros <;> omega -splitDisjunctions) | fail) only [hc, hc1, hcl, hrl, n2, n3, i0, ne1, e1, e5, List.length_cons, List.length_nil, o1, o2, o3, o4, o5, o6, A1, A0, A2, A3, go_sem, seval]
   exact hP
  ·by_cases h2 : a = ⟨#[37, 84, 65, 71]⟩
   ·subst h2
    simp +contextual -implicitDefEqProofs (maxSteps := 10000000) (disch := first | (and_intros <;> omega -splitDisjunctions) | (push_cast; and_intros <;> omega -splitDisjunctions) | fail) only [hc, hc1, hcl, hrl, n2, n3, i0, h1, e1, e5, List.length_cons, List.length_nil, o1, o2, o3, o4, o5, o6, A1, A0, A2, A3, go_sem, seval]
    exact hP
   ·simp +contextual -implicitDefEqProofs (maxSteps := 10000000) (disch := first | (and_intros <;> omega -splitDisjunctions) | (push_cast; and_intros <;> omega -splitDisjunctions) | fail) only [hc, hc1, hcl, hrl, n2, n3, i0, h1, h2, e1, e5, List.length_cons, List.length_nil, o1, o2, o3, o4, o5, o6, A1, A0, A2, A3, go_sem, seval]
    exact hP
open Go.Proofs.YthlbglmfdjdagaaGreatDoor
theorem RH.renew {G H : LH} {b : Nat} {s : ByteArray} {c : RC} {pos depth : Nat} {cd pl : Int} {fr : Bool} {la : Int} {out : List Ev} {ended : List Bool} {hands : List (ByteArray × ByteArray)} {names : List (ByteArray × Nat)} (h : RH G H b s c pos depth cd pl fr la out ended hands names) : RH G ((H ++ [Blk.map []]).set b (.cells (rdC s ⟨c.o, c.en, H.length, .nilsl⟩ pos depth cd pl fr la))) b s ⟨c.o, c.en, H.length, .nilsl⟩ pos depth cd pl fr la out ended [] [] ∧
 RFr b H c ((H ++ [Blk.map []]).set b (.cells (rdC s ⟨c.o, c.en, H.length, .nilsl⟩ pos depth cd pl fr la))) ⟨c.o, c.en, H.length, .nilsl⟩ := by
 have hb := A5 h.cell
 have k : Fx H.length [b] H ((H ++ [Blk.map []]).set b (.cells (rdC s ⟨c.o, c.en, H.length, .nilsl⟩ pos depth cd pl fr la))) := (Fx.app (E := [b]) (Nat.le_refl _)).trans (Fx.set (E := [b]) (.inl (by simp))) (Nat.le_refl _) (fun _ _ h => h)
 have hlb : b < (H ++ [Blk.map []]).length := by simp; omega
 refine ⟨⟨k.hx h.hx h.hx.len (fun x hx => by rw [List.mem_singleton.1 hx]; exact h.hG), h.hG, A1 hlb, h.oo.fr k (fun x hx => ⟨(h.oo.sbk x hx).2, fun hm => h.bo (by rw [← List.mem_singleton.1 hm]; exact hx)⟩), h.oe.fr k (fun x hx => ⟨(h.oe.sbk x hx).2, fun hm => h.be (by rw [← List.mem_singleton.1 hm]; exact hx)⟩),
  .inl ⟨rfl, .inl rfl⟩, ⟨[], ?_, fun t => rfl⟩, h.hx.len, h.bo, h.be, by simp [sbk], h.oe0, by simp [sbk], by simp [sbk], ?_, ?_, by simp [sbk]⟩, ⟨k.sub (fun x hx => by rw [List.mem_singleton.1 hx]; exact Gt), fun x hx => ?_⟩⟩
 ·show LH.mapAt ((H ++ [Blk.map []]).set b _) H.length = _
  rw [Di (by omega)]
  have := F2 H [Blk.map []]
  rw [this]; rfl
 ·intro hm; have := (h.oo.sbk _ hm).2; exact Nat.lt_irrefl _ this
 ·intro hm; have := (h.oe.sbk _ hm).2; exact Nat.lt_irrefl _ this
 ·unfold rbl at hx ⊢
  simp only [List.mem_cons, List.mem_append, sbk, List.not_mem_nil, or_false] at hx ⊢
  grind
theorem Mh {s : ByteArray} {d : Nat} {st : RS} {y : Bool} : Hj s (d + 1) st y = if dirT s st.pos then mb (dirR s st y) fun y st => Hj s d st y else okM () st := rfl
theorem RFr.ofD {b yb : Nat} {H A B : LH} {c c1 c2 : RC} (h : RFr b H c A c1) (k : Fx A.length (yb :: rbl b c1) A B) (k2 : ∀ x ∈ rbl b c2, x ∈ rbl b c1 ∨ A.length ≤ x) (hy : H.length ≤ yb) : RFr b H c B c2 := by
 have hl := h.fx.len
 refine ⟨⟨Nat.le_trans hl k.len, fun x h1 h2 => ?_⟩, fun x hx => ?_⟩
 ·rw [k.get x (by omega) (fun hm => ?_), h.fx.get x h1 h2]
  rcases List.mem_cons.1 hm with rfl | hm
  ·omega
  ·rcases h.nw x hm with h3 | h3
   ·exact h2 h3
   ·omega
 ·rcases k2 x hx with h3 | h3
  ·exact h.nw x h3
  ·exact .inr (by omega)
theorem Hh {s : ByteArray} {st st' : RS} {y y' : Bool} (h : dirR s st y = some (.ok y' st')) : st'.hands.length ≤ st.hands.length + 1 := by
 unfold dirR at h
 rcases A8 h with ⟨o, c, q, m1, m2⟩ | ⟨y1, st1, m1, h⟩
 ·cases m2
 have h1 : st1.hands.length ≤ st.hands.length + 1 := by
  generalize DR s st.pos = ws at *
  rcases ws with _ | ⟨a, _ | ⟨b', _ | ⟨c', _ | ⟨d', t⟩⟩⟩⟩
  ·cases m1
  ·cases m1
  ·dsimp only at m1
   by_cases k : a = T3 ∧ (b' = ⟨#[49, 46, 49]⟩ ∨ b' = ⟨#[49, 46, 50]⟩) ∧ y = false
   ·rw [if_pos k] at m1; cases m1; exact Nat.le_succ _
   ·rw [if_neg k] at m1; cases m1
  ·dsimp only at m1
   by_cases k : a = tagT ∧ hOk (b', c') = true ∧ (st.hands.all fun h => decide (h.1 ≠ b')) = true
   ·rw [if_pos k] at m1
    by_cases k2 : st.hands.length < 1000000
    ·rw [if_pos k2] at m1; cases m1; simp
    ·rw [if_neg k2] at m1; cases m1
   ·rw [if_neg k] at m1; cases m1
  ·cases m1
 by_cases k : Ah s (gpN s (endN s st.pos)) = 1 ∨ dirT s (gpN s (endN s st.pos))
 ·rw [if_pos k] at h; cases h; exact h1
 ·rw [if_neg k] at h; cases h
def Rr (G H : LH) (b : Nat) (s : ByteArray) (c : RC) (r : RR Unit) (w : V) (B : LH) : Prop :=
 match r with
 | .ok _ st' => w = .bool true ∧ ∃ fr la, GoodA G H b s c fr la st' B
 | .bad o cd pl => w = .bool false ∧ BadA G H b s c o cd pl B
theorem K4 {mm : Nat} {G H : LH} {b : Nat} {s : ByteArray} {c : RC} {fr : Bool} {la : Int} {st : RS} (h : RAt G H b s c 0 0 fr la st) (hmb : mm ≤ 999999) (hs : s.size ≤ 1048576) (fl : Nat) (hf : fl ≤ G.length) {r : RR Unit} (hm : docM s mm st = some r) :
 Ret (Rr G H b s c r) (run 41 [.ptr b 0] fl H) := by
 generalize hQ : Rr G H b s c r = Q
 have hs2 : s.size ≤ 16777216 := by omega
 have hc := h.hp.cell
 have hb := A5 hc
 have hG := h.hp.hG
 have hxl := h.hp.hx.len
 obtain ⟨o1, o2, o3, o4, o5, o6⟩ := h.hp.o1
 obtain ⟨hR1, hF1⟩ := h.hp.renew
 have hlen1 : ((H ++ [Blk.map []]).set b (Blk.cells (rdC s ⟨c.o, c.en, H.length, .nilsl⟩ st.pos st.depth 0 0 fr la))).length = H.length + 1 := by simp
 have hA1 : RAt G ((H ++ [Blk.map []]).set b (.cells (rdC s ⟨c.o, c.en, H.length, .nilsl⟩ st.pos st.depth 0 0 fr la))) b s ⟨c.o, c.en, H.length, .nilsl⟩ 0 0 fr la ⟨st.pos, st.out, [], st.ended, [], st.depth⟩ :=
  ⟨hR1, h.le, h.len, h.dep, h.few, Nat.zero_le _, h.fit, fun x hx => absurd hx (by simp), fun x hx => absurd hx (by simp)⟩
 have hA2 := hA1.left (L := [Blk.cells [V.bool false]])
 have hF2 := hF1.trans (RFr.app (L := [Blk.cells [V.bool false]]))
 have hyc : LH.cellsAt ((H ++ [Blk.map []]).set b (Blk.cells (rdC s ⟨c.o, c.en, H.length, .nilsl⟩ st.pos st.depth 0 0 fr la)) ++ [Blk.cells [V.bool false]]) (H.length + 1) = some [V.bool false] := by rw [← hlen1, A7]; rfl
 have hyn : H.length + 1 ∉ rbl b (⟨c.o, c.en, H.length, .nilsl⟩ : RC) := fun k => by have := (hA1.hp.rb _ k).2; omega
 rw [A3 hb, List.append_assoc] at hA2 hF2 hyc
 unfold docM at hm
 unfold rdC at hc hA2 hF2 hyc
 dsimp only at hA2 hF2 hyc
 have hnh : ([] : List (ByteArray × ByteArray)).length + mm ≤ 999999 := by simpa using hmb
 unfold run at *
 rw [z41]
 simp +contextual -implicitDefEqProofs (maxSteps := 10000000) (disch := first | (and_intros <;> omega -splitDisjunctions) | (push_cast; and_intros <;> omega -splitDisjunctions) | fail) only [hc, o1, o2, o3, o4, o5, o6, List.set_set, A1, A0, A2, A3, go_sem, seval]
 refine B9 fun c2 R2 hc2 hR2 => ?_
 have key2 : ∀ (m : Nat) (d : Nat) (B : LH) (c1 : RC) (st1 : RS) (y : Bool) (x2 x4 x5 x14 x17 x43 x50 x72 : Option V), d < m → RAt G B b s c1 0 0 fr la st1 → RFr b H c B c1 → B.cellsAt (H.length + 1) = some [.bool y] → H.length + 1 ∉ rbl b c1 → st1.hands.length + d ≤ 999999 → mb (Hj s d st1 y) (fun _ st => mb (Ds st (evN 2 0 (decide (Ah s st.pos = 1)) ⟨#[]⟩ ⟨#[]⟩ ⟨#[]⟩)) fun _ st => mb (Ls s mm (decide (Ah s st.pos = 1)) st) fun free st => mb (F4 s free st) fun _ st => if ¬ Aw s st.pos then badM st 9 st.pos else mb (if Ah s st.pos = 2 then H4 s st else okM () st) fun _ st' => mb (Ds st' (evN 8 0 (decide (Ah s st.pos = 2)) ⟨#[]⟩ ⟨#[]⟩ ⟨#[]⟩)) fun _ st => okM () st) = some r →
  Ret Q (zEv (Ac (mkR Tryz.prog cfg ok [0, 2, 3, 4, 5, 14, 17, 43, 50, 72] fl) .any H [ResultVar.tmp 2]) (mkR Tryz.prog cfg ok [0, 2, 3, 4, 5, 14, 17, 43, 50, 72] fl) (K.code (Code.loop c2) :: K.blk 0 :: R2) .nrm [some (.ptr b 0), x2, some (.ptr (H.length + 1) 0), x4, x5, x14, x17, x43, x50, x72] (B)) := by
  intro m
  induction m with
  | zero => intro d B c1 st1 y x2 x4 x5 x14 x17 x43 x50 x72 hm; omega
  | succ m ih2 =>
    intro d B c1 st1 y x2 x4 x5 x14 x17 x43 x50 x72 hm hB hFB hy hyn hhl hgo
    have e1 := Dr hB hs2 fl hf
    unfold run at e1
    cases d with
    | zero => cases hgo
    | succ d =>
    rw [Mh] at hgo
    by_cases hd : dirT s st1.pos
    ·rw [if_pos hd] at hgo
     rw [decide_eq_true hd] at e1
     obtain ⟨r1, hr1⟩ : ∃ r1, dirR s st1 y = some r1 := by
      cases hh : dirR s st1 y with
      | none => rw [hh] at hgo; cases hgo
      | some r1 => exact ⟨r1, rfl⟩
     obtain ⟨w, C, e2, c2, k1, k2, k3⟩ := II hB y (H.length + 1) hy hyn (by omega) hd (by omega) hs fl hf hr1
     have hFC := RFr.ofD hFB k1 k2 (by omega)
     rw [hr1] at hgo
     unfold run at e2
     cases r1 with
     | bad o cd pl =>
       cases hgo
       obtain ⟨rfl, st2, k4, k5, k6⟩ := k3
       rw [A4 hc2, ← hR2]
       simp +contextual -implicitDefEqProofs (maxSteps := 10000000) (disch := first | (and_intros <;> omega -splitDisjunctions) | (push_cast; and_intros <;> omega -splitDisjunctions) | fail) only [e1, e2, A1, A0, A2, A3, go_sem, seval]
       subst hQ
       exact ⟨rfl, c2, fr, la, st2, k4, k5, k6, hFC⟩
     | ok y2 st2 =>
       obtain ⟨rfl, k4, k5⟩ := k3
       have hhs := Hh hr1
       have hyl := A5 hy
       rw [A4 hc2]
       simp +contextual -implicitDefEqProofs (maxSteps := 10000000) (disch := first | (and_intros <;> omega -splitDisjunctions) | (push_cast; and_intros <;> omega -splitDisjunctions) | fail) only [e1, e2, A1, A0, A2, A3, go_sem, seval]
       exact ih2 d C c2 st2 y2 _ _ _ _ _ _ _ _ (by omega) k4 hFC k5 (fun k => by
        rcases k2 _ k with k | k
        ·exact hyn k
        ·omega) (by omega) hgo
    ·rw [if_neg hd] at hgo
     rw [decide_eq_false hd] at e1
     have hgo : (mb (Ds st1 (evN 2 0 (decide (Ah s st1.pos = 1)) ⟨#[]⟩ ⟨#[]⟩ ⟨#[]⟩)) fun _ st => mb (Ls s mm (decide (Ah s st.pos = 1)) st) fun free st => mb (F4 s free st) fun _ st => if ¬ Aw s st.pos then badM st 9 st.pos else mb (if Ah s st.pos = 2 then H4 s st else okM () st) fun _ st' => mb (Ds st' (evN 8 0 (decide (Ah s st.pos = 2)) ⟨#[]⟩ ⟨#[]⟩ ⟨#[]⟩)) fun _ st => okM () st) = some r := hgo
     have e0 := e1
     rw [A4 hc2, ← hR2]
     clear ih2 hA2 hF2 hyc hyn hc o1 o2 o3 o4 o5 o6 hR1 hF1 hA1 hlen1 hR2 hc2
     simp +contextual -implicitDefEqProofs (maxSteps := 10000000) (disch := first | (and_intros <;> omega -splitDisjunctions) | (push_cast; and_intros <;> omega -splitDisjunctions) | fail) only [e0, A1, A0, A2, A3, go_sem, seval]
     have hcB := hB.hp.cell
     have hbB := A5 hcB
     have hxB := hB.hp.hx.len
     obtain ⟨o1, o2, o3, o4, o5, o6⟩ := hB.hp.o1
     have e1 := fun fl H => AK s st1.pos fl H hB.le (by omega)
     rcases A8 hgo with ⟨o, cc, q, m1, m2⟩ | ⟨k0, st2, m1, hgo2⟩
     ·have := (AD m1).2; cases this
     obtain ⟨⟨t1, t2⟩, t3⟩ := AD m1
     obtain ⟨w, C, e2, rfl, c2, hC, hFC⟩ := BC hB (evN 2 0 (decide (Ah s st1.pos = 1)) ⟨#[]⟩ ⟨#[]⟩ ⟨#[]⟩) t1 t2 fl hf
     have hst2 : st2 = st1.tell (evN 2 0 (decide (Ah s st1.pos = 1)) ⟨#[]⟩ ⟨#[]⟩ ⟨#[]⟩) := by cases t3; rfl
     rw [← hst2] at hC
     have hpos2 : st2.pos = st1.pos := by rw [hst2]; rfl
     rw [hpos2] at hgo2
     have hFC2 := hFB.trans hFC
     have hcC := hC.hp.cell
     have hbC := A5 hcC
     obtain ⟨p1, p2, p3, p4, p5, p6⟩ := hC.hp.o1
     have hC2 := hC.upd (cd' := 0) (pl' := 0) (fr' := false) (la' := la) (p := st2.pos) (d := st2.depth) hC.le hC.dep
     have hFD := hFC2.trans (RFr.set (x := .cells (rdC s c2 st2.pos st2.depth 0 0 false la)))
     have h3 : decide (Ah s st1.pos = 1) = true → (⟨st2.pos, st2.out, st2.names, st2.ended, st2.hands, st2.depth⟩ : RS).pos + 3 ≤ s.size := fun k => by
      have : Ah s st1.pos = 1 := of_decide_eq_true k
      show st2.pos + 3 ≤ _
      rw [hpos2]
      exact F3 (by omega)
     have hmk : decide (Ah s st1.pos = 1) = decide (Ah s (st1.pos : Nat) = 1) := rfl
     unfold evN evC at e2
     dsimp only at e2
     have hstE : (⟨st2.pos, st2.out, st2.names, st2.ended, st2.hands, st2.depth⟩ : RS) = st2 := rfl
     unfold rdC at hcB hcC
     unfold run at e2
     rcases A8 hgo2 with ⟨o, cd, pl, m2, rfl⟩ | ⟨free, st3, m2, hgo3⟩
     ·obtain ⟨w, D, e3, rfl, hbad⟩ := MT hC2 (decide (Ah s st1.pos = 1)) h3 hs fl hf m2
      have hbad2 := hbad.trans hFD
      clear hbad
      unfold rdC at e3
      unfold run at e3
      simp +contextual -implicitDefEqProofs (maxSteps := 10000000) (disch := first | (and_intros <;> omega -splitDisjunctions) | (push_cast; and_intros <;> omega -splitDisjunctions) | fail) only [hcB, hcC, e1, e2, e3, o1, o2, o3, o4, o5, o6, p1, p2, p3, p4, p5, p6, A1, A0, A2, A3, go_sem, seval]
      subst hQ
      exact ⟨rfl, hbad2⟩
     obtain ⟨w, D, e3, rfl, la3, c3, hD, hFD3⟩ := MT hC2 (decide (Ah s st1.pos = 1)) h3 hs fl hf m2
     have hFD4 := hFD.trans hFD3
     unfold rdC at e3
     unfold run at e3
     rcases A8 hgo3 with ⟨o, cd, pl, m3, rfl⟩ | ⟨back, st4, m3, hgo4⟩
     ·obtain ⟨w, E, e4, rfl, hbad⟩ := DG hD hs2 fl hf m3
      have hbad2 := hbad.trans hFD4
      clear hbad
      unfold run at e4
      simp +contextual -implicitDefEqProofs (maxSteps := 10000000) (disch := first | (and_intros <;> omega -splitDisjunctions) | (push_cast; and_intros <;> omega -splitDisjunctions) | fail) only [hcB, hcC, e1, e2, e3, e4, o1, o2, o3, o4, o5, o6, p1, p2, p3, p4, p5, p6, A1, A0, A2, A3, go_sem, seval]
      subst hQ
      exact ⟨rfl, hbad2⟩
     obtain ⟨w, E, e4, rfl, c4, hE, hFE⟩ := DG hD hs2 fl hf m3
     have hFE2 := hFD4.trans hFE
     have hcE := hE.hp.cell
     have hbE := A5 hcE
     obtain ⟨q1, q2, q3, q4, q5, q6⟩ := hE.hp.o1
     have e5 := By hE st4.pos hE.le hs2 fl hf
     have e6 := fun fl H => AK s st4.pos fl H hE.le (by omega)
     unfold run at e4
     unfold rdC at hcE
     by_cases hst : ¬ Aw s st4.pos
     ·rw [if_pos hst] at hgo4
      cases hgo4
      have e7 := Ao hE 9 st4.pos fl hf
      have hbad := (Bo hE (cd := 9) (pl := st4.pos) (by decide)).trans hFE2
      rw [decide_eq_false hst] at e5
      unfold rdC at e7 hbad
      simp +contextual -implicitDefEqProofs (maxSteps := 10000000) (disch := first | (and_intros <;> omega -splitDisjunctions) | (push_cast; and_intros <;> omega -splitDisjunctions) | fail) only [hcB, hcC, hcE, e1, e2, e3, e4, e5, e7, o1, o2, o3, o4, o5, o6, p1, p2, p3, p4, p5, p6, q1, q2, q3, q4, q5, q6, A1, A0, A2, A3, go_sem, seval]
      subst hQ
      exact ⟨rfl, hbad⟩
     rw [if_neg hst] at hgo4
     have hst : Aw s st4.pos := Classical.byContradiction hst
     rw [decide_eq_true hst] at e5
     by_cases hmk2 : Ah s st4.pos = 2
     ·rw [if_pos hmk2] at hgo4
      have h33 := F3 (s := s) (p := st4.pos) (by omega)
      rcases A8 hgo4 with ⟨o, cd, pl, m4, rfl⟩ | ⟨_, st5, m4, hgo5⟩
      ·obtain ⟨w, F, e7, rfl, hbad⟩ := EI hE h33 hs2 fl hf m4
       have hbad2 := hbad.trans hFE2
       clear hbad
       unfold run at e7
       simp +contextual -implicitDefEqProofs (maxSteps := 10000000) (disch := first | (and_intros <;> omega -splitDisjunctions) | (push_cast; and_intros <;> omega -splitDisjunctions) | fail) only [hcB, hcC, hcE, e1, e2, e3, e4, e5, e6, e7, hmk2, o1, o2, o3, o4, o5, o6, p1, p2, p3, p4, p5, p6, q1, q2, q3, q4, q5, q6, A1, A0, A2, A3, go_sem, seval]
       subst hQ
       exact ⟨rfl, hbad2⟩
      obtain ⟨w, F, e7, rfl, c5, hF5, hFF⟩ := EI hE h33 hs2 fl hf m4
      rcases A8 hgo5 with ⟨o, cc, q, m5, m6⟩ | ⟨k5, st6, m5, hgo6⟩
      ·have := (AD m5).2; cases this
      obtain ⟨⟨t4, t5⟩, t6⟩ := AD m5
      cases t6
      cases hgo6
      rw [decide_eq_true hmk2] at t5
      obtain ⟨w, X, e8, rfl, c6, hX, hFX⟩ := BC hF5 (evN 8 0 true ⟨#[]⟩ ⟨#[]⟩ ⟨#[]⟩) t4 t5 fl hf
      have hFX2 := (hFE2.trans hFF).trans hFX
      rw [decide_eq_true hmk2] at hQ
      unfold evN evC at e8
      dsimp only at e8
      unfold run at e7 e8
      simp +contextual -implicitDefEqProofs (maxSteps := 10000000) (disch := first | (and_intros <;> omega -splitDisjunctions) | (push_cast; and_intros <;> omega -splitDisjunctions) | fail) only [hcB, hcC, hcE, e1, e2, e3, e4, e5, e6, e7, e8, hmk2, o1, o2, o3, o4, o5, o6, p1, p2, p3, p4, p5, p6, q1, q2, q3, q4, q5, q6, A1, A0, A2, A3, go_sem, seval]
      subst hQ
      exact ⟨rfl, free, back, c6, hX, hFX2⟩
     ·rw [if_neg hmk2] at hgo4
      rcases A8 hgo4 with ⟨o, cd, pl, m4, m5⟩ | ⟨_, st5, m4, hgo5⟩
      ·cases m4
      cases m4
      rcases A8 hgo5 with ⟨o, cc, q, m5, m6⟩ | ⟨k5, st6, m5, hgo6⟩
      ·have := (AD m5).2; cases this
      obtain ⟨⟨t4, t5⟩, t6⟩ := AD m5
      cases t6
      cases hgo6
      rw [decide_eq_false hmk2] at t5
      obtain ⟨w, X, e8, rfl, c6, hX, hFX⟩ := BC hE (evN 8 0 false ⟨#[]⟩ ⟨#[]⟩ ⟨#[]⟩) t4 t5 fl hf
      have hFX2 := hFE2.trans hFX
      rw [decide_eq_false hmk2] at hQ
      unfold evN evC at e8
      dsimp only at e8
      unfold run at e8
      simp +contextual -implicitDefEqProofs (maxSteps := 10000000) (disch := first | (and_intros <;> omega -splitDisjunctions) | (push_cast; and_intros <;> omega -splitDisjunctions) | fail) only [hcB, hcC, hcE, e1, e2, e3, e4, e5, e6, e8, hmk2, o1, o2, o3, o4, o5, o6, p1, p2, p3, p4, p5, p6, q1, q2, q3, q4, q5, q6, A1, A0, A2, A3, go_sem, seval]
      subst hQ
      exact ⟨rfl, free, back, c6, hX, hFX2⟩
 exact key2 (mm + 1) mm _ ⟨c.o, c.en, H.length, .nilsl⟩ ⟨st.pos, st.out, [], st.ended, [], st.depth⟩ false _ _ _ _ _ _ _ _ (by omega) hA2 hF2 hyc hyn hnh hm
end Go.Proofs.YthlbglmfdjdagaaGreatDoor.Lg
