/- The logical machine and its contracts, part 10. No condition. -/
import Derived.Test.YthlbglmfdjdagaaGreatDoorN9
namespace Go.Proofs.YthlbglmfdjdagaaGreatDoor.Lg
set_option linter.unusedSimpArgs false
set_option linter.unusedVariables false
set_option maxRecDepth 100000
set_option maxHeartbeats 40000000
open Go.Proofs.YthlbglmfdjdagaaGreatDoor
def H8 (G : LH) (b : Nat) (s : ByteArray) (rec : RS → Option (RR Unit)) : Prop :=
 ∀ (H : LH) (c : RC) (fr : Bool) (la : Int) (st : RS) (fl : Nat) (r : RR Unit), RAt G H b s c 0 0 fr la st → fl ≤ G.length → BP s st.pos = 0 → rec st = some r → Ret (PostU G H b s c fr la r) (run 120 [.ptr b 0] fl H)
theorem EN {s : ByteArray} {p : Nat} (h1 : p < s.size) (h2 : Ah s p = 0) : BP s p = 0 := by
 unfold BP
 rw [if_neg (by omega), if_neg (by simpa using h2)]
theorem K8 {G H : LH} {b : Nat} {s : ByteArray} {c : RC} {fr : Bool} {la : Int} {st : RS} (h : RAt G H b s c 0 0 fr la st) (h0 : BP s st.pos = 0) (hs : s.size ≤ 16777216) (fl : Nat) (hf : fl ≤ G.length) : run 135 [.ptr b 0] fl H = some (.bool true, H) := by
 have hc := h.hp.cell
 have hb := A5 hc
 have hle := h.le
 have e1 := fun fl H => AK s st.pos fl H hle (by omega)
 obtain ⟨o1, o2, o3, o4, o5, o6⟩ := h.hp.o1
 obtain ⟨h1, h2⟩ := Fd h0
 have t1 : ((s.size : Int) ≤ (st.pos : Int)) = False := eq_false (by omega)
 unfold rdC at *
 unfold run at *
 rw [z135]
 simp +contextual -implicitDefEqProofs (maxSteps := 10000000) (disch := first | (and_intros <;> omega -splitDisjunctions) | (push_cast; and_intros <;> omega -splitDisjunctions) | fail) only [hc, e1, t1, h2, o1, o2, o3, o4, o5, o6, A1, A0, A2, A3, go_sem, seval]
theorem Dz {s : ByteArray} {st : RS} {r : RR PR} (h : Ez s st = some r) : (∃ o c p, CN s true st = some (.bad o c p) ∧ r = .bad o c p) ∨ ∃ q st1, CN s true st = some (.ok q st1) ∧ ((q.has = true ∧ BP s st1.pos ≠ 0 ∧ r = .bad st1.out (BP s st1.pos) st1.pos) ∨ ((q.has = true → BP s st1.pos = 0) ∧ r = .ok q st1)) := by
 unfold Ez at h
 rcases A8 h with ⟨o, c, q, m1, m2⟩ | ⟨q, st1, m1, h⟩
 ·exact .inl ⟨o, c, q, m1, m2⟩
 ·refine .inr ⟨q, st1, m1, ?_⟩
  by_cases hh : q.has = true
  ·rw [if_pos hh] at h
   rcases A8 h with ⟨o, c, p, m2, m3⟩ | ⟨_, st2, m2, m3⟩
   ·rcases FG m2 with ⟨k1, k2⟩ | ⟨k1, k2⟩
    ·cases k2
    ·cases k2; exact .inl ⟨hh, k1, m3⟩
   ·rcases FG m2 with ⟨k1, k2⟩ | ⟨k1, k2⟩
    ·cases k2; cases m3; exact .inr ⟨fun _ => k1, rfl⟩
    ·cases k2
  ·rw [if_neg hh] at h
   cases h
   exact .inr ⟨fun k => absurd k hh, rfl⟩
theorem K6 {rec : RS → Option (RR Unit)} {G H : LH} {b : Nat} {s : ByteArray} {c : RC} {fr : Bool} {la : Int} {st : RS} (IH : H8 G b s rec) (hrec : KpF s rec) (h : RAt G H b s c 0 0 fr la st) (p : PR) (n : Nat) (h91 : bA s st.pos = 91) (hs : s.size ≤ 1048576) (fl : Nat) (hf : fl ≤ G.length) {r : RR Unit} (hm : Dd s rec n st p = some r) :
 Ret (PostU G H b s c fr la r) (run 107 [.ptr b 0, .agg (prC p)] fl H) := by
 have hc := h.hp.cell
 have hb := A5 hc
 have hG := h.hp.hG
 have hle := h.le
 have hlt := Ai h91 (by omega)
 obtain ⟨o1, o2, o3, o4, o5, o6⟩ := h.hp.o1
 have hL := h.left (L := [.cells (prC p)])
 unfold Dd at hm
 generalize hQ : PostU G H b s c fr la r = Q
 rcases A8 hm with ⟨o, cd, pl, m1, rfl⟩ | ⟨k, st1, m1, hm⟩
 ·obtain ⟨w, B, e1, ⟨j, rfl⟩, hbad⟩ := Cy hL 3 6 p st.pos fl hf m1
  have hbad := hbad.trans (RFr.app (H := H))
  unfold rdC prC at *
  unfold run at *
  rw [z107]
  simp +contextual -implicitDefEqProofs (maxSteps := 10000000) (disch := first | (and_intros <;> omega -splitDisjunctions) | (push_cast; and_intros <;> omega -splitDisjunctions) | fail) only [hc, e1, o1, o2, o3, o4, o5, o6, A1, A0, A2, A3, go_sem, seval]
  subst hQ
  exact ⟨rfl, hbad⟩
 obtain ⟨w, B, e1, rfl, c1, hA1, hF1⟩ := Cy hL 3 6 p st.pos fl hf m1
 have hF1 := RFr.from hF1
 obtain ⟨k1, k2, k3, k4, k5⟩ := Dl (s := s) m1 hle
 have hcB := hA1.hp.cell
 have hbB := A5 hcB
 obtain ⟨p1, p2, p3, p4, p5, p6⟩ := hA1.hp.o1
 have hA2 := hA1.upd (cd' := 0) (pl' := 0) (fr' := fr) (la' := la) (p := st1.pos + 1) (d := st1.depth) (by omega) hA1.dep
 have hF2 := hF1.trans (RFr.set (x := .cells (rdC s c1 (st1.pos + 1) st1.depth 0 0 fr la)))
 have hone : (((st1.pos + 1 : Nat) : Int)) = (st1.pos : Int) + 1 := by omega
 unfold rdC at hc hcB hF2 hA2
 unfold prC at e1 ⊢
 rw [hone] at hA2 hF2
 unfold run at *
 rw [z107]
 simp +contextual -implicitDefEqProofs (maxSteps := 10000000) (disch := first | (and_intros <;> omega -splitDisjunctions) | (push_cast; and_intros <;> omega -splitDisjunctions) | fail) only [hc, e1, hcB, o1, o2, o3, o4, o5, o6, p1, p2, p3, p4, p5, p6, A1, A0, A2, A3, go_sem, seval]
 clear e1 hcB hbB p1 p2 p3 p4 p5 p6 o1 o2 o3 o4 o5 o6 hc
 refine B9 fun c2 R2 hc2 hR2 => ?_
 have key2 : ∀ (m : Nat) (d : Nat) (B : LH) (c' : RC) (st' : RS) (x1 x3 x4 x6 x18 x28 x38 x61 : Option V), d < m → RAt G B b s c' 0 0 fr la st' → RFr b H c B c' → k < st'.out.length → 0 < st'.depth → Fg s rec k d st' = some r →
  Ret Q (zEv (Ac (mkR Tryz.prog cfg ok [0, 1, 3, 4, 5, 6, 18, 28, 38, 61] fl) .any H [ResultVar.tmp 4]) (mkR Tryz.prog cfg ok [0, 1, 3, 4, 5, 6, 18, 28, 38, 61] fl) (K.code (Code.loop c2) :: K.blk 0 :: R2) .nrm [some (.ptr b 0), x1, x3, x4, some (.int .i64 k), x6, x18, x28, x38, x61] (B)) := by
  intro m
  induction m with
  | zero => intro d B c' st' x1 x3 x4 x6 x18 x28 x38 x61 hm; omega
  | succ m ih2 =>
    intro d B c' st' x1 x3 x4 x6 x18 x28 x38 x61 hm hA hF hk hd hgo
    cases d with
    | zero => cases hgo
    | succ d =>
    rw [Im] at hgo
    have hs2 : s.size ≤ 16777216 := by omega
    rcases A8 hgo with ⟨o, cd, pl, m1, rfl⟩ | ⟨_, st1, m1, hgo⟩
    ·obtain ⟨w, C, e1, rfl, hbad⟩ := BR hA hs2 fl hf m1
     unfold run at e1
     rw [A4 hc2, ← hR2]
     simp +contextual -implicitDefEqProofs (maxSteps := 10000000) (disch := first | (and_intros <;> omega -splitDisjunctions) | (push_cast; and_intros <;> omega -splitDisjunctions) | fail) only [e1, go_sem, seval]
     subst hQ
     exact ⟨rfl, hbad.trans hF⟩
    obtain ⟨w, C, e1, rfl, c1, hA1, hF1⟩ := BR hA hs2 fl hf m1
    obtain ⟨g1, g2, g3⟩ := Bu m1 hA.le
    have hFC := hF.trans hF1
    have hcC := hA1.hp.cell
    have hbC := A5 hcC
    obtain ⟨o1, o2, o3, o4, o5, o6⟩ := hA1.hp.o1
    have hgo1 := g1.out; have hgd1 := g1.dep
    by_cases h93 : bA s st1.pos = 93
    ·rw [if_pos h93] at hgo
     have hone : (((st1.pos + 1 : Nat) : Int)) = (st1.pos : Int) + 1 := by omega
     have hA2 := hA1.upd (cd' := 0) (pl' := 0) (fr' := fr) (la' := la) (p := st1.pos + 1) (d := st1.depth) (by omega) hA1.dep
     obtain ⟨w, D, e2, rfl, st2, rfl, hgood⟩ := IQ hA2 k (by show k < st1.out.length; omega) (by show 0 < st1.depth; omega) fl hf hgo
     have hgood := hgood.trans (hFC.trans RFr.set)
     unfold rdC at e2 hcC
     rw [hone] at e2
     unfold run at e1 e2
     rw [A4 hc2, ← hR2]
     simp +contextual -implicitDefEqProofs (maxSteps := 10000000) (disch := first | (and_intros <;> omega -splitDisjunctions) | (push_cast; and_intros <;> omega -splitDisjunctions) | fail) only [e1, e2, hcC, h93, o1, o2, o3, o4, o5, o6, A1, A0, A2, A3, go_sem, seval]
     subst hQ
     exact ⟨rfl, hgood⟩
    rw [if_neg h93] at hgo
    unfold rdC at hcC
    rcases A8 hgo with ⟨o, cd, pl, m2, rfl⟩ | ⟨_, st2, m2, hgo⟩
    ·obtain ⟨w, D, e2, rfl, hbad⟩ := IH C c1 fr la st1 fl _ hA1 hf (EN g2 g3) m2
     unfold run at e1 e2
     rw [A4 hc2, ← hR2]
     simp +contextual -implicitDefEqProofs (maxSteps := 10000000) (disch := first | (and_intros <;> omega -splitDisjunctions) | (push_cast; and_intros <;> omega -splitDisjunctions) | fail) only [e1, e2, hcC, h93, o1, o2, o3, o4, o5, o6, A1, A0, A2, A3, go_sem, seval]
     subst hQ
     exact ⟨rfl, hbad.trans hFC⟩
    obtain ⟨w, D, e2, rfl, c2x, hA2, hF2⟩ := IH C c1 fr la st1 fl _ hA1 hf (EN g2 g3) m2
    have j1 := hrec _ _ _ m2 g2
    have hFD := hFC.trans hF2
    rcases A8 hgo with ⟨o, cd, pl, m3, rfl⟩ | ⟨_, st3, m3, hgo⟩
    ·obtain ⟨w, E, e3, rfl, hbad⟩ := BR hA2 hs2 fl hf m3
     unfold run at e1 e2 e3
     rw [A4 hc2, ← hR2]
     simp +contextual -implicitDefEqProofs (maxSteps := 10000000) (disch := first | (and_intros <;> omega -splitDisjunctions) | (push_cast; and_intros <;> omega -splitDisjunctions) | fail) only [e1, e2, e3, hcC, h93, o1, o2, o3, o4, o5, o6, A1, A0, A2, A3, go_sem, seval]
     subst hQ
     exact ⟨rfl, hbad.trans hFD⟩
    obtain ⟨w, E, e3, rfl, c3x, hA3, hF3⟩ := BR hA2 hs2 fl hf m3
    obtain ⟨l1, l2, l3⟩ := Bu m3 j1.le
    have hFE := hFD.trans hF3
    rcases A8 hgo with ⟨o, cd, pl, m4, rfl⟩ | ⟨_, st4, m4, hgo⟩
    ·obtain ⟨w, X, e4, rfl, hbad⟩ := EH hA3 93 (by decide) l2 fl hf hs2 m4
     unfold run at e1 e2 e3 e4
     rw [A4 hc2, ← hR2]
     simp +contextual -implicitDefEqProofs (maxSteps := 10000000) (disch := first | (and_intros <;> omega -splitDisjunctions) | (push_cast; and_intros <;> omega -splitDisjunctions) | fail) only [e1, e2, e3, e4, hcC, h93, o1, o2, o3, o4, o5, o6, A1, A0, A2, A3, go_sem, seval]
     subst hQ
     exact ⟨rfl, hbad.trans hFE⟩
    obtain ⟨w, X, e4, rfl, c4x, hA4, hF4⟩ := EH hA3 93 (by decide) l2 fl hf hs2 m4
    have q1 := Dw m4 l2
    have K := (j1.trans l1).trans q1
    have Kd := K.dep; have Ko := K.out
    unfold run at e1 e2 e3 e4
    rw [A4 hc2]
    simp +contextual -implicitDefEqProofs (maxSteps := 10000000) (disch := first | (and_intros <;> omega -splitDisjunctions) | (push_cast; and_intros <;> omega -splitDisjunctions) | fail) only [e1, e2, e3, e4, hcC, h93, o1, o2, o3, o4, o5, o6, A1, A0, A2, A3, go_sem, seval]
    exact ih2 d X c4x st4 _ _ _ _ _ _ _ _ (by omega) hA4 (hFE.trans hF4) (by omega) (by omega) hgo
 exact key2 (n + 1) n _ c1 _ _ _ _ _ _ _ _ _ (by omega) hA2 hF2 (by show k < st1.out.length; omega) (by show 0 < st1.depth; omega) hm
theorem M3 {G H : LH} {b : Nat} {s : ByteArray} {c : RC} {fr : Bool} {la : Int} {st : RS} (h : RAt G H b s c 0 0 fr la st) (h0 : BP s st.pos ≠ 0) (hs : s.size ≤ 16777216) (fl : Nat) (hf : fl ≤ G.length) :
 Ret (fun w B => w = .bool false ∧ BadA G H b s c st.out (BP s st.pos) st.pos B) (run 135 [.ptr b 0] fl H) := by
 have hm : GV s st = some (.bad st.out (BP s st.pos) st.pos) := by unfold GV; rw [if_neg h0]; rfl
 exact MQ h hs fl hf hm
theorem Fo {rec : RS → Option (RR Unit)} {G H : LH} {b : Nat} {s : ByteArray} {c : RC} {fr : Bool} {la : Int} {st : RS} (IH : H8 G b s rec) (hrec : KpF s rec) (h : RAt G H b s c 0 0 fr la st) (h0 : BP s st.pos = 0) (hs : s.size ≤ 1048576) (fl : Nat) (hf : fl ≤ G.length) {r : RR Unit} (hm : JR s rec st = some r) :
 Ret (PostU G H b s c fr la r) (run 122 [.ptr b 0] fl H) := by
 have hG := h.hp.hG
 have hs2 : s.size ≤ 16777216 := by omega
 obtain ⟨hlt, _⟩ := Fd h0
 unfold JR at hm
 generalize hQ : PostU G H b s c fr la r = Q
 rcases A8 hm with ⟨o, cd, pl, m1, rfl⟩ | ⟨q, st1, m1, hm⟩
 ·rcases Dz m1 with ⟨o2, c2, p2, n1, n2⟩ | ⟨q, st1, n1, ⟨n2, n3, n4⟩ | ⟨n2, n3⟩⟩
  ·cases n2
   obtain ⟨w, B, e1, ⟨p, rfl⟩, hbad⟩ := AV h true hs fl hf n1
   have hbad := hbad
   obtain ⟨c', fr', la', st', b1, b2, b3, b4⟩ := hbad
   have hxB := b1.hp.hx.len
   have hfin : BadA G H b s c o cd pl (B ++ [.cells (prC p)]) := ⟨c', fr', la', st', b1.left, b2, b3, b4.trans RFr.app⟩
   unfold prC at *
   unfold run at *
   rw [z122]
   simp +contextual -implicitDefEqProofs (maxSteps := 10000000) (disch := first | (and_intros <;> omega -splitDisjunctions) | (push_cast; and_intros <;> omega -splitDisjunctions) | fail) only [e1, A1, A0, A2, A3, go_sem, seval]
   subst hQ
   exact ⟨rfl, hfin⟩
  ·cases n4
   obtain ⟨w, B, e1, rfl, c1, hA1, hF1⟩ := AV h true hs fl hf n1
   obtain ⟨w, C, e2, rfl, hbad⟩ := M3 (hA1.left (L := [.cells (prC q)])) n3 hs2 fl hf
   have hbad2 := hbad.trans (hF1.trans RFr.app)
   clear hbad
   have hxB := hA1.hp.hx.len
   obtain ⟨qh, qa, qg, qf, qn⟩ := q
   dsimp only at n2
   subst n2
   unfold prC at *
   unfold run at *
   rw [z122]
   simp +contextual -implicitDefEqProofs (maxSteps := 10000000) (disch := first | (and_intros <;> omega -splitDisjunctions) | (push_cast; and_intros <;> omega -splitDisjunctions) | fail) only [e1, e2, A1, A0, A2, A3, go_sem, seval]
   subst hQ
   exact ⟨rfl, hbad2⟩
  ·cases n3
 rcases Dz m1 with ⟨o2, c2, p2, n1, n2⟩ | ⟨q', st1', n1, ⟨n2, n3, n4⟩ | ⟨n2, n3⟩⟩
 ·cases n2
 ·cases n4
 cases n3
 obtain ⟨w, B, e1, rfl, c1, hA1, hF1⟩ := AV h true hs fl hf n1
 obtain ⟨k1, k2, k3, k4⟩ := Ba n1 h.le
 have h01 : BP s st1.pos = 0 := by
  cases hq : q.has with
  | true => exact n2 hq
  | false => rw [(k3 hq).1]; exact h0
 obtain ⟨hlt1, _⟩ := Fd h01
 have hA2 := hA1.left (L := [.cells (prC q)])
 have hF2 := hF1.trans (RFr.app (L := [.cells (prC q)]))
 have e2 := K8 hA2 h01 hs2 fl hf
 have e3 := fun q (h : (0 : Int) ≤ q) fl H => Ad s q fl H h (by omega)
 have e4 := fun q (h : (0 : Int) ≤ q) fl H => B7 s q fl H h (by omega)
 have e5 := fun b fl H => CP b fl H
 have e6 := fun b fl H => Cj b fl H
 have e7 := fun fl H => B6 s st1.pos true fl H (by omega)
 rw [Ay k1.le] at e7
 have hcB := hA1.hp.cell
 have hbB := A5 hcB
 obtain ⟨o1, o2, o3, o4, o5, o6⟩ := hA1.hp.o1
 have hpB : LH.cellsAt (B ++ [.cells (prC q)]) B.length = some (prC q) := by rw [A7]; rfl
 have hxn : B.length ∉ rbl b c1 := fun k => by have := (hA1.hp.rb _ k).2; omega
 have hhas : ∀ (x y : Option (V × LH)), True := fun _ _ => trivial
 clear hhas
 have tail : ∀ (D : LH) (c2 : RC) (st2 : RS) (r : RR Unit), RAt G D b s c2 0 0 fr la st2 → RFr b (B ++ [.cells (prC q)]) c1 D c2 → Kp s st1 st2 → (mb (gapM s st2) fun _ st' => Ih s rec (decide (quoB (bA s st1.pos))) st') = some r →
  (∃ o cd pl E, gapM s st2 = some (.bad o cd pl) ∧ r = .bad o cd pl ∧ run 119 [.ptr b 0] fl D = some (.bool false, E) ∧ BadA G H b s c o cd pl E) ∨
  ∃ st3 E c3, gapM s st2 = some (.ok () st3) ∧ run 119 [.ptr b 0] fl D = some (.bool true, E) ∧ RAt G E b s c3 0 0 fr la st3 ∧ RFr b H c E c3 ∧ st3.pos < s.size ∧ Ih s rec (decide (quoB (bA s st1.pos))) st3 = some r := by
  intro D c2 st2 r hD hFD hK hgo
  rcases A8 hgo with ⟨o, cd, pl, m3, rfl⟩ | ⟨_, st3, m3, hgo⟩
  ·obtain ⟨w, E, e3, rfl, hbad⟩ := BR hD hs2 fl hf m3
   exact .inl ⟨o, cd, pl, E, m3, rfl, e3, hbad.trans (hF2.trans hFD)⟩
  ·obtain ⟨w, E, e3, rfl, c3, hA3, hF3⟩ := BR hD hs2 fl hf m3
   exact .inr ⟨st3, E, c3, m3, e3, hA3, (hF2.trans hFD).trans hF3, (Bu m3 hK.le).2.1, hgo⟩
 have ending : ∀ (E : LH) (c3 : RC) (st3 : RS) (r : RR Unit), RAt G E b s c3 0 0 fr la st3 → RFr b H c E c3 → st3.pos < s.size → Ih s rec (decide (quoB (bA s st1.pos))) st3 = some r →
  (¬ (bA s st3.pos = 58 ∧ (gapP s ((st3.pos : Int) + 1) ∨ flwP (bA s ((st3.pos : Int) + 1)) ∨ quoB (bA s st1.pos))) ∧ ∃ X, run 77 [.ptr b 0, .int .i64 1, .str ⟨#[]⟩, .agg [.bool false, .str ⟨#[]⟩, .str ⟨#[]⟩, .int .i64 0, .int .i64 0]] fl E = some (und, X) ∧ PostU G H b s c fr la r (.bool true) X) ∨
  ((bA s st3.pos = 58 ∧ (gapP s ((st3.pos : Int) + 1) ∨ flwP (bA s ((st3.pos : Int) + 1)) ∨ quoB (bA s st1.pos))) ∧
    ((∃ X, run 119 [.ptr b 0] fl (E.set b (.cells [V.str s, V.int .i64 ((st3.pos : Int) + 1), c3.o, c3.en, V.map c3.nm, c3.hv, V.int .i64 (st3.depth : Nat), V.int .i64 0, V.int .i64 0, V.bool fr, V.int .i64 la])) = some (.bool false, X) ∧ PostU G H b s c fr la r (.bool false) X) ∨
    ∃ X c4 st4, run 119 [.ptr b 0] fl (E.set b (.cells [V.str s, V.int .i64 ((st3.pos : Int) + 1), c3.o, c3.en, V.map c3.nm, c3.hv, V.int .i64 (st3.depth : Nat), V.int .i64 0, V.int .i64 0, V.bool fr, V.int .i64 la])) = some (.bool true, X) ∧ RAt G X b s c4 0 0 fr la st4 ∧ st4.pos < s.size ∧
     (((bA s st4.pos = 44 ∨ bA s st4.pos = 125) ∧ ∃ Y, run 77 [.ptr b 0, .int .i64 1, .str ⟨#[]⟩, .agg [.bool false, .str ⟨#[]⟩, .str ⟨#[]⟩, .int .i64 0, .int .i64 0]] fl X = some (und, Y) ∧ PostU G H b s c fr la r (.bool true) Y) ∨
     (¬ (bA s st4.pos = 44 ∨ bA s st4.pos = 125) ∧ ∃ w Y, run 120 [.ptr b 0] fl X = some (w, Y) ∧ PostU G H b s c fr la r w Y)))) := by
  intro E c3 st3 r hE hFE hlt3 hgo
  unfold Ih at hgo
  have hp1 : ((st3.pos + 1 : Nat) : Int) = (st3.pos : Int) + 1 := by omega
  rw [hp1] at hgo
  simp only [decide_eq_true_eq] at hgo
  by_cases hx : bA s st3.pos = 58 ∧ (gapP s ((st3.pos : Int) + 1) ∨ flwP (bA s ((st3.pos : Int) + 1)) ∨ quoB (bA s st1.pos))
  rotate_left
  ·rw [if_neg hx] at hgo
   obtain ⟨⟨t1, t2⟩, rfl⟩ := Aq hgo
   obtain ⟨w, X, e9, rfl, c', hX, hFX⟩ := Br hE 1 ⟨#[]⟩ pr0 t1 t2 fl hf
   exact .inl ⟨hx, X, e9, rfl, c', hX, hFE.trans hFX⟩
  rw [if_pos hx] at hgo
  refine .inr ⟨hx, ?_⟩
  have hE2 := hE.upd (cd' := 0) (pl' := 0) (fr' := fr) (la' := la) (p := st3.pos + 1) (d := st3.depth) (by omega) hE.dep
  have hset : E.set b (.cells (rdC s c3 (st3.pos + 1) st3.depth 0 0 fr la)) = E.set b (.cells [V.str s, V.int .i64 ((st3.pos : Int) + 1), c3.o, c3.en, V.map c3.nm, c3.hv, V.int .i64 (st3.depth : Nat), V.int .i64 0, V.int .i64 0, V.bool fr, V.int .i64 la]) := by unfold rdC; rw [hp1]
  have hFE2 := hFE.trans (RFr.set (x := .cells (rdC s c3 (st3.pos + 1) st3.depth 0 0 fr la)))
  rw [hset] at hE2 hFE2
  rcases A8 hgo with ⟨o, cd, pl, m3, rfl⟩ | ⟨_, st4, m3, hgo⟩
  ·obtain ⟨w, X, e3, rfl, hbad⟩ := BR hE2 hs2 fl hf m3
   exact .inl ⟨X, e3, rfl, hbad.trans hFE2⟩
  obtain ⟨w, X, e3, rfl, c4, hA4, hF4⟩ := BR hE2 hs2 fl hf m3
  obtain ⟨g1, g2, g3⟩ := Bu m3 (show st3.pos + 1 ≤ s.size by omega)
  refine .inr ⟨X, c4, st4, e3, hA4, g2, ?_⟩
  by_cases hy : bA s st4.pos = 44 ∨ bA s st4.pos = 125
  ·rw [if_pos hy] at hgo
   obtain ⟨⟨t1, t2⟩, rfl⟩ := Aq hgo
   obtain ⟨w, Y, e9, rfl, c', hX, hFX⟩ := Br hA4 1 ⟨#[]⟩ pr0 t1 t2 fl hf
   exact .inl ⟨hy, Y, e9, rfl, c', hX, (hFE2.trans hF4).trans hFX⟩
  ·rw [if_neg hy] at hgo
   obtain ⟨w, Y, e9, hP⟩ := IH X c4 fr la st4 fl r hA4 hf (EN g2 g3) hgo
   exact .inr ⟨hy, w, Y, e9, hP.trans (hFE2.trans hF4)⟩
 have hxB := hA1.hp.hx.len
 have hcA2 := hA2.hp.cell
 have hrb2 := hA2.hp.rb
 obtain ⟨qh, qa, qg, qf, qn⟩ := q
 cases qh
 ·rcases A8 hm with ⟨o, cd, pl, m2, rfl⟩ | ⟨_, st2, m2, hm⟩
  ·
   unfold Ia at m2
   by_cases h42 : bA s st1.pos = 42
   ·rw [if_pos h42] at m2
    obtain ⟨w, D, e8, rfl, hbad⟩ := Ci hA2 ⟨false, qa, qg, qf, qn⟩ hs2 fl hf m2
    have hbad := hbad.trans hF2
    have hq : ¬ quoB 42 := fun k => by rcases k with k | k <;> cases k
    unfold rdC at hcB
    unfold prC at *
    unfold run at *
    rw [z122]
    simp +contextual -implicitDefEqProofs (maxSteps := 10000000) (disch := first | (and_intros <;> omega -splitDisjunctions) | (push_cast; and_intros <;> omega -splitDisjunctions) | fail) only [e1, e2, e3, e8, hcB, h42, o1, o2, o3, o4, o5, o6, A1, A0, A2, A3, go_sem, seval]
    subst hQ
    exact ⟨rfl, hbad⟩
   rw [if_neg h42] at m2
   by_cases hqu : quoB (bA s st1.pos)
   ·rw [if_pos hqu] at m2
    obtain ⟨w, D, e8, rfl, hbad⟩ := Bz hA2 ⟨false, qa, qg, qf, qn⟩ hlt1 hs2 fl hf m2
    have hbad := hbad.trans hF2
    unfold rdC at hcB
    unfold prC at *
    unfold run at *
    rw [z122]
    simp +contextual -implicitDefEqProofs (maxSteps := 10000000) (disch := first | (and_intros <;> omega -splitDisjunctions) | (push_cast; and_intros <;> omega -splitDisjunctions) | fail) only [e1, e2, e3, e6, e8, hcB, h42, hqu, o1, o2, o3, o4, o5, o6, A1, A0, A2, A3, go_sem, seval]
    subst hQ
    exact ⟨rfl, hbad⟩
   rw [if_neg hqu] at m2
   by_cases hpf : pfB s st1.pos true = true
   ·rw [if_pos hpf] at m2
    have := m2
    unfold Dm at this
    rcases A8 this with ⟨o, cc, q, n1, n2⟩ | ⟨_, st3, n1, n2⟩
    ·have := (Aq n1).2; cases this
    ·cases n2
   rw [if_neg hpf] at m2
   have hpf : pfB s st1.pos true = false := by simpa using hpf
   by_cases hh : false = true ∧ (bA s st1.pos = 44 ∨ bA s st1.pos = 125 ∨ bA s st1.pos = 58)
   ·rw [if_pos hh] at m2
    have := (Aq m2).2; cases this
   ·rw [if_neg hh] at m2
    cases m2
    have e8 := Ao hA2 10 st1.pos fl hf
    have hbad := (Bo hA2 (cd := 10) (pl := st1.pos) (by decide)).trans hF2
    have hb2 : b < (B ++ [Blk.cells (prC ⟨false, qa, qg, qf, qn⟩)]).length := by simp; omega
    rw [A3 hbB] at e8 hbad
    have hh2 : ¬ (false = true ∧ ((bA s st1.pos = 44 ∨ bA s st1.pos = 125) ∨ bA s st1.pos = 58)) := fun k => hh ⟨k.1, or_assoc.1 k.2⟩
    unfold rdC at hcB e8 hbad
    unfold prC at *
    unfold run at *
    rw [z122]
    simp +contextual -implicitDefEqProofs (maxSteps := 10000000) (disch := first | (and_intros <;> omega -splitDisjunctions) | (push_cast; and_intros <;> omega -splitDisjunctions) | fail) only [e1, e2, e3, e6, e7, e8, hcB, h42, hqu, hpf, o1, o2, o3, o4, o5, o6, A1, A0, A2, A3, go_sem, seval]
    subst hQ
    exact ⟨rfl, hbad⟩
  have hK := Ib m2 k1.le
  have key : ∃ D c2, RAt G D b s c2 0 0 fr la st2 ∧ RFr b (B ++ [.cells (prC ⟨false, qa, qg, qf, qn⟩)]) c1 D c2 ∧
   ((bA s st1.pos = 42 ∧ run 88 [.ptr b 0, .agg (prC ⟨false, qa, qg, qf, qn⟩)] fl (B ++ [.cells (prC ⟨false, qa, qg, qf, qn⟩)]) = some (.bool true, D)) ∨
    (¬ bA s st1.pos = 42 ∧ quoB (bA s st1.pos) ∧ run 90 [.ptr b 0, .agg (prC ⟨false, qa, qg, qf, qn⟩)] fl (B ++ [.cells (prC ⟨false, qa, qg, qf, qn⟩)]) = some (.bool true, D)) ∨
    (¬ bA s st1.pos = 42 ∧ ¬ quoB (bA s st1.pos) ∧ pfB s st1.pos true = true ∧ run 92 [.ptr b 0, .agg (prC ⟨false, qa, qg, qf, qn⟩), .int .i64 (-1), .bool true] fl (B ++ [.cells (prC ⟨false, qa, qg, qf, qn⟩)]) = some (.bool true, D)) ∨
    (¬ bA s st1.pos = 42 ∧ ¬ quoB (bA s st1.pos) ∧ pfB s st1.pos true = false ∧ false = true ∧ ((bA s st1.pos = 44 ∨ bA s st1.pos = 125) ∨ bA s st1.pos = 58) ∧ run 77 [.ptr b 0, .int .i64 1, .str ⟨#[]⟩, .agg (prC ⟨false, qa, qg, qf, qn⟩)] fl (B ++ [.cells (prC ⟨false, qa, qg, qf, qn⟩)]) = some (und, D))) := by
   unfold Ia at m2
   by_cases h42 : bA s st1.pos = 42
   ·rw [if_pos h42] at m2
    obtain ⟨w, D, e8, rfl, c2, hD, hFD⟩ := Ci hA2 ⟨false, qa, qg, qf, qn⟩ hs2 fl hf m2
    exact ⟨D, c2, hD, hFD, .inl ⟨h42, e8⟩⟩
   rw [if_neg h42] at m2
   by_cases hqu : quoB (bA s st1.pos)
   ·rw [if_pos hqu] at m2
    obtain ⟨w, D, e8, rfl, c2, hD, hFD⟩ := Bz hA2 ⟨false, qa, qg, qf, qn⟩ hlt1 hs2 fl hf m2
    exact ⟨D, c2, hD, hFD, .inr (.inl ⟨h42, hqu, e8⟩)⟩
   rw [if_neg hqu] at m2
   by_cases hpf : pfB s st1.pos true = true
   ·rw [if_pos hpf] at m2
    obtain ⟨w, D, e8, rfl, c2, hD, hFD⟩ := DH hA2 ⟨false, qa, qg, qf, qn⟩ (-1) true hpf hs2 fl hf m2
    exact ⟨D, c2, hD, hFD, .inr (.inr (.inl ⟨h42, hqu, hpf, e8⟩))⟩
   rw [if_neg hpf] at m2
   have hpf : pfB s st1.pos true = false := by simpa using hpf
   by_cases hh : false = true ∧ (bA s st1.pos = 44 ∨ bA s st1.pos = 125 ∨ bA s st1.pos = 58)
   ·rw [if_pos hh] at m2
    obtain ⟨⟨t1, t2⟩, t3⟩ := Aq m2
    cases t3
    obtain ⟨w, D, e8, rfl, c2, hD, hFD⟩ := Br hA2 1 ⟨#[]⟩ ⟨false, qa, qg, qf, qn⟩ t1 t2 fl hf
    exact ⟨D, c2, hD, hFD, .inr (.inr (.inr ⟨h42, hqu, hpf, hh.1, or_assoc.2 hh.2, e8⟩))⟩
   ·rw [if_neg hh] at m2; cases m2
  obtain ⟨D, c2, hD, hFD, key⟩ := key
  have hcD := hD.hp.cell
  have hbD := A5 hcD
  have tl := tail D c2 st2 r hD hFD hK hm
  clear tail
  unfold rdC at hcB
  have gaps : gapP s ((st1.pos : Int) + 1) → True := fun _ => trivial
  clear gaps
  unfold prC at *
  unfold run at *
  rw [z122]
  rcases key with ⟨h42, e8⟩ | ⟨h42, hqu, e8⟩ | ⟨h42, hqu, hpf, e8⟩ | ⟨h42, hqu, hpf, hqh, hh, e8⟩
  ·have hqu : ¬ quoB (bA s st1.pos) := fun k => by rcases k with k | k <;> omega
   have hq42 : ¬ quoB 42 := fun k => by rcases k with k | k <;> cases k
   simp +contextual -implicitDefEqProofs (maxSteps := 10000000) (disch := first | (and_intros <;> omega -splitDisjunctions) | (push_cast; and_intros <;> omega -splitDisjunctions) | fail) only [e1, e2, e3, e6, e7, h42, hq42, e8, hcB, o1, o2, o3, o4, o5, o6, A1, A0, A2, A3, go_sem, seval]
   rcases tl with ⟨o, cd, pl, E, m3, rfl, e9, hbad⟩ | ⟨st3, E, c3, m3, e9, hE, hFE, hlt3, hgo⟩
   ·simp +contextual -implicitDefEqProofs (maxSteps := 10000000) (disch := first | (and_intros <;> omega -splitDisjunctions) | (push_cast; and_intros <;> omega -splitDisjunctions) | fail) only [e9, A1, A0, A2, A3, go_sem, seval]
    subst hQ
    exact ⟨rfl, hbad⟩
   have he := ending E c3 st3 r hE hFE hlt3 hgo
   clear ending
   have hcE := hE.hp.cell
   have hbE := A5 hcE
   obtain ⟨x1, x2, x3, x4, x5, x6⟩ := hE.hp.o1
   unfold rdC at hcE
   rcases he with ⟨hnc, X, f1, hP⟩ | ⟨⟨hc1, hc2⟩, he⟩
   ·by_cases h58 : bA s st3.pos = 58
    ·have n1 : ¬ gapP s ((st3.pos : Int) + 1) := fun k => hnc ⟨h58, .inl k⟩
     have n2 : ¬ flwP (bA s ((st3.pos : Int) + 1)) := fun k => hnc ⟨h58, .inr (.inl k)⟩
     simp +contextual -implicitDefEqProofs (maxSteps := 10000000) (disch := first | (and_intros <;> omega -splitDisjunctions) | (push_cast; and_intros <;> omega -splitDisjunctions) | fail) only [e3, e4, e5, e6, e9, hcE, hqu, hq42, h58, n1, n2, f1, x1, x2, x3, x4, x5, x6, Bool.or_true, Bool.true_or, A1, A0, A2, A3, go_sem, seval]
     subst hQ
     exact hP
    ·simp +contextual -implicitDefEqProofs (maxSteps := 10000000) (disch := first | (and_intros <;> omega -splitDisjunctions) | (push_cast; and_intros <;> omega -splitDisjunctions) | fail) only [e3, e4, e5, e6, e9, hcE, hqu, hq42, h58, f1, x1, x2, x3, x4, x5, x6, Bool.or_true, Bool.true_or, A1, A0, A2, A3, go_sem, seval]
     subst hQ
     exact hP
   have hc3 : gapP s ((st3.pos : Int) + 1) ∨ flwP (bA s ((st3.pos : Int) + 1)) := by
    rcases hc2 with k | k | k
    ·exact .inl k
    ·exact .inr k
    ·exact absurd k hqu
   have hc4 : ¬ (¬ gapP s ((st3.pos : Int) + 1) ∧ ¬ flwP (bA s ((st3.pos : Int) + 1))) := fun k => hc3.elim k.1 k.2
   simp +contextual -implicitDefEqProofs (maxSteps := 10000000) (disch := first | (and_intros <;> omega -splitDisjunctions) | (push_cast; and_intros <;> omega -splitDisjunctions) | fail) only [e3, e4, e5, e6, e9, hcE, hqu, hq42, hc1, hc3, hc4, x1, x2, x3, x4, x5, x6, Bool.or_true, Bool.true_or, A1, A0, A2, A3, go_sem, seval]
   rcases he with ⟨X, f1, hP⟩ | ⟨X, c4, st4, f1, hX4, hlt4, ⟨hy, Y, f2, hP⟩ | ⟨hy, w, Y, f2, hP⟩⟩
   ·simp +contextual -implicitDefEqProofs (maxSteps := 10000000) (disch := first | (and_intros <;> omega -splitDisjunctions) | (push_cast; and_intros <;> omega -splitDisjunctions) | fail) only [f1, A1, A0, A2, A3, go_sem, seval]
    subst hQ
    exact hP
   ·have hcX := hX4.hp.cell
    obtain ⟨y1, y2, y3, y4, y5, y6⟩ := hX4.hp.o1
    unfold rdC at hcX
    rcases hy with hy | hy
    ·simp +contextual -implicitDefEqProofs (maxSteps := 10000000) (disch := first | (and_intros <;> omega -splitDisjunctions) | (push_cast; and_intros <;> omega -splitDisjunctions) | fail) only [f1, f2, hy, hcX, y1, y2, y3, y4, y5, y6, A1, A0, A2, A3, go_sem, seval]
     subst hQ
     exact hP
    ·simp +contextual -implicitDefEqProofs (maxSteps := 10000000) (disch := first | (and_intros <;> omega -splitDisjunctions) | (push_cast; and_intros <;> omega -splitDisjunctions) | fail) only [f1, f2, hy, hcX, y1, y2, y3, y4, y5, y6, A1, A0, A2, A3, go_sem, seval]
     subst hQ
     exact hP
   ·have hcX := hX4.hp.cell
    have hy1 : ¬ bA s st4.pos = 44 := fun k => hy (.inl k)
    have hy2 : ¬ bA s st4.pos = 125 := fun k => hy (.inr k)
    obtain ⟨y1, y2, y3, y4, y5, y6⟩ := hX4.hp.o1
    unfold rdC at hcX
    simp +contextual -implicitDefEqProofs (maxSteps := 10000000) (disch := first | (and_intros <;> omega -splitDisjunctions) | (push_cast; and_intros <;> omega -splitDisjunctions) | fail) only [f1, f2, hy1, hy2, hcX, y1, y2, y3, y4, y5, y6, A1, A0, A2, A3, go_sem, seval]
    subst hQ
    exact hP
  ·simp +contextual -implicitDefEqProofs (maxSteps := 10000000) (disch := first | (and_intros <;> omega -splitDisjunctions) | (push_cast; and_intros <;> omega -splitDisjunctions) | fail) only [e1, e2, e3, e6, e7, h42, hqu, e8, hcB, o1, o2, o3, o4, o5, o6, A1, A0, A2, A3, go_sem, seval]
   rcases tl with ⟨o, cd, pl, E, m3, rfl, e9, hbad⟩ | ⟨st3, E, c3, m3, e9, hE, hFE, hlt3, hgo⟩
   ·simp +contextual -implicitDefEqProofs (maxSteps := 10000000) (disch := first | (and_intros <;> omega -splitDisjunctions) | (push_cast; and_intros <;> omega -splitDisjunctions) | fail) only [e9, A1, A0, A2, A3, go_sem, seval]
    subst hQ
    exact ⟨rfl, hbad⟩
   have he := ending E c3 st3 r hE hFE hlt3 hgo
   clear ending
   have hcE := hE.hp.cell
   have hbE := A5 hcE
   obtain ⟨x1, x2, x3, x4, x5, x6⟩ := hE.hp.o1
   unfold rdC at hcE
   rcases he with ⟨hnc, X, f1, hP⟩ | ⟨⟨hc1, hc2⟩, he⟩
   ·have h58 : ¬ bA s st3.pos = 58 := fun k => hnc ⟨k, .inr (.inr hqu)⟩
    simp +contextual -implicitDefEqProofs (maxSteps := 10000000) (disch := first | (and_intros <;> omega -splitDisjunctions) | (push_cast; and_intros <;> omega -splitDisjunctions) | fail) only [e3, e4, e5, e6, e9, hcE, hqu, h58, f1, x1, x2, x3, x4, x5, x6, Bool.or_true, Bool.true_or, A1, A0, A2, A3, go_sem, seval]
    subst hQ
    exact hP
   have hc3 : True := trivial
   have hc4 : True := trivial
   simp +contextual -implicitDefEqProofs (maxSteps := 10000000) (disch := first | (and_intros <;> omega -splitDisjunctions) | (push_cast; and_intros <;> omega -splitDisjunctions) | fail) only [e3, e4, e5, e6, e9, hcE, hqu, hc1, hc3, hc4, x1, x2, x3, x4, x5, x6, Bool.or_true, Bool.true_or, A1, A0, A2, A3, go_sem, seval]
   rcases he with ⟨X, f1, hP⟩ | ⟨X, c4, st4, f1, hX4, hlt4, ⟨hy, Y, f2, hP⟩ | ⟨hy, w, Y, f2, hP⟩⟩
   ·simp +contextual -implicitDefEqProofs (maxSteps := 10000000) (disch := first | (and_intros <;> omega -splitDisjunctions) | (push_cast; and_intros <;> omega -splitDisjunctions) | fail) only [f1, A1, A0, A2, A3, go_sem, seval]
    subst hQ
    exact hP
   ·have hcX := hX4.hp.cell
    obtain ⟨y1, y2, y3, y4, y5, y6⟩ := hX4.hp.o1
    unfold rdC at hcX
    rcases hy with hy | hy
    ·simp +contextual -implicitDefEqProofs (maxSteps := 10000000) (disch := first | (and_intros <;> omega -splitDisjunctions) | (push_cast; and_intros <;> omega -splitDisjunctions) | fail) only [f1, f2, hy, hcX, y1, y2, y3, y4, y5, y6, A1, A0, A2, A3, go_sem, seval]
     subst hQ
     exact hP
    ·simp +contextual -implicitDefEqProofs (maxSteps := 10000000) (disch := first | (and_intros <;> omega -splitDisjunctions) | (push_cast; and_intros <;> omega -splitDisjunctions) | fail) only [f1, f2, hy, hcX, y1, y2, y3, y4, y5, y6, A1, A0, A2, A3, go_sem, seval]
     subst hQ
     exact hP
   ·have hcX := hX4.hp.cell
    have hy1 : ¬ bA s st4.pos = 44 := fun k => hy (.inl k)
    have hy2 : ¬ bA s st4.pos = 125 := fun k => hy (.inr k)
    obtain ⟨y1, y2, y3, y4, y5, y6⟩ := hX4.hp.o1
    unfold rdC at hcX
    simp +contextual -implicitDefEqProofs (maxSteps := 10000000) (disch := first | (and_intros <;> omega -splitDisjunctions) | (push_cast; and_intros <;> omega -splitDisjunctions) | fail) only [f1, f2, hy1, hy2, hcX, y1, y2, y3, y4, y5, y6, A1, A0, A2, A3, go_sem, seval]
    subst hQ
    exact hP
  ·simp +contextual -implicitDefEqProofs (maxSteps := 10000000) (disch := first | (and_intros <;> omega -splitDisjunctions) | (push_cast; and_intros <;> omega -splitDisjunctions) | fail) only [e1, e2, e3, e6, e7, h42, hqu, hpf, e8, hcB, o1, o2, o3, o4, o5, o6, A1, A0, A2, A3, go_sem, seval]
   rcases tl with ⟨o, cd, pl, E, m3, rfl, e9, hbad⟩ | ⟨st3, E, c3, m3, e9, hE, hFE, hlt3, hgo⟩
   ·simp +contextual -implicitDefEqProofs (maxSteps := 10000000) (disch := first | (and_intros <;> omega -splitDisjunctions) | (push_cast; and_intros <;> omega -splitDisjunctions) | fail) only [e9, A1, A0, A2, A3, go_sem, seval]
    subst hQ
    exact ⟨rfl, hbad⟩
   have he := ending E c3 st3 r hE hFE hlt3 hgo
   clear ending
   have hcE := hE.hp.cell
   have hbE := A5 hcE
   obtain ⟨x1, x2, x3, x4, x5, x6⟩ := hE.hp.o1
   unfold rdC at hcE
   rcases he with ⟨hnc, X, f1, hP⟩ | ⟨⟨hc1, hc2⟩, he⟩
   ·by_cases h58 : bA s st3.pos = 58
    ·have n1 : ¬ gapP s ((st3.pos : Int) + 1) := fun k => hnc ⟨h58, .inl k⟩
     have n2 : ¬ flwP (bA s ((st3.pos : Int) + 1)) := fun k => hnc ⟨h58, .inr (.inl k)⟩
     simp +contextual -implicitDefEqProofs (maxSteps := 10000000) (disch := first | (and_intros <;> omega -splitDisjunctions) | (push_cast; and_intros <;> omega -splitDisjunctions) | fail) only [e3, e4, e5, e6, e9, hcE, hqu, h58, n1, n2, f1, x1, x2, x3, x4, x5, x6, Bool.or_true, Bool.true_or, A1, A0, A2, A3, go_sem, seval]
     subst hQ
     exact hP
    ·simp +contextual -implicitDefEqProofs (maxSteps := 10000000) (disch := first | (and_intros <;> omega -splitDisjunctions) | (push_cast; and_intros <;> omega -splitDisjunctions) | fail) only [e3, e4, e5, e6, e9, hcE, hqu, h58, f1, x1, x2, x3, x4, x5, x6, Bool.or_true, Bool.true_or, A1, A0, A2, A3, go_sem, seval]
     subst hQ
     exact hP
   have hc3 : gapP s ((st3.pos : Int) + 1) ∨ flwP (bA s ((st3.pos : Int) + 1)) := by
    rcases hc2 with k | k | k
    ·exact .inl k
    ·exact .inr k
    ·exact absurd k hqu
   have hc4 : ¬ (¬ gapP s ((st3.pos : Int) + 1) ∧ ¬ flwP (bA s ((st3.pos : Int) + 1))) := fun k => hc3.elim k.1 k.2
   simp +contextual -implicitDefEqProofs (maxSteps := 10000000) (disch := first | (and_intros <;> omega -splitDisjunctions) | (push_cast; and_intros <;> omega -splitDisjunctions) | fail) only [e3, e4, e5, e6, e9, hcE, hqu, hc1, hc3, hc4, x1, x2, x3, x4, x5, x6, Bool.or_true, Bool.true_or, A1, A0, A2, A3, go_sem, seval]
   rcases he with ⟨X, f1, hP⟩ | ⟨X, c4, st4, f1, hX4, hlt4, ⟨hy, Y, f2, hP⟩ | ⟨hy, w, Y, f2, hP⟩⟩
   ·simp +contextual -implicitDefEqProofs (maxSteps := 10000000) (disch := first | (and_intros <;> omega -splitDisjunctions) | (push_cast; and_intros <;> omega -splitDisjunctions) | fail) only [f1, A1, A0, A2, A3, go_sem, seval]
    subst hQ
    exact hP
   ·have hcX := hX4.hp.cell
    obtain ⟨y1, y2, y3, y4, y5, y6⟩ := hX4.hp.o1
    unfold rdC at hcX
    rcases hy with hy | hy
    ·simp +contextual -implicitDefEqProofs (maxSteps := 10000000) (disch := first | (and_intros <;> omega -splitDisjunctions) | (push_cast; and_intros <;> omega -splitDisjunctions) | fail) only [f1, f2, hy, hcX, y1, y2, y3, y4, y5, y6, A1, A0, A2, A3, go_sem, seval]
     subst hQ
     exact hP
    ·simp +contextual -implicitDefEqProofs (maxSteps := 10000000) (disch := first | (and_intros <;> omega -splitDisjunctions) | (push_cast; and_intros <;> omega -splitDisjunctions) | fail) only [f1, f2, hy, hcX, y1, y2, y3, y4, y5, y6, A1, A0, A2, A3, go_sem, seval]
     subst hQ
     exact hP
   ·have hcX := hX4.hp.cell
    have hy1 : ¬ bA s st4.pos = 44 := fun k => hy (.inl k)
    have hy2 : ¬ bA s st4.pos = 125 := fun k => hy (.inr k)
    obtain ⟨y1, y2, y3, y4, y5, y6⟩ := hX4.hp.o1
    unfold rdC at hcX
    simp +contextual -implicitDefEqProofs (maxSteps := 10000000) (disch := first | (and_intros <;> omega -splitDisjunctions) | (push_cast; and_intros <;> omega -splitDisjunctions) | fail) only [f1, f2, hy1, hy2, hcX, y1, y2, y3, y4, y5, y6, A1, A0, A2, A3, go_sem, seval]
    subst hQ
    exact hP
  ·cases hqh
 ·rcases A8 hm with ⟨o, cd, pl, m2, rfl⟩ | ⟨_, st2, m2, hm⟩
  ·
   unfold Ia at m2
   by_cases h42 : bA s st1.pos = 42
   ·rw [if_pos h42] at m2
    obtain ⟨w, D, e8, rfl, hbad⟩ := Ci hA2 ⟨true, qa, qg, qf, qn⟩ hs2 fl hf m2
    have hbad := hbad.trans hF2
    have hq : ¬ quoB 42 := fun k => by rcases k with k | k <;> cases k
    unfold rdC at hcB
    unfold prC at *
    unfold run at *
    rw [z122]
    simp +contextual -implicitDefEqProofs (maxSteps := 10000000) (disch := first | (and_intros <;> omega -splitDisjunctions) | (push_cast; and_intros <;> omega -splitDisjunctions) | fail) only [e1, e2, e3, e8, hcB, h42, o1, o2, o3, o4, o5, o6, A1, A0, A2, A3, go_sem, seval]
    subst hQ
    exact ⟨rfl, hbad⟩
   rw [if_neg h42] at m2
   by_cases hqu : quoB (bA s st1.pos)
   ·rw [if_pos hqu] at m2
    obtain ⟨w, D, e8, rfl, hbad⟩ := Bz hA2 ⟨true, qa, qg, qf, qn⟩ hlt1 hs2 fl hf m2
    have hbad := hbad.trans hF2
    unfold rdC at hcB
    unfold prC at *
    unfold run at *
    rw [z122]
    simp +contextual -implicitDefEqProofs (maxSteps := 10000000) (disch := first | (and_intros <;> omega -splitDisjunctions) | (push_cast; and_intros <;> omega -splitDisjunctions) | fail) only [e1, e2, e3, e6, e8, hcB, h42, hqu, o1, o2, o3, o4, o5, o6, A1, A0, A2, A3, go_sem, seval]
    subst hQ
    exact ⟨rfl, hbad⟩
   rw [if_neg hqu] at m2
   by_cases hpf : pfB s st1.pos true = true
   ·rw [if_pos hpf] at m2
    have := m2
    unfold Dm at this
    rcases A8 this with ⟨o, cc, q, n1, n2⟩ | ⟨_, st3, n1, n2⟩
    ·have := (Aq n1).2; cases this
    ·cases n2
   rw [if_neg hpf] at m2
   have hpf : pfB s st1.pos true = false := by simpa using hpf
   by_cases hh : true = true ∧ (bA s st1.pos = 44 ∨ bA s st1.pos = 125 ∨ bA s st1.pos = 58)
   ·rw [if_pos hh] at m2
    have := (Aq m2).2; cases this
   ·rw [if_neg hh] at m2
    cases m2
    have e8 := Ao hA2 10 st1.pos fl hf
    have hbad := (Bo hA2 (cd := 10) (pl := st1.pos) (by decide)).trans hF2
    have hb2 : b < (B ++ [Blk.cells (prC ⟨true, qa, qg, qf, qn⟩)]).length := by simp; omega
    rw [A3 hbB] at e8 hbad
    have hh2 : ¬ (true = true ∧ ((bA s st1.pos = 44 ∨ bA s st1.pos = 125) ∨ bA s st1.pos = 58)) := fun k => hh ⟨k.1, or_assoc.1 k.2⟩
    unfold rdC at hcB e8 hbad
    unfold prC at *
    unfold run at *
    rw [z122]
    have hh3 : ¬ ((bA s st1.pos = 44 ∨ bA s st1.pos = 125) ∨ bA s st1.pos = 58) := fun k => hh2 ⟨rfl, k⟩
    simp +contextual -implicitDefEqProofs (maxSteps := 10000000) (disch := first | (and_intros <;> omega -splitDisjunctions) | (push_cast; and_intros <;> omega -splitDisjunctions) | fail) only [e1, e2, e3, e6, e7, e8, hcB, h42, hqu, hpf, hh3, o1, o2, o3, o4, o5, o6, A1, A0, A2, A3, go_sem, seval]
    subst hQ
    exact ⟨rfl, hbad⟩
  have hK := Ib m2 k1.le
  have key : ∃ D c2, RAt G D b s c2 0 0 fr la st2 ∧ RFr b (B ++ [.cells (prC ⟨true, qa, qg, qf, qn⟩)]) c1 D c2 ∧
   ((bA s st1.pos = 42 ∧ run 88 [.ptr b 0, .agg (prC ⟨true, qa, qg, qf, qn⟩)] fl (B ++ [.cells (prC ⟨true, qa, qg, qf, qn⟩)]) = some (.bool true, D)) ∨
    (¬ bA s st1.pos = 42 ∧ quoB (bA s st1.pos) ∧ run 90 [.ptr b 0, .agg (prC ⟨true, qa, qg, qf, qn⟩)] fl (B ++ [.cells (prC ⟨true, qa, qg, qf, qn⟩)]) = some (.bool true, D)) ∨
    (¬ bA s st1.pos = 42 ∧ ¬ quoB (bA s st1.pos) ∧ pfB s st1.pos true = true ∧ run 92 [.ptr b 0, .agg (prC ⟨true, qa, qg, qf, qn⟩), .int .i64 (-1), .bool true] fl (B ++ [.cells (prC ⟨true, qa, qg, qf, qn⟩)]) = some (.bool true, D)) ∨
    (¬ bA s st1.pos = 42 ∧ ¬ quoB (bA s st1.pos) ∧ pfB s st1.pos true = false ∧ true = true ∧ ((bA s st1.pos = 44 ∨ bA s st1.pos = 125) ∨ bA s st1.pos = 58) ∧ run 77 [.ptr b 0, .int .i64 1, .str ⟨#[]⟩, .agg (prC ⟨true, qa, qg, qf, qn⟩)] fl (B ++ [.cells (prC ⟨true, qa, qg, qf, qn⟩)]) = some (und, D))) := by
   unfold Ia at m2
   by_cases h42 : bA s st1.pos = 42
   ·rw [if_pos h42] at m2
    obtain ⟨w, D, e8, rfl, c2, hD, hFD⟩ := Ci hA2 ⟨true, qa, qg, qf, qn⟩ hs2 fl hf m2
    exact ⟨D, c2, hD, hFD, .inl ⟨h42, e8⟩⟩
   rw [if_neg h42] at m2
   by_cases hqu : quoB (bA s st1.pos)
   ·rw [if_pos hqu] at m2
    obtain ⟨w, D, e8, rfl, c2, hD, hFD⟩ := Bz hA2 ⟨true, qa, qg, qf, qn⟩ hlt1 hs2 fl hf m2
    exact ⟨D, c2, hD, hFD, .inr (.inl ⟨h42, hqu, e8⟩)⟩
   rw [if_neg hqu] at m2
   by_cases hpf : pfB s st1.pos true = true
   ·rw [if_pos hpf] at m2
    obtain ⟨w, D, e8, rfl, c2, hD, hFD⟩ := DH hA2 ⟨true, qa, qg, qf, qn⟩ (-1) true hpf hs2 fl hf m2
    exact ⟨D, c2, hD, hFD, .inr (.inr (.inl ⟨h42, hqu, hpf, e8⟩))⟩
   rw [if_neg hpf] at m2
   have hpf : pfB s st1.pos true = false := by simpa using hpf
   by_cases hh : true = true ∧ (bA s st1.pos = 44 ∨ bA s st1.pos = 125 ∨ bA s st1.pos = 58)
   ·rw [if_pos hh] at m2
    obtain ⟨⟨t1, t2⟩, t3⟩ := Aq m2
    cases t3
    obtain ⟨w, D, e8, rfl, c2, hD, hFD⟩ := Br hA2 1 ⟨#[]⟩ ⟨true, qa, qg, qf, qn⟩ t1 t2 fl hf
    exact ⟨D, c2, hD, hFD, .inr (.inr (.inr ⟨h42, hqu, hpf, hh.1, or_assoc.2 hh.2, e8⟩))⟩
   ·rw [if_neg hh] at m2; cases m2
  obtain ⟨D, c2, hD, hFD, key⟩ := key
  have hcD := hD.hp.cell
  have hbD := A5 hcD
  have tl := tail D c2 st2 r hD hFD hK hm
  clear tail
  unfold rdC at hcB
  have gaps : gapP s ((st1.pos : Int) + 1) → True := fun _ => trivial
  clear gaps
  unfold prC at *
  unfold run at *
  rw [z122]
  rcases key with ⟨h42, e8⟩ | ⟨h42, hqu, e8⟩ | ⟨h42, hqu, hpf, e8⟩ | ⟨h42, hqu, hpf, hqh, hh, e8⟩
  ·have hqu : ¬ quoB (bA s st1.pos) := fun k => by rcases k with k | k <;> omega
   have hq42 : ¬ quoB 42 := fun k => by rcases k with k | k <;> cases k
   simp +contextual -implicitDefEqProofs (maxSteps := 10000000) (disch := first | (and_intros <;> omega -splitDisjunctions) | (push_cast; and_intros <;> omega -splitDisjunctions) | fail) only [e1, e2, e3, e6, e7, h42, hq42, e8, hcB, o1, o2, o3, o4, o5, o6, A1, A0, A2, A3, go_sem, seval]
   rcases tl with ⟨o, cd, pl, E, m3, rfl, e9, hbad⟩ | ⟨st3, E, c3, m3, e9, hE, hFE, hlt3, hgo⟩
   ·simp +contextual -implicitDefEqProofs (maxSteps := 10000000) (disch := first | (and_intros <;> omega -splitDisjunctions) | (push_cast; and_intros <;> omega -splitDisjunctions) | fail) only [e9, A1, A0, A2, A3, go_sem, seval]
    subst hQ
    exact ⟨rfl, hbad⟩
   have he := ending E c3 st3 r hE hFE hlt3 hgo
   clear ending
   have hcE := hE.hp.cell
   have hbE := A5 hcE
   obtain ⟨x1, x2, x3, x4, x5, x6⟩ := hE.hp.o1
   unfold rdC at hcE
   rcases he with ⟨hnc, X, f1, hP⟩ | ⟨⟨hc1, hc2⟩, he⟩
   ·by_cases h58 : bA s st3.pos = 58
    ·have n1 : ¬ gapP s ((st3.pos : Int) + 1) := fun k => hnc ⟨h58, .inl k⟩
     have n2 : ¬ flwP (bA s ((st3.pos : Int) + 1)) := fun k => hnc ⟨h58, .inr (.inl k)⟩
     simp +contextual -implicitDefEqProofs (maxSteps := 10000000) (disch := first | (and_intros <;> omega -splitDisjunctions) | (push_cast; and_intros <;> omega -splitDisjunctions) | fail) only [e3, e4, e5, e6, e9, hcE, hqu, hq42, h58, n1, n2, f1, x1, x2, x3, x4, x5, x6, Bool.or_true, Bool.true_or, A1, A0, A2, A3, go_sem, seval]
     subst hQ
     exact hP
    ·simp +contextual -implicitDefEqProofs (maxSteps := 10000000) (disch := first | (and_intros <;> omega -splitDisjunctions) | (push_cast; and_intros <;> omega -splitDisjunctions) | fail) only [e3, e4, e5, e6, e9, hcE, hqu, hq42, h58, f1, x1, x2, x3, x4, x5, x6, Bool.or_true, Bool.true_or, A1, A0, A2, A3, go_sem, seval]
     subst hQ
     exact hP
   have hc3 : gapP s ((st3.pos : Int) + 1) ∨ flwP (bA s ((st3.pos : Int) + 1)) := by
    rcases hc2 with k | k | k
    ·exact .inl k
    ·exact .inr k
    ·exact absurd k hqu
   have hc4 : ¬ (¬ gapP s ((st3.pos : Int) + 1) ∧ ¬ flwP (bA s ((st3.pos : Int) + 1))) := fun k => hc3.elim k.1 k.2
   simp +contextual -implicitDefEqProofs (maxSteps := 10000000) (disch := first | (and_intros <;> omega -splitDisjunctions) | (push_cast; and_intros <;> omega -splitDisjunctions) | fail) only [e3, e4, e5, e6, e9, hcE, hqu, hq42, hc1, hc3, hc4, x1, x2, x3, x4, x5, x6, Bool.or_true, Bool.true_or, A1, A0, A2, A3, go_sem, seval]
   rcases he with ⟨X, f1, hP⟩ | ⟨X, c4, st4, f1, hX4, hlt4, ⟨hy, Y, f2, hP⟩ | ⟨hy, w, Y, f2, hP⟩⟩
   ·simp +contextual -implicitDefEqProofs (maxSteps := 10000000) (disch := first | (and_intros <;> omega -splitDisjunctions) | (push_cast; and_intros <;> omega -splitDisjunctions) | fail) only [f1, A1, A0, A2, A3, go_sem, seval]
    subst hQ
    exact hP
   ·have hcX := hX4.hp.cell
    obtain ⟨y1, y2, y3, y4, y5, y6⟩ := hX4.hp.o1
    unfold rdC at hcX
    rcases hy with hy | hy
    ·simp +contextual -implicitDefEqProofs (maxSteps := 10000000) (disch := first | (and_intros <;> omega -splitDisjunctions) | (push_cast; and_intros <;> omega -splitDisjunctions) | fail) only [f1, f2, hy, hcX, y1, y2, y3, y4, y5, y6, A1, A0, A2, A3, go_sem, seval]
     subst hQ
     exact hP
    ·simp +contextual -implicitDefEqProofs (maxSteps := 10000000) (disch := first | (and_intros <;> omega -splitDisjunctions) | (push_cast; and_intros <;> omega -splitDisjunctions) | fail) only [f1, f2, hy, hcX, y1, y2, y3, y4, y5, y6, A1, A0, A2, A3, go_sem, seval]
     subst hQ
     exact hP
   ·have hcX := hX4.hp.cell
    have hy1 : ¬ bA s st4.pos = 44 := fun k => hy (.inl k)
    have hy2 : ¬ bA s st4.pos = 125 := fun k => hy (.inr k)
    obtain ⟨y1, y2, y3, y4, y5, y6⟩ := hX4.hp.o1
    unfold rdC at hcX
    simp +contextual -implicitDefEqProofs (maxSteps := 10000000) (disch := first | (and_intros <;> omega -splitDisjunctions) | (push_cast; and_intros <;> omega -splitDisjunctions) | fail) only [f1, f2, hy1, hy2, hcX, y1, y2, y3, y4, y5, y6, A1, A0, A2, A3, go_sem, seval]
    subst hQ
    exact hP
  ·simp +contextual -implicitDefEqProofs (maxSteps := 10000000) (disch := first | (and_intros <;> omega -splitDisjunctions) | (push_cast; and_intros <;> omega -splitDisjunctions) | fail) only [e1, e2, e3, e6, e7, h42, hqu, e8, hcB, o1, o2, o3, o4, o5, o6, A1, A0, A2, A3, go_sem, seval]
   rcases tl with ⟨o, cd, pl, E, m3, rfl, e9, hbad⟩ | ⟨st3, E, c3, m3, e9, hE, hFE, hlt3, hgo⟩
   ·simp +contextual -implicitDefEqProofs (maxSteps := 10000000) (disch := first | (and_intros <;> omega -splitDisjunctions) | (push_cast; and_intros <;> omega -splitDisjunctions) | fail) only [e9, A1, A0, A2, A3, go_sem, seval]
    subst hQ
    exact ⟨rfl, hbad⟩
   have he := ending E c3 st3 r hE hFE hlt3 hgo
   clear ending
   have hcE := hE.hp.cell
   have hbE := A5 hcE
   obtain ⟨x1, x2, x3, x4, x5, x6⟩ := hE.hp.o1
   unfold rdC at hcE
   rcases he with ⟨hnc, X, f1, hP⟩ | ⟨⟨hc1, hc2⟩, he⟩
   ·have h58 : ¬ bA s st3.pos = 58 := fun k => hnc ⟨k, .inr (.inr hqu)⟩
    simp +contextual -implicitDefEqProofs (maxSteps := 10000000) (disch := first | (and_intros <;> omega -splitDisjunctions) | (push_cast; and_intros <;> omega -splitDisjunctions) | fail) only [e3, e4, e5, e6, e9, hcE, hqu, h58, f1, x1, x2, x3, x4, x5, x6, Bool.or_true, Bool.true_or, A1, A0, A2, A3, go_sem, seval]
    subst hQ
    exact hP
   have hc3 : True := trivial
   have hc4 : True := trivial
   simp +contextual -implicitDefEqProofs (maxSteps := 10000000) (disch := first | (and_intros <;> omega -splitDisjunctions) | (push_cast; and_intros <;> omega -splitDisjunctions) | fail) only [e3, e4, e5, e6, e9, hcE, hqu, hc1, hc3, hc4, x1, x2, x3, x4, x5, x6, Bool.or_true, Bool.true_or, A1, A0, A2, A3, go_sem, seval]
   rcases he with ⟨X, f1, hP⟩ | ⟨X, c4, st4, f1, hX4, hlt4, ⟨hy, Y, f2, hP⟩ | ⟨hy, w, Y, f2, hP⟩⟩
   ·simp +contextual -implicitDefEqProofs (maxSteps := 10000000) (disch := first | (and_intros <;> omega -splitDisjunctions) | (push_cast; and_intros <;> omega -splitDisjunctions) | fail) only [f1, A1, A0, A2, A3, go_sem, seval]
    subst hQ
    exact hP
   ·have hcX := hX4.hp.cell
    obtain ⟨y1, y2, y3, y4, y5, y6⟩ := hX4.hp.o1
    unfold rdC at hcX
    rcases hy with hy | hy
    ·simp +contextual -implicitDefEqProofs (maxSteps := 10000000) (disch := first | (and_intros <;> omega -splitDisjunctions) | (push_cast; and_intros <;> omega -splitDisjunctions) | fail) only [f1, f2, hy, hcX, y1, y2, y3, y4, y5, y6, A1, A0, A2, A3, go_sem, seval]
     subst hQ
     exact hP
    ·simp +contextual -implicitDefEqProofs (maxSteps := 10000000) (disch := first | (and_intros <;> omega -splitDisjunctions) | (push_cast; and_intros <;> omega -splitDisjunctions) | fail) only [f1, f2, hy, hcX, y1, y2, y3, y4, y5, y6, A1, A0, A2, A3, go_sem, seval]
     subst hQ
     exact hP
   ·have hcX := hX4.hp.cell
    have hy1 : ¬ bA s st4.pos = 44 := fun k => hy (.inl k)
    have hy2 : ¬ bA s st4.pos = 125 := fun k => hy (.inr k)
    obtain ⟨y1, y2, y3, y4, y5, y6⟩ := hX4.hp.o1
    unfold rdC at hcX
    simp +contextual -implicitDefEqProofs (maxSteps := 10000000) (disch := first | (and_intros <;> omega -splitDisjunctions) | (push_cast; and_intros <;> omega -splitDisjunctions) | fail) only [f1, f2, hy1, hy2, hcX, y1, y2, y3, y4, y5, y6, A1, A0, A2, A3, go_sem, seval]
    subst hQ
    exact hP
  ·simp +contextual -implicitDefEqProofs (maxSteps := 10000000) (disch := first | (and_intros <;> omega -splitDisjunctions) | (push_cast; and_intros <;> omega -splitDisjunctions) | fail) only [e1, e2, e3, e6, e7, h42, hqu, hpf, e8, hcB, o1, o2, o3, o4, o5, o6, A1, A0, A2, A3, go_sem, seval]
   rcases tl with ⟨o, cd, pl, E, m3, rfl, e9, hbad⟩ | ⟨st3, E, c3, m3, e9, hE, hFE, hlt3, hgo⟩
   ·simp +contextual -implicitDefEqProofs (maxSteps := 10000000) (disch := first | (and_intros <;> omega -splitDisjunctions) | (push_cast; and_intros <;> omega -splitDisjunctions) | fail) only [e9, A1, A0, A2, A3, go_sem, seval]
    subst hQ
    exact ⟨rfl, hbad⟩
   have he := ending E c3 st3 r hE hFE hlt3 hgo
   clear ending
   have hcE := hE.hp.cell
   have hbE := A5 hcE
   obtain ⟨x1, x2, x3, x4, x5, x6⟩ := hE.hp.o1
   unfold rdC at hcE
   rcases he with ⟨hnc, X, f1, hP⟩ | ⟨⟨hc1, hc2⟩, he⟩
   ·by_cases h58 : bA s st3.pos = 58
    ·have n1 : ¬ gapP s ((st3.pos : Int) + 1) := fun k => hnc ⟨h58, .inl k⟩
     have n2 : ¬ flwP (bA s ((st3.pos : Int) + 1)) := fun k => hnc ⟨h58, .inr (.inl k)⟩
     simp +contextual -implicitDefEqProofs (maxSteps := 10000000) (disch := first | (and_intros <;> omega -splitDisjunctions) | (push_cast; and_intros <;> omega -splitDisjunctions) | fail) only [e3, e4, e5, e6, e9, hcE, hqu, h58, n1, n2, f1, x1, x2, x3, x4, x5, x6, Bool.or_true, Bool.true_or, A1, A0, A2, A3, go_sem, seval]
     subst hQ
     exact hP
    ·simp +contextual -implicitDefEqProofs (maxSteps := 10000000) (disch := first | (and_intros <;> omega -splitDisjunctions) | (push_cast; and_intros <;> omega -splitDisjunctions) | fail) only [e3, e4, e5, e6, e9, hcE, hqu, h58, f1, x1, x2, x3, x4, x5, x6, Bool.or_true, Bool.true_or, A1, A0, A2, A3, go_sem, seval]
     subst hQ
     exact hP
   have hc3 : gapP s ((st3.pos : Int) + 1) ∨ flwP (bA s ((st3.pos : Int) + 1)) := by
    rcases hc2 with k | k | k
    ·exact .inl k
    ·exact .inr k
    ·exact absurd k hqu
   have hc4 : ¬ (¬ gapP s ((st3.pos : Int) + 1) ∧ ¬ flwP (bA s ((st3.pos : Int) + 1))) := fun k => hc3.elim k.1 k.2
   simp +contextual -implicitDefEqProofs (maxSteps := 10000000) (disch := first | (and_intros <;> omega -splitDisjunctions) | (push_cast; and_intros <;> omega -splitDisjunctions) | fail) only [e3, e4, e5, e6, e9, hcE, hqu, hc1, hc3, hc4, x1, x2, x3, x4, x5, x6, Bool.or_true, Bool.true_or, A1, A0, A2, A3, go_sem, seval]
   rcases he with ⟨X, f1, hP⟩ | ⟨X, c4, st4, f1, hX4, hlt4, ⟨hy, Y, f2, hP⟩ | ⟨hy, w, Y, f2, hP⟩⟩
   ·simp +contextual -implicitDefEqProofs (maxSteps := 10000000) (disch := first | (and_intros <;> omega -splitDisjunctions) | (push_cast; and_intros <;> omega -splitDisjunctions) | fail) only [f1, A1, A0, A2, A3, go_sem, seval]
    subst hQ
    exact hP
   ·have hcX := hX4.hp.cell
    obtain ⟨y1, y2, y3, y4, y5, y6⟩ := hX4.hp.o1
    unfold rdC at hcX
    rcases hy with hy | hy
    ·simp +contextual -implicitDefEqProofs (maxSteps := 10000000) (disch := first | (and_intros <;> omega -splitDisjunctions) | (push_cast; and_intros <;> omega -splitDisjunctions) | fail) only [f1, f2, hy, hcX, y1, y2, y3, y4, y5, y6, A1, A0, A2, A3, go_sem, seval]
     subst hQ
     exact hP
    ·simp +contextual -implicitDefEqProofs (maxSteps := 10000000) (disch := first | (and_intros <;> omega -splitDisjunctions) | (push_cast; and_intros <;> omega -splitDisjunctions) | fail) only [f1, f2, hy, hcX, y1, y2, y3, y4, y5, y6, A1, A0, A2, A3, go_sem, seval]
     subst hQ
     exact hP
   ·have hcX := hX4.hp.cell
    have hy1 : ¬ bA s st4.pos = 44 := fun k => hy (.inl k)
    have hy2 : ¬ bA s st4.pos = 125 := fun k => hy (.inr k)
    obtain ⟨y1, y2, y3, y4, y5, y6⟩ := hX4.hp.o1
    unfold rdC at hcX
    simp +contextual -implicitDefEqProofs (maxSteps := 10000000) (disch := first | (and_intros <;> omega -splitDisjunctions) | (push_cast; and_intros <;> omega -splitDisjunctions) | fail) only [f1, f2, hy1, hy2, hcX, y1, y2, y3, y4, y5, y6, A1, A0, A2, A3, go_sem, seval]
    subst hQ
    exact hP
  ·simp +contextual -implicitDefEqProofs (maxSteps := 10000000) (disch := first | (and_intros <;> omega -splitDisjunctions) | (push_cast; and_intros <;> omega -splitDisjunctions) | fail) only [e1, e2, e3, e6, e7, h42, hqu, hpf, hh, e8, hcB, o1, o2, o3, o4, o5, o6, A1, A0, A2, A3, go_sem, seval]
   rcases tl with ⟨o, cd, pl, E, m3, rfl, e9, hbad⟩ | ⟨st3, E, c3, m3, e9, hE, hFE, hlt3, hgo⟩
   ·simp +contextual -implicitDefEqProofs (maxSteps := 10000000) (disch := first | (and_intros <;> omega -splitDisjunctions) | (push_cast; and_intros <;> omega -splitDisjunctions) | fail) only [e9, A1, A0, A2, A3, go_sem, seval]
    subst hQ
    exact ⟨rfl, hbad⟩
   have he := ending E c3 st3 r hE hFE hlt3 hgo
   clear ending
   have hcE := hE.hp.cell
   have hbE := A5 hcE
   obtain ⟨x1, x2, x3, x4, x5, x6⟩ := hE.hp.o1
   unfold rdC at hcE
   rcases he with ⟨hnc, X, f1, hP⟩ | ⟨⟨hc1, hc2⟩, he⟩
   ·by_cases h58 : bA s st3.pos = 58
    ·have n1 : ¬ gapP s ((st3.pos : Int) + 1) := fun k => hnc ⟨h58, .inl k⟩
     have n2 : ¬ flwP (bA s ((st3.pos : Int) + 1)) := fun k => hnc ⟨h58, .inr (.inl k)⟩
     simp +contextual -implicitDefEqProofs (maxSteps := 10000000) (disch := first | (and_intros <;> omega -splitDisjunctions) | (push_cast; and_intros <;> omega -splitDisjunctions) | fail) only [e3, e4, e5, e6, e9, hcE, hqu, h58, n1, n2, f1, x1, x2, x3, x4, x5, x6, Bool.or_true, Bool.true_or, A1, A0, A2, A3, go_sem, seval]
     subst hQ
     exact hP
    ·simp +contextual -implicitDefEqProofs (maxSteps := 10000000) (disch := first | (and_intros <;> omega -splitDisjunctions) | (push_cast; and_intros <;> omega -splitDisjunctions) | fail) only [e3, e4, e5, e6, e9, hcE, hqu, h58, f1, x1, x2, x3, x4, x5, x6, Bool.or_true, Bool.true_or, A1, A0, A2, A3, go_sem, seval]
     subst hQ
     exact hP
   have hc3 : gapP s ((st3.pos : Int) + 1) ∨ flwP (bA s ((st3.pos : Int) + 1)) := by
    rcases hc2 with k | k | k
    ·exact .inl k
    ·exact .inr k
    ·exact absurd k hqu
   have hc4 : ¬ (¬ gapP s ((st3.pos : Int) + 1) ∧ ¬ flwP (bA s ((st3.pos : Int) + 1))) := fun k => hc3.elim k.1 k.2
   simp +contextual -implicitDefEqProofs (maxSteps := 10000000) (disch := first | (and_intros <;> omega -splitDisjunctions) | (push_cast; and_intros <;> omega -splitDisjunctions) | fail) only [e3, e4, e5, e6, e9, hcE, hqu, hc1, hc3, hc4, x1, x2, x3, x4, x5, x6, Bool.or_true, Bool.true_or, A1, A0, A2, A3, go_sem, seval]
   rcases he with ⟨X, f1, hP⟩ | ⟨X, c4, st4, f1, hX4, hlt4, ⟨hy, Y, f2, hP⟩ | ⟨hy, w, Y, f2, hP⟩⟩
   ·simp +contextual -implicitDefEqProofs (maxSteps := 10000000) (disch := first | (and_intros <;> omega -splitDisjunctions) | (push_cast; and_intros <;> omega -splitDisjunctions) | fail) only [f1, A1, A0, A2, A3, go_sem, seval]
    subst hQ
    exact hP
   ·have hcX := hX4.hp.cell
    obtain ⟨y1, y2, y3, y4, y5, y6⟩ := hX4.hp.o1
    unfold rdC at hcX
    rcases hy with hy | hy
    ·simp +contextual -implicitDefEqProofs (maxSteps := 10000000) (disch := first | (and_intros <;> omega -splitDisjunctions) | (push_cast; and_intros <;> omega -splitDisjunctions) | fail) only [f1, f2, hy, hcX, y1, y2, y3, y4, y5, y6, A1, A0, A2, A3, go_sem, seval]
     subst hQ
     exact hP
    ·simp +contextual -implicitDefEqProofs (maxSteps := 10000000) (disch := first | (and_intros <;> omega -splitDisjunctions) | (push_cast; and_intros <;> omega -splitDisjunctions) | fail) only [f1, f2, hy, hcX, y1, y2, y3, y4, y5, y6, A1, A0, A2, A3, go_sem, seval]
     subst hQ
     exact hP
   ·have hcX := hX4.hp.cell
    have hy1 : ¬ bA s st4.pos = 44 := fun k => hy (.inl k)
    have hy2 : ¬ bA s st4.pos = 125 := fun k => hy (.inr k)
    obtain ⟨y1, y2, y3, y4, y5, y6⟩ := hX4.hp.o1
    unfold rdC at hcX
    simp +contextual -implicitDefEqProofs (maxSteps := 10000000) (disch := first | (and_intros <;> omega -splitDisjunctions) | (push_cast; and_intros <;> omega -splitDisjunctions) | fail) only [f1, f2, hy1, hy2, hcX, y1, y2, y3, y4, y5, y6, A1, A0, A2, A3, go_sem, seval]
    subst hQ
    exact hP
theorem Lx {rec : RS → Option (RR Unit)} {G H : LH} {b : Nat} {s : ByteArray} {c : RC} {fr : Bool} {la : Int} {st : RS} (IH : H8 G b s rec) (hrec : KpF s rec) (h : RAt G H b s c 0 0 fr la st) (p : PR) (n : Nat) (h91 : bA s st.pos = 123) (hs : s.size ≤ 1048576) (fl : Nat) (hf : fl ≤ G.length) {r : RR Unit} (hm : Eq s rec n st p = some r) :
 Ret (PostU G H b s c fr la r) (run 108 [.ptr b 0, .agg (prC p)] fl H) := by
 have hc := h.hp.cell
 have hb := A5 hc
 have hG := h.hp.hG
 have hle := h.le
 have hlt := Ai h91 (by omega)
 obtain ⟨o1, o2, o3, o4, o5, o6⟩ := h.hp.o1
 have hL := h.left (L := [.cells (prC p)])
 unfold Eq at hm
 generalize hQ : PostU G H b s c fr la r = Q
 rcases A8 hm with ⟨o, cd, pl, m1, rfl⟩ | ⟨k, st1, m1, hm⟩
 ·obtain ⟨w, B, e1, ⟨j, rfl⟩, hbad⟩ := Cy hL 4 6 p st.pos fl hf m1
  have hbad := hbad.trans (RFr.app (H := H))
  unfold rdC prC at *
  unfold run at *
  rw [z108]
  simp +contextual -implicitDefEqProofs (maxSteps := 10000000) (disch := first | (and_intros <;> omega -splitDisjunctions) | (push_cast; and_intros <;> omega -splitDisjunctions) | fail) only [hc, e1, o1, o2, o3, o4, o5, o6, A1, A0, A2, A3, go_sem, seval]
  subst hQ
  exact ⟨rfl, hbad⟩
 obtain ⟨w, B, e1, rfl, c1, hA1, hF1⟩ := Cy hL 4 6 p st.pos fl hf m1
 have hF1 := RFr.from hF1
 obtain ⟨k1, k2, k3, k4, k5⟩ := Dl (s := s) m1 hle
 have hcB := hA1.hp.cell
 have hbB := A5 hcB
 obtain ⟨p1, p2, p3, p4, p5, p6⟩ := hA1.hp.o1
 have hA2 := hA1.upd (cd' := 0) (pl' := 0) (fr' := fr) (la' := la) (p := st1.pos + 1) (d := st1.depth) (by omega) hA1.dep
 have hF2 := hF1.trans (RFr.set (x := .cells (rdC s c1 (st1.pos + 1) st1.depth 0 0 fr la)))
 have hone : (((st1.pos + 1 : Nat) : Int)) = (st1.pos : Int) + 1 := by omega
 unfold rdC at hc hcB hF2 hA2
 unfold prC at e1 ⊢
 rw [hone] at hA2 hF2
 unfold run at *
 rw [z108]
 simp +contextual -implicitDefEqProofs (maxSteps := 10000000) (disch := first | (and_intros <;> omega -splitDisjunctions) | (push_cast; and_intros <;> omega -splitDisjunctions) | fail) only [hc, e1, hcB, o1, o2, o3, o4, o5, o6, p1, p2, p3, p4, p5, p6, A1, A0, A2, A3, go_sem, seval]
 clear e1 hcB hbB p1 p2 p3 p4 p5 p6 o1 o2 o3 o4 o5 o6 hc
 refine B9 fun c2 R2 hc2 hR2 => ?_
 have key2 : ∀ (m : Nat) (d : Nat) (B : LH) (c' : RC) (st' : RS) (x1 x3 x4 x6 x18 x28 x38 x61 : Option V), d < m → RAt G B b s c' 0 0 fr la st' → RFr b H c B c' → k < st'.out.length → 0 < st'.depth → JG s rec k d st' = some r →
  Ret Q (zEv (Ac (mkR Tryz.prog cfg ok [0, 1, 3, 4, 5, 6, 18, 28, 38, 61] fl) .any H [ResultVar.tmp 4]) (mkR Tryz.prog cfg ok [0, 1, 3, 4, 5, 6, 18, 28, 38, 61] fl) (K.code (Code.loop c2) :: K.blk 0 :: R2) .nrm [some (.ptr b 0), x1, x3, x4, some (.int .i64 k), x6, x18, x28, x38, x61] (B)) := by
  intro m
  induction m with
  | zero => intro d B c' st' x1 x3 x4 x6 x18 x28 x38 x61 hm; omega
  | succ m ih2 =>
    intro d B c' st' x1 x3 x4 x6 x18 x28 x38 x61 hm hA hF hk hd hgo
    cases d with
    | zero => cases hgo
    | succ d =>
    rw [Le] at hgo
    have hs2 : s.size ≤ 16777216 := by omega
    rcases A8 hgo with ⟨o, cd, pl, m1, rfl⟩ | ⟨_, st1, m1, hgo⟩
    ·obtain ⟨w, C, e1, rfl, hbad⟩ := BR hA hs2 fl hf m1
     unfold run at e1
     rw [A4 hc2, ← hR2]
     simp +contextual -implicitDefEqProofs (maxSteps := 10000000) (disch := first | (and_intros <;> omega -splitDisjunctions) | (push_cast; and_intros <;> omega -splitDisjunctions) | fail) only [e1, go_sem, seval]
     subst hQ
     exact ⟨rfl, hbad.trans hF⟩
    obtain ⟨w, C, e1, rfl, c1, hA1, hF1⟩ := BR hA hs2 fl hf m1
    obtain ⟨g1, g2, g3⟩ := Bu m1 hA.le
    have hFC := hF.trans hF1
    have hcC := hA1.hp.cell
    have hbC := A5 hcC
    obtain ⟨o1, o2, o3, o4, o5, o6⟩ := hA1.hp.o1
    have hgo1 := g1.out; have hgd1 := g1.dep
    by_cases h93 : bA s st1.pos = 125
    ·rw [if_pos h93] at hgo
     have hone : (((st1.pos + 1 : Nat) : Int)) = (st1.pos : Int) + 1 := by omega
     have hA2 := hA1.upd (cd' := 0) (pl' := 0) (fr' := fr) (la' := la) (p := st1.pos + 1) (d := st1.depth) (by omega) hA1.dep
     obtain ⟨w, D, e2, rfl, st2, rfl, hgood⟩ := IQ hA2 k (by show k < st1.out.length; omega) (by show 0 < st1.depth; omega) fl hf hgo
     have hgood := hgood.trans (hFC.trans RFr.set)
     unfold rdC at e2 hcC
     rw [hone] at e2
     unfold run at e1 e2
     rw [A4 hc2, ← hR2]
     simp +contextual -implicitDefEqProofs (maxSteps := 10000000) (disch := first | (and_intros <;> omega -splitDisjunctions) | (push_cast; and_intros <;> omega -splitDisjunctions) | fail) only [e1, e2, hcC, h93, o1, o2, o3, o4, o5, o6, A1, A0, A2, A3, go_sem, seval]
     subst hQ
     exact ⟨rfl, hgood⟩
    rw [if_neg h93] at hgo
    unfold rdC at hcC
    rcases A8 hgo with ⟨o, cd, pl, m2, rfl⟩ | ⟨_, st2, m2, hgo⟩
    ·obtain ⟨w, D, e2, rfl, hbad⟩ := Fo IH hrec hA1 (EN g2 g3) hs fl hf m2
     unfold run at e1 e2
     rw [A4 hc2, ← hR2]
     simp +contextual -implicitDefEqProofs (maxSteps := 10000000) (disch := first | (and_intros <;> omega -splitDisjunctions) | (push_cast; and_intros <;> omega -splitDisjunctions) | fail) only [e1, e2, hcC, h93, o1, o2, o3, o4, o5, o6, A1, A0, A2, A3, go_sem, seval]
     subst hQ
     exact ⟨rfl, hbad.trans hFC⟩
    obtain ⟨w, D, e2, rfl, c2x, hA2, hF2⟩ := Fo IH hrec hA1 (EN g2 g3) hs fl hf m2
    have j1 := Qt hrec m2 g2
    have hFD := hFC.trans hF2
    rcases A8 hgo with ⟨o, cd, pl, m3, rfl⟩ | ⟨_, st3, m3, hgo⟩
    ·obtain ⟨w, E, e3, rfl, hbad⟩ := BR hA2 hs2 fl hf m3
     unfold run at e1 e2 e3
     rw [A4 hc2, ← hR2]
     simp +contextual -implicitDefEqProofs (maxSteps := 10000000) (disch := first | (and_intros <;> omega -splitDisjunctions) | (push_cast; and_intros <;> omega -splitDisjunctions) | fail) only [e1, e2, e3, hcC, h93, o1, o2, o3, o4, o5, o6, A1, A0, A2, A3, go_sem, seval]
     subst hQ
     exact ⟨rfl, hbad.trans hFD⟩
    obtain ⟨w, E, e3, rfl, c3x, hA3, hF3⟩ := BR hA2 hs2 fl hf m3
    obtain ⟨l1, l2, l3⟩ := Bu m3 j1.le
    have hFE := hFD.trans hF3
    rcases A8 hgo with ⟨o, cd, pl, m4, rfl⟩ | ⟨_, st4, m4, hgo⟩
    ·obtain ⟨w, X, e4, rfl, hbad⟩ := EH hA3 125 (by decide) l2 fl hf hs2 m4
     unfold run at e1 e2 e3 e4
     rw [A4 hc2, ← hR2]
     simp +contextual -implicitDefEqProofs (maxSteps := 10000000) (disch := first | (and_intros <;> omega -splitDisjunctions) | (push_cast; and_intros <;> omega -splitDisjunctions) | fail) only [e1, e2, e3, e4, hcC, h93, o1, o2, o3, o4, o5, o6, A1, A0, A2, A3, go_sem, seval]
     subst hQ
     exact ⟨rfl, hbad.trans hFE⟩
    obtain ⟨w, X, e4, rfl, c4x, hA4, hF4⟩ := EH hA3 125 (by decide) l2 fl hf hs2 m4
    have q1 := Dw m4 l2
    have K := (j1.trans l1).trans q1
    have Kd := K.dep; have Ko := K.out
    unfold run at e1 e2 e3 e4
    rw [A4 hc2]
    simp +contextual -implicitDefEqProofs (maxSteps := 10000000) (disch := first | (and_intros <;> omega -splitDisjunctions) | (push_cast; and_intros <;> omega -splitDisjunctions) | fail) only [e1, e2, e3, e4, hcC, h93, o1, o2, o3, o4, o5, o6, A1, A0, A2, A3, go_sem, seval]
    exact ih2 d X c4x st4 _ _ _ _ _ _ _ _ (by omega) hA4 (hFE.trans hF4) (by omega) (by omega) hgo
 exact key2 (n + 1) n _ c1 _ _ _ _ _ _ _ _ _ (by omega) hA2 hF2 (by show k < st1.out.length; omega) (by show 0 < st1.depth; omega) hm
open Go.Proofs.YthlbglmfdjdagaaGreatDoor
theorem Fn {rec : RS → Option (RR Unit)} {G H : LH} {b : Nat} {s : ByteArray} {c : RC} {fr : Bool} {la : Int} {st : RS} (IH : H8 G b s rec) (hrec : KpF s rec) (h : RAt G H b s c 0 0 fr la st) (p : PR) (n : Nat) (hs : s.size ≤ 1048576) (fl : Nat) (hf : fl ≤ G.length) {r : RR Unit} (hm : HW s rec n st p = some r) :
 Ret (PostU G H b s c fr la r) (run 87 [.ptr b 0, .agg (prC p)] fl H) := by
 have hs2 : s.size ≤ 16777216 := by omega
 have hc := h.hp.cell
 have hb := A5 hc
 have hG := h.hp.hG
 have hle := h.le
 have hL := h.left (L := [.cells (prC p)])
 have hLF : RFr b H c (H ++ [.cells (prC p)]) c := RFr.app
 have e3 := fun q (h : (0 : Int) ≤ q) fl H => Ad s q fl H h (by omega)
 have e6 := fun b fl H => Cj b fl H
 have e7 := fun fl H => B6 s st.pos true fl H (by omega)
 rw [Ay hle] at e7
 obtain ⟨o1, o2, o3, o4, o5, o6⟩ := h.hp.o1
 generalize hQ : PostU G H b s c fr la r = Q
 have fin : ∀ (w : V) (B : LH), PostU G (H ++ [.cells (prC p)]) b s c fr la r w B → Q w B := fun w B k => by rw [← hQ]; exact k.trans hLF
 unfold HW at hm
 unfold rdC at hc
 by_cases h1 : bA s st.pos = 91
 ·rw [if_pos h1] at hm
  obtain ⟨w, B, e1, hP⟩ := K6 IH hrec hL p n h1 hs fl hf hm
  have hP := fin _ _ hP
  unfold prC at *
  unfold run at *
  rw [z87]
  simp +contextual -implicitDefEqProofs (maxSteps := 10000000) (disch := first | (and_intros <;> omega -splitDisjunctions) | (push_cast; and_intros <;> omega -splitDisjunctions) | fail) only [hc, e1, e3, h1, o1, o2, o3, o4, o5, o6, A1, A0, A2, A3, go_sem, seval]
  exact hP
 rw [if_neg h1] at hm
 by_cases h2 : bA s st.pos = 123
 ·rw [if_pos h2] at hm
  obtain ⟨w, B, e1, hP⟩ := Lx IH hrec hL p n h2 hs fl hf hm
  have hP := fin _ _ hP
  unfold prC at *
  unfold run at *
  rw [z87]
  simp +contextual -implicitDefEqProofs (maxSteps := 10000000) (disch := first | (and_intros <;> omega -splitDisjunctions) | (push_cast; and_intros <;> omega -splitDisjunctions) | fail) only [hc, e1, e3, h2, o1, o2, o3, o4, o5, o6, A1, A0, A2, A3, go_sem, seval]
  exact hP
 rw [if_neg h2] at hm
 by_cases h3 : bA s st.pos = 42
 ·rw [if_pos h3] at hm
  obtain ⟨w, B, e1, hP⟩ := Ci hL p hs2 fl hf hm
  have hP := fin _ _ hP
  unfold prC at *
  unfold run at *
  rw [z87]
  simp +contextual -implicitDefEqProofs (maxSteps := 10000000) (disch := first | (and_intros <;> omega -splitDisjunctions) | (push_cast; and_intros <;> omega -splitDisjunctions) | fail) only [hc, e1, e3, h3, o1, o2, o3, o4, o5, o6, A1, A0, A2, A3, go_sem, seval]
  exact hP
 rw [if_neg h3] at hm
 by_cases h4 : quoB (bA s st.pos)
 ·rw [if_pos h4] at hm
  have hlt : st.pos < s.size := by rcases h4 with k | k <;> exact Ai k (by omega)
  obtain ⟨w, B, e1, hP⟩ := Bz hL p hlt hs2 fl hf hm
  have hP := fin _ _ hP
  unfold prC at *
  unfold run at *
  rw [z87]
  simp +contextual -implicitDefEqProofs (maxSteps := 10000000) (disch := first | (and_intros <;> omega -splitDisjunctions) | (push_cast; and_intros <;> omega -splitDisjunctions) | fail) only [hc, e1, e3, e6, h1, h2, h3, h4, o1, o2, o3, o4, o5, o6, A1, A0, A2, A3, go_sem, seval]
  exact hP
 rw [if_neg h4] at hm
 by_cases h5 : pfB s st.pos true = true
 ·rw [if_pos h5] at hm
  obtain ⟨w, B, e1, hP⟩ := DH hL p (-1) true h5 hs2 fl hf hm
  have hP := fin _ _ hP
  unfold prC at *
  unfold run at *
  rw [z87]
  simp +contextual -implicitDefEqProofs (maxSteps := 10000000) (disch := first | (and_intros <;> omega -splitDisjunctions) | (push_cast; and_intros <;> omega -splitDisjunctions) | fail) only [hc, e1, e3, e6, e7, h1, h2, h3, h4, h5, o1, o2, o3, o4, o5, o6, A1, A0, A2, A3, go_sem, seval]
  exact hP
 rw [if_neg h5] at hm
 have h5 : pfB s st.pos true = false := by simpa using h5
 obtain ⟨ph, pa, pg, pf, pn⟩ := p
 by_cases h6 : ph = true ∧ (bA s st.pos = 44 ∨ bA s st.pos = 93 ∨ bA s st.pos = 125)
 ·rw [if_pos h6] at hm
  obtain ⟨rfl, h6⟩ := h6
  have h7 : (bA s st.pos = 44 ∨ bA s st.pos = 93) ∨ bA s st.pos = 125 := or_assoc.2 h6
  obtain ⟨⟨t1, t2⟩, t3⟩ := Aq hm
  obtain ⟨w, B, e1, rfl, c', hB, hF⟩ := Br hL 1 ⟨#[]⟩ ⟨true, pa, pg, pf, pn⟩ t1 t2 fl hf
  subst t3
  have hP := fin (.bool true) B ⟨rfl, c', hB, hF⟩
  clear fin
  unfold prC at *
  unfold run at *
  rw [z87]
  simp +contextual -implicitDefEqProofs (maxSteps := 10000000) (disch := first | (and_intros <;> omega -splitDisjunctions) | (push_cast; and_intros <;> omega -splitDisjunctions) | fail) only [hc, e1, e3, e6, e7, h1, h2, h3, h4, h5, h7, o1, o2, o3, o4, o5, o6, A1, A0, A2, A3, go_sem, seval]
  exact hP
 ·rw [if_neg h6] at hm
  cases hm
  have e8 := Ao hL 10 st.pos fl hf
  have hP := fin (.bool false) _ ⟨rfl, Bo hL (cd := 10) (pl := st.pos) (by decide)⟩
  rw [A3 hb] at e8 hP
  clear fin
  unfold rdC at e8 hP
  unfold prC at *
  unfold run at *
  rw [z87]
  cases ph with
  | false =>
    simp +contextual -implicitDefEqProofs (maxSteps := 10000000) (disch := first | (and_intros <;> omega -splitDisjunctions) | (push_cast; and_intros <;> omega -splitDisjunctions) | fail) only [hc, e3, e6, e7, e8, h1, h2, h3, h4, h5, o1, o2, o3, o4, o5, o6, A1, A0, A2, A3, go_sem, seval]
    exact hP
  | true =>
    have h7 : ¬ ((bA s st.pos = 44 ∨ bA s st.pos = 93) ∨ bA s st.pos = 125) := fun k => h6 ⟨rfl, or_assoc.1 k⟩
    simp +contextual -implicitDefEqProofs (maxSteps := 10000000) (disch := first | (and_intros <;> omega -splitDisjunctions) | (push_cast; and_intros <;> omega -splitDisjunctions) | fail) only [hc, e3, e6, e7, e8, h1, h2, h3, h4, h5, h7, o1, o2, o3, o4, o5, o6, A1, A0, A2, A3, go_sem, seval]
    exact hP
theorem K7 {n : Nat} {G H : LH} {b : Nat} {s : ByteArray} {c : RC} {fr : Bool} {la : Int} {st : RS} (IH : H8 G b s (Ic s n)) (h : RAt G H b s c 0 0 fr la st) (h0 : BP s st.pos = 0) (hs : s.size ≤ 1048576) (fl : Nat) (hf : fl ≤ G.length) {r : RR Unit} (hm : Ic s (n + 1) st = some r) :
 Ret (PostU G H b s c fr la r) (run 120 [.ptr b 0] fl H) := by
 have hG := h.hp.hG
 have hs2 : s.size ≤ 16777216 := by omega
 obtain ⟨hlt, _⟩ := Fd h0
 rw [KT] at hm
 generalize hQ : PostU G H b s c fr la r = Q
 rcases A8 hm with ⟨o, cd, pl, m1, rfl⟩ | ⟨q, st1, m1, hm⟩
 ·rcases Dz m1 with ⟨o2, c2, p2, n1, n2⟩ | ⟨q, st1, n1, ⟨n2, n3, n4⟩ | ⟨n2, n3⟩⟩
  ·cases n2
   obtain ⟨w, B, e1, ⟨p, rfl⟩, hbad⟩ := AV h true hs fl hf n1
   obtain ⟨c', fr', la', st', b1, b2, b3, b4⟩ := hbad
   have hxB := b1.hp.hx.len
   have hfin : BadA G H b s c o cd pl (B ++ [.cells (prC p)]) := ⟨c', fr', la', st', b1.left, b2, b3, b4.trans RFr.app⟩
   unfold prC at *
   unfold run at *
   rw [z120]
   simp +contextual -implicitDefEqProofs (maxSteps := 10000000) (disch := first | (and_intros <;> omega -splitDisjunctions) | (push_cast; and_intros <;> omega -splitDisjunctions) | fail) only [e1, A1, A0, A2, A3, go_sem, seval]
   subst hQ
   exact ⟨rfl, hfin⟩
  ·cases n4
   obtain ⟨w, B, e1, rfl, c1, hA1, hF1⟩ := AV h true hs fl hf n1
   obtain ⟨w, C, e2, rfl, hbad⟩ := M3 (hA1.left (L := [.cells (prC q)])) n3 hs2 fl hf
   have hbad2 := hbad.trans (hF1.trans RFr.app)
   clear hbad
   have hxB := hA1.hp.hx.len
   obtain ⟨qh, qa, qg, qf, qn⟩ := q
   dsimp only at n2
   subst n2
   unfold prC at *
   unfold run at *
   rw [z120]
   simp +contextual -implicitDefEqProofs (maxSteps := 10000000) (disch := first | (and_intros <;> omega -splitDisjunctions) | (push_cast; and_intros <;> omega -splitDisjunctions) | fail) only [e1, e2, A1, A0, A2, A3, go_sem, seval]
   subst hQ
   exact ⟨rfl, hbad2⟩
  ·cases n3
 rcases Dz m1 with ⟨o2, c2, p2, n1, n2⟩ | ⟨q', st1', n1, ⟨n2, n3, n4⟩ | ⟨n2, n3⟩⟩
 ·cases n2
 ·cases n4
 cases n3
 obtain ⟨w, B, e1, rfl, c1, hA1, hF1⟩ := AV h true hs fl hf n1
 obtain ⟨k1, k2, k3, k4⟩ := Ba n1 h.le
 have h01 : BP s st1.pos = 0 := by
  cases hq : q.has with
  | true => exact n2 hq
  | false => rw [(k3 hq).1]; exact h0
 have hA2 := hA1.left (L := [.cells (prC q)])
 have hF2 := hF1.trans (RFr.app (L := [.cells (prC q)]))
 have e2 := K8 hA2 h01 hs2 fl hf
 have hxB := hA1.hp.hx.len
 obtain ⟨w, D, e3, hP⟩ := Fn IH (Id s n) hA2 q n hs fl hf hm
 have hP2 := hP.trans hF2
 rw [hQ] at hP2
 clear hP
 obtain ⟨qh, qa, qg, qf, qn⟩ := q
 unfold prC at *
 unfold run at *
 rw [z120]
 cases qh with
 | true =>
   simp +contextual -implicitDefEqProofs (maxSteps := 10000000) (disch := first | (and_intros <;> omega -splitDisjunctions) | (push_cast; and_intros <;> omega -splitDisjunctions) | fail) only [e1, e2, e3, A1, A0, A2, A3, go_sem, seval]
   exact hP2
 | false =>
   simp +contextual -implicitDefEqProofs (maxSteps := 10000000) (disch := first | (and_intros <;> omega -splitDisjunctions) | (push_cast; and_intros <;> omega -splitDisjunctions) | fail) only [e1, e3, A1, A0, A2, A3, go_sem, seval]
   exact hP2
theorem Pw {G : LH} {b : Nat} {s : ByteArray} (hs : s.size ≤ 1048576) : ∀ n, H8 G b s (Ic s n)
 | 0 => fun H c fr la st fl r h hf h0 hm => by cases hm
 | n + 1 => fun H c fr la st fl r h hf h0 hm => K7 (Pw hs n) h h0 hs fl hf hm
open Go.Proofs.YthlbglmfdjdagaaGreatDoor
theorem TE {s : ByteArray} {e d a : Nat} : tabG s e (d + 1) a = if a < e then (if bA s a = 9 then some a else tabG s e d (a + 1)) else none := rfl
theorem Ks {s : ByteArray} {e : Nat} : ∀ (d a : Nat), (∀ j : Nat, a ≤ j → j < e → bA s j ≠ 9) → tabG s e d a = none
 | 0, a, h => rfl
 | d + 1, a, h => by
   rw [TE]
   by_cases h1 : a < e
   ·rw [if_pos h1, if_neg (h a (Nat.le_refl _) h1)]
    exact Ks d (a + 1) (fun j hj => h j (by omega))
   ·rw [if_neg h1]
theorem Kt {s : ByteArray} {e k : Nat} : ∀ (d a : Nat), a ≤ k → k < e → k - a < d → bA s k = 9 → (∀ j : Nat, a ≤ j → j < k → bA s j ≠ 9) → tabG s e d a = some k
 | 0, a, _, _, h, _, _ => by omega
 | d + 1, a, h1, h2, h3, h4, h5 => by
   rw [TE, if_pos (by omega)]
   by_cases h6 : a = k
   ·subst h6; rw [if_pos h4]
   ·rw [if_neg (h5 a (Nat.le_refl _) (by omega))]
    exact Kt d (a + 1) (by omega) h2 (by omega) h4 (fun j hj => h5 j (by omega))
theorem SW {s : ByteArray} {a e d : Nat} (h1 : a ≤ e) (h2 : e ≤ s.size) (hd : e < d) : (idxB (s.extract a e) 9 = -1 ∧ tabG s e d a = none) ∨ ∃ i : Nat, idxB (s.extract a e) 9 = i ∧ a + i < e ∧ tabG s e d a = some (a + i) := by
 have hz : (s.extract a e).size = e - a := Ap h2
 have hb : ∀ j : Nat, j < e - a → bA (s.extract a e) j = bA s (a + j : Nat) := by
  intro j hj
  rw [Bn (by omega), Bn (by omega)]
  simp only [HX]
  rw [List.getElem_take, List.getElem_drop]
 rcases Ik (s.extract a e) 9 with ⟨k1, k2⟩ | ⟨i, k1, k2, k3, k4⟩
 ·refine .inl ⟨k1, Ks d a (fun j hj1 hj2 => ?_)⟩
  have := k2 (j - a) (by omega)
  rw [hb _ (by omega), show a + (j - a) = j by omega] at this
  exact this
 ·refine .inr ⟨i, k1, by omega, Kt d a (by omega) (by omega) (by omega) ?_ (fun j hj1 hj2 => ?_)⟩
  ·rw [← hb i (by omega)]; exact k3
  ·have := k4 (j - a) (by omega)
   rw [hb _ (by omega), show a + (j - a) = j by omega] at this
   exact this
theorem GE {G H : LH} {b : Nat} {s : ByteArray} {c : RC} {fr : Bool} {la : Int} {st : RS} (h : RAt G H b s c 0 0 fr la st) (hs : s.size ≤ 16777216) (fl : Nat) (hf : fl ≤ G.length) {r : RR Unit} (hm : JC s st = some r) :
 Ret (fun w B => PostU G H b s c fr la r w B ∧ ∀ u st', r = .ok u st' → B = H ∧ st' = st) (run 62 [.ptr b 0] fl H) := by
 have hc := h.hp.cell
 have hb := A5 hc
 have hle := h.le
 have e1 := fun fl H => CV s st.pos fl H hle (by omega)
 have l1 := Dg s st.pos
 have e2 := fun fl H => AJ s (lnN s st.pos) fl H (by omega) (by omega)
 have e3 := fun fl H => GB (s.extract (lnN s st.pos) st.pos) 9 fl H
 rw [show UInt8.ofNat (9 : Int).toNat = 9 from rfl] at e3
 obtain ⟨o1, o2, o3, o4, o5, o6⟩ := h.hp.o1
 generalize hQ : (fun (w : V) (B : LH) => PostU G H b s c fr la r w B ∧ ∀ u st', r = .ok u st' → B = H ∧ st' = st) = Q
 have gd : r = .ok () st → Q (.bool true) H := by
  rintro rfl
  subst hQ
  exact ⟨⟨rfl, c, h, RFr.refl⟩, fun u st' e => by cases e; exact ⟨rfl, rfl⟩⟩
 unfold JC at hm
 by_cases hw : wtN s (lnN s st.pos) = st.pos
 rotate_left
 ·rw [if_pos hw] at hm
  cases hm
  have t1 : ((wtN s (lnN s st.pos) : Int) = st.pos) = False := eq_false (by omega)
  have gd := gd rfl
  clear hQ
  unfold rdC at *
  unfold run at *
  rw [z62]
  simp +contextual -implicitDefEqProofs (maxSteps := 10000000) (disch := first | (and_intros <;> omega -splitDisjunctions) | (push_cast; and_intros <;> omega -splitDisjunctions) | fail) only [hc, e1, e2, t1, ne_eq, o1, o2, o3, o4, o5, o6, A1, A0, A2, A3, go_sem, seval]
  exact gd
 rw [if_neg (fun k => k hw)] at hm
 have t1 : ((wtN s (lnN s st.pos) : Int) = st.pos) = True := eq_true (by omega)
 rcases SW (s := s) (d := s.size + 1) l1 hle (by omega) with ⟨k1, k2⟩ | ⟨i, k1, k2, k3⟩
 ·rw [k2] at hm
  cases hm
  have gd := gd rfl
  rw [k1] at e3
  clear hQ
  unfold rdC at *
  unfold run at *
  rw [z62]
  simp +contextual -implicitDefEqProofs (maxSteps := 10000000) (disch := first | (and_intros <;> omega -splitDisjunctions) | (push_cast; and_intros <;> omega -splitDisjunctions) | fail) only [hc, e1, e2, e3, t1, ne_eq, o1, o2, o3, o4, o5, o6, A1, A0, A2, A3, go_sem, seval]
  exact gd
 ·rw [k3] at hm
  cases hm
  rw [k1] at e3
  have t2 : ((i : Int) < 0) = False := eq_false (by omega)
  have e4 := fun cd pl fl hf => Ao h cd pl fl hf
  have hbad := Bo h (cd := 2) (pl := ((lnN s st.pos + i : Nat) : Int)) (by decide)
  have hcast : (((lnN s st.pos + i : Nat) : Int)) = (lnN s st.pos : Int) + i := by omega
  rw [hcast] at hbad hQ
  clear gd
  unfold rdC at *
  unfold run at *
  rw [z62]
  simp +contextual -implicitDefEqProofs (maxSteps := 10000000) (disch := first | (and_intros <;> omega -splitDisjunctions) | (push_cast; and_intros <;> omega -splitDisjunctions) | fail) only [hc, e1, e2, e3, e4, t1, t2, ne_eq, o1, o2, o3, o4, o5, o6, A1, A0, A2, A3, go_sem, seval]
  subst hQ
  exact ⟨⟨rfl, hbad⟩, fun u st' e => by cases e⟩
theorem Sw {s : ByteArray} {st : RS} {r : RR Unit} (h : JC s st = some r) : r = .ok () st ∨ ∃ k, r = .bad st.out 2 k := by
 unfold JC at h
 by_cases hw : wtN s (lnN s st.pos) ≠ st.pos
 ·rw [if_pos hw] at h; cases h; exact .inl rfl
 ·rw [if_neg hw] at h
  cases h1 : tabG s st.pos (s.size + 1) (lnN s st.pos) with
  | none => rw [h1] at h; cases h; exact .inl rfl
  | some k => rw [h1] at h; cases h; exact .inr ⟨k, rfl⟩
theorem Qs {s : ByteArray} {p : Nat} {st st' : RS} {u : Unit} (h : E0 s p st = some (.ok u st')) : st' = st.at (gpN s p) := by
 unfold E0 at h
 by_cases h1 : Aw s (gpN s p)
 ·rw [if_pos h1] at h; cases h; rfl
 ·rw [if_neg h1] at h
  rcases Sw h with h2 | ⟨k, h2⟩
  ·cases h2; rfl
  ·cases h2
theorem CY {G H : LH} {b : Nat} {s : ByteArray} {c : RC} {fr : Bool} {la : Int} {st : RS} (h : RAt G H b s c 0 0 fr la st) (p : Nat) (hp : p ≤ s.size) (hs : s.size ≤ 16777216) (fl : Nat) (hf : fl ≤ G.length) {r : RR Unit} (hm : E0 s p st = some r) :
 Ret (PostU G H b s c fr la r) (run 64 [.ptr b 0, .int .i64 (p : Int)] fl H) := by
 have hc := h.hp.cell
 have hb := A5 hc
 have hG := h.hp.hG
 have e1 := fun fl H => DD s p fl H hp (by omega)
 have hg := BL hp
 have h2 := h.upd (cd' := 0) (pl' := 0) (fr' := fr) (la' := la) hg h.dep
 have e2 := By h2 (gpN s p) hg hs fl hf
 obtain ⟨o1, o2, o3, o4, o5, o6⟩ := h.hp.o1
 generalize hQ : PostU G H b s c fr la r = Q
 unfold E0 at hm
 by_cases h1 : Aw s (gpN s p)
 ·rw [if_pos h1] at hm
  cases hm
  rw [decide_eq_true h1] at e2
  have hcell : LH.cellsAt (H.set b (.cells (rdC s c (gpN s p) st.depth 0 0 fr la))) b = some (rdC s c (gpN s p) st.depth 0 0 fr la) := A1 hb
  unfold rdC at *
  unfold run at *
  rw [z64]
  simp +contextual -implicitDefEqProofs (maxSteps := 10000000) (disch := first | (and_intros <;> omega -splitDisjunctions) | (push_cast; and_intros <;> omega -splitDisjunctions) | fail) only [hc, hcell, e1, e2, o1, o2, o3, o4, o5, o6, A1, A0, A2, A3, go_sem, seval]
  subst hQ
  exact ⟨rfl, c, h2, RFr.set⟩
 ·rw [if_neg h1] at hm
  rw [decide_eq_false h1] at e2
  obtain ⟨w, B, e3, hP, hE⟩ := GE h2 hs fl hf hm
  have hP := hP.trans (RFr.set (b := b) (H := H) (c := c))
  have hcell : LH.cellsAt (H.set b (.cells (rdC s c (gpN s p) st.depth 0 0 fr la))) b = some (rdC s c (gpN s p) st.depth 0 0 fr la) := A1 hb
  unfold rdC at *
  have hwb : ∃ x, w = .bool x := by
   cases r with
   | ok u st' => exact ⟨true, hP.1⟩
   | bad o cd pl => exact ⟨false, hP.1⟩
  obtain ⟨x, rfl⟩ := hwb
  unfold run at *
  rw [z64]
  simp +contextual -implicitDefEqProofs (maxSteps := 10000000) (disch := first | (and_intros <;> omega -splitDisjunctions) | (push_cast; and_intros <;> omega -splitDisjunctions) | fail) only [hc, hcell, e1, e2, e3, o1, o2, o3, o4, o5, o6, A1, A0, A2, A3, go_sem, seval]
  subst hQ
  exact hP
theorem E4 {G H : LH} {b : Nat} {s : ByteArray} {c : RC} {fr : Bool} {la : Int} {st : RS} (h : RAt G H b s c 0 0 fr la st) (p : PR) (fin : Nat) (hfn : fin ≤ s.size) (fl : Nat) (hf : fl ≤ G.length) {r : RR Bool} (hm : GY st p fin = some r) :
 Ret (fun w B => w = und ∧ ∃ st', r = .ok true st' ∧ ∃ c', RAt G B b s c' 0 0 true la st' ∧ RFr b H c B c') (run 65 [.ptr b 0, .agg (prC p), .int .i64 (fin : Int)] fl H) := by
 have hL := h.left (L := [.cells (prC p)])
 unfold GY at hm
 rcases A8 hm with ⟨o, cc, q, m1, m2⟩ | ⟨_, st1, m1, m2⟩
 ·have := (Aq m1).2; cases this
 obtain ⟨⟨t1, t2⟩, t3⟩ := Aq m1
 cases t3
 cases m2
 obtain ⟨w, B, e3, rfl, c', k3, k4⟩ := Br hL 1 ⟨#[]⟩ p t1 t2 fl hf
 have k4 := RFr.from k4
 have hcB := k3.hp.cell
 have hbB := A5 hcB
 have hG := h.hp.hG
 obtain ⟨p1, p2, p3, p4, p5, p6⟩ := k3.hp.o1
 have hfin := k3.upd (cd' := 0) (pl' := 0) (fr' := true) (la' := la) (p := fin) (d := (st.tell (evN 5 1 false ⟨#[]⟩ p.anchor p.tag)).depth) hfn k3.dep
 generalize st.tell (evN 5 1 false ⟨#[]⟩ p.anchor p.tag) = stt at *
 generalize hQ : (fun (w : V) (B : LH) => w = und ∧ ∃ st', RR.ok true (stt.at fin) = RR.ok true st' ∧ ∃ c', RAt G B b s c' 0 0 true la st' ∧ RFr b H c B c') = Q
 unfold rdC prC at *
 unfold run at *
 rw [z65]
 simp +contextual -implicitDefEqProofs (maxSteps := 10000000) (disch := first | (and_intros <;> omega -splitDisjunctions) | (push_cast; and_intros <;> omega -splitDisjunctions) | fail) only [e3, hcB, p1, p2, p3, p4, p5, p6, List.set_set, A1, A0, A2, A3, go_sem, seval]
 subst hQ
 exact ⟨rfl, _, rfl, c', hfin, k4.trans RFr.set⟩
theorem HE {G H : LH} {b : Nat} {s : ByteArray} {c : RC} {fr : Bool} {la : Int} {st : RS} (h : RAt G H b s c 0 0 fr la st) (n : Int) (loose : Bool) (hs : s.size ≤ 16777216) (fl : Nat) (hf : fl ≤ G.length) :
 run 71 [.ptr b 0, .int .i64 n, .bool loose] fl H = some (.bool (decide (EV s st.pos n loose)), H) := by
 have hc := h.hp.cell
 have hb := A5 hc
 have hle := h.le
 have e1 := fun fl H => QJ s st.pos fl H (by omega)
 rw [Ay hle] at e1
 have e2 := fun fl H => DF s st.pos fl H (by omega)
 have l1 := Dg s st.pos
 have hcol : ((st.pos : Int) - (lnN s st.pos : Int)) = (colN s st.pos : Nat) := by unfold colN; omega
 rw [hcol] at e1
 obtain ⟨o1, o2, o3, o4, o5, o6⟩ := h.hp.o1
 have hD : EV s st.pos n loose ↔ (n < colN s st.pos ∨ (loose = true ∧ (colN s st.pos : Int) = n ∧ BG s st.pos)) := Iff.rfl
 generalize colN s st.pos = cn at *
 unfold rdC at *
 by_cases h1 : n < (cn : Int)
 ·rw [decide_eq_true (hD.2 (.inl h1))]
  unfold run at *
  rw [z71]
  simp +contextual -implicitDefEqProofs (maxSteps := 10000000) (disch := first | (and_intros <;> omega -splitDisjunctions) | (push_cast; and_intros <;> omega -splitDisjunctions) | fail) only [hc, e1, e2, h1, o1, o2, o3, o4, o5, o6, A1, A0, A2, A3, go_sem, seval]
 ·have t1 : (n < (cn : Int)) = False := eq_false h1
  cases loose with
  | false =>
    rw [decide_eq_false (fun k => by rcases hD.1 k with k | k; exact h1 k; cases k.1)]
    unfold run at *
    rw [z71]
    simp +contextual -implicitDefEqProofs (maxSteps := 10000000) (disch := first | (and_intros <;> omega -splitDisjunctions) | (push_cast; and_intros <;> omega -splitDisjunctions) | fail) only [hc, e1, e2, t1, o1, o2, o3, o4, o5, o6, A1, A0, A2, A3, go_sem, seval]
  | true =>
    by_cases h2 : (cn : Int) = n
    ·subst h2
     by_cases h3 : BG s st.pos
     ·rw [decide_eq_true (hD.2 (.inr ⟨rfl, rfl, h3⟩))]
      rw [decide_eq_true h3] at e2
      unfold run at *
      rw [z71]
      simp +contextual -implicitDefEqProofs (maxSteps := 10000000) (disch := first | (and_intros <;> omega -splitDisjunctions) | (push_cast; and_intros <;> omega -splitDisjunctions) | fail) only [hc, e1, e2, t1, o1, o2, o3, o4, o5, o6, A1, A0, A2, A3, go_sem, seval]
     ·rw [decide_eq_false (fun k => by rcases hD.1 k with k | k; exact h1 k; exact h3 k.2.2)]
      rw [decide_eq_false h3] at e2
      unfold run at *
      rw [z71]
      simp +contextual -implicitDefEqProofs (maxSteps := 10000000) (disch := first | (and_intros <;> omega -splitDisjunctions) | (push_cast; and_intros <;> omega -splitDisjunctions) | fail) only [hc, e1, e2, t1, o1, o2, o3, o4, o5, o6, A1, A0, A2, A3, go_sem, seval]
    ·rw [decide_eq_false (fun k => by rcases hD.1 k with k | k; exact h1 k; exact h2 k.2.1)]
     unfold run at *
     rw [z71]
     simp +contextual -implicitDefEqProofs (maxSteps := 10000000) (disch := first | (and_intros <;> omega -splitDisjunctions) | (push_cast; and_intros <;> omega -splitDisjunctions) | fail) only [hc, e1, e2, t1, h2, o1, o2, o3, o4, o5, o6, A1, A0, A2, A3, go_sem, seval]
def TO (G H : LH) (b : Nat) (s : ByteArray) (c : RC) (fr : Bool) (r : RR Nat) (w : V) (B : LH) : Prop :=
 match r with
 | .ok back st => w = .bool true ∧ GoodA G H b s c fr back st B
 | .bad o cd pl => w = .bool false ∧ BadA G H b s c o cd pl B
theorem DG {G H : LH} {b : Nat} {s : ByteArray} {c : RC} {fr : Bool} {la : Int} {st : RS} (h : RAt G H b s c 0 0 fr la st) (hs : s.size ≤ 16777216) (fl : Nat) (hf : fl ≤ G.length) {r : RR Nat} (hm : F4 s fr st = some r) :
 Ret (TO G H b s c fr r) (run 54 [.ptr b 0] fl H) := by
 have hc := h.hp.cell
 have hb := A5 hc
 have hG := h.hp.hG
 have hle := h.le
 have e1 := fun fl H => CW s st.pos fl H (by omega)
 rw [Ay hle] at e1
 have h2 := h.upd (cd' := 0) (pl' := 0) (fr' := fr) (la' := st.pos) hle h.dep
 obtain ⟨o1, o2, o3, o4, o5, o6⟩ := h.hp.o1
 have hcell : LH.cellsAt (H.set b (.cells (rdC s c st.pos st.depth 0 0 fr st.pos))) b = some (rdC s c st.pos st.depth 0 0 fr st.pos) := A1 hb
 generalize hQ : TO G H b s c fr r = Q
 unfold F4 at hm
 by_cases h1 : fr = false ∧ rsB s st.pos = false
 ·rw [if_pos h1] at hm
  cases hm
  obtain ⟨rfl, h1⟩ := h1
  have e2 := fun cd pl fl hf => Ao h2 cd pl fl hf
  have hbad := (Bo h2 (cd := 8) (pl := (rsN s st.pos : Nat)) (by decide)).trans (RFr.set (b := b) (H := H) (c := c))
  unfold rdC at *
  dsimp only at hbad e2
  unfold run at *
  rw [z54]
  simp +contextual -implicitDefEqProofs (maxSteps := 10000000) (disch := first | (and_intros <;> omega -splitDisjunctions) | (push_cast; and_intros <;> omega -splitDisjunctions) | fail) only [hc, hcell, h1, e1, e2, o1, o2, o3, o4, o5, o6, List.set_set, A1, A0, A2, A3, go_sem, seval]
  subst hQ
  simp only [List.set_set] at hbad
  exact ⟨rfl, hbad⟩
 rw [if_neg h1] at hm
 have post : ∀ (w : V) (B : LH) (r1 : RR Unit), E0 s st.pos st = some r1 → PostU G (H.set b (.cells (rdC s c st.pos st.depth 0 0 fr st.pos))) b s c fr st.pos r1 w B → (∃ x, w = .bool x) ∧ TO G H b s c fr r w B := by
  intro w B r1 hr1 hP
  rw [hr1] at hm
  have hP := hP.trans (RFr.set (b := b) (H := H) (c := c))
  cases r1 with
  | ok u st' => cases hm; exact ⟨⟨_, hP.1⟩, hP.1, hP.2⟩
  | bad o cd pl => cases hm; exact ⟨⟨_, hP.1⟩, hP⟩
 obtain ⟨r1, hr1⟩ : ∃ r1, E0 s st.pos st = some r1 := by
  cases hh : E0 s st.pos st with
  | none => rw [hh] at hm; cases hm
  | some r1 => exact ⟨r1, rfl⟩
 obtain ⟨w, B, e3, hP⟩ := CY h2 st.pos hle hs fl hf (r := r1) hr1
 obtain ⟨⟨x, rfl⟩, hP⟩ := post w B r1 hr1 hP
 clear post
 unfold rdC at *
 unfold run at *
 rw [z54]
 cases fr with
 | true =>
   simp +contextual -implicitDefEqProofs (maxSteps := 10000000) (disch := first | (and_intros <;> omega -splitDisjunctions) | (push_cast; and_intros <;> omega -splitDisjunctions) | fail) only [hc, hcell, e1, e3, o1, o2, o3, o4, o5, o6, List.set_set, A1, A0, A2, A3, go_sem, seval]
   subst hQ
   exact hP
 | false =>
   have h1 : rsB s st.pos = true := by
    cases hh : rsB s st.pos with
    | true => rfl
    | false => exact absurd ⟨rfl, hh⟩ h1
   simp +contextual -implicitDefEqProofs (maxSteps := 10000000) (disch := first | (and_intros <;> omega -splitDisjunctions) | (push_cast; and_intros <;> omega -splitDisjunctions) | fail) only [hc, hcell, h1, e1, e3, o1, o2, o3, o4, o5, o6, List.set_set, A1, A0, A2, A3, go_sem, seval]
   subst hQ
   exact hP
theorem K5 {G H : LH} {b : Nat} {s : ByteArray} {c : RC} {fr : Bool} {la : Int} {st : RS} {back : Nat} (h : RAt G H b s c 0 0 fr back st) (k : Nat) (hk : k < st.out.length) (hd : 0 < st.depth) (hbk : back ≤ s.size) (fl : Nat) (hf : fl ≤ G.length) {r : RR Bool} (hm : GQ st k back = some r) :
 Ret (PostB G H b s c r) (run 85 [.ptr b 0, .int .i64 (k : Int)] fl H) := by
 have hG := h.hp.hG
 unfold GQ at hm
 rcases A8 hm with ⟨o, cc, q, m1, m2⟩ | ⟨_, st1, m1, m2⟩
 ·have := (GJ m1).2; cases this
 cases m2
 obtain ⟨w, B, e1, rfl, st2, hst, c', hB, hF⟩ := IQ h k hk hd fl hf m1
 cases hst
 have hcB := hB.hp.cell
 have hbB := A5 hcB
 obtain ⟨p1, p2, p3, p4, p5, p6⟩ := hB.hp.o1
 have hfin := hB.upd (cd' := 0) (pl' := 0) (fr' := true) (la' := back) (p := back) (d := st1.depth) hbk hB.dep
 generalize hQ : PostB G H b s c (.ok true (st1.at back)) = Q
 unfold rdC at *
 unfold run at *
 rw [z85]
 simp +contextual -implicitDefEqProofs (maxSteps := 10000000) (disch := first | (and_intros <;> omega -splitDisjunctions) | (push_cast; and_intros <;> omega -splitDisjunctions) | fail) only [e1, hcB, p1, p2, p3, p4, p5, p6, List.set_set, A1, A0, A2, A3, go_sem, seval]
 subst hQ
 exact ⟨rfl, back, c', hfin, hF.trans RFr.set⟩
open Go.Proofs.YthlbglmfdjdagaaGreatDoor
theorem MR {G H : LH} {b : Nat} {s : ByteArray} {c : RC} {fr : Bool} {la : Int} {st : RS} (h : RAt G H b s c 0 0 fr la st) (p : PR) {e k : Nat} (hk : keyM s st.pos = some (e, k)) (hs : s.size ≤ 1048576) (fl : Nat) (hf : fl ≤ G.length) {r : RR Nat} (hm : J7 s st p = some r) :
 Ret (Ow G H b s c fr la r) (run 83 [.ptr b 0, .agg (prC p)] fl H) := by
 have hs2 : s.size ≤ 16777216 := by omega
 have hc := h.hp.cell
 have hb := A5 hc
 have hG := h.hp.hG
 have hle := h.le
 obtain ⟨kr1, kr2, kr3⟩ := Dx hle hk
 have hL := h.left (L := [.cells (prC p)])
 have hLF : RFr b H c (H ++ [.cells (prC p)]) c := RFr.app
 have e2 := fun fl H => EE s st.pos fl H hle hs2
 rw [hk] at e2
 unfold kyV at e2
 dsimp only at e2
 have e3 := fun q (h : (0 : Int) ≤ q) fl H => Ad s q fl H h (by omega)
 have e6 := fun b fl H => Cj b fl H
 obtain ⟨o1, o2, o3, o4, o5, o6⟩ := h.hp.o1
 generalize hQ : Ow G H b s c fr la r = Q
 unfold J7 at hm
 rw [hk] at hm
 dsimp only [Option.getD_some] at hm
 have fin : ∀ (r1 : RR Unit) (w : V) (B : LH), mb (some r1) (fun _ st' => okM k st') = some r → PostU G (H ++ [.cells (prC p)]) b s c fr la r1 w B → ∃ x, w = .bool x ∧ Q (.tup [.int .i64 (k : Nat), .bool x]) B := by
  intro r1 w B h1 h2
  have h2 := h2.trans hLF
  cases r1 with
  | ok u st' => cases h1; exact ⟨true, h2.1, by rw [← hQ]; exact ⟨rfl, h2.2⟩⟩
  | bad o cd pl => cases h1; exact ⟨false, h2.1, by rw [← hQ]; exact ⟨⟨_, rfl⟩, h2.2⟩⟩
 unfold rdC at hc
 by_cases h3 : bA s st.pos = 42
 ·rw [if_pos h3] at hm
  obtain ⟨r1, hr1⟩ : ∃ r1, CG s st p = some r1 := by
   cases hh : CG s st p with
   | none => rw [hh] at hm; cases hm
   | some r1 => exact ⟨r1, rfl⟩
  rw [hr1] at hm
  obtain ⟨w, B, e1, hP0⟩ := Ci hL p hs2 fl hf hr1
  obtain ⟨x, rfl, hP⟩ := fin _ _ _ hm hP0
  clear fin hP0
  unfold prC at *
  unfold run at *
  rw [z83]
  simp +contextual -implicitDefEqProofs (maxSteps := 10000000) (disch := first | (and_intros <;> omega -splitDisjunctions) | (push_cast; and_intros <;> omega -splitDisjunctions) | fail) only [hc, e1, e2, e3, h3, o1, o2, o3, o4, o5, o6, A1, A0, A2, A3, go_sem, seval]
  exact hP
 rw [if_neg h3] at hm
 by_cases h4 : quoB (bA s st.pos)
 ·rw [if_pos h4] at hm
  have hlt : st.pos < s.size := by rcases h4 with k | k <;> exact Ai k (by omega)
  obtain ⟨r1, hr1⟩ : ∃ r1, CO s st p = some r1 := by
   cases hh : CO s st p with
   | none => rw [hh] at hm; cases hm
   | some r1 => exact ⟨r1, rfl⟩
  rw [hr1] at hm
  obtain ⟨w, B, e1, hP0⟩ := Bz hL p hlt hs2 fl hf hr1
  obtain ⟨x, rfl, hP⟩ := fin _ _ _ hm hP0
  clear fin hP0
  unfold prC at *
  unfold run at *
  rw [z83]
  simp +contextual -implicitDefEqProofs (maxSteps := 10000000) (disch := first | (and_intros <;> omega -splitDisjunctions) | (push_cast; and_intros <;> omega -splitDisjunctions) | fail) only [hc, e1, e2, e3, e6, h3, h4, o1, o2, o3, o4, o5, o6, A1, A0, A2, A3, go_sem, seval]
  exact hP
 rw [if_neg h4] at hm
 obtain ⟨r1, hr1⟩ : ∃ r1, E6 st 1 (s.extract st.pos e) p = some r1 := by
  cases hh : E6 st 1 (s.extract st.pos e) p with
  | none => rw [hh] at hm; cases hm
  | some r1 => exact ⟨r1, rfl⟩
 rw [hr1] at hm
 obtain ⟨⟨t1, t2⟩, t3⟩ := Aq hr1
 obtain ⟨w, B, e1, rfl, c', hB, hF⟩ := Br hL 1 (s.extract st.pos e) p t1 t2 fl hf
 subst t3
 obtain ⟨x, hx, hP⟩ := fin _ (.bool true) B hm ⟨rfl, c', hB, hF⟩
 cases hx
 clear fin
 have hpe : st.pos ≤ e := by omega
 have hes : e ≤ s.size := by omega
 unfold prC at *
 unfold run at *
 rw [z83]
 simp +contextual -implicitDefEqProofs (maxSteps := 10000000) (disch := first | (and_intros <;> omega -splitDisjunctions) | (push_cast; and_intros <;> omega -splitDisjunctions) | fail) only [hc, e1, e2, e3, e6, h3, h4, hpe, hes, o1, o2, o3, o4, o5, o6, A1, A0, A2, A3, go_sem, seval]
 exact hP
def FU (G : LH) (b : Nat) (s : ByteArray) (rec : Int → Bool → Bool → RS → Option (RR Bool)) : Prop :=
 ∀ (H : LH) (c : RC) (fr : Bool) (la : Int) (st : RS) (n : Int) (inl loose : Bool) (fl : Nat) (r : RR Bool), RAt G H b s c 0 0 fr la st → fl ≤ G.length → rec n inl loose st = some r → Ret (PostB G H b s c r) (run 63 [.ptr b 0, .int .i64 n, .bool inl, .bool loose] fl H)
theorem PostB.bool {G H : LH} {b : Nat} {s : ByteArray} {c : RC} {r : RR Bool} {w : V} {B : LH} (h : PostB G H b s c r w B) : ∃ x, w = .bool x := by
 cases r with
 | ok _ _ => exact ⟨true, h.1⟩
 | bad _ _ _ => exact ⟨false, h.1⟩
theorem EJ {rec : Int → Bool → Bool → RS → Option (RR Bool)} {G H : LH} {b : Nat} {s : ByteArray} {c : RC} {fr : Bool} {la : Int} {st : RS} (IH : FU G b s rec) (h : RAt G H b s c 0 0 fr la st) (sign cc : Nat) (list : Bool) (hsg : sign + 1 ≤ s.size) (hs : s.size ≤ 1048576) (fl : Nat) (hf : fl ≤ G.length) {r : RR Bool} (hm : valM s rec sign cc list st = some r) :
 Ret (PostB G H b s c r) (run 84 [.ptr b 0, .int .i64 (sign : Int), .int .i64 (cc : Int), .bool list] fl H) := by
 have hs2 : s.size ≤ 16777216 := by omega
 have hc := h.hp.cell
 have hb := A5 hc
 have hG := h.hp.hG
 have hp1 : ((sign + 1 : Nat) : Int) = (sign : Int) + 1 := by omega
 have e1 := fun fl H => CW s ((sign + 1 : Nat) : Int) fl H (by omega)
 rw [Ay hsg, hp1] at e1
 have w1 := Bm hsg
 have rr := Ch hsg
 have e2 := fun fl H => AJ s (sign + 1) fl H hsg (by omega)
 rw [hp1] at e2
 obtain ⟨o1, o2, o3, o4, o5, o6⟩ := h.hp.o1
 generalize hQ : PostB G H b s c r = Q
 unfold valM at hm
 by_cases h1 : rsB s (sign + 1) = false
 ·rw [if_pos h1] at hm
  have h2 := h.upd (cd' := 0) (pl' := 0) (fr' := fr) (la' := la) w1 h.dep
  obtain ⟨w, B, e3, hP⟩ := IH _ _ _ _ _ _ _ _ fl r h2 hf hm
  obtain ⟨x, rfl⟩ := hP.bool
  have hP := hP.trans (RFr.set (b := b) (H := H) (c := c))
  rw [hQ] at hP
  unfold rdC at *
  unfold run at *
  rw [z84]
  cases list with
  | true =>
    rw [Bool.not_true] at e3
    simp +contextual -implicitDefEqProofs (maxSteps := 10000000) (disch := first | (and_intros <;> omega -splitDisjunctions) | (push_cast; and_intros <;> omega -splitDisjunctions) | fail) only [hc, h1, e1, e2, e3, o1, o2, o3, o4, o5, o6, A1, A0, A2, A3, go_sem, seval]
    exact hP
  | false =>
    rw [Bool.not_false] at e3
    simp +contextual -implicitDefEqProofs (maxSteps := 10000000) (disch := first | (and_intros <;> omega -splitDisjunctions) | (push_cast; and_intros <;> omega -splitDisjunctions) | fail) only [hc, h1, e1, e2, e3, o1, o2, o3, o4, o5, o6, A1, A0, A2, A3, go_sem, seval]
    exact hP
 rw [if_neg h1] at hm
 have h1 : rsB s (sign + 1) = true := by simpa using h1
 rcases A8 hm with ⟨o, cd, pl, m1, rfl⟩ | ⟨_, st1, m1, hm⟩
 ·obtain ⟨w, B, e3, rfl, hbad⟩ := CY h (sign + 1) hsg hs2 fl hf m1
  rw [hp1] at e3
  unfold rdC at *
  unfold run at *
  rw [z84]
  simp +contextual -implicitDefEqProofs (maxSteps := 10000000) (disch := first | (and_intros <;> omega -splitDisjunctions) | (push_cast; and_intros <;> omega -splitDisjunctions) | fail) only [hc, h1, e1, e3, o1, o2, o3, o4, o5, o6, A1, A0, A2, A3, go_sem, seval]
  subst hQ
  exact ⟨rfl, hbad⟩
 obtain ⟨w, B, e3, rfl, c1, hB, hF⟩ := CY h (sign + 1) hsg hs2 fl hf m1
 rw [hp1] at e3
 have hcB := hB.hp.cell
 have hbB := A5 hcB
 obtain ⟨p1, p2, p3, p4, p5, p6⟩ := hB.hp.o1
 have e4 := By hB st1.pos hB.le hs2 fl hf
 have e5 := HE hB cc (!list) hs2 fl hf
 by_cases h2 : Aw s st1.pos ∨ ¬ EV s st1.pos cc (!list)
 ·rw [if_pos h2] at hm
  obtain ⟨w, C, e6, rfl, st2, rfl, c2, hC, hF2⟩ := E4 hB pr0 (rsN s (sign + 1)) rr.2 fl hf hm
  have hP : Q (.bool true) C := by rw [← hQ]; exact ⟨rfl, la, c2, hC, hF.trans hF2⟩
  clear hQ
  have e6 : run 65 [.ptr b 0, .agg [.bool false, .str ⟨#[]⟩, .str ⟨#[]⟩, .int .i64 0, .int .i64 0], .int .i64 (rsN s (sign + 1) : Nat)] fl B = some (und, C) := e6
  unfold rdC at *
  unfold run at *
  rw [z84]
  by_cases h3 : Aw s st1.pos
  ·simp +contextual -implicitDefEqProofs (maxSteps := 10000000) (disch := first | (and_intros <;> omega -splitDisjunctions) | (push_cast; and_intros <;> omega -splitDisjunctions) | fail) only [hc, hcB, h1, h3, e1, e3, e4, e6, o1, o2, o3, o4, o5, o6, p1, p2, p3, p4, p5, p6, A1, A0, A2, A3, go_sem, seval]
   exact hP
  ·have h4 := h2.resolve_left h3
   rw [decide_eq_false h4] at e5
   cases list with
   | true =>
     rw [Bool.not_true] at e5
     simp +contextual -implicitDefEqProofs (maxSteps := 10000000) (disch := first | (and_intros <;> omega -splitDisjunctions) | (push_cast; and_intros <;> omega -splitDisjunctions) | fail) only [hc, hcB, h1, h3, e1, e3, e4, e5, e6, o1, o2, o3, o4, o5, o6, p1, p2, p3, p4, p5, p6, A1, A0, A2, A3, go_sem, seval]
     exact hP
   | false =>
     rw [Bool.not_false] at e5
     simp +contextual -implicitDefEqProofs (maxSteps := 10000000) (disch := first | (and_intros <;> omega -splitDisjunctions) | (push_cast; and_intros <;> omega -splitDisjunctions) | fail) only [hc, hcB, h1, h3, e1, e3, e4, e5, e6, o1, o2, o3, o4, o5, o6, p1, p2, p3, p4, p5, p6, A1, A0, A2, A3, go_sem, seval]
     exact hP
 ·rw [if_neg h2] at hm
  have h3 : ¬ Aw s st1.pos := fun k => h2 (.inl k)
  have h4 : EV s st1.pos cc (!list) := Classical.byContradiction fun k => h2 (.inr k)
  rw [decide_eq_true h4] at e5
  obtain ⟨w, C, e6, hP⟩ := IH _ _ _ _ _ _ _ _ fl r hB hf hm
  obtain ⟨x, rfl⟩ := hP.bool
  have hP := hP.trans hF
  rw [hQ] at hP
  unfold rdC at *
  unfold run at *
  rw [z84]
  cases list with
  | true =>
    rw [Bool.not_true] at e5 e6
    simp +contextual -implicitDefEqProofs (maxSteps := 10000000) (disch := first | (and_intros <;> omega -splitDisjunctions) | (push_cast; and_intros <;> omega -splitDisjunctions) | fail) only [hc, hcB, h1, h3, e1, e3, e4, e5, e6, o1, o2, o3, o4, o5, o6, p1, p2, p3, p4, p5, p6, A1, A0, A2, A3, go_sem, seval]
    exact hP
  | false =>
    rw [Bool.not_false] at e5 e6
    simp +contextual -implicitDefEqProofs (maxSteps := 10000000) (disch := first | (and_intros <;> omega -splitDisjunctions) | (push_cast; and_intros <;> omega -splitDisjunctions) | fail) only [hc, hcB, h1, h3, e1, e3, e4, e5, e6, o1, o2, o3, o4, o5, o6, p1, p2, p3, p4, p5, p6, A1, A0, A2, A3, go_sem, seval]
    exact hP
open Go.Proofs.YthlbglmfdjdagaaGreatDoor
theorem JD (s : ByteArray) (w first : Nat) : ∀ (d a : Nat) (l : List ByteArray), a ≤ s.size → a ≤ (Fu s w first d a l).2 ∧ (Fu s w first d a l).2 ≤ s.size
 | 0, a, l, h => ⟨Nat.le_refl _, h⟩
 | d + 1, a, l, h => by
   rw [Lb]
   by_cases h1 : (a < s.size ∧ Ah s a = 0) ∧ (lonB s a = true ∨ w ≤ indN s a)
   ·rw [if_pos h1]
    have l1 := B4 h; have l2 := Be h
    have b1 := Da l2
    have := JD s w first d (bhN s (endN s a)) (l ++ [if first ≤ a ∧ (lonB s a = false ∨ w < indN s a) then s.extract (a + w) (endN s a) else ⟨#[]⟩]) b1.2.1
    omega
   ·rw [if_neg h1]; exact ⟨Nat.le_refl _, h⟩
theorem Df {s : ByteArray} {p : Nat} {n : Int} (hp : p ≤ s.size) (h : (AG s p n).2.2 = 0) : (p : Int) < (AG s p n).2.1 ∧ (AG s p n).2.1 ≤ s.size := by
 unfold AG at *
 by_cases h1 : (AN s p).2.2.2 ≠ 0
 ·rw [if_pos h1] at h; exact absurd h h1
 ·rw [if_neg h1] at h ⊢
  have h0 : bA s p = 124 ∨ bA s p = 62 := by
   refine Classical.byContradiction fun k => h1 ?_
   unfold AN
   rw [if_neg k]
   show (10 : Int) ≠ 0
   decide
  have hlt : p < s.size := by rcases h0 with k | k <;> exact Ai k (by omega)
  have hm : AN s p = hdGo s (s.size + 2) (p + 1) 0 0 false := if_pos h0
  have hr := Ij s (s.size + 2) (p + 1) 0 0 false (by omega) (by omega) (Int.le_refl _) (by decide) (Int.le_refl _) (by decide)
  rw [← hm] at hr
  have hb := Da hr.2.2.2.1
  have := JD s (litW s n (AN s p).1 (bhN s (AN s p).2.2.1)).1 (litW s n (AN s p).1 (bhN s (AN s p).2.2.1)).2 (s.size + 1) (bhN s (AN s p).2.2.1) [] hb.2.1
  dsimp only
  omega
theorem HH {m : Nat} {G H : LH} {b : Nat} {s : ByteArray} {c : RC} {fr : Bool} {la : Int} {st : RS} (h : RAt G H b s c 0 0 fr la st) (p : PR) (n : Int) (hs : s.size ≤ 1048576) (fl : Nat) (hf : fl ≤ G.length) {r : RR Bool} (hm : H6 s m st p n = some r) :
 Ret (PostB G H b s c r) (run 76 [.ptr b 0, .agg (prC p), .int .i64 n] fl H) := by
 have hs2 : s.size ≤ 16777216 := by omega
 have hc := h.hp.cell
 have hb := A5 hc
 have hG := h.hp.hG
 have hle := h.le
 have h0 := h.upd (cd' := 0) (pl' := 0) (fr' := false) (la' := la) hle h.dep
 have hL := h0.left (L := [.cells (prC p)])
 have hLF : RFr b H c (H.set b (.cells (rdC s c st.pos st.depth 0 0 false la)) ++ [.cells (prC p)]) c := RFr.set.trans RFr.app
 have hcL := hL.hp.cell
 have e3 := fun q (h : (0 : Int) ≤ q) fl H => Ad s q fl H h (by omega)
 have e6 := fun b fl H => Cj b fl H
 have e7 := fun fl H => B6 s st.pos false fl H (by omega)
 rw [Ay hle] at e7
 have e4 := fun fl H => IB s st.pos n fl H hle hs2
 obtain ⟨o1, o2, o3, o4, o5, o6⟩ := h.hp.o1
 generalize hQ : PostB G H b s c r = Q
 unfold H6 at hm
 dsimp only at hcL
 by_cases h1 : bA s st.pos = 124 ∨ bA s st.pos = 62
 ·rw [if_pos h1] at hm
  have hrng := Df (n := n) hle
  unfold litM at hm
  unfold t3V at e4
  generalize AG s st.pos n = lt at *
  obtain ⟨ltt, lte, ltc⟩ := lt
  dsimp only at *
  by_cases h2 : ltc ≠ 0
  ·rw [if_pos h2] at hm
   cases hm
   have e8 := fun fl hf => Ao hL ltc lte fl hf
   have hbad := (Bo hL (cd := ltc) (pl := lte) h2).trans hLF
   dsimp only at e8 hbad
   have hb2 : b < (H.set b (.cells (rdC s c st.pos st.depth 0 0 false la))).length := by rw [List.length_set]; exact hb
   rw [A3 hb2, List.set_set] at hbad
   simp only [A3 hb2, List.set_set] at e8
   unfold rdC prC at *
   unfold run at *
   rw [z76]
   rcases h1 with h1 | h1
   ·simp +contextual -implicitDefEqProofs (maxSteps := 10000000) (disch := first | (and_intros <;> omega -splitDisjunctions) | (push_cast; and_intros <;> omega -splitDisjunctions) | fail) only [hc, hcL, h1, h2, e3, e4, e8, o1, o2, o3, o4, o5, o6, A1, A0, A2, A3, go_sem, seval]
    subst hQ
    exact ⟨rfl, hbad⟩
   ·simp +contextual -implicitDefEqProofs (maxSteps := 10000000) (disch := first | (and_intros <;> omega -splitDisjunctions) | (push_cast; and_intros <;> omega -splitDisjunctions) | fail) only [hc, hcL, h1, h2, e3, e4, e8, o1, o2, o3, o4, o5, o6, A1, A0, A2, A3, go_sem, seval]
    subst hQ
    exact ⟨rfl, hbad⟩
  ·rw [if_neg h2] at hm
   have h2 : ltc = 0 := by simpa using h2
   subst h2
   obtain ⟨r1, r2⟩ := hrng rfl
   rcases A8 hm with ⟨o, cc, q, m1, rfl⟩ | ⟨a, st', m1, m2⟩
   ·have := (Aq m1).2; cases this
   obtain ⟨⟨t1, t2⟩, t3⟩ := Aq m1
   cases t3
   cases m2
   obtain ⟨w, B, e9, rfl, c', k3, k4⟩ := Br hL (if bA s st.pos = 62 then 5 else 4) ltt p t1 t2 fl hf
   have k4 := hLF.trans k4
   have hcB := k3.hp.cell
   have hbB := A5 hcB
   obtain ⟨p1, p2, p3, p4, p5, p6⟩ := k3.hp.o1
   have hfin := k3.upd (cd' := 0) (pl' := 0) (fr' := true) (la' := la) (p := lte.toNat) (d := (RS.tell ⟨st.pos, st.out, st.names, st.ended, st.hands, st.depth⟩ (evN 5 (if bA s st.pos = 62 then 5 else 4) false ltt p.anchor p.tag)).depth) (by omega) k3.dep
   have hcast : ((lte.toNat : Nat) : Int) = lte := by omega
   have hst : (⟨st.pos, st.out, st.names, st.ended, st.hands, st.depth⟩ : RS) = st := rfl
   rw [hst] at *
   generalize hgt : RS.tell st (evN 5 (if bA s st.pos = 62 then 5 else 4) false ltt p.anchor p.tag) = stt at *
   unfold rdC prC at *
   rw [hcast] at hfin
   unfold run at *
   rw [z76]
   rcases h1 with h1 | h1
   ·rw [h1] at e9
    simp +contextual -implicitDefEqProofs (maxSteps := 10000000) (disch := first | (and_intros <;> omega -splitDisjunctions) | (push_cast; and_intros <;> omega -splitDisjunctions) | fail) only [Int.reduceEq, if_false] at e9
    simp +contextual -implicitDefEqProofs (maxSteps := 10000000) (disch := first | (and_intros <;> omega -splitDisjunctions) | (push_cast; and_intros <;> omega -splitDisjunctions) | fail) only [hc, hcL, hcB, h1, e3, e4, e9, o1, o2, o3, o4, o5, o6, p1, p2, p3, p4, p5, p6, List.set_set, A1, A0, A2, A3, go_sem, seval]
    subst hQ
    exact ⟨rfl, la, c', hfin, k4.trans RFr.set⟩
   ·rw [h1] at e9
    simp +contextual -implicitDefEqProofs (maxSteps := 10000000) (disch := first | (and_intros <;> omega -splitDisjunctions) | (push_cast; and_intros <;> omega -splitDisjunctions) | fail) only [if_true] at e9
    simp +contextual -implicitDefEqProofs (maxSteps := 10000000) (disch := first | (and_intros <;> omega -splitDisjunctions) | (push_cast; and_intros <;> omega -splitDisjunctions) | fail) only [hc, hcL, hcB, h1, e3, e4, e9, o1, o2, o3, o4, o5, o6, p1, p2, p3, p4, p5, p6, List.set_set, A1, A0, A2, A3, go_sem, seval]
    subst hQ
    exact ⟨rfl, la, c', hfin, k4.trans RFr.set⟩
 rw [if_neg h1] at hm
 have ha : ¬ bA s st.pos = 124 := fun k => h1 (.inl k)
 have hb6 : ¬ bA s st.pos = 62 := fun k => h1 (.inr k)
 have fin : ∀ (r1 : RR Unit) (w : V) (B : LH), mb (some r1) (fun _ st => okM false st) = some r → PostU G (H.set b (.cells (rdC s c st.pos st.depth 0 0 false la)) ++ [.cells (prC p)]) b s c false la r1 w B → Q w B := by
  intro r1 w B h1 h2
  have h2 := h2.trans hLF
  cases r1 with
  | ok u st' => cases h1; rw [← hQ]; exact ⟨h2.1, la, h2.2⟩
  | bad o cd pl => cases h1; rw [← hQ]; exact h2
 have some1 : ∀ (x : Option (RR Unit)), mb x (fun _ st => okM false st) = some r → ∃ r1, x = some r1 := fun x k => by
  cases x with
  | none => cases k
  | some r1 => exact ⟨r1, rfl⟩
 by_cases h2 : bA s st.pos = 91 ∨ bA s st.pos = 123
 ·rw [if_pos h2] at hm
  obtain ⟨r1, hr1⟩ := some1 _ hm
  rw [hr1] at hm
  obtain ⟨w, B, e1, hP0⟩ := Fn (Pw hs m) (Id s m) hL p m hs fl hf hr1
  have hP := fin _ _ _ hm hP0
  clear fin hP0 some1
  unfold rdC prC at *
  unfold run at *
  rw [z76]
  rcases h2 with h2 | h2
  ·simp +contextual -implicitDefEqProofs (maxSteps := 10000000) (disch := first | (and_intros <;> omega -splitDisjunctions) | (push_cast; and_intros <;> omega -splitDisjunctions) | fail) only [hc, hcL, e1, e3, h2, o1, o2, o3, o4, o5, o6, A1, A0, A2, A3, go_sem, seval]
   exact hP
  ·simp +contextual -implicitDefEqProofs (maxSteps := 10000000) (disch := first | (and_intros <;> omega -splitDisjunctions) | (push_cast; and_intros <;> omega -splitDisjunctions) | fail) only [hc, hcL, e1, e3, h2, o1, o2, o3, o4, o5, o6, A1, A0, A2, A3, go_sem, seval]
   exact hP
 rw [if_neg h2] at hm
 have h91 : ¬ bA s st.pos = 91 := fun k => h2 (.inl k)
 have h123 : ¬ bA s st.pos = 123 := fun k => h2 (.inr k)
 by_cases h3 : bA s st.pos = 42
 ·rw [if_pos h3] at hm
  obtain ⟨r1, hr1⟩ := some1 _ hm
  rw [hr1] at hm
  obtain ⟨w, B, e1, hP0⟩ := Ci hL p hs2 fl hf hr1
  have hP := fin _ _ _ hm hP0
  clear fin hP0 some1
  unfold rdC prC at *
  unfold run at *
  rw [z76]
  simp +contextual -implicitDefEqProofs (maxSteps := 10000000) (disch := first | (and_intros <;> omega -splitDisjunctions) | (push_cast; and_intros <;> omega -splitDisjunctions) | fail) only [hc, hcL, e1, e3, h3, o1, o2, o3, o4, o5, o6, A1, A0, A2, A3, go_sem, seval]
  exact hP
 rw [if_neg h3] at hm
 by_cases h4 : quoB (bA s st.pos)
 ·rw [if_pos h4] at hm
  have hlt : st.pos < s.size := by rcases h4 with k | k <;> exact Ai k (by omega)
  obtain ⟨r1, hr1⟩ := some1 _ hm
  rw [hr1] at hm
  obtain ⟨w, B, e1, hP0⟩ := Bz hL p hlt hs2 fl hf hr1
  have hP := fin _ _ _ hm hP0
  clear fin hP0 some1
  unfold rdC prC at *
  unfold run at *
  rw [z76]
  simp +contextual -implicitDefEqProofs (maxSteps := 10000000) (disch := first | (and_intros <;> omega -splitDisjunctions) | (push_cast; and_intros <;> omega -splitDisjunctions) | fail) only [hc, hcL, e1, e3, e6, ha, hb6, h91, h123, h3, h4, o1, o2, o3, o4, o5, o6, A1, A0, A2, A3, go_sem, seval]
  exact hP
 rw [if_neg h4] at hm
 by_cases h5 : pfB s st.pos false = true
 ·rw [if_pos h5] at hm
  obtain ⟨r1, hr1⟩ := some1 _ hm
  rw [hr1] at hm
  obtain ⟨w, B, e1, hP0⟩ := DH hL p n false h5 hs2 fl hf hr1
  have hP := fin _ _ _ hm hP0
  clear fin hP0 some1
  unfold rdC prC at *
  unfold run at *
  rw [z76]
  simp +contextual -implicitDefEqProofs (maxSteps := 10000000) (disch := first | (and_intros <;> omega -splitDisjunctions) | (push_cast; and_intros <;> omega -splitDisjunctions) | fail) only [hc, hcL, e1, e3, e6, e7, ha, hb6, h91, h123, h3, h4, h5, o1, o2, o3, o4, o5, o6, A1, A0, A2, A3, go_sem, seval]
  exact hP
 rw [if_neg h5] at hm
 have h5 : pfB s st.pos false = false := by simpa using h5
 cases hm
 have e8 := fun fl hf => Ao hL 10 st.pos fl hf
 have hbad := (Bo hL (cd := 10) (pl := st.pos) (by decide)).trans hLF
 dsimp only at e8 hbad
 have hb2 : b < (H.set b (.cells (rdC s c st.pos st.depth 0 0 false la))).length := by rw [List.length_set]; exact hb
 rw [A3 hb2, List.set_set] at hbad
 simp only [A3 hb2, List.set_set] at e8
 clear fin some1
 unfold rdC prC at *
 unfold run at *
 rw [z76]
 simp +contextual -implicitDefEqProofs (maxSteps := 10000000) (disch := first | (and_intros <;> omega -splitDisjunctions) | (push_cast; and_intros <;> omega -splitDisjunctions) | fail) only [hc, hcL, e3, e6, e7, e8, ha, hb6, h91, h123, h3, h4, h5, o1, o2, o3, o4, o5, o6, A1, A0, A2, A3, go_sem, seval]
 subst hQ
 exact ⟨rfl, hbad⟩
def KpB (s : ByteArray) (rec : Int → Bool → Bool → RS → Option (RR Bool)) : Prop := ∀ n i l st st' u, rec n i l st = some (.ok u st') → st.pos ≤ s.size → Kp s st st'
theorem MI {s : ByteArray} {p : Nat} {st st' : RS} {u : Unit} (h : E0 s p st = some (.ok u st')) (h1 : st.pos ≤ p) (h2 : p ≤ s.size) : Kp s st st' ∧ p ≤ st'.pos := by
 have := Qs h
 subst this
 have := CH s p
 exact ⟨Kp.at (by omega) (BL h2), this⟩
theorem KB {s : ByteArray} {st st' : RS} {p : PR} {colon e k : Nat} (h : J7 s st p = some (.ok colon st')) (hk : keyM s st.pos = some (e, k)) (hp : st.pos ≤ s.size) : Kp s st st' ∧ colon = k ∧ st'.pos ≤ k := by
 have hr := Dx hp hk
 have hke : keyE s st.pos = some e := by
  unfold keyM at hk
  cases h1 : keyE s st.pos with
  | none => rw [h1] at hk; cases hk
  | some x =>
    rw [h1] at hk
    dsimp only at hk
    by_cases c1 : st.pos + 1000 < x
    ·rw [if_pos c1] at hk; cases hk
    ·rw [if_neg c1] at hk
     by_cases c2 : bA s (wtN s x) = 58 ∧ gapP s (wtN s x + 1 : Nat)
     ·rw [if_pos c2] at hk; cases hk; rfl
     ·rw [if_neg c2] at hk; cases hk
 unfold J7 at h
 rw [hk] at h
 dsimp only [Option.getD_some] at h
 rcases A8 h with ⟨o, c, q, m1, m2⟩ | ⟨_, st1, m1, m2⟩
 ·cases m2
 cases m2
 by_cases h1 : bA s st.pos = 42
 ·rw [if_pos h1] at m1
  have ka := BU m1 hp
  refine ⟨ka.1, rfl, ?_⟩
  have hpos : st'.pos = (AP s st.pos).2.1 := by
   unfold CG at m1
   by_cases a1 : (AP s st.pos).2.2 = false
   ·rw [if_pos a1] at m1; cases m1
   rw [if_neg a1] at m1
   by_cases a2 : p.has = true
   ·rw [if_pos a2] at m1; cases m1
   rw [if_neg a2] at m1
   cases h3 : Ct st.names (AP s st.pos).1 with
   | none => rw [h3] at m1; cases m1
   | some k =>
     rw [h3] at m1
     dsimp only at m1
     by_cases h4 : st.ended.getD k false = false
     ·rw [if_pos h4] at m1; cases m1
     ·rw [if_neg h4] at m1
      rcases A8 m1 with ⟨o, c, q, n1, n2⟩ | ⟨a, st2, n1, n2⟩
      ·cases n2
      ·cases n2; rfl
  unfold keyE at hke
  rw [if_pos h1] at hke
  by_cases a1 : (AP s st.pos).2.2 = true
  ·rw [if_pos a1] at hke; cases hke; omega
  ·rw [if_neg a1] at hke; cases hke
 rw [if_neg h1] at m1
 by_cases h2 : quoB (bA s st.pos)
 ·rw [if_pos h2] at m1
  have ka := BZ m1 hp
  refine ⟨ka.1, rfl, ?_⟩
  have hpos : st'.pos = (Cg s st.pos).2.1.toNat := by
   unfold CO at m1
   by_cases a1 : (Cg s st.pos).2.2 ≠ 0
   ·rw [if_pos a1] at m1; cases m1
   rw [if_neg a1] at m1
   rcases A8 m1 with ⟨o, c, q, n1, n2⟩ | ⟨a, st2, n1, n2⟩
   ·cases n2
   ·cases n2; rfl
  unfold keyE at hke
  rw [if_neg h1] at hke
  rcases h2 with h2 | h2
  ·rw [if_pos h2] at hke
   have : Cg s st.pos = AS s st.pos := if_neg (by rw [h2]; decide)
   rw [this] at hpos
   by_cases c : (AS s st.pos).2.2 = 0 ∧ (AS s st.pos).2.1 ≤ endN s st.pos
   ·rw [if_pos c] at hke; cases hke; omega
   ·rw [if_neg c] at hke; cases hke
  ·rw [if_neg (by rw [h2]; decide), if_pos h2] at hke
   have : Cg s st.pos = AR s st.pos := if_pos h2
   rw [this] at hpos
   by_cases c : (AR s st.pos).2.2 = 0 ∧ (AR s st.pos).2.1 ≤ endN s st.pos
   ·rw [if_pos c] at hke; cases hke; omega
   ·rw [if_neg c] at hke; cases hke
 rw [if_neg h2] at m1
 have := D1 m1 hp
 exact ⟨this.1, rfl, by omega⟩
theorem Qm {s : ByteArray} {st st' : RS} {p : PR} {fin : Nat} {u : Bool} (h : GY st p fin = some (.ok u st')) (h1 : st.pos ≤ s.size) (h2 : fin ≤ s.size) : st'.depth = st.depth ∧ st.out.length ≤ st'.out.length ∧ st'.pos = fin := by
 unfold GY at h
 rcases A8 h with ⟨o, c, q, m1, m2⟩ | ⟨_, st1, m1, m2⟩
 ·cases m2
 cases m2
 have := (D1 m1 h1).1
 exact ⟨this.dep, this.out, rfl⟩
theorem HN {s : ByteArray} {rec : Int → Bool → Bool → RS → Option (RR Bool)} (hrec : KpB s rec) {sign c : Nat} {list : Bool} {st st' : RS} {u : Bool} (h : valM s rec sign c list st = some (.ok u st')) (h1 : st.pos ≤ sign + 1) (h2 : sign + 1 ≤ s.size) : Kp s st st' ∧ sign + 1 ≤ st'.pos := by
 unfold valM at h
 by_cases a1 : rsB s (sign + 1) = false
 ·rw [if_pos a1] at h
  have w1 := B8 s (sign + 1); have w2 := Bm h2
  have := hrec _ _ _ _ _ _ h w2
  have k0 : Kp s st (st.at (wtN s (sign + 1))) := Kp.at (by omega) w2
  have kp := this.pos
  exact ⟨k0.trans this, by have e : (st.at (wtN s (sign + 1))).pos = wtN s (sign + 1) := rfl; omega⟩
 rw [if_neg a1] at h
 rcases A8 h with ⟨o, cc, q, m1, m2⟩ | ⟨_, st1, m1, h⟩
 ·cases m2
 obtain ⟨k1, k2⟩ := MI m1 h1 h2
 by_cases a2 : Aw s st1.pos ∨ ¬ EV s st1.pos c (!list)
 ·rw [if_pos a2] at h
  have rr := Ch h2
  have := Qm h k1.le rr.2
  have kd := k1.dep; have ko := k1.out
  exact ⟨⟨by omega, by omega, by omega, by omega⟩, by omega⟩
 ·rw [if_neg a2] at h
  have := hrec _ _ _ _ _ _ h k1.le
  have kp := this.pos
  exact ⟨k1.trans this, by omega⟩
theorem F5 {s : ByteArray} {fr : Bool} {st st' : RS} {back : Nat} (h : F4 s fr st = some (.ok back st')) (hp : st.pos ≤ s.size) : Kp s st st' ∧ back = st.pos := by
 unfold F4 at h
 by_cases a1 : fr = false ∧ rsB s st.pos = false
 ·rw [if_pos a1] at h; cases h
 rw [if_neg a1] at h
 rcases A8 h with ⟨o, cc, q, m1, m2⟩ | ⟨_, st1, m1, m2⟩
 ·cases m2
 cases m2
 exact ⟨(MI m1 (Nat.le_refl _) hp).1, rfl⟩
theorem Pg {st st' : RS} {k back : Nat} {u : Bool} (h : GQ st k back = some (.ok u st')) : st'.depth = st.depth - 1 ∧ st'.out.length = st.out.length + 1 ∧ st'.pos = back := by
 unfold GQ at h
 rcases A8 h with ⟨o, cc, q, m1, m2⟩ | ⟨_, st1, m1, m2⟩
 ·cases m2
 cases m2
 have := LC (s := ⟨#[]⟩) m1
 exact ⟨this.1, this.2.1, rfl⟩
theorem HV {s : ByteArray} {rec : Int → Bool → Bool → RS → Option (RR Bool)} {c k d : Nat} {st : RS} {own : PR} : G5 s rec c k (d + 1) st own = mb (J7 s st own) fun colon st => mb (valM s rec colon c false st) fun free st => mb (F4 s free st) fun back st =>
 if Aw s st.pos ∨ colN s st.pos < c then GQ st k back
 else if c < colN s st.pos then badM st 9 st.pos
 else mb (CN s false st) fun own st => if (keyM s st.pos).isSome = true then G5 s rec c k d st own else badM st 10 st.pos := rfl
theorem G4 {s : ByteArray} {rec : Int → Bool → Bool → RS → Option (RR Bool)} {c k d : Nat} {st : RS} : DT s rec c k (d + 1) st = mb (valM s rec st.pos c true st) fun free st => mb (F4 s free st) fun back st =>
 if Aw s st.pos ∨ colN s st.pos < c ∨ (colN s st.pos = c ∧ ¬ BG s st.pos) then GQ st k back
 else if c < colN s st.pos then badM st 9 st.pos
 else DT s rec c k d st := rfl
theorem OR {s : ByteArray} {rec : Int → Bool → Bool → RS → Option (RR Bool)} (hrec : KpB s rec) (c k : Nat) : ∀ (d : Nat) {st st' : RS} {own : PR} {u : Bool}, G5 s rec c k d st own = some (.ok u st') → st.pos ≤ s.size → (keyM s st.pos).isSome = true →
 st'.depth = st.depth - 1 ∧ st.out.length ≤ st'.out.length ∧ st.pos < st'.pos ∧ st'.pos ≤ s.size := by
 intro d
 induction d with
 | zero => intro st st' own u h; cases h
 | succ d ih =>
   intro st st' own u h hp hky
   obtain ⟨⟨e, kk⟩, hk⟩ := Option.isSome_iff_exists.1 hky
   have hr := Dx hp hk
   rw [HV] at h
   rcases A8 h with ⟨o, cc, q, m1, m2⟩ | ⟨colon, st1, m1, h⟩
   ·cases m2
   obtain ⟨k1, k2, k3⟩ := KB m1 hk hp
   subst k2
   rcases A8 h with ⟨o, cc, q, m2, m3⟩ | ⟨fr, st2, m2, h⟩
   ·cases m3
   obtain ⟨j1, j2⟩ := HN hrec m2 (by omega) (by omega)
   rcases A8 h with ⟨o, cc, q, m3, m4⟩ | ⟨back, st3, m3, h⟩
   ·cases m4
   obtain ⟨l1, l2⟩ := F5 m3 j1.le
   have K := (k1.trans j1).trans l1
   have Kd := K.dep; have Ko := K.out
   by_cases a1 : Aw s st3.pos ∨ colN s st3.pos < c
   ·rw [if_pos a1] at h
    have := Pg h
    have := j1.le
    omega
   rw [if_neg a1] at h
   by_cases a2 : c < colN s st3.pos
   ·rw [if_pos a2] at h; cases h
   rw [if_neg a2] at h
   rcases A8 h with ⟨o, cc, q, m4, m5⟩ | ⟨own2, st4, m4, h⟩
   ·cases m5
   obtain ⟨p1, p2, p3, p4⟩ := Ba m4 l1.le
   by_cases a3 : (keyM s st4.pos).isSome = true
   ·rw [if_pos a3] at h
    have := ih h p1.le a3
    have pd := p1.dep; have po := p1.out; have pp := p1.pos; have lp := l1.pos
    omega
   ·rw [if_neg a3] at h; cases h
theorem EU {s : ByteArray} {p : Nat} (h : BG s p) : p < s.size := Ai h.1 (by omega)
theorem Ni {s : ByteArray} {rec : Int → Bool → Bool → RS → Option (RR Bool)} (hrec : KpB s rec) (c k : Nat) : ∀ (d : Nat) {st st' : RS} {u : Bool}, DT s rec c k d st = some (.ok u st') → st.pos < s.size →
 st'.depth = st.depth - 1 ∧ st.out.length ≤ st'.out.length ∧ st.pos < st'.pos ∧ st'.pos ≤ s.size := by
 intro d
 induction d with
 | zero => intro st st' u h; cases h
 | succ d ih =>
   intro st st' u h hp
   rw [G4] at h
   rcases A8 h with ⟨o, cc, q, m2, m3⟩ | ⟨fr, st2, m2, h⟩
   ·cases m3
   obtain ⟨j1, j2⟩ := HN hrec m2 (by omega) hp
   rcases A8 h with ⟨o, cc, q, m3, m4⟩ | ⟨back, st3, m3, h⟩
   ·cases m4
   obtain ⟨l1, l2⟩ := F5 m3 j1.le
   have K := j1.trans l1
   have Kd := K.dep; have Ko := K.out
   by_cases a1 : Aw s st3.pos ∨ colN s st3.pos < c ∨ (colN s st3.pos = c ∧ ¬ BG s st3.pos)
   ·rw [if_pos a1] at h
    have := Pg h
    have := j1.le
    omega
   rw [if_neg a1] at h
   by_cases a2 : c < colN s st3.pos
   ·rw [if_pos a2] at h; cases h
   rw [if_neg a2] at h
   have hd : BG s st3.pos := Classical.byContradiction fun kd => a1 (.inr (by
    by_cases e : colN s st3.pos < c
    ·exact .inl e
    ·exact .inr ⟨by omega, kd⟩))
   have := ih h (EU hd)
   have lp := l1.pos
   omega
theorem U8 {s : ByteArray} {rec : Int → Bool → Bool → RS → Option (RR Bool)} (hrec : KpB s rec) {m : Nat} {st st' : RS} {outer own : PR} {u : Bool} (h : Nk s rec m st outer own = some (.ok u st')) (hp : st.pos ≤ s.size) (hk : (keyM s st.pos).isSome = true) : Kp s st st' ∧ st.pos < st'.pos := by
 unfold Nk at h
 rcases A8 h with ⟨o, cc, q, m2, m3⟩ | ⟨k, st1, m2, h⟩
 ·cases m3
 obtain ⟨k1, k2, k3, k4, k5⟩ := Dl (s := s) m2 hp
 have := OR hrec _ _ _ h (by omega) (by rw [k4]; exact hk)
 exact ⟨⟨by omega, by omega, by omega, by omega⟩, by omega⟩
theorem Ry {s : ByteArray} {rec : Int → Bool → Bool → RS → Option (RR Bool)} (hrec : KpB s rec) {m : Nat} {st st' : RS} {outer : PR} {u : Bool} (h : Hd s rec m st outer = some (.ok u st')) (hp : st.pos < s.size) : Kp s st st' ∧ st.pos < st'.pos := by
 unfold Hd at h
 rcases A8 h with ⟨o, cc, q, m2, m3⟩ | ⟨k, st1, m2, h⟩
 ·cases m3
 obtain ⟨k1, k2, k3, k4, k5⟩ := Dl (s := s) m2 (by omega)
 have := Ni hrec _ _ _ h (by omega)
 exact ⟨⟨by omega, by omega, by omega, by omega⟩, by omega⟩
theorem Ve {s : ByteArray} {m : Nat} {st st' : RS} {p : PR} {n : Int} {u : Bool} (h : H6 s m st p n = some (.ok u st')) (hp : st.pos ≤ s.size) : Kp s st st' ∧ (p.has = false → st.pos < st'.pos) := by
 unfold H6 at h
 by_cases h1 : bA s st.pos = 124 ∨ bA s st.pos = 62
 ·rw [if_pos h1] at h
  unfold litM at h
  by_cases h2 : (AG s st.pos n).2.2 ≠ 0
  ·rw [if_pos h2] at h; cases h
  rw [if_neg h2] at h
  have hr := Df hp (by simpa using h2)
  rcases A8 h with ⟨o, cc, q, m2, m3⟩ | ⟨_, st1, m2, h⟩
  ·cases m3
  cases h
  obtain ⟨k1, k2⟩ := D1 m2 hp
  have e : (st1.at (AG s st.pos n).2.1.toNat).pos = (AG s st.pos n).2.1.toNat := rfl
  exact ⟨k1.trans (Kp.at (by omega) (by omega)), fun _ => by omega⟩
 rw [if_neg h1] at h
 rcases A8 h with ⟨o, cc, q, m2, m3⟩ | ⟨_, st1, m2, h⟩
 ·cases m3
 cases h
 by_cases h2 : bA s st.pos = 91 ∨ bA s st.pos = 123
 ·rw [if_pos h2] at m2; exact OT (Id s m) m2 hp
 rw [if_neg h2] at m2
 by_cases h3 : bA s st.pos = 42
 ·rw [if_pos h3] at m2; have := BU m2 hp; exact ⟨this.1, fun _ => this.2⟩
 rw [if_neg h3] at m2
 by_cases h4 : quoB (bA s st.pos)
 ·rw [if_pos h4] at m2; have := BZ m2 hp; exact ⟨this.1, fun _ => this.2⟩
 rw [if_neg h4] at m2
 by_cases h5 : pfB s st.pos false = true
 ·rw [if_pos h5] at m2; have := Cu m2 h5 hp; exact ⟨this.1, fun _ => this.2⟩
 ·rw [if_neg h5] at m2; cases m2
theorem M4 {s : ByteArray} {rec : Int → Bool → Bool → RS → Option (RR Bool)} (hrec : KpB s rec) {m : Nat} {n : Int} {i : Bool} {outer own : PR} {st st' : RS} {u : Bool} (h : DL s rec m n i outer own st = some (.ok u st')) (hp : st.pos ≤ s.size) : Kp s st st' ∧ (outer.has = false → own.has = false → st.pos < st'.pos) := by
 unfold DL at h
 by_cases h1 : i = false ∧ (keyM s st.pos).isSome = true
 ·rw [if_pos h1] at h; have := U8 hrec h hp h1.2; exact ⟨this.1, fun _ _ => this.2⟩
 rw [if_neg h1] at h
 by_cases h2 : i = false ∧ own.has = false ∧ BG s st.pos
 ·rw [if_pos h2] at h; have := Ry hrec h (EU h2.2.2); exact ⟨this.1, fun _ _ => this.2⟩
 rw [if_neg h2] at h
 by_cases h3 : outer.has = true ∧ own.has = true
 ·rw [if_pos h3] at h
  by_cases h4 : rsB s own.fin = true
  ·rw [if_pos h4] at h; cases h
  ·rw [if_neg h4] at h; cases h
 rw [if_neg h3] at h
 have := Ve h hp
 refine ⟨this.1, fun a b => this.2 ?_⟩
 rw [if_neg (by rw [a]; decide)]; exact b
theorem HU {s : ByteArray} {m : Nat} {n : Int} {inline loose : Bool} {st : RS} : Cq s (m + 1) n inline loose st = mb (CN s false st) fun own st =>
 if own.has = true ∧ rsB s own.fin = true then
  mb (E0 s own.fin st) fun _ st =>
   if Aw s st.pos ∨ ¬ EV s st.pos n loose then GY st own (rsN s own.fin)
   else mb (CN s false st) fun own2 st => DL s (Cq s m) m n false own own2 st
 else DL s (Cq s m) m n inline pr0 own st := rfl
theorem EY : ∀ (xs : List (ByteArray × Bool)) (out : ByteArray) (g : Bool) (many : Nat), (GU xs out g many).size ≤ out.size + many + szP xs
 | [], out, g, many => by show out.size ≤ _; omega
 | x :: r, out, g, many => by
   unfold GU
   by_cases h : (x.1 = ⟨#[]⟩ ∧ x.2 = false) ∧ r ≠ []
   ·rw [if_pos h]
    have := EY r out g (many + 1)
    rw [BE]; omega
   ·rw [if_neg h]
    have hz : ∀ o : ByteArray, o.size ≤ out.size + many + 1 → (GU r (o ++ x.1) x.2 0).size ≤ out.size + many + szP (x :: r) := fun o ho => by
     have := EY r (o ++ x.1) x.2 0
     rw [ByteArray.size_append] at this
     rw [BE]; omega
    refine hz _ ?_
    (repeat' (refine L7 (P := fun o : ByteArray => o.size ≤ out.size + many + 1) (fun _ => ?_) (fun _ => ?_)))
    ·rw [ByteArray.size_append, AF]; omega
    ·rw [ByteArray.size_append, sz_1]; omega
    ·omega
theorem EX (xs : List (ByteArray × Bool)) : (DK xs).size ≤ szP xs := by
 cases xs with
 | nil => exact Nat.le_refl _
 | cons x r =>
   have := EY r x.1 x.2 0
   rw [BE]
   show (GU r x.1 x.2 0).size ≤ _
   omega
theorem HA (s : ByteArray) (n : Int) (f : Bool) : ∀ (d e : Nat) (l : List (ByteArray × Bool)), e ≤ s.size → szP l ≤ e + 1 → (Ce s n f d e l).1.size ≤ s.size + 1
 | 0, e, l, h, hz => by
   have := EX l
   show (DK l).size ≤ _; omega
 | d + 1, e, l, h, hz => by
   rw [Gp]
   cases hn : Io s e n f with
   | none =>
     have := EX l
     show (DK l).size ≤ _; omega
   | some qk =>
     obtain ⟨q, k⟩ := qk
     obtain ⟨h1, h2, h3⟩ := Gm h hn
     dsimp only
     refine HA s n f d _ _ (Ey h2) ?_
     have hp := Ey (f := f) h2
     have hxz : (s.extract q (peN s q f)).size = peN s q f - q := Ap hp
     rw [FQ, FQ, Rb]
     show szP l + k + ((s.extract q (peN s q f)).size + 1 + 0) ≤ _
     omega
theorem Qv {s : ByteArray} {p : Nat} {n : Int} {f : Bool} (hp : p ≤ s.size) : (CL s p n f).1.size ≤ s.size + 1 := by
 unfold CL
 by_cases h : pfB s p f = true
 ·rw [if_pos h]
  have h1 := Ey (f := f) hp; have h2 := JT s p f
  refine HA s n f _ _ _ h1 ?_
  have hxz : (s.extract p (peN s p f)).size = peN s p f - p := Ap h1
  show (s.extract p (peN s p f)).size + 1 + 0 ≤ _
  omega
 ·rw [if_neg h]; exact Nat.zero_le _
def QSz (s : ByteArray) (q : QS) : Prop := q.pos ≤ s.size ∧ q.keep ≤ q.cur.size ∧ szP q.lines + q.cur.size ≤ 4 * q.pos
theorem QSz.put {s : ByteArray} {q : QS} {t : ByteArray} {n : Nat} {k : Bool} (h : QSz s q) (hn : q.pos + n ≤ s.size) (ht : t.size ≤ 4 * n) : QSz s (q.put t n k) := by
 obtain ⟨h1, h2, h3⟩ := h
 refine ⟨hn, ?_, ?_⟩
 ·show (if k = true then _ else _) ≤ (q.cur ++ t).size
  by_cases hk : k = true
  ·rw [if_pos hk]; exact Nat.le_refl _
  ·rw [if_neg hk, ByteArray.size_append]; omega
 ·show szP q.lines + (q.cur ++ t).size ≤ 4 * (q.pos + n)
  rw [ByteArray.size_append]; omega
theorem QSz.ends {s : ByteArray} {q : QS} {g : Bool} (h : QSz s q) (hn : q.pos < s.size) (hm : Ah s (q.pos + 1) = 0) : QSz s (q.ends s g) := by
 obtain ⟨h1, h2, h3⟩ := h
 have hp := I3 (g := g) hm
 have w1 := B8 s (q.pos + 1); have w2 := Bm (s := s) (p := q.pos + 1) (by omega)
 refine ⟨by rw [hp]; exact w2, Nat.le_refl _, ?_⟩
 rw [hp]
 show szP (q.lines ++ [(if g = true then q.cur else q.cur.extract 0 q.keep, g)]) + 0 ≤ _
 rw [IW]
 have : (if g = true then q.cur else q.cur.extract 0 q.keep).size ≤ q.cur.size := by
  by_cases hg : g = true
  ·rw [if_pos hg]; exact Nat.le_refl _
  ·rw [if_neg hg, Ap h2]; omega
 dsimp only
 omega
theorem TC {s : ByteArray} {q : QS} (h : QSz s q) : (DK (q.lines ++ [(q.cur, false)])).size ≤ 4 * s.size + 1 := by
 obtain ⟨h1, h2, h3⟩ := h
 have := EX (q.lines ++ [(q.cur, false)])
 rw [IW] at this
 dsimp only at this
 omega
theorem Vl (s : ByteArray) : ∀ (d : Nat) (q : QS), QSz s q → (sgGo s d q).1.size ≤ 4 * s.size + 1 := by
 intro d
 induction d with
 | zero => intro q h; exact Nat.zero_le _
 | succ d ih =>
   intro q h
   rw [QZ]
   by_cases h1 : q.pos < s.size
   rotate_left
   ·rw [if_neg h1]; exact Nat.zero_le _
   rw [if_pos h1]
   by_cases h2 : bA s q.pos = 10
   ·rw [if_pos h2]
    by_cases h3 : Ah s (q.pos + 1) = 0
    ·rw [if_pos h3]; exact ih _ (h.ends h1 h3)
    ·rw [if_neg h3]; exact Nat.zero_le _
   rw [if_neg h2]
   by_cases h3 : bA s q.pos = 39
   ·rw [if_pos h3]
    by_cases h4 : bA s (q.pos + 1) = 39
    ·rw [if_pos h4]
     have := Ai (s := s) (p := q.pos + 1) (c := 39) h4 (by omega)
     exact ih _ (h.put (by omega) (by decide))
    ·rw [if_neg h4]; exact TC h
   rw [if_neg h3]
   exact ih _ (h.put (by omega) (by show 1 ≤ 4 * 1; omega))
theorem Um (s : ByteArray) : ∀ (d : Nat) (q : QS), QSz s q → (dqGo s d q).1.size ≤ 4 * s.size + 1 := by
 intro d
 induction d with
 | zero => intro q h; exact Nat.zero_le _
 | succ d ih =>
   intro q h
   have ends : ∀ (g : Bool) (q2 : QS), QSz s q2 → q2.pos < s.size → (Ft s (dqGo s d) g q2).1.size ≤ 4 * s.size + 1 := by
    intro g q2 k1 k2
    unfold Ft
    by_cases h3 : Ah s (q2.pos + 1) = 0
    ·rw [if_pos h3]; exact ih _ (k1.ends k2 h3)
    ·rw [if_neg h3]; exact Nat.zero_le _
   rw [Pi]
   by_cases h1 : q.pos < s.size
   rotate_left
   ·rw [if_neg h1]; exact Nat.zero_le _
   rw [if_pos h1]
   by_cases h2 : bA s q.pos = 10
   ·rw [if_pos h2]; exact ends false q h h1
   rw [if_neg h2]
   by_cases h3 : bA s q.pos = 92
   ·rw [if_pos h3]
    by_cases h4 : bA s (q.pos + 1) = 10
    ·rw [if_pos h4]
     have hl := Ai (s := s) (p := q.pos + 1) (c := 10) h4 (by omega)
     exact ends true q.adv ⟨by show q.pos + 1 ≤ _; omega, h.2.1, by have := h.2.2; show szP q.lines + q.cur.size ≤ 4 * (q.pos + 1); omega⟩ (by show q.pos + 1 < _; omega)
    ·rw [if_neg h4]
     by_cases h5 : (escA s q.pos).2 = 0
     ·rw [if_pos h5]; exact Nat.zero_le _
     ·rw [if_neg h5]
      have hr := (I4 (s := s) (p := q.pos)).resolve_left h5
      have hz := Jk s q.pos
      exact ih _ (h.put (by omega) (by omega))
   rw [if_neg h3]
   by_cases h4 : bA s q.pos = 34
   ·rw [if_pos h4]; exact TC h
   rw [if_neg h4]
   exact ih _ (h.put (by omega) (by show 1 ≤ 4 * 1; omega))
theorem SH {s : ByteArray} {p : Nat} (hp : p ≤ s.size) : (Cg s p).1.size ≤ 4 * s.size + 1 := by
 unfold Cg AS AR
 by_cases h1 : bA s p = 34
 ·rw [if_pos h1, if_pos h1]
  have hl := Ai h1 (by omega)
  exact Um s _ _ ⟨hl, Nat.le_refl _, Nat.zero_le _⟩
 ·rw [if_neg h1]
  by_cases h2 : bA s p = 39
  ·rw [if_pos h2]
   have hl := Ai h2 (by omega)
   exact Vl s _ _ ⟨hl, Nat.le_refl _, Nat.zero_le _⟩
  ·rw [if_neg h2]; exact Nat.zero_le _
theorem Mx (s : ByteArray) (w first : Nat) : ∀ (d a : Nat) (l : List ByteArray), a ≤ s.size → szL l ≤ 3 * a → szL (Fu s w first d a l).1 ≤ 3 * s.size
 | 0, a, l, h, hz => by show szL l ≤ _; omega
 | d + 1, a, l, h, hz => by
   rw [Lb]
   by_cases h1 : (a < s.size ∧ Ah s a = 0) ∧ (lonB s a = true ∨ w ≤ indN s a)
   ·rw [if_pos h1]
    have l1 := B4 h; have l2 := Be h
    have b1 := Da l2
    refine Mx s w first d _ _ b1.2.1 ?_
    rw [Ra]
    have hx : (if first ≤ a ∧ (lonB s a = false ∨ w < indN s a) then s.extract (a + w) (endN s a) else ⟨#[]⟩).size ≤ endN s a - a := by
     by_cases k : first ≤ a ∧ (lonB s a = false ∨ w < indN s a)
     ·rw [if_pos k, Ap l2]; omega
     ·rw [if_neg k]; exact Nat.zero_le _
    have hb : a < bhN s (endN s a) := by
     by_cases k : endN s a < s.size
     ·have := b1.2.2 k; omega
     ·omega
    omega
   ·rw [if_neg h1]; show szL l ≤ _; omega
theorem Lc {s : ByteArray} {p : Nat} {n : Int} (hp : p ≤ s.size) : (AG s p n).1.size ≤ 6 * s.size + 1 := by
 unfold AG
 by_cases h1 : (AN s p).2.2.2 ≠ 0
 ·rw [if_pos h1]; exact Nat.zero_le _
 ·rw [if_neg h1]
  have h0 : bA s p = 124 ∨ bA s p = 62 := by
   refine Classical.byContradiction fun k => h1 ?_
   unfold AN
   rw [if_neg k]
   show (10 : Int) ≠ 0
   decide
  have hlt : p < s.size := by rcases h0 with k | k <;> exact Ai k (by omega)
  have hm : AN s p = hdGo s (s.size + 2) (p + 1) 0 0 false := if_pos h0
  have hr := Ij s (s.size + 2) (p + 1) 0 0 false (by omega) (by omega) (Int.le_refl _) (by decide) (Int.le_refl _) (by decide)
  rw [← hm] at hr
  have hb := Da hr.2.2.2.1
  have hz := Mx s (litW s n (AN s p).1 (bhN s (AN s p).2.2.1)).1 (litW s n (AN s p).1 (bhN s (AN s p).2.2.1)).2 (s.size + 1) (bhN s (AN s p).2.2.1) [] hb.2.1 (Nat.zero_le _)
  have hk := OQ (Fu s (litW s n (AN s p).1 (bhN s (AN s p).2.2.1)).1 (litW s n (AN s p).1 (bhN s (AN s p).2.2.1)).2 (s.size + 1) (bhN s (AN s p).2.2.1) []).1 (decide (bA s p = 62)) (AN s p).2.1
  have hl := GN (Fu s (litW s n (AN s p).1 (bhN s (AN s p).2.2.1)).1 (litW s n (AN s p).1 (bhN s (AN s p).2.2.1)).2 (s.size + 1) (bhN s (AN s p).2.2.1) []).1
  dsimp only
  omega
def PF (p : PR) : Prop := p.anchor.size ≤ 60 ∧ p.tag.size ≤ 200
def HF (l : List (ByteArray × ByteArray)) : Prop := ∀ h ∈ l, h.2.size ≤ 60
theorem PH {n : ByteArray} {p : ByteArray} : ∀ {l : List (ByteArray × ByteArray)}, HF l → fstH n l = some p → p.size ≤ 60
 | [], _, h => by cases h
 | x :: l, hl, h => by
   unfold fstH at h
   by_cases k : x.1 = n
   ·rw [if_pos k] at h; cases h; exact hl x (by simp)
   ·rw [if_neg k] at h; exact PH (fun y hy => hl y (List.mem_cons_of_mem _ hy)) h
theorem Vn {raw t : ByteArray} {l : List (ByteArray × ByteArray)} (hr : raw.size ≤ 60) (hl : HF l) (h : tagR raw l = some t) : t.size ≤ 200 := by
 have hk := MB raw
 have hz : (raw.extract (lstN raw) raw.size).size ≤ 60 := by rw [Ap (Nat.le_refl _)]; omega
 unfold tagR at h
 by_cases c1 : raw.size = 0 ∨ bA raw 0 ≠ 33
 ·rw [if_pos c1] at h; cases h
 rw [if_neg c1] at h
 by_cases c2 : angP raw
 ·rw [if_pos c2] at h; cases h
  rw [Ap (by omega)]; omega
 rw [if_neg c2] at h
 by_cases c3 : raw = ⟨#[33]⟩
 ·rw [if_pos c3] at h; cases h; decide
 rw [if_neg c3] at h
 by_cases c4 : lstN raw = raw.size ∨ nmH (raw.extract 0 (lstN raw)) = false
 ·rw [if_pos c4] at h; cases h
 rw [if_neg c4] at h
 cases h5 : fstH (raw.extract 0 (lstN raw)) l with
 | some p =>
   rw [h5] at h
   dsimp only at h
   have := PH hl h5
   by_cases c5 : p = ⟨#[]⟩
   ·rw [if_pos c5] at h; cases h
   ·rw [if_neg c5] at h; cases h
    rw [ByteArray.size_append]; omega
 | none =>
   rw [h5] at h
   dsimp only at h
   by_cases c5 : raw.extract 0 (lstN raw) = ⟨#[33, 33]⟩
   ·rw [if_pos c5] at h; cases h
    have : coreT.size = 18 := rfl
    rw [ByteArray.size_append]; omega
   ·rw [if_neg c5] at h
    by_cases c6 : raw.extract 0 (lstN raw) = ⟨#[33]⟩
    ·rw [if_pos c6] at h; cases h
     rw [ByteArray.size_append, sz_1]; omega
    ·rw [if_neg c6] at h; cases h
end Go.Proofs.YthlbglmfdjdagaaGreatDoor.Lg
