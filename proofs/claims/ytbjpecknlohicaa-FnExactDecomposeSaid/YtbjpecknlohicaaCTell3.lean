/- Telling a graph: the program's function. No condition. -/
import Derived.Test.YtbjpecknlohicaaCTell2
namespace Go.Proofs.Ytbjpecknlohicaa.Lg
set_option linter.unusedSimpArgs false
set_option linter.unusedVariables false
set_option maxRecDepth 100000
set_option maxHeartbeats 40000000
open Go.Proofs.Ytbjpecknlohicaa

def imN (ts : List Int) (k : Nat) : ByteArray := if 1 < ts.getD k 0 then nmT k else ⟨#[]⟩
/-- what an append to the slice in a block leaves -/
structure PutB (f b : Nat) (A B : LH) (o' : V) (es : List Ev) (cs : List V) : Prop where
  fr : ∀ E, b ∈ E → Fr f E A B
  old : ∀ c l, c < f → c ≠ b → LH.cellsAt A c = some l → LH.cellsAt B c = some l
  got : LH.cellsAt B b = some cs
  own : Own A.length B evC 8 o' es
  len : A.length + 1 = B.length
theorem put_b {f b : Nat} {A : LH} {o : V} {es : List Ev} (h : Own f A evC 8 o es) (hf : f ≤ A.length) (hb : b < f) (e : Ev) (cs : List V) :
    PutB f b A ((killV A o ++ [Blk.cells (rows evC (es ++ [e]))]).set b (.cells cs)) (.sl A.length 0 8 (es.length + 1) (es.length + 1)) (es ++ [e]) cs := by
  have p := put_ev h hf e
  have l1 : (killV A o ++ [Blk.cells (rows evC (es ++ [e]))]).length = A.length + 1 := by rw [List.length_append, killV_len]; rfl
  refine ⟨fun E hE => (p.fr E).trans (Fr.set (.inl hE)), fun c l hc hcb hl => ?_, cellsAt_set (by omega), p.own.setNe (by omega), by rw [List.length_set, l1]⟩
  rw [cellsAt_set_ne (Ne.symm hcb)]
  exact p.old c l hc hl
theorem run_node (G : LH) (nv rv : V) (cs : List NC) (g : Gr) (hA : At G ncC 4 nv cs) (hlen : cs.length = g.nodes.length)
    (hRl : ∀ i, i < g.nodes.length → Rel1 G (cs.getD i nc0) (g.nodes.getD i nd0)) (hg : GrOk g) (b mB tB : Nat) (hbG : G.length ≤ b) (htB : G.length ≤ tB) (h1 : b ≠ mB) (h2 : b ≠ tB) (h3 : mB ≠ tB) (ts : List Int) (hsl : ts.length = g.nodes.length) :
    ∀ (d : Nat) (H : LH) (s : TS) (o : V) (k : Nat) (fl f : Nat), Hx G H → LH.cellsAt H b = some [nv, rv, .sl mB 0 1 g.nodes.length g.nodes.length, .sl tB 0 1 g.nodes.length g.nodes.length, o] → LH.cellsAt H mB = some (rows inC ts) → LH.cellsAt H tB = some (rows boC s.told) → Own f H evC 8 o s.out → s.told.length = g.nodes.length → k < g.nodes.length → cntF s.told ≤ d →
      s.out.length + wt s.told g.nodes + 2 ≤ 16777216 → fl ≤ tB → fl ≤ b → fl ≤ f → b < f → mB < f → tB < f → f ≤ H.length →
      Ret (fun w H' => w = und ∧ Fr f [tB, b] H H' ∧ LH.cellsAt H' tB = some (rows boC (tell g nmT (imN ts) (d + 1) s k).told) ∧
          ∃ o', LH.cellsAt H' b = some [nv, rv, .sl mB 0 1 g.nodes.length g.nodes.length, .sl tB 0 1 g.nodes.length g.nodes.length, o'] ∧ Own f H' evC 8 o' (tell g nmT (imN ts) (d + 1) s k).out)
        (run 91 [.ptr b 0, .int .i64 (k : Int)] fl H) := by
  intro d
  induction d using Nat.strongRecOn with
  | _ d ihd =>
  intro H s o k fl f hx hb hs ht ho htl hk hd hbd hf1 hf0 hf2 hbf hsf htf hfl
  have e1 := fun fl H => run_imNum (k : Int) fl H
  have e2 := numT_size (k : Int)
  have n1 := hA.isTup; have n2 := hA.one
  have o1 := (ho.at evC_len).isTup; have o2 := (ho.at evC_len).one
  have q1 : (rows inC ts).length = g.nodes.length := by rw [rows_len inC_len]; omega
  have q2 : (rows boC s.told).length = g.nodes.length := by rw [rows_len boC_len]; omega
  have q3 := fun n K => cell_inC (xs := ts) (i := k) (by omega) n K
  have q4 := fun n K => cell_boC (xs := s.told) (i := k) (by omega) n K
  have q5 := fun w => set_boC (ts := s.told) (i := k) (by omega) w
  have hbH := cellsAt_lt hb
  have hsH := cellsAt_lt hs
  have htH := cellsAt_lt ht
  cases hto : s.told.getD k false
  rotate_left
  · rw [hto] at q4
    rw [tell_told hto]
    have ap := fun L => ap_ev (fl := fl) (ho.ext (Hx.app (L := L))) hf2
    have kb : ∀ L M, LH.cellsAt (killV (H ++ L) o ++ M) b = some [nv, rv, .sl mB 0 1 g.nodes.length g.nodes.length, .sl tB 0 1 g.nodes.length g.nodes.length, o] := fun L M => app_old (cellsAt_left hb) (ho.ext Hx.app) hbf M
    unfold run at *
    rw [Run_z Try.func91 rfl (by rfl : ok 91 = true) (by rfl : cfg.keep 91 = [0, 1, 4, 5, 6, 8, 18, 56, 61, 87, 88, 89, 90]) (by rfl : cfg.mode 91 = .any)]
    simp (config := {contextual := true, maxSteps := 10000000, implicitDefEqProofs := false}) (disch := first | (and_intros <;> omega -splitDisjunctions) | (simp only [List.length_set, List.length_append, List.length_cons, List.length_nil]; and_intros <;> omega -splitDisjunctions) | fail) only [e1, e2, hb, ht, n1, n2, o1, o2, q1, q2, q3, q4, kb, ap, Try.f91, go_sem, ↓reduceIte, Nat.reduceEqDiff, Nat.reduceAdd, Nat.reduceMul, Nat.reduceLT, Nat.reduceLeDiff, reduceCtorEq, Int.reduceNe, Int.reduceEq, Int.reduceLT, Int.reduceLE, Int.reduceAdd, Int.reduceSub, Int.reduceMul, Int.reduceNeg, Int.reduceToNat, UInt8.reduceToNat, natLit, ty3, ty4, ty9, ty26, ty48, ty55, ty60, ty62, ty100, ty111, ty126]
    have p := put_b (ho.ext (Hx.app (L := [.cells (evC (evA (⟨#[110]⟩ ++ numT k)))]))) (by rw [List.length_append]; omega) hbf (evA (⟨#[110]⟩ ++ numT k)) [nv, rv, .sl mB 0 1 g.nodes.length g.nodes.length, .sl tB 0 1 g.nodes.length g.nodes.length, .sl (H.length + 1) 0 8 (s.out.length + 1) (s.out.length + 1)]
    have po := p.own
    rw [List.length_append] at po
    exact ⟨(Fr.app hfl).trans (p.fr _ (by simp)), p.old _ _ htf (Ne.symm h2) (cellsAt_left ht), _, p.got, po.down (by omega)⟩
  rw [hto] at q4
  have hd1 := cntF_set s.told k (by omega) hto
  have hw1 := wt_set s.told g.nodes k (by omega) htl hto
  obtain ⟨d, rfl⟩ : ∃ d', d = d' + 1 := ⟨d - 1, by omega⟩
  have hT1 : (s.told.set k true).length = g.nodes.length := by rw [List.length_set]; exact htl
  generalize hTT : s.told.set k true = T1 at *
  have ho1 : Own f (H.set tB (.cells (rows boC T1))) evC 8 o s.out := ho.setNe htf
  have hx1 : Hx G (H.set tB (.cells (rows boC T1))) := hx.set htB
  have fr1 : Fr f [tB, b] H (H.set tB (.cells (rows boC T1))) := Fr.set (.inl (by simp))
  have v0 : LH.cellsAt (H.set tB (.cells (rows boC T1))) b = some [nv, rv, .sl mB 0 1 g.nodes.length g.nodes.length, .sl tB 0 1 g.nodes.length g.nodes.length, o] := by rw [cellsAt_set_ne (Ne.symm h2)]; exact hb
  have v1 : LH.cellsAt (H.set tB (.cells (rows boC T1))) mB = some (rows inC ts) := by rw [cellsAt_set_ne (Ne.symm h3)]; exact hs
  have v2 : LH.cellsAt (H.set tB (.cells (rows boC T1))) tB = some (rows boC T1) := cellsAt_set htH
  have hl1 : (H.set tB (.cells (rows boC T1))).length = H.length := by rw [List.length_set]
  have q5 : (rows boC s.told).set k (.bool true) = rows boC T1 := by rw [q5, hTT]
  generalize hHH : H.set tB (.cells (rows boC T1)) = H1 at *
  have w0 : ∀ L, LH.cellsAt (H1 ++ L) b = some [nv, rv, .sl mB 0 1 g.nodes.length g.nodes.length, .sl tB 0 1 g.nodes.length g.nodes.length, o] := fun L => cellsAt_left v0
  have w1 : ∀ L, LH.cellsAt (H1 ++ L) mB = some (rows inC ts) := fun L => cellsAt_left v1
  have w2 : ∀ L, LH.cellsAt (H1 ++ L) tB = some (rows boC T1) := fun L => cellsAt_left v2
  have ap := fun L => ap_ev (fl := fl) (ho1.ext (Hx.app (L := L))) hf2
  have kb : ∀ L M, LH.cellsAt (killV (H1 ++ L) o ++ M) b = some [nv, rv, .sl mB 0 1 g.nodes.length g.nodes.length, .sl tB 0 1 g.nodes.length g.nodes.length, o] := fun L M => app_old (cellsAt_left v0) (ho1.ext Hx.app) hbf M
  have z0 : ∀ L, LH.cellsAt (H1 ++ L) H.length = LH.cellsAt L 0 := fun L => by rw [← hl1]; exact cellsAt_app0 H1 L
  have z1 : ∀ L i, LH.cellsAt (H1 ++ L) (H.length + i) = LH.cellsAt L i := fun L i => by rw [← hl1]; exact cellsAt_app H1 L i
  have z2 : ∀ L x, List.set (H1 ++ L) H.length x = H1 ++ L.set 0 x := fun L x => by rw [← hl1]; exact set_app0 H1 L x
  have z3 : ∀ L i x, List.set (H1 ++ L) (H.length + i) x = H1 ++ L.set i x := fun L i x => by rw [← hl1]; exact set_app H1 L i x
  have n4 := fun (hp : 0 < cs.length) => (hA.ext hx1).con hp
  have n5 := hA.idx (T := ty Try.prog) (t := 60) (by simp only [elemI, sizeO, ty3, ty9, ty55, ty60, ty100])
  have n6 := fun K => (hA.ext hx1).loadD ncC_len nc0 k (by omega) K
  have kA := hRl k hk
  have c1 := kA.kind; have c2 := kA.tag; have c3 := kA.text
  have kk := hg.kids _ (show g.nodes.getD k nd0 ∈ g.nodes by rw [getD_of hk]; exact List.getElem_mem _)
  simp only [ncC, c1, c2, c3] at n6
  have hkA := kA.kids
  generalize hkv : (cs.getD k nc0).kv = kv at *
  have k1 := hkA.isTup; have k2 := hkA.len; have k3 := hkA.lenOk ty55; have k0 := hkA.one
  by_cases h5 : (g.nodes.getD k nd0).kind = 5
  · rw [tell_leaf hto h5]
    rw [h5] at n6
    rw [hTT]
    have hev : ∀ a, evT (g.nodes.getD k nd0) a = ⟨5, 3, false, (g.nodes.getD k nd0).text, a, (g.nodes.getD k nd0).tag, 0, 0⟩ := fun a => by unfold evT; rw [h5]
    rw [hev]
    have fin : ∀ L e cs', Fr f [tB, b] H ((killV (H1 ++ L) o ++ [Blk.cells (rows evC (s.out ++ [e]))]).set b (.cells cs')) ∧ LH.cellsAt ((killV (H1 ++ L) o ++ [Blk.cells (rows evC (s.out ++ [e]))]).set b (.cells cs')) tB = some (rows boC T1) ∧
        LH.cellsAt ((killV (H1 ++ L) o ++ [Blk.cells (rows evC (s.out ++ [e]))]).set b (.cells cs')) b = some cs' ∧
        Own f ((killV (H1 ++ L) o ++ [Blk.cells (rows evC (s.out ++ [e]))]).set b (.cells cs')) evC 8 (.sl (H.length + L.length) 0 8 (s.out.length + 1) (s.out.length + 1)) (s.out ++ [e]) := fun L e cs' => by
      have p := put_b (ho1.ext (Hx.app (L := L))) (by rw [List.length_append]; omega) hbf e cs'
      have po := p.own
      rw [List.length_append, hl1] at po
      exact ⟨(fr1.trans (Fr.app (by omega))).trans (p.fr _ (by simp)), p.old _ _ htf (Ne.symm h2) (w2 _), p.got, po.down (by omega)⟩
    unfold run at *
    rw [Run_z Try.func91 rfl (by rfl : ok 91 = true) (by rfl : cfg.keep 91 = [0, 1, 4, 5, 6, 8, 18, 56, 61, 87, 88, 89, 90]) (by rfl : cfg.mode 91 = .any)]
    by_cases hsh : 1 < ts.getD k 0
    · simp (config := {contextual := true, maxSteps := 10000000, implicitDefEqProofs := false}) (disch := first | (and_intros <;> omega -splitDisjunctions) | (simp only [List.length_set, List.length_append, List.length_cons, List.length_nil]; and_intros <;> omega -splitDisjunctions) | fail) only [hsh, e1, e2, hb, hs, ht, n1, n2, n4, n5, n6, k0, k1, o1, o2, q1, q2, q3, q4, q5, hHH, v0, v1, v2, w0, w1, w2, hl1, z0, z1, z2, z3, kb, ap, Try.f91, go_sem, ↓reduceIte, Nat.reduceEqDiff, Nat.reduceAdd, Nat.reduceMul, Nat.reduceLT, Nat.reduceLeDiff, reduceCtorEq, Int.reduceNe, Int.reduceEq, Int.reduceLT, Int.reduceLE, Int.reduceAdd, Int.reduceSub, Int.reduceMul, Int.reduceNeg, Int.reduceToNat, UInt8.reduceToNat, natLit, ty3, ty4, ty9, ty26, ty48, ty55, ty60, ty62, ty100, ty111, ty126]
      have hn : imN ts k = ⟨#[110]⟩ ++ numT k := by unfold imN nmT; rw [if_pos hsh]
      rw [hn]
      obtain ⟨a1, a2, a3, a4⟩ := fin _ _ _
      exact ⟨a1, a2, _, a3, a4⟩
    · simp (config := {contextual := true, maxSteps := 10000000, implicitDefEqProofs := false}) (disch := first | (and_intros <;> omega -splitDisjunctions) | (simp only [List.length_set, List.length_append, List.length_cons, List.length_nil]; and_intros <;> omega -splitDisjunctions) | fail) only [hsh, e1, e2, hb, hs, ht, n1, n2, n4, n5, n6, k0, k1, o1, o2, q1, q2, q3, q4, q5, hHH, v0, v1, v2, w0, w1, w2, hl1, z0, z1, z2, z3, kb, ap, Try.f91, go_sem, ↓reduceIte, Nat.reduceEqDiff, Nat.reduceAdd, Nat.reduceMul, Nat.reduceLT, Nat.reduceLeDiff, reduceCtorEq, Int.reduceNe, Int.reduceEq, Int.reduceLT, Int.reduceLE, Int.reduceAdd, Int.reduceSub, Int.reduceMul, Int.reduceNeg, Int.reduceToNat, UInt8.reduceToNat, natLit, ty3, ty4, ty9, ty26, ty48, ty55, ty60, ty62, ty100, ty111, ty126]
      have hn : imN ts k = ⟨#[]⟩ := by unfold imN; rw [if_neg hsh]
      rw [hn]
      obtain ⟨a1, a2, a3, a4⟩ := fin _ _ _
      exact ⟨a1, a2, _, a3, a4⟩
  rw [tell_node hto h5, hTT]
  generalize hks : (g.nodes.getD k nd0).kids = ks at *
  have fin : ∀ L e cs', Fr f [tB, b] H ((killV (H1 ++ L) o ++ [Blk.cells (rows evC (s.out ++ [e]))]).set b (.cells cs')) ∧ LH.cellsAt ((killV (H1 ++ L) o ++ [Blk.cells (rows evC (s.out ++ [e]))]).set b (.cells cs')) tB = some (rows boC T1) ∧
      LH.cellsAt ((killV (H1 ++ L) o ++ [Blk.cells (rows evC (s.out ++ [e]))]).set b (.cells cs')) mB = some (rows inC ts) ∧
      LH.cellsAt ((killV (H1 ++ L) o ++ [Blk.cells (rows evC (s.out ++ [e]))]).set b (.cells cs')) b = some cs' ∧
      Own f ((killV (H1 ++ L) o ++ [Blk.cells (rows evC (s.out ++ [e]))]).set b (.cells cs')) evC 8 (.sl (H.length + L.length) 0 8 (s.out.length + 1) (s.out.length + 1)) (s.out ++ [e]) := fun L e cs' => by
    have p := put_b (ho1.ext (Hx.app (L := L))) (by rw [List.length_append]; omega) hbf e cs'
    have po := p.own
    rw [List.length_append, hl1] at po
    exact ⟨(fr1.trans (Fr.app (by omega))).trans (p.fr _ (by simp)), p.old _ _ htf (Ne.symm h2) (w2 _), p.old _ _ hsf (Ne.symm h1) (w1 _), p.got, po.down (by omega)⟩
  have hne : ∀ i, blkV o ≠ H.length + i := fun i => by
    rcases ho1 with ⟨_, rfl | rfl⟩ | ⟨b, rfl, hb, _⟩
    · simp only [blkV]; omega
    · simp only [blkV]; omega
    · have := cellsAt_lt hb
      simp only [blkV]; omega
  have kz : ∀ M L i x, i < M.length → LH.cellsAt (List.set (killV (H1 ++ M) o ++ L) b x) (H.length + i) = LH.cellsAt M i := fun M L i x hi => by
    rw [cellsAt_set_ne (by omega), ← z1 M i]
    have e : (killV (H1 ++ M) o ++ L)[H.length + i]? = (H1 ++ M)[H.length + i]? := by
      rw [List.getElem?_append_left (by rw [killV_len, List.length_append]; omega)]
      have := hne i
      revert this
      cases o with
      | sl b2 o z n c => intro h; simp only [killV]; rw [List.getElem?_set_ne (show b2 ≠ H.length + i from h)]
      | _ => intro _; rfl
    exact cells_get e
  have kz0 : ∀ M L x, 0 < M.length → LH.cellsAt (List.set (killV (H1 ++ M) o ++ L) b x) H.length = LH.cellsAt M 0 := fun M L x hi => kz M L 0 x hi
  unfold run at *
  rw [Run_z Try.func91 rfl (by rfl : ok 91 = true) (by rfl : cfg.keep 91 = [0, 1, 4, 5, 6, 8, 18, 56, 61, 87, 88, 89, 90]) (by rfl : cfg.mode 91 = .any)]
  by_cases hsh : 1 < ts.getD k 0
  · simp (config := {contextual := true, maxSteps := 10000000, implicitDefEqProofs := false}) (disch := first | (and_intros <;> omega -splitDisjunctions) | (simp only [List.length_set, List.length_append, List.length_cons, List.length_nil]; and_intros <;> omega -splitDisjunctions) | fail) only [hsh, h5, e1, e2, hb, hs, ht, n1, n2, n4, n5, n6, k0, k1, k2, k3, o1, o2, q1, q2, q3, q4, q5, hHH, v0, v1, v2, w0, w1, w2, hl1, z0, z1, z2, z3, kb, kz, kz0, ap, Try.f91, go_sem, ↓reduceIte, Nat.reduceEqDiff, Nat.reduceAdd, Nat.reduceMul, Nat.reduceLT, Nat.reduceLeDiff, reduceCtorEq, Int.reduceNe, Int.reduceEq, Int.reduceLT, Int.reduceLE, Int.reduceAdd, Int.reduceSub, Int.reduceMul, Int.reduceNeg, Int.reduceToNat, UInt8.reduceToNat, natLit, ty3, ty4, ty9, ty26, ty48, ty55, ty60, ty62, ty100, ty111, ty126]
    have hn : imN ts k = ⟨#[110]⟩ ++ numT k := by unfold imN nmT; rw [if_pos hsh]
    rw [hn]
    generalize hX : List.set (killV _ o ++ [_]) b _ = X
    have pf : Fr f [tB, b] H X ∧ LH.cellsAt X tB = some (rows boC T1) ∧ LH.cellsAt X mB = some (rows inC ts) ∧ LH.cellsAt X b = some [nv, rv, .sl mB 0 1 g.nodes.length g.nodes.length, .sl tB 0 1 g.nodes.length g.nodes.length, .sl (H.length + 3) 0 8 (s.out.length + 1) (s.out.length + 1)] ∧
        Own f X evC 8 (.sl (H.length + 3) 0 8 (s.out.length + 1) (s.out.length + 1)) (s.out ++ [evO (g.nodes.getD k nd0) (⟨#[110]⟩ ++ numT k)]) := by rw [← hX]; exact fin _ _ _
    obtain ⟨p1, p2, p3, p4, p5⟩ := pf
    clear hX fin kz kz0
    have hxX : Hx G X := p1.hx hx (by omega) (by simp only [List.mem_cons, List.not_mem_nil, or_false]; rintro c (rfl | rfl) <;> omega)
    have hlX := p1.len
    generalize hF : ks.foldl (tell g nmT (imN ts) (d + 1)) ⟨T1, s.out ++ [evO (g.nodes.getD k nd0) (⟨#[110]⟩ ++ numT k)]⟩ = FS
    refine at_loopR fun c2 R2 hc2 hR2 => ?_
    have key2 : ∀ (m : Nat) (j : Nat) (jj : Int) (t : TS) (o' : V) (B : LH) (x1 x4 x5 x6 x8 x18 x56 x61 x90 : Option V), ks.length - j < m → jj = j → j ≤ ks.length → Fr f [tB, b] X B → LH.cellsAt B b = some [nv, rv, .sl mB 0 1 g.nodes.length g.nodes.length, .sl tB 0 1 g.nodes.length g.nodes.length, o'] → LH.cellsAt B tB = some (rows boC t.told) → Own f B evC 8 o' t.out → t.told.length = g.nodes.length → cntF t.told ≤ d → t.out.length + wt t.told g.nodes + 2 * (ks.length - j) + 1 ≤ 16777216 → (ks.drop j).foldl (tell g nmT (imN ts) (d + 1)) t = FS →
        Ret (fun w H' => w = und ∧ Fr f [tB, b] H H' ∧ LH.cellsAt H' tB = some (rows boC FS.told) ∧ ∃ o', LH.cellsAt H' b = some [nv, rv, .sl mB 0 1 g.nodes.length g.nodes.length, .sl tB 0 1 g.nodes.length g.nodes.length, o'] ∧ Own f H' evC 8 o' (FS.out ++ [evK 7 false])) (zEv (leaveX (mkR Try.prog cfg ok [0, 1, 4, 5, 6, 8, 18, 56, 61, 87, 88, 89, 90] fl) .any H []) (mkR Try.prog cfg ok [0, 1, 4, 5, 6, 8, 18, 56, 61, 87, 88, 89, 90] fl) (K.code (Code.loop c2) :: K.blk 0 :: R2) .nrm [some (.ptr b 0), x1, x4, x5, x6, x8, x18, x56, x61, some kv, some (.int .i64 ks.length), some (.int .i64 jj), x90] (B)) := by
      intro m
      induction m with
      | zero => intro j jj t o' B x1 x4 x5 x6 x8 x18 x56 x61 x90 hm; omega
      | succ m ih2 =>
        intro j jj t o' B x1 x4 x5 x6 x8 x18 x56 x61 x90 hm hj hle hfr hbb hbt hob htl2 hcn hpot hfold
        subst hj
        have hxB : Hx G B := hfr.hx hxX (by omega) (by simp only [List.mem_cons, List.not_mem_nil, or_false]; rintro c (rfl | rfl) <;> omega)
        have s1 := hfr.cells p3 (by omega) (by simp only [List.mem_cons, List.not_mem_nil, or_false]; omega)
        have hlB := hfr.len
        have b1 := (hob.at evC_len).isTup; have b2 := (hob.at evC_len).one
        have kB := hkA.ext hxB
        have k4 := fun (hp : 0 < ks.length) => kB.con hp
        have k5 := hkA.idx (T := ty Try.prog) (t := 55) (by simp only [elemI, sizeO, ty3, ty55])
        have k6 := kB.load1 0 (fun x => .int .i64 x) (fun _ => rfl)
        have apB := fun L => ap_ev (fl := fl) (hob.ext (Hx.app (L := L))) (by omega)
        have kbB : ∀ L M, LH.cellsAt (killV (B ++ L) o' ++ M) b = some [nv, rv, .sl mB 0 1 g.nodes.length g.nodes.length, .sl tB 0 1 g.nodes.length g.nodes.length, o'] := fun L M => app_old (cellsAt_left hbb) (hob.ext Hx.app) hbf M
        by_cases hlt : j < ks.length
        · have t1 : ((j : Int) < ks.length) = True := eq_true (by omega)
          have kr := kk.2 _ (List.getElem_mem hlt)
          rw [← getD_of hlt 0] at kr
          have tv := tell_inv hg nmT (imN ts) (d + 1) t (ks.getD j 0) htl2 kr.1 kr.2
          obtain ⟨w, C, e3, rfl, fr3, tb3, o3, cb3, ow3⟩ := ihd d (by omega) B t o' (ks.getD j 0).toNat fl f hxB hbb s1 hbt hob htl2 (by omega) hcn (by omega) hf1 hf0 (by omega) (by omega) (by omega) (by omega) (by omega)
          rw [Int.toNat_of_nonneg kr.1] at e3 tb3 ow3
          rw [zEv_round hc2]
          simp (config := {contextual := true, maxSteps := 10000000, implicitDefEqProofs := false}) (disch := first | (and_intros <;> omega -splitDisjunctions) | (simp only [List.length_set, List.length_append, List.length_cons, List.length_nil]; and_intros <;> omega -splitDisjunctions) | fail) only [t1, k0, k1, k2, k3, k4, k5, k6, e3, Try.f91, go_sem, ↓reduceIte, Nat.reduceEqDiff, Nat.reduceAdd, Nat.reduceMul, Nat.reduceLT, Nat.reduceLeDiff, reduceCtorEq, Int.reduceNe, Int.reduceEq, Int.reduceLT, Int.reduceLE, Int.reduceAdd, Int.reduceSub, Int.reduceMul, Int.reduceNeg, Int.reduceToNat, UInt8.reduceToNat, natLit, ty3, ty4, ty9, ty26, ty48, ty55, ty60, ty62, ty100, ty111, ty126]
          have cA := tv.1.cnt
          have cB := tv.2
          refine ih2 (j + 1) ((j : Int) + 1) (tell g nmT (imN ts) (d + 1) t (ks.getD j 0)) o3 C _ _ _ _ _ _ _ _ _ (by omega) rfl (by omega) (hfr.trans fr3) cb3 tb3 ow3 tv.1.len (by omega) (by omega) ?_
          rw [← hfold, List.drop_eq_getElem_cons hlt, getD_of hlt, List.foldl_cons]
        · have t1 : ((j : Int) < ks.length) = False := eq_false (by omega)
          rw [zEv_round hc2, ← hR2]
          simp (config := {contextual := true, maxSteps := 10000000, implicitDefEqProofs := false}) (disch := first | (and_intros <;> omega -splitDisjunctions) | (simp only [List.length_set, List.length_append, List.length_cons, List.length_nil]; and_intros <;> omega -splitDisjunctions) | fail) only [t1, b1, b2, hbb, kbB, k0, k1, k2, k3, k4, k5, k6, apB, Try.f91, go_sem, ↓reduceIte, Nat.reduceEqDiff, Nat.reduceAdd, Nat.reduceMul, Nat.reduceLT, Nat.reduceLeDiff, reduceCtorEq, Int.reduceNe, Int.reduceEq, Int.reduceLT, Int.reduceLE, Int.reduceAdd, Int.reduceSub, Int.reduceMul, Int.reduceNeg, Int.reduceToNat, UInt8.reduceToNat, natLit, ty3, ty4, ty9, ty26, ty48, ty55, ty60, ty62, ty100, ty111, ty126]
          rw [List.drop_of_length_le (by omega), List.foldl_nil] at hfold
          subst hfold
          have p := put_b (hob.ext (Hx.app (L := [.cells (evC (evK 7 false))]))) (by rw [List.length_append]; omega) hbf (evK 7 false) [nv, rv, .sl mB 0 1 g.nodes.length g.nodes.length, .sl tB 0 1 g.nodes.length g.nodes.length, .sl (B.length + 1) 0 8 (t.out.length + 1) (t.out.length + 1)]
          have po := p.own
          rw [List.length_append] at po
          exact ⟨p1.trans ((hfr.trans (Fr.app (by omega))).trans (p.fr _ (by simp))), p.old _ _ (by omega) (Ne.symm h2) (cellsAt_left hbt), _, p.got, po.down (by omega)⟩
    exact key2 (ks.length + 1) 0 0 ⟨T1, s.out ++ [evO (g.nodes.getD k nd0) (⟨#[110]⟩ ++ numT k)]⟩ _ X _ _ _ _ _ _ _ _ _ (by omega) rfl (by omega) (Fr.refl X) p4 p2 p5 hT1 (by simp only; omega) (by simp only [List.length_append, List.length_cons, List.length_nil]; omega) (by rw [List.drop_zero]; exact hF)
  · simp (config := {contextual := true, maxSteps := 10000000, implicitDefEqProofs := false}) (disch := first | (and_intros <;> omega -splitDisjunctions) | (simp only [List.length_set, List.length_append, List.length_cons, List.length_nil]; and_intros <;> omega -splitDisjunctions) | fail) only [hsh, h5, e1, e2, hb, hs, ht, n1, n2, n4, n5, n6, k0, k1, k2, k3, o1, o2, q1, q2, q3, q4, q5, hHH, v0, v1, v2, w0, w1, w2, hl1, z0, z1, z2, z3, kb, kz, kz0, ap, Try.f91, go_sem, ↓reduceIte, Nat.reduceEqDiff, Nat.reduceAdd, Nat.reduceMul, Nat.reduceLT, Nat.reduceLeDiff, reduceCtorEq, Int.reduceNe, Int.reduceEq, Int.reduceLT, Int.reduceLE, Int.reduceAdd, Int.reduceSub, Int.reduceMul, Int.reduceNeg, Int.reduceToNat, UInt8.reduceToNat, natLit, ty3, ty4, ty9, ty26, ty48, ty55, ty60, ty62, ty100, ty111, ty126]
    have hn : imN ts k = ⟨#[]⟩ := by unfold imN; rw [if_neg hsh]
    rw [hn]
    generalize hX : List.set (killV _ o ++ [_]) b _ = X
    have pf : Fr f [tB, b] H X ∧ LH.cellsAt X tB = some (rows boC T1) ∧ LH.cellsAt X mB = some (rows inC ts) ∧ LH.cellsAt X b = some [nv, rv, .sl mB 0 1 g.nodes.length g.nodes.length, .sl tB 0 1 g.nodes.length g.nodes.length, .sl (H.length + 3) 0 8 (s.out.length + 1) (s.out.length + 1)] ∧
        Own f X evC 8 (.sl (H.length + 3) 0 8 (s.out.length + 1) (s.out.length + 1)) (s.out ++ [evO (g.nodes.getD k nd0) (⟨#[]⟩)]) := by rw [← hX]; exact fin _ _ _
    obtain ⟨p1, p2, p3, p4, p5⟩ := pf
    clear hX fin kz kz0
    have hxX : Hx G X := p1.hx hx (by omega) (by simp only [List.mem_cons, List.not_mem_nil, or_false]; rintro c (rfl | rfl) <;> omega)
    have hlX := p1.len
    generalize hF : ks.foldl (tell g nmT (imN ts) (d + 1)) ⟨T1, s.out ++ [evO (g.nodes.getD k nd0) (⟨#[]⟩)]⟩ = FS
    refine at_loopR fun c2 R2 hc2 hR2 => ?_
    have key2 : ∀ (m : Nat) (j : Nat) (jj : Int) (t : TS) (o' : V) (B : LH) (x1 x4 x5 x6 x8 x18 x56 x61 x90 : Option V), ks.length - j < m → jj = j → j ≤ ks.length → Fr f [tB, b] X B → LH.cellsAt B b = some [nv, rv, .sl mB 0 1 g.nodes.length g.nodes.length, .sl tB 0 1 g.nodes.length g.nodes.length, o'] → LH.cellsAt B tB = some (rows boC t.told) → Own f B evC 8 o' t.out → t.told.length = g.nodes.length → cntF t.told ≤ d → t.out.length + wt t.told g.nodes + 2 * (ks.length - j) + 1 ≤ 16777216 → (ks.drop j).foldl (tell g nmT (imN ts) (d + 1)) t = FS →
        Ret (fun w H' => w = und ∧ Fr f [tB, b] H H' ∧ LH.cellsAt H' tB = some (rows boC FS.told) ∧ ∃ o', LH.cellsAt H' b = some [nv, rv, .sl mB 0 1 g.nodes.length g.nodes.length, .sl tB 0 1 g.nodes.length g.nodes.length, o'] ∧ Own f H' evC 8 o' (FS.out ++ [evK 7 false])) (zEv (leaveX (mkR Try.prog cfg ok [0, 1, 4, 5, 6, 8, 18, 56, 61, 87, 88, 89, 90] fl) .any H []) (mkR Try.prog cfg ok [0, 1, 4, 5, 6, 8, 18, 56, 61, 87, 88, 89, 90] fl) (K.code (Code.loop c2) :: K.blk 0 :: R2) .nrm [some (.ptr b 0), x1, x4, x5, x6, x8, x18, x56, x61, some kv, some (.int .i64 ks.length), some (.int .i64 jj), x90] (B)) := by
      intro m
      induction m with
      | zero => intro j jj t o' B x1 x4 x5 x6 x8 x18 x56 x61 x90 hm; omega
      | succ m ih2 =>
        intro j jj t o' B x1 x4 x5 x6 x8 x18 x56 x61 x90 hm hj hle hfr hbb hbt hob htl2 hcn hpot hfold
        subst hj
        have hxB : Hx G B := hfr.hx hxX (by omega) (by simp only [List.mem_cons, List.not_mem_nil, or_false]; rintro c (rfl | rfl) <;> omega)
        have s1 := hfr.cells p3 (by omega) (by simp only [List.mem_cons, List.not_mem_nil, or_false]; omega)
        have hlB := hfr.len
        have b1 := (hob.at evC_len).isTup; have b2 := (hob.at evC_len).one
        have kB := hkA.ext hxB
        have k4 := fun (hp : 0 < ks.length) => kB.con hp
        have k5 := hkA.idx (T := ty Try.prog) (t := 55) (by simp only [elemI, sizeO, ty3, ty55])
        have k6 := kB.load1 0 (fun x => .int .i64 x) (fun _ => rfl)
        have apB := fun L => ap_ev (fl := fl) (hob.ext (Hx.app (L := L))) (by omega)
        have kbB : ∀ L M, LH.cellsAt (killV (B ++ L) o' ++ M) b = some [nv, rv, .sl mB 0 1 g.nodes.length g.nodes.length, .sl tB 0 1 g.nodes.length g.nodes.length, o'] := fun L M => app_old (cellsAt_left hbb) (hob.ext Hx.app) hbf M
        by_cases hlt : j < ks.length
        · have t1 : ((j : Int) < ks.length) = True := eq_true (by omega)
          have kr := kk.2 _ (List.getElem_mem hlt)
          rw [← getD_of hlt 0] at kr
          have tv := tell_inv hg nmT (imN ts) (d + 1) t (ks.getD j 0) htl2 kr.1 kr.2
          obtain ⟨w, C, e3, rfl, fr3, tb3, o3, cb3, ow3⟩ := ihd d (by omega) B t o' (ks.getD j 0).toNat fl f hxB hbb s1 hbt hob htl2 (by omega) hcn (by omega) hf1 hf0 (by omega) (by omega) (by omega) (by omega) (by omega)
          rw [Int.toNat_of_nonneg kr.1] at e3 tb3 ow3
          rw [zEv_round hc2]
          simp (config := {contextual := true, maxSteps := 10000000, implicitDefEqProofs := false}) (disch := first | (and_intros <;> omega -splitDisjunctions) | (simp only [List.length_set, List.length_append, List.length_cons, List.length_nil]; and_intros <;> omega -splitDisjunctions) | fail) only [t1, k0, k1, k2, k3, k4, k5, k6, e3, Try.f91, go_sem, ↓reduceIte, Nat.reduceEqDiff, Nat.reduceAdd, Nat.reduceMul, Nat.reduceLT, Nat.reduceLeDiff, reduceCtorEq, Int.reduceNe, Int.reduceEq, Int.reduceLT, Int.reduceLE, Int.reduceAdd, Int.reduceSub, Int.reduceMul, Int.reduceNeg, Int.reduceToNat, UInt8.reduceToNat, natLit, ty3, ty4, ty9, ty26, ty48, ty55, ty60, ty62, ty100, ty111, ty126]
          have cA := tv.1.cnt
          have cB := tv.2
          refine ih2 (j + 1) ((j : Int) + 1) (tell g nmT (imN ts) (d + 1) t (ks.getD j 0)) o3 C _ _ _ _ _ _ _ _ _ (by omega) rfl (by omega) (hfr.trans fr3) cb3 tb3 ow3 tv.1.len (by omega) (by omega) ?_
          rw [← hfold, List.drop_eq_getElem_cons hlt, getD_of hlt, List.foldl_cons]
        · have t1 : ((j : Int) < ks.length) = False := eq_false (by omega)
          rw [zEv_round hc2, ← hR2]
          simp (config := {contextual := true, maxSteps := 10000000, implicitDefEqProofs := false}) (disch := first | (and_intros <;> omega -splitDisjunctions) | (simp only [List.length_set, List.length_append, List.length_cons, List.length_nil]; and_intros <;> omega -splitDisjunctions) | fail) only [t1, b1, b2, hbb, kbB, k0, k1, k2, k3, k4, k5, k6, apB, Try.f91, go_sem, ↓reduceIte, Nat.reduceEqDiff, Nat.reduceAdd, Nat.reduceMul, Nat.reduceLT, Nat.reduceLeDiff, reduceCtorEq, Int.reduceNe, Int.reduceEq, Int.reduceLT, Int.reduceLE, Int.reduceAdd, Int.reduceSub, Int.reduceMul, Int.reduceNeg, Int.reduceToNat, UInt8.reduceToNat, natLit, ty3, ty4, ty9, ty26, ty48, ty55, ty60, ty62, ty100, ty111, ty126]
          rw [List.drop_of_length_le (by omega), List.foldl_nil] at hfold
          subst hfold
          have p := put_b (hob.ext (Hx.app (L := [.cells (evC (evK 7 false))]))) (by rw [List.length_append]; omega) hbf (evK 7 false) [nv, rv, .sl mB 0 1 g.nodes.length g.nodes.length, .sl tB 0 1 g.nodes.length g.nodes.length, .sl (B.length + 1) 0 8 (t.out.length + 1) (t.out.length + 1)]
          have po := p.own
          rw [List.length_append] at po
          exact ⟨p1.trans ((hfr.trans (Fr.app (by omega))).trans (p.fr _ (by simp))), p.old _ _ (by omega) (Ne.symm h2) (cellsAt_left hbt), _, p.got, po.down (by omega)⟩
    exact key2 (ks.length + 1) 0 0 ⟨T1, s.out ++ [evO (g.nodes.getD k nd0) (⟨#[]⟩)]⟩ _ X _ _ _ _ _ _ _ _ _ (by omega) rfl (by omega) (Fr.refl X) p4 p2 p5 hT1 (by simp only; omega) (by simp only [List.length_append, List.length_cons, List.length_nil]; omega) (by rw [List.drop_zero]; exact hF)
end Go.Proofs.Ytbjpecknlohicaa.Lg
