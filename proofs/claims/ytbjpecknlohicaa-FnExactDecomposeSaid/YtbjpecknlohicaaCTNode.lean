/- What the laws do with nodes and graphs, over the logical machine. No condition. -/
import Derived.Test.YtbjpecknlohicaaCTInt
namespace Go.Proofs.Ytbjpecknlohicaa.Lg
set_option linter.unusedSimpArgs false
set_option linter.unusedVariables false
set_option maxRecDepth 100000
set_option maxHeartbeats 40000000
open Go.Proofs.Ytbjpecknlohicaa

/-- a node -/
structure Nd where
  kind : Int
  tag : ByteArray
  text : ByteArray
  kids : List Int
  deriving DecidableEq
def nd0 : Nd := ⟨0, ⟨#[]⟩, ⟨#[]⟩, []⟩
/-- a node's cells -/
structure NC where
  kind : Int
  tag : ByteArray
  text : ByteArray
  kv : V
def ncC (c : NC) : List V := [.int .i64 c.kind, .str c.tag, .str c.text, c.kv]
theorem ncC_len (c : NC) : (ncC c).length = 4 := rfl
def nc0 : NC := ⟨0, ⟨#[]⟩, ⟨#[]⟩, .nilsl⟩
structure Rel1 (H : LH) (c : NC) (n : Nd) : Prop where
  kind : c.kind = n.kind
  tag : c.tag = n.tag
  text : c.text = n.text
  kids : At H inC 1 c.kv n.kids
structure RelO (fl : Nat) (H : LH) (c : NC) (n : Nd) : Prop where
  kind : c.kind = n.kind
  tag : c.tag = n.tag
  text : c.text = n.text
  kids : Own fl H inC 1 c.kv n.kids
def NAt (H : LH) (v : V) (ns : List Nd) : Prop := ∃ cs, At H ncC 4 v cs ∧ cs.length = ns.length ∧ ∀ i, i < ns.length → Rel1 H (cs.getD i nc0) (ns.getD i nd0)
def NOwn (fl : Nat) (H : LH) (v : V) (ns : List Nd) : Prop := ∃ cs, Own fl H ncC 4 v cs ∧ cs.length = ns.length ∧ ∀ i, i < ns.length → RelO (fl + 1) H (cs.getD i nc0) (ns.getD i nd0)
structure Gr where
  nodes : List Nd
  roots : List Int
  deriving DecidableEq
def GAt (H : LH) (nv rv : V) (g : Gr) : Prop := NAt H nv g.nodes ∧ At H inC 1 rv g.roots
theorem Rel1.ext {H H' : LH} {c : NC} {n : Nd} (h : Rel1 H c n) (e : Hx H H') : Rel1 H' c n := ⟨h.kind, h.tag, h.text, h.kids.ext e⟩
theorem RelO.ext {fl : Nat} {H H' : LH} {c : NC} {n : Nd} (h : RelO fl H c n) (e : Hx H H') : RelO fl H' c n := ⟨h.kind, h.tag, h.text, h.kids.ext e⟩
theorem RelO.at {fl : Nat} {H : LH} {c : NC} {n : Nd} (h : RelO fl H c n) : Rel1 H c n := ⟨h.kind, h.tag, h.text, h.kids.at inC_len⟩
theorem NAt.isTup {H : LH} {v : V} {ns : List Nd} (h : NAt H v ns) : v.isTup = false := by
  obtain ⟨cs, h1, _⟩ := h
  exact h1.isTup
theorem NAt.one {H : LH} {v : V} {ns : List Nd} (h : NAt H v ns) : v.cells = [v] := by
  obtain ⟨cs, h1, _⟩ := h
  exact h1.one
theorem NAt.ext {H H' : LH} {v : V} {ns : List Nd} (h : NAt H v ns) (e : Hx H H') : NAt H' v ns := by
  obtain ⟨cs, h1, h2, h3⟩ := h
  exact ⟨cs, h1.ext e, h2, fun i hi => (h3 i hi).ext e⟩
theorem NOwn.at {fl : Nat} {H : LH} {v : V} {ns : List Nd} (h : NOwn fl H v ns) : NAt H v ns := by
  obtain ⟨cs, h1, h2, h3⟩ := h
  exact ⟨cs, h1.at ncC_len, h2, fun i hi => (h3 i hi).at⟩
theorem NOwn.ext {fl : Nat} {H H' : LH} {v : V} {ns : List Nd} (h : NOwn fl H v ns) (e : Hx H H') : NOwn fl H' v ns := by
  obtain ⟨cs, h1, h2, h3⟩ := h
  exact ⟨cs, h1.ext e, h2, fun i hi => (h3 i hi).ext e⟩
theorem NOwn.down {fl fl' : Nat} {H : LH} {v : V} {ns : List Nd} (h : NOwn fl H v ns) (e : fl' ≤ fl) : NOwn fl' H v ns := by
  obtain ⟨cs, h1, h2, h3⟩ := h
  exact ⟨cs, h1.down e, h2, fun i hi => ⟨(h3 i hi).kind, (h3 i hi).tag, (h3 i hi).text, (h3 i hi).kids.down (by omega)⟩⟩
theorem NOwn.setNe {fl b : Nat} {x : Blk} {H : LH} {v : V} {ns : List Nd} (h : NOwn fl H v ns) (hb : b < fl) : NOwn fl (H.set b x) v ns := by
  obtain ⟨cs, h1, h2, h3⟩ := h
  exact ⟨cs, h1.setNe hb, h2, fun i hi => ⟨(h3 i hi).kind, (h3 i hi).tag, (h3 i hi).text, (h3 i hi).kids.setNe (by omega)⟩⟩
theorem GAt.ext {H H' : LH} {nv rv : V} {g : Gr} (h : GAt H nv rv g) (e : Hx H H') : GAt H' nv rv g := ⟨h.1.ext e, h.2.ext e⟩
theorem run_szIntS (v : V) (xs : List Int) (left : Int) (fl : Nat) (H : LH) (h : At H inC 1 v xs) (h0 : 0 ≤ left) (h2 : left ≤ 1048576) (hx : xs.length ≤ 9223372036854775807) :
    run 67 [v, .int .i64 left] fl H = some (.int .i64 (if left < xs.length then -1 else left - xs.length), H) := by
  have f1 := h.isTup; have f2 := h.len; have f3 := h.lenOk ty55
  unfold run
  rw [Run_z Try.func67 rfl (by rfl : ok 67 = true) (by rfl : cfg.keep 67 = [0, 1, 4, 10]) (by rfl : cfg.mode 67 = .pure)]
  simp (config := {contextual := true, maxSteps := 10000000, implicitDefEqProofs := false}) (disch := first | (and_intros <;> omega -splitDisjunctions) | (simp only [List.length_set, List.length_append, List.length_cons, List.length_nil]; and_intros <;> omega -splitDisjunctions) | fail) only [f1, f2, f3, Try.f67, go_sem, ↓reduceIte, Nat.reduceEqDiff, Nat.reduceAdd, Nat.reduceMul, Nat.reduceLT, Nat.reduceLeDiff, reduceCtorEq, Int.reduceNe, Int.reduceEq, Int.reduceLT, Int.reduceLE, Int.reduceAdd, Int.reduceSub, Int.reduceMul, Int.reduceNeg, Int.reduceToNat, UInt8.reduceToNat, natLit, ty3, ty55]
  by_cases hl : left < xs.length
  · rw [if_pos (by omega), if_pos hl]
  · rw [if_neg (by omega), if_neg hl]
def ndW (n : Nd) : Int := n.tag.size + n.text.size + n.kids.length
def ndFit (n : Nd) : Prop := n.tag.size ≤ 9223372036854775807 ∧ n.text.size ≤ 9223372036854775807 ∧ n.kids.length ≤ 9223372036854775807
theorem run_szNode (c : NC) (n : Nd) (left : Int) (fl : Nat) (H : LH) (h : Rel1 H c n) (h0 : 0 ≤ left) (h2 : left ≤ 1048576) (hf : ndFit n) :
    run 97 [.agg (ncC c), .int .i64 left] fl H = some (.int .i64 (if left < ndW n then -1 else left - ndW n), H) := by
  have e1 := fun L l hl hl2 fl => run_szIntS c.kv n.kids l fl (H ++ L) (h.kids.left) hl hl2 hf.2.2
  have k1 := h.kind; have k2 := h.tag; have k3 := h.text
  have f1 := h.kids.isTup
  unfold ndFit at hf
  obtain ⟨ck, ct, cx, kv⟩ := c
  dsimp only [ncC] at *
  subst k1; subst k2; subst k3
  unfold run at *
  rw [Run_z Try.func97 rfl (by rfl : ok 97 = true) (by rfl : cfg.keep 97 = [0, 1, 2, 4, 11, 18, 24]) (by rfl : cfg.mode 97 = .pure)]
  simp (config := {contextual := true, maxSteps := 10000000, implicitDefEqProofs := false}) (disch := first | (and_intros <;> omega -splitDisjunctions) | (simp only [List.length_set, List.length_append, List.length_cons, List.length_nil]; and_intros <;> omega -splitDisjunctions) | fail) only [e1, f1, Try.f97, go_sem, ↓reduceIte, Nat.reduceEqDiff, Nat.reduceAdd, Nat.reduceMul, Nat.reduceLT, Nat.reduceLeDiff, reduceCtorEq, Int.reduceNe, Int.reduceEq, Int.reduceLT, Int.reduceLE, Int.reduceAdd, Int.reduceSub, Int.reduceMul, Int.reduceNeg, Int.reduceToNat, UInt8.reduceToNat, natLit, ty3, ty9, ty55, ty134]
  unfold ndW
  grind
theorem run_toNode (c : NC) (n : Nd) (fl : Nat) (H : LH) (h : Rel1 H c n) (hx : n.kids.length ≤ 1048576) :
    Ret (fun v H' => ∃ kv, v = .agg (ncC ⟨n.kind, n.tag, n.text, kv⟩) ∧ Hx H H' ∧ Own H.length H' inC 1 kv n.kids) (run 98 [.agg (ncC c)] fl H) := by
  have e1 := fun L fl => run_toIntS c.kv n.kids fl (H ++ L) (h.kids.left) hx
  have k1 := h.kind; have k2 := h.tag; have k3 := h.text
  have f1 := h.kids.isTup
  have f2 := h.kids.one
  obtain ⟨ck, ct, cx, kv⟩ := c
  dsimp only [ncC] at *
  subst k1; subst k2; subst k3
  unfold run at *
  rw [Run_z Try.func98 rfl (by rfl : ok 98 = true) (by rfl : cfg.keep 98 = [0, 1, 2, 3]) (by rfl : cfg.mode 98 = .fresh)]
  simp (config := {contextual := true, maxSteps := 10000000, implicitDefEqProofs := false}) (disch := first | (and_intros <;> omega -splitDisjunctions) | (simp only [List.length_set, List.length_append, List.length_cons, List.length_nil]; and_intros <;> omega -splitDisjunctions) | fail) only [e1, f1, f2, Try.f98, go_sem, ↓reduceIte, Nat.reduceEqDiff, Nat.reduceAdd, Nat.reduceMul, Nat.reduceLT, Nat.reduceLeDiff, reduceCtorEq, Int.reduceNe, Int.reduceEq, Int.reduceLT, Int.reduceLE, Int.reduceAdd, Int.reduceSub, Int.reduceMul, Int.reduceNeg, Int.reduceToNat, UInt8.reduceToNat, natLit, ty3, ty9, ty55, ty100, ty134]
  exact ⟨_, rfl, Hx.app, .inr ⟨H.length + 3, rfl, by rw [cellsAt_app]; rfl, by omega⟩⟩
theorem run_szNodeS (v : V) (ns : List Nd) (left : Int) (fl : Nat) (H : LH) (h : NAt H v ns) (h0 : 0 ≤ left) (h2 : left ≤ 1048576) (hx : ns.length ≤ 9223372036854775807) (hf : ∀ x ∈ ns, ndFit x) :
    run 66 [v, .int .i64 left] fl H = some (.int .i64 (if left < ns.length + sumZ ndW ns then -1 else left - (ns.length + sumZ ndW ns)), H) := by
  obtain ⟨cs, hA, hlen, hR⟩ := h
  have e1 := fun i (hi : i < cs.length) l hl hl2 fl => run_szNode (cs.getD i nc0) (ns.getD i nd0) l fl H (hR i (by omega)) hl hl2 (by rw [getD_of (by omega)]; exact hf _ (List.getElem_mem _))
  have f1 := hA.isTup; have f2 := hA.len; have f3 := hA.lenOk ty54
  have f4 := fun (hp : 0 < cs.length) => hA.con hp
  have f5 := hA.idx (T := ty Try.prog) (t := 54) (by simp only [elemI, sizeO, ty3, ty9, ty54, ty55, ty134])
  have f6 := hA.loadD ncC_len nc0
  have w0 : ∀ x, 0 ≤ ndW x := fun x => by unfold ndW; omega
  have w1 := sumZ_nonneg w0 ns
  unfold run at *
  rw [Run_z Try.func66 rfl (by rfl : ok 66 = true) (by rfl : cfg.keep 66 = [0, 1, 4, 5, 11, 15, 25]) (by rfl : cfg.mode 66 = .pure)]
  simp (config := {contextual := true, maxSteps := 10000000, implicitDefEqProofs := false}) (disch := first | (and_intros <;> omega -splitDisjunctions) | (simp only [List.length_set, List.length_append, List.length_cons, List.length_nil]; and_intros <;> omega -splitDisjunctions) | fail) only [f1, f2, f3, Try.f66, go_sem, ↓reduceIte, Nat.reduceEqDiff, Nat.reduceAdd, Nat.reduceMul, Nat.reduceLT, Nat.reduceLeDiff, reduceCtorEq, Int.reduceNe, Int.reduceEq, Int.reduceLT, Int.reduceLE, Int.reduceAdd, Int.reduceSub, Int.reduceMul, Int.reduceNeg, Int.reduceToNat, UInt8.reduceToNat, natLit, ty3, ty9, ty54, ty55, ty134]
  refine ite_E (fun hl => ?_) (fun hl => ?_)
  · rw [if_pos (by omega)]
  refine at_loopE fun c0 R hc0 hR => ?_
  have key : ∀ (d i : Nat) (x4 x11 x15 x25 : Option V) (l j : Int), ns.length - i ≤ d → i ≤ ns.length → 0 ≤ l → l ≤ 1048576 → j = i →
      zEv (leaveX (mkR Try.prog cfg ok [0, 1, 4, 5, 11, 15, 25] H.length) .pure H [ResultVar.tmp 4]) (mkR Try.prog cfg ok [0, 1, 4, 5, 11, 15, 25] H.length) (K.code (Code.loop c0) :: K.blk 0 :: R) .nrm [some v, some (.int .i64 l), x4, some (.int .i64 j), x11, x15, x25] H =
      some (.int .i64 (if l < sumZ ndW (ns.drop i) then -1 else l - sumZ ndW (ns.drop i)), H) := by
    intro d
    induction d with
    | zero =>
      intro i x4 x11 x15 x25 l j hd hi hl0 hl1 hj
      subst hj
      rw [zEv_round hc0, ← hR]
      simp (config := {contextual := true, maxSteps := 10000000, implicitDefEqProofs := false}) (disch := first | (and_intros <;> omega -splitDisjunctions) | (simp only [List.length_set, List.length_append, List.length_cons, List.length_nil]; and_intros <;> omega -splitDisjunctions) | fail) only [e1, f1, f2, f3, f4, f5, f6, Try.f66, go_sem, ↓reduceIte, Nat.reduceEqDiff, Nat.reduceAdd, Nat.reduceMul, Nat.reduceLT, Nat.reduceLeDiff, reduceCtorEq, Int.reduceNe, Int.reduceEq, Int.reduceLT, Int.reduceLE, Int.reduceAdd, Int.reduceSub, Int.reduceMul, Int.reduceNeg, Int.reduceToNat, UInt8.reduceToNat, natLit, ty3, ty9, ty54, ty55, ty134]
      refine ite_E (fun h => by omega) (fun _ => ?_)
      rw [List.drop_of_length_le (by omega), sumZ_nil, if_neg (by omega), Int.sub_zero]
    | succ d ih =>
      intro i x4 x11 x15 x25 l j hd hi hl0 hl1 hj
      subst hj
      rw [zEv_round hc0, ← hR]
      simp (config := {contextual := true, maxSteps := 10000000, implicitDefEqProofs := false}) (disch := first | (and_intros <;> omega -splitDisjunctions) | (simp only [List.length_set, List.length_append, List.length_cons, List.length_nil]; and_intros <;> omega -splitDisjunctions) | fail) only [e1, f1, f2, f3, f4, f5, f6, Try.f66, go_sem, ↓reduceIte, Nat.reduceEqDiff, Nat.reduceAdd, Nat.reduceMul, Nat.reduceLT, Nat.reduceLeDiff, reduceCtorEq, Int.reduceNe, Int.reduceEq, Int.reduceLT, Int.reduceLE, Int.reduceAdd, Int.reduceSub, Int.reduceMul, Int.reduceNeg, Int.reduceToNat, UInt8.reduceToNat, natLit, ty3, ty9, ty54, ty55, ty134]
      rw [hR]
      refine ite_E (fun hlt => ?_) (fun hge => ?_)
      · have hlt : i < ns.length := by omega
        rw [List.drop_eq_getElem_cons hlt, sumZ_cons, ← getD_of hlt nd0]
        have w2 := w0 (ns.getD i nd0)
        have w4 := sumZ_nonneg w0 (ns.drop (i + 1))
        by_cases hw : l < ndW (ns.getD i nd0)
        · rw [if_pos hw, if_pos (by omega), if_pos (by omega)]
        · rw [if_neg hw, if_neg (show ¬ l - ndW (ns.getD i nd0) < 0 by omega)]
          refine (ih (i + 1) _ _ _ _ (l - ndW (ns.getD i nd0)) ((i : Int) + 1) (by omega) (by omega) (by omega) (by omega) rfl).trans ?_
          by_cases h9 : l - ndW (ns.getD i nd0) < sumZ ndW (ns.drop (i + 1))
          · rw [if_pos h9, if_pos (by omega)]
          · rw [if_neg h9, if_neg (by omega)]; congr 3; omega
      · rw [List.drop_of_length_le (by omega), sumZ_nil, if_neg (by omega), Int.sub_zero]
  refine (key ns.length 0 _ _ _ _ (left - cs.length) _ (by omega) (Nat.zero_le _) (by omega) (by omega) rfl).trans ?_
  rw [List.drop_zero, hlen]
  by_cases h9 : left - ns.length < sumZ ndW ns
  · rw [if_pos h9, if_pos (by omega)]
  · rw [if_neg h9, if_neg (by omega)]; congr 3; omega
theorem run_eqNode (a b : NC) (n m : Nd) (fl : Nat) (H : LH) (ha : Rel1 H a n) (hb : Rel1 H b m) (h1 : n.kids.length ≤ 1099511627776) (h2 : m.kids.length ≤ 1099511627776) :
    run 102 [.agg (ncC a), .agg (ncC b)] fl H = some (.bool (decide (n = m)), H) := by
  have e1 := fun L fl => run_eqIntS a.kv b.kv n.kids m.kids fl (H ++ L) ha.kids.left hb.kids.left h1 h2
  have k1 := ha.kind; have k2 := ha.tag; have k3 := ha.text
  have j1 := hb.kind; have j2 := hb.tag; have j3 := hb.text
  have f1 := ha.kids.isTup; have f2 := hb.kids.isTup
  obtain ⟨ck, ct, cx, kv⟩ := a
  obtain ⟨dk, dt, dx, dv⟩ := b
  dsimp only [ncC] at *
  subst k1; subst k2; subst k3; subst j1; subst j2; subst j3
  unfold run at *
  rw [Run_z Try.func102 rfl (by rfl : ok 102 = true) (by rfl : cfg.keep 102 = [0, 1, 2, 3, 4, 9, 14, 19, 25]) (by rfl : cfg.mode 102 = .pure)]
  simp (config := {contextual := true, maxSteps := 10000000, implicitDefEqProofs := false}) (disch := first | (and_intros <;> omega -splitDisjunctions) | (simp only [List.length_set, List.length_append, List.length_cons, List.length_nil]; and_intros <;> omega -splitDisjunctions) | fail) only [e1, f1, f2, Try.f102, go_sem, ↓reduceIte, Nat.reduceEqDiff, Nat.reduceAdd, Nat.reduceMul, Nat.reduceLT, Nat.reduceLeDiff, reduceCtorEq, Int.reduceNe, Int.reduceEq, Int.reduceLT, Int.reduceLE, Int.reduceAdd, Int.reduceSub, Int.reduceMul, Int.reduceNeg, Int.reduceToNat, UInt8.reduceToNat, natLit, ty3, ty4, ty9, ty55, ty100]
  obtain ⟨nk, nt, nx, nl⟩ := n
  obtain ⟨mk, mt, mx, ml⟩ := m
  simp only [Nd.mk.injEq]
  grind
theorem run_eqNodeS (v w : V) (ns ms : List Nd) (fl : Nat) (H : LH) (h : NAt H v ns) (h' : NAt H w ms) (hx : ns.length ≤ 1099511627776) (hy : ms.length ≤ 1099511627776)
    (kx : ∀ n ∈ ns, n.kids.length ≤ 1099511627776) (ky : ∀ n ∈ ms, n.kids.length ≤ 1099511627776) :
    run 76 [v, w] fl H = some (.bool (decide (ns = ms)), H) := by
  obtain ⟨cs, hA, hlen, hR⟩ := h
  obtain ⟨ds, hB, hlen', hR'⟩ := h'
  have e1 := fun i (hi : i < cs.length ∧ i < ds.length) fl => run_eqNode (cs.getD i nc0) (ds.getD i nc0) (ns.getD i nd0) (ms.getD i nd0) fl H (hR i (by omega)) (hR' i (by omega)) (by rw [getD_of (by omega)]; exact kx _ (List.getElem_mem _)) (by rw [getD_of (by omega)]; exact ky _ (List.getElem_mem _))
  have f1 := hA.isTup; have f2 := hA.len; have f3 := hA.lenOk ty60
  have f4 := fun (hp : 0 < cs.length) => hA.con hp
  have f5 := hA.idx (T := ty Try.prog) (t := 60) (by simp only [elemI, sizeO, ty3, ty9, ty55, ty60, ty100])
  have f6 := hA.loadD ncC_len nc0
  have g1 := hB.isTup; have g2 := hB.len; have g3 := hB.lenOk ty60
  have g4 := fun (hp : 0 < ds.length) => hB.con hp
  have g5 := hB.idx (T := ty Try.prog) (t := 60) (by simp only [elemI, sizeO, ty3, ty9, ty55, ty60, ty100])
  have g6 := hB.loadD ncC_len nc0
  unfold run at *
  rw [Run_z Try.func76 rfl (by rfl : ok 76 = true) (by rfl : cfg.keep 76 = [0, 1, 4, 5, 10, 14, 26]) (by rfl : cfg.mode 76 = .pure)]
  simp (config := {contextual := true, maxSteps := 10000000, implicitDefEqProofs := false}) (disch := first | (and_intros <;> omega -splitDisjunctions) | (simp only [List.length_set, List.length_append, List.length_cons, List.length_nil]; and_intros <;> omega -splitDisjunctions) | fail) only [f1, f2, f3, g1, g2, g3, Try.f76, go_sem, ↓reduceIte, Nat.reduceEqDiff, Nat.reduceAdd, Nat.reduceMul, Nat.reduceLT, Nat.reduceLeDiff, reduceCtorEq, Int.reduceNe, Int.reduceEq, Int.reduceLT, Int.reduceLE, Int.reduceAdd, Int.reduceSub, Int.reduceMul, Int.reduceNeg, Int.reduceToNat, UInt8.reduceToNat, natLit, ty3, ty4, ty9, ty55, ty60, ty100]
  by_cases hl : cs.length = ds.length
  · have hl' : ((cs.length : Int) = (ds.length : Int)) := by omega
    rw [if_pos hl']
    refine at_loopE fun c0 R hc0 hR => ?_
    have key : ∀ (d i : Nat) (x4 x10 x14 x26 : Option V) (j : Int), ns.length - i ≤ d → i ≤ ns.length → j = i →
        zEv (leaveX (mkR Try.prog cfg ok [0, 1, 4, 5, 10, 14, 26] H.length) .pure H [ResultVar.tmp 4]) (mkR Try.prog cfg ok [0, 1, 4, 5, 10, 14, 26] H.length) (K.code (Code.loop c0) :: K.blk 0 :: R) .nrm [some v, some w, x4, some (.int .i64 j), x10, x14, x26] H = some (.bool (decide (ns.drop i = ms.drop i)), H) := by
      intro d
      induction d with
      | zero =>
        intro i x4 x10 x14 x26 j hd hi hj
        subst hj
        rw [zEv_round hc0, ← hR]
        simp (config := {contextual := true, maxSteps := 10000000, implicitDefEqProofs := false}) (disch := first | (and_intros <;> omega -splitDisjunctions) | (simp only [List.length_set, List.length_append, List.length_cons, List.length_nil]; and_intros <;> omega -splitDisjunctions) | fail) only [e1, f1, f2, f3, f4, f5, f6, g1, g2, g3, g4, g5, g6, Try.f76, go_sem, ↓reduceIte, Nat.reduceEqDiff, Nat.reduceAdd, Nat.reduceMul, Nat.reduceLT, Nat.reduceLeDiff, reduceCtorEq, Int.reduceNe, Int.reduceEq, Int.reduceLT, Int.reduceLE, Int.reduceAdd, Int.reduceSub, Int.reduceMul, Int.reduceNeg, Int.reduceToNat, UInt8.reduceToNat, natLit, ty3, ty4, ty9, ty55, ty60, ty100]
        refine ite_E (fun h => by omega) (fun _ => ?_)
        rw [List.drop_of_length_le (by omega), List.drop_of_length_le (by omega)]
        rfl
      | succ d ih =>
        intro i x4 x10 x14 x26 j hd hi hj
        subst hj
        rw [zEv_round hc0, ← hR]
        simp (config := {contextual := true, maxSteps := 10000000, implicitDefEqProofs := false}) (disch := first | (and_intros <;> omega -splitDisjunctions) | (simp only [List.length_set, List.length_append, List.length_cons, List.length_nil]; and_intros <;> omega -splitDisjunctions) | fail) only [e1, f1, f2, f3, f4, f5, f6, g1, g2, g3, g4, g5, g6, Try.f76, go_sem, ↓reduceIte, Nat.reduceEqDiff, Nat.reduceAdd, Nat.reduceMul, Nat.reduceLT, Nat.reduceLeDiff, reduceCtorEq, Int.reduceNe, Int.reduceEq, Int.reduceLT, Int.reduceLE, Int.reduceAdd, Int.reduceSub, Int.reduceMul, Int.reduceNeg, Int.reduceToNat, UInt8.reduceToNat, natLit, ty3, ty4, ty9, ty55, ty60, ty100]
        rw [hR]
        refine ite_E (fun hlt => ?_) (fun hge => ?_)
        · have hlt : i < ns.length := by omega
          have hlt' : i < ms.length := by omega
          rw [List.drop_eq_getElem_cons hlt, List.drop_eq_getElem_cons hlt', getD_of hlt, getD_of hlt']
          refine ite_E2 (fun hne => ?_) (fun heq => ?_)
          · rw [decide_eq_false (fun e => hne (List.cons.inj e).1)]
          · refine (ih (i + 1) _ _ _ _ ((i : Int) + 1) (by omega) (by omega) rfl).trans ?_
            simp only [heq, List.cons.injEq, true_and]
        · rw [List.drop_of_length_le (by omega), List.drop_of_length_le (by omega)]
          rfl
    refine (key ns.length 0 _ _ _ _ _ (by omega) (Nat.zero_le _) rfl).trans ?_
    rw [List.drop_zero, List.drop_zero]
  · have hl' : ¬ ((cs.length : Int) = (ds.length : Int)) := by omega
    have h2 : ¬ ns = ms := fun e => hl (by rw [hlen, hlen', e])
    rw [if_neg hl', decide_eq_false h2]
theorem run_toNodeS (v : V) (ns : List Nd) (fl : Nat) (H : LH) (h : NAt H v ns) (hx : ns.length ≤ 1048576) (kx : ∀ n ∈ ns, n.kids.length ≤ 1048576) :
    Ret (fun w H' => Hx H H' ∧ NOwn H.length H' w ns) (run 70 [v] fl H) := by
  obtain ⟨cs, hA, hlen, hR⟩ := h
  have f1 := hA.isTup; have f2 := hA.len; have f3 := hA.lenOk ty54
  unfold run
  rw [Run_z Try.func70 rfl (by rfl : ok 70 = true) (by rfl : cfg.keep 70 = [0, 2, 3, 4, 11]) (by rfl : cfg.mode 70 = .fresh)]
  simp (config := {contextual := true, maxSteps := 10000000, implicitDefEqProofs := false}) (disch := first | (and_intros <;> omega -splitDisjunctions) | (simp only [List.length_set, List.length_append, List.length_cons, List.length_nil]; and_intros <;> omega -splitDisjunctions) | fail) only [f1, f2, f3, Try.f70, go_sem, ↓reduceIte, Nat.reduceEqDiff, Nat.reduceAdd, Nat.reduceMul, Nat.reduceLT, Nat.reduceLeDiff, reduceCtorEq, Int.reduceNe, Int.reduceEq, Int.reduceLT, Int.reduceLE, Int.reduceAdd, Int.reduceSub, Int.reduceMul, Int.reduceNeg, Int.reduceToNat, UInt8.reduceToNat, natLit, ty3, ty9, ty54, ty55, ty60, ty100, ty134]
  refine at_loopR fun c0 R hc0 hR0 => ?_
  have key : ∀ (d i : Nat) (x11 : Option V) (j : Int) (es : List NC) (H1 : LH), ns.length - i ≤ d → i ≤ ns.length → j = i → es.length = ns.length → Hx H H1 → H1.cellsAt H.length = some (rows ncC es) → (∀ k, k < i → RelO (H.length + 1) H1 (es.getD k nc0) (ns.getD k nd0)) →
      Ret (fun w H' => Hx H H' ∧ NOwn H.length H' w ns) (zEv (leaveX (mkR Try.prog cfg ok [0, 2, 3, 4, 11] H.length) .fresh H [ResultVar.tmp 2]) (mkR Try.prog cfg ok [0, 2, 3, 4, 11] H.length) (K.code (Code.loop c0) :: K.blk 0 :: R) .nrm
        [some v, some .nilsl, some (.sl H.length 0 4 ns.length ns.length), some (.int .i64 j), x11] H1) := by
    intro d
    induction d with
    | zero =>
      intro i x11 j es H1 hd hi hj hel hx1 hc hk
      subst hj
      rw [zEv_round hc0, ← hR0]
      simp (config := {contextual := true, maxSteps := 10000000, implicitDefEqProofs := false}) (disch := first | (and_intros <;> omega -splitDisjunctions) | (simp only [List.length_set, List.length_append, List.length_cons, List.length_nil]; and_intros <;> omega -splitDisjunctions) | fail) only [f1, f2, f3, Try.f70, go_sem, ↓reduceIte, Nat.reduceEqDiff, Nat.reduceAdd, Nat.reduceMul, Nat.reduceLT, Nat.reduceLeDiff, reduceCtorEq, Int.reduceNe, Int.reduceEq, Int.reduceLT, Int.reduceLE, Int.reduceAdd, Int.reduceSub, Int.reduceMul, Int.reduceNeg, Int.reduceToNat, UInt8.reduceToNat, natLit, ty3, ty9, ty54, ty55, ty60, ty100, ty134]
      refine Ret_ite (fun h => by omega) (fun _ => ?_)
      rw [Ret_some]
      exact ⟨hx1, es, .inr ⟨H.length, by rw [hel], hc, Nat.le_refl _⟩, hel, fun k hk2 => hk k (by omega)⟩
    | succ d ih =>
      intro i x11 j es H1 hd hi hj hel hx1 hc hk
      subst hj
      have f4 := fun (hp : 0 < cs.length) => (hA.ext hx1).con hp
      have f5 := hA.idx (T := ty Try.prog) (t := 54) (by simp only [elemI, sizeO, ty3, ty9, ty54, ty55, ty134])
      have f6 := (hA.ext hx1).loadD ncC_len nc0
      rw [zEv_round hc0, ← hR0]
      simp (config := {contextual := true, maxSteps := 10000000, implicitDefEqProofs := false}) (disch := first | (and_intros <;> omega -splitDisjunctions) | (simp only [List.length_set, List.length_append, List.length_cons, List.length_nil]; and_intros <;> omega -splitDisjunctions) | fail) only [f1, f2, f3, f4, f5, f6, hlen, Try.f70, go_sem, ↓reduceIte, Nat.reduceEqDiff, Nat.reduceAdd, Nat.reduceMul, Nat.reduceLT, Nat.reduceLeDiff, reduceCtorEq, Int.reduceNe, Int.reduceEq, Int.reduceLT, Int.reduceLE, Int.reduceAdd, Int.reduceSub, Int.reduceMul, Int.reduceNeg, Int.reduceToNat, UInt8.reduceToNat, natLit, ty3, ty9, ty54, ty55, ty60, ty100, ty134]
      refine Ret_ite (fun hlt => ?_) (fun hge => ?_)
      · have hlt : i < ns.length := by omega
        refine zS_call (run_toNode (cs.getD i nc0) (ns.getD i nd0) _ H1 ((hR i hlt).ext hx1) (by rw [getD_of hlt]; exact kx _ (List.getElem_mem _))) ?_
        rintro _ H2 ⟨kv, rfl, hx2, ho2⟩
        have hl1 := hx1.len
        have hl2 := hx2.len
        have hb1 := cellsAt_lt hc
        have hc2 := hx2.cells hc
        have g1 := rows_len ncC_len es
        rw [hel] at g1
        have k1 := (ho2.at inC_len).isTup
        have k2 := (ho2.at inC_len).one
        have put : putAt (rows ncC es) (i * 4) (ncC ⟨(ns.getD i nd0).kind, (ns.getD i nd0).tag, (ns.getD i nd0).text, kv⟩) = rows ncC (es.set i ⟨(ns.getD i nd0).kind, (ns.getD i nd0).tag, (ns.getD i nd0).text, kv⟩) := by
          exact rows_putD (enc := ncC) (j := 0) (xs := es) ncC_len nc0 i (by omega) (ws := ncC ⟨(ns.getD i nd0).kind, (ns.getD i nd0).tag, (ns.getD i nd0).text, kv⟩) (by simp [ncC_len]) _ rfl
        have hpl : ∀ c : NC, (ncC c).length = 4 := ncC_len
        simp (config := {contextual := true, maxSteps := 10000000, implicitDefEqProofs := false}) (disch := first | (and_intros <;> omega -splitDisjunctions) | (simp only [List.length_set, List.length_append, List.length_cons, List.length_nil]; and_intros <;> omega -splitDisjunctions) | fail) only [hc2, g1, put, hpl, k1, k2, hlen, Try.f70, go_sem, ↓reduceIte, Nat.reduceEqDiff, Nat.reduceAdd, Nat.reduceMul, Nat.reduceLT, Nat.reduceLeDiff, reduceCtorEq, Int.reduceNe, Int.reduceEq, Int.reduceLT, Int.reduceLE, Int.reduceAdd, Int.reduceSub, Int.reduceMul, Int.reduceNeg, Int.reduceToNat, UInt8.reduceToNat, natLit, ty3, ty9, ty54, ty55, ty60, ty100, ty134]
        rw [hR0]
        refine ih (i + 1) _ _ (es.set i ⟨(ns.getD i nd0).kind, (ns.getD i nd0).tag, (ns.getD i nd0).text, kv⟩) _ (by omega) (by omega) rfl (by simp [hel]) ((hx1.trans hx2).set (Nat.le_refl _)) (by rw [cellsAt_set (by omega)]) ?_
        intro k hki
        have hown : ∀ {c : NC} {n : Nd}, RelO (H.length + 1) H2 c n → RelO (H.length + 1) (H2.set H.length (.cells (rows ncC (es.set i ⟨(ns.getD i nd0).kind, (ns.getD i nd0).tag, (ns.getD i nd0).text, kv⟩)))) c n := fun h => ⟨h.kind, h.tag, h.text, h.kids.setNe (Nat.lt_succ_self _)⟩
        by_cases hke : k = i
        · subst hke
          have e : ∀ X : NC, (es.set k X).getD k nc0 = X := fun X => by rw [List.getD_eq_getElem?_getD, List.getElem?_set_self (by omega), Option.getD_some]
          rw [e]
          exact hown ⟨rfl, rfl, rfl, ho2.down (by omega)⟩
        · have := hk k (by omega)
          have e : (es.set i ⟨(ns.getD i nd0).kind, (ns.getD i nd0).tag, (ns.getD i nd0).text, kv⟩).getD k nc0 = es.getD k nc0 := by
            rw [List.getD_eq_getElem?_getD, List.getElem?_set_ne (fun e => hke e.symm), ← List.getD_eq_getElem?_getD]
          rw [e]
          exact hown (this.ext hx2)
      · rw [Ret_some]
        exact ⟨hx1, es, .inr ⟨H.length, by rw [hel], hc, Nat.le_refl _⟩, hel, fun k hk2 => hk k (by omega)⟩
  have go := fun x11 => key ns.length 0 x11 0 (List.replicate ns.length nc0) (H ++ [.cells (rows ncC (List.replicate ns.length nc0))]) (by omega) (Nat.zero_le _) rfl (by simp) Hx.app (by rw [cellsAt_app0]; rfl) (fun k hk => by omega)
  rw [rows_replicate] at go
  rw [hlen]
  exact go _
theorem run_toGraph (nv rv : V) (g : Gr) (fl : Nat) (H : LH) (h : GAt H nv rv g) (hx : g.nodes.length ≤ 1048576) (kx : ∀ n ∈ g.nodes, n.kids.length ≤ 1048576) (hr : g.roots.length ≤ 1048576) :
    Ret (fun w H' => ∃ nv' rv', w = .agg [nv', rv'] ∧ Hx H H' ∧ NOwn H.length H' nv' g.nodes ∧ Own H.length H' inC 1 rv' g.roots) (run 34 [.agg [nv, rv]] fl H) := by
  have f1 := h.1.isTup
  have f2 := h.2.isTup
  unfold run
  rw [Run_z Try.func34 rfl (by rfl : ok 34 = true) (by rfl : cfg.keep 34 = [0, 1, 2, 3]) (by rfl : cfg.mode 34 = .fresh)]
  simp (config := {contextual := true, maxSteps := 10000000, implicitDefEqProofs := false}) (disch := first | (and_intros <;> omega -splitDisjunctions) | (simp only [List.length_set, List.length_append, List.length_cons, List.length_nil]; and_intros <;> omega -splitDisjunctions) | fail) only [f1, f2, Try.f34, go_sem, ↓reduceIte, Nat.reduceEqDiff, Nat.reduceAdd, Nat.reduceMul, Nat.reduceLT, Nat.reduceLeDiff, reduceCtorEq, Int.reduceNe, Int.reduceEq, Int.reduceLT, Int.reduceLE, Int.reduceAdd, Int.reduceSub, Int.reduceMul, Int.reduceNeg, Int.reduceToNat, UInt8.reduceToNat, natLit, ty3, ty9, ty54, ty55, ty57, ty60, ty62, ty100, ty134]
  refine zS_call (run_toNodeS nv g.nodes _ _ (h.1.ext Hx.app) hx kx) ?_
  rintro w H2 ⟨hx2, ho⟩
  have hxx : Hx H H2 := Hx.app.trans hx2
  have c2 : H2.cellsAt (H.length + 2) = some [.nilsl, .nilsl] := hx2.cells (by rw [cellsAt_app]; rfl)
  have c1 : H2.cellsAt (H.length + 1) = some [.nilsl, .nilsl] := hx2.cells (by rw [cellsAt_app]; rfl)
  have c0 : H2.cellsAt H.length = some [nv, rv] := hx2.cells (by rw [cellsAt_app0]; rfl)
  have k1 := ho.at.isTup; have k2 := ho.at.one
  have ll := hx2.len
  simp only [List.length_append, List.length_cons, List.length_nil] at ll ho
  have e1 := fun fl X => run_toIntS rv g.roots fl (H2.set (H.length + 2) X) (h.2.ext (hxx.set (by omega))) hr
  unfold run at e1
  simp (config := {contextual := true, maxSteps := 10000000, implicitDefEqProofs := false}) (disch := first | (and_intros <;> omega -splitDisjunctions) | (simp only [List.length_set, List.length_append, List.length_cons, List.length_nil]; and_intros <;> omega -splitDisjunctions) | fail) only [e1, c0, c1, c2, k1, k2, cellsAt_set, cellsAt_set_ne, cellsAt_old, set_old, Try.f34, go_sem, ↓reduceIte, Nat.reduceEqDiff, Nat.reduceAdd, Nat.reduceMul, Nat.reduceLT, Nat.reduceLeDiff, reduceCtorEq, Int.reduceNe, Int.reduceEq, Int.reduceLT, Int.reduceLE, Int.reduceAdd, Int.reduceSub, Int.reduceMul, Int.reduceNeg, Int.reduceToNat, UInt8.reduceToNat, natLit, ty3, ty9, ty54, ty55, ty57, ty60, ty62, ty100, ty134]
  refine ⟨w, _, rfl, ((hxx.set (by omega)).set (by omega)).trans Hx.app, (((ho.setNe (by omega)).setNe (by omega)).ext Hx.app).down (by omega), .inr ⟨H2.length, rfl, ?_, by omega⟩⟩
  have := cellsAt_app0 ((List.set H2 (List.length H + 2) (Blk.cells [w, V.sl (List.length H2) 0 1 g.roots.length g.roots.length])).set (List.length H + 1) (Blk.cells [w, V.sl (List.length H2) 0 1 g.roots.length g.roots.length])) [Blk.cells (rows inC g.roots)]
  simp only [List.length_set] at this
  exact this
theorem run_szGraph (nv rv : V) (g : Gr) (left : Int) (fl : Nat) (H : LH) (h : GAt H nv rv g) (h0 : 0 ≤ left) (h2 : left ≤ 1048576) (hx : g.nodes.length ≤ 9223372036854775807) (hr : g.roots.length ≤ 9223372036854775807) (hf : ∀ x ∈ g.nodes, ndFit x) :
    run 32 [.agg [nv, rv], .int .i64 left] fl H = some (.int .i64 (if left < g.nodes.length + sumZ ndW g.nodes + g.roots.length then -1 else left - (g.nodes.length + sumZ ndW g.nodes + g.roots.length)), H) := by
  have f1 := h.1.isTup
  have f2 := h.2.isTup
  have w0 : ∀ x, 0 ≤ ndW x := fun x => by unfold ndW; omega
  have w1 := sumZ_nonneg w0 g.nodes
  have e1 := fun L fl => run_szNodeS nv g.nodes left fl (H ++ L) (h.1.ext Hx.app) h0 h2 hx hf
  have e2 := fun L l hl hl2 fl => run_szIntS rv g.roots l fl (H ++ L) (h.2.ext Hx.app) hl hl2 hr
  unfold run at *
  rw [Run_z Try.func32 rfl (by rfl : ok 32 = true) (by rfl : cfg.keep 32 = [0, 1, 2, 4, 10, 16]) (by rfl : cfg.mode 32 = .pure)]
  by_cases hw : left < g.nodes.length + sumZ ndW g.nodes
  · simp only [hw, if_true] at e1
    simp (config := {contextual := true, maxSteps := 10000000, implicitDefEqProofs := false}) (disch := first | (and_intros <;> omega -splitDisjunctions) | (simp only [List.length_set, List.length_append, List.length_cons, List.length_nil]; and_intros <;> omega -splitDisjunctions) | fail) only [e1, f1, f2, Try.f32, go_sem, ↓reduceIte, Nat.reduceEqDiff, Nat.reduceAdd, Nat.reduceMul, Nat.reduceLT, Nat.reduceLeDiff, reduceCtorEq, Int.reduceNe, Int.reduceEq, Int.reduceLT, Int.reduceLE, Int.reduceAdd, Int.reduceSub, Int.reduceMul, Int.reduceNeg, Int.reduceToNat, UInt8.reduceToNat, natLit, ty3, ty9, ty54, ty55, ty57, ty134]
    rw [if_pos (by omega)]
  · simp only [hw, if_false] at e1
    simp (config := {contextual := true, maxSteps := 10000000, implicitDefEqProofs := false}) (disch := first | (and_intros <;> omega -splitDisjunctions) | (simp only [List.length_set, List.length_append, List.length_cons, List.length_nil]; and_intros <;> omega -splitDisjunctions) | fail) only [e1, e2, f1, f2, show ¬ left - (g.nodes.length + sumZ ndW g.nodes) < 0 by omega, Try.f32, go_sem, ↓reduceIte, Nat.reduceEqDiff, Nat.reduceAdd, Nat.reduceMul, Nat.reduceLT, Nat.reduceLeDiff, reduceCtorEq, Int.reduceNe, Int.reduceEq, Int.reduceLT, Int.reduceLE, Int.reduceAdd, Int.reduceSub, Int.reduceMul, Int.reduceNeg, Int.reduceToNat, UInt8.reduceToNat, natLit, ty3, ty9, ty54, ty55, ty57, ty134]
    by_cases h9 : left - (g.nodes.length + sumZ ndW g.nodes) < g.roots.length
    · rw [if_pos h9, if_pos (by omega), if_pos (by omega)]
    · rw [if_neg h9, if_neg (by omega), if_neg (by omega)]; congr 3; omega
theorem run_eqGraph (nv rv nv' rv' : V) (g g' : Gr) (fl : Nat) (H : LH) (h : GAt H nv rv g) (h' : GAt H nv' rv' g') (hx : g.nodes.length ≤ 1099511627776) (hy : g'.nodes.length ≤ 1099511627776)
    (kx : ∀ n ∈ g.nodes, n.kids.length ≤ 1099511627776) (ky : ∀ n ∈ g'.nodes, n.kids.length ≤ 1099511627776) (hr : g.roots.length ≤ 1099511627776) (hr' : g'.roots.length ≤ 1099511627776) :
    run 36 [.agg [nv, rv], .agg [nv', rv']] fl H = some (.bool (decide (g = g')), H) := by
  have f1 := h.1.isTup
  have f2 := h.2.isTup
  have f3 := h'.1.isTup
  have f4 := h'.2.isTup
  have e1 := fun L fl => run_eqNodeS nv nv' g.nodes g'.nodes fl (H ++ L) (h.1.ext Hx.app) (h'.1.ext Hx.app) hx hy kx ky
  have e2 := fun L fl => run_eqIntS rv rv' g.roots g'.roots fl (H ++ L) (h.2.ext Hx.app) (h'.2.ext Hx.app) hr hr'
  unfold run at *
  rw [Run_z Try.func36 rfl (by rfl : ok 36 = true) (by rfl : cfg.keep 36 = [0, 1, 2, 3, 4, 10, 16]) (by rfl : cfg.mode 36 = .pure)]
  simp (config := {contextual := true, maxSteps := 10000000, implicitDefEqProofs := false}) (disch := first | (and_intros <;> omega -splitDisjunctions) | (simp only [List.length_set, List.length_append, List.length_cons, List.length_nil]; and_intros <;> omega -splitDisjunctions) | fail) only [e1, e2, f1, f2, f3, f4, Try.f36, go_sem, ↓reduceIte, Nat.reduceEqDiff, Nat.reduceAdd, Nat.reduceMul, Nat.reduceLT, Nat.reduceLeDiff, reduceCtorEq, Int.reduceNe, Int.reduceEq, Int.reduceLT, Int.reduceLE, Int.reduceAdd, Int.reduceSub, Int.reduceMul, Int.reduceNeg, Int.reduceToNat, UInt8.reduceToNat, natLit, ty3, ty4, ty9, ty55, ty60, ty62, ty100]
  obtain ⟨a, b⟩ := g
  obtain ⟨c, d⟩ := g'
  simp only [Gr.mk.injEq]
  grind
end Go.Proofs.Ytbjpecknlohicaa.Lg
