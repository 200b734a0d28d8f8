/- Telling a graph: the reference's function. No condition. -/
import Derived.Test.YtbjpecknlohicaaCTell
import Derived.Test.YtbjpecknlohicaaCNum
namespace Go.Proofs.Ytbjpecknlohicaa.Lg
set_option linter.unusedSimpArgs false
set_option linter.unusedVariables false
set_option maxRecDepth 100000
set_option maxHeartbeats 40000000
open Go.Proofs.Ytbjpecknlohicaa

/-- blocks ahead of 'f' stand as they stood, but for those of 'E' -/
structure Fr (f : Nat) (E : List Nat) (A B : LH) : Prop where
  len : A.length ≤ B.length
  get : ∀ b, b < f → b ∉ E → B[b]? = A[b]?
theorem Fr.refl {f : Nat} {E : List Nat} (A : LH) : Fr f E A A := ⟨Nat.le_refl _, fun _ _ _ => rfl⟩
theorem Fr.trans {f : Nat} {E : List Nat} {A B C : LH} (h : Fr f E A B) (k : Fr f E B C) : Fr f E A C := ⟨Nat.le_trans h.len k.len, fun b h1 h2 => (k.get b h1 h2).trans (h.get b h1 h2)⟩
theorem Fr.down {f f' : Nat} {E : List Nat} {A B : LH} (h : Fr f E A B) (hf : f' ≤ f) : Fr f' E A B := ⟨h.len, fun b h1 h2 => h.get b (by omega) h2⟩
theorem Fr.app {f : Nat} {E : List Nat} {A L : LH} (hf : f ≤ A.length) : Fr f E A (A ++ L) := ⟨by simp, fun b h1 _ => List.getElem?_append_left (by omega)⟩
theorem Fr.set {f b : Nat} {E : List Nat} {A : LH} {x : Blk} (hb : b ∈ E ∨ f ≤ b) : Fr f E A (A.set b x) := ⟨by simp, fun c h1 h2 => by
  rw [List.getElem?_set_ne]
  rcases hb with hb | hb
  · intro e; subst e; exact h2 hb
  · omega⟩
theorem Fr.kill {α : Type} {enc : α → List V} {z f : Nat} {E : List Nat} {A L : LH} {v : V} {xs : List α} (h : Own f A enc z v xs) (hf : f ≤ A.length) : Fr f E A (killV A v ++ L) := by
  rcases h with ⟨rfl, rfl | rfl⟩ | ⟨b, rfl, hc, h2⟩
  · exact Fr.app hf
  · exact Fr.app hf
  · exact (Fr.set (.inr h2)).trans (Fr.app (by rw [List.length_set]; exact hf))
theorem cells_get {A B : LH} {b : Nat} (h : B[b]? = A[b]?) : LH.cellsAt B b = LH.cellsAt A b := by
  unfold LH.cellsAt
  rw [h]
theorem Fr.cells {f b : Nat} {E : List Nat} {A B : LH} {l : List V} (h : Fr f E A B) (hc : LH.cellsAt A b = some l) (h1 : b < f) (h2 : b ∉ E) : LH.cellsAt B b = some l := by
  rw [cells_get (h.get b h1 h2)]; exact hc
theorem Fr.hx {f : Nat} {E : List Nat} {A B G : LH} (h : Fr f E A B) (hx : Hx G A) (hl : G.length ≤ f) (hE : ∀ b ∈ E, G.length ≤ b) : Hx G B := by
  obtain ⟨L, rfl⟩ := hx
  refine ⟨B.drop G.length, ?_⟩
  have hlen := h.len
  rw [List.length_append] at hlen
  have : B.take G.length = G := by
    apply List.ext_getElem?
    intro i
    rw [List.getElem?_take]
    by_cases hi : i < G.length
    · rw [if_pos hi, h.get i (by omega) (fun hm => by have := hE i hm; omega), List.getElem?_append_left hi]
    · rw [if_neg hi, List.getElem?_eq_none (by omega)]
  conv => lhs; rw [← List.take_append_drop G.length B, this]
def nmT (k : Nat) : ByteArray := ⟨#[110]⟩ ++ numT k
def spN (sh : List Bool) (k : Nat) : ByteArray := if sh.getD k false = true then nmT k else ⟨#[]⟩
theorem set_boC {ts : List Bool} {i : Nat} (hi : i < ts.length) (w : Bool) : (rows boC ts).set i (.bool w) = rows boC (ts.set i w) := by
  have := rows_putD (enc := boC) (j := 0) (xs := ts) boC_len false i hi (ws := boC w) (by simp [boC_len]) _ rfl
  simpa [boC, putAt] using this
/-- the events' slice got one more -/
theorem own_put {f : Nat} {A : LH} {o : V} {es : List Ev} (h : Own f A evC 8 o es) (hf : f ≤ A.length) (e : Ev) : Own A.length (killV A o ++ [.cells (rows evC (es ++ [e]))]) evC 8 (.sl A.length 0 8 (es.length + 1) (es.length + 1)) (es ++ [e]) := by
  have := app_new (enc := evC) (z := 8) (v := o) (H := A) (Nat.le_refl _) (es ++ [e])
  simpa using this
theorem ap_ev {fl f : Nat} {A : LH} {o : V} {es : List Ev} (h : Own f A evC 8 o es) (hf : fl ≤ f) (bytes : Nat) (hb : (es.length + 1) * bytes ≤ 1099511627776) (a b : Int) (c : Bool) (d e x : ByteArray) (y z : Int) :
    appendV fl 8 bytes A 1 [.int .i64 a, .int .i64 b, .bool c, .str d, .str e, .str x, .int .i64 y, .int .i64 z] o = some (.sl A.length 0 8 (es.length + 1) (es.length + 1), killV A o ++ [.cells (rows evC (es ++ [⟨a, b, c, d, e, x, y, z⟩]))]) :=
  app_own1 h evC_len hf bytes (by unfold mostCells; omega) ⟨a, b, c, d, e, x, y, z⟩
theorem numT_size (n : Int) : (numT n).size ≤ 4294967296 := by
  unfold numT
  by_cases h : n < 0 ∨ 4294967295 < n
  · rw [if_pos h]; decide
  · rw [if_neg h]
    have := decT_size n.toNat
    omega
/-- what an append leaves -/
structure Put (f : Nat) (A B : LH) (o' : V) (es : List Ev) : Prop where
  fr : ∀ E, Fr f E A B
  old : ∀ b l, b < f → LH.cellsAt A b = some l → LH.cellsAt B b = some l
  own : Own A.length B evC 8 o' es
theorem put_ev {f : Nat} {A : LH} {o : V} {es : List Ev} (h : Own f A evC 8 o es) (hf : f ≤ A.length) (e : Ev) : Put f A (killV A o ++ [.cells (rows evC (es ++ [e]))]) (.sl A.length 0 8 (es.length + 1) (es.length + 1)) (es ++ [e]) :=
  ⟨fun E => Fr.kill h hf, fun b l hb hc => app_old hc h hb _, own_put h hf e⟩
theorem tell_told {g : Gr} {al an : Nat → ByteArray} {d : Nat} {s : TS} {k : Nat} (h : s.told.getD k false = true) : tell g al an (d + 1) s k = ⟨s.told, s.out ++ [evA (al k)]⟩ := by
  unfold tell
  rw [Int.toNat_natCast, if_pos h]
theorem tell_leaf {g : Gr} {al an : Nat → ByteArray} {d : Nat} {s : TS} {k : Nat} (h : s.told.getD k false = false) (h5 : (g.nodes.getD k nd0).kind = 5) : tell g al an (d + 1) s k = ⟨s.told.set k true, s.out ++ [evT (g.nodes.getD k nd0) (an k)]⟩ := by
  unfold tell
  rw [Int.toNat_natCast, if_neg (by rw [h]; simp), if_pos h5]
theorem tell_node {g : Gr} {al an : Nat → ByteArray} {d : Nat} {s : TS} {k : Nat} (h : s.told.getD k false = false) (h5 : ¬ (g.nodes.getD k nd0).kind = 5) : tell g al an (d + 1) s k =
    ⟨((g.nodes.getD k nd0).kids.foldl (tell g al an d) ⟨s.told.set k true, s.out ++ [evO (g.nodes.getD k nd0) (an k)]⟩).told, ((g.nodes.getD k nd0).kids.foldl (tell g al an d) ⟨s.told.set k true, s.out ++ [evO (g.nodes.getD k nd0) (an k)]⟩).out ++ [evK 7 false]⟩ := by
  conv => lhs; unfold tell
  rw [Int.toNat_natCast, if_neg (by rw [h]; simp), if_neg h5]
theorem run_l15Tell (G : LH) (nv rv : V) (cs : List NC) (g : Gr) (hA : At G ncC 4 nv cs) (hr1 : rv.isTup = false) (hr2 : rv.cells = [rv]) (hlen : cs.length = g.nodes.length)
    (hRl : ∀ i, i < g.nodes.length → Rel1 G (cs.getD i nc0) (g.nodes.getD i nd0)) (hg : GrOk g) (sB tB : Nat) (hsB : G.length ≤ sB) (htB : G.length ≤ tB) (hst : sB ≠ tB) (sh : List Bool) (hsl : sh.length = g.nodes.length) :
    ∀ (d : Nat) (H : LH) (s : TS) (o : V) (k : Nat) (fl f : Nat), Hx G H → LH.cellsAt H sB = some (rows boC sh) → LH.cellsAt H tB = some (rows boC s.told) → Own f H evC 8 o s.out → s.told.length = g.nodes.length → k < g.nodes.length → cntF s.told ≤ d →
      s.out.length + wt s.told g.nodes + 2 ≤ 16777216 → fl ≤ tB → fl ≤ f → sB < f → tB < f → f ≤ H.length →
      Ret (fun w H' => Fr f [tB] H H' ∧ LH.cellsAt H' tB = some (rows boC (tell g (spN sh) (spN sh) (d + 1) s k).told) ∧ Own f H' evC 8 w (tell g (spN sh) (spN sh) (d + 1) s k).out)
        (run 90 [.agg [nv, rv], .int .i64 (k : Int), .sl sB 0 1 g.nodes.length g.nodes.length, .sl tB 0 1 g.nodes.length g.nodes.length, o] fl H) := by
  intro d
  induction d using Nat.strongRecOn with
  | _ d ihd =>
  intro H s o k fl f hx hs ht ho htl hk hd hbd hf1 hf2 hsf htf hfl
  have e1 := fun fl H => run_spNum (k : Int) fl H
  have e2 := numT_size (k : Int)
  have n1 := hA.isTup; have n2 := hA.one
  have o1 := (ho.at evC_len).isTup; have o2 := (ho.at evC_len).one
  have q1 : (rows boC sh).length = g.nodes.length := by rw [rows_len boC_len]; omega
  have q2 : (rows boC s.told).length = g.nodes.length := by rw [rows_len boC_len]; omega
  have q3 := fun n K => cell_boC (xs := sh) (i := k) (by omega) n K
  have q4 := fun n K => cell_boC (xs := s.told) (i := k) (by omega) n K
  have q5 := fun w => set_boC (ts := s.told) (i := k) (by omega) w
  have hsH := cellsAt_lt hs
  have htH := cellsAt_lt ht
  have u1 : ∀ L, LH.cellsAt (H ++ L) sB = some (rows boC sh) := fun L => cellsAt_left hs
  have u2 : ∀ L, LH.cellsAt (H ++ L) tB = some (rows boC s.told) := fun L => cellsAt_left ht
  cases hto : s.told.getD k false
  rotate_left
  · rw [hto] at q4
    rw [tell_told hto]
    have ap := fun L => ap_ev (fl := fl) (ho.ext (Hx.app (L := L))) hf2
    have fin : ∀ L e, Fr f [tB] H (killV (H ++ L) o ++ [.cells (rows evC (s.out ++ [e]))]) ∧ LH.cellsAt (killV (H ++ L) o ++ [.cells (rows evC (s.out ++ [e]))]) tB = some (rows boC s.told) ∧
        Own f (killV (H ++ L) o ++ [.cells (rows evC (s.out ++ [e]))]) evC 8 (.sl (H.length + L.length) 0 8 (s.out.length + 1) (s.out.length + 1)) (s.out ++ [e]) := fun L e => by
      have p := put_ev (ho.ext (Hx.app (L := L))) (by rw [List.length_append]; omega) e
      have := p.own
      rw [List.length_append] at this
      exact ⟨(Fr.app hfl).trans (p.fr _), p.old _ _ htf (u2 L), this.down (by omega)⟩
    unfold run at *
    rw [Run_z Try.func90 rfl (by rfl : ok 90 = true) (by rfl : cfg.keep 90 = [0, 1, 2, 3, 4, 5, 10, 11, 12, 14, 18, 25, 41, 63, 64, 65, 66]) (by rfl : cfg.mode 90 = .any)]
    cases hsh : sh.getD k false
    · rw [hsh] at q3
      simp (config := {contextual := true, maxSteps := 10000000, implicitDefEqProofs := false}) (disch := first | (and_intros <;> omega -splitDisjunctions) | (simp only [List.length_set, List.length_append, List.length_cons, List.length_nil]; and_intros <;> omega -splitDisjunctions) | fail) only [e1, n1, n2, hr1, hr2, o1, o2, q1, q2, q3, q4, u1, u2, ap, Try.f90, go_sem, ↓reduceIte, Nat.reduceEqDiff, Nat.reduceAdd, Nat.reduceMul, Nat.reduceLT, Nat.reduceLeDiff, reduceCtorEq, Int.reduceNe, Int.reduceEq, Int.reduceLT, Int.reduceLE, Int.reduceAdd, Int.reduceSub, Int.reduceMul, Int.reduceNeg, Int.reduceToNat, UInt8.reduceToNat, natLit, ty3, ty4, ty9, ty26, ty48, ty55, ty60, ty62, ty100, ty111]
      have hn : spN sh k = ⟨#[]⟩ := by unfold spN; rw [hsh, if_neg (by simp)]
      rw [hn]
      exact fin _ _
    · rw [hsh] at q3
      simp (config := {contextual := true, maxSteps := 10000000, implicitDefEqProofs := false}) (disch := first | (and_intros <;> omega -splitDisjunctions) | (simp only [List.length_set, List.length_append, List.length_cons, List.length_nil]; and_intros <;> omega -splitDisjunctions) | fail) only [e1, e2, n1, n2, hr1, hr2, o1, o2, q1, q2, q3, q4, u1, u2, ap, Try.f90, go_sem, ↓reduceIte, Nat.reduceEqDiff, Nat.reduceAdd, Nat.reduceMul, Nat.reduceLT, Nat.reduceLeDiff, reduceCtorEq, Int.reduceNe, Int.reduceEq, Int.reduceLT, Int.reduceLE, Int.reduceAdd, Int.reduceSub, Int.reduceMul, Int.reduceNeg, Int.reduceToNat, UInt8.reduceToNat, natLit, ty3, ty4, ty9, ty26, ty48, ty55, ty60, ty62, ty100, ty111]
      have hn : spN sh k = ⟨#[110]⟩ ++ numT k := by unfold spN nmT; rw [hsh, if_pos rfl]
      rw [hn]
      exact fin _ _
  rw [hto] at q4
  have hd1 := cntF_set s.told k (by omega) hto
  have hw1 := wt_set s.told g.nodes k (by omega) htl hto
  obtain ⟨d, rfl⟩ : ∃ d', d = d' + 1 := ⟨d - 1, by omega⟩
  have hT1 : (s.told.set k true).length = g.nodes.length := by rw [List.length_set]; exact htl
  generalize hTT : s.told.set k true = T1 at *
  have ho1 : Own f (H.set tB (.cells (rows boC T1))) evC 8 o s.out := ho.setNe htf
  have hx1 : Hx G (H.set tB (.cells (rows boC T1))) := hx.set htB
  have fr1 : Fr f [tB] H (H.set tB (.cells (rows boC T1))) := Fr.set (.inl (by simp))
  have v1 : LH.cellsAt (H.set tB (.cells (rows boC T1))) sB = some (rows boC sh) := by rw [cellsAt_set_ne (Ne.symm hst)]; exact hs
  have v2 : LH.cellsAt (H.set tB (.cells (rows boC T1))) tB = some (rows boC T1) := cellsAt_set htH
  have hl1 : (H.set tB (.cells (rows boC T1))).length = H.length := by rw [List.length_set]
  have q5 : (rows boC s.told).set k (.bool true) = rows boC T1 := by rw [q5, hTT]
  have q6 : ∀ L : LH, (H ++ L).set tB (.cells (rows boC T1)) = H.set tB (.cells (rows boC T1)) ++ L := fun L => by rw [List.set_append_left _ _ htH]
  generalize hHH : H.set tB (.cells (rows boC T1)) = H1 at *
  have w1 : ∀ L, LH.cellsAt (H1 ++ L) sB = some (rows boC sh) := fun L => cellsAt_left v1
  have w2 : ∀ L, LH.cellsAt (H1 ++ L) tB = some (rows boC T1) := fun L => cellsAt_left v2
  have ap := fun L => ap_ev (fl := fl) (ho1.ext (Hx.app (L := L))) hf2
  have z0 : ∀ L, LH.cellsAt (H1 ++ L) H.length = LH.cellsAt L 0 := fun L => by rw [← hl1]; exact cellsAt_app0 H1 L
  have z1 : ∀ L i, LH.cellsAt (H1 ++ L) (H.length + i) = LH.cellsAt L i := fun L i => by rw [← hl1]; exact cellsAt_app H1 L i
  have z2 : ∀ L x, List.set (H1 ++ L) H.length x = H1 ++ L.set 0 x := fun L x => by rw [← hl1]; exact set_app0 H1 L x
  have z3 : ∀ L i x, List.set (H1 ++ L) (H.length + i) x = H1 ++ L.set i x := fun L i x => by rw [← hl1]; exact set_app H1 L i x
  have n4 := fun L (hp : 0 < cs.length) => (hA.ext (hx1.trans (Hx.app (L := L)))).con hp
  have n5 := hA.idx (T := ty Try.prog) (t := 60) (by simp only [elemI, sizeO, ty3, ty9, ty55, ty60, ty100])
  have n6 := fun L K => (hA.ext (hx1.trans (Hx.app (L := L)))).loadD ncC_len nc0 k (by omega) K
  have kA := hRl k hk
  have c1 := kA.kind; have c2 := kA.tag; have c3 := kA.text
  have kk := hg.kids _ (show g.nodes.getD k nd0 ∈ g.nodes by rw [getD_of hk]; exact List.getElem_mem _)
  simp only [ncC, c1, c2, c3] at n6
  have hkA := kA.kids
  generalize hkv : (cs.getD k nc0).kv = kv at *
  have k1 := hkA.isTup; have k2 := hkA.len; have k3 := hkA.lenOk ty55; have k0 := hkA.one
  by_cases h5 : (g.nodes.getD k nd0).kind = 5
  · rw [tell_leaf hto h5]
    have fin : ∀ L e, Fr f [tB] H (killV (H1 ++ L) o ++ [.cells (rows evC (s.out ++ [e]))]) ∧ LH.cellsAt (killV (H1 ++ L) o ++ [.cells (rows evC (s.out ++ [e]))]) tB = some (rows boC T1) ∧
        Own f (killV (H1 ++ L) o ++ [.cells (rows evC (s.out ++ [e]))]) evC 8 (.sl (H.length + L.length) 0 8 (s.out.length + 1) (s.out.length + 1)) (s.out ++ [e]) := fun L e => by
      have p := put_ev (ho1.ext (Hx.app (L := L))) (by rw [List.length_append]; omega) e
      have := p.own
      rw [List.length_append, hl1] at this
      exact ⟨(fr1.trans (Fr.app (by omega))).trans (p.fr _), p.old _ _ htf (w2 L), this.down (by omega)⟩
    rw [h5] at n6
    rw [hTT]
    have hev : ∀ a, evT (g.nodes.getD k nd0) a = ⟨5, 3, false, (g.nodes.getD k nd0).text, a, (g.nodes.getD k nd0).tag, 0, 0⟩ := fun a => by unfold evT; rw [h5]
    rw [hev]
    unfold run at *
    rw [Run_z Try.func90 rfl (by rfl : ok 90 = true) (by rfl : cfg.keep 90 = [0, 1, 2, 3, 4, 5, 10, 11, 12, 14, 18, 25, 41, 63, 64, 65, 66]) (by rfl : cfg.mode 90 = .any)]
    cases hsh : sh.getD k false
    · rw [hsh] at q3
      simp (config := {contextual := true, maxSteps := 10000000, implicitDefEqProofs := false}) (disch := first | (and_intros <;> omega -splitDisjunctions) | (simp only [List.length_set, List.length_append, List.length_cons, List.length_nil]; and_intros <;> omega -splitDisjunctions) | fail) only [e1, n1, n2, n4, n5, n6, k0, k1, hr1, hr2, o1, o2, q1, q2, q3, q4, q5, q6, u1, u2, w1, w2, hl1, z0, z1, z2, z3, ap, Try.f90, go_sem, ↓reduceIte, Nat.reduceEqDiff, Nat.reduceAdd, Nat.reduceMul, Nat.reduceLT, Nat.reduceLeDiff, reduceCtorEq, Int.reduceNe, Int.reduceEq, Int.reduceLT, Int.reduceLE, Int.reduceAdd, Int.reduceSub, Int.reduceMul, Int.reduceNeg, Int.reduceToNat, UInt8.reduceToNat, natLit, ty3, ty4, ty9, ty26, ty48, ty55, ty60, ty62, ty100, ty111]
      have hn : spN sh k = ⟨#[]⟩ := by unfold spN; rw [hsh, if_neg (by simp)]
      rw [hn]
      exact fin _ _
    · rw [hsh] at q3
      simp (config := {contextual := true, maxSteps := 10000000, implicitDefEqProofs := false}) (disch := first | (and_intros <;> omega -splitDisjunctions) | (simp only [List.length_set, List.length_append, List.length_cons, List.length_nil]; and_intros <;> omega -splitDisjunctions) | fail) only [e1, e2, n1, n2, n4, n5, n6, k0, k1, hr1, hr2, o1, o2, q1, q2, q3, q4, q5, q6, u1, u2, w1, w2, hl1, z0, z1, z2, z3, ap, Try.f90, go_sem, ↓reduceIte, Nat.reduceEqDiff, Nat.reduceAdd, Nat.reduceMul, Nat.reduceLT, Nat.reduceLeDiff, reduceCtorEq, Int.reduceNe, Int.reduceEq, Int.reduceLT, Int.reduceLE, Int.reduceAdd, Int.reduceSub, Int.reduceMul, Int.reduceNeg, Int.reduceToNat, UInt8.reduceToNat, natLit, ty3, ty4, ty9, ty26, ty48, ty55, ty60, ty62, ty100, ty111]
      have hn : spN sh k = ⟨#[110]⟩ ++ numT k := by unfold spN nmT; rw [hsh, if_pos rfl]
      rw [hn]
      exact fin _ _
  rw [tell_node hto h5, hTT]
  generalize hks : (g.nodes.getD k nd0).kids = ks at *
  have hev : ∀ a, evO (g.nodes.getD k nd0) a = ⟨(g.nodes.getD k nd0).kind, 6, false, ⟨#[]⟩, a, (g.nodes.getD k nd0).tag, 0, 0⟩ := fun a => rfl
  have fin : ∀ L e, Fr f [tB] H (killV (H1 ++ .cells [nv, rv] :: L) o ++ [.cells (rows evC (s.out ++ [e]))]) ∧ LH.cellsAt (killV (H1 ++ .cells [nv, rv] :: L) o ++ [.cells (rows evC (s.out ++ [e]))]) tB = some (rows boC T1) ∧
      LH.cellsAt (killV (H1 ++ .cells [nv, rv] :: L) o ++ [.cells (rows evC (s.out ++ [e]))]) sB = some (rows boC sh) ∧ 
      Own (H.length + 1) (killV (H1 ++ .cells [nv, rv] :: L) o ++ [.cells (rows evC (s.out ++ [e]))]) evC 8 (.sl (H.length + (L.length + 1)) 0 8 (s.out.length + 1) (s.out.length + 1)) (s.out ++ [e]) ∧ H.length + 1 ≤ (killV (H1 ++ Blk.cells [nv, rv] :: L) o ++ [Blk.cells (rows evC (s.out ++ [e]))]).length := fun L e => by
    have p := put_ev (ho1.ext (Hx.app (L := .cells [nv, rv] :: L))) (by rw [List.length_append]; omega) e
    have := p.own
    rw [List.length_append, hl1, List.length_cons] at this
    exact ⟨(fr1.trans (Fr.app (by omega))).trans (p.fr _), p.old _ _ htf (w2 _), p.old _ _ hsf (w1 _), this.down (by omega), by have := (p.fr []).len; simp only [List.length_append, List.length_cons] at this ⊢; omega⟩
  have hbx : ∀ L e, blkV o ≠ H.length + 0 → LH.cellsAt (killV (H1 ++ .cells [nv, rv] :: L) o ++ [.cells (rows evC (s.out ++ [e]))]) H.length = some [nv, rv] := fun L e hne => app_ne (b := H.length) (by rw [z0]; rfl) hne _
  have hne : ∀ i, blkV o ≠ H.length + i := fun i => by
    rcases ho1 with ⟨_, rfl | rfl⟩ | ⟨b, rfl, hb, _⟩
    · simp only [blkV]; omega
    · simp only [blkV]; omega
    · have := cellsAt_lt hb
      simp only [blkV]; omega
  have kz : ∀ M L i, i < M.length → LH.cellsAt (killV (H1 ++ M) o ++ L) (H.length + i) = LH.cellsAt M i := fun M L i hi => by
    rw [← z1 M i]
    have e : (killV (H1 ++ M) o ++ L)[H.length + i]? = (H1 ++ M)[H.length + i]? := by
      rw [List.getElem?_append_left (by rw [killV_len, List.length_append]; omega)]
      have := hne i
      revert this
      cases o with
      | sl b2 o z n c => intro h; simp only [killV]; rw [List.getElem?_set_ne (show b2 ≠ H.length + i from h)]
      | _ => intro _; rfl
    exact cells_get e
  have kz0 : ∀ M L, 0 < M.length → LH.cellsAt (killV (H1 ++ M) o ++ L) H.length = LH.cellsAt M 0 := fun M L hi => kz M L 0 hi
  unfold run at *
  rw [Run_z Try.func90 rfl (by rfl : ok 90 = true) (by rfl : cfg.keep 90 = [0, 1, 2, 3, 4, 5, 10, 11, 12, 14, 18, 25, 41, 63, 64, 65, 66]) (by rfl : cfg.mode 90 = .any)]
  cases hsh : sh.getD k false
  · rw [hsh] at q3
    simp (config := {contextual := true, maxSteps := 10000000, implicitDefEqProofs := false}) (disch := first | (and_intros <;> omega -splitDisjunctions) | (simp only [List.length_set, List.length_append, List.length_cons, List.length_nil]; and_intros <;> omega -splitDisjunctions) | fail) only [h5, e1, n1, n2, n4, n5, n6, k0, k1, k2, k3, hr1, hr2, o1, o2, q1, q2, q3, q4, q5, q6, u1, u2, w1, w2, hl1, z0, z1, z2, z3, kz, kz0, ap, Try.f90, go_sem, ↓reduceIte, Nat.reduceEqDiff, Nat.reduceAdd, Nat.reduceMul, Nat.reduceLT, Nat.reduceLeDiff, reduceCtorEq, Int.reduceNe, Int.reduceEq, Int.reduceLT, Int.reduceLE, Int.reduceAdd, Int.reduceSub, Int.reduceMul, Int.reduceNeg, Int.reduceToNat, UInt8.reduceToNat, natLit, ty3, ty4, ty9, ty26, ty48, ty55, ty60, ty62, ty100, ty111]
    have hn : spN sh k = ⟨#[]⟩ := by unfold spN; rw [hsh, if_neg (by simp)]
    rw [hn]
    generalize hX : killV _ o ++ [_] = X
    have pf : Fr f [tB] H X ∧ LH.cellsAt X tB = some (rows boC T1) ∧ LH.cellsAt X sB = some (rows boC sh) ∧ Own (H.length + 1) X evC 8 (.sl (H.length + 3) 0 8 (s.out.length + 1) (s.out.length + 1)) (s.out ++ [evO (g.nodes.getD k nd0) (⟨#[]⟩)]) ∧ H.length + 1 ≤ X.length := by rw [← hX]; exact fin _ _
    have pb : LH.cellsAt X H.length = some [nv, rv] := by rw [← hX]; exact hbx _ _ (hne 0)
    obtain ⟨p1, p2, p3, p4, p5⟩ := pf
    clear hX fin hbx kz kz0
    have hxX : Hx G X := p1.hx hx (by omega) (by simpa using htB)
    generalize hF : ks.foldl (tell g (spN sh) (spN sh) (d + 1)) ⟨T1, s.out ++ [evO (g.nodes.getD k nd0) (⟨#[]⟩)]⟩ = FS
    refine at_loopR fun c2 R2 hc2 hR2 => ?_
    have key2 : ∀ (m : Nat) (j : Nat) (jj : Int) (t : TS) (o' : V) (B : LH) (x0 x10 x11 x12 x14 x18 x25 x41 x66 : Option V), ks.length - j < m → jj = j → j ≤ ks.length → Fr (H.length + 1) [tB] X B → LH.cellsAt B tB = some (rows boC t.told) → Own (H.length + 1) B evC 8 o' t.out → t.told.length = g.nodes.length → cntF t.told ≤ d → t.out.length + wt t.told g.nodes + 2 * (ks.length - j) + 1 ≤ 16777216 → (ks.drop j).foldl (tell g (spN sh) (spN sh) (d + 1)) t = FS →
        Ret (fun w H' => Fr f [tB] H H' ∧ LH.cellsAt H' tB = some (rows boC FS.told) ∧ Own f H' evC 8 w (FS.out ++ [evK 7 false])) (zEv (leaveX (mkR Try.prog cfg ok [0, 1, 2, 3, 4, 5, 10, 11, 12, 14, 18, 25, 41, 63, 64, 65, 66] fl) .any H [ResultVar.tmp 10]) (mkR Try.prog cfg ok [0, 1, 2, 3, 4, 5, 10, 11, 12, 14, 18, 25, 41, 63, 64, 65, 66] fl) (K.code (Code.loop c2) :: K.blk 0 :: R2) .nrm [x0, some (.int .i64 (k : Int)), some (.sl sB 0 1 g.nodes.length g.nodes.length), some (.sl tB 0 1 g.nodes.length g.nodes.length), some o', some (.ptr H.length 0), x10, x11, x12, x14, x18, x25, x41, some kv, some (.int .i64 ks.length), some (.int .i64 jj), x66] (B)) := by
      intro m
      induction m with
      | zero => intro j jj t o' B x0 x10 x11 x12 x14 x18 x25 x41 x66 hm; omega
      | succ m ih2 =>
        intro j jj t o' B x0 x10 x11 x12 x14 x18 x25 x41 x66 hm hj hle hfr hbt hob htl2 hcn hpot hfold
        subst hj
        have hxB : Hx G B := hfr.hx hxX (by omega) (by simpa using htB)
        have s1 := hfr.cells p3 (by omega) (by simpa using hst)
        have s2 := hfr.cells pb (by omega) (by simp only [List.mem_singleton]; omega)
        have hlB := hfr.len
        have b1 := (hob.at evC_len).isTup; have b2 := (hob.at evC_len).one
        have kB := hkA.ext hxB
        have k4 := fun (hp : 0 < ks.length) => kB.con hp
        have k5 := hkA.idx (T := ty Try.prog) (t := 55) (by simp only [elemI, sizeO, ty3, ty55])
        have k6 := kB.load1 0 (fun x => .int .i64 x) (fun _ => rfl)
        have apB := fun L => ap_ev (fl := fl) (hob.ext (Hx.app (L := L))) (by omega)
        by_cases hlt : j < ks.length
        · have t1 : ((j : Int) < ks.length) = True := eq_true (by omega)
          have kr := kk.2 _ (List.getElem_mem hlt)
          rw [← getD_of hlt 0] at kr
          have tv := tell_inv hg (spN sh) (spN sh) (d + 1) t (ks.getD j 0) htl2 kr.1 kr.2
          obtain ⟨w, C, e3, fr3, tb3, ow3⟩ := ihd d (by omega) B t o' (ks.getD j 0).toNat fl (H.length + 1) hxB s1 hbt hob htl2 (by omega) hcn (by omega) hf1 (by omega) (by omega) (by omega) (by omega)
          rw [Int.toNat_of_nonneg kr.1] at e3 tb3 ow3
          have g1 := (ow3.at evC_len).isTup; have g2 := (ow3.at evC_len).one
          rw [zEv_round hc2]
          simp (config := {contextual := true, maxSteps := 10000000, implicitDefEqProofs := false}) (disch := first | (and_intros <;> omega -splitDisjunctions) | (simp only [List.length_set, List.length_append, List.length_cons, List.length_nil]; and_intros <;> omega -splitDisjunctions) | fail) only [t1, n1, n2, hr1, hr2, s2, b1, b2, k0, k1, k2, k3, k4, k5, k6, e3, g1, g2, Try.f90, go_sem, ↓reduceIte, Nat.reduceEqDiff, Nat.reduceAdd, Nat.reduceMul, Nat.reduceLT, Nat.reduceLeDiff, reduceCtorEq, Int.reduceNe, Int.reduceEq, Int.reduceLT, Int.reduceLE, Int.reduceAdd, Int.reduceSub, Int.reduceMul, Int.reduceNeg, Int.reduceToNat, UInt8.reduceToNat, natLit, ty3, ty4, ty9, ty26, ty48, ty55, ty60, ty62, ty100, ty111]
          have cA := tv.1.cnt
          have cB := tv.2
          refine ih2 (j + 1) ((j : Int) + 1) (tell g (spN sh) (spN sh) (d + 1) t (ks.getD j 0)) w C _ _ _ _ _ _ _ _ _ (by omega) rfl (by omega) (hfr.trans fr3) tb3 ow3 tv.1.len (by omega) (by omega) ?_
          rw [← hfold, List.drop_eq_getElem_cons hlt, getD_of hlt, List.foldl_cons]
        · have t1 : ((j : Int) < ks.length) = False := eq_false (by omega)
          rw [zEv_round hc2, ← hR2]
          simp (config := {contextual := true, maxSteps := 10000000, implicitDefEqProofs := false}) (disch := first | (and_intros <;> omega -splitDisjunctions) | (simp only [List.length_set, List.length_append, List.length_cons, List.length_nil]; and_intros <;> omega -splitDisjunctions) | fail) only [t1, n1, n2, hr1, hr2, s2, b1, b2, k0, k1, k2, k3, k4, k5, k6, apB, Try.f90, go_sem, ↓reduceIte, Nat.reduceEqDiff, Nat.reduceAdd, Nat.reduceMul, Nat.reduceLT, Nat.reduceLeDiff, reduceCtorEq, Int.reduceNe, Int.reduceEq, Int.reduceLT, Int.reduceLE, Int.reduceAdd, Int.reduceSub, Int.reduceMul, Int.reduceNeg, Int.reduceToNat, UInt8.reduceToNat, natLit, ty3, ty4, ty9, ty26, ty48, ty55, ty60, ty62, ty100, ty111]
          rw [List.drop_of_length_le (by omega), List.foldl_nil] at hfold
          subst hfold
          have p := put_ev (hob.ext (Hx.app (L := [.cells (evC (evK 7 false))]))) (by rw [List.length_append]; omega) (evK 7 false)
          have po := p.own
          rw [List.length_append] at po
          exact ⟨p1.trans (((hfr.trans (Fr.app (by omega))).trans (p.fr _)).down (by omega)), p.old _ _ (by omega) (cellsAt_left hbt), po.down (by omega)⟩
    exact key2 (ks.length + 1) 0 0 ⟨T1, s.out ++ [evO (g.nodes.getD k nd0) (⟨#[]⟩)]⟩ _ X _ _ _ _ _ _ _ _ _ (by omega) rfl (by omega) (Fr.refl X) p2 p4 hT1 (by simp only; omega) (by simp only [List.length_append, List.length_cons, List.length_nil]; omega) (by rw [List.drop_zero]; exact hF)
  · rw [hsh] at q3
    simp (config := {contextual := true, maxSteps := 10000000, implicitDefEqProofs := false}) (disch := first | (and_intros <;> omega -splitDisjunctions) | (simp only [List.length_set, List.length_append, List.length_cons, List.length_nil]; and_intros <;> omega -splitDisjunctions) | fail) only [h5, e1, e2, n1, n2, n4, n5, n6, k0, k1, k2, k3, hr1, hr2, o1, o2, q1, q2, q3, q4, q5, q6, u1, u2, w1, w2, hl1, z0, z1, z2, z3, kz, kz0, ap, Try.f90, go_sem, ↓reduceIte, Nat.reduceEqDiff, Nat.reduceAdd, Nat.reduceMul, Nat.reduceLT, Nat.reduceLeDiff, reduceCtorEq, Int.reduceNe, Int.reduceEq, Int.reduceLT, Int.reduceLE, Int.reduceAdd, Int.reduceSub, Int.reduceMul, Int.reduceNeg, Int.reduceToNat, UInt8.reduceToNat, natLit, ty3, ty4, ty9, ty26, ty48, ty55, ty60, ty62, ty100, ty111]
    have hn : spN sh k = ⟨#[110]⟩ ++ numT k := by unfold spN nmT; rw [hsh, if_pos rfl]
    rw [hn]
    generalize hX : killV _ o ++ [_] = X
    have pf : Fr f [tB] H X ∧ LH.cellsAt X tB = some (rows boC T1) ∧ LH.cellsAt X sB = some (rows boC sh) ∧ Own (H.length + 1) X evC 8 (.sl (H.length + 3) 0 8 (s.out.length + 1) (s.out.length + 1)) (s.out ++ [evO (g.nodes.getD k nd0) (⟨#[110]⟩ ++ numT k)]) ∧ H.length + 1 ≤ X.length := by rw [← hX]; exact fin _ _
    have pb : LH.cellsAt X H.length = some [nv, rv] := by rw [← hX]; exact hbx _ _ (hne 0)
    obtain ⟨p1, p2, p3, p4, p5⟩ := pf
    clear hX fin hbx kz kz0
    have hxX : Hx G X := p1.hx hx (by omega) (by simpa using htB)
    generalize hF : ks.foldl (tell g (spN sh) (spN sh) (d + 1)) ⟨T1, s.out ++ [evO (g.nodes.getD k nd0) (⟨#[110]⟩ ++ numT k)]⟩ = FS
    refine at_loopR fun c2 R2 hc2 hR2 => ?_
    have key2 : ∀ (m : Nat) (j : Nat) (jj : Int) (t : TS) (o' : V) (B : LH) (x0 x10 x11 x12 x14 x18 x25 x41 x66 : Option V), ks.length - j < m → jj = j → j ≤ ks.length → Fr (H.length + 1) [tB] X B → LH.cellsAt B tB = some (rows boC t.told) → Own (H.length + 1) B evC 8 o' t.out → t.told.length = g.nodes.length → cntF t.told ≤ d → t.out.length + wt t.told g.nodes + 2 * (ks.length - j) + 1 ≤ 16777216 → (ks.drop j).foldl (tell g (spN sh) (spN sh) (d + 1)) t = FS →
        Ret (fun w H' => Fr f [tB] H H' ∧ LH.cellsAt H' tB = some (rows boC FS.told) ∧ Own f H' evC 8 w (FS.out ++ [evK 7 false])) (zEv (leaveX (mkR Try.prog cfg ok [0, 1, 2, 3, 4, 5, 10, 11, 12, 14, 18, 25, 41, 63, 64, 65, 66] fl) .any H [ResultVar.tmp 10]) (mkR Try.prog cfg ok [0, 1, 2, 3, 4, 5, 10, 11, 12, 14, 18, 25, 41, 63, 64, 65, 66] fl) (K.code (Code.loop c2) :: K.blk 0 :: R2) .nrm [x0, some (.int .i64 (k : Int)), some (.sl sB 0 1 g.nodes.length g.nodes.length), some (.sl tB 0 1 g.nodes.length g.nodes.length), some o', some (.ptr H.length 0), x10, x11, x12, x14, x18, x25, x41, some kv, some (.int .i64 ks.length), some (.int .i64 jj), x66] (B)) := by
      intro m
      induction m with
      | zero => intro j jj t o' B x0 x10 x11 x12 x14 x18 x25 x41 x66 hm; omega
      | succ m ih2 =>
        intro j jj t o' B x0 x10 x11 x12 x14 x18 x25 x41 x66 hm hj hle hfr hbt hob htl2 hcn hpot hfold
        subst hj
        have hxB : Hx G B := hfr.hx hxX (by omega) (by simpa using htB)
        have s1 := hfr.cells p3 (by omega) (by simpa using hst)
        have s2 := hfr.cells pb (by omega) (by simp only [List.mem_singleton]; omega)
        have hlB := hfr.len
        have b1 := (hob.at evC_len).isTup; have b2 := (hob.at evC_len).one
        have kB := hkA.ext hxB
        have k4 := fun (hp : 0 < ks.length) => kB.con hp
        have k5 := hkA.idx (T := ty Try.prog) (t := 55) (by simp only [elemI, sizeO, ty3, ty55])
        have k6 := kB.load1 0 (fun x => .int .i64 x) (fun _ => rfl)
        have apB := fun L => ap_ev (fl := fl) (hob.ext (Hx.app (L := L))) (by omega)
        by_cases hlt : j < ks.length
        · have t1 : ((j : Int) < ks.length) = True := eq_true (by omega)
          have kr := kk.2 _ (List.getElem_mem hlt)
          rw [← getD_of hlt 0] at kr
          have tv := tell_inv hg (spN sh) (spN sh) (d + 1) t (ks.getD j 0) htl2 kr.1 kr.2
          obtain ⟨w, C, e3, fr3, tb3, ow3⟩ := ihd d (by omega) B t o' (ks.getD j 0).toNat fl (H.length + 1) hxB s1 hbt hob htl2 (by omega) hcn (by omega) hf1 (by omega) (by omega) (by omega) (by omega)
          rw [Int.toNat_of_nonneg kr.1] at e3 tb3 ow3
          have g1 := (ow3.at evC_len).isTup; have g2 := (ow3.at evC_len).one
          rw [zEv_round hc2]
          simp (config := {contextual := true, maxSteps := 10000000, implicitDefEqProofs := false}) (disch := first | (and_intros <;> omega -splitDisjunctions) | (simp only [List.length_set, List.length_append, List.length_cons, List.length_nil]; and_intros <;> omega -splitDisjunctions) | fail) only [t1, n1, n2, hr1, hr2, s2, b1, b2, k0, k1, k2, k3, k4, k5, k6, e3, g1, g2, Try.f90, go_sem, ↓reduceIte, Nat.reduceEqDiff, Nat.reduceAdd, Nat.reduceMul, Nat.reduceLT, Nat.reduceLeDiff, reduceCtorEq, Int.reduceNe, Int.reduceEq, Int.reduceLT, Int.reduceLE, Int.reduceAdd, Int.reduceSub, Int.reduceMul, Int.reduceNeg, Int.reduceToNat, UInt8.reduceToNat, natLit, ty3, ty4, ty9, ty26, ty48, ty55, ty60, ty62, ty100, ty111]
          have cA := tv.1.cnt
          have cB := tv.2
          refine ih2 (j + 1) ((j : Int) + 1) (tell g (spN sh) (spN sh) (d + 1) t (ks.getD j 0)) w C _ _ _ _ _ _ _ _ _ (by omega) rfl (by omega) (hfr.trans fr3) tb3 ow3 tv.1.len (by omega) (by omega) ?_
          rw [← hfold, List.drop_eq_getElem_cons hlt, getD_of hlt, List.foldl_cons]
        · have t1 : ((j : Int) < ks.length) = False := eq_false (by omega)
          rw [zEv_round hc2, ← hR2]
          simp (config := {contextual := true, maxSteps := 10000000, implicitDefEqProofs := false}) (disch := first | (and_intros <;> omega -splitDisjunctions) | (simp only [List.length_set, List.length_append, List.length_cons, List.length_nil]; and_intros <;> omega -splitDisjunctions) | fail) only [t1, n1, n2, hr1, hr2, s2, b1, b2, k0, k1, k2, k3, k4, k5, k6, apB, Try.f90, go_sem, ↓reduceIte, Nat.reduceEqDiff, Nat.reduceAdd, Nat.reduceMul, Nat.reduceLT, Nat.reduceLeDiff, reduceCtorEq, Int.reduceNe, Int.reduceEq, Int.reduceLT, Int.reduceLE, Int.reduceAdd, Int.reduceSub, Int.reduceMul, Int.reduceNeg, Int.reduceToNat, UInt8.reduceToNat, natLit, ty3, ty4, ty9, ty26, ty48, ty55, ty60, ty62, ty100, ty111]
          rw [List.drop_of_length_le (by omega), List.foldl_nil] at hfold
          subst hfold
          have p := put_ev (hob.ext (Hx.app (L := [.cells (evC (evK 7 false))]))) (by rw [List.length_append]; omega) (evK 7 false)
          have po := p.own
          rw [List.length_append] at po
          exact ⟨p1.trans (((hfr.trans (Fr.app (by omega))).trans (p.fr _)).down (by omega)), p.old _ _ (by omega) (cellsAt_left hbt), po.down (by omega)⟩
    exact key2 (ks.length + 1) 0 0 ⟨T1, s.out ++ [evO (g.nodes.getD k nd0) (⟨#[110]⟩ ++ numT k)]⟩ _ X _ _ _ _ _ _ _ _ _ (by omega) rfl (by omega) (Fr.refl X) p2 p4 hT1 (by simp only; omega) (by simp only [List.length_append, List.length_cons, List.length_nil]; omega) (by rw [List.drop_zero]; exact hF)
end Go.Proofs.Ytbjpecknlohicaa.Lg
