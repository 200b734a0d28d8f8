/- How often each node is met: both sides. No condition. -/
import Derived.Test.YtbjpecknlohicaaCGokLaw
namespace Go.Proofs.Ytbjpecknlohicaa.Lg
set_option linter.unusedSimpArgs false
set_option linter.unusedVariables false
set_option maxRecDepth 100000
set_option maxHeartbeats 40000000
open Go.Proofs.Ytbjpecknlohicaa

theorem app_ne {H : LH} {v : V} {b : Nat} {l : List V} (hc : H.cellsAt b = some l) (hb : blkV v ≠ b) (L : LH) : LH.cellsAt (killV H v ++ L) b = some l := by
  cases v with
  | sl b2 o z n c => exact cellsAt_left (by rw [killV, cellsAt_set_ne (show b2 ≠ b from hb)]; exact hc)
  | _ => exact cellsAt_left hc
def bump (ts : List Int) (k : Int) : List Int := ts.set k.toNat (ts.getD k.toNat 0 + 1)
def tmN (ts : List Int) (ns : List Nd) : List Int := ns.foldl (fun t n => n.kids.foldl bump t) ts
def tm (g : Gr) : List Int := tmN (g.roots.foldl bump (List.replicate g.nodes.length 0)) g.nodes
structure Cnt (N : Nat) (B : Int) (ts : List Int) : Prop where
  len : ts.length = N
  lo : ∀ k, 0 ≤ ts.getD k 0
  hi : ∀ k, ts.getD k 0 ≤ B
theorem Cnt.mono {N : Nat} {B B' : Int} {ts : List Int} (h : Cnt N B ts) (hb : B ≤ B') : Cnt N B' ts := ⟨h.len, h.lo, fun k => by have := h.hi k; omega⟩
theorem Cnt.bump {N : Nat} {B : Int} {ts : List Int} (h : Cnt N B ts) (k : Int) : Cnt N (B + 1) (bump ts k) := by
  refine ⟨by simp only [Lg.bump, List.length_set]; exact h.len, fun j => ?_, fun j => ?_⟩
  · rcases getD_set0 ts k.toNat j (ts.getD k.toNat 0 + 1) with e | e
    · have := h.lo k.toNat
      simp only [Lg.bump]; omega
    · have := h.lo j
      simp only [Lg.bump]; omega
  · rcases getD_set0 ts k.toNat j (ts.getD k.toNat 0 + 1) with e | e
    · have := h.hi k.toNat
      simp only [Lg.bump]; omega
    · have := h.hi j
      simp only [Lg.bump]; omega
theorem Cnt.zero {N : Nat} : Cnt N 0 (List.replicate N 0) := by
  have hz : ∀ k : Nat, (List.replicate N (0 : Int)).getD k 0 = 0 := fun k => by
    rw [List.getD_eq_getElem?_getD, List.getElem?_replicate]
    by_cases h : k < N
    · rw [if_pos h]; rfl
    · rw [if_neg h]; rfl
  exact ⟨by simp, fun k => by rw [hz]; exact Int.le_refl _, fun k => by rw [hz]; exact Int.le_refl _⟩
theorem Cnt.fold {N : Nat} : ∀ (ks : List Int) {B : Int} {ts : List Int}, Cnt N B ts → Cnt N (B + ks.length) (ks.foldl Lg.bump ts)
  | [], B, ts, h => h.mono (by simp)
  | k :: ks, B, ts, h => (Cnt.fold ks (h.bump k)).mono (by simp only [List.length_cons]; omega)
theorem imR_roots (g : Gr) : ∀ (rs : List Int) (i : Int) (t : MW), imR g rs i t = true → ∀ r ∈ rs, 0 ≤ r ∧ r < g.nodes.length
  | [], _, _, _, r, hr => by simp at hr
  | k :: ks, i, t, h, r, hr => by
    unfold imR at h
    by_cases w : ¬ (0 ≤ k ∧ k ≤ (g.nodes.length : Int) - 1) ∨ k < t.met ∨ (imGo g i (g.nodes.length + 1) t k).2 = false
    · rw [if_pos w] at h; exact absurd h (by simp)
    rw [if_neg w] at h
    rcases List.mem_cons.1 hr with rfl | hr
    · have : ¬ ¬ (0 ≤ r ∧ r ≤ (g.nodes.length : Int) - 1) := fun hh => w (.inl hh)
      omega
    · exact imR_roots g ks _ _ h r hr
theorem fold_len : ∀ (ks : List Int) (ts : List Int), (ks.foldl bump ts).length = ts.length
  | [], _ => rfl
  | k :: ks, ts => by rw [List.foldl_cons, fold_len ks]; simp [bump]
theorem tmN_len : ∀ (ns : List Nd) (ts : List Int), (tmN ts ns).length = ts.length
  | [], _ => rfl
  | n :: ns, ts => by
    have : tmN ts (n :: ns) = tmN (n.kids.foldl bump ts) ns := rfl
    rw [this, tmN_len ns, fold_len]
theorem tm_len (g : Gr) : (tm g).length = g.nodes.length := by
  unfold tm
  rw [tmN_len, fold_len, List.length_replicate]
/-- the places of what is above one -/
def shIdx : List Int → Int → List Int
  | [], _ => []
  | t :: ts, i => if 1 < t then i :: shIdx ts (i + 1) else shIdx ts (i + 1)
def shG (g : Gr) : List Int := if imOk g = true then shIdx (tm g) 0 else []
structure GrOk (g : Gr) : Prop where
  few : g.nodes.length ≤ 3000
  roots : ∀ r ∈ g.roots, 0 ≤ r ∧ r < g.nodes.length
  kids : ∀ n ∈ g.nodes, n.kids.length ≤ 1048576 ∧ ∀ k ∈ n.kids, 0 ≤ k ∧ k < g.nodes.length
theorem grOk {g : Gr} (h : imOk g = true) (kx : ∀ n ∈ g.nodes, n.kids.length ≤ 1048576) : GrOk g := by
  unfold imOk at h
  by_cases w : 3000 < g.nodes.length ∨ ndsOk g = false
  · rw [if_pos w] at h; exact absurd h (by simp)
  rw [if_neg w] at h
  have w2 : ndsOk g = true := by
    cases hh : ndsOk g
    · exact absurd (.inr hh) w
    · rfl
  exact ⟨by omega, imR_roots g g.roots 0 _ h, nds_kids g w2 kx⟩
theorem set_inC {ts : List Int} {i : Nat} (hi : i < ts.length) (w : Int) : (rows inC ts).set i (.int .i64 w) = rows inC (ts.set i w) := by
  have := rows_putD (enc := inC) (j := 0) (xs := ts) inC_len 0 i hi (ws := inC w) (by simp [inC_len]) _ rfl
  simpa [inC, putAt] using this
theorem run_timesMet (nv rv : V) (g : Gr) (fl : Nat) (H : LH) (h : GAt H nv rv g) (hg : GrOk g) (hr : g.roots.length ≤ 1048576) :
    Ret (fun w H' => w = .sl (H.length + 1) 0 1 g.nodes.length g.nodes.length ∧ ∃ L, H' = H ++ .cells [nv, rv] :: .cells (rows inC (tm g)) :: L) (run 88 [.agg [nv, rv]] fl H) := by
  obtain ⟨⟨cs, hA, hlen, hRl⟩, hB⟩ := h
  have f1 := hA.isTup; have f2 := hA.len; have f3 := hA.lenOk ty60; have f0 := hA.one
  have f4 := fun L hp => (hA.left (L := L)).con hp
  have f5 := hA.idx (T := ty Try.prog) (t := 60) (by simp only [elemI, sizeO, ty3, ty9, ty55, ty60, ty100])
  have f6 := fun L => (hA.left (L := L)).loadD ncC_len nc0
  have r1 := hB.isTup; have r2 := hB.len; have r3 := hB.lenOk ty55; have r0 := hB.one
  have r4 := fun L hp => (hB.left (L := L)).con hp
  have r5 := hB.idx (T := ty Try.prog) (t := 55) (by simp only [elemI, sizeO, ty3, ty55])
  have r6 := fun L => (hB.left (L := L)).load1 0 (fun x => .int .i64 x) (fun _ => rfl)
  rw [hlen] at f2
  have hN := hg.few
  unfold run
  rw [Run_z Try.func88 rfl (by rfl : ok 88 = true) (by rfl : cfg.keep 88 = [0, 1, 2, 3, 5, 7, 9, 15, 16, 17, 18, 29, 30, 31, 32, 36, 37, 38, 39]) (by rfl : cfg.mode 88 = .fresh)]
  simp (config := {contextual := true, maxSteps := 10000000, implicitDefEqProofs := false}) (disch := first | (and_intros <;> omega -splitDisjunctions) | (simp only [List.length_set, List.length_append, List.length_cons, List.length_nil]; and_intros <;> omega -splitDisjunctions) | fail) only [f0, f1, f2, f3, f4, f5, f6, r0, r1, r2, r3, r4, r5, r6, Try.f88, go_sem, ↓reduceIte, Nat.reduceEqDiff, Nat.reduceAdd, Nat.reduceMul, Nat.reduceLT, Nat.reduceLeDiff, reduceCtorEq, Int.reduceNe, Int.reduceEq, Int.reduceLT, Int.reduceLE, Int.reduceAdd, Int.reduceSub, Int.reduceMul, Int.reduceNeg, Int.reduceToNat, UInt8.reduceToNat, natLit, ty3, ty9, ty55, ty60, ty62, ty100]
  rw [show (List.replicate g.nodes.length [V.int IntKind.i64 0]).flatten = rows inC (List.replicate g.nodes.length 0) from (rows_replicate (enc := inC)).symm]
  refine at_loopR fun c R hc hR => ?_
  have key : ∀ (P : Option (V × LH) → Prop) (hk : ∀  (x0 x2 x5 x7 x9 x15 x16 x17 x18 x29 x30 x31 x32 x36 x37 x38 x39 : Option V), P (zEv (leaveX (mkR Try.prog cfg ok [0, 1, 2, 3, 5, 7, 9, 15, 16, 17, 18, 29, 30, 31, 32, 36, 37, 38, 39] H.length) .fresh H [ResultVar.tmp 2]) (mkR Try.prog cfg ok [0, 1, 2, 3, 5, 7, 9, 15, 16, 17, 18, 29, 30, 31, 32, 36, 37, 38, 39] H.length) R .nrm [x0, some (.ptr H.length 0), x2, some (.sl (H.length + 1) 0 1 g.nodes.length g.nodes.length), x5, x7, x9, x15, x16, x17, x18, x29, x30, x31, x32, x36, x37, x38, x39] (H ++ [.cells [nv, rv], .cells (rows inC (g.roots.foldl bump (List.replicate g.nodes.length 0)))])))
      (m : Nat) (j : Nat) (jj : Int) (ts : List Int) (x0 x2 x5 x7 x9 x18 x29 x30 x31 x32 x36 x37 x38 x39 : Option V), g.roots.length - j < m → jj = j → j ≤ g.roots.length → Cnt g.nodes.length j ts → (g.roots.drop j).foldl bump ts = g.roots.foldl bump (List.replicate g.nodes.length 0) →
      P (zEv (leaveX (mkR Try.prog cfg ok [0, 1, 2, 3, 5, 7, 9, 15, 16, 17, 18, 29, 30, 31, 32, 36, 37, 38, 39] H.length) .fresh H [ResultVar.tmp 2]) (mkR Try.prog cfg ok [0, 1, 2, 3, 5, 7, 9, 15, 16, 17, 18, 29, 30, 31, 32, 36, 37, 38, 39] H.length) (K.code (Code.loop c) :: K.blk 0 :: R) .nrm [x0, some (.ptr H.length 0), x2, some (.sl (H.length + 1) 0 1 g.nodes.length g.nodes.length), x5, x7, x9, some rv, some (.int .i64 g.roots.length), some (.int .i64 jj), x18, x29, x30, x31, x32, x36, x37, x38, x39] (H ++ [.cells [nv, rv], .cells (rows inC ts)])) := by
    intro P hk m
    induction m with
    | zero => intro j jj ts x0 x2 x5 x7 x9 x18 x29 x30 x31 x32 x36 x37 x38 x39 hm; omega
    | succ m ih =>
      intro j jj ts x0 x2 x5 x7 x9 x18 x29 x30 x31 x32 x36 x37 x38 x39 hm hj hle hcn hfin
      subst hj
      by_cases hlt : j < g.roots.length
      · have t1 : ((j : Int) < g.roots.length) = True := eq_true (by omega)
        have hk0 := hg.roots _ (List.getElem_mem hlt)
        rw [← getD_of hlt 0] at hk0
        have hl2 := hcn.len
        have hkn : (g.roots.getD j 0).toNat < ts.length := by have := hcn.len; omega
        have q1 : (rows inC ts).length = g.nodes.length := by rw [rows_len inC_len]; have := hcn.len; omega
        have q2 := fun w => set_inC hkn w
        have q3 := fun n K => cell_inC hkn n K
        have q4 := hcn.lo (g.roots.getD j 0).toNat
        have q5 := hcn.hi (g.roots.getD j 0).toNat
        rw [zEv_round hc]
        simp (config := {contextual := true, maxSteps := 10000000, implicitDefEqProofs := false}) (disch := first | (and_intros <;> omega -splitDisjunctions) | (simp only [List.length_set, List.length_append, List.length_cons, List.length_nil]; and_intros <;> omega -splitDisjunctions) | fail) only [t1, q1, q2, q3, f0, f1, f2, f3, f4, f5, f6, r0, r1, r2, r3, r4, r5, r6, Try.f88, go_sem, ↓reduceIte, Nat.reduceEqDiff, Nat.reduceAdd, Nat.reduceMul, Nat.reduceLT, Nat.reduceLeDiff, reduceCtorEq, Int.reduceNe, Int.reduceEq, Int.reduceLT, Int.reduceLE, Int.reduceAdd, Int.reduceSub, Int.reduceMul, Int.reduceNeg, Int.reduceToNat, UInt8.reduceToNat, natLit, ty3, ty9, ty55, ty60, ty62, ty100]
        refine ih (j + 1) ((j : Int) + 1) (bump ts (g.roots.getD j 0)) _ _ _ _ _ _ _ _ _ _ _ _ _ _ (by omega) rfl (by omega) (by rw [show ((j + 1 : Nat) : Int) = (j : Int) + 1 by omega]; exact hcn.bump _) ?_
        rw [← hfin, List.drop_eq_getElem_cons hlt, getD_of hlt, List.foldl_cons]
      · have t1 : ((j : Int) < g.roots.length) = False := eq_false (by omega)
        rw [zEv_round hc]
        simp (config := {contextual := true, maxSteps := 10000000, implicitDefEqProofs := false}) (disch := first | (and_intros <;> omega -splitDisjunctions) | (simp only [List.length_set, List.length_append, List.length_cons, List.length_nil]; and_intros <;> omega -splitDisjunctions) | fail) only [t1, f0, f1, f2, f3, f4, f5, f6, r0, r1, r2, r3, r4, r5, r6, Try.f88, go_sem, ↓reduceIte, Nat.reduceEqDiff, Nat.reduceAdd, Nat.reduceMul, Nat.reduceLT, Nat.reduceLeDiff, reduceCtorEq, Int.reduceNe, Int.reduceEq, Int.reduceLT, Int.reduceLE, Int.reduceAdd, Int.reduceSub, Int.reduceMul, Int.reduceNeg, Int.reduceToNat, UInt8.reduceToNat, natLit, ty3, ty9, ty55, ty60, ty62, ty100]
        rw [List.drop_of_length_le (by omega), List.foldl_nil] at hfin
        rw [hfin]
        exact hk _ _ _ _ _ _ _ _ _ _ _ _ _ _ _ _ _
  refine key (Ret _) (fun x0 x2 x5 x7 x9 x15 x16 x17 x18 x29 x30 x31 x32 x36 x37 x38 x39 => ?_) (g.roots.length + 1) 0 0 (List.replicate g.nodes.length 0) _ _ _ _ _ _ _ _ _ _ _ _ _ _ (by omega) rfl (by omega) Cnt.zero (by rw [List.drop_zero])
  clear key
  rw [← hR]
  have hT0 : Cnt g.nodes.length 1048576 (g.roots.foldl bump (List.replicate g.nodes.length 0)) := (Cnt.fold g.roots Cnt.zero).mono (by omega)
  have htm : tm g = tmN (g.roots.foldl bump (List.replicate g.nodes.length 0)) g.nodes := rfl
  generalize g.roots.foldl bump (List.replicate g.nodes.length 0) = T0 at *
  simp (config := {contextual := true, maxSteps := 10000000, implicitDefEqProofs := false}) (disch := first | (and_intros <;> omega -splitDisjunctions) | (simp only [List.length_set, List.length_append, List.length_cons, List.length_nil]; and_intros <;> omega -splitDisjunctions) | fail) only [f0, f1, f2, f3, f4, f5, f6, r0, r1, r2, r3, r4, r5, r6, Try.f88, go_sem, ↓reduceIte, Nat.reduceEqDiff, Nat.reduceAdd, Nat.reduceMul, Nat.reduceLT, Nat.reduceLeDiff, reduceCtorEq, Int.reduceNe, Int.reduceEq, Int.reduceLT, Int.reduceLE, Int.reduceAdd, Int.reduceSub, Int.reduceMul, Int.reduceNeg, Int.reduceToNat, UInt8.reduceToNat, natLit, ty3, ty9, ty55, ty60, ty62, ty100]
  clear hR hc
  refine at_loopR fun c2 R2 hc2 hR2 => ?_
  have key2 : ∀ (P : Option (V × LH) → Prop) (hk2 : ∀ (L : LH) (x0 x2 x5 x7 x9 x15 x16 x17 x18 x29 x30 x31 x32 x36 x37 x38 x39 : Option V), P (zEv (leaveX (mkR Try.prog cfg ok [0, 1, 2, 3, 5, 7, 9, 15, 16, 17, 18, 29, 30, 31, 32, 36, 37, 38, 39] H.length) .fresh H [ResultVar.tmp 2]) (mkR Try.prog cfg ok [0, 1, 2, 3, 5, 7, 9, 15, 16, 17, 18, 29, 30, 31, 32, 36, 37, 38, 39] H.length) R2 .nrm [x0, some (.ptr H.length 0), x2, some (.sl (H.length + 1) 0 1 g.nodes.length g.nodes.length), x5, x7, x9, x15, x16, x17, x18, x29, x30, x31, x32, x36, x37, x38, x39] (H ++ .cells [nv, rv] :: .cells (rows inC (tmN T0 g.nodes)) :: L)))
      (m : Nat) (j : Nat) (jj : Int) (ts : List Int) (L : LH) (x0 x2 x5 x7 x9 x15 x16 x17 x18 x32 x36 x37 x38 x39 : Option V), g.nodes.length - j < m → jj = j → j ≤ g.nodes.length → Cnt g.nodes.length (1048576 + 1048576 * j) ts → tmN ts (g.nodes.drop j) = tmN T0 g.nodes →
      P (zEv (leaveX (mkR Try.prog cfg ok [0, 1, 2, 3, 5, 7, 9, 15, 16, 17, 18, 29, 30, 31, 32, 36, 37, 38, 39] H.length) .fresh H [ResultVar.tmp 2]) (mkR Try.prog cfg ok [0, 1, 2, 3, 5, 7, 9, 15, 16, 17, 18, 29, 30, 31, 32, 36, 37, 38, 39] H.length) (K.code (Code.loop c2) :: K.blk 2 :: R2) .nrm [x0, some (.ptr H.length 0), x2, some (.sl (H.length + 1) 0 1 g.nodes.length g.nodes.length), x5, x7, x9, x15, x16, x17, x18, some nv, some (.int .i64 g.nodes.length), some (.int .i64 jj), x32, x36, x37, x38, x39] (H ++ .cells [nv, rv] :: .cells (rows inC ts) :: L)) := by
    intro P hk2 m
    induction m with
    | zero => intro j jj ts L x0 x2 x5 x7 x9 x15 x16 x17 x18 x32 x36 x37 x38 x39 hm; omega
    | succ m ih2 =>
      intro j jj ts L x0 x2 x5 x7 x9 x15 x16 x17 x18 x32 x36 x37 x38 x39 hm hj hle hcn hfin
      subst hj
      by_cases hlt : j < g.nodes.length
      · have t1 : ((j : Int) < g.nodes.length) = True := eq_true (by omega)
        have hk0 := hg.kids _ (List.getElem_mem hlt)
        rw [← getD_of hlt nd0] at hk0
        have hl2 := hcn.len
        have hB2 := (hRl j hlt).kids
        have hfin2 : tmN ((g.nodes.getD j nd0).kids.foldl bump ts) (g.nodes.drop (j + 1)) = tmN T0 g.nodes := by
          rw [← hfin, List.drop_eq_getElem_cons hlt, getD_of hlt]; rfl
        generalize hkv : (cs.getD j nc0).kv = kv at hB2
        generalize (g.nodes.getD j nd0).kids = ks at *
        have k1 := hB2.isTup; have k2 := hB2.len; have k3 := hB2.lenOk ty55; have k0 := hB2.one
        have k4 := fun L hp => (hB2.left (L := L)).con hp
        have k5 := hB2.idx (T := ty Try.prog) (t := 55) (by simp only [elemI, sizeO, ty3, ty55])
        have k6 := fun L => (hB2.left (L := L)).load1 0 (fun x => .int .i64 x) (fun _ => rfl)
        simp only [ncC] at f6
        rw [zEv_round hc2]
        simp (config := {contextual := true, maxSteps := 10000000, implicitDefEqProofs := false}) (disch := first | (and_intros <;> omega -splitDisjunctions) | (simp only [List.length_set, List.length_append, List.length_cons, List.length_nil]; and_intros <;> omega -splitDisjunctions) | fail) only [t1, hkv, f0, f1, f2, f3, f4, f5, f6, r0, r1, r2, r3, r4, r5, r6, k0, k1, k2, k3, k4, k5, k6, Try.f88, go_sem, ↓reduceIte, Nat.reduceEqDiff, Nat.reduceAdd, Nat.reduceMul, Nat.reduceLT, Nat.reduceLeDiff, reduceCtorEq, Int.reduceNe, Int.reduceEq, Int.reduceLT, Int.reduceLE, Int.reduceAdd, Int.reduceSub, Int.reduceMul, Int.reduceNeg, Int.reduceToNat, UInt8.reduceToNat, natLit, ty3, ty9, ty55, ty60, ty62, ty100]
        refine at_loopP fun c3 R3 hc3 hR3 => ?_
        have key3 : ∀ (P : Option (V × LH) → Prop) (hk3 : ∀ (M : LH) (x0 x2 x5 x7 x9 x15 x16 x17 x18 x32 x36 x37 x38 x39 : Option V), P (zEv (leaveX (mkR Try.prog cfg ok [0, 1, 2, 3, 5, 7, 9, 15, 16, 17, 18, 29, 30, 31, 32, 36, 37, 38, 39] H.length) .fresh H [ResultVar.tmp 2]) (mkR Try.prog cfg ok [0, 1, 2, 3, 5, 7, 9, 15, 16, 17, 18, 29, 30, 31, 32, 36, 37, 38, 39] H.length) R3 .nrm [x0, some (.ptr H.length 0), x2, some (.sl (H.length + 1) 0 1 g.nodes.length g.nodes.length), x5, x7, x9, x15, x16, x17, x18, some nv, some (.int .i64 g.nodes.length), some (.int .i64 (j : Int)), x32, x36, x37, x38, x39] (H ++ .cells [nv, rv] :: .cells (rows inC (ks.foldl bump ts)) :: M)))
            (m : Nat) (i : Nat) (ii : Int) (us : List Int) (M : LH) (x0 x2 x5 x7 x9 x15 x16 x17 x18 x32 x39 : Option V), ks.length - i < m → ii = i → i ≤ ks.length → Cnt g.nodes.length (1048576 + 1048576 * j + i) us → (ks.drop i).foldl bump us = ks.foldl bump ts →
            P (zEv (leaveX (mkR Try.prog cfg ok [0, 1, 2, 3, 5, 7, 9, 15, 16, 17, 18, 29, 30, 31, 32, 36, 37, 38, 39] H.length) .fresh H [ResultVar.tmp 2]) (mkR Try.prog cfg ok [0, 1, 2, 3, 5, 7, 9, 15, 16, 17, 18, 29, 30, 31, 32, 36, 37, 38, 39] H.length) (K.code (Code.loop c3) :: K.blk 4 :: R3) .nrm [x0, some (.ptr H.length 0), x2, some (.sl (H.length + 1) 0 1 g.nodes.length g.nodes.length), x5, x7, x9, x15, x16, x17, x18, some nv, some (.int .i64 g.nodes.length), some (.int .i64 (j : Int)), x32, some kv, some (.int .i64 ks.length), some (.int .i64 ii), x39] (H ++ .cells [nv, rv] :: .cells (rows inC us) :: M)) := by
          intro P hk3 m
          induction m with
          | zero => intro i ii us M x0 x2 x5 x7 x9 x15 x16 x17 x18 x32 x39 hm; omega
          | succ m ih3 =>
            intro i ii us M x0 x2 x5 x7 x9 x15 x16 x17 x18 x32 x39 hm hi hie hcm hfi
            subst hi
            by_cases hlt2 : i < ks.length
            · have t2 : ((i : Int) < ks.length) = True := eq_true (by omega)
              have hk1 := hk0.2 _ (List.getElem_mem hlt2)
              rw [← getD_of hlt2 0] at hk1
              have hl3 := hcm.len
              have hkn : (ks.getD i 0).toNat < us.length := by omega
              have q1 : (rows inC us).length = g.nodes.length := by rw [rows_len inC_len]; omega
              have q2 := fun w => set_inC hkn w
              have q3 := fun n K => cell_inC hkn n K
              have q4 := hcm.lo (ks.getD i 0).toNat
              have q5 := hcm.hi (ks.getD i 0).toNat
              rw [zEv_round hc3]
              simp (config := {contextual := true, maxSteps := 10000000, implicitDefEqProofs := false}) (disch := first | (and_intros <;> omega -splitDisjunctions) | (simp only [List.length_set, List.length_append, List.length_cons, List.length_nil]; and_intros <;> omega -splitDisjunctions) | fail) only [t2, q1, q2, q3, k0, k1, k2, k3, k4, k5, k6, Try.f88, go_sem, ↓reduceIte, Nat.reduceEqDiff, Nat.reduceAdd, Nat.reduceMul, Nat.reduceLT, Nat.reduceLeDiff, reduceCtorEq, Int.reduceNe, Int.reduceEq, Int.reduceLT, Int.reduceLE, Int.reduceAdd, Int.reduceSub, Int.reduceMul, Int.reduceNeg, Int.reduceToNat, UInt8.reduceToNat, natLit, ty3, ty9, ty55, ty60, ty62, ty100]
              refine ih3 (i + 1) ((i : Int) + 1) (bump us (ks.getD i 0)) _ _ _ _ _ _ _ _ _ _ _ _ (by omega) rfl (by omega) (by rw [show (1048576 : Int) + 1048576 * j + ((i + 1 : Nat) : Int) = 1048576 + 1048576 * j + i + 1 by omega]; exact hcm.bump _) ?_
              rw [← hfi, List.drop_eq_getElem_cons hlt2, getD_of hlt2, List.foldl_cons]
            · have t2 : ((i : Int) < ks.length) = False := eq_false (by omega)
              rw [zEv_round hc3]
              simp (config := {contextual := true, maxSteps := 10000000, implicitDefEqProofs := false}) (disch := first | (and_intros <;> omega -splitDisjunctions) | (simp only [List.length_set, List.length_append, List.length_cons, List.length_nil]; and_intros <;> omega -splitDisjunctions) | fail) only [t2, k0, k1, k2, k3, k4, k5, k6, Try.f88, go_sem, ↓reduceIte, Nat.reduceEqDiff, Nat.reduceAdd, Nat.reduceMul, Nat.reduceLT, Nat.reduceLeDiff, reduceCtorEq, Int.reduceNe, Int.reduceEq, Int.reduceLT, Int.reduceLE, Int.reduceAdd, Int.reduceSub, Int.reduceMul, Int.reduceNeg, Int.reduceToNat, UInt8.reduceToNat, natLit, ty3, ty9, ty55, ty60, ty62, ty100]
              rw [List.drop_of_length_le (by omega), List.foldl_nil] at hfi
              rw [hfi]
              exact hk3 _ _ _ _ _ _ _ _ _ _ _ _ _ _ _
        refine key3 P (fun M x0 x2 x5 x7 x9 x15 x16 x17 x18 x32 x36 x37 x38 x39 => ?_) (ks.length + 1) 0 0 ts _ _ _ _ _ _ _ _ _ _ _ _ (by omega) rfl (by omega) (hcn.mono (by omega)) (by rw [List.drop_zero])
        rw [← hR3]
        simp (config := {contextual := true, maxSteps := 10000000, implicitDefEqProofs := false}) (disch := first | (and_intros <;> omega -splitDisjunctions) | (simp only [List.length_set, List.length_append, List.length_cons, List.length_nil]; and_intros <;> omega -splitDisjunctions) | fail) only [Try.f88, go_sem, ↓reduceIte, Nat.reduceEqDiff, Nat.reduceAdd, Nat.reduceMul, Nat.reduceLT, Nat.reduceLeDiff, reduceCtorEq, Int.reduceNe, Int.reduceEq, Int.reduceLT, Int.reduceLE, Int.reduceAdd, Int.reduceSub, Int.reduceMul, Int.reduceNeg, Int.reduceToNat, UInt8.reduceToNat, natLit, ty3, ty9, ty55, ty60, ty62, ty100]
        exact ih2 (j + 1) ((j : Int) + 1) _ _ _ _ _ _ _ _ _ _ _ _ _ _ _ _ (by omega) rfl (by omega) ((Cnt.fold ks hcn).mono (by omega)) hfin2
      · have t1 : ((j : Int) < g.nodes.length) = False := eq_false (by omega)
        rw [zEv_round hc2]
        simp (config := {contextual := true, maxSteps := 10000000, implicitDefEqProofs := false}) (disch := first | (and_intros <;> omega -splitDisjunctions) | (simp only [List.length_set, List.length_append, List.length_cons, List.length_nil]; and_intros <;> omega -splitDisjunctions) | fail) only [t1, f0, f1, f2, f3, f4, f5, f6, r0, r1, r2, r3, r4, r5, r6, Try.f88, go_sem, ↓reduceIte, Nat.reduceEqDiff, Nat.reduceAdd, Nat.reduceMul, Nat.reduceLT, Nat.reduceLeDiff, reduceCtorEq, Int.reduceNe, Int.reduceEq, Int.reduceLT, Int.reduceLE, Int.reduceAdd, Int.reduceSub, Int.reduceMul, Int.reduceNeg, Int.reduceToNat, UInt8.reduceToNat, natLit, ty3, ty9, ty55, ty60, ty62, ty100]
        rw [List.drop_of_length_le (by omega)] at hfin
        have hfin : ts = tmN T0 g.nodes := hfin
        rw [hfin]
        exact hk2 _ _ _ _ _ _ _ _ _ _ _ _ _ _ _ _ _ _
  refine key2 (Ret _) (fun L x0 x2 x5 x7 x9 x15 x16 x17 x18 x29 x30 x31 x32 x36 x37 x38 x39 => ?_) (g.nodes.length + 1) 0 0 T0 [] _ _ _ _ _ _ _ _ _ _ _ _ _ _ (by omega) rfl (by omega) (hT0.mono (by omega)) (by rw [List.drop_zero])
  rw [← hR2]
  simp (config := {contextual := true, maxSteps := 10000000, implicitDefEqProofs := false}) (disch := first | (and_intros <;> omega -splitDisjunctions) | (simp only [List.length_set, List.length_append, List.length_cons, List.length_nil]; and_intros <;> omega -splitDisjunctions) | fail) only [Try.f88, go_sem, ↓reduceIte, Nat.reduceEqDiff, Nat.reduceAdd, Nat.reduceMul, Nat.reduceLT, Nat.reduceLeDiff, reduceCtorEq, Int.reduceNe, Int.reduceEq, Int.reduceLT, Int.reduceLE, Int.reduceAdd, Int.reduceSub, Int.reduceMul, Int.reduceNeg, Int.reduceToNat, UInt8.reduceToNat, natLit, ty3, ty9, ty55, ty60, ty62, ty100]
  rw [← htm]
  exact ⟨_, rfl⟩

end Go.Proofs.Ytbjpecknlohicaa.Lg
