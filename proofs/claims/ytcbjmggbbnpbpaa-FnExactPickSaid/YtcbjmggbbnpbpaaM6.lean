/- Contracts over the logical machine (Pw2 Pw3 Pk3 Pk4 PkB TPat2 TPat TPat3). No condition. -/
import Derived.Test.YtcbjmggbbnpbpaaM5
namespace Go.Proofs.Ytcbjmggbbnpbpaa.Lg
set_option linter.unusedSimpArgs false
set_option linter.unusedVariables false
set_option maxRecDepth 100000
set_option maxHeartbeats 40000000
open Go.Proofs.Ytcbjmggbbnpbpaa

/-- all loops of a text, the outer ones -/
def loopsOf : Code → List Code
  | .seq a b => loopsOf a ++ loopsOf b
  | .block _ c => loopsOf c
  | .cond _ a b => loopsOf a ++ loopsOf b
  | .loop c => [c]
  | _ => []
theorem at_mk {H : LH} {b n : Nat} {xs : List Sg} (hn : xs.length = n) (hc : H.cellsAt b = some (rows sgC xs)) : At H sgC 3 (.sl b 0 3 n n) xs := by
  subst hn
  exact Own.at (fl := 0) (.inr ⟨b, rfl, hc, Nat.zero_le _⟩) sgC_len
theorem rows_sg1 {xs : List Sg} {x : Sg} : rows sgC (xs ++ [x]) = rows sgC xs ++ sgC x := by rw [rows_app, rows_one]
/-- what the reference keeps of a visit -/
def spS (r : Bool × PS) : PS := if r.1 = true then r.2 else ⟨3001, r.2.hits⟩
theorem kid_loop {G : LH} {v pw : V} {dc : Int} {es : List Ev} {ps : List (List Sg)} (hN : At G evC 8 v es) (hlen : es.length ≤ 1048576) (b f : Nat) (d i : Nat) (hi : i < es.length)
    (path : List Sg) (pvv kw : V) (fl : Nat) (hfl : fl ≤ b) (H : LH)
    (IH : ∀ (A : LH) (hv : V) (cs : List HC) (s : PS) (i : Nat) (path : List Sg) (pvv : V) (fl : Nat), VSs G b f v pw dc A hv cs s → At A sgC 3 pvv path → capOk pvv → (∀ c ∈ sbk pvv, c ≠ b ∧ c ∉ sbk hv) → i < es.length → 3001 ≤ s.n + d → s.n ≤ 3000 → s.hits.length ≤ s.n → path.length ≤ s.n → fl ≤ b →
      Ret (fun w B => LeS G b f v pw dc A hv B (spS (vis es ps dc d i path s))) (run 22 [.ptr b 0, .int .i64 (i : Int), pvv] fl A))
    (hvh : ∀ (i : Nat) (path : List Sg) (s : PS), s.hits.length ≤ s.n → s.n ≤ 3000 → (vis es ps dc d i path s).2.hits.length ≤ (vis es ps dc d i path s).2.n)
    (c : Code) (R : List K) (hc0 : (Try.f22.body.bind fun x => (loopsOf (reC ([(8, [0, 1, 2, 3, 4, 5, 6, 7, 8, 9, 10, 12, 13, 14, 15, 16, 17, 18, 11, 19, 20, 21, 22, 23, 24, 25], [(11, 4), (11, 8), (11, 15), (11, 18)]), (17, [0, 1, 2, 3, 5, 6, 4, 7, 8], [(4, 5)])] : List (Nat × List Nat × List (Nat × Nat))) x))[1]?) = some c)
    (hRn : ∀ (A : LH) (x0 x1 x2 x7 x8 x9 x10 x19 x40 x44 x45 x46 x47 x53 x85 x86 x87 x88 x105 x116 x146 : Option V), zEv (leaveX (mkR Try.prog cfg ok [0, 1, 2, 7, 8, 9, 10, 19, 40, 44, 45, 46, 47, 53, 85, 86, 87, 88, 105, 116, 146] fl) .any H []) (mkR Try.prog cfg ok [0, 1, 2, 7, 8, 9, 10, 19, 40, 44, 45, 46, 47, 53, 85, 86, 87, 88, 105, 116, 146] fl) R .nrm [x0, x1, x2, x7, x8, x9, x10, x19, x40, x44, x45, x46, x47, x53, x85, x86, x87, x88, x105, x116, x146] A = some (und, A))
    (hRr : ∀ (A : LH) (x0 x1 x2 x7 x8 x9 x10 x19 x40 x44 x45 x46 x47 x53 x85 x86 x87 x88 x105 x116 x146 : Option V), zEv (leaveX (mkR Try.prog cfg ok [0, 1, 2, 7, 8, 9, 10, 19, 40, 44, 45, 46, 47, 53, 85, 86, 87, 88, 105, 116, 146] fl) .any H []) (mkR Try.prog cfg ok [0, 1, 2, 7, 8, 9, 10, 19, 40, 44, 45, 46, 47, 53, 85, 86, 87, 88, 105, 116, 146] fl) R .ret [x0, x1, x2, x7, x8, x9, x10, x19, x40, x44, x45, x46, x47, x53, x85, x86, x87, x88, x105, x116, x146] A = some (und, A)) :
    ∀ (m k : Nat) (kk : Int) (A : LH) (hv : V) (cs : List HC) (s : PS) (x7 x8 x9 x10 x19 x40 x44 x45 x46 x47 x53 x88 x105 x116 x146 : Option V), (kidsF es i).length - k < m → kk = k → k ≤ (kidsF es i).length → LIs G b f v pw dc pvv kw path (kidsF es i) A hv cs s →
      3001 ≤ s.n + d → s.n ≤ 3000 → s.hits.length ≤ s.n → path.length < s.n →
      Ret (fun w B => LeS G b f v pw dc A hv B (spS (visK (vis es ps dc d) es i (kidsF es i) path ((kidsF es i).length - k) k s)))
        (zEv (leaveX (mkR Try.prog cfg ok [0, 1, 2, 7, 8, 9, 10, 19, 40, 44, 45, 46, 47, 53, 85, 86, 87, 88, 105, 116, 146] fl) .any H []) (mkR Try.prog cfg ok [0, 1, 2, 7, 8, 9, 10, 19, 40, 44, 45, 46, 47, 53, 85, 86, 87, 88, 105, 116, 146] fl) (K.code (Code.loop c) :: K.blk 2 :: R) .nrm [some (.ptr b 0), some (.int .i64 (i : Int)), some pvv, x7, x8, x9, x10, x19, x40, x44, x45, x46, x47, x53, some kw, some (.int .i64 (kidsF es i).length), some (.int .i64 kk), x88, x105, x116, x146] A) := by
  simp only [reC, findR, reR, reL, reO, List.idxOf_cons, List.filter_cons, List.filter_nil, Option.map_some, Option.map_none, Try.f22, if_true, if_false, Nat.reduceEqDiff, Nat.reduceBEq, cond_true, cond_false, Nat.reduceAdd, List.map_cons, List.map_nil, List.append_nil, List.nil_append, List.cons_append, List.getElem?_cons_succ, List.getElem?_cons_zero, BEq.rfl, Nat.succ_ne_zero, Bool.false_eq_true, Option.bind_some, loopsOf] at hc0
  have hc := Option.some.inj hc0
  clear hc0
  intro m
  induction m with
  | zero => intro k kk A hv cs s x7 x8 x9 x10 x19 x40 x44 x45 x46 x47 x53 x88 x105 x116 x146 hm; omega
  | succ m ih =>
    intro k kk A hv cs s x7 x8 x9 x10 x19 x40 x44 x45 x46 x47 x53 x88 x105 x116 x146 hm hk hkl hI hd hn hhl hpl
    subst hk
    have hI0 := hI
    obtain ⟨hS, hp, hpa, hkA, hka⟩ := hI
    have hkl2 := kidsF_len es hi
    by_cases hlt : k < (kidsF es i).length
    rotate_left
    · have t1 : ((k : Int) < (kidsF es i).length) = False := eq_false (by omega)
      rw [show (kidsF es i).length - k = 0 by omega]
      unfold visK
      rw [zEv_round hc]
      simp (config := {contextual := true, maxSteps := 10000000, implicitDefEqProofs := false}) (disch := first | (and_intros <;> omega -splitDisjunctions) | (simp only [List.length_set, List.length_append, List.length_cons, List.length_nil]; and_intros <;> omega -splitDisjunctions) | fail) only [t1, hRn, reC, findR, reR, reL, reO, List.idxOf_cons, List.filter_cons, List.filter_nil, Option.map_some, Option.map_none, Try.f22, go_sem, ↓reduceIte, Nat.reduceEqDiff, Nat.reduceAdd, Nat.reduceMul, Nat.reduceLT, Nat.reduceLeDiff, reduceCtorEq, Int.reduceNe, Int.reduceEq, Int.reduceLT, Int.reduceLE, Int.reduceAdd, Int.reduceSub, Int.reduceMul, Int.reduceNeg, Int.reduceToNat, UInt8.reduceToNat, natLit, ty3, ty4, ty9, ty26, ty29, ty31, ty47, ty49, ty54, ty55, ty58, ty72, ty74, ty81]
      exact ⟨hv, cs, hS, Fx.refl A, .inl rfl⟩
    have t1 : ((k : Int) < (kidsF es i).length) = True := eq_true (by omega)
    rw [show (kidsF es i).length - k = ((kidsF es i).length - (k + 1)) + 1 by omega]
    unfold visK
    have hxk : (kidsF es i).getD k 0 ∈ kidsF es i := by rw [getD_of hlt]; exact List.getElem_mem _
    have hx := kidsF_in es hi _ hxk
    have g1 := hkA.isTup; have g2 := hkA.len; have g3 := hkA.lenOk ty55; have g0 := hkA.one
    have g4 := fun hp => hkA.con hp
    have g5 := hkA.idx (T := ty Try.prog) (t := 55) (by simp only [elemI, sizeO, ty3, ty55])
    have g6 := hkA.load1 0 (fun x => .int .i64 (x : Int)) (fun _ => rfl)
    have g6 := fun n K => g6 k hlt n K
    have hbA := cellsAt_lt hS.pk
    have pkL := fun L => cellsAt_left (L := L) hS.pk
    have pkA := hS.pk
    have hvA := hN.ext hS.hx
    have y1 := hvA.isTup; have y2 := hvA.len; have y3 := hvA.lenOk ty29; have y0 := hvA.one
    have y4 := fun L hp => (hvA.left (L := L)).con hp
    have y5 := hvA.idx (T := ty Try.prog) (t := 29) (by simp only [elemI, sizeO, ty3, ty4, ty9, ty29, ty58])
    have y6 := fun L => (hvA.left (L := L)).loadD evC_len evZ
    have y4 := fun L => (hvA.left (L := L)).con (by omega)
    have yA := hvA.con (by omega)
    have z0 := fun n K L => (hvA.left (L := L)).loadD0 evC_len evZ (fun e => .int .i64 e.kind) (fun _ => rfl) i hi n K
    have zA := fun n K => hvA.loadD0 evC_len evZ (fun e => .int .i64 e.kind) (fun _ => rfl) i hi n K
    have p1 := hp.isTup; have p2 := hp.one
    have s3 := hp.len; have s4 := hp.lenOk ty47
    have s6 := hp.src
    by_cases h4 : kd es i = 4
    rotate_left
    · have t4 : ((es.getD i evZ).kind = 4) = False := eq_false h4
      rw [if_neg (show ¬ (kd es i = 4 ∧ k % 2 = 0) from fun h => h4 h.1)]
      have hsg : segK es i (kidsF es i) k = ⟨1, k, ⟨#[]⟩⟩ := by unfold segK; rw [if_neg h4]
      rw [hsg]
      have s5 := fun L => (hp.left (L := L)).cells
      have tA1 : (A.length = A.length + 1) = False := eq_false (by omega)
      have tA2 : True := trivial
      by_cases hz : path.length = 0
      · have hx0 : path = [] := List.eq_nil_of_length_eq_zero hz
        rw [zEv_round hc]
        simp (config := {contextual := true, maxSteps := 10000000, implicitDefEqProofs := false}) (disch := first | (and_intros <;> omega -splitDisjunctions) | (simp only [List.length_set, List.length_append, List.length_cons, List.length_nil]; and_intros <;> omega -splitDisjunctions) | fail) only [t1, t4, ne_eq, tA1, tA2,  g0, g1, g2, g3, g4, g5, g6, y0, y1, y2, y3, y4, y5, y6, yA, z0, zA, pkL, pkA, p1, p2, s3, s4, s5, s6, hz, reC, findR, reR, reL, reO, List.idxOf_cons, List.filter_cons, List.filter_nil, Option.map_some, Option.map_none, Try.f22, go_sem, ↓reduceIte, Nat.reduceEqDiff, Nat.reduceAdd, Nat.reduceMul, Nat.reduceLT, Nat.reduceLeDiff, reduceCtorEq, Int.reduceNe, Int.reduceEq, Int.reduceLT, Int.reduceLE, Int.reduceAdd, Int.reduceSub, Int.reduceMul, Int.reduceNeg, Int.reduceToNat, UInt8.reduceToNat, natLit, ty3, ty4, ty9, ty26, ty29, ty31, ty47, ty49, ty54, ty55, ty58, ty72, ty74, ty81]
        subst hx0
        have fE : Fx A.length [] A (A ++ [Blk.cells [V.int .i64 1, V.int .i64 (k : Int), V.str ⟨#[]⟩], Blk.dead, Blk.cells [V.int .i64 1, V.int .i64 (k : Int), V.str ⟨#[]⟩], Blk.cells [V.int .i64 1, V.int .i64 (k : Int), V.str ⟨#[]⟩]]) := Fx.app (Nat.le_refl _)
        have pE : At (A ++ [Blk.cells [V.int .i64 1, V.int .i64 (k : Int), V.str ⟨#[]⟩], Blk.dead, Blk.cells [V.int .i64 1, V.int .i64 (k : Int), V.str ⟨#[]⟩], Blk.cells [V.int .i64 1, V.int .i64 (k : Int), V.str ⟨#[]⟩]]) sgC 3 (.sl (A.length + 3) 0 3 (0 + 1) (0 + 1)) ([] ++ [⟨1, (k : Int), ⟨#[]⟩⟩]) := at_mk (by simp) (by rw [rows_sg1, cellsAt_app]; rfl)
        refine zS_call (IH _ hv cs s _ _ _ fl (hS.fr fE) pE (Nat.le_refl _) ?_ (by omega) (by omega) hn hhl (by rw [List.length_append, List.length_singleton]; omega) hfl) fun w B hB => ?_
        · intro c hc
          have hc : c = A.length + 3 := by simpa [sbk] using hc
          exact ⟨by omega, fun hm => by have := hS.ho.own.sbk c hm; omega⟩
        obtain ⟨hv', cs', hS', hF, hE⟩ := hB
        have hF' : Fx A.length (b :: sbk hv) A B := fE.up.trans hF (Nat.le_refl _) (fun c _ h => h)
        have hlB := fE.len
        have hE' : hv' = hv ∨ ∀ c ∈ sbk hv', A.length ≤ c := by
          rcases hE with h | h
          · exact .inl h
          · exact .inr fun c hc => Nat.le_trans hlB (h c hc)
        have hI2 := hI0.step hS' hF' hE'
        have hvn := vis_n es ps dc d ((kidsF es i).getD k 0) ([] ++ [⟨1, (k : Int), ⟨#[]⟩⟩]) s hn
        have hvh2 := hvh ((kidsF es i).getD k 0) ([] ++ [⟨1, (k : Int), ⟨#[]⟩⟩]) s hhl hn
        generalize vis es ps dc d ((kidsF es i).getD k 0) ([] ++ [⟨1, (k : Int), ⟨#[]⟩⟩]) s = r at *
        obtain ⟨rb, s'⟩ := r
        dsimp only at *
        have pkB := hS'.pk
        cases rb with
        | false =>
          have pkB : LH.cellsAt B b = some [v, pw, hv', .int .i64 dc, .int .i64 3001] := pkB
          simp (config := {contextual := true, maxSteps := 10000000, implicitDefEqProofs := false}) (disch := first | (and_intros <;> omega -splitDisjunctions) | (simp only [List.length_set, List.length_append, List.length_cons, List.length_nil]; and_intros <;> omega -splitDisjunctions) | fail) only [pkB, hRr, reC, findR, reR, reL, reO, List.idxOf_cons, List.filter_cons, List.filter_nil, Option.map_some, Option.map_none, Try.f22, go_sem, ↓reduceIte, Nat.reduceEqDiff, Nat.reduceAdd, Nat.reduceMul, Nat.reduceLT, Nat.reduceLeDiff, reduceCtorEq, Int.reduceNe, Int.reduceEq, Int.reduceLT, Int.reduceLE, Int.reduceAdd, Int.reduceSub, Int.reduceMul, Int.reduceNeg, Int.reduceToNat, UInt8.reduceToNat, natLit, ty3, ty4, ty9, ty26, ty29, ty31, ty47, ty49, ty54, ty55, ty58, ty72, ty74, ty81]
          exact ⟨hv', cs', hS', hF', hE'⟩
        | true =>
          have t9 : ((s'.n : Int) > 3000) = False := eq_false (by omega)
          have t10 : (3000 < (s'.n : Int)) = False := eq_false (by omega)
          have pkB : LH.cellsAt B b = some [v, pw, hv', .int .i64 dc, .int .i64 s'.n] := pkB
          simp (config := {contextual := true, maxSteps := 10000000, implicitDefEqProofs := false}) (disch := first | (and_intros <;> omega -splitDisjunctions) | (simp only [List.length_set, List.length_append, List.length_cons, List.length_nil]; and_intros <;> omega -splitDisjunctions) | fail) only [pkB, t9, t10, hRr, reC, findR, reR, reL, reO, List.idxOf_cons, List.filter_cons, List.filter_nil, Option.map_some, Option.map_none, Try.f22, go_sem, ↓reduceIte, Nat.reduceEqDiff, Nat.reduceAdd, Nat.reduceMul, Nat.reduceLT, Nat.reduceLeDiff, reduceCtorEq, Int.reduceNe, Int.reduceEq, Int.reduceLT, Int.reduceLE, Int.reduceAdd, Int.reduceSub, Int.reduceMul, Int.reduceNeg, Int.reduceToNat, UInt8.reduceToNat, natLit, ty3, ty4, ty9, ty26, ty29, ty31, ty47, ty49, ty54, ty55, ty58, ty72, ty74, ty81]
          exact (ih (k + 1) _ B hv' cs' s' _ _ _ _ _ _ _ _ _ _ _ _ _ _ _ (by omega) (by omega) (by omega) hI2 (by omega) hvn.2 hvh2 (by omega)).mono fun w C hw => hw.trans hF' hE'
      · have hp0 : 0 < path.length := by omega
        have hn2 : ¬ path.length ≤ 0 := by omega
        have hn3 : (path.length + 1 ≤ path.length) = False := eq_false (by omega)
        have g8 : (rows sgC path).length = path.length * 3 := rows_len sgC_len path
        have g9 : (rows sgC path).take (path.length * 3) = rows sgC path := List.take_of_length_le (by omega)
        rw [zEv_round hc]
        simp (config := {contextual := true, maxSteps := 10000000, implicitDefEqProofs := false}) (disch := first | (and_intros <;> omega -splitDisjunctions) | (simp only [List.length_set, List.length_append, List.length_cons, List.length_nil]; and_intros <;> omega -splitDisjunctions) | fail) only [t1, t4, ne_eq, tA1, tA2,  g0, g1, g2, g3, g4, g5, g6, y0, y1, y2, y3, y4, y5, y6, yA, z0, zA, pkL, pkA, p1, p2, s3, s4, s5, s6, hz, hn2, hn3, g8, g9, reC, findR, reR, reL, reO, List.idxOf_cons, List.filter_cons, List.filter_nil, Option.map_some, Option.map_none, Try.f22, go_sem, ↓reduceIte, Nat.reduceEqDiff, Nat.reduceAdd, Nat.reduceMul, Nat.reduceLT, Nat.reduceLeDiff, reduceCtorEq, Int.reduceNe, Int.reduceEq, Int.reduceLT, Int.reduceLE, Int.reduceAdd, Int.reduceSub, Int.reduceMul, Int.reduceNeg, Int.reduceToNat, UInt8.reduceToNat, natLit, ty3, ty4, ty9, ty26, ty29, ty31, ty47, ty49, ty54, ty55, ty58, ty72, ty74, ty81]
        have fE : Fx A.length [] A (A ++ [Blk.cells [V.int .i64 1, V.int .i64 (k : Int), V.str ⟨#[]⟩], Blk.dead, Blk.cells [V.int .i64 1, V.int .i64 (k : Int), V.str ⟨#[]⟩], Blk.dead, Blk.cells (rows sgC path ++ [V.int .i64 1, V.int .i64 (k : Int), V.str ⟨#[]⟩])]) := Fx.app (Nat.le_refl _)
        have pE : At (A ++ [Blk.cells [V.int .i64 1, V.int .i64 (k : Int), V.str ⟨#[]⟩], Blk.dead, Blk.cells [V.int .i64 1, V.int .i64 (k : Int), V.str ⟨#[]⟩], Blk.dead, Blk.cells (rows sgC path ++ [V.int .i64 1, V.int .i64 (k : Int), V.str ⟨#[]⟩])]) sgC 3 (.sl (A.length + 4) 0 3 (path.length + 1) (path.length + 1)) (path ++ [⟨1, (k : Int), ⟨#[]⟩⟩]) := at_mk (by simp) (by rw [rows_sg1, cellsAt_app]; rfl)
        refine zS_call (IH _ hv cs s _ _ _ fl (hS.fr fE) pE (Nat.le_refl _) ?_ (by omega) (by omega) hn hhl (by rw [List.length_append, List.length_singleton]; omega) hfl) fun w B hB => ?_
        · intro c hc
          have hc : c = A.length + 4 := by simpa [sbk] using hc
          exact ⟨by omega, fun hm => by have := hS.ho.own.sbk c hm; omega⟩
        obtain ⟨hv', cs', hS', hF, hE⟩ := hB
        have hF' : Fx A.length (b :: sbk hv) A B := fE.up.trans hF (Nat.le_refl _) (fun c _ h => h)
        have hlB := fE.len
        have hE' : hv' = hv ∨ ∀ c ∈ sbk hv', A.length ≤ c := by
          rcases hE with h | h
          · exact .inl h
          · exact .inr fun c hc => Nat.le_trans hlB (h c hc)
        have hI2 := hI0.step hS' hF' hE'
        have hvn := vis_n es ps dc d ((kidsF es i).getD k 0) (path ++ [⟨1, (k : Int), ⟨#[]⟩⟩]) s hn
        have hvh2 := hvh ((kidsF es i).getD k 0) (path ++ [⟨1, (k : Int), ⟨#[]⟩⟩]) s hhl hn
        generalize vis es ps dc d ((kidsF es i).getD k 0) (path ++ [⟨1, (k : Int), ⟨#[]⟩⟩]) s = r at *
        obtain ⟨rb, s'⟩ := r
        dsimp only at *
        have pkB := hS'.pk
        cases rb with
        | false =>
          have pkB : LH.cellsAt B b = some [v, pw, hv', .int .i64 dc, .int .i64 3001] := pkB
          simp (config := {contextual := true, maxSteps := 10000000, implicitDefEqProofs := false}) (disch := first | (and_intros <;> omega -splitDisjunctions) | (simp only [List.length_set, List.length_append, List.length_cons, List.length_nil]; and_intros <;> omega -splitDisjunctions) | fail) only [pkB, hRr, reC, findR, reR, reL, reO, List.idxOf_cons, List.filter_cons, List.filter_nil, Option.map_some, Option.map_none, Try.f22, go_sem, ↓reduceIte, Nat.reduceEqDiff, Nat.reduceAdd, Nat.reduceMul, Nat.reduceLT, Nat.reduceLeDiff, reduceCtorEq, Int.reduceNe, Int.reduceEq, Int.reduceLT, Int.reduceLE, Int.reduceAdd, Int.reduceSub, Int.reduceMul, Int.reduceNeg, Int.reduceToNat, UInt8.reduceToNat, natLit, ty3, ty4, ty9, ty26, ty29, ty31, ty47, ty49, ty54, ty55, ty58, ty72, ty74, ty81]
          exact ⟨hv', cs', hS', hF', hE'⟩
        | true =>
          have t9 : ((s'.n : Int) > 3000) = False := eq_false (by omega)
          have t10 : (3000 < (s'.n : Int)) = False := eq_false (by omega)
          have pkB : LH.cellsAt B b = some [v, pw, hv', .int .i64 dc, .int .i64 s'.n] := pkB
          simp (config := {contextual := true, maxSteps := 10000000, implicitDefEqProofs := false}) (disch := first | (and_intros <;> omega -splitDisjunctions) | (simp only [List.length_set, List.length_append, List.length_cons, List.length_nil]; and_intros <;> omega -splitDisjunctions) | fail) only [pkB, t9, t10, hRr, reC, findR, reR, reL, reO, List.idxOf_cons, List.filter_cons, List.filter_nil, Option.map_some, Option.map_none, Try.f22, go_sem, ↓reduceIte, Nat.reduceEqDiff, Nat.reduceAdd, Nat.reduceMul, Nat.reduceLT, Nat.reduceLeDiff, reduceCtorEq, Int.reduceNe, Int.reduceEq, Int.reduceLT, Int.reduceLE, Int.reduceAdd, Int.reduceSub, Int.reduceMul, Int.reduceNeg, Int.reduceToNat, UInt8.reduceToNat, natLit, ty3, ty4, ty9, ty26, ty29, ty31, ty47, ty49, ty54, ty55, ty58, ty72, ty74, ty81]
          exact (ih (k + 1) _ B hv' cs' s' _ _ _ _ _ _ _ _ _ _ _ _ _ _ _ (by omega) (by omega) (by omega) hI2 (by omega) hvn.2 hvh2 (by omega)).mono fun w C hw => hw.trans hF' hE'
    · have t4 : ((es.getD i evZ).kind = 4) = True := eq_true h4
      by_cases hev : k % 2 = 0
      · have t5 : (Int.tmod (k : Int) 2 = 0) = True := eq_true (by rw [Int.tmod_eq_emod_of_nonneg (by omega)]; omega)
        rw [if_pos (show kd es i = 4 ∧ k % 2 = 0 from ⟨h4, hev⟩)]
        rw [zEv_round hc]
        simp (config := {contextual := true, maxSteps := 10000000, implicitDefEqProofs := false}) (disch := first | (and_intros <;> omega -splitDisjunctions) | (simp only [List.length_set, List.length_append, List.length_cons, List.length_nil]; and_intros <;> omega -splitDisjunctions) | fail) only [t1, t4, t5, z0, zA, yA, g0, g1, g2, g3, g4, g5, g6, y0, y1, y2, y3, y4, y5, y6, pkL, pkA, p1, p2, reC, findR, reR, reL, reO, List.idxOf_cons, List.filter_cons, List.filter_nil, Option.map_some, Option.map_none, Try.f22, go_sem, ↓reduceIte, Nat.reduceEqDiff, Nat.reduceAdd, Nat.reduceMul, Nat.reduceLT, Nat.reduceLeDiff, reduceCtorEq, Int.reduceNe, Int.reduceEq, Int.reduceLT, Int.reduceLE, Int.reduceAdd, Int.reduceSub, Int.reduceMul, Int.reduceNeg, Int.reduceToNat, UInt8.reduceToNat, natLit, ty3, ty4, ty9, ty26, ty29, ty31, ty47, ty49, ty54, ty55, ty58, ty72, ty74, ty81]
        exact ih (k + 1) _ _ hv cs s _ _ _ _ _ _ _ _ _ _ _ _ _ _ _ (by omega) (by omega) (by omega) hI0 hd hn hhl hpl
      · have t5 : (Int.tmod (k : Int) 2 = 0) = False := eq_false (by rw [Int.tmod_eq_emod_of_nonneg (by omega)]; omega)
        rw [if_neg (show ¬ (kd es i = 4 ∧ k % 2 = 0) from fun h => hev h.2)]
        have hsg : segK es i (kidsF es i) k = ⟨2, 0, keyV es ((kidsF es i).getD (k - 1) 0)⟩ := by unfold segK; rw [if_pos h4]
        rw [hsg]
        have hk1 : (k : Int) - 1 = ((k - 1 : Nat) : Int) := by omega
        have hlt1 : k - 1 < (kidsF es i).length := by omega
        have hxk1 : (kidsF es i).getD (k - 1) 0 ∈ kidsF es i := by rw [getD_of hlt1]; exact List.getElem_mem _
        have hx1 := kidsF_in es hi _ hxk1
        obtain ⟨kw2, D, e3, xD, oD⟩ := run_l13Kids (hvA.left (L := [Blk.cells [V.int .i64 1, V.int .i64 (k : Int), V.str ⟨#[]⟩]])) hlen hi fl
        have rD := oD.at inN_len
        have q1 := rD.isTup; have q2 := rD.len; have q3 := rD.lenOk ty55; have q0 := rD.one
        have q4 := fun hp => rD.con hp
        have q5 := rD.idx (T := ty Try.prog) (t := 55) (by simp only [elemI, sizeO, ty3, ty55])
        have q6 := rD.load1 0 (fun x => .int .i64 (x : Int)) (fun _ => rfl)
        have q6 := fun n K => q6 (k - 1) hlt1 n K
        have hND := (hvA.left (L := [Blk.cells [V.int .i64 1, V.int .i64 (k : Int), V.str ⟨#[]⟩]])).ext xD
        have e5 := fun fl => run_l17Key hND hlen hx1.2.1 fl
        generalize keyV es ((kidsF es i).getD (k - 1) 0) = key at *
        have hlD := xD.len
        rw [List.length_append] at hlD
        simp only [List.length_cons, List.length_nil, Nat.zero_add] at hlD
        have c12 : LH.cellsAt D A.length = some [V.int .i64 1, V.int .i64 (k : Int), V.str ⟨#[]⟩] := xD.cells (by rw [cellsAt_app0]; rfl)
        have hxAD : Hx A D := Hx.app.trans xD
        have pkD := hxAD.cells hS.pk
        have fD : Fx A.length [] A (List.set D A.length (Blk.cells [V.int .i64 2, V.int .i64 0, V.str key])) := by
          obtain ⟨M, rfl⟩ := hxAD
          exact (Fx.app (E := []) (L := M) (Nat.le_refl _)).trans (Fx.set (f := (A ++ M).length) (E := [A.length]) (.inl (by simp))) (Nat.le_refl _) (fun c h1 h2 => absurd h1 (by rw [List.mem_singleton.1 h2]; omega))
        have c13 : LH.cellsAt (List.set D A.length (Blk.cells [V.int .i64 2, V.int .i64 0, V.str key])) A.length = some [V.int .i64 2, V.int .i64 0, V.str key] := cellsAt_set (by omega)
        have c13L := fun L => cellsAt_left (L := L) c13
        have c13K : ∀ M, LH.cellsAt (List.set D A.length (Blk.cells [V.int .i64 2, V.int .i64 0, V.str key]) ++ M) A.length = some [V.int .i64 2, V.int .i64 0, V.str key] := fun M => cellsAt_left c13
        have hlD2 : (List.set D A.length (Blk.cells [V.int .i64 2, V.int .i64 0, V.str key])).length = D.length := by simp
        have hpD := hp.fr fD (fun c hc => ⟨hp.sbk c hc, by simp⟩)
        have s5 := fun L => (hpD.left (L := L)).cells
        have tA1 : (A.length = D.length) = False := eq_false (by omega)
        have tA2 : (A.length = D.length + 1) = False := eq_false (by omega)
        unfold run at e3 e5
        by_cases hz : path.length = 0
        · have hx0 : path = [] := List.eq_nil_of_length_eq_zero hz
          rw [zEv_round hc]
          simp (config := {contextual := true, maxSteps := 10000000, implicitDefEqProofs := false}) (disch := first | (and_intros <;> omega -splitDisjunctions) | (simp only [List.length_set, List.length_append, List.length_cons, List.length_nil]; and_intros <;> omega -splitDisjunctions) | fail) only [t1, t4, ne_eq, tA1, tA2,  g0, g1, g2, g3, g4, g5, g6, y0, y1, y2, y3, y4, y5, y6, yA, z0, zA, pkL, pkA, p1, p2, s3, s4, s5, s6, hz, t5, hk1, e3, e5, q0, q1, q2, q3, q4, q5, q6, pkD, c12, c13, c13L, c13K, reC, findR, reR, reL, reO, List.idxOf_cons, List.filter_cons, List.filter_nil, Option.map_some, Option.map_none, Try.f22, go_sem, ↓reduceIte, Nat.reduceEqDiff, Nat.reduceAdd, Nat.reduceMul, Nat.reduceLT, Nat.reduceLeDiff, reduceCtorEq, Int.reduceNe, Int.reduceEq, Int.reduceLT, Int.reduceLE, Int.reduceAdd, Int.reduceSub, Int.reduceMul, Int.reduceNeg, Int.reduceToNat, UInt8.reduceToNat, natLit, ty3, ty4, ty9, ty26, ty29, ty31, ty47, ty49, ty54, ty55, ty58, ty72, ty74, ty81]
          subst hx0
          have fE : Fx A.length [] A (List.set D A.length (Blk.cells [V.int .i64 2, V.int .i64 0, V.str key]) ++ [Blk.dead, Blk.cells [V.int .i64 2, V.int .i64 0, V.str key], Blk.cells [V.int .i64 2, V.int .i64 0, V.str key]]) := fD.trans (Fx.app (Nat.le_refl _)) (Nat.le_refl _) (fun c _ h => h)
          have pE : At (List.set D A.length (Blk.cells [V.int .i64 2, V.int .i64 0, V.str key]) ++ [Blk.dead, Blk.cells [V.int .i64 2, V.int .i64 0, V.str key], Blk.cells [V.int .i64 2, V.int .i64 0, V.str key]]) sgC 3 (.sl (D.length + 2) 0 3 (0 + 1) (0 + 1)) ([] ++ [⟨2, 0, key⟩]) := at_mk (by simp) (by rw [rows_sg1, cellsAt_appS]; rfl)
          refine zS_call (IH _ hv cs s _ _ _ fl (hS.fr fE) pE (Nat.le_refl _) ?_ (by omega) (by omega) hn hhl (by rw [List.length_append, List.length_singleton]; omega) hfl) fun w B hB => ?_
          · intro c hc
            have hc : c = D.length + 2 := by simpa [sbk] using hc
            exact ⟨by omega, fun hm => by have := hS.ho.own.sbk c hm; omega⟩
          obtain ⟨hv', cs', hS', hF, hE⟩ := hB
          have hF' : Fx A.length (b :: sbk hv) A B := fE.up.trans hF (Nat.le_refl _) (fun c _ h => h)
          have hlB := fE.len
          have hE' : hv' = hv ∨ ∀ c ∈ sbk hv', A.length ≤ c := by
            rcases hE with h | h
            · exact .inl h
            · exact .inr fun c hc => Nat.le_trans hlB (h c hc)
          have hI2 := hI0.step hS' hF' hE'
          have hvn := vis_n es ps dc d ((kidsF es i).getD k 0) ([] ++ [⟨2, 0, key⟩]) s hn
          have hvh2 := hvh ((kidsF es i).getD k 0) ([] ++ [⟨2, 0, key⟩]) s hhl hn
          generalize vis es ps dc d ((kidsF es i).getD k 0) ([] ++ [⟨2, 0, key⟩]) s = r at *
          obtain ⟨rb, s'⟩ := r
          dsimp only at *
          have pkB := hS'.pk
          cases rb with
          | false =>
            have pkB : LH.cellsAt B b = some [v, pw, hv', .int .i64 dc, .int .i64 3001] := pkB
            simp (config := {contextual := true, maxSteps := 10000000, implicitDefEqProofs := false}) (disch := first | (and_intros <;> omega -splitDisjunctions) | (simp only [List.length_set, List.length_append, List.length_cons, List.length_nil]; and_intros <;> omega -splitDisjunctions) | fail) only [pkB, hRr, reC, findR, reR, reL, reO, List.idxOf_cons, List.filter_cons, List.filter_nil, Option.map_some, Option.map_none, Try.f22, go_sem, ↓reduceIte, Nat.reduceEqDiff, Nat.reduceAdd, Nat.reduceMul, Nat.reduceLT, Nat.reduceLeDiff, reduceCtorEq, Int.reduceNe, Int.reduceEq, Int.reduceLT, Int.reduceLE, Int.reduceAdd, Int.reduceSub, Int.reduceMul, Int.reduceNeg, Int.reduceToNat, UInt8.reduceToNat, natLit, ty3, ty4, ty9, ty26, ty29, ty31, ty47, ty49, ty54, ty55, ty58, ty72, ty74, ty81]
            exact ⟨hv', cs', hS', hF', hE'⟩
          | true =>
            have t9 : ((s'.n : Int) > 3000) = False := eq_false (by omega)
            have t10 : (3000 < (s'.n : Int)) = False := eq_false (by omega)
            have pkB : LH.cellsAt B b = some [v, pw, hv', .int .i64 dc, .int .i64 s'.n] := pkB
            simp (config := {contextual := true, maxSteps := 10000000, implicitDefEqProofs := false}) (disch := first | (and_intros <;> omega -splitDisjunctions) | (simp only [List.length_set, List.length_append, List.length_cons, List.length_nil]; and_intros <;> omega -splitDisjunctions) | fail) only [pkB, t9, t10, hRr, reC, findR, reR, reL, reO, List.idxOf_cons, List.filter_cons, List.filter_nil, Option.map_some, Option.map_none, Try.f22, go_sem, ↓reduceIte, Nat.reduceEqDiff, Nat.reduceAdd, Nat.reduceMul, Nat.reduceLT, Nat.reduceLeDiff, reduceCtorEq, Int.reduceNe, Int.reduceEq, Int.reduceLT, Int.reduceLE, Int.reduceAdd, Int.reduceSub, Int.reduceMul, Int.reduceNeg, Int.reduceToNat, UInt8.reduceToNat, natLit, ty3, ty4, ty9, ty26, ty29, ty31, ty47, ty49, ty54, ty55, ty58, ty72, ty74, ty81]
            exact (ih (k + 1) _ B hv' cs' s' _ _ _ _ _ _ _ _ _ _ _ _ _ _ _ (by omega) (by omega) (by omega) hI2 (by omega) hvn.2 hvh2 (by omega)).mono fun w C hw => hw.trans hF' hE'
        · have hp0 : 0 < path.length := by omega
          have hn2 : ¬ path.length ≤ 0 := by omega
          have hn3 : (path.length + 1 ≤ path.length) = False := eq_false (by omega)
          have g8 : (rows sgC path).length = path.length * 3 := rows_len sgC_len path
          have g9 : (rows sgC path).take (path.length * 3) = rows sgC path := List.take_of_length_le (by omega)
          rw [zEv_round hc]
          simp (config := {contextual := true, maxSteps := 10000000, implicitDefEqProofs := false}) (disch := first | (and_intros <;> omega -splitDisjunctions) | (simp only [List.length_set, List.length_append, List.length_cons, List.length_nil]; and_intros <;> omega -splitDisjunctions) | fail) only [t1, t4, ne_eq, tA1, tA2,  g0, g1, g2, g3, g4, g5, g6, y0, y1, y2, y3, y4, y5, y6, yA, z0, zA, pkL, pkA, p1, p2, s3, s4, s5, s6, hz, hn2, hn3, g8, g9, t5, hk1, e3, e5, q0, q1, q2, q3, q4, q5, q6, pkD, c12, c13, c13L, c13K, reC, findR, reR, reL, reO, List.idxOf_cons, List.filter_cons, List.filter_nil, Option.map_some, Option.map_none, Try.f22, go_sem, ↓reduceIte, Nat.reduceEqDiff, Nat.reduceAdd, Nat.reduceMul, Nat.reduceLT, Nat.reduceLeDiff, reduceCtorEq, Int.reduceNe, Int.reduceEq, Int.reduceLT, Int.reduceLE, Int.reduceAdd, Int.reduceSub, Int.reduceMul, Int.reduceNeg, Int.reduceToNat, UInt8.reduceToNat, natLit, ty3, ty4, ty9, ty26, ty29, ty31, ty47, ty49, ty54, ty55, ty58, ty72, ty74, ty81]
          have fE : Fx A.length [] A (List.set D A.length (Blk.cells [V.int .i64 2, V.int .i64 0, V.str key]) ++ [Blk.dead, Blk.cells [V.int .i64 2, V.int .i64 0, V.str key], Blk.dead, Blk.cells (rows sgC path ++ [V.int .i64 2, V.int .i64 0, V.str key])]) := fD.trans (Fx.app (Nat.le_refl _)) (Nat.le_refl _) (fun c _ h => h)
          have pE : At (List.set D A.length (Blk.cells [V.int .i64 2, V.int .i64 0, V.str key]) ++ [Blk.dead, Blk.cells [V.int .i64 2, V.int .i64 0, V.str key], Blk.dead, Blk.cells (rows sgC path ++ [V.int .i64 2, V.int .i64 0, V.str key])]) sgC 3 (.sl (D.length + 3) 0 3 (path.length + 1) (path.length + 1)) (path ++ [⟨2, 0, key⟩]) := at_mk (by simp) (by rw [rows_sg1, cellsAt_appS]; rfl)
          refine zS_call (IH _ hv cs s _ _ _ fl (hS.fr fE) pE (Nat.le_refl _) ?_ (by omega) (by omega) hn hhl (by rw [List.length_append, List.length_singleton]; omega) hfl) fun w B hB => ?_
          · intro c hc
            have hc : c = D.length + 3 := by simpa [sbk] using hc
            exact ⟨by omega, fun hm => by have := hS.ho.own.sbk c hm; omega⟩
          obtain ⟨hv', cs', hS', hF, hE⟩ := hB
          have hF' : Fx A.length (b :: sbk hv) A B := fE.up.trans hF (Nat.le_refl _) (fun c _ h => h)
          have hlB := fE.len
          have hE' : hv' = hv ∨ ∀ c ∈ sbk hv', A.length ≤ c := by
            rcases hE with h | h
            · exact .inl h
            · exact .inr fun c hc => Nat.le_trans hlB (h c hc)
          have hI2 := hI0.step hS' hF' hE'
          have hvn := vis_n es ps dc d ((kidsF es i).getD k 0) (path ++ [⟨2, 0, key⟩]) s hn
          have hvh2 := hvh ((kidsF es i).getD k 0) (path ++ [⟨2, 0, key⟩]) s hhl hn
          generalize vis es ps dc d ((kidsF es i).getD k 0) (path ++ [⟨2, 0, key⟩]) s = r at *
          obtain ⟨rb, s'⟩ := r
          dsimp only at *
          have pkB := hS'.pk
          cases rb with
          | false =>
            have pkB : LH.cellsAt B b = some [v, pw, hv', .int .i64 dc, .int .i64 3001] := pkB
            simp (config := {contextual := true, maxSteps := 10000000, implicitDefEqProofs := false}) (disch := first | (and_intros <;> omega -splitDisjunctions) | (simp only [List.length_set, List.length_append, List.length_cons, List.length_nil]; and_intros <;> omega -splitDisjunctions) | fail) only [pkB, hRr, reC, findR, reR, reL, reO, List.idxOf_cons, List.filter_cons, List.filter_nil, Option.map_some, Option.map_none, Try.f22, go_sem, ↓reduceIte, Nat.reduceEqDiff, Nat.reduceAdd, Nat.reduceMul, Nat.reduceLT, Nat.reduceLeDiff, reduceCtorEq, Int.reduceNe, Int.reduceEq, Int.reduceLT, Int.reduceLE, Int.reduceAdd, Int.reduceSub, Int.reduceMul, Int.reduceNeg, Int.reduceToNat, UInt8.reduceToNat, natLit, ty3, ty4, ty9, ty26, ty29, ty31, ty47, ty49, ty54, ty55, ty58, ty72, ty74, ty81]
            exact ⟨hv', cs', hS', hF', hE'⟩
          | true =>
            have t9 : ((s'.n : Int) > 3000) = False := eq_false (by omega)
            have t10 : (3000 < (s'.n : Int)) = False := eq_false (by omega)
            have pkB : LH.cellsAt B b = some [v, pw, hv', .int .i64 dc, .int .i64 s'.n] := pkB
            simp (config := {contextual := true, maxSteps := 10000000, implicitDefEqProofs := false}) (disch := first | (and_intros <;> omega -splitDisjunctions) | (simp only [List.length_set, List.length_append, List.length_cons, List.length_nil]; and_intros <;> omega -splitDisjunctions) | fail) only [pkB, t9, t10, hRr, reC, findR, reR, reL, reO, List.idxOf_cons, List.filter_cons, List.filter_nil, Option.map_some, Option.map_none, Try.f22, go_sem, ↓reduceIte, Nat.reduceEqDiff, Nat.reduceAdd, Nat.reduceMul, Nat.reduceLT, Nat.reduceLeDiff, reduceCtorEq, Int.reduceNe, Int.reduceEq, Int.reduceLT, Int.reduceLE, Int.reduceAdd, Int.reduceSub, Int.reduceMul, Int.reduceNeg, Int.reduceToNat, UInt8.reduceToNat, natLit, ty3, ty4, ty9, ty26, ty29, ty31, ty47, ty49, ty54, ty55, ty58, ty72, ty74, ty81]
            exact (ih (k + 1) _ B hv' cs' s' _ _ _ _ _ _ _ _ _ _ _ _ _ _ _ (by omega) (by omega) (by omega) hI2 (by omega) hvn.2 hvh2 (by omega)).mono fun w C hw => hw.trans hF' hE'
end Go.Proofs.Ytcbjmggbbnpbpaa.Lg
namespace Go.Proofs.Ytcbjmggbbnpbpaa.Lg
set_option linter.unusedSimpArgs false
set_option linter.unusedVariables false
set_option maxRecDepth 100000
set_option maxHeartbeats 40000000
open Go.Proofs.Ytcbjmggbbnpbpaa

theorem visK_h {f : Nat → List Sg → PS → Bool × PS} {es : List Ev} {i : Nat} {xs : List Nat} {path : List Sg} (hf : ∀ x p s, s.hits.length ≤ s.n → s.n ≤ 3000 → (f x p s).2.hits.length ≤ (f x p s).2.n ∧ (f x p s).2.n ≤ 3000) :
    ∀ (r k : Nat) (s : PS), s.hits.length ≤ s.n → s.n ≤ 3000 → (visK f es i xs path r k s).2.hits.length ≤ (visK f es i xs path r k s).2.n
  | 0, k, s, h, _ => h
  | r + 1, k, s, h, h0 => by
    unfold visK
    by_cases h1 : kd es i = 4 ∧ k % 2 = 0
    · rw [if_pos h1]; exact visK_h hf r (k + 1) s h h0
    · rw [if_neg h1]
      have h2 := hf (xs.getD k 0) (path ++ [segK es i xs k]) s h h0
      by_cases h3 : (f (xs.getD k 0) (path ++ [segK es i xs k]) s).1 = true
      · rw [if_pos h3]
        exact visK_h hf (es := es) (i := i) (xs := xs) (path := path) r (k + 1) _ h2.1 h2.2
      · rw [if_neg h3]; exact h2.1
theorem vis_h (es : List Ev) (ps : List (List Sg)) (doc : Int) : ∀ (d i : Nat) (path : List Sg) (s : PS), s.hits.length ≤ s.n → s.n ≤ 3000 → (vis es ps doc d i path s).2.hits.length ≤ (vis es ps doc d i path s).2.n
  | 0, i, path, s, h, _ => h
  | d + 1, i, path, s, h, h0 => by
    unfold vis
    by_cases h1 : s.n = 3000
    · rw [if_pos h1]; exact h
    · rw [if_neg h1]
      refine visK_h (fun x p s g1 g2 => ⟨vis_h es ps doc d x p s g1 g2, (vis_n es ps doc d x p s g2).2⟩) _ 0 _ ?_ (by show s.n + 1 ≤ 3000; omega)
      unfold met
      by_cases h2 : anyP ps path = true
      · rw [if_pos h2]; simp; omega
      · rw [if_neg h2]; show s.hits.length ≤ s.n + 1; omega
theorem tgt_no {es : List Ev} {i : Nat} (h : kd es i ≠ 6) : tgt es i = i := by
  unfold tgt dfI
  rw [if_neg h, if_neg (by omega)]
theorem defGo_kd (es : List Ev) (hok : ∀ i, i < es.length → EvOk (evA es i)) (t : ByteArray) (i : Nat) : ∀ k, k ≤ es.length → ∀ j : Nat, defGo es t i k = (j : Int) → kd es j ≠ 6 ∧ j < k
  | 0, hk, j, h => by
    have h : (-1 : Int) = (j : Int) := h
    omega
  | k + 1, hk, j, h => by
    unfold defGo at h
    by_cases h2 : kd es k = 2
    · rw [if_pos h2] at h; omega
    · rw [if_neg h2] at h
      by_cases h3 : isN (evA es k) ∧ (evA es k).anchor ≠ ⟨#[]⟩ ∧ (evA es k).anchor = t
      · rw [if_pos h3] at h
        by_cases h4 : endF es k < 0 ∨ (i : Int) < endF es k
        · rw [if_pos h4] at h; omega
        · rw [if_neg h4] at h
          have : j = k := by omega
          subst this
          exact ⟨(anchor_node (hok j (by omega)) h3.2.1).2, by omega⟩
      · rw [if_neg h3] at h
        have := defGo_kd es hok t i k (by omega) j h
        exact ⟨this.1, by omega⟩
theorem tgt_kd {es : List Ev} (hok : ∀ i, i < es.length → EvOk (evA es i)) {i : Nat} (hi : i < es.length) (h6 : kd es i = 6) (hd : 0 ≤ defF es i) : kd es (tgt es i) ≠ 6 ∧ ((tgt es i : Nat) : Int) = defF es i := by
  have hdf : dfI es i = defF es i := by unfold dfI; rw [if_pos h6]
  have ht : ((tgt es i : Nat) : Int) = defF es i := by unfold tgt; rw [hdf, if_pos hd]; omega
  refine ⟨?_, ht⟩
  have := defGo_kd es hok (evA es i).text i i (by omega) (tgt es i) (by rw [ht]; rfl)
  exact this.1
theorem vis_tgt {es : List Ev} {ps : List (List Sg)} {doc : Int} {d i : Nat} {path : List Sg} {s : PS} (h : kd es (tgt es i) ≠ 6) : vis es ps doc d (tgt es i) path s = vis es ps doc d i path s := by
  cases d with
  | zero => rfl
  | succ d =>
    unfold vis met
    rw [tgt_no h]
theorem sp_nal {G : LH} {v pw : V} {dc : Int} {es : List Ev} {pv : List V} {ps : List (List Sg)} (hN : At G evC 8 v es) (hP : PAt G pw pv ps) (hlen : es.length ≤ 1048576) (hfit : ∀ e ∈ es, evCFit e) (hsh : ∀ e ∈ es, e.text.size ≤ 1099511627776) (b f : Nat) (d : Nat)
    (IH : ∀ (A : LH) (hv : V) (cs : List HC) (s : PS) (i : Nat) (path : List Sg) (pvv : V) (fl : Nat), VSs G b f v pw dc A hv cs s → At A sgC 3 pvv path → capOk pvv → (∀ c ∈ sbk pvv, c ≠ b ∧ c ∉ sbk hv) → i < es.length → 3001 ≤ s.n + d → s.n ≤ 3000 → s.hits.length ≤ s.n → path.length ≤ s.n → fl ≤ b →
      Ret (fun w B => LeS G b f v pw dc A hv B (spS (vis es ps dc d i path s))) (run 22 [.ptr b 0, .int .i64 (i : Int), pvv] fl A))
    (A : LH) (hv : V) (cs : List HC) (s : PS) (i : Nat) (path : List Sg) (pvv : V) (fl : Nat) (hS : VSs G b f v pw dc A hv cs s) (hp : At A sgC 3 pvv path) (hcap : capOk pvv) (hap : ∀ c ∈ sbk pvv, c ≠ b ∧ c ∉ sbk hv) (hi : i < es.length) (hd : 3001 ≤ s.n + (d + 1)) (hn : s.n ≤ 3000) (hhl : s.hits.length ≤ s.n) (hpl : path.length ≤ s.n) (hfl : fl ≤ b) (h6 : kd es i ≠ 6) :
      Ret (fun w B => LeS G b f v pw dc A hv B (spS (vis es ps dc (d + 1) i path s))) (run 22 [.ptr b 0, .int .i64 (i : Int), pvv] fl A) := by
  have hbA := cellsAt_lt hS.pk
  have pkA := hS.pk
  have hvA := hN.ext hS.hx
  have y1 := hvA.isTup; have y2 := hvA.len; have y3 := hvA.lenOk ty29; have y0 := hvA.one
  have y4 := fun hp => hvA.con hp
  have y5 := hvA.idx (T := ty Try.prog) (t := 29) (by simp only [elemI, sizeO, ty3, ty4, ty9, ty29, ty58])
  have y6 := hvA.loadD evC_len evZ
  have y4 := hvA.con (by omega)
  have z0 := fun n K => hvA.loadD0 evC_len evZ (fun e => .int .i64 e.kind) (fun _ => rfl) i hi n K
  have t6 : ((es.getD i evZ).kind = 6) = False := eq_false h6
  have p1 := hp.isTup; have p2 := hp.one
  have hti := tgt_no h6
  have hbf := hS.hb
  have o1 := (hS.ho.own.at htC_len).isTup; have o2 := (hS.ho.own.at htC_len).one
  have w1 := hP.at_.isTup; have w2 := hP.at_.one; have w3 := hP.at_.len; have w4 := hP.at_.lenOk ty31
  have w5 := hP.len
  have fx2 : ∀ n : Int, Fx A.length [b] A (List.set A b (Blk.cells [v, pw, hv, .int .i64 dc, .int .i64 n])) := fun n => Fx.set (.inl (by simp))
  have c2 : ∀ n : Int, LH.cellsAt (List.set A b (Blk.cells [v, pw, hv, .int .i64 dc, .int .i64 n])) b = some [v, pw, hv, .int .i64 dc, .int .i64 n] := fun n => cellsAt_set hbA
  have hS2 : ∀ n : Nat, s.hits.length ≤ n → VSs G b f v pw dc (List.set A b (Blk.cells [v, pw, hv, .int .i64 dc, .int .i64 (n : Int)])) hv cs ⟨n, s.hits⟩ := fun n hn =>
    ⟨(fx2 n).hx hS.hx hS.hx.len (by simpa using hS.hG), c2 n, hS.ho.fr (fx2 n) (Nat.le_refl _) (fun c hc => .inl (by rw [List.mem_singleton.1 hc]; exact hbf)), hS.hG, hS.hb, by simpa using hS.hf, hn⟩
  unfold vis
  by_cases h3 : s.n = 3000
  · rw [if_pos h3]
    have t1 : ((s.n : Int) + 1 > 3000) = True := eq_true (by omega)
    have t2 : (3000 < (s.n : Int) + 1) = True := eq_true (by omega)
    unfold run
    rw [Run_zr Try.func22 rfl (by rfl : ok 22 = true) (by rfl : cfg.keep 22 = [0, 1, 2, 7, 8, 9, 10, 19, 40, 44, 45, 46, 47, 53, 85, 86, 87, 88, 105, 116, 146]) (by rfl : cfg.mode 22 = .any) (by rfl : cfg.ord 22 = [(8, [0, 1, 2, 3, 4, 5, 6, 7, 8, 9, 10, 12, 13, 14, 15, 16, 17, 18, 11, 19, 20, 21, 22, 23, 24, 25], [(11, 4), (11, 8), (11, 15), (11, 18)]), (17, [0, 1, 2, 3, 5, 6, 4, 7, 8], [(4, 5)])])]
    simp (config := {contextual := true, maxSteps := 10000000, implicitDefEqProofs := false}) (disch := first | (and_intros <;> omega -splitDisjunctions) | (simp only [List.length_set, List.length_append, List.length_cons, List.length_nil]; and_intros <;> omega -splitDisjunctions) | fail) only [pkA, c2, y4, z0, t1, t2, t6, p1, p2, o1, o2, w1, w2, y0, y1, y2, y3, y4, y5, y6, reC, findR, reR, reL, reO, List.idxOf_cons, List.filter_cons, List.filter_nil, Option.map_some, Option.map_none, Try.f22, go_sem, ↓reduceIte, Nat.reduceEqDiff, Nat.reduceAdd, Nat.reduceMul, Nat.reduceLT, Nat.reduceLeDiff, reduceCtorEq, Int.reduceNe, Int.reduceEq, Int.reduceLT, Int.reduceLE, Int.reduceAdd, Int.reduceSub, Int.reduceMul, Int.reduceNeg, Int.reduceToNat, UInt8.reduceToNat, natLit, ty3, ty4, ty9, ty26, ty29, ty31, ty47, ty49, ty54, ty55, ty58, ty72, ty74, ty81]
    have h31 : ((s.n : Int) + 1) = ((3001 : Nat) : Int) := by omega
    rw [h31]
    exact ⟨hv, cs, hS2 3001 (by omega), (fx2 _).sub (by intro c hc; rw [List.mem_singleton.1 hc]; exact List.mem_cons_self), .inl rfl⟩
  rw [if_neg h3]
  have t1 : ((s.n : Int) + 1 > 3000) = False := eq_false (by omega)
  have t2 : (3000 < (s.n : Int) + 1) = False := eq_false (by omega)
  unfold run
  rw [Run_zr Try.func22 rfl (by rfl : ok 22 = true) (by rfl : cfg.keep 22 = [0, 1, 2, 7, 8, 9, 10, 19, 40, 44, 45, 46, 47, 53, 85, 86, 87, 88, 105, 116, 146]) (by rfl : cfg.mode 22 = .any) (by rfl : cfg.ord 22 = [(8, [0, 1, 2, 3, 4, 5, 6, 7, 8, 9, 10, 12, 13, 14, 15, 16, 17, 18, 11, 19, 20, 21, 22, 23, 24, 25], [(11, 4), (11, 8), (11, 15), (11, 18)]), (17, [0, 1, 2, 3, 5, 6, 4, 7, 8], [(4, 5)])])]
  simp (config := {contextual := true, maxSteps := 10000000, implicitDefEqProofs := false}) (disch := first | (and_intros <;> omega -splitDisjunctions) | (simp only [List.length_set, List.length_append, List.length_cons, List.length_nil]; and_intros <;> omega -splitDisjunctions) | fail) only [pkA, c2, y4, z0, t1, t2, t6, p1, p2, o1, o2, w1, w2, w3, w4, w5, y0, y1, y2, y3, y4, y5, y6, reC, findR, reR, reL, reO, List.idxOf_cons, List.filter_cons, List.filter_nil, Option.map_some, Option.map_none, Try.f22, go_sem, ↓reduceIte, Nat.reduceEqDiff, Nat.reduceAdd, Nat.reduceMul, Nat.reduceLT, Nat.reduceLeDiff, reduceCtorEq, Int.reduceNe, Int.reduceEq, Int.reduceLT, Int.reduceLE, Int.reduceAdd, Int.reduceSub, Int.reduceMul, Int.reduceNeg, Int.reduceToNat, UInt8.reduceToNat, natLit, ty3, ty4, ty9, ty26, ty29, ty31, ty47, ty49, ty54, ty55, ty58, ty72, ty74, ty81]
  have hSA := hS2 (s.n + 1) (by omega)
  have fxA := fx2 ((s.n + 1 : Nat) : Int)
  rw [show (((s.n + 1 : Nat)) : Int) = (s.n : Int) + 1 by omega] at hSA fxA
  generalize List.set A b (Blk.cells [v, pw, hv, .int .i64 dc, .int .i64 ((s.n : Int) + 1)]) = A2 at *
  have fxA' : Fx A.length (b :: sbk hv) A A2 := fxA.sub (by intro c hc; rw [List.mem_singleton.1 hc]; exact List.mem_cons_self)
  have hp2 : At A2 sgC 3 pvv path := hp.fr fxA (fun c hc => ⟨hp.sbk c hc, by simpa using (hap c hc).1⟩)
  refine at_loopP (P := Ret _) fun c R hc hR => ?_
  refine pat_loop hN hP hlen hfit hsh b f i hi hti path pvv hcap (by omega) fl hfl A s hn hhl A2 hv cs hSA hp2 hap c R (by subst hc; rfl) (Ret _) (fun B hv' cs' x7 x8 x9 x10 x19 x40 x44 x45 x46 x47 x53 x85 x86 x87 x88 x105 x116 x146 hSB hFB hEB => ?_) (ps.length + 1) 0 0 A2 _ _ _ _ _ _ _ _ _ _ _ _ _ _ _ (by omega) rfl (by omega) (Fx.refl A2) (fun j hj => by omega)
  rw [← hR]
  have hvB := hN.ext hSB.hx
  obtain ⟨kw, D, e3, xD, oD⟩ := run_l13Kids hvB hlen hi fl
  have pkB := hSB.pk
  have n1 := hvB.isTup; have n2 := hvB.one
  have k1 := (oD.at inN_len).isTup; have k2 := (oD.at inN_len).one; have k3 := (oD.at inN_len).len; have k4 := (oD.at inN_len).lenOk ty55
  unfold run at e3
  simp (config := {contextual := true, maxSteps := 10000000, implicitDefEqProofs := false}) (disch := first | (and_intros <;> omega -splitDisjunctions) | (simp only [List.length_set, List.length_append, List.length_cons, List.length_nil]; and_intros <;> omega -splitDisjunctions) | fail) only [pkB, n1, n2, e3, k1, k2, k3, k4, reC, findR, reR, reL, reO, List.idxOf_cons, List.filter_cons, List.filter_nil, Option.map_some, Option.map_none, Try.f22, go_sem, ↓reduceIte, Nat.reduceEqDiff, Nat.reduceAdd, Nat.reduceMul, Nat.reduceLT, Nat.reduceLeDiff, reduceCtorEq, Int.reduceNe, Int.reduceEq, Int.reduceLT, Int.reduceLE, Int.reduceAdd, Int.reduceSub, Int.reduceMul, Int.reduceNeg, Int.reduceToNat, UInt8.reduceToNat, natLit, ty3, ty4, ty9, ty26, ty29, ty31, ty47, ty49, ty54, ty55, ty58, ty72, ty74, ty81]
  have fD : Fx B.length [] B D := by
    obtain ⟨M, rfl⟩ := xD
    exact Fx.app (Nat.le_refl _)
  have hFD : Fx A.length (b :: sbk hv) A D := (fxA'.trans hFB (Nat.le_refl _) (fun c _ h => h)).trans fD (Nat.le_refl _) (fun c _ h => absurd h (by simp))
  have hl2 := fxA'.len
  have hlB := hFB.len
  have hED : hv' = hv ∨ ∀ c ∈ sbk hv', A.length ≤ c := by
    rcases hEB with h | h
    · exact .inl h
    · exact .inr fun c hc => Nat.le_trans hl2 (h c hc)
  have hpB : At B sgC 3 pvv path := hp2.fr hFB (fun c hc => ⟨hp2.sbk c hc, fun hm => by
    rcases List.mem_cons.1 hm with h | h
    · exact (hap c hc).1 h
    · exact (hap c hc).2 h⟩)
  have hLI : LIs G b f v pw dc pvv kw path (kidsF es i) D hv' cs' (met es ps dc i path s) := by
    refine ⟨hSB.fr fD, hpB.fr fD (fun c hc => ⟨hpB.sbk c hc, by simp⟩), fun c hc => ⟨(hap c hc).1, fun hm => ?_⟩, oD.at inN_len, fun c hc => ⟨?_, fun hm => ?_⟩⟩
    · have hc2 := hp.sbk c hc
      rcases hED with rfl | h
      · exact (hap c hc).2 hm
      · have := h c hm; omega
    · have h1 := oD.sbk c hc
      omega
    · have h1 := oD.sbk c hc
      have h2 := hSB.ho.own.sbk c hm
      omega
  have hmn : (met es ps dc i path s).n = s.n + 1 := rfl
  have hmh : (met es ps dc i path s).hits.length ≤ (met es ps dc i path s).n := by
    unfold met
    by_cases h2 : anyP ps path = true
    · rw [if_pos h2]; simp; omega
    · rw [if_neg h2]; show s.hits.length ≤ s.n + 1; omega
  rw [hti]
  refine at_loopR fun c2 R2 hc2 hR2 => ?_
  exact (kid_loop hN hlen b f d i hi path pvv kw fl hfl A IH (fun i p s h1 h2 => vis_h es ps dc d i p s h1 h2) c2 R2 (by subst hc2; rfl) (fun A x0 x1 x2 x7 x8 x9 x10 x19 x40 x44 x45 x46 x47 x53 x85 x86 x87 x88 x105 x116 x146 => by rw [← hR2]; simp (config := {contextual := true, maxSteps := 10000000, implicitDefEqProofs := false}) (disch := first | (and_intros <;> omega -splitDisjunctions) | (simp only [List.length_set, List.length_append, List.length_cons, List.length_nil]; and_intros <;> omega -splitDisjunctions) | fail) only [reC, findR, reR, reL, reO, List.idxOf_cons, List.filter_cons, List.filter_nil, Option.map_some, Option.map_none, Try.f22, go_sem, ↓reduceIte, Nat.reduceEqDiff, Nat.reduceAdd, Nat.reduceMul, Nat.reduceLT, Nat.reduceLeDiff, reduceCtorEq, Int.reduceNe, Int.reduceEq, Int.reduceLT, Int.reduceLE, Int.reduceAdd, Int.reduceSub, Int.reduceMul, Int.reduceNeg, Int.reduceToNat, UInt8.reduceToNat, natLit, ty3, ty4, ty9, ty26, ty29, ty31, ty47, ty49, ty54, ty55, ty58, ty72, ty74, ty81]) (fun A x0 x1 x2 x7 x8 x9 x10 x19 x40 x44 x45 x46 x47 x53 x85 x86 x87 x88 x105 x116 x146 => by rw [← hR2]; simp (config := {contextual := true, maxSteps := 10000000, implicitDefEqProofs := false}) (disch := first | (and_intros <;> omega -splitDisjunctions) | (simp only [List.length_set, List.length_append, List.length_cons, List.length_nil]; and_intros <;> omega -splitDisjunctions) | fail) only [reC, findR, reR, reL, reO, List.idxOf_cons, List.filter_cons, List.filter_nil, Option.map_some, Option.map_none, Try.f22, go_sem, ↓reduceIte, Nat.reduceEqDiff, Nat.reduceAdd, Nat.reduceMul, Nat.reduceLT, Nat.reduceLeDiff, reduceCtorEq, Int.reduceNe, Int.reduceEq, Int.reduceLT, Int.reduceLE, Int.reduceAdd, Int.reduceSub, Int.reduceMul, Int.reduceNeg, Int.reduceToNat, UInt8.reduceToNat, natLit, ty3, ty4, ty9, ty26, ty29, ty31, ty47, ty49, ty54, ty55, ty58, ty72, ty74, ty81])
    ((kidsF es i).length + 1) 0 0 D hv' cs' (met es ps dc i path s) _ _ _ _ _ _ _ _ _ _ _ _ _ _ _ (by omega) rfl (by omega) hLI (by omega) (by omega) hmh (by omega)).mono fun w C hw => hw.trans hFD hED
theorem run_l19Visit {G : LH} {v pw : V} {dc : Int} {es : List Ev} {pv : List V} {ps : List (List Sg)} (hN : At G evC 8 v es) (hP : PAt G pw pv ps) (hlen : es.length ≤ 1048576) (hok : ∀ i, i < es.length → EvOk (evA es i)) (hfit : ∀ e ∈ es, evCFit e) (hsh : ∀ e ∈ es, e.text.size ≤ 1099511627776)
    (hT : ∀ i, i < es.length → kd es i = 6 → 0 ≤ defF es i) (b f : Nat) : ∀ (d : Nat) (A : LH) (hv : V) (cs : List HC) (s : PS) (i : Nat) (path : List Sg) (pvv : V) (fl : Nat), VSs G b f v pw dc A hv cs s → At A sgC 3 pvv path → capOk pvv → (∀ c ∈ sbk pvv, c ≠ b ∧ c ∉ sbk hv) → i < es.length → 3001 ≤ s.n + d → s.n ≤ 3000 → s.hits.length ≤ s.n → path.length ≤ s.n → fl ≤ b →
      Ret (fun w B => LeS G b f v pw dc A hv B (spS (vis es ps dc d i path s))) (run 22 [.ptr b 0, .int .i64 (i : Int), pvv] fl A)
  | 0, A, hv, cs, s, i, path, pvv, fl, hS, hp, hcap, hap, hi, hd, hn, hhl, hpl, hfl => by omega
  | d + 1, A, hv, cs, s, i, path, pvv, fl, hS, hp, hcap, hap, hi, hd, hn, hhl, hpl, hfl => by
    have IH := run_l19Visit (dc := dc) hN hP hlen hok hfit hsh hT b f d
    by_cases h6 : kd es i = 6
    rotate_left
    · exact sp_nal hN hP hlen hfit hsh b f d IH A hv cs s i path pvv fl hS hp hcap hap hi hd hn hhl hpl hfl h6
    obtain ⟨h7, h8⟩ := tgt_kd hok hi h6 (hT i hi h6)
    have htl := tgt_lt hi
    have key := sp_nal hN hP hlen hfit hsh b f d IH A hv cs s (tgt es i) path pvv fl hS hp hcap hap htl hd hn hhl hpl hfl h7
    rw [vis_tgt h7] at key
    obtain ⟨w, B, e9, hw⟩ := key
    have pkA := hS.pk
    have hvA := hN.ext hS.hx
    have y1 := hvA.isTup; have y2 := hvA.len; have y3 := hvA.lenOk ty29; have y0 := hvA.one
    have y4 := fun hp => hvA.con hp
    have y5 := hvA.idx (T := ty Try.prog) (t := 29) (by simp only [elemI, sizeO, ty3, ty4, ty9, ty29, ty58])
    have y6 := hvA.loadD evC_len evZ
    have y4 := hvA.con (by omega)
    have z0 := fun n K => hvA.loadD0 evC_len evZ (fun e => .int .i64 e.kind) (fun _ => rfl) i hi n K
    have t6 : ((es.getD i evZ).kind = 6) = True := eq_true h6
    have p1 := hp.isTup; have p2 := hp.one
    have e1 := fun fl => run_l13Def hvA hlen hi fl
    rw [← h8] at e1
    unfold run at e1 e9 ⊢
    rw [Run_zr Try.func22 rfl (by rfl : ok 22 = true) (by rfl : cfg.keep 22 = [0, 1, 2, 7, 8, 9, 10, 19, 40, 44, 45, 46, 47, 53, 85, 86, 87, 88, 105, 116, 146]) (by rfl : cfg.mode 22 = .any) (by rfl : cfg.ord 22 = [(8, [0, 1, 2, 3, 4, 5, 6, 7, 8, 9, 10, 12, 13, 14, 15, 16, 17, 18, 11, 19, 20, 21, 22, 23, 24, 25], [(11, 4), (11, 8), (11, 15), (11, 18)]), (17, [0, 1, 2, 3, 5, 6, 4, 7, 8], [(4, 5)])])]
    simp (config := {contextual := true, maxSteps := 10000000, implicitDefEqProofs := false}) (disch := first | (and_intros <;> omega -splitDisjunctions) | (simp only [List.length_set, List.length_append, List.length_cons, List.length_nil]; and_intros <;> omega -splitDisjunctions) | fail) only [pkA, y4, z0, t6, p1, p2, e1, e9, y0, y1, y2, y3, y4, y5, y6, reC, findR, reR, reL, reO, List.idxOf_cons, List.filter_cons, List.filter_nil, Option.map_some, Option.map_none, Try.f22, go_sem, ↓reduceIte, Nat.reduceEqDiff, Nat.reduceAdd, Nat.reduceMul, Nat.reduceLT, Nat.reduceLeDiff, reduceCtorEq, Int.reduceNe, Int.reduceEq, Int.reduceLT, Int.reduceLE, Int.reduceAdd, Int.reduceSub, Int.reduceMul, Int.reduceNeg, Int.reduceToNat, UInt8.reduceToNat, natLit, ty3, ty4, ty9, ty26, ty29, ty31, ty47, ty49, ty54, ty55, ty58, ty72, ty74, ty81]
    exact hw
end Go.Proofs.Ytcbjmggbbnpbpaa.Lg
namespace Go.Proofs.Ytcbjmggbbnpbpaa.Lg
set_option linter.unusedSimpArgs false
set_option linter.unusedVariables false
set_option maxRecDepth 100000
set_option maxHeartbeats 40000000
open Go.Proofs.Ytcbjmggbbnpbpaa

theorem drop_cons2 {α : Type} {xs : List α} {i : Nat} (hi : i < xs.length) (d : α) : xs.drop i = xs.getD i d :: xs.drop (i + 1) := by
  rw [List.drop_eq_getElem_cons hi, getD_of hi]
theorem visR_cons {es : List Ev} {ps : List (List Sg)} {r doc : Nat} {rs : List Nat} {s : PS} : visR es ps (r :: rs) doc s = if (vis es ps doc 3001 r [] s).1 = true then visR es ps rs (doc + 1) (vis es ps doc 3001 r [] s).2 else (false, (vis es ps doc 3001 r [] s).2) := rfl
theorem rootsF_lt {es : List Ev} {r : Nat} (h : r ∈ rootsF es) : r < es.length := by
  unfold rootsF at h
  exact List.mem_range.1 (List.mem_filter.1 h).1
theorem rootsF_len (es : List Ev) : (rootsF es).length ≤ es.length := by
  unfold rootsF
  have := List.length_filter_le (rootB es) (List.range es.length)
  rwa [List.length_range] at this
theorem patOk_any (ps : List (List Sg)) : (List.range ps.length).any (fun k => !(patOk (ps.getD k []))) = !(ps.all patOk) := by
  rw [Bool.eq_iff_iff, List.any_eq_true, Bool.not_eq_true', ← Bool.not_eq_true, List.all_eq_true]
  constructor
  · rintro ⟨k, hk, h⟩ h2
    have hk := List.mem_range.1 hk
    have := h2 (ps.getD k []) (by rw [getD_of hk]; exact List.getElem_mem _)
    rw [this] at h; cases h
  · intro h
    refine Classical.byContradiction fun h2 => h fun x hx => ?_
    obtain ⟨i, hi, rfl⟩ := List.getElem_of_mem hx
    refine Classical.byContradiction fun h3 => h2 ⟨i, List.mem_range.2 hi, ?_⟩
    rw [getD_of hi]
    simpa using h3
theorem HOwn.down {f g : Nat} {H : LH} {v : V} {cs : List HC} {hs : List Ht} (h : HOwn f H v cs hs) (k : g ≤ f) : HOwn g H v cs hs :=
  ⟨h.own.down k, h.len, fun i hi => ⟨(h.row i hi).doc, (h.row i hi).val, (h.row i hi).path.down k⟩, h.apart, h.low⟩
theorem tiedM_n {es : List Ev} (h : tiedM es = true) : nestedM es = true ∧ ∀ i, i < es.length → kd es i = 6 → 0 ≤ defF es i := by
  unfold tiedM at h
  rw [Bool.and_eq_true] at h
  refine ⟨h.1, fun i hi h6 => ?_⟩
  have := List.all_eq_true.1 h.2 i (List.mem_range.2 hi)
  rw [h6] at this
  simpa using this
theorem run_imPick {H : LH} {v w : V} {es : List Ev} {pv : List V} {ps : List (List Sg)} (hN : At H evC 8 v es) (hcap : capOk v) (hP : PAt H w pv ps) (hlen : es.length ≤ 1048576) (hfit : ∀ e ∈ es, evCFit e) (hsh : ∀ e ∈ es, e.text.size ≤ 1099511627776) (fl : Nat) :
    Ret (fun r B => ∃ hv cs, r = .tup [hv, .int .i64 (pickM es ps).2] ∧ Hx H B ∧ HOwn H.length B hv cs (pickM es ps).1) (run 9 [v, w] fl H) := by
  have e0 := fun fl => run_patAny hP.at_ (by have := hP.few; have := hP.len; omega) 27 [] (fun k => !(patOk (ps.getD k [])))
      (fun k hk fl => run_Pick1 (hP.row k (by have := hP.len; omega)) (hP.sm k (by have := hP.len; omega)) fl) fl
  rw [hP.len, patOk_any] at e0
  have e1 := fun fl => run_imTied hN hfit hlen hcap fl
  have i1 := hN.isTup; have i2 := hN.one
  have w1 := hP.at_.isTup; have w2 := hP.at_.one
  by_cases hb : ¬ (ps.all patOk = true) ∨ tiedM es = false
  · unfold pickM
    rw [if_pos hb]
    have fin : ∀ B : LH, Hx H B → ∃ hv cs, V.tup [.nilsl, .int .i64 1] = .tup [hv, .int .i64 1] ∧ Hx H B ∧ HOwn H.length B hv cs [] := fun B hB => ⟨.nilsl, [], rfl, hB, HOwn.nil⟩
    unfold run at *
    rw [Run_z Try.func9 rfl (by rfl : ok 9 = true) (by rfl : cfg.keep 9 = [0, 1, 4, 5, 6, 7, 8, 15, 25, 26, 27, 28, 36, 39]) (by rfl : cfg.mode 9 = .fresh) (by rfl : cfg.ord 9 = [])]
    by_cases ha : ps.all patOk = true
    · rw [ha] at e0
      have ht : tiedM es = false := hb.resolve_left (fun h => h ha)
      rw [ht] at e1
      simp (config := {contextual := true, maxSteps := 10000000, implicitDefEqProofs := false}) (disch := first | (and_intros <;> omega -splitDisjunctions) | (simp only [List.length_set, List.length_append, List.length_cons, List.length_nil]; and_intros <;> omega -splitDisjunctions) | fail) only [e0, e1, i1, w1, Try.f9, go_sem, ↓reduceIte, Nat.reduceEqDiff, Nat.reduceAdd, Nat.reduceMul, Nat.reduceLT, Nat.reduceLeDiff, reduceCtorEq, Int.reduceNe, Int.reduceEq, Int.reduceLT, Int.reduceLE, Int.reduceAdd, Int.reduceSub, Int.reduceMul, Int.reduceNeg, Int.reduceToNat, UInt8.reduceToNat, natLit, ty3, ty4, ty9, ty26, ty29, ty31, ty47, ty49, ty55, ty58, ty64, ty67, ty72, ty74, ty81]
      exact fin _ (Hx.refl H)
    · have ha : ps.all patOk = false := by simpa using ha
      rw [ha] at e0
      simp (config := {contextual := true, maxSteps := 10000000, implicitDefEqProofs := false}) (disch := first | (and_intros <;> omega -splitDisjunctions) | (simp only [List.length_set, List.length_append, List.length_cons, List.length_nil]; and_intros <;> omega -splitDisjunctions) | fail) only [e0, e1, i1, w1, Try.f9, go_sem, ↓reduceIte, Nat.reduceEqDiff, Nat.reduceAdd, Nat.reduceMul, Nat.reduceLT, Nat.reduceLeDiff, reduceCtorEq, Int.reduceNe, Int.reduceEq, Int.reduceLT, Int.reduceLE, Int.reduceAdd, Int.reduceSub, Int.reduceMul, Int.reduceNeg, Int.reduceToNat, UInt8.reduceToNat, natLit, ty3, ty4, ty9, ty26, ty29, ty31, ty47, ty49, ty55, ty58, ty64, ty67, ty72, ty74, ty81]
      exact fin _ (Hx.refl H)
  have ha : ps.all patOk = true := Classical.byContradiction fun h => hb (.inl h)
  have ht : tiedM es = true := by
    cases h : tiedM es with
    | true => rfl
    | false => exact absurd (.inr h) hb
  rw [ha] at e0
  rw [ht] at e1
  obtain ⟨hn, hT⟩ := tiedM_n ht
  have hok := nestedM_ok hn
  obtain ⟨nw, H1, e2, hx01, ve, vu, vd, rfl, oe, ou, od⟩ := run_nestOf hN hlen (nestedM_bal hn) H.length
  have hNs : NsAt H1 v ve vu vd es := ⟨hN.ext hx01, oe.at inI_len, ou.at inI_len, od.at inI_len⟩
  have hP1 := hP.ext hx01
  obtain ⟨kw, D, e3, xD, oD⟩ := run_roots (hNs.ext (Hx.app (L := [Blk.cells [v, ve, vu, vd, w, .nilsl, .int .i64 0]]))) hlen hn H.length
  have e4 := fun fl => run_hasFault (hN) hlen fl
  have n3 := hNs.e.isTup; have n4 := hNs.e.one; have n5 := hNs.u.isTup; have n6 := hNs.u.one; have n7 := hNs.d.isTup; have n8 := hNs.d.one
  have k1 := (oD.at inN_len).isTup; have k2 := (oD.at inN_len).one; have k3 := (oD.at inN_len).len; have k4 := (oD.at inN_len).lenOk ty55
  have hl1 := hx01.len
  have hlD := xD.len
  rw [List.length_append] at hlD
  simp only [List.length_cons, List.length_nil, Nat.zero_add] at hlD
  have pkD : LH.cellsAt D H1.length = some [v, ve, vu, vd, w, .nilsl, .int .i64 0] := xD.cells (by rw [cellsAt_app0]; rfl)
  have fD : Fx H1.length [] H1 D := by
    obtain ⟨M, rfl⟩ := xD
    rw [List.append_assoc]
    exact Fx.app (Nat.le_refl _)
  unfold pickM
  rw [if_neg hb]
  unfold run at e0 e1 e2 e3 ⊢
  rw [Run_z Try.func9 rfl (by rfl : ok 9 = true) (by rfl : cfg.keep 9 = [0, 1, 4, 5, 6, 7, 8, 15, 25, 26, 27, 28, 36, 39]) (by rfl : cfg.mode 9 = .fresh) (by rfl : cfg.ord 9 = [])]
  simp (config := {contextual := true, maxSteps := 10000000, implicitDefEqProofs := false}) (disch := first | (and_intros <;> omega -splitDisjunctions) | (simp only [List.length_set, List.length_append, List.length_cons, List.length_nil]; and_intros <;> omega -splitDisjunctions) | fail) only [e0, e1, e2, e3, i1, i2, w1, w2, n3, n4, n5, n6, n7, n8, k1, k2, k3, k4, Try.f9, go_sem, ↓reduceIte, Nat.reduceEqDiff, Nat.reduceAdd, Nat.reduceMul, Nat.reduceLT, Nat.reduceLeDiff, reduceCtorEq, Int.reduceNe, Int.reduceEq, Int.reduceLT, Int.reduceLE, Int.reduceAdd, Int.reduceSub, Int.reduceMul, Int.reduceNeg, Int.reduceToNat, UInt8.reduceToNat, natLit, ty3, ty4, ty9, ty26, ty29, ty31, ty47, ty49, ty55, ty58, ty64, ty67, ty72, ty74, ty81]
  have hrl := rootsF_len es
  refine at_loopR fun c R hc hR => ?_
  have key : ∀ (m : Nat) (k : Nat) (kk : Int) (A : LH) (hv : V) (cs : List HC) (s : PS) (x1 x4 x5 x7 x8 x15 x28 x36 x39 : Option V), (rootsF es).length - k < m → kk = k → k ≤ (rootsF es).length → VSt H1 H1.length (H1.length + 1) v ve vu vd w A hv cs s → At A inN 1 kw (rootsF es) → (∀ c ∈ sbk kw, c ≠ H1.length ∧ c ∉ sbk hv) → s.n ≤ 3000 → visR es ps ((rootsF es).drop k) k s = visR es ps (rootsF es) 0 ⟨0, []⟩ →
      Ret (fun r B => ∃ hv cs, r = .tup [hv, .int .i64 (if (visR es ps (rootsF es) 0 ⟨0, []⟩).1 = false then (([], 4) : List Ht × Int) else if es.any (fun e => decide (e.kind = 10)) = true then ([], 3) else ((visR es ps (rootsF es) 0 ⟨0, []⟩).2.hits, 0)).2] ∧ Hx H B ∧ HOwn H.length B hv cs (if (visR es ps (rootsF es) 0 ⟨0, []⟩).1 = false then (([], 4) : List Ht × Int) else if es.any (fun e => decide (e.kind = 10)) = true then ([], 3) else ((visR es ps (rootsF es) 0 ⟨0, []⟩).2.hits, 0)).1) (zEv (leaveX (mkR Try.prog cfg ok [0, 1, 4, 5, 6, 7, 8, 15, 25, 26, 27, 28, 36, 39] H.length) .fresh H [ResultVar.tmp 4, ResultVar.tmp 5]) (mkR Try.prog cfg ok [0, 1, 4, 5, 6, 7, 8, 15, 25, 26, 27, 28, 36, 39] H.length) (K.code (Code.loop c) :: K.blk 0 :: R) .nrm [some v, x1, x4, x5, some (.ptr H1.length 0), x7, x8, x15, some kw, some (.int .i64 (rootsF es).length), some (.int .i64 kk), x28, x36, x39] (A)) := by
    intro m
    induction m with
    | zero => intro k kk A hv cs s x1 x4 x5 x7 x8 x15 x28 x36 x39 hm; omega
    | succ m ih =>
      intro k kk A hv cs s x1 x4 x5 x7 x8 x15 x28 x36 x39 hm hk hkl hS hkA hka hn3 hfin
      subst hk
      have hxA : Hx H A := hx01.trans hS.hx
      by_cases hlt : k < (rootsF es).length
      rotate_left
      · have t1 : ((k : Int) < (rootsF es).length) = False := eq_false (by omega)
        rw [List.drop_of_length_le (by omega)] at hfin
        rw [← hfin]
        have e5 := fun fl => run_hasFault (hN.ext hxA) hlen fl
        have pkA := hS.pk
        have o1 := (hS.ho.own.at htC_len).isTup; have o2 := (hS.ho.own.at htC_len).one
        unfold run at e5
        rw [zEv_round hc, ← hR]
        by_cases hf : es.any (fun e => decide (e.kind = 10)) = true
        · rw [hf] at e5
          simp (config := {contextual := true, maxSteps := 10000000, implicitDefEqProofs := false}) (disch := first | (and_intros <;> omega -splitDisjunctions) | (simp only [List.length_set, List.length_append, List.length_cons, List.length_nil]; and_intros <;> omega -splitDisjunctions) | fail) only [t1, e5, i1, i2, pkA, o1, o2, hf, visR, Try.f9, go_sem, ↓reduceIte, Nat.reduceEqDiff, Nat.reduceAdd, Nat.reduceMul, Nat.reduceLT, Nat.reduceLeDiff, reduceCtorEq, Int.reduceNe, Int.reduceEq, Int.reduceLT, Int.reduceLE, Int.reduceAdd, Int.reduceSub, Int.reduceMul, Int.reduceNeg, Int.reduceToNat, UInt8.reduceToNat, natLit, ty3, ty4, ty9, ty26, ty29, ty31, ty47, ty49, ty55, ty58, ty64, ty67, ty72, ty74, ty81]
          exact ⟨.nilsl, [], rfl, hxA, HOwn.nil⟩
        · have hf : es.any (fun e => decide (e.kind = 10)) = false := by simpa using hf
          rw [hf] at e5
          simp (config := {contextual := true, maxSteps := 10000000, implicitDefEqProofs := false}) (disch := first | (and_intros <;> omega -splitDisjunctions) | (simp only [List.length_set, List.length_append, List.length_cons, List.length_nil]; and_intros <;> omega -splitDisjunctions) | fail) only [t1, e5, i1, i2, pkA, o1, o2, hf, visR, Try.f9, go_sem, ↓reduceIte, Nat.reduceEqDiff, Nat.reduceAdd, Nat.reduceMul, Nat.reduceLT, Nat.reduceLeDiff, reduceCtorEq, Int.reduceNe, Int.reduceEq, Int.reduceLT, Int.reduceLE, Int.reduceAdd, Int.reduceSub, Int.reduceMul, Int.reduceNeg, Int.reduceToNat, UInt8.reduceToNat, natLit, ty3, ty4, ty9, ty26, ty29, ty31, ty47, ty49, ty55, ty58, ty64, ty67, ty72, ty74, ty81]
          exact ⟨hv, cs, rfl, hxA, hS.ho.down (by omega)⟩
      have t1 : ((k : Int) < (rootsF es).length) = True := eq_true (by omega)
      rw [drop_cons2 hlt 0] at hfin
      rw [visR_cons] at hfin
      have g1 := hkA.isTup; have g2 := hkA.len; have g3 := hkA.lenOk ty55; have g0 := hkA.one
      have g4 := fun hp => hkA.con hp
      have g5 := hkA.idx (T := ty Try.prog) (t := 55) (by simp only [elemI, sizeO, ty3, ty55])
      have g6 := hkA.load1 0 (fun x => .int .i64 (x : Int)) (fun _ => rfl)
      have g6 := fun n K => g6 k hlt n K
      have hxk : (rootsF es).getD k 0 ∈ rootsF es := by rw [getD_of hlt]; exact List.getElem_mem _
      have hrlt := rootsF_lt hxk
      generalize (rootsF es).getD k 0 = x at *
      obtain ⟨rv, B, e6, rfl, hv', cs', hS', hF, hE⟩ := run_visit hNs hP1 hlen hok.2.2.1 hfit hsh hok.2.1 H1.length (H1.length + 1) (k : Int) 3001 A hv cs s x [] .nilsl H.length hS (.inl ⟨rfl, .inl rfl⟩) (by simp [sbk]) hrlt (by omega) hn3 (Nat.zero_le _) (by omega)
      have hvn := vis_n es ps k 3001 x [] s hn3
      generalize vis es ps (k : Int) 3001 x [] s = r at *
      obtain ⟨rb, s'⟩ := r
      dsimp only at *
      unfold run at e6
      rw [zEv_round hc, ← hR]
      cases rb with
      | false =>
        simp only [Bool.false_eq_true, if_false] at hfin
        rw [← hfin]
        simp (config := {contextual := true, maxSteps := 10000000, implicitDefEqProofs := false}) (disch := first | (and_intros <;> omega -splitDisjunctions) | (simp only [List.length_set, List.length_append, List.length_cons, List.length_nil]; and_intros <;> omega -splitDisjunctions) | fail) only [t1, g0, g1, g2, g3, g4, g5, g6, e6, Try.f9, go_sem, ↓reduceIte, Nat.reduceEqDiff, Nat.reduceAdd, Nat.reduceMul, Nat.reduceLT, Nat.reduceLeDiff, reduceCtorEq, Int.reduceNe, Int.reduceEq, Int.reduceLT, Int.reduceLE, Int.reduceAdd, Int.reduceSub, Int.reduceMul, Int.reduceNeg, Int.reduceToNat, UInt8.reduceToNat, natLit, ty3, ty4, ty9, ty26, ty29, ty31, ty47, ty49, ty55, ty58, ty64, ty67, ty72, ty74, ty81]
        exact ⟨.nilsl, [], rfl, hx01.trans hS'.hx, HOwn.nil⟩
      | true =>
        simp only [if_true] at hfin
        simp (config := {contextual := true, maxSteps := 10000000, implicitDefEqProofs := false}) (disch := first | (and_intros <;> omega -splitDisjunctions) | (simp only [List.length_set, List.length_append, List.length_cons, List.length_nil]; and_intros <;> omega -splitDisjunctions) | fail) only [t1, g0, g1, g2, g3, g4, g5, g6, e6, Try.f9, go_sem, ↓reduceIte, Nat.reduceEqDiff, Nat.reduceAdd, Nat.reduceMul, Nat.reduceLT, Nat.reduceLeDiff, reduceCtorEq, Int.reduceNe, Int.reduceEq, Int.reduceLT, Int.reduceLE, Int.reduceAdd, Int.reduceSub, Int.reduceMul, Int.reduceNeg, Int.reduceToNat, UInt8.reduceToNat, natLit, ty3, ty4, ty9, ty26, ty29, ty31, ty47, ty49, ty55, ty58, ty64, ty67, ty72, ty74, ty81]
        rw [hR]
        exact ih (k + 1) ((k : Int) + 1) B hv' cs' s' _ _ _ _ _ _ _ _ _ (by omega) (by omega) (by omega) hS' (hkA.fr hF (fun c hc => ⟨hkA.sbk c hc, fun hm => by
          rcases List.mem_cons.1 hm with h | h
          · exact (hka c hc).1 h
          · exact (hka c hc).2 h⟩)) (fun c hc => ⟨(hka c hc).1, fun hm => by
            rcases hE with rfl | hE
            · exact (hka c hc).2 hm
            · have := hE c hm; have := hkA.sbk c hc; omega⟩) (by omega) hfin
  refine key ((rootsF es).length + 1) 0 0 D .nilsl [] ⟨0, []⟩ _ _ _ _ _ _ _ _ _ (by omega) rfl (by omega) ⟨?_, pkD, HOwn.nil, Nat.le_refl _, by omega, by omega, by simp⟩ (oD.at inN_len) (fun c hc => ⟨by have := oD.sbk c hc; rw [List.length_append] at this; simp at this; omega, by simp [sbk]⟩) (Nat.zero_le _) rfl
  exact Hx.trans Hx.app xD
end Go.Proofs.Ytcbjmggbbnpbpaa.Lg
namespace Go.Proofs.Ytcbjmggbbnpbpaa.Lg
set_option linter.unusedSimpArgs false
set_option linter.unusedVariables false
set_option maxRecDepth 100000
set_option maxHeartbeats 40000000
open Go.Proofs.Ytcbjmggbbnpbpaa

theorem VSs.doc {G : LH} {b f : Nat} {v pw : V} {dc : Int} {A : LH} {hv : V} {cs : List HC} {s : PS} (h : VSs G b f v pw dc A hv cs s) (dc' : Int) :
    VSs G b f v pw dc' (List.set A b (Blk.cells [v, pw, hv, .int .i64 dc', .int .i64 (s.n : Int)])) hv cs s ∧ Fx A.length [b] A (List.set A b (Blk.cells [v, pw, hv, .int .i64 dc', .int .i64 (s.n : Int)])) := by
  have k : Fx A.length [b] A (List.set A b (Blk.cells [v, pw, hv, .int .i64 dc', .int .i64 (s.n : Int)])) := Fx.set (.inl (by simp))
  have hbf := h.hb
  exact ⟨⟨k.hx h.hx h.hx.len (by simpa using h.hG), cellsAt_set (cellsAt_lt h.pk), h.ho.fr k (Nat.le_refl _) (fun c hc => .inl (by rw [List.mem_singleton.1 hc]; exact hbf)), h.hG, h.hb, by simpa using h.hf, h.hl⟩, k⟩
theorem run_spPick {H : LH} {v w : V} {es : List Ev} {pv : List V} {ps : List (List Sg)} (hN : At H evC 8 v es) (hP : PAt H w pv ps) (hlen : es.length ≤ 1048576) (hfit : ∀ e ∈ es, evCFit e) (hsh : ∀ e ∈ es, e.text.size ≤ 1099511627776) (fl : Nat) :
    Ret (fun r B => ∃ hv cs, r = .tup [hv, .int .i64 (pickM es ps).2] ∧ Hx H B ∧ HOwn H.length B hv cs (pickM es ps).1) (run 6 [v, w] fl H) := by
  have i1 := hN.isTup; have i2 := hN.one
  have w1 := hP.at_.isTup; have w2 := hP.at_.one; have w3 := hP.at_.len; have w4 := hP.at_.lenOk ty31
  have w5 := hP.len; have w6 := hP.few
  have hload : ∀ (A : LH), Hx H A → ∀ k, k < ps.length → (0 ≤ (k : Int) → (k : Int) < pv.length → indexA (ty Try.prog) 31 w (.int .i64 (k : Int)) = some (.ptr (blkV w) (offV w + k))) ∧ A.cellsAt (blkV w) = some (conV A w) ∧ (∀ K, cellO K true (offV w + k) 1 (some (conV A w)) = some (.agg [pv.getD k .nilsl], K)) ∧
      (pv.getD k .nilsl).isTup = false ∧ (pv.getD k .nilsl).cells = [pv.getD k .nilsl] ∧ ∀ L fl, run 19 [.agg [pv.getD k .nilsl]] fl (A ++ L) = some (.bool (patOk (ps.getD k [])), A ++ L) := by
    intro A hA k hk
    have hPA := hP.ext hA
    have hpa := hPA.at_
    have g1 := hpa.isTup; have g2 := hpa.len; have g3 := hpa.lenOk ty31; have g0 := hpa.one
    have g4 := fun hp => hpa.con hp
    have g5 := hpa.idx (T := ty Try.prog) (t := 31) (by simp only [elemI, sizeO, ty3, ty9, ty31, ty47, ty49, ty81])
    have g6 := hpa.loadD pC_len .nilsl
    have g7 := fun K => g6 k (by omega) K
    simp only [pC, Nat.mul_one] at g7
    have rk := hPA.row k hk
    refine ⟨fun a b => ?_, g4 (by omega), g7, rk.isTup, rk.one, fun L fl => run_spPatternOk (rk.left (L := L)) (hP.sm k hk) fl⟩
    have := g5 .i64 k a b
    rw [this]; congr 2; simp
  unfold run
  rw [Run_z Try.func6 rfl (by rfl : ok 6 = true) (by rfl : cfg.keep 6 = [0, 1, 4, 5, 7, 8, 10, 11, 12, 13, 14, 19, 23, 29, 30, 31, 32, 42, 53]) (by rfl : cfg.mode 6 = .fresh) (by rfl : cfg.ord 6 = [])]
  simp (config := {contextual := true, maxSteps := 10000000, implicitDefEqProofs := false}) (disch := first | (and_intros <;> omega -splitDisjunctions) | (simp only [List.length_set, List.length_append, List.length_cons, List.length_nil]; and_intros <;> omega -splitDisjunctions) | fail) only [w1, w2, w3, w4, w5, i1, i2, Try.f6, go_sem, ↓reduceIte, Nat.reduceEqDiff, Nat.reduceAdd, Nat.reduceMul, Nat.reduceLT, Nat.reduceLeDiff, reduceCtorEq, Int.reduceNe, Int.reduceEq, Int.reduceLT, Int.reduceLE, Int.reduceAdd, Int.reduceSub, Int.reduceMul, Int.reduceNeg, Int.reduceToNat, UInt8.reduceToNat, natLit, ty3, ty4, ty9, ty26, ty29, ty31, ty47, ty49, ty54, ty55, ty58, ty72, ty74, ty81]
  by_cases ha : ps.all patOk = true
  rotate_left
  · unfold pickM
    rw [if_pos (.inl ha)]
    have ha : ps.all patOk = false := by simpa using ha
    refine at_loopR fun c R hc hR => ?_
    have key : ∀ (m : Nat) (k : Nat) (kk : Int) (A : LH) (x4 x5 x7 x8 x10 x14 x19 x23 x29 x30 x31 x32 x42 x53 : Option V), ps.length - k < m → kk = k → k ≤ ps.length → Hx H A → (ps.drop k).all patOk = false →
        Ret (fun r B => ∃ hv cs, r = .tup [hv, .int .i64 (([], 1) : List Ht × Int).2] ∧ Hx H B ∧ HOwn H.length B hv cs (([], 1) : List Ht × Int).1) (zEv (leaveX (mkR Try.prog cfg ok [0, 1, 4, 5, 7, 8, 10, 11, 12, 13, 14, 19, 23, 29, 30, 31, 32, 42, 53] H.length) .fresh H [ResultVar.tmp 4, ResultVar.tmp 5]) (mkR Try.prog cfg ok [0, 1, 4, 5, 7, 8, 10, 11, 12, 13, 14, 19, 23, 29, 30, 31, 32, 42, 53] H.length) (K.code (Code.loop c) :: K.blk 0 :: R) .nrm [some v, some w, x4, x5, x7, x8, x10, some w, some (.int .i64 ps.length), some (.int .i64 kk), x14, x19, x23, x29, x30, x31, x32, x42, x53] (A)) := by
      intro m
      induction m with
      | zero => intro k kk A x4 x5 x7 x8 x10 x14 x19 x23 x29 x30 x31 x32 x42 x53 hm; omega
      | succ m ih =>
        intro k kk A x4 x5 x7 x8 x10 x14 x19 x23 x29 x30 x31 x32 x42 x53 hm hk hkl hA hf
        subst hk
        have hle := hA.len
        by_cases hlt : k < ps.length
        rotate_left
        · rw [List.drop_of_length_le (by omega)] at hf; cases hf
        have t1 : ((k : Int) < ps.length) = True := eq_true (by omega)
        obtain ⟨b1, b2, b3, b4, b5, b6⟩ := hload A hA k hlt
        have b1 := b1 (by omega) (by omega)
        rw [drop_cons2 hlt [], List.all_cons] at hf
        generalize pv.getD k .nilsl = x at *
        unfold run at b6
        rw [zEv_round hc, ← hR]
        by_cases hp : patOk (ps.getD k []) = true
        · rw [hp] at b6 hf
          simp (config := {contextual := true, maxSteps := 10000000, implicitDefEqProofs := false}) (disch := first | (and_intros <;> omega -splitDisjunctions) | (simp only [List.length_set, List.length_append, List.length_cons, List.length_nil]; and_intros <;> omega -splitDisjunctions) | fail) only [t1, b1, b2, b3, b4, b5, b6, w1, w2, hle, Try.f6, go_sem, ↓reduceIte, Nat.reduceEqDiff, Nat.reduceAdd, Nat.reduceMul, Nat.reduceLT, Nat.reduceLeDiff, reduceCtorEq, Int.reduceNe, Int.reduceEq, Int.reduceLT, Int.reduceLE, Int.reduceAdd, Int.reduceSub, Int.reduceMul, Int.reduceNeg, Int.reduceToNat, UInt8.reduceToNat, natLit, ty3, ty4, ty9, ty26, ty29, ty31, ty47, ty49, ty54, ty55, ty58, ty72, ty74, ty81]
          rw [hR]
          exact ih (k + 1) ((k : Int) + 1) _ _ _ _ _ _ _ _ _ _ _ _ _ _ _ (by omega) (by omega) (by omega) (hA.trans Hx.app) (by simpa using hf)
        · have hp : patOk (ps.getD k []) = false := by simpa using hp
          rw [hp] at b6
          simp (config := {contextual := true, maxSteps := 10000000, implicitDefEqProofs := false}) (disch := first | (and_intros <;> omega -splitDisjunctions) | (simp only [List.length_set, List.length_append, List.length_cons, List.length_nil]; and_intros <;> omega -splitDisjunctions) | fail) only [t1, b1, b2, b3, b4, b5, b6, w1, w2, hle, Try.f6, go_sem, ↓reduceIte, Nat.reduceEqDiff, Nat.reduceAdd, Nat.reduceMul, Nat.reduceLT, Nat.reduceLeDiff, reduceCtorEq, Int.reduceNe, Int.reduceEq, Int.reduceLT, Int.reduceLE, Int.reduceAdd, Int.reduceSub, Int.reduceMul, Int.reduceNeg, Int.reduceToNat, UInt8.reduceToNat, natLit, ty3, ty4, ty9, ty26, ty29, ty31, ty47, ty49, ty54, ty55, ty58, ty72, ty74, ty81]
          exact ⟨.nilsl, [], rfl, hA.trans Hx.app, HOwn.nil⟩
    exact key (ps.length + 1) 0 0 H _ _ _ _ _ _ _ _ _ _ _ _ _ _ (by omega) rfl (Nat.zero_le _) (Hx.refl H) ha
  refine at_loopP fun c R hc hR => ?_
  have key : ∀ (P : Option (V × LH) → Prop) (hk : ∀ (B : LH) (hB : Hx H B) (x4 x5 x7 x8 x10 x11 x12 x13 x14 x19 x23 x29 x30 x31 x32 x42 x53 : Option V), P (zEv (leaveX (mkR Try.prog cfg ok [0, 1, 4, 5, 7, 8, 10, 11, 12, 13, 14, 19, 23, 29, 30, 31, 32, 42, 53] H.length) .fresh H [ResultVar.tmp 4, ResultVar.tmp 5]) (mkR Try.prog cfg ok [0, 1, 4, 5, 7, 8, 10, 11, 12, 13, 14, 19, 23, 29, 30, 31, 32, 42, 53] H.length) R .nrm [some v, some w, x4, x5, x7, x8, x10, x11, x12, x13, x14, x19, x23, x29, x30, x31, x32, x42, x53] (B)))
      (m : Nat) (k : Nat) (kk : Int) (A : LH) (x4 x5 x7 x8 x10 x14 x19 x23 x29 x30 x31 x32 x42 x53 : Option V), ps.length - k < m → kk = k → k ≤ ps.length → Hx H A → (ps.drop k).all patOk = true →
      P (zEv (leaveX (mkR Try.prog cfg ok [0, 1, 4, 5, 7, 8, 10, 11, 12, 13, 14, 19, 23, 29, 30, 31, 32, 42, 53] H.length) .fresh H [ResultVar.tmp 4, ResultVar.tmp 5]) (mkR Try.prog cfg ok [0, 1, 4, 5, 7, 8, 10, 11, 12, 13, 14, 19, 23, 29, 30, 31, 32, 42, 53] H.length) (K.code (Code.loop c) :: K.blk 0 :: R) .nrm [some v, some w, x4, x5, x7, x8, x10, some w, some (.int .i64 ps.length), some (.int .i64 kk), x14, x19, x23, x29, x30, x31, x32, x42, x53] (A)) := by
    intro P hk m
    induction m with
    | zero => intro k kk A x4 x5 x7 x8 x10 x14 x19 x23 x29 x30 x31 x32 x42 x53 hm; omega
    | succ m ih =>
      intro k kk A x4 x5 x7 x8 x10 x14 x19 x23 x29 x30 x31 x32 x42 x53 hm hk hkl hA hf
      subst hk
      have hle := hA.len
      by_cases hlt : k < ps.length
      rotate_left
      · have t1 : ((k : Int) < ps.length) = False := eq_false (by omega)
        rw [zEv_round hc]
        simp (config := {contextual := true, maxSteps := 10000000, implicitDefEqProofs := false}) (disch := first | (and_intros <;> omega -splitDisjunctions) | (simp only [List.length_set, List.length_append, List.length_cons, List.length_nil]; and_intros <;> omega -splitDisjunctions) | fail) only [t1, Try.f6, go_sem, ↓reduceIte, Nat.reduceEqDiff, Nat.reduceAdd, Nat.reduceMul, Nat.reduceLT, Nat.reduceLeDiff, reduceCtorEq, Int.reduceNe, Int.reduceEq, Int.reduceLT, Int.reduceLE, Int.reduceAdd, Int.reduceSub, Int.reduceMul, Int.reduceNeg, Int.reduceToNat, UInt8.reduceToNat, natLit, ty3, ty4, ty9, ty26, ty29, ty31, ty47, ty49, ty54, ty55, ty58, ty72, ty74, ty81]
        exact hk _ hA _ _ _ _ _ _ _ _ _ _ _ _ _ _ _ _ _
      have t1 : ((k : Int) < ps.length) = True := eq_true (by omega)
      obtain ⟨b1, b2, b3, b4, b5, b6⟩ := hload A hA k hlt
      have b1 := b1 (by omega) (by omega)
      rw [drop_cons2 hlt [], List.all_cons, Bool.and_eq_true] at hf
      generalize pv.getD k .nilsl = x at *
      unfold run at b6
      rw [hf.1] at b6
      rw [zEv_round hc]
      simp (config := {contextual := true, maxSteps := 10000000, implicitDefEqProofs := false}) (disch := first | (and_intros <;> omega -splitDisjunctions) | (simp only [List.length_set, List.length_append, List.length_cons, List.length_nil]; and_intros <;> omega -splitDisjunctions) | fail) only [t1, b1, b2, b3, b4, b5, b6, w1, w2, hle, Try.f6, go_sem, ↓reduceIte, Nat.reduceEqDiff, Nat.reduceAdd, Nat.reduceMul, Nat.reduceLT, Nat.reduceLeDiff, reduceCtorEq, Int.reduceNe, Int.reduceEq, Int.reduceLT, Int.reduceLE, Int.reduceAdd, Int.reduceSub, Int.reduceMul, Int.reduceNeg, Int.reduceToNat, UInt8.reduceToNat, natLit, ty3, ty4, ty9, ty26, ty29, ty31, ty47, ty49, ty54, ty55, ty58, ty72, ty74, ty81]
      exact ih (k + 1) ((k : Int) + 1) _ _ _ _ _ _ _ _ _ _ _ _ _ _ _ (by omega) (by omega) (by omega) (hA.trans Hx.app) hf.2
  refine key (Ret _) (fun A hA x4 x5 x7 x8 x10 x11 x12 x13 x14 x19 x23 x29 x30 x31 x32 x42 x53 => ?_) (ps.length + 1) 0 0 H _ _ _ _ _ _ _ _ _ _ _ _ _ _ (by omega) rfl (Nat.zero_le _) (Hx.refl H) ha
  rw [← hR]
  clear key hR hc R c
  have hNA := hN.ext hA
  have e1 := fun fl => run_spTied hNA hfit hlen fl
  by_cases ht : tiedM es = true
  rotate_left
  · unfold pickM
    have ht : tiedM es = false := by simpa using ht
    rw [if_pos (.inr ht)]
    rw [ht] at e1
    unfold run at e1
    simp (config := {contextual := true, maxSteps := 10000000, implicitDefEqProofs := false}) (disch := first | (and_intros <;> omega -splitDisjunctions) | (simp only [List.length_set, List.length_append, List.length_cons, List.length_nil]; and_intros <;> omega -splitDisjunctions) | fail) only [e1, i1, w1, Try.f6, go_sem, ↓reduceIte, Nat.reduceEqDiff, Nat.reduceAdd, Nat.reduceMul, Nat.reduceLT, Nat.reduceLeDiff, reduceCtorEq, Int.reduceNe, Int.reduceEq, Int.reduceLT, Int.reduceLE, Int.reduceAdd, Int.reduceSub, Int.reduceMul, Int.reduceNeg, Int.reduceToNat, UInt8.reduceToNat, natLit, ty3, ty4, ty9, ty26, ty29, ty31, ty47, ty49, ty54, ty55, ty58, ty72, ty74, ty81]
    exact ⟨.nilsl, [], rfl, hA, HOwn.nil⟩
  have hb : ¬ (¬ (ps.all patOk = true) ∨ tiedM es = false) := by rw [ha, ht]; simp
  rw [ht] at e1
  obtain ⟨hn, hT⟩ := tiedM_n ht
  have hok := nestedM_ok hn
  have hPA := hP.ext hA
  obtain ⟨kw, D, e3, xD, oD⟩ := run_spRootsOf (hNA.left (L := [Blk.cells [v, w, .nilsl, .int .i64 0, .int .i64 0]])) hfit hlen hn H.length
  have k1 := (oD.at inN_len).isTup; have k2 := (oD.at inN_len).one; have k3 := (oD.at inN_len).len; have k4 := (oD.at inN_len).lenOk ty55
  have hlA := hA.len
  have hlD := xD.len
  rw [List.length_append] at hlD
  simp only [List.length_cons, List.length_nil, Nat.zero_add] at hlD
  have pkD : LH.cellsAt D A.length = some [v, w, .nilsl, .int .i64 0, .int .i64 0] := xD.cells (by rw [cellsAt_app0]; rfl)
  unfold pickM
  rw [if_neg hb]
  unfold run at e1 e3
  simp (config := {contextual := true, maxSteps := 10000000, implicitDefEqProofs := false}) (disch := first | (and_intros <;> omega -splitDisjunctions) | (simp only [List.length_set, List.length_append, List.length_cons, List.length_nil]; and_intros <;> omega -splitDisjunctions) | fail) only [e1, e3, i1, i2, w1, w2, k1, k2, k3, k4, Try.f6, go_sem, ↓reduceIte, Nat.reduceEqDiff, Nat.reduceAdd, Nat.reduceMul, Nat.reduceLT, Nat.reduceLeDiff, reduceCtorEq, Int.reduceNe, Int.reduceEq, Int.reduceLT, Int.reduceLE, Int.reduceAdd, Int.reduceSub, Int.reduceMul, Int.reduceNeg, Int.reduceToNat, UInt8.reduceToNat, natLit, ty3, ty4, ty9, ty26, ty29, ty31, ty47, ty49, ty54, ty55, ty58, ty72, ty74, ty81]
  have hrl := rootsF_len es
  refine at_loopR fun c R hc hR => ?_
  have key : ∀ (m : Nat) (k : Nat) (kk : Int) (B : LH) (hv : V) (cs : List HC) (s : PS) (x1 x4 x5 x7 x10 x11 x12 x13 x14 x19 x23 x32 x42 x53 : Option V), (rootsF es).length - k < m → kk = k → k ≤ (rootsF es).length → VSs A A.length (A.length + 1) v w (k : Int) B hv cs s → At B inN 1 kw (rootsF es) → (∀ c ∈ sbk kw, c ≠ A.length ∧ c ∉ sbk hv) → s.n ≤ 3000 → s.hits.length ≤ s.n → visR es ps ((rootsF es).drop k) k s = visR es ps (rootsF es) 0 ⟨0, []⟩ →
      Ret (fun r B => ∃ hv cs, r = .tup [hv, .int .i64 (if (visR es ps (rootsF es) 0 ⟨0, []⟩).1 = false then (([], 4) : List Ht × Int) else if es.any (fun e => decide (e.kind = 10)) = true then ([], 3) else ((visR es ps (rootsF es) 0 ⟨0, []⟩).2.hits, 0)).2] ∧ Hx H B ∧ HOwn H.length B hv cs (if (visR es ps (rootsF es) 0 ⟨0, []⟩).1 = false then (([], 4) : List Ht × Int) else if es.any (fun e => decide (e.kind = 10)) = true then ([], 3) else ((visR es ps (rootsF es) 0 ⟨0, []⟩).2.hits, 0)).1) (zEv (leaveX (mkR Try.prog cfg ok [0, 1, 4, 5, 7, 8, 10, 11, 12, 13, 14, 19, 23, 29, 30, 31, 32, 42, 53] H.length) .fresh H [ResultVar.tmp 4, ResultVar.tmp 5]) (mkR Try.prog cfg ok [0, 1, 4, 5, 7, 8, 10, 11, 12, 13, 14, 19, 23, 29, 30, 31, 32, 42, 53] H.length) (K.code (Code.loop c) :: K.blk 2 :: R) .nrm [some v, x1, x4, x5, x7, some (.ptr A.length 0), x10, x11, x12, x13, x14, x19, x23, some kw, some (.int .i64 (rootsF es).length), some (.int .i64 kk), x32, x42, x53] (B)) := by
    intro m
    induction m with
    | zero => intro k kk B hv cs s x1 x4 x5 x7 x10 x11 x12 x13 x14 x19 x23 x32 x42 x53 hm; omega
    | succ m ih =>
      intro k kk B hv cs s x1 x4 x5 x7 x10 x11 x12 x13 x14 x19 x23 x32 x42 x53 hm hk hkl hS hkA hka hn3 hhl hfin
      subst hk
      have hxB : Hx H B := hA.trans hS.hx
      by_cases hlt : k < (rootsF es).length
      rotate_left
      · have t1 : ((k : Int) < (rootsF es).length) = False := eq_false (by omega)
        rw [List.drop_of_length_le (by omega)] at hfin
        rw [← hfin]
        have e5 := fun fl => run_spWhole (hN.ext hxB) hfit hlen fl
        unfold wholeM at e5
        rw [ht, ← any_fault hn, Bool.true_and] at e5
        have pkB := hS.pk
        have o1 := (hS.ho.own.at htC_len).isTup; have o2 := (hS.ho.own.at htC_len).one
        unfold run at e5
        rw [zEv_round hc, ← hR]
        by_cases hf : es.any (fun e => decide (e.kind = 10)) = true
        · rw [hf] at e5
          simp (config := {contextual := true, maxSteps := 10000000, implicitDefEqProofs := false}) (disch := first | (and_intros <;> omega -splitDisjunctions) | (simp only [List.length_set, List.length_append, List.length_cons, List.length_nil]; and_intros <;> omega -splitDisjunctions) | fail) only [t1, e5, i1, i2, pkB, o1, o2, hf, visR, Try.f6, go_sem, ↓reduceIte, Nat.reduceEqDiff, Nat.reduceAdd, Nat.reduceMul, Nat.reduceLT, Nat.reduceLeDiff, reduceCtorEq, Int.reduceNe, Int.reduceEq, Int.reduceLT, Int.reduceLE, Int.reduceAdd, Int.reduceSub, Int.reduceMul, Int.reduceNeg, Int.reduceToNat, UInt8.reduceToNat, natLit, ty3, ty4, ty9, ty26, ty29, ty31, ty47, ty49, ty54, ty55, ty58, ty72, ty74, ty81]
          exact ⟨.nilsl, [], rfl, hxB, HOwn.nil⟩
        · have hf : es.any (fun e => decide (e.kind = 10)) = false := by simpa using hf
          rw [hf] at e5
          simp (config := {contextual := true, maxSteps := 10000000, implicitDefEqProofs := false}) (disch := first | (and_intros <;> omega -splitDisjunctions) | (simp only [List.length_set, List.length_append, List.length_cons, List.length_nil]; and_intros <;> omega -splitDisjunctions) | fail) only [t1, e5, i1, i2, pkB, o1, o2, hf, visR, Try.f6, go_sem, ↓reduceIte, Nat.reduceEqDiff, Nat.reduceAdd, Nat.reduceMul, Nat.reduceLT, Nat.reduceLeDiff, reduceCtorEq, Int.reduceNe, Int.reduceEq, Int.reduceLT, Int.reduceLE, Int.reduceAdd, Int.reduceSub, Int.reduceMul, Int.reduceNeg, Int.reduceToNat, UInt8.reduceToNat, natLit, ty3, ty4, ty9, ty26, ty29, ty31, ty47, ty49, ty54, ty55, ty58, ty72, ty74, ty81]
          exact ⟨hv, cs, rfl, hxB, hS.ho.down (by omega)⟩
      have t1 : ((k : Int) < (rootsF es).length) = True := eq_true (by omega)
      rw [drop_cons2 hlt 0] at hfin
      rw [visR_cons] at hfin
      have g1 := hkA.isTup; have g2 := hkA.len; have g3 := hkA.lenOk ty55; have g0 := hkA.one
      have g4 := fun hp => hkA.con hp
      have g5 := hkA.idx (T := ty Try.prog) (t := 55) (by simp only [elemI, sizeO, ty3, ty55])
      have g6 := hkA.load1 0 (fun x => .int .i64 (x : Int)) (fun _ => rfl)
      have g6 := fun n K => g6 k hlt n K
      have hxk : (rootsF es).getD k 0 ∈ rootsF es := by rw [getD_of hlt]; exact List.getElem_mem _
      have hrlt := rootsF_lt hxk
      generalize (rootsF es).getD k 0 = x at *
      obtain ⟨rv, C, e6, hv', cs', hS', hF, hE⟩ := run_l19Visit hNA hPA hlen hok.2.2.1 hfit hsh hT A.length (A.length + 1) 3001 B hv cs s x [] .nilsl H.length hS (.inl ⟨rfl, .inl rfl⟩) trivial (by simp [sbk]) hrlt (by omega) hn3 hhl (Nat.zero_le _) (by omega)
      have hvn := vis_n es ps k 3001 x [] s hn3
      have hvh := vis_h es ps k 3001 x [] s hhl hn3
      generalize vis es ps (k : Int) 3001 x [] s = r at *
      obtain ⟨rb, s'⟩ := r
      dsimp only at *
      have pkC := hS'.pk
      unfold run at e6
      rw [zEv_round hc, ← hR]
      cases rb with
      | false =>
        simp only [Bool.false_eq_true, if_false] at hfin
        have pkC : LH.cellsAt C A.length = some [v, w, hv', .int .i64 (k : Int), .int .i64 3001] := pkC
        rw [← hfin]
        simp (config := {contextual := true, maxSteps := 10000000, implicitDefEqProofs := false}) (disch := first | (and_intros <;> omega -splitDisjunctions) | (simp only [List.length_set, List.length_append, List.length_cons, List.length_nil]; and_intros <;> omega -splitDisjunctions) | fail) only [t1, g0, g1, g2, g3, g4, g5, g6, e6, pkC, Try.f6, go_sem, ↓reduceIte, Nat.reduceEqDiff, Nat.reduceAdd, Nat.reduceMul, Nat.reduceLT, Nat.reduceLeDiff, reduceCtorEq, Int.reduceNe, Int.reduceEq, Int.reduceLT, Int.reduceLE, Int.reduceAdd, Int.reduceSub, Int.reduceMul, Int.reduceNeg, Int.reduceToNat, UInt8.reduceToNat, natLit, ty3, ty4, ty9, ty26, ty29, ty31, ty47, ty49, ty54, ty55, ty58, ty72, ty74, ty81]
        exact ⟨.nilsl, [], rfl, hA.trans hS'.hx, HOwn.nil⟩
      | true =>
        simp only [if_true] at hfin
        have hS' : VSs A A.length (A.length + 1) v w (k : Int) C hv' cs' s' := hS'
        have pkC : LH.cellsAt C A.length = some [v, w, hv', .int .i64 (k : Int), .int .i64 (s'.n : Int)] := pkC
        have t9 : ((s'.n : Int) > 3000) = False := eq_false (by omega)
        have t10 : (3000 < (s'.n : Int)) = False := eq_false (by omega)
        simp (config := {contextual := true, maxSteps := 10000000, implicitDefEqProofs := false}) (disch := first | (and_intros <;> omega -splitDisjunctions) | (simp only [List.length_set, List.length_append, List.length_cons, List.length_nil]; and_intros <;> omega -splitDisjunctions) | fail) only [t1, t9, t10, g0, g1, g2, g3, g4, g5, g6, e6, pkC, Try.f6, go_sem, ↓reduceIte, Nat.reduceEqDiff, Nat.reduceAdd, Nat.reduceMul, Nat.reduceLT, Nat.reduceLeDiff, reduceCtorEq, Int.reduceNe, Int.reduceEq, Int.reduceLT, Int.reduceLE, Int.reduceAdd, Int.reduceSub, Int.reduceMul, Int.reduceNeg, Int.reduceToNat, UInt8.reduceToNat, natLit, ty3, ty4, ty9, ty26, ty29, ty31, ty47, ty49, ty54, ty55, ty58, ty72, ty74, ty81]
        rw [hR]
        obtain ⟨hS2, hF2⟩ := hS'.doc ((k : Int) + 1)
        have hne : ∀ c ∈ sbk kw, c ≠ A.length ∧ c ∉ sbk hv' := fun c hc => ⟨(hka c hc).1, fun hm => by
            rcases hE with rfl | hE
            · exact (hka c hc).2 hm
            · have := hE c hm; have := hkA.sbk c hc; omega⟩
        have hkC := hkA.fr hF (fun c hc => ⟨hkA.sbk c hc, fun hm => by
          rcases List.mem_cons.1 hm with h | h
          · exact (hka c hc).1 h
          · exact (hka c hc).2 h⟩)
        exact ih (k + 1) ((k : Int) + 1) _ hv' cs' s' _ _ _ _ _ _ _ _ _ _ _ _ _ _ (by omega) (by omega) (by omega) hS2 (hkC.fr hF2 (fun c hc => ⟨hkC.sbk c hc, by simpa using (hka c hc).1⟩)) hne (by omega) hvh hfin
  refine key ((rootsF es).length + 1) 0 0 D .nilsl [] ⟨0, []⟩ _ _ _ _ _ _ _ _ _ _ _ _ _ _ (by omega) rfl (by omega) ⟨?_, pkD, HOwn.nil, Nat.le_refl _, by omega, by omega, by simp⟩ (oD.at inN_len) (fun c hc => ⟨by have := oD.sbk c hc; rw [List.length_append] at this; simp at this; omega, by simp [sbk]⟩) (Nat.zero_le _) (Nat.zero_le _) rfl
  exact Hx.trans Hx.app xD
end Go.Proofs.Ytcbjmggbbnpbpaa.Lg
namespace Go.Proofs.Ytcbjmggbbnpbpaa.Lg
set_option linter.unusedSimpArgs false
set_option linter.unusedVariables false
set_option maxRecDepth 100000

def PB (s : PS) : Prop := s.hits.length ≤ s.n ∧ s.n ≤ 3000 ∧ ∀ h ∈ s.hits, h.path.length ≤ 3000
theorem visK_pb {f : Nat → List Sg → PS → Bool × PS} {es : List Ev} {i : Nat} {xs : List Nat} {path : List Sg} (hf : ∀ x p s, PB s → p.length ≤ s.n → PB (f x p s).2 ∧ s.n ≤ (f x p s).2.n) :
    ∀ (r k : Nat) (s : PS), PB s → path.length < s.n → PB (visK f es i xs path r k s).2
  | 0, k, s, h, _ => h
  | r + 1, k, s, h, h0 => by
    unfold visK
    by_cases h1 : kd es i = 4 ∧ k % 2 = 0
    · rw [if_pos h1]; exact visK_pb hf r (k + 1) s h h0
    · rw [if_neg h1]
      have h2 := hf (xs.getD k 0) (path ++ [segK es i xs k]) s h (by rw [List.length_append, List.length_singleton]; omega)
      by_cases h3 : (f (xs.getD k 0) (path ++ [segK es i xs k]) s).1 = true
      · rw [if_pos h3]
        exact visK_pb hf (es := es) (i := i) (xs := xs) (path := path) r (k + 1) _ h2.1 (by omega)
      · rw [if_neg h3]; exact h2.1
theorem vis_pb (es : List Ev) (ps : List (List Sg)) (doc : Int) : ∀ (d i : Nat) (path : List Sg) (s : PS), PB s → path.length ≤ s.n → PB (vis es ps doc d i path s).2
  | 0, i, path, s, h, _ => h
  | d + 1, i, path, s, h, h0 => by
    unfold vis
    by_cases h1 : s.n = 3000
    · rw [if_pos h1]; exact h
    · rw [if_neg h1]
      refine visK_pb (fun x p s g1 g2 => ⟨vis_pb es ps doc d x p s g1 g2, (vis_n es ps doc d x p s g1.2.1).1⟩) _ 0 _ ?_ (by show path.length < s.n + 1; omega)
      unfold met
      by_cases h2 : anyP ps path = true
      · rw [if_pos h2]
        refine ⟨by simp; exact h.1, by have := h.2.1; show s.n + 1 ≤ 3000; omega, fun x hx => ?_⟩
        rcases List.mem_append.1 hx with hx | hx
        · exact h.2.2 x hx
        · rw [List.mem_singleton.1 hx]; have := h.2.1; show path.length ≤ 3000; omega
      · rw [if_neg h2]; exact ⟨by have := h.1; show s.hits.length ≤ s.n + 1; omega, by have := h.2.1; show s.n + 1 ≤ 3000; omega, h.2.2⟩
theorem visR_pb (es : List Ev) (ps : List (List Sg)) : ∀ (rs : List Nat) (doc : Nat) (s : PS), PB s → PB (visR es ps rs doc s).2
  | [], doc, s, h => h
  | r :: rs, doc, s, h => by
    rw [visR_cons]
    have h2 := vis_pb es ps doc 3001 r [] s h (Nat.zero_le _)
    by_cases h3 : (vis es ps doc 3001 r [] s).1 = true
    · rw [if_pos h3]; exact visR_pb es ps rs (doc + 1) _ h2
    · rw [if_neg h3]; exact h2
theorem pickM_few (es : List Ev) (ps : List (List Sg)) : (pickM es ps).1.length ≤ 3000 ∧ ∀ h ∈ (pickM es ps).1, h.path.length ≤ 3000 := by
  unfold pickM
  by_cases h1 : ¬ (ps.all patOk = true) ∨ tiedM es = false
  · rw [if_pos h1]; simp
  rw [if_neg h1]
  by_cases h2 : (visR es ps (rootsF es) 0 ⟨0, []⟩).1 = false
  · rw [if_pos h2]; simp
  rw [if_neg h2]
  by_cases h3 : es.any (fun e => decide (e.kind = 10)) = true
  · rw [if_pos h3]; simp
  rw [if_neg h3]
  have := visR_pb es ps (rootsF es) 0 ⟨0, []⟩ ⟨by simp, by simp, by simp⟩
  exact ⟨Nat.le_trans this.1 this.2.1, this.2.2⟩
end Go.Proofs.Ytcbjmggbbnpbpaa.Lg
namespace Go.Proofs.Ytcbjmggbbnpbpaa.Lg
set_option linter.unusedSimpArgs false
set_option linter.unusedVariables false
set_option maxRecDepth 100000
set_option maxHeartbeats 40000000
open Go.Proofs.Ytcbjmggbbnpbpaa

structure POwn (f : Nat) (H : LH) (w : V) (pv : List V) (ps : List (List Sg)) : Prop where
  own : Own f H pC 1 w pv
  len : pv.length = ps.length
  row : ∀ k, k < ps.length → Own (f + 1) H sgC 3 (pv.getD k .nilsl) (ps.getD k [])
def paW (p : List Sg) : Int := p.length + sumZ sgCW p
def paFit (p : List Sg) : Prop := p.length ≤ 9223372036854775807 ∧ ∀ x ∈ p, sgCFit x
theorem sgCW0 (x : Sg) : 0 ≤ sgCW x := by unfold sgCW; omega
theorem paW0 (x : List Sg) : 0 ≤ paW x := by
  have := sumZ_nonneg sgCW0 x
  unfold paW; omega
theorem run_szPattern (x : V) (p : List Sg) (left : Int) (fl : Nat) (H : LH) (h : At H sgC 3 x p) (h0 : 0 ≤ left) (h2 : left ≤ 1048576) (hf : paFit p) :
    run 18 [.agg [x], .int .i64 left] fl H = some (.int .i64 (if left < paW p then -1 else left - paW p), H) := by
  have e1 := fun L l hl hl2 fl => run_szSegS x p l fl (H ++ L) (h.left) hl hl2 hf.1 hf.2
  have f1 := h.isTup; have f2 := h.one
  have w1 := sumZ_nonneg sgCW0 p
  unfold paW
  generalize (p.length : Int) + sumZ sgCW p = W at *
  unfold run at *
  rw [Run_z Try.func18 rfl (by rfl : ok 18 = true) (by rfl : cfg.keep 18 = [0, 1, 2, 4, 10]) (by rfl : cfg.mode 18 = .pure) (by rfl : cfg.ord 18 = [])]
  simp (config := {contextual := true, maxSteps := 10000000, implicitDefEqProofs := false}) (disch := first | (and_intros <;> omega -splitDisjunctions) | (simp only [List.length_set, List.length_append, List.length_cons, List.length_nil]; and_intros <;> omega -splitDisjunctions) | fail) only [e1, f1, f2, Try.f18, go_sem, ↓reduceIte, Nat.reduceEqDiff, Nat.reduceAdd, Nat.reduceMul, Nat.reduceLT, Nat.reduceLeDiff, reduceCtorEq, Int.reduceNe, Int.reduceEq, Int.reduceLT, Int.reduceLE, Int.reduceAdd, Int.reduceSub, Int.reduceMul, Int.reduceNeg, Int.reduceToNat, UInt8.reduceToNat, natLit, ty3, ty9, ty44, ty46, ty100]
  grind
theorem run_szPatternS (v : V) (cs : List V) (ns : List (List Sg)) (left : Int) (fl : Nat) (H : LH) (hA : At H pC 1 v cs) (hlen : cs.length = ns.length) (hR : ∀ i, i < ns.length → At H sgC 3 (cs.getD i .nilsl) (ns.getD i [])) (h0 : 0 ≤ left) (h2 : left ≤ 1048576) (hx : ns.length ≤ 9223372036854775807) (hf : ∀ x ∈ ns, paFit x) :
    run 5 [v, .int .i64 left] fl H = some (.int .i64 (if left < ns.length + sumZ paW ns then -1 else left - (ns.length + sumZ paW ns)), H) := by
  have e1 := fun i (hi : i < cs.length) l hl hl2 fl => run_szPattern (cs.getD i .nilsl) (ns.getD i []) l fl H (hR i (by omega)) hl hl2 (by rw [getD_of (by omega)]; exact hf _ (List.getElem_mem _))
  have f1 := hA.isTup; have f2 := hA.len; have f3 := hA.lenOk ty23
  have f4 := fun (hp : 0 < cs.length) => hA.con hp
  have f5 := hA.idx (T := ty Try.prog) (t := 23) (by simp only [elemI, sizeO, ty3, ty9, ty23, ty44, ty46, ty100])
  have f6 := hA.loadD pC_len .nilsl
  simp only [pC, Nat.mul_one] at f6
  have w0 : ∀ x, 0 ≤ paW x := paW0
  have w1 := sumZ_nonneg w0 ns
  unfold run at *
  rw [Run_z Try.func5 rfl (by rfl : ok 5 = true) (by rfl : cfg.keep 5 = [0, 1, 4, 5, 11, 15, 25]) (by rfl : cfg.mode 5 = .pure) (by rfl : cfg.ord 5 = [])]
  simp (config := {contextual := true, maxSteps := 10000000, implicitDefEqProofs := false}) (disch := first | (and_intros <;> omega -splitDisjunctions) | (simp only [List.length_set, List.length_append, List.length_cons, List.length_nil]; and_intros <;> omega -splitDisjunctions) | fail) only [f1, f2, f3, Try.f5, go_sem, ↓reduceIte, Nat.reduceEqDiff, Nat.reduceAdd, Nat.reduceMul, Nat.reduceLT, Nat.reduceLeDiff, reduceCtorEq, Int.reduceNe, Int.reduceEq, Int.reduceLT, Int.reduceLE, Int.reduceAdd, Int.reduceSub, Int.reduceMul, Int.reduceNeg, Int.reduceToNat, UInt8.reduceToNat, natLit, ty3, ty9, ty23, ty44, ty46, ty100]
  refine ite_E (fun hl => ?_) (fun hl => ?_)
  · rw [if_pos (by omega)]
  refine at_loopE fun c0 R hc0 hR => ?_
  have key : ∀ (d i : Nat) (x4 x11 x15 x25 : Option V) (l j : Int), ns.length - i ≤ d → i ≤ ns.length → 0 ≤ l → l ≤ 1048576 → j = i →
      zEv (leaveX (mkR Try.prog cfg ok [0, 1, 4, 5, 11, 15, 25] H.length) .pure H [ResultVar.tmp 4]) (mkR Try.prog cfg ok [0, 1, 4, 5, 11, 15, 25] H.length) (K.code (Code.loop c0) :: K.blk 0 :: R) .nrm [some v, some (.int .i64 l), x4, some (.int .i64 j), x11, x15, x25] H =
      some (.int .i64 (if l < sumZ paW (ns.drop i) then -1 else l - sumZ paW (ns.drop i)), H) := by
    intro d
    induction d with
    | zero =>
      intro i x4 x11 x15 x25 l j hd hi hl0 hl1 hj
      subst hj
      rw [zEv_round hc0, ← hR]
      simp (config := {contextual := true, maxSteps := 10000000, implicitDefEqProofs := false}) (disch := first | (and_intros <;> omega -splitDisjunctions) | (simp only [List.length_set, List.length_append, List.length_cons, List.length_nil]; and_intros <;> omega -splitDisjunctions) | fail) only [e1, f1, f2, f3, f4, f5, f6, Try.f5, go_sem, ↓reduceIte, Nat.reduceEqDiff, Nat.reduceAdd, Nat.reduceMul, Nat.reduceLT, Nat.reduceLeDiff, reduceCtorEq, Int.reduceNe, Int.reduceEq, Int.reduceLT, Int.reduceLE, Int.reduceAdd, Int.reduceSub, Int.reduceMul, Int.reduceNeg, Int.reduceToNat, UInt8.reduceToNat, natLit, ty3, ty9, ty23, ty44, ty46, ty100]
      refine ite_E (fun h => by omega) (fun _ => ?_)
      rw [List.drop_of_length_le (by omega), sumZ_nil, if_neg (by omega), Int.sub_zero]
    | succ d ih =>
      intro i x4 x11 x15 x25 l j hd hi hl0 hl1 hj
      subst hj
      rw [zEv_round hc0, ← hR]
      simp (config := {contextual := true, maxSteps := 10000000, implicitDefEqProofs := false}) (disch := first | (and_intros <;> omega -splitDisjunctions) | (simp only [List.length_set, List.length_append, List.length_cons, List.length_nil]; and_intros <;> omega -splitDisjunctions) | fail) only [e1, f1, f2, f3, f4, f5, f6, Try.f5, go_sem, ↓reduceIte, Nat.reduceEqDiff, Nat.reduceAdd, Nat.reduceMul, Nat.reduceLT, Nat.reduceLeDiff, reduceCtorEq, Int.reduceNe, Int.reduceEq, Int.reduceLT, Int.reduceLE, Int.reduceAdd, Int.reduceSub, Int.reduceMul, Int.reduceNeg, Int.reduceToNat, UInt8.reduceToNat, natLit, ty3, ty9, ty23, ty44, ty46, ty100]
      rw [hR]
      refine ite_E (fun hlt => ?_) (fun hge => ?_)
      · have hlt : i < ns.length := by omega
        rw [List.drop_eq_getElem_cons hlt, sumZ_cons, ← getD_of hlt []]
        have w2 := w0 (ns.getD i [])
        have w4 := sumZ_nonneg w0 (ns.drop (i + 1))
        by_cases hw : l < paW (ns.getD i [])
        · rw [if_pos hw, if_pos (by omega), if_pos (by omega)]
        · rw [if_neg hw, if_neg (show ¬ l - paW (ns.getD i []) < 0 by omega)]
          refine (ih (i + 1) _ _ _ _ (l - paW (ns.getD i [])) ((i : Int) + 1) (by omega) (by omega) (by omega) (by omega) rfl).trans ?_
          by_cases h9 : l - paW (ns.getD i []) < sumZ paW (ns.drop (i + 1))
          · rw [if_pos h9, if_pos (by omega)]
          · rw [if_neg h9, if_neg (by omega)]; congr 3; omega
      · rw [List.drop_of_length_le (by omega), sumZ_nil, if_neg (by omega), Int.sub_zero]
  refine (key ns.length 0 _ _ _ _ (left - cs.length) _ (by omega) (Nat.zero_le _) (by omega) (by omega) rfl).trans ?_
  rw [List.drop_zero, hlen]
  by_cases h9 : left - ns.length < sumZ paW ns
  · rw [if_pos h9, if_pos (by omega)]
  · rw [if_neg h9, if_neg (by omega)]; congr 3; omega
theorem run_toPattern (x : V) (p : List Sg) (fl : Nat) (H : LH) (h : At H sgC 3 x p) (hx : p.length ≤ 1048576) :
    Ret (fun v H' => ∃ kv, v = .agg (pC kv) ∧ Hx H H' ∧ Own H.length H' sgC 3 kv p) (run 25 [.agg [x]] fl H) := by
  have e1 := fun L fl => run_toSegS x p fl (H ++ L) (h.left) hx
  have f1 := h.isTup
  have f2 := h.one
  unfold run at *
  rw [Run_z Try.func25 rfl (by rfl : ok 25 = true) (by rfl : cfg.keep 25 = [0, 1, 2, 3]) (by rfl : cfg.mode 25 = .fresh) (by rfl : cfg.ord 25 = [])]
  simp (config := {contextual := true, maxSteps := 10000000, implicitDefEqProofs := false}) (disch := first | (and_intros <;> omega -splitDisjunctions) | (simp only [List.length_set, List.length_append, List.length_cons, List.length_nil]; and_intros <;> omega -splitDisjunctions) | fail) only [e1, f1, f2, Try.f25, go_sem, ↓reduceIte, Nat.reduceEqDiff, Nat.reduceAdd, Nat.reduceMul, Nat.reduceLT, Nat.reduceLeDiff, reduceCtorEq, Int.reduceNe, Int.reduceEq, Int.reduceLT, Int.reduceLE, Int.reduceAdd, Int.reduceSub, Int.reduceMul, Int.reduceNeg, Int.reduceToNat, UInt8.reduceToNat, natLit, ty3, ty9, ty44, ty46, ty47, ty49, ty81, ty100]
  exact ⟨_, rfl, Hx.app, .inr ⟨H.length + 3, rfl, by rw [cellsAt_app]; rfl, by omega⟩⟩
theorem run_toPatternS (v : V) (cs : List V) (ns : List (List Sg)) (fl : Nat) (H : LH) (hA : At H pC 1 v cs) (hlen : cs.length = ns.length) (hR : ∀ i, i < ns.length → At H sgC 3 (cs.getD i .nilsl) (ns.getD i [])) (hx : ns.length ≤ 1048576) (kx : ∀ n ∈ ns, n.length ≤ 1048576) :
    Ret (fun w H' => Hx H H' ∧ ∃ pv, POwn H.length H' w pv ns) (run 8 [v] fl H) := by
  have f1 := hA.isTup; have f2 := hA.len; have f3 := hA.lenOk ty23
  unfold run
  rw [Run_z Try.func8 rfl (by rfl : ok 8 = true) (by rfl : cfg.keep 8 = [0, 2, 3, 4, 11]) (by rfl : cfg.mode 8 = .fresh) (by rfl : cfg.ord 8 = [])]
  simp (config := {contextual := true, maxSteps := 10000000, implicitDefEqProofs := false}) (disch := first | (and_intros <;> omega -splitDisjunctions) | (simp only [List.length_set, List.length_append, List.length_cons, List.length_nil]; and_intros <;> omega -splitDisjunctions) | fail) only [f1, f2, f3, Try.f8, go_sem, ↓reduceIte, Nat.reduceEqDiff, Nat.reduceAdd, Nat.reduceMul, Nat.reduceLT, Nat.reduceLeDiff, reduceCtorEq, Int.reduceNe, Int.reduceEq, Int.reduceLT, Int.reduceLE, Int.reduceAdd, Int.reduceSub, Int.reduceMul, Int.reduceNeg, Int.reduceToNat, UInt8.reduceToNat, natLit, ty3, ty9, ty23, ty31, ty44, ty46, ty47, ty49, ty81, ty100]
  refine at_loopR fun c0 R hc0 hR0 => ?_
  have key : ∀ (d i : Nat) (x11 : Option V) (j : Int) (es : List V) (H1 : LH), ns.length - i ≤ d → i ≤ ns.length → j = i → es.length = ns.length → Hx H H1 → H1.cellsAt H.length = some (rows pC es) → (∀ k, k < i → Own (H.length + 1) H1 sgC 3 (es.getD k .nilsl) (ns.getD k [])) →
      Ret (fun w H' => Hx H H' ∧ ∃ pv, POwn H.length H' w pv ns) (zEv (leaveX (mkR Try.prog cfg ok [0, 2, 3, 4, 11] H.length) .fresh H [ResultVar.tmp 2]) (mkR Try.prog cfg ok [0, 2, 3, 4, 11] H.length) (K.code (Code.loop c0) :: K.blk 0 :: R) .nrm
        [some v, some .nilsl, some (.sl H.length 0 1 ns.length ns.length), some (.int .i64 j), x11] H1) := by
    intro d
    induction d with
    | zero =>
      intro i x11 j es H1 hd hi hj hel hx1 hc hk
      subst hj
      rw [zEv_round hc0, ← hR0]
      simp (config := {contextual := true, maxSteps := 10000000, implicitDefEqProofs := false}) (disch := first | (and_intros <;> omega -splitDisjunctions) | (simp only [List.length_set, List.length_append, List.length_cons, List.length_nil]; and_intros <;> omega -splitDisjunctions) | fail) only [f1, f2, f3, Try.f8, go_sem, ↓reduceIte, Nat.reduceEqDiff, Nat.reduceAdd, Nat.reduceMul, Nat.reduceLT, Nat.reduceLeDiff, reduceCtorEq, Int.reduceNe, Int.reduceEq, Int.reduceLT, Int.reduceLE, Int.reduceAdd, Int.reduceSub, Int.reduceMul, Int.reduceNeg, Int.reduceToNat, UInt8.reduceToNat, natLit, ty3, ty9, ty23, ty31, ty44, ty46, ty47, ty49, ty81, ty100]
      refine Ret_ite (fun h => by omega) (fun _ => ?_)
      rw [Ret_some]
      exact ⟨hx1, es, ⟨.inr ⟨H.length, by rw [hel], hc, Nat.le_refl _⟩, hel, fun k hk2 => hk k (by omega)⟩⟩
    | succ d ih =>
      intro i x11 j es H1 hd hi hj hel hx1 hc hk
      subst hj
      have f4 := fun (hp : 0 < cs.length) => (hA.ext hx1).con hp
      have f5 := hA.idx (T := ty Try.prog) (t := 23) (by simp only [elemI, sizeO, ty3, ty9, ty23, ty44, ty46, ty100])
      have f6 := (hA.ext hx1).loadD pC_len .nilsl
      simp only [pC, Nat.mul_one] at f6
      rw [zEv_round hc0, ← hR0]
      simp (config := {contextual := true, maxSteps := 10000000, implicitDefEqProofs := false}) (disch := first | (and_intros <;> omega -splitDisjunctions) | (simp only [List.length_set, List.length_append, List.length_cons, List.length_nil]; and_intros <;> omega -splitDisjunctions) | fail) only [f1, f2, f3, f4, f5, f6, hlen, Try.f8, go_sem, ↓reduceIte, Nat.reduceEqDiff, Nat.reduceAdd, Nat.reduceMul, Nat.reduceLT, Nat.reduceLeDiff, reduceCtorEq, Int.reduceNe, Int.reduceEq, Int.reduceLT, Int.reduceLE, Int.reduceAdd, Int.reduceSub, Int.reduceMul, Int.reduceNeg, Int.reduceToNat, UInt8.reduceToNat, natLit, ty3, ty9, ty23, ty31, ty44, ty46, ty47, ty49, ty81, ty100]
      refine Ret_ite (fun hlt => ?_) (fun hge => ?_)
      · have hlt : i < ns.length := by omega
        refine zS_call (run_toPattern (cs.getD i .nilsl) (ns.getD i []) _ H1 ((hR i hlt).ext hx1) (by rw [getD_of hlt]; exact kx _ (List.getElem_mem _))) ?_
        rintro _ H2 ⟨kv, rfl, hx2, ho2⟩
        have hl1 := hx1.len
        have hl2 := hx2.len
        have hb1 := cellsAt_lt hc
        have hc2 := hx2.cells hc
        have g1 := rows_len pC_len es
        rw [hel] at g1
        have k1 := (ho2.at sgC_len).isTup
        have k2 := (ho2.at sgC_len).one
        have put : putAt (rows pC es) (i) (pC kv) = rows pC (es.set i kv) := by
          have := rows_putD (enc := pC) (j := 0) (xs := es) pC_len .nilsl i (by omega) (ws := pC kv) (by simp [pC_len]) kv rfl
          rw [Nat.mul_one] at this; exact this
        simp only [pC, putAt] at put
        simp (config := {contextual := true, maxSteps := 10000000, implicitDefEqProofs := false}) (disch := first | (and_intros <;> omega -splitDisjunctions) | (simp only [List.length_set, List.length_append, List.length_cons, List.length_nil]; and_intros <;> omega -splitDisjunctions) | fail) only [hc2, g1, put, pC, k1, k2, hlen, Try.f8, go_sem, ↓reduceIte, Nat.reduceEqDiff, Nat.reduceAdd, Nat.reduceMul, Nat.reduceLT, Nat.reduceLeDiff, reduceCtorEq, Int.reduceNe, Int.reduceEq, Int.reduceLT, Int.reduceLE, Int.reduceAdd, Int.reduceSub, Int.reduceMul, Int.reduceNeg, Int.reduceToNat, UInt8.reduceToNat, natLit, ty3, ty9, ty23, ty31, ty44, ty46, ty47, ty49, ty81, ty100]
        rw [hR0]
        refine ih (i + 1) _ _ (es.set i kv) _ (by omega) (by omega) rfl (by simp [hel]) ((hx1.trans hx2).set (Nat.le_refl _)) (by rw [cellsAt_set (by omega)]) ?_
        intro k hki
        have hown : ∀ {c : V} {n : List Sg}, Own (H.length + 1) H2 sgC 3 c n → Own (H.length + 1) (H2.set H.length (.cells (rows pC (es.set i kv)))) sgC 3 c n := fun h => h.setNe (Nat.lt_succ_self _)
        by_cases hke : k = i
        · subst hke
          have e : ∀ X : V, (es.set k X).getD k .nilsl = X := fun X => by rw [List.getD_eq_getElem?_getD, List.getElem?_set_self (by omega), Option.getD_some]
          rw [e]
          exact hown (ho2.down (by omega))
        · have := hk k (by omega)
          have e : (es.set i kv).getD k .nilsl = es.getD k .nilsl := by
            rw [List.getD_eq_getElem?_getD, List.getElem?_set_ne (fun e => hke e.symm), ← List.getD_eq_getElem?_getD]
          rw [e]
          exact hown (this.ext hx2)
      · rw [Ret_some]
        exact ⟨hx1, es, ⟨.inr ⟨H.length, by rw [hel], hc, Nat.le_refl _⟩, hel, fun k hk2 => hk k (by omega)⟩⟩
  have go := fun x11 => key ns.length 0 x11 0 (List.replicate ns.length .nilsl) (H ++ [.cells (rows pC (List.replicate ns.length .nilsl))]) (by omega) (Nat.zero_le _) rfl (by simp) Hx.app (by rw [cellsAt_app0]; rfl) (fun k hk => by omega)
  rw [rows_replicate] at go
  rw [hlen]
  exact go _
end Go.Proofs.Ytcbjmggbbnpbpaa.Lg
namespace Go.Proofs.Ytcbjmggbbnpbpaa.Lg
set_option linter.unusedSimpArgs false
set_option linter.unusedVariables false
set_option maxRecDepth 100000
set_option maxHeartbeats 40000000
open Go.Proofs.Ytcbjmggbbnpbpaa

structure RelA (H : LH) (c : HC) (h : Ht) : Prop where
  doc : c.doc = h.doc
  val : c.val = h.val
  path : At H sgC 3 c.pv h.path
structure HAt (H : LH) (v : V) (cs : List HC) (hs : List Ht) : Prop where
  at_ : At H htC 6 v cs
  len : cs.length = hs.length
  row : ∀ i, i < hs.length → RelA H (cs.getD i hc0) (hs.getD i ht0)
theorem HOwn.hat {f : Nat} {H : LH} {v : V} {cs : List HC} {hs : List Ht} (h : HOwn f H v cs hs) : HAt H v cs hs :=
  ⟨h.own.at htC_len, h.len, fun i hi => ⟨(h.row i hi).doc, (h.row i hi).val, (h.row i hi).path.at sgC_len⟩⟩
theorem HAt.ext {A B : LH} {v : V} {cs : List HC} {hs : List Ht} (h : HAt A v cs hs) (e : Hx A B) : HAt B v cs hs :=
  ⟨h.at_.ext e, h.len, fun i hi => ⟨(h.row i hi).doc, (h.row i hi).val, (h.row i hi).path.ext e⟩⟩
theorem run_eqValue (a b : Val) (fl : Nat) (H : LH) : run 66 [.agg (vaC a), .agg (vaC b)] fl H = some (.bool (decide (a = b)), H) := by
  unfold run vaC
  rw [Run_z Try.func66 rfl (by rfl : ok 66 = true) (by rfl : cfg.keep 66 = [0, 1, 2, 3, 4, 9, 14, 19, 24]) (by rfl : cfg.mode 66 = .pure) (by rfl : cfg.ord 66 = [])]
  simp (config := {contextual := true, maxSteps := 10000000, implicitDefEqProofs := false}) (disch := first | (and_intros <;> omega -splitDisjunctions) | (simp only [List.length_set, List.length_append, List.length_cons, List.length_nil]; and_intros <;> omega -splitDisjunctions) | fail) only [Try.f66, go_sem, ↓reduceIte, Nat.reduceEqDiff, Nat.reduceAdd, Nat.reduceMul, Nat.reduceLT, Nat.reduceLeDiff, reduceCtorEq, Int.reduceNe, Int.reduceEq, Int.reduceLT, Int.reduceLE, Int.reduceAdd, Int.reduceSub, Int.reduceMul, Int.reduceNeg, Int.reduceToNat, UInt8.reduceToNat, natLit, ty3, ty4, ty9, ty72]
  cases a; cases b
  simp only [Val.mk.injEq]
  grind
theorem run_eqHit (a b : HC) (n m : Ht) (fl : Nat) (H : LH) (ha : RelA H a n) (hb : RelA H b m) (h1 : n.path.length ≤ 1099511627776) (h2 : m.path.length ≤ 1099511627776) :
    run 34 [.agg (htC a), .agg (htC b)] fl H = some (.bool (decide (n = m)), H) := by
  have e1 := fun L fl => run_eqSegS a.pv b.pv n.path m.path fl (H ++ L) ha.path.left hb.path.left h1 h2
  have e2 := fun fl H => run_eqValue n.val m.val fl H
  have k1 := ha.doc; have k2 := ha.val
  have j1 := hb.doc; have j2 := hb.val
  have f1 := ha.path.isTup; have f2 := hb.path.isTup
  obtain ⟨ck, cp, cv⟩ := a
  obtain ⟨dk, dp, dv⟩ := b
  obtain ⟨nk, nl, nv⟩ := n
  obtain ⟨mk, ml, mv⟩ := m
  dsimp only [htC] at *
  subst k1; subst k2; subst j1; subst j2
  unfold vaC at e2
  unfold run at *
  rw [Run_z Try.func34 rfl (by rfl : ok 34 = true) (by rfl : cfg.keep 34 = [0, 1, 2, 3, 4, 9, 15, 21]) (by rfl : cfg.mode 34 = .pure) (by rfl : cfg.ord 34 = [])]
  simp (config := {contextual := true, maxSteps := 10000000, implicitDefEqProofs := false}) (disch := first | (and_intros <;> omega -splitDisjunctions) | (simp only [List.length_set, List.length_append, List.length_cons, List.length_nil]; and_intros <;> omega -splitDisjunctions) | fail) only [e1, e2, f1, f2, Try.f34, go_sem, ↓reduceIte, Nat.reduceEqDiff, Nat.reduceAdd, Nat.reduceMul, Nat.reduceLT, Nat.reduceLeDiff, reduceCtorEq, Int.reduceNe, Int.reduceEq, Int.reduceLT, Int.reduceLE, Int.reduceAdd, Int.reduceSub, Int.reduceMul, Int.reduceNeg, Int.reduceToNat, UInt8.reduceToNat, natLit, ty3, ty4, ty9, ty47, ty72, ty74, ty81]
  simp only [Ht.mk.injEq]
  grind
theorem run_eqHitS (v w : V) (cs ds : List HC) (ns ms : List Ht) (fl : Nat) (H : LH) (h : HAt H v cs ns) (h' : HAt H w ds ms) (hx : ns.length ≤ 1099511627776) (hy : ms.length ≤ 1099511627776)
    (kx : ∀ n ∈ ns, n.path.length ≤ 1099511627776) (ky : ∀ n ∈ ms, n.path.length ≤ 1099511627776) :
    run 10 [v, w] fl H = some (.bool (decide (ns = ms)), H) := by
  obtain ⟨hA, hlen, hR⟩ := h
  obtain ⟨hB, hlen', hR'⟩ := h'
  have e1 := fun i (hi : i < cs.length ∧ i < ds.length) fl => run_eqHit (cs.getD i hc0) (ds.getD i hc0) (ns.getD i ht0) (ms.getD i ht0) fl H (hR i (by omega)) (hR' i (by omega)) (by rw [getD_of (by omega)]; exact kx _ (List.getElem_mem _)) (by rw [getD_of (by omega)]; exact ky _ (List.getElem_mem _))
  have f1 := hA.isTup; have f2 := hA.len; have f3 := hA.lenOk ty26
  have f4 := fun (hp : 0 < cs.length) => hA.con hp
  have f5 := hA.idx (T := ty Try.prog) (t := 26) (by simp only [elemI, sizeO, ty3, ty4, ty9, ty26, ty47, ty72, ty74, ty81])
  have f6 := hA.loadD htC_len hc0
  have g1 := hB.isTup; have g2 := hB.len; have g3 := hB.lenOk ty26
  have g4 := fun (hp : 0 < ds.length) => hB.con hp
  have g5 := hB.idx (T := ty Try.prog) (t := 26) (by simp only [elemI, sizeO, ty3, ty4, ty9, ty26, ty47, ty72, ty74, ty81])
  have g6 := hB.loadD htC_len hc0
  unfold run at *
  rw [Run_z Try.func10 rfl (by rfl : ok 10 = true) (by rfl : cfg.keep 10 = [0, 1, 4, 5, 10, 14, 26]) (by rfl : cfg.mode 10 = .pure) (by rfl : cfg.ord 10 = [])]
  simp (config := {contextual := true, maxSteps := 10000000, implicitDefEqProofs := false}) (disch := first | (and_intros <;> omega -splitDisjunctions) | (simp only [List.length_set, List.length_append, List.length_cons, List.length_nil]; and_intros <;> omega -splitDisjunctions) | fail) only [f1, f2, f3, g1, g2, g3, Try.f10, go_sem, ↓reduceIte, Nat.reduceEqDiff, Nat.reduceAdd, Nat.reduceMul, Nat.reduceLT, Nat.reduceLeDiff, reduceCtorEq, Int.reduceNe, Int.reduceEq, Int.reduceLT, Int.reduceLE, Int.reduceAdd, Int.reduceSub, Int.reduceMul, Int.reduceNeg, Int.reduceToNat, UInt8.reduceToNat, natLit, ty3, ty4, ty9, ty26, ty47, ty72, ty74, ty81]
  by_cases hl : cs.length = ds.length
  · have hl' : ((cs.length : Int) = (ds.length : Int)) := by omega
    rw [if_pos hl']
    refine at_loopE fun c0 R hc0 hR => ?_
    have key : ∀ (d i : Nat) (x4 x10 x14 x26 : Option V) (j : Int), ns.length - i ≤ d → i ≤ ns.length → j = i →
        zEv (leaveX (mkR Try.prog cfg ok [0, 1, 4, 5, 10, 14, 26] H.length) .pure H [ResultVar.tmp 4]) (mkR Try.prog cfg ok [0, 1, 4, 5, 10, 14, 26] H.length) (K.code (Code.loop c0) :: K.blk 0 :: R) .nrm [some v, some w, x4, some (.int .i64 j), x10, x14, x26] H = some (.bool (decide (ns.drop i = ms.drop i)), H) := by
      intro d
      induction d with
      | zero =>
        intro i x4 x10 x14 x26 j hd hi hj
        subst hj
        rw [zEv_round hc0, ← hR]
        simp (config := {contextual := true, maxSteps := 10000000, implicitDefEqProofs := false}) (disch := first | (and_intros <;> omega -splitDisjunctions) | (simp only [List.length_set, List.length_append, List.length_cons, List.length_nil]; and_intros <;> omega -splitDisjunctions) | fail) only [e1, f1, f2, f3, f4, f5, f6, g1, g2, g3, g4, g5, g6, Try.f10, go_sem, ↓reduceIte, Nat.reduceEqDiff, Nat.reduceAdd, Nat.reduceMul, Nat.reduceLT, Nat.reduceLeDiff, reduceCtorEq, Int.reduceNe, Int.reduceEq, Int.reduceLT, Int.reduceLE, Int.reduceAdd, Int.reduceSub, Int.reduceMul, Int.reduceNeg, Int.reduceToNat, UInt8.reduceToNat, natLit, ty3, ty4, ty9, ty26, ty47, ty72, ty74, ty81]
        refine ite_E (fun h => by omega) (fun _ => ?_)
        rw [List.drop_of_length_le (by omega), List.drop_of_length_le (by omega)]
        rfl
      | succ d ih =>
        intro i x4 x10 x14 x26 j hd hi hj
        subst hj
        rw [zEv_round hc0, ← hR]
        simp (config := {contextual := true, maxSteps := 10000000, implicitDefEqProofs := false}) (disch := first | (and_intros <;> omega -splitDisjunctions) | (simp only [List.length_set, List.length_append, List.length_cons, List.length_nil]; and_intros <;> omega -splitDisjunctions) | fail) only [e1, f1, f2, f3, f4, f5, f6, g1, g2, g3, g4, g5, g6, Try.f10, go_sem, ↓reduceIte, Nat.reduceEqDiff, Nat.reduceAdd, Nat.reduceMul, Nat.reduceLT, Nat.reduceLeDiff, reduceCtorEq, Int.reduceNe, Int.reduceEq, Int.reduceLT, Int.reduceLE, Int.reduceAdd, Int.reduceSub, Int.reduceMul, Int.reduceNeg, Int.reduceToNat, UInt8.reduceToNat, natLit, ty3, ty4, ty9, ty26, ty47, ty72, ty74, ty81]
        rw [hR]
        refine ite_E (fun hlt => ?_) (fun hge => ?_)
        · have hlt : i < ns.length := by omega
          have hlt' : i < ms.length := by omega
          rw [List.drop_eq_getElem_cons hlt, List.drop_eq_getElem_cons hlt', getD_of hlt, getD_of hlt']
          refine ite_E2 (fun hne => ?_) (fun heq => ?_)
          · rw [decide_eq_false (fun e => hne (List.cons.inj e).1)]
          · refine (ih (i + 1) _ _ _ _ ((i : Int) + 1) (by omega) (by omega) rfl).trans ?_
            simp only [heq, List.cons.injEq, true_and]
        · rw [List.drop_of_length_le (by omega), List.drop_of_length_le (by omega)]
          rfl
    refine (key ns.length 0 _ _ _ _ _ (by omega) (Nat.zero_le _) rfl).trans ?_
    rw [List.drop_zero, List.drop_zero]
  · have hl' : ¬ ((cs.length : Int) = (ds.length : Int)) := by omega
    have h2 : ¬ ns = ms := fun e => hl (by rw [hlen, hlen', e])
    rw [if_neg hl', decide_eq_false h2]
theorem run_eqPattern (a b : V) (n m : List Sg) (fl : Nat) (H : LH) (ha : At H sgC 3 a n) (hb : At H sgC 3 b m) (h1 : n.length ≤ 1099511627776) (h2 : m.length ≤ 1099511627776) :
    run 36 [.agg [a], .agg [b]] fl H = some (.bool (decide (n = m)), H) := by
  have e1 := fun L fl => run_eqSegS a b n m fl (H ++ L) ha.left hb.left h1 h2
  have f1 := ha.isTup; have f2 := hb.isTup
  have f3 := ha.one; have f4 := hb.one
  unfold run at *
  rw [Run_z Try.func36 rfl (by rfl : ok 36 = true) (by rfl : cfg.keep 36 = [0, 1, 2, 3, 4, 10]) (by rfl : cfg.mode 36 = .pure) (by rfl : cfg.ord 36 = [])]
  simp (config := {contextual := true, maxSteps := 10000000, implicitDefEqProofs := false}) (disch := first | (and_intros <;> omega -splitDisjunctions) | (simp only [List.length_set, List.length_append, List.length_cons, List.length_nil]; and_intros <;> omega -splitDisjunctions) | fail) only [e1, f1, f2, f3, f4, Try.f36, go_sem, ↓reduceIte, Nat.reduceEqDiff, Nat.reduceAdd, Nat.reduceMul, Nat.reduceLT, Nat.reduceLeDiff, reduceCtorEq, Int.reduceNe, Int.reduceEq, Int.reduceLT, Int.reduceLE, Int.reduceAdd, Int.reduceSub, Int.reduceMul, Int.reduceNeg, Int.reduceToNat, UInt8.reduceToNat, natLit, ty3, ty4, ty9, ty47, ty49, ty81]
  by_cases h : n = m <;> simp [h]
theorem run_eqPatternS (v w : V) (cs ds : List V) (ns ms : List (List Sg)) (fl : Nat) (H : LH) (h : PAt H v cs ns) (h' : PAt H w ds ms) (hx : ns.length ≤ 1099511627776) (hy : ms.length ≤ 1099511627776)
    :
    run 12 [v, w] fl H = some (.bool (decide (ns = ms)), H) := by
  obtain ⟨hA, hlen, hR, few1, sm1⟩ := h
  obtain ⟨hB, hlen', hR', few2, sm2⟩ := h'
  have e1 := fun i (hi : i < cs.length ∧ i < ds.length) fl => run_eqPattern (cs.getD i .nilsl) (ds.getD i .nilsl) (ns.getD i []) (ms.getD i []) fl H (hR i (by omega)) (hR' i (by omega)) (by have := sm1 i (by omega); omega) (by have := sm2 i (by omega); omega)
  have f1 := hA.isTup; have f2 := hA.len; have f3 := hA.lenOk ty31
  have f4 := fun (hp : 0 < cs.length) => hA.con hp
  have f5 := hA.idx (T := ty Try.prog) (t := 31) (by simp only [elemI, sizeO, ty3, ty9, ty31, ty47, ty49, ty81])
  have f6 := hA.loadD pC_len .nilsl
  simp only [pC, Nat.mul_one] at f6
  have g1 := hB.isTup; have g2 := hB.len; have g3 := hB.lenOk ty31
  have g4 := fun (hp : 0 < ds.length) => hB.con hp
  have g5 := hB.idx (T := ty Try.prog) (t := 31) (by simp only [elemI, sizeO, ty3, ty9, ty31, ty47, ty49, ty81])
  have g6 := hB.loadD pC_len .nilsl
  simp only [pC, Nat.mul_one] at g6
  unfold run at *
  rw [Run_z Try.func12 rfl (by rfl : ok 12 = true) (by rfl : cfg.keep 12 = [0, 1, 4, 5, 10, 14, 26]) (by rfl : cfg.mode 12 = .pure) (by rfl : cfg.ord 12 = [])]
  simp (config := {contextual := true, maxSteps := 10000000, implicitDefEqProofs := false}) (disch := first | (and_intros <;> omega -splitDisjunctions) | (simp only [List.length_set, List.length_append, List.length_cons, List.length_nil]; and_intros <;> omega -splitDisjunctions) | fail) only [f1, f2, f3, g1, g2, g3, Try.f12, go_sem, ↓reduceIte, Nat.reduceEqDiff, Nat.reduceAdd, Nat.reduceMul, Nat.reduceLT, Nat.reduceLeDiff, reduceCtorEq, Int.reduceNe, Int.reduceEq, Int.reduceLT, Int.reduceLE, Int.reduceAdd, Int.reduceSub, Int.reduceMul, Int.reduceNeg, Int.reduceToNat, UInt8.reduceToNat, natLit, ty3, ty4, ty9, ty31, ty47, ty49, ty81]
  by_cases hl : cs.length = ds.length
  · have hl' : ((cs.length : Int) = (ds.length : Int)) := by omega
    rw [if_pos hl']
    refine at_loopE fun c0 R hc0 hR => ?_
    have key : ∀ (d i : Nat) (x4 x10 x14 x26 : Option V) (j : Int), ns.length - i ≤ d → i ≤ ns.length → j = i →
        zEv (leaveX (mkR Try.prog cfg ok [0, 1, 4, 5, 10, 14, 26] H.length) .pure H [ResultVar.tmp 4]) (mkR Try.prog cfg ok [0, 1, 4, 5, 10, 14, 26] H.length) (K.code (Code.loop c0) :: K.blk 0 :: R) .nrm [some v, some w, x4, some (.int .i64 j), x10, x14, x26] H = some (.bool (decide (ns.drop i = ms.drop i)), H) := by
      intro d
      induction d with
      | zero =>
        intro i x4 x10 x14 x26 j hd hi hj
        subst hj
        rw [zEv_round hc0, ← hR]
        simp (config := {contextual := true, maxSteps := 10000000, implicitDefEqProofs := false}) (disch := first | (and_intros <;> omega -splitDisjunctions) | (simp only [List.length_set, List.length_append, List.length_cons, List.length_nil]; and_intros <;> omega -splitDisjunctions) | fail) only [e1, f1, f2, f3, f4, f5, f6, g1, g2, g3, g4, g5, g6, Try.f12, go_sem, ↓reduceIte, Nat.reduceEqDiff, Nat.reduceAdd, Nat.reduceMul, Nat.reduceLT, Nat.reduceLeDiff, reduceCtorEq, Int.reduceNe, Int.reduceEq, Int.reduceLT, Int.reduceLE, Int.reduceAdd, Int.reduceSub, Int.reduceMul, Int.reduceNeg, Int.reduceToNat, UInt8.reduceToNat, natLit, ty3, ty4, ty9, ty31, ty47, ty49, ty81]
        refine ite_E (fun h => by omega) (fun _ => ?_)
        rw [List.drop_of_length_le (by omega), List.drop_of_length_le (by omega)]
        rfl
      | succ d ih =>
        intro i x4 x10 x14 x26 j hd hi hj
        subst hj
        rw [zEv_round hc0, ← hR]
        simp (config := {contextual := true, maxSteps := 10000000, implicitDefEqProofs := false}) (disch := first | (and_intros <;> omega -splitDisjunctions) | (simp only [List.length_set, List.length_append, List.length_cons, List.length_nil]; and_intros <;> omega -splitDisjunctions) | fail) only [e1, f1, f2, f3, f4, f5, f6, g1, g2, g3, g4, g5, g6, Try.f12, go_sem, ↓reduceIte, Nat.reduceEqDiff, Nat.reduceAdd, Nat.reduceMul, Nat.reduceLT, Nat.reduceLeDiff, reduceCtorEq, Int.reduceNe, Int.reduceEq, Int.reduceLT, Int.reduceLE, Int.reduceAdd, Int.reduceSub, Int.reduceMul, Int.reduceNeg, Int.reduceToNat, UInt8.reduceToNat, natLit, ty3, ty4, ty9, ty31, ty47, ty49, ty81]
        rw [hR]
        refine ite_E (fun hlt => ?_) (fun hge => ?_)
        · have hlt : i < ns.length := by omega
          have hlt' : i < ms.length := by omega
          rw [List.drop_eq_getElem_cons hlt, List.drop_eq_getElem_cons hlt', getD_of hlt, getD_of hlt']
          refine ite_E2 (fun hne => ?_) (fun heq => ?_)
          · rw [decide_eq_false (fun e => hne (List.cons.inj e).1)]
          · refine (ih (i + 1) _ _ _ _ ((i : Int) + 1) (by omega) (by omega) rfl).trans ?_
            simp only [heq, List.cons.injEq, true_and]
        · rw [List.drop_of_length_le (by omega), List.drop_of_length_le (by omega)]
          rfl
    refine (key ns.length 0 _ _ _ _ _ (by omega) (Nat.zero_le _) rfl).trans ?_
    rw [List.drop_zero, List.drop_zero]
  · have hl' : ¬ ((cs.length : Int) = (ds.length : Int)) := by omega
    have h2 : ¬ ns = ms := fun e => hl (by rw [hlen, hlen', e])
    rw [if_neg hl', decide_eq_false h2]
end Go.Proofs.Ytcbjmggbbnpbpaa.Lg
namespace Go.Proofs.Ytcbjmggbbnpbpaa.Lg
set_option linter.unusedSimpArgs false
set_option linter.unusedVariables false
set_option maxRecDepth 100000
set_option maxHeartbeats 40000000
open Go.Proofs.Ytcbjmggbbnpbpaa

/-- only blocks from 'lo' on and ahead of 'hi' are written -/
structure Wr (lo hi : Nat) (A B : LH) : Prop where
  len : B.length = A.length
  get : ∀ b, b < lo ∨ hi ≤ b → B[b]? = A[b]?
theorem Wr.refl {lo hi : Nat} (A : LH) : Wr lo hi A A := ⟨rfl, fun _ _ => rfl⟩
theorem Wr.trans {lo hi : Nat} {A B C : LH} (h : Wr lo hi A B) (k : Wr lo hi B C) : Wr lo hi A C := ⟨k.len.trans h.len, fun b hb => (k.get b hb).trans (h.get b hb)⟩
theorem Wr.set {lo hi b : Nat} {A : LH} {x : Blk} (h1 : lo ≤ b) (h2 : b < hi) : Wr lo hi A (A.set b x) := ⟨by simp, fun b' hb => by rw [List.getElem?_set_ne (by omega)]⟩
theorem Wr.cells {lo hi b : Nat} {A B : LH} {l : List V} (h : Wr lo hi A B) (hc : LH.cellsAt A b = some l) (hb : b < lo ∨ hi ≤ b) : LH.cellsAt B b = some l := by
  rw [cells_gx (h.get b hb)]; exact hc
theorem Wr.own {α : Type} {enc : α → List V} {z lo hi f0 : Nat} {A B : LH} {v : V} {xs : List α} (h : Wr lo hi A B) (ho : Own f0 A enc z v xs) (hf : hi ≤ f0) : Own f0 B enc z v xs := by
  rcases ho with h1 | ⟨b, h1, h2, h3⟩
  · exact .inl h1
  · exact .inr ⟨b, h1, h.cells h2 (.inr (by omega)), h3⟩
theorem Wr.hown {lo hi f0 : Nat} {A B : LH} {v : V} {cs : List HC} {hs : List Ht} (h : Wr lo hi A B) (ho : HOwn f0 A v cs hs) (hf : hi ≤ f0) : HOwn f0 B v cs hs :=
  ⟨h.own ho.own hf, ho.len, fun i hi => ⟨(ho.row i hi).doc, (ho.row i hi).val, h.own (ho.row i hi).path hf⟩, ho.apart, ho.low⟩
theorem Wr.hx {lo hi : Nat} {A B H : LH} (h : Wr lo hi A B) (hx : Hx H A) (hl : H.length ≤ lo) : Hx H B := by
  obtain ⟨L, rfl⟩ := hx
  refine ⟨B.drop H.length, ?_⟩
  have : B.take H.length = H := by
    apply List.ext_getElem?
    intro i
    rw [List.getElem?_take]
    by_cases hi : i < H.length
    · rw [if_pos hi, h.get i (.inl (by omega)), List.getElem?_append_left hi]
    · rw [if_neg hi, List.getElem?_eq_none (by omega)]
  conv => lhs; rw [← List.take_append_drop H.length B, this]
theorem Wr.setV {α : Type} {enc : α → List V} {z lo hi f0 : Nat} {A : LH} {v : V} {xs : List α} {l : List V} (ho : Own f0 A enc z v xs) (hf : lo ≤ f0) (hb : ∀ b ∈ sbk v, b < hi) : Wr lo hi A (setV A v l) := by
  rcases ho with ⟨rfl, rfl | rfl⟩ | ⟨b, rfl, h2, h3⟩
  · exact Wr.refl A
  · exact Wr.refl A
  · exact Wr.set (by omega) (hb b (by simp [sbk]))
/-- a row of steps with so many of them -/
def RowN (f : Nat) (H : LH) (v : V) (n : Nat) : Prop := ∃ xs : List Sg, Own f H sgC 3 v xs ∧ xs.length = n
theorem RowN.set {f : Nat} {H : LH} {v u : V} {n m : Nat} {ys zs : List Sg} (h : RowN f H v n) (hu : Own f H sgC 3 u ys) (hl : zs.length = ys.length) : RowN f (setV H u (rows sgC zs)) v n := by
  obtain ⟨xs, h1, h2⟩ := h
  rcases hu with ⟨rfl, rfl | rfl⟩ | ⟨b, rfl, k2, k3⟩
  · exact ⟨xs, h1, h2⟩
  · exact ⟨xs, h1, h2⟩
  · rcases h1 with h1 | ⟨c, rfl, g2, g3⟩
    · exact ⟨xs, .inl h1, h2⟩
    · by_cases e : b = c
      · subst e
        rw [k2] at g2
        have g2 := Option.some.inj g2
        have := congrArg List.length g2
        rw [rows_len sgC_len, rows_len sgC_len] at this
        have hxl : xs.length = zs.length := by omega
        exact ⟨zs, .inr ⟨b, by rw [hxl], cellsAt_set (cellsAt_lt k2), k3⟩, by omega⟩
      · exact ⟨xs, .inr ⟨c, rfl, by show LH.cellsAt (H.set b _) c = _; rw [cellsAt_set_ne e]; exact g2, g3⟩, h2⟩
theorem pC_nosg {f : Nat} {H : LH} {pv : List V} {xs : List Sg} {ys : List Sg} (hp : 0 < pv.length) (h : Own f H sgC 3 (pv.getD 0 .nilsl) ys) (e : rows pC pv = rows sgC xs) : False := by
  cases pv with
  | nil => simp at hp
  | cons v pv =>
    cases xs with
    | nil => simp [rows, pC] at e
    | cons x xs =>
      have e1 := congrArg (fun l => l[0]?) e
      simp [rows, pC, sgC] at e1
      subst e1
      rcases h with ⟨_, h | h⟩ | ⟨b, h, _⟩ <;> cases h
def l3 (p : List Sg) : Int := 3 * p.length
theorem l30 (p : List Sg) : 0 ≤ l3 p := by unfold l3; omega
theorem run_markPatternS {lo : Nat} {A H : LH} {w : V} {pv : List V} {ps : List (List Sg)} (ho : POwn lo A w pv ps) (hx : Hx A H) (fl : Nat) (hf : fl ≤ lo) (k0 : Int) (h0 : 0 ≤ k0) (h1 : k0 + sumZ l3 ps ≤ 1099511627776) (hn : ps.length ≤ 1048576) :
    Ret (fun r C => ∃ k, r = .int .i64 k ∧ 0 ≤ k ∧ Wr lo A.length H C) (run 14 [w, .int .i64 k0] fl H) := by
  have hz := sumZ_nonneg l30 ps
  have hrow := ho.row
  have hlen := ho.len
  have hown := ho.own
  rcases hown with ⟨rfl, hv⟩ | ⟨b, rfl, hb, hb1⟩
  · have goal : run 14 [w, .int .i64 k0] fl H = some (.int .i64 k0, H) := by
      unfold run
      rw [Run_z Try.func14 rfl (by rfl : ok 14 = true) (by rfl : cfg.keep 14 = [0, 1, 4, 5, 9]) (by rfl : cfg.mode 14 = .any) (by rfl : cfg.ord 14 = [])]
      rcases hv with rfl | rfl
      · simp (config := {contextual := true, maxSteps := 10000000, implicitDefEqProofs := false}) (disch := first | (and_intros <;> omega -splitDisjunctions) | (simp only [List.length_set, List.length_append, List.length_cons, List.length_nil]; and_intros <;> omega -splitDisjunctions) | fail) only [Try.f14, go_sem, ↓reduceIte, Nat.reduceEqDiff, Nat.reduceAdd, Nat.reduceMul, Nat.reduceLT, Nat.reduceLeDiff, reduceCtorEq, Int.reduceNe, Int.reduceEq, Int.reduceLT, Int.reduceLE, Int.reduceAdd, Int.reduceSub, Int.reduceMul, Int.reduceNeg, Int.reduceToNat, UInt8.reduceToNat, natLit, ty3, ty9, ty31, ty47, ty49, ty81]
        rw [zEv_loop]
        simp (config := {contextual := true, maxSteps := 10000000, implicitDefEqProofs := false}) (disch := first | (and_intros <;> omega -splitDisjunctions) | (simp only [List.length_set, List.length_append, List.length_cons, List.length_nil]; and_intros <;> omega -splitDisjunctions) | fail) only [Try.f14, go_sem, ↓reduceIte, Nat.reduceEqDiff, Nat.reduceAdd, Nat.reduceMul, Nat.reduceLT, Nat.reduceLeDiff, reduceCtorEq, Int.reduceNe, Int.reduceEq, Int.reduceLT, Int.reduceLE, Int.reduceAdd, Int.reduceSub, Int.reduceMul, Int.reduceNeg, Int.reduceToNat, UInt8.reduceToNat, natLit, ty3, ty9, ty31, ty47, ty49, ty81]
      · simp (config := {contextual := true, maxSteps := 10000000, implicitDefEqProofs := false}) (disch := first | (and_intros <;> omega -splitDisjunctions) | (simp only [List.length_set, List.length_append, List.length_cons, List.length_nil]; and_intros <;> omega -splitDisjunctions) | fail) only [Try.f14, go_sem, ↓reduceIte, Nat.reduceEqDiff, Nat.reduceAdd, Nat.reduceMul, Nat.reduceLT, Nat.reduceLeDiff, reduceCtorEq, Int.reduceNe, Int.reduceEq, Int.reduceLT, Int.reduceLE, Int.reduceAdd, Int.reduceSub, Int.reduceMul, Int.reduceNeg, Int.reduceToNat, UInt8.reduceToNat, natLit, ty3, ty9, ty31, ty47, ty49, ty81]
        rw [zEv_loop]
        simp (config := {contextual := true, maxSteps := 10000000, implicitDefEqProofs := false}) (disch := first | (and_intros <;> omega -splitDisjunctions) | (simp only [List.length_set, List.length_append, List.length_cons, List.length_nil]; and_intros <;> omega -splitDisjunctions) | fail) only [Try.f14, go_sem, ↓reduceIte, Nat.reduceEqDiff, Nat.reduceAdd, Nat.reduceMul, Nat.reduceLT, Nat.reduceLeDiff, reduceCtorEq, Int.reduceNe, Int.reduceEq, Int.reduceLT, Int.reduceLE, Int.reduceAdd, Int.reduceSub, Int.reduceMul, Int.reduceNeg, Int.reduceToNat, UInt8.reduceToNat, natLit, ty3, ty9, ty31, ty47, ty49, ty81]
    exact ⟨_, _, goal, k0, rfl, h0, Wr.refl H⟩
  have hbA := cellsAt_lt hb
  unfold run
  rw [Run_z Try.func14 rfl (by rfl : ok 14 = true) (by rfl : cfg.keep 14 = [0, 1, 4, 5, 9]) (by rfl : cfg.mode 14 = .any) (by rfl : cfg.ord 14 = [])]
  simp (config := {contextual := true, maxSteps := 10000000, implicitDefEqProofs := false}) (disch := first | (and_intros <;> omega -splitDisjunctions) | (simp only [List.length_set, List.length_append, List.length_cons, List.length_nil]; and_intros <;> omega -splitDisjunctions) | fail) only [Try.f14, go_sem, ↓reduceIte, Nat.reduceEqDiff, Nat.reduceAdd, Nat.reduceMul, Nat.reduceLT, Nat.reduceLeDiff, reduceCtorEq, Int.reduceNe, Int.reduceEq, Int.reduceLT, Int.reduceLE, Int.reduceAdd, Int.reduceSub, Int.reduceMul, Int.reduceNeg, Int.reduceToNat, UInt8.reduceToNat, natLit, ty3, ty9, ty31, ty47, ty49, ty81]
  refine at_loopR fun c R hc hR => ?_
  have key : ∀ (m : Nat) (j : Nat) (jj : Int) (k : Int) (B : LH) (x4 x9 : Option V), ps.length - j < m → jj = j → j ≤ ps.length → Wr lo A.length H B → LH.cellsAt B b = some (rows pC pv) → (∀ i, i < ps.length → RowN (lo + 1) B (pv.getD i .nilsl) (ps.getD i []).length) → 0 ≤ k → k + sumZ l3 (ps.drop j) ≤ k0 + sumZ l3 ps →
      Ret (fun r C => ∃ k, r = .int .i64 k ∧ 0 ≤ k ∧ Wr lo A.length H C) (zEv (leaveX (mkR Try.prog cfg ok [0, 1, 4, 5, 9] fl) .any H [ResultVar.tmp 4]) (mkR Try.prog cfg ok [0, 1, 4, 5, 9] fl) (K.code (Code.loop c) :: K.blk 0 :: R) .nrm [some (.sl b 0 1 pv.length pv.length), some (.int .i64 k), x4, some (.int .i64 jj), x9] (B)) := by
    intro m
    induction m with
    | zero => intro j jj k B x4 x9 hm; omega
    | succ m ih =>
      intro j jj k B x4 x9 hm hj hle hw hc2 hr hk0 hkb
      subst hj
      by_cases hlt : j < ps.length
      rotate_left
      · have t1 : ((j : Int) < pv.length) = False := eq_false (by omega)
        rw [zEv_round hc, ← hR]
        simp (config := {contextual := true, maxSteps := 10000000, implicitDefEqProofs := false}) (disch := first | (and_intros <;> omega -splitDisjunctions) | (simp only [List.length_set, List.length_append, List.length_cons, List.length_nil]; and_intros <;> omega -splitDisjunctions) | fail) only [t1, Try.f14, go_sem, ↓reduceIte, Nat.reduceEqDiff, Nat.reduceAdd, Nat.reduceMul, Nat.reduceLT, Nat.reduceLeDiff, reduceCtorEq, Int.reduceNe, Int.reduceEq, Int.reduceLT, Int.reduceLE, Int.reduceAdd, Int.reduceSub, Int.reduceMul, Int.reduceNeg, Int.reduceToNat, UInt8.reduceToNat, natLit, ty3, ty9, ty31, ty47, ty49, ty81]
        exact ⟨k, rfl, hk0, hw⟩
      have t1 : ((j : Int) < pv.length) = True := eq_true (by omega)
      have hs2 := sumZ_nonneg l30 (ps.drop (j + 1))
      rw [List.drop_eq_getElem_cons hlt, sumZ_cons, ← getD_of hlt []] at hkb
      obtain ⟨xs, x1, x2⟩ := hr j hlt
      have hl3 : l3 (ps.getD j []) = 3 * xs.length := by unfold l3; rw [x2]
      have e2 := run_markSegO (pv.getD j .nilsl) xs k fl B x1 (by omega) hk0 (by omega) (by omega)
      have hAt : At B pC 1 (.sl b 0 1 pv.length pv.length) pv := Own.at (fl := lo) (.inr ⟨b, rfl, hc2, hb1⟩) pC_len
      have f6 := fun n K => hAt.load1 .nilsl (fun x => x) (fun _ => rfl) j (by omega) n K
      have f4 := hAt.con (by omega)
      have f5 := hAt.idx (T := ty Try.prog) (t := 31) (by simp only [elemI, sizeO, ty3, ty9, ty31, ty47, ty49, ty81]) .i64 j (by omega) (by omega)
      simp only [blkV, offV, Nat.zero_add, Nat.mul_one, Int.toNat_natCast] at f4 f5 f6
      have u1 := (x1.at sgC_len).isTup; have u2 := (x1.at sgC_len).one
      have hsb : ∀ c ∈ sbk (pv.getD j .nilsl), c < A.length := fun c hc => by
        have := (hrow j hlt).sbk c hc
        exact this.2
      unfold run at e2
      rw [zEv_round hc]
      simp (config := {contextual := true, maxSteps := 10000000, implicitDefEqProofs := false}) (disch := first | (and_intros <;> omega -splitDisjunctions) | (simp only [List.length_set, List.length_append, List.length_cons, List.length_nil]; and_intros <;> omega -splitDisjunctions) | fail) only [t1, e2, f4, f5, f6, u1, u2, Try.f14, go_sem, ↓reduceIte, Nat.reduceEqDiff, Nat.reduceAdd, Nat.reduceMul, Nat.reduceLT, Nat.reduceLeDiff, reduceCtorEq, Int.reduceNe, Int.reduceEq, Int.reduceLT, Int.reduceLE, Int.reduceAdd, Int.reduceSub, Int.reduceMul, Int.reduceNeg, Int.reduceToNat, UInt8.reduceToNat, natLit, ty3, ty9, ty31, ty47, ty49, ty81]
      refine ih (j + 1) ((j : Int) + 1) _ _ _ _ (by omega) (by omega) (by omega) (hw.trans (Wr.setV x1 (by omega) hsb)) ?_ (fun i hi => (hr i hi).set (m := 0) x1 (by rw [marksF_len])) (by omega) (by omega)
      rcases x1 with ⟨_, h | h⟩ | ⟨c, h, g2, g3⟩
      · rw [h]; exact hc2
      · rw [h]; exact hc2
      · rw [h]
        have hne : c ≠ b := by
          intro e
          subst e
          rw [hc2] at g2
          exact pC_nosg (by omega) (hrow 0 (by omega)) (Option.some.inj g2)
        show LH.cellsAt (B.set c _) b = _
        rw [cellsAt_set_ne hne]; exact hc2
  exact key (ps.length + 1) 0 0 k0 H _ _ (by omega) rfl (Nat.zero_le _) (Wr.refl H) (hx.cells hb) (fun i hi => ⟨_, (hrow i hi).ext hx, rfl⟩) h0 (by rw [List.drop_zero]; omega)
end Go.Proofs.Ytcbjmggbbnpbpaa.Lg
