/- BlockLines, as the program has it twice. No condition. -/
import Derived.Test.YtcbjmggbbnpbpaaDoorCBl2
namespace Go.Proofs.YtcbjmggbbnpbpaaDoor.Lg
set_option linter.unusedSimpArgs false
set_option linter.unusedVariables false
set_option maxRecDepth 100000
set_option maxHeartbeats 40000000
open Go.Proofs.YtcbjmggbbnpbpaaDoor


def blkW (es : List Ev) (i col : Int) : ByteArray := if cwM es = true ∧ 0 ≤ i ∧ i < es.length ∧ 0 ≤ col ∧ col ≤ 1000 ∧ isN (evA es i.toNat) then blkT es es.length i.toNat col.toNat else ⟨#[]⟩
theorem blkT_leaf {es : List Ev} {d i col : Nat} (hi : i < es.length) (h : ¬ isC (evA es i)) : blkT es (d + 1) i col = ⟨#[32]⟩ ++ leafT (evA es i) ++ ⟨#[10]⟩ := by
  unfold blkT
  obtain ⟨en, hen⟩ : ∃ en, es.length = en + 1 := ⟨es.length - 1, by omega⟩
  rw [if_pos (by rw [kidsF_A es i hi, if_neg h]), hen, flowT_leaf h]
theorem run_spBlockLines {v : V} {es : List Ev} {H : LH} (h : At H evC 8 v es) (hes : ∀ e ∈ es, evCFit e) (hl : es.length ≤ 1048576) (hsh : ∀ e ∈ es, Short e) (i col : Int) (fl : Nat) :
    run 21 [v, .int .i64 i, .int .i64 col] fl H = some (.str (blkW es i col), H) := by
  have ht : ∀ e ∈ es, e.text.size ≤ 16777216 := fun e he => by have := hsh e he; unfold Short at this; omega
  have n2 := fun fl => run_spCanWrite h hes hl ht fl
  have f1 := h.isTup; have f2 := h.len; have f3 := h.lenOk ty39; have f0 := h.one
  have f4 := fun hp => h.con hp
  have f5 := h.idx (T := ty Tryd.prog) (t := 39) (by simp only [elemI, sizeO, ty3, ty4, ty9, ty39, ty65])
  have f6 := h.loadD evC_len evZ
  obtain ⟨Z, hZ⟩ : ∃ Z, blkW es i col = Z := ⟨_, rfl⟩
  rw [hZ]
  unfold blkW at hZ
  by_cases hn : cwM es = true
  rotate_left
  · rw [if_neg (fun h => hn h.1)] at hZ
    have hn : cwM es = false := by simpa using hn
    rw [hn] at n2
    unfold run at *
    rw [Run_z Tryd.func21 rfl (by rfl : ok 21 = true) (by rfl : cfg.keep 21 = [0, 1, 2, 6, 27, 33, 39]) (by rfl : cfg.mode 21 = .pure) (by rfl : cfg.ord 21 = [])]
    simp (config := {contextual := true, maxSteps := 10000000, implicitDefEqProofs := false}) (disch := first | (and_intros <;> omega -splitDisjunctions) | (simp only [List.length_set, List.length_append, List.length_cons, List.length_nil]; and_intros <;> omega -splitDisjunctions) | fail) only [n2, f0, f1, f2, f3, f4, f5, f6, Tryd.f21, go_sem, ↓reduceIte, Nat.reduceEqDiff, Nat.reduceAdd, Nat.reduceMul, Nat.reduceLT, Nat.reduceLeDiff, reduceCtorEq, Int.reduceNe, Int.reduceEq, Int.reduceLT, Int.reduceLE, Int.reduceAdd, Int.reduceSub, Int.reduceMul, Int.reduceNeg, Int.reduceToNat, UInt8.reduceToNat, natLit, ty3, ty4, ty9, ty39, ty65]
    rw [← hZ]
  have hcw := hn
  rw [hn] at n2
  by_cases c1 : i < 0
  · rw [if_neg (by omega)] at hZ
    have t1 : (i < 0) = True := eq_true c1
    unfold run at *
    rw [Run_z Tryd.func21 rfl (by rfl : ok 21 = true) (by rfl : cfg.keep 21 = [0, 1, 2, 6, 27, 33, 39]) (by rfl : cfg.mode 21 = .pure) (by rfl : cfg.ord 21 = [])]
    simp (config := {contextual := true, maxSteps := 10000000, implicitDefEqProofs := false}) (disch := first | (and_intros <;> omega -splitDisjunctions) | (simp only [List.length_set, List.length_append, List.length_cons, List.length_nil]; and_intros <;> omega -splitDisjunctions) | fail) only [n2, t1, f0, f1, f2, f3, f4, f5, f6, Tryd.f21, go_sem, ↓reduceIte, Nat.reduceEqDiff, Nat.reduceAdd, Nat.reduceMul, Nat.reduceLT, Nat.reduceLeDiff, reduceCtorEq, Int.reduceNe, Int.reduceEq, Int.reduceLT, Int.reduceLE, Int.reduceAdd, Int.reduceSub, Int.reduceMul, Int.reduceNeg, Int.reduceToNat, UInt8.reduceToNat, natLit, ty3, ty4, ty9, ty39, ty65]
    rw [← hZ]
  have t1 : (i < 0) = False := eq_false c1
  by_cases c2 : i ≥ (es.length : Int)
  · rw [if_neg (by omega)] at hZ
    have t2 : (i ≥ (es.length : Int)) = True := eq_true c2
    unfold run at *
    rw [Run_z Tryd.func21 rfl (by rfl : ok 21 = true) (by rfl : cfg.keep 21 = [0, 1, 2, 6, 27, 33, 39]) (by rfl : cfg.mode 21 = .pure) (by rfl : cfg.ord 21 = [])]
    simp (config := {contextual := true, maxSteps := 10000000, implicitDefEqProofs := false}) (disch := first | (and_intros <;> omega -splitDisjunctions) | (simp only [List.length_set, List.length_append, List.length_cons, List.length_nil]; and_intros <;> omega -splitDisjunctions) | fail) only [n2, t1, t2, f0, f1, f2, f3, f4, f5, f6, Tryd.f21, go_sem, ↓reduceIte, Nat.reduceEqDiff, Nat.reduceAdd, Nat.reduceMul, Nat.reduceLT, Nat.reduceLeDiff, reduceCtorEq, Int.reduceNe, Int.reduceEq, Int.reduceLT, Int.reduceLE, Int.reduceAdd, Int.reduceSub, Int.reduceMul, Int.reduceNeg, Int.reduceToNat, UInt8.reduceToNat, natLit, ty3, ty4, ty9, ty39, ty65]
    rw [← hZ]
  have t2 : (i ≥ (es.length : Int)) = False := eq_false c2
  by_cases c3 : col < 0
  · rw [if_neg (by omega)] at hZ
    have t3 : (col < 0) = True := eq_true c3
    unfold run at *
    rw [Run_z Tryd.func21 rfl (by rfl : ok 21 = true) (by rfl : cfg.keep 21 = [0, 1, 2, 6, 27, 33, 39]) (by rfl : cfg.mode 21 = .pure) (by rfl : cfg.ord 21 = [])]
    simp (config := {contextual := true, maxSteps := 10000000, implicitDefEqProofs := false}) (disch := first | (and_intros <;> omega -splitDisjunctions) | (simp only [List.length_set, List.length_append, List.length_cons, List.length_nil]; and_intros <;> omega -splitDisjunctions) | fail) only [n2, t1, t2, t3, f0, f1, f2, f3, f4, f5, f6, Tryd.f21, go_sem, ↓reduceIte, Nat.reduceEqDiff, Nat.reduceAdd, Nat.reduceMul, Nat.reduceLT, Nat.reduceLeDiff, reduceCtorEq, Int.reduceNe, Int.reduceEq, Int.reduceLT, Int.reduceLE, Int.reduceAdd, Int.reduceSub, Int.reduceMul, Int.reduceNeg, Int.reduceToNat, UInt8.reduceToNat, natLit, ty3, ty4, ty9, ty39, ty65]
    rw [← hZ]
  have t3 : (col < 0) = False := eq_false c3
  by_cases c4 : col > 1000
  · rw [if_neg (by omega)] at hZ
    have t4 : (col > 1000) = True := eq_true c4
    unfold run at *
    rw [Run_z Tryd.func21 rfl (by rfl : ok 21 = true) (by rfl : cfg.keep 21 = [0, 1, 2, 6, 27, 33, 39]) (by rfl : cfg.mode 21 = .pure) (by rfl : cfg.ord 21 = [])]
    simp (config := {contextual := true, maxSteps := 10000000, implicitDefEqProofs := false}) (disch := first | (and_intros <;> omega -splitDisjunctions) | (simp only [List.length_set, List.length_append, List.length_cons, List.length_nil]; and_intros <;> omega -splitDisjunctions) | fail) only [n2, t1, t2, t3, t4, f0, f1, f2, f3, f4, f5, f6, Tryd.f21, go_sem, ↓reduceIte, Nat.reduceEqDiff, Nat.reduceAdd, Nat.reduceMul, Nat.reduceLT, Nat.reduceLeDiff, reduceCtorEq, Int.reduceNe, Int.reduceEq, Int.reduceLT, Int.reduceLE, Int.reduceAdd, Int.reduceSub, Int.reduceMul, Int.reduceNeg, Int.reduceToNat, UInt8.reduceToNat, natLit, ty3, ty4, ty9, ty39, ty65]
    rw [← hZ]
  have t4 : (col > 1000) = False := eq_false c4
  obtain ⟨k, rfl⟩ : ∃ k : Nat, i = k := ⟨i.toNat, by omega⟩
  obtain ⟨q, rfl⟩ : ∃ q : Nat, col = q := ⟨col.toNat, by omega⟩
  have hk : k < es.length := by omega
  have g6 := f6 k hk
  have f4 := f4 (by omega)
  simp only [Int.toNat_natCast] at hZ
  have hse := hsh _ (show es.getD k evZ ∈ es by rw [getD_of hk]; exact List.getElem_mem _)
  have n3 := fun fl H => run_l13Node (es.getD k evZ) fl H
  have n4 := fun fl H => run_l13Coll (es.getD k evZ) fl H
  have n5 := fun fl H => run_l20Leaf (es.getD k evZ) fl H hse
  have hcost := hse.cost
  by_cases hN : isN (evA es k)
  rotate_left
  · rw [if_neg (fun h => hN h.2.2.2.2.2)] at hZ
    rw [decide_eq_false (show ¬ isN (es.getD k evZ) from hN)] at n3
    unfold run at *
    rw [Run_z Tryd.func21 rfl (by rfl : ok 21 = true) (by rfl : cfg.keep 21 = [0, 1, 2, 6, 27, 33, 39]) (by rfl : cfg.mode 21 = .pure) (by rfl : cfg.ord 21 = [])]
    simp (config := {contextual := true, maxSteps := 10000000, implicitDefEqProofs := false}) (disch := first | (and_intros <;> omega -splitDisjunctions) | (simp only [List.length_set, List.length_append, List.length_cons, List.length_nil]; and_intros <;> omega -splitDisjunctions) | fail) only [n2, t1, t2, t3, t4, n3, g6, f0, f1, f2, f3, f4, f5, f6, Tryd.f21, go_sem, ↓reduceIte, Nat.reduceEqDiff, Nat.reduceAdd, Nat.reduceMul, Nat.reduceLT, Nat.reduceLeDiff, reduceCtorEq, Int.reduceNe, Int.reduceEq, Int.reduceLT, Int.reduceLE, Int.reduceAdd, Int.reduceSub, Int.reduceMul, Int.reduceNeg, Int.reduceToNat, UInt8.reduceToNat, natLit, ty3, ty4, ty9, ty39, ty65]
    rw [← hZ]
  rw [if_pos ⟨hcw, by omega, by omega, by omega, by omega, hN⟩] at hZ
  rw [decide_eq_true (show isN (es.getD k evZ) from hN)] at n3
  by_cases hC : isC (evA es k)
  rotate_left
  · obtain ⟨en, hen⟩ : ∃ en, es.length = en + 1 := ⟨es.length - 1, by omega⟩
    rw [hen, blkT_leaf hk hC] at hZ
    have hZ : ⟨#[32]⟩ ++ leafT (es.getD k evZ) ++ ⟨#[10]⟩ = Z := hZ
    rw [decide_eq_false (show ¬ isC (es.getD k evZ) from hC)] at n4
    generalize leafT (es.getD k evZ) = T at *
    unfold run at *
    rw [Run_z Tryd.func21 rfl (by rfl : ok 21 = true) (by rfl : cfg.keep 21 = [0, 1, 2, 6, 27, 33, 39]) (by rfl : cfg.mode 21 = .pure) (by rfl : cfg.ord 21 = [])]
    simp (config := {contextual := true, maxSteps := 10000000, implicitDefEqProofs := false}) (disch := first | (and_intros <;> omega -splitDisjunctions) | (simp only [List.length_set, List.length_append, List.length_cons, List.length_nil]; and_intros <;> omega -splitDisjunctions) | fail) only [n2, t1, t2, t3, t4, n3, n4, n5, g6, f0, f1, f2, f3, f4, f5, f6, Tryd.f21, go_sem, ↓reduceIte, Nat.reduceEqDiff, Nat.reduceAdd, Nat.reduceMul, Nat.reduceLT, Nat.reduceLeDiff, reduceCtorEq, Int.reduceNe, Int.reduceEq, Int.reduceLT, Int.reduceLE, Int.reduceAdd, Int.reduceSub, Int.reduceMul, Int.reduceNeg, Int.reduceToNat, UInt8.reduceToNat, natLit, ty3, ty4, ty9, ty39, ty65]
    rw [← hZ]
  rw [decide_eq_true (show isC (es.getD k evZ) from hC)] at n4
  have n6 := fun fl => run_l21Lines hcw hsh hl es.length k q v H fl h hk (by omega) hN (by omega)
  rw [hZ] at n6
  unfold run at *
  rw [Run_z Tryd.func21 rfl (by rfl : ok 21 = true) (by rfl : cfg.keep 21 = [0, 1, 2, 6, 27, 33, 39]) (by rfl : cfg.mode 21 = .pure) (by rfl : cfg.ord 21 = [])]
  simp (config := {contextual := true, maxSteps := 10000000, implicitDefEqProofs := false}) (disch := first | (and_intros <;> omega -splitDisjunctions) | (simp only [List.length_set, List.length_append, List.length_cons, List.length_nil]; and_intros <;> omega -splitDisjunctions) | fail) only [n2, t1, t2, t3, t4, n3, n4, n6, g6, f0, f1, f2, f3, f4, f5, f6, Tryd.f21, go_sem, ↓reduceIte, Nat.reduceEqDiff, Nat.reduceAdd, Nat.reduceMul, Nat.reduceLT, Nat.reduceLeDiff, reduceCtorEq, Int.reduceNe, Int.reduceEq, Int.reduceLT, Int.reduceLE, Int.reduceAdd, Int.reduceSub, Int.reduceMul, Int.reduceNeg, Int.reduceToNat, UInt8.reduceToNat, natLit, ty3, ty4, ty9, ty39, ty65]
theorem run_imBlockLines {v : V} {es : List Ev} {H : LH} (h : At H evC 8 v es) (hes : ∀ e ∈ es, evCFit e) (hl : es.length ≤ 1048576) (hcap : capOk v) (hsh : ∀ e ∈ es, Short e) (i col : Int) (fl : Nat) :
    run 22 [v, .int .i64 i, .int .i64 col] fl H = some (.str (blkW es i col), H) := by
  have ht : ∀ e ∈ es, e.text.size ≤ 16777216 := fun e he => by have := hsh e he; unfold Short at this; omega
  have n2 := fun fl => run_imCanWrite h hes hl hcap ht fl
  have f1 := h.isTup; have f2 := h.len; have f3 := h.lenOk ty39; have f0 := h.one
  have f4 := fun hp => h.con hp
  have f5 := h.idx (T := ty Tryd.prog) (t := 39) (by simp only [elemI, sizeO, ty3, ty4, ty9, ty39, ty65])
  have f6 := h.loadD evC_len evZ
  have e1 := fun x lo hi fl H => run_within x lo hi fl H
  obtain ⟨Z, hZ⟩ : ∃ Z, blkW es i col = Z := ⟨_, rfl⟩
  rw [hZ]
  unfold blkW at hZ
  by_cases hn : cwM es = true
  rotate_left
  · rw [if_neg (fun h => hn h.1)] at hZ
    have hn : cwM es = false := by simpa using hn
    rw [hn] at n2
    unfold run at *
    rw [Run_z Tryd.func22 rfl (by rfl : ok 22 = true) (by rfl : cfg.keep 22 = [0, 1, 2, 6, 30]) (by rfl : cfg.mode 22 = .pure) (by rfl : cfg.ord 22 = [])]
    simp (config := {contextual := true, maxSteps := 10000000, implicitDefEqProofs := false}) (disch := first | (and_intros <;> omega -splitDisjunctions) | (simp only [List.length_set, List.length_append, List.length_cons, List.length_nil]; and_intros <;> omega -splitDisjunctions) | fail) only [n2, f0, f1, f2, f3, f4, f5, f6, Tryd.f22, go_sem, ↓reduceIte, Nat.reduceEqDiff, Nat.reduceAdd, Nat.reduceMul, Nat.reduceLT, Nat.reduceLeDiff, reduceCtorEq, Int.reduceNe, Int.reduceEq, Int.reduceLT, Int.reduceLE, Int.reduceAdd, Int.reduceSub, Int.reduceMul, Int.reduceNeg, Int.reduceToNat, UInt8.reduceToNat, natLit, ty3, ty4, ty9, ty39, ty65]
    rw [← hZ]
  have hcw := hn
  rw [hn] at n2
  by_cases c1 : 0 ≤ i ∧ i ≤ (es.length : Int) - 1
  rotate_left
  · rw [if_neg (by omega)] at hZ
    have t1 : decide (0 ≤ i ∧ i ≤ (es.length : Int) - 1) = false := decide_eq_false c1
    have e2 := fun fl H => (show run 61 [.int .i64 i, .int .i64 0, .int .i64 ((es.length : Int) - 1)] fl H = some (.bool false, H) from by rw [e1 i 0 ((es.length : Int) - 1), t1])
    unfold run at *
    rw [Run_z Tryd.func22 rfl (by rfl : ok 22 = true) (by rfl : cfg.keep 22 = [0, 1, 2, 6, 30]) (by rfl : cfg.mode 22 = .pure) (by rfl : cfg.ord 22 = [])]
    simp (config := {contextual := true, maxSteps := 10000000, implicitDefEqProofs := false}) (disch := first | (and_intros <;> omega -splitDisjunctions) | (simp only [List.length_set, List.length_append, List.length_cons, List.length_nil]; and_intros <;> omega -splitDisjunctions) | fail) only [n2, e2, f0, f1, f2, f3, f4, f5, f6, Tryd.f22, go_sem, ↓reduceIte, Nat.reduceEqDiff, Nat.reduceAdd, Nat.reduceMul, Nat.reduceLT, Nat.reduceLeDiff, reduceCtorEq, Int.reduceNe, Int.reduceEq, Int.reduceLT, Int.reduceLE, Int.reduceAdd, Int.reduceSub, Int.reduceMul, Int.reduceNeg, Int.reduceToNat, UInt8.reduceToNat, natLit, ty3, ty4, ty9, ty39, ty65]
    rw [← hZ]
  obtain ⟨k, rfl⟩ : ∃ k : Nat, i = k := ⟨i.toNat, by omega⟩
  have hk : k < es.length := by omega
  have e2 := fun fl H => (show run 61 [.int .i64 (k : Int), .int .i64 0, .int .i64 ((es.length : Int) - 1)] fl H = some (.bool true, H) from by rw [e1 (k : Int) 0 ((es.length : Int) - 1), decide_eq_true c1])
  have g6 := f6 k hk
  have f4 := f4 (by omega)
  simp only [Int.toNat_natCast] at hZ
  have n3 := fun fl H => run_isNode (es.getD k evZ) fl H
  by_cases hN : isN (evA es k)
  rotate_left
  · rw [if_neg (fun h => hN h.2.2.2.2.2)] at hZ
    rw [decide_eq_false (show ¬ isN (es.getD k evZ) from hN)] at n3
    unfold run at *
    rw [Run_z Tryd.func22 rfl (by rfl : ok 22 = true) (by rfl : cfg.keep 22 = [0, 1, 2, 6, 30]) (by rfl : cfg.mode 22 = .pure) (by rfl : cfg.ord 22 = [])]
    simp (config := {contextual := true, maxSteps := 10000000, implicitDefEqProofs := false}) (disch := first | (and_intros <;> omega -splitDisjunctions) | (simp only [List.length_set, List.length_append, List.length_cons, List.length_nil]; and_intros <;> omega -splitDisjunctions) | fail) only [n2, e2, n3, g6, f0, f1, f2, f3, f4, f5, f6, Tryd.f22, go_sem, ↓reduceIte, Nat.reduceEqDiff, Nat.reduceAdd, Nat.reduceMul, Nat.reduceLT, Nat.reduceLeDiff, reduceCtorEq, Int.reduceNe, Int.reduceEq, Int.reduceLT, Int.reduceLE, Int.reduceAdd, Int.reduceSub, Int.reduceMul, Int.reduceNeg, Int.reduceToNat, UInt8.reduceToNat, natLit, ty3, ty4, ty9, ty39, ty65]
    rw [← hZ]
  rw [decide_eq_true (show isN (es.getD k evZ) from hN)] at n3
  by_cases c3 : 0 ≤ col ∧ col ≤ 1000
  rotate_left
  · rw [if_neg (by omega)] at hZ
    have t3 : decide (0 ≤ col ∧ col ≤ 1000) = false := decide_eq_false c3
    have e3 := fun fl H => (show run 61 [.int .i64 col, .int .i64 0, .int .i64 1000] fl H = some (.bool false, H) from by rw [e1 col 0 1000, t3])
    unfold run at *
    rw [Run_z Tryd.func22 rfl (by rfl : ok 22 = true) (by rfl : cfg.keep 22 = [0, 1, 2, 6, 30]) (by rfl : cfg.mode 22 = .pure) (by rfl : cfg.ord 22 = [])]
    simp (config := {contextual := true, maxSteps := 10000000, implicitDefEqProofs := false}) (disch := first | (and_intros <;> omega -splitDisjunctions) | (simp only [List.length_set, List.length_append, List.length_cons, List.length_nil]; and_intros <;> omega -splitDisjunctions) | fail) only [n2, e2, e3, n3, g6, f0, f1, f2, f3, f4, f5, f6, Tryd.f22, go_sem, ↓reduceIte, Nat.reduceEqDiff, Nat.reduceAdd, Nat.reduceMul, Nat.reduceLT, Nat.reduceLeDiff, reduceCtorEq, Int.reduceNe, Int.reduceEq, Int.reduceLT, Int.reduceLE, Int.reduceAdd, Int.reduceSub, Int.reduceMul, Int.reduceNeg, Int.reduceToNat, UInt8.reduceToNat, natLit, ty3, ty4, ty9, ty39, ty65]
    rw [← hZ]
  obtain ⟨q, rfl⟩ : ∃ q : Nat, col = q := ⟨col.toNat, by omega⟩
  have e3 := fun fl H => (show run 61 [.int .i64 (q : Int), .int .i64 0, .int .i64 1000] fl H = some (.bool true, H) from by rw [e1 (q : Int) 0 1000, decide_eq_true c3])
  rw [if_pos ⟨hcw, by omega, by omega, by omega, by omega, hN⟩] at hZ
  simp only [Int.toNat_natCast] at hZ
  obtain ⟨w, G, e5, hxG, ve, vu, vd, rfl, hE, hU, hD⟩ := run_nestOf h hl (nestedM_bal (whole_nested (cw_whole hcw))) H.length
  have hN2 : NsAt G v ve vu vd es := ⟨h.ext hxG, hE.at (fun x => rfl), hU.at (fun x => rfl), hD.at (fun x => rfl)⟩
  have n6 := fun fl => run_blockLines hcw hsh hl es.length k q v ve vu vd G fl hN2 hk (by omega) hN (by omega)
  rw [hZ] at n6
  unfold run at *
  rw [Run_z Tryd.func22 rfl (by rfl : ok 22 = true) (by rfl : cfg.keep 22 = [0, 1, 2, 6, 30]) (by rfl : cfg.mode 22 = .pure) (by rfl : cfg.ord 22 = [])]
  simp (config := {contextual := true, maxSteps := 10000000, implicitDefEqProofs := false}) (disch := first | (and_intros <;> omega -splitDisjunctions) | (simp only [List.length_set, List.length_append, List.length_cons, List.length_nil]; and_intros <;> omega -splitDisjunctions) | fail) only [n2, e2, e3, e5, n3, n6, g6, f0, f1, f2, f3, f4, f5, f6, Tryd.f22, go_sem, ↓reduceIte, Nat.reduceEqDiff, Nat.reduceAdd, Nat.reduceMul, Nat.reduceLT, Nat.reduceLeDiff, reduceCtorEq, Int.reduceNe, Int.reduceEq, Int.reduceLT, Int.reduceLE, Int.reduceAdd, Int.reduceSub, Int.reduceMul, Int.reduceNeg, Int.reduceToNat, UInt8.reduceToNat, natLit, ty3, ty4, ty9, ty39, ty65]
end Go.Proofs.YtcbjmggbbnpbpaaDoor.Lg
