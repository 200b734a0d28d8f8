/- Nested: the nester's methods. No condition. -/
import Derived.Test.YtcbjmggbbnpbpaaDoorCEvText
import Derived.Test.YtcbjmggbbnpbpaaDoorLgE
namespace Go.Proofs.YtcbjmggbbnpbpaaDoor.Lg
set_option linter.unusedSimpArgs false
set_option linter.unusedVariables false
set_option maxRecDepth 100000
set_option maxHeartbeats 40000000
open Go.Proofs.YtcbjmggbbnpbpaaDoor

/-- blocks ahead of 'f' stand as they stood, but for those of 'E' -/
structure Fr (f : Nat) (E : List Nat) (A B : LH) : Prop where
  len : A.length ≤ B.length
  get : ∀ b, b < f → b ∉ E → B[b]? = A[b]?
theorem Fr.refl {f : Nat} {E : List Nat} (A : LH) : Fr f E A A := ⟨Nat.le_refl _, fun _ _ _ => rfl⟩
theorem Fr.trans {f : Nat} {E : List Nat} {A B C : LH} (h : Fr f E A B) (k : Fr f E B C) : Fr f E A C := ⟨Nat.le_trans h.len k.len, fun b h1 h2 => (k.get b h1 h2).trans (h.get b h1 h2)⟩
theorem Fr.down {f f' : Nat} {E : List Nat} {A B : LH} (h : Fr f E A B) (hf : f' ≤ f) : Fr f' E A B := ⟨h.len, fun b h1 h2 => h.get b (by omega) h2⟩
theorem Fr.app {f : Nat} {E : List Nat} {A L : LH} (hf : f ≤ A.length) : Fr f E A (A ++ L) := ⟨by simp, fun b h1 _ => List.getElem?_append_left (by omega)⟩
theorem Fr.set {f b : Nat} {E : List Nat} {A : LH} {x : Blk} (hb : b ∈ E ∨ f ≤ b) : Fr f E A (A.set b x) := ⟨by simp, fun c h1 h2 => by
  rw [List.getElem?_set_ne]
  rcases hb with hb | hb
  · intro e; subst e; exact h2 hb
  · omega⟩
theorem cells_get {A B : LH} {b : Nat} (h : B[b]? = A[b]?) : LH.cellsAt B b = LH.cellsAt A b := by
  unfold LH.cellsAt
  rw [h]
theorem Fr.cells {f b : Nat} {E : List Nat} {A B : LH} {l : List V} (h : Fr f E A B) (hc : LH.cellsAt A b = some l) (h1 : b < f) (h2 : b ∉ E) : LH.cellsAt B b = some l := by
  rw [cells_get (h.get b h1 h2)]; exact hc
theorem Fr.hx {f : Nat} {E : List Nat} {A B G : LH} (h : Fr f E A B) (hx : Hx G A) (hl : G.length ≤ f) (hE : ∀ b ∈ E, G.length ≤ b) : Hx G B := by
  obtain ⟨L, rfl⟩ := hx
  refine ⟨B.drop G.length, ?_⟩
  have hlen := h.len
  rw [List.length_append] at hlen
  have : B.take G.length = G := by
    apply List.ext_getElem?
    intro i
    rw [List.getElem?_take]
    by_cases hi : i < G.length
    · rw [if_pos hi, h.get i (by omega) (fun hm => by have := hE i hm; omega), List.getElem?_append_left hi]
    · rw [if_neg hi, List.getElem?_eq_none (by omega)]
  conv => lhs; rw [← List.take_append_drop G.length B, this]

/-- what is open: kinds and counts, the innermost last -/
structure NS where
  doc : Int
  st : List (Int × Int)
def NS.top (s : NS) : Int × Int := s.st.getD (s.st.length - 1) (0, 0)
def nodeN (s : NS) : Option NS := if s.st = [] then (if s.doc = 1 then some ⟨2, []⟩ else none) else some ⟨s.doc, s.st.set (s.st.length - 1) (s.top.1, s.top.2 + 1)⟩
def stepN (s : NS) (k : Int) : Option NS :=
  if k = 2 then (if s.doc = 0 then some ⟨1, s.st⟩ else none)
  else if k = 5 ∨ k = 6 then nodeN s
  else if k = 3 ∨ k = 4 then (nodeN s).map (fun t => ⟨t.doc, t.st ++ [(k, 0)]⟩)
  else if k = 7 then (if s.st = [] ∨ (s.top.1 = 4 ∧ s.top.2 % 2 ≠ 0) then none else some ⟨s.doc, s.st.dropLast⟩)
  else if k = 8 then (if s.doc = 2 ∧ s.st = [] then some ⟨0, s.st⟩ else none)
  else none
def stK (l : List (Int × Int)) : List V := l.map (fun x => .int .i64 x.1)
def stM (l : List (Int × Int)) : List V := l.map (fun x => .int .i64 x.2)
/-- the nester's state -/
def NAt (f : Nat) (H : LH) (b : Nat) (s : NS) : Prop :=
  (s.st = [] ∧ H.cellsAt b = some [.int .i64 s.doc, .nilsl, .nilsl]) ∨
  ∃ kb mb kl ml, H.cellsAt b = some [.int .i64 s.doc, .sl kb 0 1 s.st.length (s.st.length + kl.length), .sl mb 0 1 s.st.length (s.st.length + kl.length)] ∧ H.cellsAt kb = some (stK s.st ++ kl) ∧ H.cellsAt mb = some (stM s.st ++ ml) ∧
    kl.length = ml.length ∧ f ≤ kb ∧ f ≤ mb ∧ kb ≠ mb
theorem NAt.ext {f : Nat} {H L : LH} {b : Nat} {s : NS} (h : NAt f H b s) : NAt f (H ++ L) b s := by
  rcases h with ⟨h1, h2⟩ | ⟨kb, mb, kl, ml, h1, h2, h3, h4⟩
  · exact .inl ⟨h1, cellsAt_left h2⟩
  · exact .inr ⟨kb, mb, kl, ml, cellsAt_left h1, cellsAt_left h2, cellsAt_left h3, h4⟩
theorem stK_len (l : List (Int × Int)) : (stK l).length = l.length := by simp [stK]
theorem stM_len (l : List (Int × Int)) : (stM l).length = l.length := by simp [stM]
theorem stK_cell {l : List (Int × Int)} {i : Nat} (h : i < l.length) (g : List V) : (stK l ++ g)[i]? = some (.int .i64 (l.getD i (0, 0)).1) := by
  rw [List.getElem?_append_left (by rw [stK_len]; exact h)]
  simp [stK, List.getElem?_map, h, List.getD_eq_getElem?_getD]
theorem stM_cell {l : List (Int × Int)} {i : Nat} (h : i < l.length) (g : List V) : (stM l ++ g)[i]? = some (.int .i64 (l.getD i (0, 0)).2) := by
  rw [List.getElem?_append_left (by rw [stM_len]; exact h)]
  simp [stM, List.getElem?_map, h, List.getD_eq_getElem?_getD]

/-- the state's blocks are ahead of 'N' -/
def NIn (N : Nat) (H : LH) (b : Nat) : Prop := b < N ∧ ∀ d kv mv, H.cellsAt b = some [d, kv, mv] → (∀ kb n c, kv = .sl kb 0 1 n c → kb < N) ∧ (∀ mb n c, mv = .sl mb 0 1 n c → mb < N)
theorem NAt.nin {f : Nat} {H L : LH} {b : Nat} {s : NS} (h : NAt f H b s) : NIn H.length (H ++ L) b := by
  rcases h with ⟨h1, h2⟩ | ⟨kb, mb, kl, ml, h1, h2, h3, h4⟩
  · refine ⟨cellsAt_lt h2, fun d kv mv e => ?_⟩
    rw [cellsAt_left h2] at e
    injection e with e
    simp only [List.cons.injEq, and_true] at e
    obtain ⟨_, rfl, rfl⟩ := e
    exact ⟨fun _ _ _ e => (by cases e), fun _ _ _ e => (by cases e)⟩
  · refine ⟨cellsAt_lt h1, fun d kv mv e => ?_⟩
    rw [cellsAt_left h1] at e
    injection e with e
    simp only [List.cons.injEq, and_true] at e
    obtain ⟨_, rfl, rfl⟩ := e
    exact ⟨fun _ _ _ e => (by cases e; exact cellsAt_lt h2), fun _ _ _ e => (by cases e; exact cellsAt_lt h3)⟩
theorem run_node {f b N : Nat} {s : NS} {H : LH} {fl : Nat} (h : NAt f H b s) (hN : NIn N H b) (hb : b < f) (hm : ∀ x ∈ s.st, 0 ≤ x.2 ∧ x.2 ≤ 1099511627776) (hl : s.st.length ≤ 1099511627776) (hf : fl ≤ b) :
    Ret (fun w H' => Fr f [b] H H' ∧ (∀ c, N ≤ c → H'[c]? = H[c]?) ∧ (match nodeN s with | none => w = .bool false ∧ ∃ t, NAt f H' b t ∧ t.st = [] | some t => w = .bool true ∧ NAt f H' b t)) (run 153 [.ptr b 0] fl H) := by
  obtain ⟨doc, st⟩ := s
  rcases h with ⟨h1, h2⟩ | ⟨kb, mb, kl, ml, h1, h2, h3, h4, h5, h6, h7⟩
  · have hbl := cellsAt_lt h2
    simp only at h1
    subst h1
    unfold run
    rw [Run_z Tryd.func153 rfl (by rfl : ok 153 = true) (by rfl : cfg.keep 153 = [0, 2, 3, 4, 11]) (by rfl : cfg.mode 153 = .any) (by rfl : cfg.ord 153 = [])]
    simp (config := {contextual := true, maxSteps := 10000000, implicitDefEqProofs := false}) (disch := first | (and_intros <;> omega -splitDisjunctions) | (simp only [List.length_set, List.length_append, List.length_cons, List.length_nil]; and_intros <;> omega -splitDisjunctions) | fail) only [h2, Tryd.f153, go_sem, ↓reduceIte, Nat.reduceEqDiff, Nat.reduceAdd, Nat.reduceMul, Nat.reduceLT, Nat.reduceLeDiff, reduceCtorEq, Int.reduceNe, Int.reduceEq, Int.reduceLT, Int.reduceLE, Int.reduceAdd, Int.reduceSub, Int.reduceMul, Int.reduceNeg, Int.reduceToNat, UInt8.reduceToNat, natLit, ty3, ty67, ty148]
    have hc : LH.cellsAt (H.set b (.cells [.int .i64 2, .nilsl, .nilsl])) b = some [.int .i64 2, .nilsl, .nilsl] := cellsAt_set hbl
    refine ⟨Fr.set (.inl (by simp)), fun c hcN => List.getElem?_set_ne (by have := hN.1; omega), ?_⟩
    unfold nodeN
    simp only [if_true]
    by_cases hd : doc = 1
    · rw [if_pos hd]; exact ⟨by rw [hd]; rfl, .inl ⟨rfl, hc⟩⟩
    · rw [if_neg hd]; exact ⟨by simp [hd], ⟨2, []⟩, .inl ⟨rfl, hc⟩, rfl⟩
  · have hbl := cellsAt_lt h1
    simp only at *
    unfold run
    rw [Run_z Tryd.func153 rfl (by rfl : ok 153 = true) (by rfl : cfg.keep 153 = [0, 2, 3, 4, 11]) (by rfl : cfg.mode 153 = .any) (by rfl : cfg.ord 153 = [])]
    by_cases h0 : st = []
    · subst h0
      simp only [List.length_nil] at *
      simp (config := {contextual := true, maxSteps := 10000000, implicitDefEqProofs := false}) (disch := first | (and_intros <;> omega -splitDisjunctions) | (simp only [List.length_set, List.length_append, List.length_cons, List.length_nil]; and_intros <;> omega -splitDisjunctions) | fail) only [h1, Tryd.f153, go_sem, ↓reduceIte, Nat.reduceEqDiff, Nat.reduceAdd, Nat.reduceMul, Nat.reduceLT, Nat.reduceLeDiff, reduceCtorEq, Int.reduceNe, Int.reduceEq, Int.reduceLT, Int.reduceLE, Int.reduceAdd, Int.reduceSub, Int.reduceMul, Int.reduceNeg, Int.reduceToNat, UInt8.reduceToNat, natLit, ty3, ty67, ty148]
      have hc : NAt f (H.set b (.cells [.int .i64 2, .sl kb 0 1 0 kl.length, .sl mb 0 1 0 kl.length])) b ⟨2, []⟩ := .inr ⟨kb, mb, kl, ml, by rw [cellsAt_set hbl]; simp, by rw [cellsAt_set_ne (by omega)]; exact h2, by rw [cellsAt_set_ne (by omega)]; exact h3, h4, h5, h6, h7⟩
      refine ⟨Fr.set (.inl (by simp)), fun c hcN => List.getElem?_set_ne (by have := hN.1; omega), ?_⟩
      unfold nodeN
      simp only [if_true]
      by_cases hd : doc = 1
      · rw [if_pos hd]; exact ⟨by rw [hd]; rfl, hc⟩
      · rw [if_neg hd]; exact ⟨by simp [hd], ⟨2, []⟩, hc, rfl⟩
    · have hp : 0 < st.length := List.length_pos_iff.2 h0
      obtain ⟨n, hn⟩ : ∃ n, st.length = n + 1 := ⟨st.length - 1, by omega⟩
      have q1 := fun g => stM_cell (l := st) (i := n) (by omega) g
      have q2 := hm (st.getD n (0, 0)) (by rw [List.getD_eq_getElem?_getD, List.getElem?_eq_getElem (by omega)]; exact List.getElem_mem _)
      have q3 := stM_len st
      generalize htp : st.getD n (0, 0) = tp at *
      rw [hn] at h1 q3 hl
      have t1 : ((((n : Nat) + 1 : Nat) : Int) > 0) = True := eq_true (by omega)
      have t2 : ((((n : Nat) + 1 : Nat) : Int) - 1).toNat = n := by omega
      simp (config := {contextual := true, maxSteps := 10000000, implicitDefEqProofs := false}) (disch := first | (and_intros <;> omega -splitDisjunctions) | (simp only [List.length_set, List.length_append, List.length_cons, List.length_nil]; and_intros <;> omega -splitDisjunctions) | fail) only [h1, h3, q1, q3, hn, t1, t2, Tryd.f153, go_sem, ↓reduceIte, Nat.reduceEqDiff, Nat.reduceAdd, Nat.reduceMul, Nat.reduceLT, Nat.reduceLeDiff, reduceCtorEq, Int.reduceNe, Int.reduceEq, Int.reduceLT, Int.reduceLE, Int.reduceAdd, Int.reduceSub, Int.reduceMul, Int.reduceNeg, Int.reduceToNat, UInt8.reduceToNat, natLit, ty3, ty67, ty148]
      have hmb := cellsAt_lt h3
      have e : (stM st ++ ml).set n (.int .i64 (tp.2 + 1)) = stM (st.set n (tp.1, tp.2 + 1)) ++ ml := by
        rw [List.set_append_left _ _ (by rw [stM_len]; omega)]
        unfold stM
        rw [List.map_set]
      have e2 : stK (st.set n (tp.1, tp.2 + 1)) = stK st := by
        unfold stK
        rw [List.map_set]
        apply List.ext_getElem?
        intro i
        rw [List.getElem?_set, List.length_map]
        by_cases hi : n = i
        · subst hi
          rw [if_pos rfl, if_pos (by omega), List.getElem?_map, List.getElem?_eq_getElem (by omega)]
          have : st[n]'(by omega) = tp := by rw [← htp, List.getD_eq_getElem?_getD, List.getElem?_eq_getElem (by omega)]; rfl
          rw [this]; rfl
        · rw [if_neg hi]
      have hnn : nodeN ⟨doc, st⟩ = some ⟨doc, st.set n (tp.1, tp.2 + 1)⟩ := by
        unfold nodeN NS.top
        simp only [h0, if_false, hn, Nat.add_sub_cancel, htp]
      rw [e, hnn]
      refine ⟨Fr.set (.inr h6), fun c hcN => List.getElem?_set_ne (by have := (hN.2 _ _ _ h1).2 _ _ _ rfl; omega), .inr ⟨kb, mb, kl, ml, ?_, ?_, ?_, h4, h5, h6, h7⟩⟩
      · rw [cellsAt_set_ne (by omega), h1]; simp only [List.length_set, hn]
      · rw [cellsAt_set_ne (by omega), h2, e2]
      · rw [cellsAt_set hmb]
theorem drop_last {α : Type} {st : List α} {n : Nat} (h : st.length = n + 1) (d : α) : st = st.dropLast ++ [st.getD n d] := by
  have h0 : st ≠ [] := by intro e; rw [e] at h; cases h
  have := (List.dropLast_concat_getLast h0).symm
  rw [List.getLast_eq_getElem] at this
  rw [List.getD_eq_getElem?_getD, List.getElem?_eq_getElem (by omega)]
  simpa [h] using this
theorem run_ends {f b : Nat} {s : NS} {H : LH} {fl : Nat} (h : NAt f H b s) (hb : b < f) (hm : ∀ x ∈ s.st, 0 ≤ x.2 ∧ x.2 ≤ 1099511627776) (hl : s.st.length ≤ 1099511627776) (hf : fl ≤ b) :
    Ret (fun w H' => match stepN s 7 with | none => w = .bool false | some t => w = .bool true ∧ Fr f [b] H H' ∧ NAt f H' b t) (run 154 [.ptr b 0] fl H) := by
  obtain ⟨doc, st⟩ := s
  have hs7 : stepN ⟨doc, st⟩ 7 = if st = [] ∨ ((⟨doc, st⟩ : NS).top.1 = 4 ∧ (⟨doc, st⟩ : NS).top.2 % 2 ≠ 0) then none else some ⟨doc, st.dropLast⟩ := rfl
  rw [hs7]
  rcases h with ⟨h1, h2⟩ | ⟨kb, mb, kl, ml, h1, h2, h3, h4, h5, h6, h7⟩
  · have hbl := cellsAt_lt h2
    simp only at h1
    subst h1
    unfold run
    rw [Run_z Tryd.func154 rfl (by rfl : ok 154 = true) (by rfl : cfg.keep 154 = [0, 2, 3, 32]) (by rfl : cfg.mode 154 = .any) (by rfl : cfg.ord 154 = [])]
    simp (config := {contextual := true, maxSteps := 10000000, implicitDefEqProofs := false}) (disch := first | (and_intros <;> omega -splitDisjunctions) | (simp only [List.length_set, List.length_append, List.length_cons, List.length_nil]; and_intros <;> omega -splitDisjunctions) | fail) only [h2, Tryd.f154, go_sem, ↓reduceIte, Nat.reduceEqDiff, Nat.reduceAdd, Nat.reduceMul, Nat.reduceLT, Nat.reduceLeDiff, reduceCtorEq, Int.reduceNe, Int.reduceEq, Int.reduceLT, Int.reduceLE, Int.reduceAdd, Int.reduceSub, Int.reduceMul, Int.reduceNeg, Int.reduceToNat, UInt8.reduceToNat, natLit, ty3, ty67, ty148]
  · have hbl := cellsAt_lt h1
    simp only at *
    unfold run
    rw [Run_z Tryd.func154 rfl (by rfl : ok 154 = true) (by rfl : cfg.keep 154 = [0, 2, 3, 32]) (by rfl : cfg.mode 154 = .any) (by rfl : cfg.ord 154 = [])]
    by_cases h0 : st = []
    · subst h0
      simp only [List.length_nil] at *
      simp (config := {contextual := true, maxSteps := 10000000, implicitDefEqProofs := false}) (disch := first | (and_intros <;> omega -splitDisjunctions) | (simp only [List.length_set, List.length_append, List.length_cons, List.length_nil]; and_intros <;> omega -splitDisjunctions) | fail) only [h1, Tryd.f154, go_sem, ↓reduceIte, Nat.reduceEqDiff, Nat.reduceAdd, Nat.reduceMul, Nat.reduceLT, Nat.reduceLeDiff, reduceCtorEq, Int.reduceNe, Int.reduceEq, Int.reduceLT, Int.reduceLE, Int.reduceAdd, Int.reduceSub, Int.reduceMul, Int.reduceNeg, Int.reduceToNat, UInt8.reduceToNat, natLit, ty3, ty67, ty148]
    · have hp : 0 < st.length := List.length_pos_iff.2 h0
      obtain ⟨n, hn⟩ : ∃ n, st.length = n + 1 := ⟨st.length - 1, by omega⟩
      have q0 := fun g => stK_cell (l := st) (i := n) (by omega) g
      have q1 := fun g => stM_cell (l := st) (i := n) (by omega) g
      have q2 := hm (st.getD n (0, 0)) (by rw [List.getD_eq_getElem?_getD, List.getElem?_eq_getElem (by omega)]; exact List.getElem_mem _)
      have q3 := stM_len st
      have q4 := stK_len st
      have hlt := drop_last hn (0, 0)
      have htop : (⟨doc, st⟩ : NS).top = st.getD n (0, 0) := by unfold NS.top; simp only [hn, Nat.add_sub_cancel]
      rw [htop]
      generalize htp : st.getD n (0, 0) = tp at *
      rw [hn] at h1 q3 q4 hl
      have t1 : ((((n : Nat) + 1 : Nat) : Int) - 1 < 0) = False := eq_false (by omega)
      have t2 : ((((n : Nat) + 1 : Nat) : Int) - 1).toNat = n := by omega
      have hfin : NAt f (H.set b (.cells [.int .i64 doc, .sl kb 0 1 n (n + 1 + kl.length), .sl mb 0 1 n (n + 1 + kl.length)])) b ⟨doc, st.dropLast⟩ := by
        have hdl : st.dropLast.length = n := by rw [List.length_dropLast]; omega
        refine .inr ⟨kb, mb, .int .i64 tp.1 :: kl, .int .i64 tp.2 :: ml, ?_, ?_, ?_, by simp [h4], h5, h6, h7⟩
        · rw [cellsAt_set hbl]
          simp only [hdl, List.length_cons, show n + 1 + kl.length = n + (kl.length + 1) by omega]
        · rw [cellsAt_set_ne (by omega), h2]
          conv => lhs; rw [hlt]
          simp [stK]
        · rw [cellsAt_set_ne (by omega), h3]
          conv => lhs; rw [hlt]
          simp [stM]
      have c1 : ∀ l, LH.cellsAt (H.set b (.cells l)) b = some l := fun l => cellsAt_set hbl
      have t4 : tp.2.tmod 2 = tp.2 % 2 := Int.tmod_eq_emod_of_nonneg q2.1
      by_cases hk : tp.1 = 4
      · by_cases hm2 : tp.2 % 2 = 0
        · have t3 : (tp.2 % 2 = 0) = True := eq_true hm2
          simp (config := {contextual := true, maxSteps := 10000000, implicitDefEqProofs := false}) (disch := first | (and_intros <;> omega -splitDisjunctions) | (simp only [List.length_set, List.length_append, List.length_cons, List.length_nil]; and_intros <;> omega -splitDisjunctions) | fail) only [h0, h1, h2, h3, q0, q1, q3, q4, hn, hk, t1, t2, t3, t4, c1, Nat.sub_zero, List.set_set, Tryd.f154, go_sem, ↓reduceIte, Nat.reduceEqDiff, Nat.reduceAdd, Nat.reduceMul, Nat.reduceLT, Nat.reduceLeDiff, reduceCtorEq, Int.reduceNe, Int.reduceEq, Int.reduceLT, Int.reduceLE, Int.reduceAdd, Int.reduceSub, Int.reduceMul, Int.reduceNeg, Int.reduceToNat, UInt8.reduceToNat, natLit, ty3, ty67, ty148]
          exact ⟨Fr.set (.inl (by simp)), hfin⟩
        · have t3 : (tp.2 % 2 = 0) = False := eq_false hm2
          simp (config := {contextual := true, maxSteps := 10000000, implicitDefEqProofs := false}) (disch := first | (and_intros <;> omega -splitDisjunctions) | (simp only [List.length_set, List.length_append, List.length_cons, List.length_nil]; and_intros <;> omega -splitDisjunctions) | fail) only [h0, h1, h2, h3, q0, q1, q3, q4, hn, hk, t1, t2, t3, t4, c1, Nat.sub_zero, List.set_set, Tryd.f154, go_sem, ↓reduceIte, Nat.reduceEqDiff, Nat.reduceAdd, Nat.reduceMul, Nat.reduceLT, Nat.reduceLeDiff, reduceCtorEq, Int.reduceNe, Int.reduceEq, Int.reduceLT, Int.reduceLE, Int.reduceAdd, Int.reduceSub, Int.reduceMul, Int.reduceNeg, Int.reduceToNat, UInt8.reduceToNat, natLit, ty3, ty67, ty148]
      · simp (config := {contextual := true, maxSteps := 10000000, implicitDefEqProofs := false}) (disch := first | (and_intros <;> omega -splitDisjunctions) | (simp only [List.length_set, List.length_append, List.length_cons, List.length_nil]; and_intros <;> omega -splitDisjunctions) | fail) only [h0, h1, h2, h3, q0, q1, q3, q4, hn, hk, t1, t2, c1, Nat.sub_zero, List.set_set, Tryd.f154, go_sem, ↓reduceIte, Nat.reduceEqDiff, Nat.reduceAdd, Nat.reduceMul, Nat.reduceLT, Nat.reduceLeDiff, reduceCtorEq, Int.reduceNe, Int.reduceEq, Int.reduceLT, Int.reduceLE, Int.reduceAdd, Int.reduceSub, Int.reduceMul, Int.reduceNeg, Int.reduceToNat, UInt8.reduceToNat, natLit, ty3, ty67, ty148]
        exact ⟨Fr.set (.inl (by simp)), hfin⟩
end Go.Proofs.YtcbjmggbbnpbpaaDoor.Lg
