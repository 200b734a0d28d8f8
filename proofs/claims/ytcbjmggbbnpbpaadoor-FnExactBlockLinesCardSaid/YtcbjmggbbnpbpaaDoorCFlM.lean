/- What is written in the flow style: the plain law. No condition. -/
import Derived.Test.YtcbjmggbbnpbpaaDoorCNcC
namespace Go.Proofs.YtcbjmggbbnpbpaaDoor.Lg
set_option linter.unusedSimpArgs false
set_option linter.unusedVariables false
open Go.Proofs.YtcbjmggbbnpbpaaDoor

/-! ### ends within ends -/
theorem endGo_lt (es : List Ev) {k : Nat} (c : Int) (h : 0 ≤ endGo es (es.length - k) k c) : k < es.length := by
  apply Classical.byContradiction
  intro hk
  rw [show es.length - k = 0 by omega] at h
  simp [endGo] at h
theorem endGo_add (es : List Ev) (c' : Int) (hc' : 1 ≤ c') : ∀ d k c, es.length - k ≤ d → 1 ≤ c → endGo es (es.length - k) k (c + c') = if endGo es (es.length - k) k c < 0 then -1 else endGo es (es.length - (endGo es (es.length - k) k c + 1).toNat) (endGo es (es.length - k) k c + 1).toNat c'
  | 0, k, c, h, hc => by
    rw [show es.length - k = 0 by omega]
    simp [endGo]
  | d + 1, k, c, h, hc => by
    by_cases hk : k < es.length
    · by_cases hC : isC (evA es k)
      · have e1 : ∀ x, stepC (evA es k) x = x + 1 := fun x => by unfold stepC; rw [if_pos hC]
        have a1 : endGo es (es.length - k) k (c + c') = endGo es (es.length - (k + 1)) (k + 1) (c + 1 + c') := by
          rw [endGo_succ es hk, e1, if_neg (by omega), show c + c' + 1 = c + 1 + c' by omega]
        have a2 : endGo es (es.length - k) k c = endGo es (es.length - (k + 1)) (k + 1) (c + 1) := by rw [endGo_succ es hk, e1, if_neg (by omega)]
        rw [a1, a2]
        exact endGo_add es c' hc' d (k + 1) (c + 1) (by omega) (by omega)
      · by_cases h7 : (evA es k).kind = 7
        · have e1 : ∀ x, stepC (evA es k) x = x - 1 := fun x => by unfold stepC; rw [if_neg hC, if_pos h7]
          by_cases hc1 : c = 1
          · subst hc1
            have a1 : endGo es (es.length - k) k (1 + c') = endGo es (es.length - (k + 1)) (k + 1) c' := by
              rw [endGo_succ es hk, e1, if_neg (by omega), show 1 + c' - 1 = c' by omega]
            have a2 : endGo es (es.length - k) k 1 = k := by rw [endGo_succ es hk, e1, if_pos (by omega)]
            rw [a1, a2, if_neg (by omega), show ((k : Int) + 1).toNat = k + 1 by omega]
          · have a1 : endGo es (es.length - k) k (c + c') = endGo es (es.length - (k + 1)) (k + 1) (c - 1 + c') := by
              rw [endGo_succ es hk, e1, if_neg (by omega), show c + c' - 1 = c - 1 + c' by omega]
            have a2 : endGo es (es.length - k) k c = endGo es (es.length - (k + 1)) (k + 1) (c - 1) := by rw [endGo_succ es hk, e1, if_neg (by omega)]
            rw [a1, a2]
            exact endGo_add es c' hc' d (k + 1) (c - 1) (by omega) (by omega)
        · have e1 : ∀ x, stepC (evA es k) x = x := fun x => by unfold stepC; rw [if_neg hC, if_neg h7]
          have a1 : ∀ x, 1 ≤ x → endGo es (es.length - k) k x = endGo es (es.length - (k + 1)) (k + 1) x := fun x hx => by rw [endGo_succ es hk, e1, if_neg (by omega)]
          rw [a1 _ (by omega), a1 _ hc]
          exact endGo_add es c' hc' d (k + 1) c (by omega) (by omega)
    · rw [show es.length - k = 0 by omega]
      simp [endGo]
/-- behind a node within a collection the collection goes on -/
theorem end_in (es : List Ev) {k : Nat} (hn : isN (evA es k)) (h : 0 ≤ endGo es (es.length - k) k 1) :
    (k : Int) ≤ endF es k ∧ endF es k < endGo es (es.length - k) k 1 ∧ endGo es (es.length - (endF es k + 1).toNat) (endF es k + 1).toNat 1 = endGo es (es.length - k) k 1 := by
  have hk := endGo_lt es 1 h
  have key : 0 ≤ endF es k → endGo es (es.length - (endF es k + 1).toNat) (endF es k + 1).toNat 1 = endGo es (es.length - k) k 1 →
      (k : Int) ≤ endF es k ∧ endF es k < endGo es (es.length - k) k 1 ∧ endGo es (es.length - (endF es k + 1).toNat) (endF es k + 1).toNat 1 = endGo es (es.length - k) k 1 := fun h1 h2 => by
    have r := endF_rng es hk
    refine ⟨by omega, ?_, h2⟩
    rw [← h2] at h ⊢
    rcases endGo_rng es (es.length - (endF es k + 1).toNat) (endF es k + 1).toNat 1 with e | e <;> omega
  by_cases hC : isC (evA es k)
  · have e1 : ∀ x, stepC (evA es k) x = x + 1 := fun x => by unfold stepC; rw [if_pos hC]
    have hF : endF es k = endGo es (es.length - (k + 1)) (k + 1) 1 := by
      unfold endF
      rw [if_pos hn, endGo_succ es hk, e1, if_neg (by omega)]
      rfl
    have h2 : endGo es (es.length - k) k 1 = endGo es (es.length - (k + 1)) (k + 1) (1 + 1) := by rw [endGo_succ es hk, e1, if_neg (by omega)]
    have ha := endGo_add es 1 (by omega) es.length (k + 1) 1 (by omega) (by omega)
    rw [← hF] at ha
    rw [h2, ha] at h
    by_cases hneg : endF es k < 0
    · rw [if_pos hneg] at h; omega
    · rw [if_neg hneg] at ha
      exact key (by omega) (by rw [h2, ha])
  · have e1 : ∀ x, stepC (evA es k) x = x := fun x => by
      unfold stepC; rw [if_neg hC, if_neg (by unfold isN at hn; omega)]
    have hF := endF_leaf hk hC hn
    refine key (by omega) ?_
    rw [hF, show ((k : Int) + 1).toNat = k + 1 by omega, endGo_succ es hk, e1, if_neg (by omega)]
theorem kidsA_tile (es : List Ev) : ∀ d k, es.length - k ≤ d → 0 ≤ endGo es (es.length - k) k 1 →
    (∀ x ∈ kidsA es k, 0 ≤ endF es x ∧ endF es x < endGo es (es.length - k) k 1) ∧ ((kidsA es k).map (fun x => endF es x - x + 1)).sum ≤ endGo es (es.length - k) k 1 - k
  | 0, k, h, h1 => by have := endGo_lt es 1 h1; omega
  | d + 1, k, h, h1 => by
    have hk := endGo_lt es 1 h1
    rw [kidsA_eq es hk]
    by_cases hn : isN (evA es k)
    · obtain ⟨a1, a2, a3⟩ := end_in es hn h1
      have ih := kidsA_tile es d (endF es k + 1).toNat (by omega) (by rw [a3]; exact h1)
      rw [a3] at ih
      rw [if_pos hn, if_neg (by omega)]
      refine ⟨fun x hx => ?_, ?_⟩
      · rcases List.mem_cons.1 hx with rfl | hx
        · exact ⟨by omega, a2⟩
        · exact ih.1 x hx
      · rw [List.map_cons, List.sum_cons]
        have := ih.2
        omega
    · rw [if_neg hn]
      refine ⟨fun x hx => absurd hx (by simp), ?_⟩
      simp
      rcases endGo_rng es (es.length - k) k 1 with e | e <;> omega
theorem endF_C (es : List Ev) {i : Nat} (hi : i < es.length) (hC : isC (evA es i)) : endF es i = endGo es (es.length - (i + 1)) (i + 1) 1 := by
  unfold endF
  have e1 : ∀ x, stepC (evA es i) x = x + 1 := fun x => by unfold stepC; rw [if_pos hC]
  rw [if_pos (isC_isN hC), endGo_succ es hi, e1, if_neg (by omega)]
  rfl
theorem kidsF_tile (es : List Ev) {i : Nat} (hi : i < es.length) (hC : isC (evA es i)) (he : 0 ≤ endF es i) :
    (∀ x ∈ kidsF es i, 0 ≤ endF es x ∧ endF es x < endF es i) ∧ ((kidsF es i).map (fun x => endF es x - x + 1)).sum ≤ endF es i - i - 1 := by
  rw [kidsF_A es i hi, if_pos hC]
  rw [endF_C es hi hC] at he ⊢
  have := kidsA_tile es es.length (i + 1) (by omega) he
  refine ⟨this.1, ?_⟩
  have := this.2
  omega
/-- in a list that ends with the end of the stream each node ends -/
theorem end_all {es : List Ev} (hB : Bal es) (h : stk es es.length = []) {i : Nat} (hi : i < es.length) (hn : isN (evA es i)) : 0 ≤ endF es i := by
  by_cases hC : isC (evA es i)
  · -- by the open places
    have key : ∀ k, i < k → k ≤ es.length → i ∈ stk es k ∨ 0 ≤ endF es i := by
      intro k
      induction k with
      | zero => intro h; omega
      | succ k ih =>
        intro h1 h2
        have hs : stk es (k + 1) = if isC (evA es k) then stk es k ++ [k] else if kd es k = 7 then (stk es k).dropLast else stk es k := rfl
        rw [hs]
        by_cases e : i = k
        · subst e; rw [if_pos hC]; exact .inl (by simp)
        · rcases ih (by omega) (by omega) with ih | ih
          · by_cases hCk : isC (evA es k)
            · rw [if_pos hCk]; exact .inl (by simp [ih])
            · rw [if_neg hCk]
              by_cases h7 : kd es k = 7
              · rw [if_pos h7]
                have hne := hB k (by omega) h7
                have htop := end_top es hB (show k < es.length by omega) h7
                by_cases et : i = (stk es k).getD ((stk es k).length - 1) 0
                · right; rw [et, htop]; omega
                · left
                  have hspl := List.dropLast_concat_getLast hne
                  have hlast : (stk es k).getLast hne = (stk es k).getD ((stk es k).length - 1) 0 := by
                    rw [List.getLast_eq_getElem, List.getD_eq_getElem?_getD, List.getElem?_eq_getElem (by have := List.length_pos_iff.2 hne; omega)]; rfl
                  rw [hlast] at hspl
                  rw [← hspl] at ih
                  rcases List.mem_append.1 ih with ih | ih
                  · exact ih
                  · exact absurd (List.mem_singleton.1 ih) et
              · rw [if_neg h7]; exact .inl ih
          · exact .inr ih
    rcases key es.length hi (Nat.le_refl _) with h1 | h1
    · rw [h] at h1; cases h1
    · exact h1
  · rw [endF_leaf hi hC hn]; omega
/-! ### texts -/
def propT (e : Ev) : ByteArray :=
  let a : ByteArray := if e.anchor = ⟨#[]⟩ then ⟨#[]⟩ else ⟨#[38]⟩ ++ e.anchor ++ ⟨#[32]⟩
  if e.tag = ⟨#[]⟩ then a else a ++ ⟨#[33, 60]⟩ ++ e.tag ++ ⟨#[62, 32]⟩
/-- what stands ahead of the k-th -/
def sepT (m : Bool) (k : Nat) : ByteArray := if m = true ∧ k % 2 = 1 then ⟨#[32, 58, 32]⟩ else if 0 < k then ⟨#[44, 32]⟩ else ⟨#[]⟩
def flowL (f : Nat → ByteArray) (m : Bool) : Nat → List Nat → ByteArray → ByteArray
  | _, [], s => s
  | k, x :: xs, s => flowL f m (k + 1) xs (s ++ sepT m k ++ f x)
def leafT (e : Ev) : ByteArray := if e.kind = 6 then ⟨#[42]⟩ ++ e.text else propT e ++ quoT e.text
def flowT (es : List Ev) : Nat → Nat → ByteArray
  | 0, _ => ⟨#[]⟩
  | d + 1, i => if isC (evA es i) then (if kd es i = 4 then propT (evA es i) ++ ⟨#[123]⟩ ++ flowL (flowT es d) true 0 (kidsF es i) ⟨#[]⟩ ++ ⟨#[125]⟩ else propT (evA es i) ++ ⟨#[91]⟩ ++ flowL (flowT es d) false 0 (kidsF es i) ⟨#[]⟩ ++ ⟨#[93]⟩)
    else leafT (evA es i)
theorem quoF_size (s : ByteArray) : ∀ d p l, (quoF s d p l).size ≤ l.length + 10 * d + 1
  | 0, p, l => by simp [quoF, ByteArray.size]
  | d + 1, p, l => by
    unfold quoF
    by_cases h : p < s.size
    · rw [if_pos h]
      by_cases h2 : (runeA s p).2 = 0
      · rw [if_pos h2]; simp [ByteArray.size]
      · rw [if_neg h2]
        have := quoF_size s d (p + (runeA s p).2.toNat) (l ++ quoP (runeA s p).1)
        have := quoP_len (runeA s p).1
        simp only [List.length_append] at *
        omega
    · rw [if_neg h]; simp [ByteArray.size] <;> omega
theorem quoT_size (s : ByteArray) : (quoT s).size ≤ 10 * s.size + 2 := by
  have := quoF_size s s.size 0 [34]
  unfold quoT
  simp only [List.length_singleton] at this
  omega
theorem propT_size (e : Ev) : (propT e).size ≤ e.anchor.size + e.tag.size + 6 := by
  unfold propT
  simp only
  have l1 : (⟨#[38]⟩ : ByteArray).size = 1 := rfl
  have l2 : (⟨#[32]⟩ : ByteArray).size = 1 := rfl
  have l3 : (⟨#[33, 60]⟩ : ByteArray).size = 2 := rfl
  have l4 : (⟨#[62, 32]⟩ : ByteArray).size = 2 := rfl
  have l0 : (⟨#[]⟩ : ByteArray).size = 0 := rfl
  by_cases h1 : e.anchor = ⟨#[]⟩
  · by_cases h2 : e.tag = ⟨#[]⟩
    · rw [if_pos h1, if_pos h2]; omega
    · rw [if_pos h1, if_neg h2]; simp only [ByteArray.size_append, l0, l3, l4]; omega
  · by_cases h2 : e.tag = ⟨#[]⟩
    · rw [if_neg h1, if_pos h2]; simp only [ByteArray.size_append, l1, l2]; omega
    · rw [if_neg h1, if_neg h2]; simp only [ByteArray.size_append, l1, l2, l3, l4]; omega
theorem sepT_size (m : Bool) (k : Nat) : (sepT m k).size ≤ 3 := by
  unfold sepT
  by_cases h1 : m = true ∧ k % 2 = 1
  · rw [if_pos h1]; decide
  · rw [if_neg h1]
    by_cases h2 : 0 < k
    · rw [if_pos h2]; decide
    · rw [if_neg h2]; decide
theorem flowL_size (f : Nat → ByteArray) (m : Bool) : ∀ (xs : List Nat) (k : Nat) (s : ByteArray), ((flowL f m k xs s).size : Int) ≤ s.size + (xs.map (fun x => ((f x).size : Int) + 3)).sum
  | [], k, s => by simp [flowL]
  | x :: xs, k, s => by
    have ih := flowL_size f m xs (k + 1) (s ++ sepT m k ++ f x)
    have := sepT_size m k
    unfold flowL
    rw [List.map_cons, List.sum_cons]
    simp only [ByteArray.size_append] at ih
    omega
theorem flowL_ge (f : Nat → ByteArray) (m : Bool) : ∀ (xs : List Nat) (k : Nat) (s : ByteArray), s.size ≤ (flowL f m k xs s).size
  | [], k, s => Nat.le_refl _
  | x :: xs, k, s => by
    have ih := flowL_ge f m xs (k + 1) (s ++ sepT m k ++ f x)
    simp only [ByteArray.size_append] at ih
    unfold flowL
    omega
theorem sum_le {f g : Nat → Int} : ∀ {xs : List Nat}, (∀ x ∈ xs, f x ≤ g x) → (xs.map f).sum ≤ (xs.map g).sum
  | [], _ => by simp
  | x :: xs, h => by
    have ih := sum_le (xs := xs) (fun y hy => h y (List.mem_cons_of_mem _ hy))
    have := h x (by simp)
    rw [List.map_cons, List.map_cons, List.sum_cons, List.sum_cons]
    omega
theorem sum_mul (f : Nat → Int) (w : Int) : ∀ (xs : List Nat), (xs.map (fun x => w * f x)).sum = w * (xs.map f).sum
  | [] => by simp
  | x :: xs => by
    have ih := sum_mul f w xs
    rw [List.map_cons, List.map_cons, List.sum_cons, List.sum_cons, ih, Int.mul_add]
/-- no event's own text is longer -/
def CostOk (es : List Ev) : Prop := ∀ e ∈ es, (propT e).size + (leafT e).size + 8 ≤ 10485824
theorem flowT_size {es : List Ev} (hB : Bal es) (hst : stk es es.length = []) (hc : CostOk es) : ∀ d i, i < es.length → es.length - i ≤ d → isN (evA es i) → ((flowT es d i).size : Int) + 3 ≤ 10485824 * (endF es i - i + 1)
  | 0, i, hi, hd, hn => by omega
  | d + 1, i, hi, hd, hn => by
    have he := end_all hB hst hi hn
    have hr := endF_rng es hi
    have hci := hc (evA es i) (by rw [evA, getD_of hi]; exact List.getElem_mem _)
    unfold flowT
    by_cases hC : isC (evA es i)
    · rw [if_pos hC]
      have ht := kidsF_tile es hi hC he
      have hkin := kidsF_in es hi
      have hsum : ((kidsF es i).map (fun x => ((flowT es d x).size : Int) + 3)).sum ≤ 10485824 * (endF es i - i - 1) := by
        refine Int.le_trans (sum_le (g := fun x => 10485824 * (endF es x - x + 1)) fun x hx => ?_) ?_
        · have := hkin x hx
          exact flowT_size hB hst hc d x this.2.1 (by omega) this.2.2
        · rw [sum_mul (fun x => endF es x - x + 1)]
          have := ht.2
          omega
      have l1 := fun m => flowL_size (flowT es d) m (kidsF es i) 0 ⟨#[]⟩
      simp only [show (⟨#[]⟩ : ByteArray).size = 0 from rfl] at l1
      by_cases h4 : kd es i = 4
      · rw [if_pos h4]
        have := l1 true
        simp only [ByteArray.size_append, show (⟨#[123]⟩ : ByteArray).size = 1 from rfl, show (⟨#[125]⟩ : ByteArray).size = 1 from rfl]
        omega
      · rw [if_neg h4]
        have := l1 false
        simp only [ByteArray.size_append, show (⟨#[91]⟩ : ByteArray).size = 1 from rfl, show (⟨#[93]⟩ : ByteArray).size = 1 from rfl]
        omega
    · rw [if_neg hC]
      have := endF_leaf hi hC hn
      rw [this]
      omega
/-! ### joins -/
def flowB (f : Nat → ByteArray) (m : Bool) : Nat → List Nat → List UInt8
  | _, [] => []
  | k, x :: xs => bs (sepT m k) ++ bs (f x) ++ flowB f m (k + 1) xs
theorem flowL_B (f : Nat → ByteArray) (m : Bool) : ∀ (xs : List Nat) (k : Nat) (s : ByteArray), bs (flowL f m k xs s) = bs s ++ flowB f m k xs
  | [], k, s => by simp [flowL, flowB]
  | x :: xs, k, s => by
    rw [flowL, flowL_B f m xs (k + 1), flowB, bs_app, bs_app]
    simp [List.append_assoc]
def seqP (f : Nat → ByteArray) (xs : List Nat) : List ByteArray := xs.map f
def mapP (f : Nat → ByteArray) : List Nat → List ByteArray
  | x :: y :: xs => (f x ++ ⟨#[32, 58, 32]⟩ ++ f y) :: mapP f xs
  | _ => []
theorem join_tail (sep : List UInt8) : ∀ (x : List UInt8) (r : List (List UInt8)), Lib.join (x :: r) sep = x ++ (r.map (sep ++ ·)).flatten
  | x, [] => by simp [Lib.join_one]
  | x, y :: r => by
    have ih := join_tail sep y r
    have : Lib.join (x :: y :: r) sep = x ++ (sep ++ Lib.join (y :: r) sep) := by
      simp [Lib.join, List.intercalate, List.intersperse]
    rw [this, ih]
    simp [List.append_assoc]
theorem seq_tail (f : Nat → ByteArray) : ∀ (xs : List Nat) (k : Nat), 0 < k → ((((seqP f xs).map (·.data.toList)).map ([44, 32] ++ ·)).flatten) = flowB f false k xs
  | [], k, hk => rfl
  | x :: xs, k, hk => by
    have ih := seq_tail f xs (k + 1) (by omega)
    have hs : bs (sepT false k) = [44, 32] := by unfold sepT; rw [if_neg (by simp), if_pos hk]
    unfold seqP at *
    rw [flowB, hs, ← ih]
    simp [bs]
theorem seq_join (f : Nat → ByteArray) (xs : List Nat) : (⟨(Lib.join ((seqP f xs).map (·.data.toList)) [44, 32]).toArray⟩ : ByteArray) = flowL f false 0 xs ⟨#[]⟩ := by
  rw [← mk_bs (flowL f false 0 xs ⟨#[]⟩), flowL_B]
  congr 2
  cases xs with
  | nil => rfl
  | cons x xs =>
    show Lib.join ((f x).data.toList :: (seqP f xs).map (·.data.toList)) [44, 32] = _
    rw [join_tail, seq_tail f xs 1 (by omega), flowB]
    rfl
theorem map_tail (f : Nat → ByteArray) : ∀ (n : Nat) (xs : List Nat) (k : Nat), xs.length = 2 * n → 0 < k → k % 2 = 0 → ((((mapP f xs).map (·.data.toList)).map ([44, 32] ++ ·)).flatten) = flowB f true k xs
  | 0, xs, k, hn, hk, h2 => by
    have : xs = [] := List.length_eq_zero_iff.1 (by omega)
    subst this; rfl
  | n + 1, xs, k, hn, hk, h2 => by
    match xs, hn with
    | x :: y :: xs, hn =>
      have ih := map_tail f n xs (k + 2) (by simp at hn; omega) (by omega) (by omega)
      have hs : bs (sepT true k) = [44, 32] := by unfold sepT; rw [if_neg (by omega), if_pos hk]
      have hs2 : bs (sepT true (k + 1)) = [32, 58, 32] := by unfold sepT; rw [if_pos ⟨rfl, by omega⟩]
      rw [flowB, flowB, hs, hs2, ← ih]
      simp [mapP, bs, ByteArray.data_append]
theorem map_join (f : Nat → ByteArray) (xs : List Nat) (h : xs.length % 2 = 0) : (⟨(Lib.join ((mapP f xs).map (·.data.toList)) [44, 32]).toArray⟩ : ByteArray) = flowL f true 0 xs ⟨#[]⟩ := by
  rw [← mk_bs (flowL f true 0 xs ⟨#[]⟩), flowL_B]
  congr 2
  match xs, h with
  | [], _ => rfl
  | [x], h => simp at h
  | x :: y :: xs, h =>
    have hs : bs (sepT true 0) = [] := by unfold sepT; rw [if_neg (by omega), if_neg (by omega)]
    have hs2 : bs (sepT true 1) = [32, 58, 32] := by unfold sepT; rw [if_pos ⟨rfl, by omega⟩]
    show Lib.join ((f x ++ ⟨#[32, 58, 32]⟩ ++ f y).data.toList :: (mapP f xs).map (·.data.toList)) [44, 32] = _
    rw [join_tail, map_tail f (xs.length / 2) xs 2 (by simp at h; omega) (by omega) (by omega), flowB, flowB, hs, hs2]
    simp [bs, ByteArray.data_append]
end Go.Proofs.YtcbjmggbbnpbpaaDoor.Lg
