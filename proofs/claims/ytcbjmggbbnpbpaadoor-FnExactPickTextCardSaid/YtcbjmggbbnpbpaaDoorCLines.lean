/- Lines of a text: plain. No condition. -/
import Derived.Test.YtcbjmggbbnpbpaaDoorLc
import Derived.Test.YtcbjmggbbnpbpaaDoorLgE
namespace Go.Proofs.YtcbjmggbbnpbpaaDoor.Lg
set_option linter.unusedSimpArgs false
set_option linter.unusedVariables false
set_option maxRecDepth 100000

/-- the end of the line: the first break from a place on, or the end -/
def endN (s : ByteArray) (p : Nat) : Nat := if p < s.size ∧ bA s p ≠ 10 then endN s (p + 1) else p
termination_by s.size - p
theorem endN_go {s : ByteArray} {p : Nat} (h : p < s.size) (h2 : bA s p ≠ 10) : endN s p = endN s (p + 1) := by rw [endN, if_pos ⟨h, h2⟩]
theorem endN_here {s : ByteArray} {p : Nat} (h : ¬ (p < s.size ∧ bA s p ≠ 10)) : endN s p = p := by rw [endN, if_neg h]
theorem endN_spec (s : ByteArray) : ∀ (d p : Nat), s.size - p ≤ d → p ≤ s.size → p ≤ endN s p ∧ endN s p ≤ s.size ∧ (∀ j : Nat, p ≤ j → j < endN s p → bA s j ≠ 10) ∧ (endN s p < s.size → bA s (endN s p) = 10) := by
  intro d
  induction d with
  | zero =>
    intro p hd hp
    rw [endN_here (by omega)]
    exact ⟨Nat.le_refl _, hp, fun j h1 h2 => by omega, fun h => by omega⟩
  | succ d ih =>
    intro p hd hp
    by_cases h : p < s.size ∧ bA s p ≠ 10
    · rw [endN_go h.1 h.2]
      obtain ⟨h1, h2, h3, h4⟩ := ih (p + 1) (by omega) (by omega)
      refine ⟨by omega, h2, fun j hj1 hj2 => ?_, h4⟩
      by_cases hj : j = p
      · rw [hj]; exact h.2
      · exact h3 j (by omega) hj2
    · rw [endN_here h]
      refine ⟨Nat.le_refl _, hp, fun j h1 h2 => by omega, fun hlt => ?_⟩
      by_cases h10 : bA s p = 10
      · exact h10
      · exact absurd ⟨hlt, h10⟩ h
theorem endN_lo {s : ByteArray} {p : Nat} (h : p ≤ s.size) : p ≤ endN s p := (endN_spec s _ p (Nat.le_refl _) h).1
theorem endN_hi {s : ByteArray} {p : Nat} (h : p ≤ s.size) : endN s p ≤ s.size := (endN_spec s _ p (Nat.le_refl _) h).2.1
theorem endN_ne {s : ByteArray} {p : Nat} (h : p ≤ s.size) : ∀ j : Nat, p ≤ j → j < endN s p → bA s j ≠ 10 := (endN_spec s _ p (Nat.le_refl _) h).2.2.1
theorem endN_at {s : ByteArray} {p : Nat} (h : p ≤ s.size) : endN s p < s.size → bA s (endN s p) = 10 := (endN_spec s _ p (Nat.le_refl _) h).2.2.2
/-- how many bytes 'c' there are -/
def cnL (c : UInt8) : List UInt8 → Nat
  | [] => 0
  | b :: l => (if b == c then 1 else 0) + cnL c l
theorem cnt_loop (s : ByteArray) (c : UInt8) : ∀ (i j : Nat) (b : Int), j + i = s.size →
    _root_.Id.run (ByteArray.foldlM.loop (m := _root_.Id) (fun (n : Int) x => pure (if x == c then n + 1 else n)) s s.size (Nat.le_refl _) i j b) = b + (cnL c ((bs s).drop j) : Nat) := by
  intro i
  induction i with
  | zero =>
    intro j b hj
    unfold ByteArray.foldlM.loop
    rw [dif_neg (by omega), List.drop_of_length_le (by rw [bs_len]; omega)]
    simp [cnL]
  | succ i ih =>
    intro j b hj
    have hlt : j < (bs s).length := by rw [bs_len]; omega
    unfold ByteArray.foldlM.loop
    rw [dif_pos (show j < s.size by omega), List.drop_eq_getElem_cons hlt, cnL]
    have := ih (j + 1) (if s[j] == c then b + 1 else b) (by omega)
    have e : (s[j] : UInt8) = (bs s)[j] := rfl
    refine Eq.trans this ?_
    rw [e]
    by_cases hc : ((bs s)[j] == c) = true
    · simp only [hc, if_true]; omega
    · simp only [hc, if_false]; simp
theorem cntB_eq (s : ByteArray) (c : UInt8) : cntB s c = (cnL c (bs s) : Nat) := by
  have h := cnt_loop s c s.size 0 0 (by omega)
  rw [List.drop_zero, Int.zero_add] at h
  rw [← h]
  unfold cntB ByteArray.foldl ByteArray.foldlM
  rw [dif_pos (Nat.le_refl _)]
  rfl
/-- the lines from a place on -/
def lnF (s : ByteArray) : Nat → Nat → List ByteArray
  | 0, p => [s.extract p (endN s p)]
  | d + 1, p => s.extract p (endN s p) :: (if endN s p < s.size then lnF s d (endN s p + 1) else [])
theorem cn_none {l : List UInt8} (h : ∀ b ∈ l, b ≠ 10) : cnL 10 l = 0 := by
  induction l with
  | nil => rfl
  | cons b l ih =>
    rw [cnL, ih (fun x hx => h x (List.mem_cons_of_mem _ hx)), if_neg (by simpa using h b (by simp))]
theorem cn_app : ∀ (a b : List UInt8), cnL 10 (a ++ b) = cnL 10 a + cnL 10 b
  | [], b => by simp [cnL]
  | x :: a, b => by simp only [List.cons_append, cnL, cn_app a b]; omega
theorem cn_step {s : ByteArray} {p : Nat} (h : p ≤ s.size) : cnL 10 ((bs s).drop p) = if endN s p < s.size then 1 + cnL 10 ((bs s).drop (endN s p + 1)) else 0 := by
  have h1 := endN_lo h
  have h2 := endN_hi h
  have h3 := endN_ne h
  have h4 := endN_at h
  generalize endN s p = e at *
  have hsplit : (bs s).drop p = ((bs s).drop p).take (e - p) ++ (bs s).drop e := by
    have := List.take_append_drop (e - p) ((bs s).drop p)
    rw [List.drop_drop, show p + (e - p) = e by omega] at this
    exact this.symm
  have hno : cnL 10 (((bs s).drop p).take (e - p)) = 0 := by
    refine cn_none fun b hb => ?_
    obtain ⟨j, hj, rfl⟩ := List.mem_iff_getElem.1 hb
    rw [List.getElem_take, List.getElem_drop]
    have hjl : j < e - p := by
      rw [List.length_take] at hj; omega
    have := h3 (p + j) (by omega) (by omega)
    rw [bA_nat (by omega)] at this
    intro hc
    rw [hc] at this
    exact this rfl
  rw [hsplit, cn_app, hno, Nat.zero_add]
  by_cases hlt : e < s.size
  · rw [if_pos hlt, List.drop_eq_getElem_cons (show e < (bs s).length from hlt), cnL]
    have := h4 hlt
    rw [bA_nat hlt] at this
    have hb : (bs s)[e] = 10 := UInt8.toNat_inj.1 (by
      have h10 : (10 : UInt8).toNat = 10 := rfl
      rw [h10]; omega)
    rw [hb]
    simp
  · rw [if_neg hlt, List.drop_of_length_le (by rw [bs_len]; omega)]
    rfl
theorem bs_exts (s : ByteArray) (q e : Nat) : bs (s.extract q e) = ((bs s).drop q).take (e - q) := by
  simp [bs, ByteArray.data_extract, List.extract_eq_take_drop]
theorem exts_size {s : ByteArray} {q e : Nat} (h : e ≤ s.size) : (s.extract q e).size = e - q := by
  rw [ByteArray.size_extract, Nat.min_eq_left h]
theorem bsinj {a b : ByteArray} (h : bs a = bs b) : a = b := by
  rw [← mk_bs a, ← mk_bs b, h]
theorem ext_ext {s : ByteArray} {p q e : Nat} (h : p + e ≤ s.size) : (s.extract p s.size).extract q e = s.extract (p + q) (p + e) := by
  apply bsinj
  rw [bs_exts, bs_exts, bs_exts, List.take_of_length_le (show ((bs s).drop p).length ≤ s.size - p by rw [List.length_drop, bs_len]; exact Nat.le_refl _), List.drop_drop, show p + e - (p + q) = e - q by omega]
theorem bA_suf {s : ByteArray} {p : Nat} (hp : p ≤ s.size) (i : Nat) : bA (s.extract p s.size) i = bA s ((p + i : Nat) : Int) := by
  by_cases h : p + i < s.size
  · have h1 : i < (s.extract p s.size).size := by rw [exts_size (Nat.le_refl _)]; omega
    rw [bA_nat h1, bA_nat h]
    simp only [bs_exts]
    rw [List.getElem_take, List.getElem_drop]
  · rw [bA_out (by rw [exts_size (Nat.le_refl _)]; omega), bA_out (by omega)]
theorem idx_suf {s : ByteArray} {p : Nat} (hp : p ≤ s.size) : idxB (s.extract p s.size) 10 = if endN s p < s.size then ((endN s p - p : Nat) : Int) else -1 := by
  have h1 := endN_lo hp
  have h2 := endN_hi hp
  have h3 := endN_ne hp
  have h4 := endN_at hp
  have hz : (s.extract p s.size).size = s.size - p := exts_size (Nat.le_refl _)
  rcases idxB_or (s.extract p s.size) 10 with ⟨e, h⟩ | ⟨i, e, hi, ha, hb⟩
  · rw [e]
    by_cases hlt : endN s p < s.size
    · exfalso
      have := h (endN s p - p) (by omega)
      rw [bA_suf hp, show p + (endN s p - p) = endN s p by omega] at this
      exact this (h4 hlt)
    · rw [if_neg hlt]
  · rw [e]
    rw [bA_suf hp] at ha
    have hge : endN s p ≤ p + i := by
      rcases Nat.lt_or_ge (p + i) (endN s p) with hl | hl
      · exact absurd ha (h3 (p + i) (by omega) hl)
      · exact hl
    have hlt : endN s p < s.size := by omega
    rw [if_pos hlt]
    have hle : p + i ≤ endN s p := by
      rcases Nat.lt_or_ge (endN s p) (p + i) with hl | hl
      · exfalso
        have := hb (endN s p - p) (by omega)
        rw [bA_suf hp, show p + (endN s p - p) = endN s p by omega] at this
        exact this (h4 hlt)
      · exact hl
    omega
theorem cntB_suf {s : ByteArray} {p : Nat} (hp : p ≤ s.size) : cntB (s.extract p s.size) 10 = (cnL 10 ((bs s).drop p) : Nat) := by
  rw [cntB_eq, bs_exts, List.take_of_length_le (show ((bs s).drop p).length ≤ s.size - p by rw [List.length_drop, bs_len]; exact Nat.le_refl _)]
theorem cn_le (l : List UInt8) : cnL 10 l ≤ l.length := by
  induction l with
  | nil => exact Nat.le_refl _
  | cons b l ih =>
    rw [cnL, List.length_cons]
    split <;> omega
end Go.Proofs.YtcbjmggbbnpbpaaDoor.Lg
