/- Lines of a text: what the functions over places compute. Plain. -/
import Derived.Test.YtcbjmggbbnpbpaaDoorCLines
namespace Go.Proofs.YtcbjmggbbnpbpaaDoor.Lg
set_option linter.unusedSimpArgs false
set_option linter.unusedVariables false
set_option maxRecDepth 100000

/-- a place brought into a text -/
def spt (s : ByteArray) (p : Int) : Nat := if p < 0 then 0 else if (s.size : Int) < p then s.size else p.toNat
theorem spt_le (s : ByteArray) (p : Int) : spt s p ≤ s.size := by
  unfold spt
  by_cases h : p < 0
  · rw [if_pos h]; omega
  · rw [if_neg h]
    by_cases h2 : (s.size : Int) < p
    · rw [if_pos h2]; exact Nat.le_refl _
    · rw [if_neg h2]; omega
theorem spt_in {s : ByteArray} {p : Nat} (h : p ≤ s.size) : spt s p = p := by
  unfold spt
  rw [if_neg (by omega), if_neg (by omega), Int.toNat_natCast]
theorem spt_z {s : ByteArray} {p : Int} (h0 : 0 ≤ p) (h : p ≤ s.size) : (spt s p : Int) = p := by
  unfold spt
  rw [if_neg (by omega), if_neg (by omega)]
  omega
theorem bA_spt {s : ByteArray} {p : Int} (h : 0 ≤ p) : bA s (spt s p : Int) = bA s p := by
  unfold spt
  rw [if_neg (by omega)]
  by_cases h2 : (s.size : Int) < p
  · rw [if_pos h2, bA_out (Int.le_refl _), bA_out (by omega)]
  · rw [if_neg h2]; congr 1; omega
theorem bA_neg {s : ByteArray} {p : Int} : bA s p < 0 ↔ p < 0 ∨ (s.size : Int) ≤ p := by
  unfold bA
  by_cases h : 0 ≤ p ∧ p < (s.size : Int)
  · rw [if_pos h]; omega
  · rw [if_neg h]; omega
/-- the beginning of the line -/
def lnN (s : ByteArray) : Nat → Nat
  | 0 => 0
  | p + 1 => if bA s p = 10 then p + 1 else lnN s p
theorem lnN_le (s : ByteArray) : ∀ p, lnN s p ≤ p
  | 0 => Nat.le_refl _
  | p + 1 => by
    unfold lnN
    have := lnN_le s p
    by_cases h : bA s p = 10
    · rw [if_pos h]; exact Nat.le_refl _
    · rw [if_neg h]; omega
theorem lnN_s {s : ByteArray} {p : Nat} : lnN s (p + 1) = if bA s p = 10 then p + 1 else lnN s p := rfl
theorem lnN_idem (s : ByteArray) : ∀ p, lnN s (lnN s p) = lnN s p
  | 0 => rfl
  | p + 1 => by
    rw [lnN_s]
    by_cases h : bA s p = 10
    · rw [if_pos h, lnN_s, if_pos h]
    · rw [if_neg h]; exact lnN_idem s p
/-- the last place of a byte ahead of a place; -1: none -/
def lastF (s : ByteArray) (c : Int) : Nat → Int
  | 0 => -1
  | p + 1 => if bA s p = c then p else lastF s c p
theorem lastF_ln {s : ByteArray} {q : Nat} (hq : q ≤ s.size) : ∀ p, p ≤ q → lastF (s.extract 0 q) 10 p + 1 = (lnN s p : Nat)
  | 0, _ => rfl
  | p + 1, h => by
    have e : bA (s.extract 0 q) p = bA s p := by
      have hz : (s.extract 0 q).size = q := by rw [exts_size hq]; omega
      rw [bA_nat (by omega), bA_nat (by omega)]
      simp only [bs_exts]
      rw [List.getElem_take, List.getElem_drop]
      congr 3; omega
    unfold lastF lnN
    rw [e]
    by_cases h2 : bA s p = 10
    · rw [if_pos h2, if_pos h2]; omega
    · rw [if_neg h2, if_neg h2]; exact lastF_ln hq p (by omega)
/-- behind white -/
def wtN (s : ByteArray) (p : Nat) : Nat := if p < s.size ∧ (bA s p = 32 ∨ bA s p = 9) then wtN s (p + 1) else p
termination_by s.size - p
theorem wtN_go {s : ByteArray} {p : Nat} (h : bA s p = 32 ∨ bA s p = 9) : wtN s p = wtN s (p + 1) := by
  have : p < s.size := by
    by_cases h2 : p < s.size
    · exact h2
    · rw [bA_out (by omega)] at h; omega
  rw [wtN, if_pos ⟨this, h⟩]
theorem wtN_here {s : ByteArray} {p : Nat} (h : ¬ (bA s p = 32 ∨ bA s p = 9)) : wtN s p = p := by rw [wtN, if_neg (fun h2 => h h2.2)]
theorem bA_in' {s : ByteArray} {p : Nat} {c : Int} (h : bA s p = c) (hc : 0 ≤ c) : p < s.size := by
  by_cases h2 : p < s.size
  · exact h2
  · rw [bA_out (by omega)] at h; omega
theorem wtN_spec (s : ByteArray) : ∀ (d p : Nat), s.size - p ≤ d → p ≤ wtN s p ∧ (p ≤ s.size → wtN s p ≤ s.size) ∧ ¬ (bA s (wtN s p) = 32 ∨ bA s (wtN s p) = 9) ∧ ∀ j : Nat, p ≤ j → j < wtN s p → bA s j = 32 ∨ bA s j = 9 := by
  intro d
  induction d with
  | zero =>
    intro p hd
    have h : ¬ (bA s p = 32 ∨ bA s p = 9) := by rw [bA_out (by omega)]; omega
    rw [wtN_here h]
    exact ⟨Nat.le_refl _, fun h => h, h, fun j h1 h2 => by omega⟩
  | succ d ih =>
    intro p hd
    by_cases h : bA s p = 32 ∨ bA s p = 9
    · have hlt : p < s.size := by
        rcases h with h | h <;> exact bA_in' h (by omega)
      rw [wtN_go h]
      obtain ⟨h1, h2, h3, h4⟩ := ih (p + 1) (by omega)
      refine ⟨by omega, fun _ => h2 (by omega), h3, fun j hj1 hj2 => ?_⟩
      by_cases e : j = p
      · rw [e]; exact h
      · exact h4 j (by omega) hj2
    · rw [wtN_here h]
      exact ⟨Nat.le_refl _, fun h => h, h, fun j h1 h2 => by omega⟩
theorem wtN_lo (s : ByteArray) (p : Nat) : p ≤ wtN s p := (wtN_spec s _ p (Nat.le_refl _)).1
theorem wtN_hi {s : ByteArray} {p : Nat} (h : p ≤ s.size) : wtN s p ≤ s.size := (wtN_spec s _ p (Nat.le_refl _)).2.1 h
theorem wtN_no (s : ByteArray) (p : Nat) : ¬ (bA s (wtN s p) = 32 ∨ bA s (wtN s p) = 9) := (wtN_spec s _ p (Nat.le_refl _)).2.2.1
theorem wtN_yes {s : ByteArray} {p j : Nat} (h1 : p ≤ j) (h2 : j < wtN s p) : bA s j = 32 ∨ bA s j = 9 := (wtN_spec s _ p (Nat.le_refl _)).2.2.2 j h1 h2
/-- behind blanks -/
def blN (s : ByteArray) (p : Nat) : Nat := if p < s.size ∧ bA s p = 32 then blN s (p + 1) else p
termination_by s.size - p
theorem blN_go {s : ByteArray} {p : Nat} (h : bA s p = 32) : blN s p = blN s (p + 1) := by rw [blN, if_pos ⟨bA_in' h (by omega), h⟩]
theorem blN_here {s : ByteArray} {p : Nat} (h : ¬ bA s p = 32) : blN s p = p := by rw [blN, if_neg (fun h2 => h h2.2)]
theorem blN_bnd (s : ByteArray) : ∀ (d p : Nat), s.size - p ≤ d → p ≤ blN s p ∧ (p ≤ s.size → blN s p ≤ s.size) := by
  intro d
  induction d with
  | zero =>
    intro p hd
    rw [blN_here (by rw [bA_out (by omega)]; omega)]
    exact ⟨Nat.le_refl _, fun h => h⟩
  | succ d ih =>
    intro p hd
    by_cases h : bA s p = 32
    · have hlt := bA_in' h (by omega)
      rw [blN_go h]
      have := ih (p + 1) (by omega)
      exact ⟨by omega, fun _ => this.2 (by omega)⟩
    · rw [blN_here h]; exact ⟨Nat.le_refl _, fun h => h⟩
theorem blN_lo (s : ByteArray) (p : Nat) : p ≤ blN s p := (blN_bnd s _ p (Nat.le_refl _)).1
theorem blN_hi {s : ByteArray} {p : Nat} (h : p ≤ s.size) : blN s p ≤ s.size := (blN_bnd s _ p (Nat.le_refl _)).2 h
def indN (s : ByteArray) (p : Nat) : Nat := blN s (lnN s p) - lnN s p
/-- is there a gap at a place? -/
def gapP (s : ByteArray) (p : Int) : Prop := (bA s p = 32 ∨ bA s p = 9) ∨ bA s p = 10 ∨ bA s p < 0
instance (s : ByteArray) (p : Int) : Decidable (gapP s p) := by unfold gapP; infer_instance
def markN (s : ByteArray) (p : Nat) : Int :=
  if (lnN s p ≠ p ∨ s.size < p + 3) ∨ ¬ gapP s (p + 3 : Nat) then 0
  else if s.extract p (p + 3) = ⟨#[45, 45, 45]⟩ then 1 else if s.extract p (p + 3) = ⟨#[46, 46, 46]⟩ then 2 else 0
/-- is nothing behind a place on its line? -/
def rsB (s : ByteArray) (p : Nat) : Bool := decide ((bA s (wtN s p) = 10 ∨ bA s (wtN s p) < 0) ∨ bA s (wtN s p) = 35 ∧ (wtN s p ≠ p ∨ lnN s p = p))
def rsN (s : ByteArray) (p : Nat) : Nat := if rsB s p = true then endN s (wtN s p) else wtN s p
def lonB (s : ByteArray) (p : Nat) : Bool := decide (bA s (wtN s (lnN s p)) = 10 ∨ bA s (wtN s (lnN s p)) < 0)
theorem endN_gt {s : ByteArray} {p : Nat} (h : p < s.size) (h2 : bA s p = 35) : p < endN s p := by
  rw [endN_go h (by omega)]
  have := endN_lo (s := s) (p := p + 1) (by omega)
  omega
/-- behind a gap -/
def gpN (s : ByteArray) (p : Nat) : Nat :=
  if h : p < s.size then
    if (bA s p = 32 ∨ bA s p = 9) ∨ bA s p = 10 then gpN s (p + 1)
    else if h2 : bA s p = 35 ∧ (lnN s p = p ∨ bA s ((p : Int) - 1) = 32 ∨ bA s ((p : Int) - 1) = 9) then gpN s (endN s p) else p
  else p
termination_by s.size - p
decreasing_by
  · omega
  · have := endN_gt h h2.1; omega
theorem gpN_out {s : ByteArray} {p : Nat} (h : s.size ≤ p) : gpN s p = p := by rw [gpN, dif_neg (by omega)]
theorem gpN_go {s : ByteArray} {p : Nat} (h : (bA s p = 32 ∨ bA s p = 9) ∨ bA s p = 10) : gpN s p = gpN s (p + 1) := by
  have : p < s.size := by rcases h with (h | h) | h <;> exact bA_in' h (by omega)
  rw [gpN, dif_pos this, if_pos h]
theorem gpN_rem {s : ByteArray} {p : Nat} (h : bA s p = 35) (h2 : lnN s p = p ∨ bA s ((p : Int) - 1) = 32 ∨ bA s ((p : Int) - 1) = 9) : gpN s p = gpN s (endN s p) := by
  rw [gpN, dif_pos (bA_in' h (by omega)), if_neg (by omega), dif_pos ⟨h, h2⟩]
theorem gpN_here {s : ByteArray} {p : Nat} (h : ¬ ((bA s p = 32 ∨ bA s p = 9) ∨ bA s p = 10)) (h2 : ¬ (bA s p = 35 ∧ (lnN s p = p ∨ bA s ((p : Int) - 1) = 32 ∨ bA s ((p : Int) - 1) = 9))) : gpN s p = p := by
  rw [gpN]
  by_cases h3 : p < s.size
  · rw [dif_pos h3, if_neg h, dif_neg h2]
  · rw [dif_neg h3]
theorem gpN_wt (s : ByteArray) : ∀ (d p : Nat), s.size - p ≤ d → gpN s (wtN s p) = gpN s p := by
  intro d
  induction d with
  | zero => intro p hd; rw [wtN_here (by rw [bA_out (by omega)]; omega)]
  | succ d ih =>
    intro p hd
    by_cases h : bA s p = 32 ∨ bA s p = 9
    · rw [wtN_go h, ih (p + 1) (by omega), gpN_go (.inl h)]
    · rw [wtN_here h]
theorem gpN_bnd (s : ByteArray) : ∀ (d p : Nat), s.size - p ≤ d → p ≤ gpN s p ∧ (p ≤ s.size → gpN s p ≤ s.size) := by
  intro d
  induction d with
  | zero => intro p hd; rw [gpN_out (by omega)]; exact ⟨Nat.le_refl _, fun h => h⟩
  | succ d ih =>
    intro p hd
    by_cases h : (bA s p = 32 ∨ bA s p = 9) ∨ bA s p = 10
    · have hlt : p < s.size := by rcases h with (h | h) | h <;> exact bA_in' h (by omega)
      rw [gpN_go h]
      have := ih (p + 1) (by omega)
      exact ⟨by omega, fun _ => this.2 (by omega)⟩
    · by_cases h2 : bA s p = 35 ∧ (lnN s p = p ∨ bA s ((p : Int) - 1) = 32 ∨ bA s ((p : Int) - 1) = 9)
      · have hlt := bA_in' h2.1 (by omega)
        have h3 := endN_gt hlt h2.1
        have h4 := endN_hi (s := s) (p := p) (by omega)
        rw [gpN_rem h2.1 h2.2]
        have := ih (endN s p) (by omega)
        exact ⟨by omega, fun _ => this.2 h4⟩
      · rw [gpN_here h h2]; exact ⟨Nat.le_refl _, fun h => h⟩
theorem gpN_lo (s : ByteArray) (p : Nat) : p ≤ gpN s p := (gpN_bnd s _ p (Nat.le_refl _)).1
theorem gpN_hi {s : ByteArray} {p : Nat} (h : p ≤ s.size) : gpN s p ≤ s.size := (gpN_bnd s _ p (Nat.le_refl _)).2 h
theorem lonB_end (s : ByteArray) (p : Nat) : lonB s p = lonB s p := rfl
end Go.Proofs.YtcbjmggbbnpbpaaDoor.Lg
