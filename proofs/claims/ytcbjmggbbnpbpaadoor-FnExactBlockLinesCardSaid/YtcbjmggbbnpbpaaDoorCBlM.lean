/- What is written in the block style: the plain law. No condition. -/
import Derived.Test.YtcbjmggbbnpbpaaDoorCFl3
namespace Go.Proofs.YtcbjmggbbnpbpaaDoor.Lg
set_option linter.unusedSimpArgs false
set_option linter.unusedVariables false
open Go.Proofs.YtcbjmggbbnpbpaaDoor

def padT (n : Nat) : ByteArray := ⟨(List.replicate n (32 : UInt8)).toArray⟩
theorem padT_size (n : Nat) : (padT n).size = n := by simp [padT, ByteArray.size]
theorem padT_rep (n : Nat) : (⟨(Lib.repeatL (⟨#[32]⟩ : ByteArray).data.toList n).toArray⟩ : ByteArray) = padT n := by
  have := Lib.repeatL_replicate 32 1 n
  rw [Nat.mul_one] at this
  unfold padT
  rw [← this]; rfl
theorem padT_succ (n : Nat) : padT n ++ ⟨#[32]⟩ = padT (n + 1) := by
  apply bs_inj
  rw [bs_app]
  simp only [bs, padT, List.replicate_succ']
/-- the line ahead of what is in a collection -/
def headT (p : ByteArray) : ByteArray := if p = ⟨#[]⟩ then ⟨#[10]⟩ else ⟨#[32]⟩ ++ p.extract 0 (p.size - 1) ++ ⟨#[10]⟩
/-- the lines of what is in a list, or a map -/
def blkL (f g : Nat → ByteArray) (m : Bool) (pad : ByteArray) : Nat → List Nat → ByteArray → ByteArray
  | _, [], s => s
  | k, x :: xs, s => blkL f g m pad (k + 1) xs (if m = true then (if k % 2 = 0 then s ++ pad ++ g x ++ ⟨#[32, 58]⟩ else s ++ f x) else s ++ pad ++ ⟨#[45]⟩ ++ f x)
def blkT (es : List Ev) : Nat → Nat → Nat → ByteArray
  | 0, _, _ => ⟨#[]⟩
  | d + 1, i, col => if kidsF es i = [] then ⟨#[32]⟩ ++ flowT es es.length i ++ ⟨#[10]⟩
    else blkL (fun x => blkT es d x (col + 2)) (flowT es es.length) (decide (kd es i ≠ 3)) (padT col) 0 (kidsF es i) (headT (propT (evA es i)))
theorem headT_size (p : ByteArray) : (headT p).size ≤ p.size + 2 := by
  unfold headT
  have l1 : (⟨#[10]⟩ : ByteArray).size = 1 := rfl
  have l2 : (⟨#[32]⟩ : ByteArray).size = 1 := rfl
  by_cases h : p = ⟨#[]⟩
  · rw [if_pos h]; omega
  · rw [if_neg h]; simp only [ByteArray.size_append, ByteArray.size_extract, l1, l2]; omega
theorem blkL_le {f g : Nat → ByteArray} {m : Bool} {pad : ByteArray} {w : Nat → Int} : ∀ {xs : List Nat} {k : Nat} {s : ByteArray}, (∀ x ∈ xs, (pad.size : Int) + 1 + (f x).size ≤ w x ∧ (pad.size : Int) + 2 + (g x).size ≤ w x) →
    ((blkL f g m pad k xs s).size : Int) ≤ s.size + (xs.map w).sum
  | [], k, s, h => by simp [blkL]
  | x :: xs, k, s, h => by
    have hx := h x (by simp)
    rw [blkL, List.map_cons, List.sum_cons]
    have ih := fun s' => blkL_le (f := f) (g := g) (m := m) (pad := pad) (w := w) (xs := xs) (k := k + 1) (s := s') (fun y hy => h y (List.mem_cons_of_mem _ hy))
    refine Int.le_trans (ih _) ?_
    have z1 : (⟨#[45]⟩ : ByteArray).size = 1 := rfl
    have z2 : (⟨#[32, 58]⟩ : ByteArray).size = 2 := rfl
    cases m with
    | true =>
      simp only [if_true]
      by_cases hk : k % 2 = 0
      · rw [if_pos hk]; simp only [ByteArray.size_append, z2]; omega
      · rw [if_neg hk]; simp only [ByteArray.size_append]; omega
    | false => simp only [Bool.false_eq_true, if_false, ByteArray.size_append, z1]; omega
theorem blkT_size {es : List Ev} (hB : Bal es) (hst : stk es es.length = []) (hc : CostOk es) (hl : es.length ≤ 1048576) : ∀ d i col, i < es.length → es.length - i ≤ d → isN (evA es i) → col ≤ 1000 + 2 * i →
    ((blkT es d i col).size : Int) + 2100000 ≤ 12600000 * (endF es i - i + 1)
  | 0, i, col, hi, hd, hn, hcol => by omega
  | d + 1, i, col, hi, hd, hn, hcol => by
    have he := end_all hB hst hi hn
    have hr := endF_rng es hi
    have hci := hc (evA es i) (by rw [evA, getD_of hi]; exact List.getElem_mem _)
    have hfl := flowT_size hB hst hc es.length i hi (by omega) hn
    unfold blkT
    by_cases hk : kidsF es i = []
    · rw [if_pos hk]
      simp only [ByteArray.size_append, show (⟨#[32]⟩ : ByteArray).size = 1 from rfl, show (⟨#[10]⟩ : ByteArray).size = 1 from rfl]
      omega
    · rw [if_neg hk]
      have hC : isC (evA es i) := by
        apply Classical.byContradiction
        intro h
        exact hk (by rw [kidsF_A es i hi, if_neg h])
      have ht := kidsF_tile es hi hC he
      have hkin := kidsF_in es hi
      have hl1 := blkL_le (f := fun x => blkT es d x (col + 2)) (g := flowT es es.length) (m := decide (kd es i ≠ 3)) (pad := padT col) (w := fun x => 12600000 * (endF es x - x + 1)) (xs := kidsF es i) (k := 0) (s := headT (propT (evA es i))) (fun x hx => by
        have h1 := hkin x hx
        have a1 := blkT_size hB hst hc hl d x (col + 2) h1.2.1 (by omega) h1.2.2 (by omega)
        have a2 := flowT_size hB hst hc es.length x h1.2.1 (by omega) h1.2.2
        have a3 := end_all hB hst h1.2.1 h1.2.2
        have a4 := endF_rng es h1.2.1
        rw [padT_size]
        constructor <;> omega)
      rw [sum_mul (fun x => endF es x - x + 1)] at hl1
      have h2 := headT_size (propT (evA es i))
      have h3 := ht.2
      omega
theorem blk_bound {es : List Ev} (hw : wholeM es = true) (hc : CostOk es) (hl : es.length ≤ 1048576) {d i col : Nat} (hi : i < es.length) (hd : es.length - i ≤ d) (hn : isN (evA es i)) (hcol : col ≤ 1000 + 2 * i) : (blkT es d i col).size ≤ 13212057600000 := by
  have := blkT_size (nestedM_bal (whole_nested hw)) (stk_end hw) hc hl d i col hi hd hn hcol
  have := endF_rng es hi
  omega
theorem blkL_take (f g : Nat → ByteArray) (m : Bool) (pad : ByteArray) : ∀ (xs : List Nat) (k j : Nat) (s : ByteArray), j < xs.length →
    blkL f g m pad k (xs.take (j + 1)) s = (if m = true then (if (k + j) % 2 = 0 then blkL f g m pad k (xs.take j) s ++ pad ++ g (xs.getD j 0) ++ ⟨#[32, 58]⟩ else blkL f g m pad k (xs.take j) s ++ f (xs.getD j 0)) else blkL f g m pad k (xs.take j) s ++ pad ++ ⟨#[45]⟩ ++ f (xs.getD j 0))
  | [], k, j, s, h => by cases h
  | x :: xs, k, 0, s, h => by simp [blkL]
  | x :: xs, k, j + 1, s, h => by
    rw [List.take_succ_cons, List.take_succ_cons, blkL, blkL, blkL_take f g m pad xs (k + 1) j _ (by simpa using h), show k + 1 + j = k + (j + 1) by omega, List.getD_cons_succ]
theorem blkL_bound {es : List Ev} (hw : wholeM es = true) (hc : CostOk es) (hl : es.length ≤ 1048576) {d i col : Nat} (hi : i < es.length) (hd : es.length - i ≤ d + 1) (hC : isC (evA es i)) (hcol : col ≤ 1000 + 2 * i) (m : Bool) (k : Nat) :
    (blkL (fun x => blkT es d x (col + 2)) (flowT es es.length) m (padT col) 0 ((kidsF es i).take k) (headT (propT (evA es i)))).size ≤ 13212057600000 := by
  have hB := nestedM_bal (whole_nested hw)
  have hst := stk_end hw
  have he := end_all hB hst hi (isC_isN hC)
  have hr := endF_rng es hi
  have ht := kidsF_tile es hi hC he
  have hkin := kidsF_in es hi
  have hci := hc (evA es i) (by rw [evA, getD_of hi]; exact List.getElem_mem _)
  have hl1 := blkL_le (f := fun x => blkT es d x (col + 2)) (g := flowT es es.length) (m := m) (pad := padT col) (w := fun x => 12600000 * (endF es x - x + 1)) (xs := (kidsF es i).take k) (k := 0) (s := headT (propT (evA es i))) (fun x hx => by
    have h1 := hkin x (List.mem_of_mem_take hx)
    have a1 := blkT_size hB hst hc hl d x (col + 2) h1.2.1 (by omega) h1.2.2 (by omega)
    have a2 := flowT_size hB hst hc es.length x h1.2.1 (by omega) h1.2.2
    have a3 := end_all hB hst h1.2.1 h1.2.2
    have a4 := endF_rng es h1.2.1
    rw [padT_size]
    constructor <;> omega)
  have l2 : (((kidsF es i).take k).map (fun x => 12600000 * (endF es x - x + 1))).sum ≤ ((kidsF es i).map (fun x => 12600000 * (endF es x - x + 1))).sum := by
    conv => rhs; rw [← List.take_append_drop k (kidsF es i), List.map_append, List.sum_append]
    have : 0 ≤ (((kidsF es i).drop k).map (fun x => 12600000 * (endF es x - x + 1))).sum := by
      have h0 := sum_le (f := fun _ => 0) (g := fun x => 12600000 * (endF es x - x + 1)) (xs := (kidsF es i).drop k) (fun x hx => by
        have h1 := hkin x (List.mem_of_mem_drop hx)
        have a3 := end_all hB hst h1.2.1 h1.2.2
        have a4 := endF_rng es h1.2.1
        omega)
      refine Int.le_trans ?_ h0
      generalize (kidsF es i).drop k = l
      induction l with
      | nil => simp
      | cons x l ih => simp only [List.map_cons, List.sum_cons]; omega
    omega
  rw [sum_mul (fun x => endF es x - x + 1) 12600000 (kidsF es i)] at l2
  have h2 := headT_size (propT (evA es i))
  have h3 := ht.2
  omega
/-- no key of a map is a collection -/
theorem key_leaf {es : List Ev} (h : cwM es = true) {i : Nat} (hi : i < es.length) (h4 : kd es i = 4) : ∀ j, j < (kidsF es i).length → j % 2 = 0 → ¬ isC (evA es ((kidsF es i).getD j 0)) := by
  unfold cwM at h
  rw [Bool.and_eq_true, List.all_eq_true] at h
  have := h.2 i (by simpa using hi)
  unfold cwI keysB at this
  rw [decide_eq_true h4] at this
  simp only [Bool.and_eq_true, Bool.not_true, Bool.false_or] at this
  have hk := this.2
  generalize kidsF es i = xs at *
  have key : ∀ n j, j ≤ n → j < xs.length → keyG es j (xs.drop j) = true := by
    intro n
    induction n with
    | zero => intro j h1 h2; rw [show j = 0 by omega, List.drop_zero]; exact hk
    | succ n ih =>
      intro j h1 h2
      by_cases e : j ≤ n
      · exact ih j e h2
      · have := ih n (Nat.le_refl _) (by omega)
        rw [keyG_drop (show n < xs.length by omega), Bool.and_eq_true] at this
        rw [show j = n + 1 by omega]; exact this.2
  intro j hj h2 hc
  have := key j j (Nat.le_refl _) hj
  rw [keyG_drop hj, decide_eq_true h2, decide_eq_true hc] at this
  simp at this
theorem flowT_leaf {es : List Ev} {d i : Nat} (h : ¬ isC (evA es i)) : flowT es (d + 1) i = leafT (evA es i) := by
  unfold flowT
  rw [if_neg h]
end Go.Proofs.YtcbjmggbbnpbpaaDoor.Lg
