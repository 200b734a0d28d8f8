/- A text in quotes is read as it was: plain. -/
import Derived.Test.YtcbjmggbbnpbpaaDoorCQu4
import Derived.Test.YtcbjmggbbnpbpaaDoorCDr2
import Derived.Test.YtcbjmggbbnpbpaaDoorCQuote
namespace Go.Proofs.YtcbjmggbbnpbpaaDoor.Lg
set_option linter.unusedSimpArgs false
set_option linter.unusedVariables false
set_option maxRecDepth 100000
set_option maxHeartbeats 40000000

abbrev mkA (l : List UInt8) : ByteArray := ⟨l.toArray⟩
theorem mkA_size (l : List UInt8) : (mkA l).size = l.length := rfl
theorem bA_mk {l : List UInt8} {i : Nat} (h : i < l.length) : bA (mkA l) (i : Int) = ((l.getD i 0).toNat : Int) := by
  unfold bA
  rw [if_pos ⟨by omega, by rw [mkA_size]; omega⟩, Int.toNat_natCast, bs_mk]
theorem bA_mid (A X B : List UInt8) (j : Nat) (h : j < X.length) : bA (mkA (A ++ (X ++ B))) ((A.length + j : Nat) : Int) = ((X.getD j 0).toNat : Int) := by
  rw [bA_mk (by simp; omega)]
  congr 2
  rw [List.getD_eq_getElem?_getD, List.getElem?_append_right (by omega), List.getD_eq_getElem?_getD, List.getElem?_append_left (by omega)]
  congr 2; omega
theorem mkA_app (a b : List UInt8) : mkA a ++ mkA b = mkA (a ++ b) := (mkB_app a b).symm
/-- the runes that are drawn -/
def rR : List Int := [97, 39, 34, 92, 32, 9, 233, 128512, 0, 133, 120, 121]
def prK : Nat → List Int
  | 0 => [97] | 1 => [39] | 2 => [34] | 3 => [92] | 4 => [32] | 5 => [9] | 6 => [233] | 7 => [128512] | 8 => [0] | 9 => [133] | 10 => [120, 32, 121] | _ => []
theorem prK_in (k : Nat) : ∀ r ∈ prK k, r ∈ rR := by
  match k with
  | 0 | 1 | 2 | 3 | 4 | 5 | 6 | 7 | 8 | 9 | 10 => decide
  | k + 11 => intro r h; cases h
theorem pcs_bytes (k : Nat) (h : k < 11) : pcs.getD k ⟨#[]⟩ = mkA ((prK k).flatMap encL) := by
  match k, h with
  | 0, _ | 1, _ | 2, _ | 3, _ | 4, _ | 5, _ | 6, _ | 7, _ | 8, _ | 9, _ | 10, _ => rfl
theorem catK_bytes : ∀ (ks : List Nat) (l : List UInt8), (∀ k ∈ ks, k < 11) → ks.foldl (fun s k => s ++ pcs.getD k ⟨#[]⟩) (mkA l) = mkA (l ++ (ks.flatMap prK).flatMap encL)
  | [], l, _ => by simp
  | k :: ks, l, h => by
    rw [List.foldl_cons, pcs_bytes k (h k (by simp)), mkA_app, catK_bytes ks _ (fun x hx => h x (by simp [hx]))]
    simp [List.flatMap_append, List.append_assoc]
theorem runes_of {s : ByteArray} (h : RunesP s) : ∃ rs : List Int, (∀ r ∈ rs, r ∈ rR) ∧ rs.length ≤ 24 ∧ s = mkA (rs.flatMap encL) := by
  obtain ⟨ks, h1, h2, rfl⟩ := h
  refine ⟨ks.flatMap prK, fun r hr => ?_, ?_, ?_⟩
  · obtain ⟨k, _, hk⟩ := List.mem_flatMap.1 hr
    exact prK_in k r hk
  · have : ∀ ks : List Nat, (ks.flatMap prK).length ≤ 3 * ks.length := by
      intro ks
      induction ks with
      | nil => simp
      | cons k ks ih =>
        rw [List.flatMap_cons, List.length_append, List.length_cons]
        have : (prK k).length ≤ 3 := by
          match k with
          | 0 | 1 | 2 | 3 | 4 | 5 | 6 | 7 | 8 | 9 | 10 => decide
          | k + 11 => show 0 ≤ 3; omega
        omega
    have := this ks; omega
  · have := catK_bytes ks [] h2
    rw [List.nil_append] at this
    exact this
theorem encL_pos (r : Int) : 1 ≤ (encL r).length ∧ (encL r).length ≤ 4 := by
  unfold encL
  (repeat' (refine ite_P (P := fun x : List UInt8 => 1 ≤ x.length ∧ x.length ≤ 4) (fun _ => ?_) (fun _ => ?_))) <;> simp
theorem rune_step (A B : List UInt8) {r : Int} (h : r ∈ rR) : runeA (mkA (A ++ (encL r ++ B))) (A.length : Int) = (r, ((encL r).length : Int)) := by
  have hsz : (mkA (A ++ (encL r ++ B))).size = A.length + ((encL r).length + B.length) := by rw [mkA_size]; simp
  unfold runeA
  rw [spotI_in (by omega) (by omega)]
  have g := fun j hj => bA_mid A (encL r) B j hj
  have c1 : ((A.length : Int) + 1) = ((A.length + 1 : Nat) : Int) := by omega
  have c2 : ((A.length : Int) + 2) = ((A.length + 2 : Nat) : Int) := by omega
  have c3 : ((A.length : Int) + 3) = ((A.length + 3 : Nat) : Int) := by omega
  have g0 := g 0 (by have := encL_pos r; omega)
  rw [Nat.add_zero] at g0
  have one : ∀ b0 : Int, 0 ≤ b0 → b0 < 128 → ∀ b1 b2 b3, decM b0 b1 b2 b3 = (b0, 1) := fun b0 h0 h1 b1 b2 b3 => by
    unfold decM; rw [if_neg (by omega), if_pos h1]
  simp only [rR, List.mem_cons, List.not_mem_nil, or_false] at h
  rcases h with rfl | rfl | rfl | rfl | rfl | rfl | rfl | rfl | rfl | rfl | rfl | rfl
  case _ => rw [g0]; exact one 97 (by decide) (by decide) _ _ _
  case _ => rw [g0]; exact one 39 (by decide) (by decide) _ _ _
  case _ => rw [g0]; exact one 34 (by decide) (by decide) _ _ _
  case _ => rw [g0]; exact one 92 (by decide) (by decide) _ _ _
  case _ => rw [g0]; exact one 32 (by decide) (by decide) _ _ _
  case _ => rw [g0]; exact one 9 (by decide) (by decide) _ _ _
  case _ =>
    have g1 := g 1 (by decide)
    rw [g0, c1, g1]
    generalize bA _ ((A.length : Int) + 2) = b2
    generalize bA _ ((A.length : Int) + 3) = b3
    show decM 195 169 b2 b3 = (233, 2)
    unfold decM; simp
  case _ =>
    have g1 := g 1 (by decide); have g2 := g 2 (by decide); have g3 := g 3 (by decide)
    rw [g0, c1, g1, c2, g2, c3, g3]
    show decM 240 159 152 128 = (128512, 4)
    decide
  case _ => rw [g0]; exact one 0 (by decide) (by decide) _ _ _
  case _ =>
    have g1 := g 1 (by decide)
    rw [g0, c1, g1]
    generalize bA _ ((A.length : Int) + 2) = b2
    generalize bA _ ((A.length : Int) + 3) = b3
    show decM 194 133 b2 b3 = (133, 2)
    unfold decM; simp
  case _ => rw [g0]; exact one 120 (by decide) (by decide) _ _ _
  case _ => rw [g0]; exact one 121 (by decide) (by decide) _ _ _
theorem quoF_runes : ∀ (rs : List Int) (A l : List UInt8) (d : Nat), (∀ r ∈ rs, r ∈ rR) → rs.length ≤ d → quoF (mkA (A ++ rs.flatMap encL)) d A.length l = mkA (l ++ (rs.flatMap quoP ++ [34]))
  | [], A, l, d, _, _ => by
    cases d with
    | zero => rfl
    | succ d =>
      unfold quoF
      rw [if_neg (by rw [mkA_size]; simp)]; rfl
  | r :: rs, A, l, d, h, hd => by
    obtain ⟨d, rfl⟩ : ∃ d', d = d' + 1 := ⟨d - 1, by simp at hd; omega⟩
    have hp := encL_pos r
    unfold quoF
    rw [List.flatMap_cons, rune_step A _ (h r (by simp))]
    dsimp only
    rw [if_pos (by rw [mkA_size]; simp; omega), if_neg (by omega), Int.toNat_natCast]
    have := quoF_runes rs (A ++ encL r) (l ++ quoP r) d (fun x hx => h x (by simp [hx])) (by simp at hd; omega)
    rw [List.append_assoc, List.length_append] at this
    rw [this, List.flatMap_cons, List.append_assoc, List.append_assoc]
theorem quoT_runes {rs : List Int} (h : ∀ r ∈ rs, r ∈ rR) : quoT (mkA (rs.flatMap encL)) = mkA ([34] ++ (rs.flatMap quoP ++ [34])) := by
  have hl : ∀ rs : List Int, rs.length ≤ (rs.flatMap encL).length := by
    intro rs
    induction rs with
    | nil => simp
    | cons r rs ih => rw [List.flatMap_cons, List.length_append, List.length_cons]; have := encL_pos r; omega
  have := quoF_runes rs [] [34] (mkA (rs.flatMap encL)).size h (hl rs)
  rw [List.nil_append] at this
  exact this
end Go.Proofs.YtcbjmggbbnpbpaaDoor.Lg
