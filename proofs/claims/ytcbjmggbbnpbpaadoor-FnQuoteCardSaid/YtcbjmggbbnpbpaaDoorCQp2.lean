/- A text in quotes is read as it was, in both kinds of them, and is clean: plain. -/
import Derived.Test.YtcbjmggbbnpbpaaDoorCQp
namespace Go.Proofs.YtcbjmggbbnpbpaaDoor.Lg
set_option linter.unusedSimpArgs false
set_option linter.unusedVariables false
set_option maxRecDepth 100000
set_option maxHeartbeats 40000000

theorem hexP_list : ∀ (X A B : List UInt8) (n : Int), (∀ x ∈ X, hexD (x.toNat : Int) ≠ 99) → hexP (mkA (A ++ (X ++ B))) A.length X.length n = some (X.foldl (fun n x => 16 * n + hexD (x.toNat : Int)) n)
  | [], A, B, n, _ => rfl
  | x :: X, A, B, n, h => by
    have hb := bA_mid A (x :: X) B 0 (by simp)
    rw [Nat.add_zero] at hb
    have hb : bA (mkA (A ++ (x :: X ++ B))) (A.length : Int) = (x.toNat : Int) := hb
    rw [List.length_cons]
    unfold hexP
    rw [hb, if_neg (h x (by simp))]
    have := hexP_list X (A ++ [x]) B (16 * n + hexD (x.toNat : Int)) (fun y hy => h y (by simp [hy]))
    rw [List.append_assoc, List.length_append] at this
    exact this
def plainR (r : Int) : Prop := r = 97 ∨ r = 39 ∨ r = 32 ∨ r = 120 ∨ r = 121
theorem dq_plain (A B : List UInt8) (x : UInt8) (hx : x.toNat ≠ 10 ∧ x.toNat ≠ 92 ∧ x.toNat ≠ 34) (d : Nat) (lines : List (ByteArray × Bool)) (cur : ByteArray) (keep : Nat) :
    ∃ keep', dqGo (mkA (A ++ ([x] ++ B))) (d + 1) ⟨A.length, lines, cur, keep⟩ = dqGo (mkA (A ++ ([x] ++ B))) d ⟨A.length + 1, lines, cur ++ mkA [x], keep'⟩ := by
  have h0 := bA_mid A [x] B 0 (by simp)
  rw [Nat.add_zero] at h0
  have h0 : bA (mkA (A ++ ([x] ++ B))) (A.length : Int) = (x.toNat : Int) := h0
  have hb1 : b1 (x.toNat : Int) = mkA [x] := by unfold b1; rw [Int.toNat_natCast, UInt8.ofNat_toNat]
  rw [dqGo_s]
  dsimp only
  rw [if_pos (by rw [mkA_size]; simp), h0, if_neg (by omega), if_neg (by omega), if_neg (by omega), hb1]
  exact ⟨_, rfl⟩
theorem dq_esc (A X B : List UInt8) (t : ByteArray) (h92 : X.getD 0 0 = 92) (hlen : 2 ≤ X.length) (h10 : (X.getD 1 0).toNat ≠ 10) (he : escA (mkA (A ++ (X ++ B))) A.length = (t, ((A.length + X.length : Nat) : Int))) (d : Nat) (lines : List (ByteArray × Bool)) (cur : ByteArray) (keep : Nat) :
    ∃ keep', dqGo (mkA (A ++ (X ++ B))) (d + 1) ⟨A.length, lines, cur, keep⟩ = dqGo (mkA (A ++ (X ++ B))) d ⟨A.length + X.length, lines, cur ++ t, keep'⟩ := by
  have h0 := bA_mid A X B 0 (by omega)
  rw [Nat.add_zero, h92] at h0
  have h0 : bA (mkA (A ++ (X ++ B))) (A.length : Int) = 92 := h0
  have h1 := bA_mid A X B 1 (by omega)
  rw [show ((A.length + 1 : Nat) : Int) = (A.length : Int) + 1 by omega] at h1
  rw [dqGo_s]
  dsimp only
  rw [if_pos (by rw [mkA_size]; simp; omega), h0, if_neg (by omega), if_pos rfl, h1, if_neg (by omega), he]
  dsimp only
  rw [if_neg (by omega), show (((A.length + X.length : Nat) : Int) - (A.length : Int)).toNat = X.length by omega]
  exact ⟨_, rfl⟩
theorem esc_short (A B : List UInt8) (x : UInt8) (h : 0 ≤ escN (x.toNat : Int)) : escA (mkA (A ++ ([92, x] ++ B))) A.length = (rbM (escN (x.toNat : Int)), ((A.length + 2 : Nat) : Int)) := by
  have h0 := bA_mid A [92, x] B 0 (by simp)
  rw [Nat.add_zero] at h0
  have h0 : bA (mkA (A ++ ([92, x] ++ B))) (A.length : Int) = 92 := h0
  have h1 := bA_mid A [92, x] B 1 (by simp)
  rw [show ((A.length + 1 : Nat) : Int) = (A.length : Int) + 1 by omega] at h1
  have h1 : bA (mkA (A ++ ([92, x] ++ B))) ((A.length : Int) + 1) = (x.toNat : Int) := h1
  unfold escA
  rw [h0, h1, if_neg (by rw [mkA_size]; simp), if_pos h]
  rfl
theorem esc_hex (A B X : List UInt8) (x : UInt8) (n : Int) (h : escN (x.toNat : Int) = -1) (hm : manyN (x.toNat : Int) = X.length) (h0 : 0 < X.length) (hX : ∀ y ∈ X, hexD (y.toNat : Int) ≠ 99) (hn : X.foldl (fun n x => 16 * n + hexD (x.toNat : Int)) 0 = n) (ho : okR n) :
    escA (mkA (A ++ (([92, x] ++ X) ++ B))) A.length = (rbM n, ((A.length + ([92, x] ++ X).length : Nat) : Int)) := by
  have e : A ++ (([92, x] ++ X) ++ B) = A ++ ([92, x] ++ (X ++ B)) := by simp
  have e2 : A ++ ([92, x] ++ (X ++ B)) = (A ++ [92, x]) ++ (X ++ B) := by simp
  have h1 := bA_mid A [92, x] (X ++ B) 0 (by simp)
  rw [Nat.add_zero] at h1
  have h1 : bA (mkA (A ++ ([92, x] ++ (X ++ B)))) (A.length : Int) = 92 := h1
  have h2 := bA_mid A [92, x] (X ++ B) 1 (by simp)
  rw [show ((A.length + 1 : Nat) : Int) = (A.length : Int) + 1 by omega] at h2
  have h2 : bA (mkA (A ++ ([92, x] ++ (X ++ B)))) ((A.length : Int) + 1) = (x.toNat : Int) := h2
  have h3 := hexP_list X (A ++ [92, x]) B 0 hX
  rw [hn, ← e2, List.length_append] at h3
  have h3 : hexP (mkA (A ++ ([92, x] ++ (X ++ B)))) (A.length + 2) X.length 0 = some n := h3
  rw [e]
  unfold escA
  rw [h1, h2, if_neg (by rw [mkA_size]; simp), h, if_neg (by decide), hm, h3]
  dsimp only
  rw [if_neg (fun h => h.elim (by omega) (fun h => h ho))]
  refine congrArg (Prod.mk _) ?_
  simp; omega
theorem dq_rune (A B : List UInt8) {r : Int} (h : r ∈ rR) (d : Nat) (lines : List (ByteArray × Bool)) (cur : ByteArray) (keep : Nat) :
    ∃ keep', dqGo (mkA (A ++ (quoP r ++ B))) (d + 1) ⟨A.length, lines, cur, keep⟩ = dqGo (mkA (A ++ (quoP r ++ B))) d ⟨A.length + (quoP r).length, lines, cur ++ mkA (encL r), keep'⟩ := by
  simp only [rR, List.mem_cons, List.not_mem_nil, or_false] at h
  rcases h with rfl | rfl | rfl | rfl | rfl | rfl | rfl | rfl | rfl | rfl | rfl | rfl
  case _ => exact dq_plain A B 97 (by decide) d lines cur keep
  case _ => exact dq_plain A B 39 (by decide) d lines cur keep
  case _ => exact dq_esc A [92, 34] B (mkA (encL 34)) rfl (by decide) (by decide) (esc_short A B 34 (by decide)) d lines cur keep
  case _ => exact dq_esc A [92, 92] B (mkA (encL 92)) rfl (by decide) (by decide) (esc_short A B 92 (by decide)) d lines cur keep
  case _ => exact dq_plain A B 32 (by decide) d lines cur keep
  case _ => exact dq_esc A ([92, 120] ++ [48, 57]) B (mkA (encL 9)) rfl (by decide) (by decide) (esc_hex A B [48, 57] 120 9 (by decide) rfl (by decide) (by decide) (by decide) (by decide)) d lines cur keep
  case _ => exact dq_esc A ([92, 120] ++ [101, 57]) B (mkA (encL 233)) rfl (by decide) (by decide) (esc_hex A B [101, 57] 120 233 (by decide) rfl (by decide) (by decide) (by decide) (by decide)) d lines cur keep
  case _ => exact dq_esc A ([92, 85] ++ [48, 48, 48, 49, 102, 54, 48, 48]) B (mkA (encL 128512)) rfl (by decide) (by decide) (esc_hex A B [48, 48, 48, 49, 102, 54, 48, 48] 85 128512 (by decide) rfl (by decide) (by decide) (by decide) (by decide)) d lines cur keep
  case _ => exact dq_esc A ([92, 120] ++ [48, 48]) B (mkA (encL 0)) rfl (by decide) (by decide) (esc_hex A B [48, 48] 120 0 (by decide) rfl (by decide) (by decide) (by decide) (by decide)) d lines cur keep
  case _ => exact dq_esc A ([92, 120] ++ [56, 53]) B (mkA (encL 133)) rfl (by decide) (by decide) (esc_hex A B [56, 53] 120 133 (by decide) rfl (by decide) (by decide) (by decide) (by decide)) d lines cur keep
  case _ => exact dq_plain A B 120 (by decide) d lines cur keep
  case _ => exact dq_plain A B 121 (by decide) d lines cur keep
theorem dq_runes : ∀ (rs : List Int) (A l : List UInt8) (d keep : Nat), (∀ r ∈ rs, r ∈ rR) → rs.length < d →
    dqGo (mkA (A ++ (rs.flatMap quoP ++ [34]))) d ⟨A.length, [], mkA l, keep⟩ = (mkA (l ++ rs.flatMap encL), ((A ++ (rs.flatMap quoP ++ [34])).length : Int), 0)
  | [], A, l, d, keep, _, hd => by
    obtain ⟨d, rfl⟩ : ∃ d', d = d' + 1 := ⟨d - 1, by simp at hd; omega⟩
    have h0 := bA_mid A [34] [] 0 (by simp)
    rw [Nat.add_zero, List.append_nil] at h0
    have h0 : bA (mkA (A ++ [34])) (A.length : Int) = 34 := h0
    simp only [List.flatMap_nil, List.nil_append, List.append_nil]
    rw [dqGo_s]
    dsimp only
    rw [if_pos (by rw [mkA_size]; simp), h0, if_neg (by decide), if_neg (by decide), if_pos rfl]
    rw [List.nil_append, foldF_one, List.length_append]
    rfl
  | r :: rs, A, l, d, keep, h, hd => by
    obtain ⟨d, rfl⟩ : ∃ d', d = d' + 1 := ⟨d - 1, by simp at hd; omega⟩
    rw [List.flatMap_cons, List.append_assoc]
    obtain ⟨k, hk⟩ := dq_rune A (rs.flatMap quoP ++ [34]) (h r (by simp)) d [] (mkA l) keep
    rw [hk, mkA_app]
    have := dq_runes rs (A ++ quoP r) (l ++ encL r) d k (fun x hx => h x (by simp [hx])) (by simp at hd; omega)
    rw [List.append_assoc, List.length_append] at this
    rw [this, List.flatMap_cons, List.append_assoc]
theorem quoP_pos {r : Int} (h : r ∈ rR) : 1 ≤ (quoP r).length ∧ ∀ x ∈ quoP r, 32 ≤ x.toNat ∧ x.toNat ≤ 126 := by
  simp only [rR, List.mem_cons, List.not_mem_nil, or_false] at h
  rcases h with rfl | rfl | rfl | rfl | rfl | rfl | rfl | rfl | rfl | rfl | rfl | rfl <;> decide
theorem runes_len : ∀ {rs : List Int}, (∀ r ∈ rs, r ∈ rR) → rs.length ≤ (rs.flatMap quoP).length
  | [], _ => Nat.le_refl _
  | r :: rs, h => by
    have := runes_len (rs := rs) (fun x hx => h x (by simp [hx]))
    have := (quoP_pos (h r (by simp))).1
    rw [List.flatMap_cons, List.length_append, List.length_cons]; omega
/-- what is quoted is read as it was -/
theorem double_quo {s : ByteArray} (h : RunesP s) : doubleM (quoT s) 0 = (s, ((quoT s).size : Int), 0) := by
  obtain ⟨rs, h1, h2, rfl⟩ := runes_of h
  rw [quoT_runes h1]
  have h0 := bA_mid [] [34] (rs.flatMap quoP ++ [34]) 0 (by simp)
  have h0 : bA (mkA ([34] ++ (rs.flatMap quoP ++ [34]))) ((0 : Nat) : Int) = 34 := h0
  have hl := runes_len h1
  unfold doubleM
  rw [if_pos h0]
  exact dq_runes rs [34] [] _ 0 h1 (by rw [mkA_size]; simp only [List.length_append, List.length_cons, List.length_nil]; omega)
theorem cln_go : ∀ (X A : List UInt8) (d : Nat), (∀ x ∈ X, 32 ≤ x.toNat ∧ x.toNat ≤ 126) → X.length < d → clnG (mkA (A ++ X)) d A.length = (A ++ X).length
  | [], A, d, _, hd => by
    obtain ⟨d, rfl⟩ : ∃ d', d = d' + 1 := ⟨d - 1, by simp at hd; omega⟩
    rw [clnG_s, if_neg (by rw [mkA_size]; simp)]; rfl
  | x :: X, A, d, h, hd => by
    obtain ⟨d, rfl⟩ : ∃ d', d = d' + 1 := ⟨d - 1, by simp at hd; omega⟩
    have hx := h x (by simp)
    have hb := bA_mid A [x] X 0 (by simp)
    rw [Nat.add_zero] at hb
    have hb : bA (mkA (A ++ (x :: X))) (A.length : Int) = (x.toNat : Int) := hb
    have hr : runeA (mkA (A ++ (x :: X))) (A.length : Int) = ((x.toNat : Int), 1) := by
      unfold runeA
      rw [spotI_in (by omega) (by rw [mkA_size]; simp; omega), hb]
      unfold decM; rw [if_neg (by omega), if_pos (by omega)]
    rw [clnG_s, if_pos (by rw [mkA_size]; simp), hr]
    dsimp only
    rw [if_neg (fun h => h.elim (by omega) (fun h => h (.inl (.inr (.inr ⟨by omega, by omega⟩)))))]
    have := cln_go X (A ++ [x]) d (fun y hy => h y (by simp [hy])) (by simp at hd; omega)
    rw [List.append_assoc, List.length_append] at this
    exact this
theorem clean_quo {s : ByteArray} (h : RunesP s) : clnM (quoT s) = (quoT s).size := by
  obtain ⟨rs, h1, h2, rfl⟩ := runes_of h
  rw [quoT_runes h1]
  refine cln_go ([34] ++ (rs.flatMap quoP ++ [34])) [] (([34] ++ (rs.flatMap quoP ++ [34])).length + 1) (fun x hx => ?_) (Nat.lt_succ_self _)
  rcases List.mem_append.1 hx with hx | hx
  · rw [List.mem_singleton.1 hx]; decide
  rcases List.mem_append.1 hx with hx | hx
  · obtain ⟨r, hr, hx⟩ := List.mem_flatMap.1 hx
    exact (quoP_pos (h1 r hr)).2 x hx
  · rw [List.mem_singleton.1 hx]; decide
/-- a byte as a text in single quotes has it -/
def dbl (x : UInt8) : List UInt8 := if x = 39 then [39, 39] else [x]
theorem sg_bytes : ∀ (X A l : List UInt8) (d keep : Nat), (∀ x ∈ X, x.toNat ≠ 10) → X.length < d →
    sgGo (mkA (A ++ (X.flatMap dbl ++ [39, 32, 120]))) d ⟨A.length, [], mkA l, keep⟩ = (mkA (l ++ X), (((A ++ X.flatMap dbl).length : Nat) : Int) + 1, 0)
  | [], A, l, d, keep, _, hd => by
    obtain ⟨d, rfl⟩ : ∃ d', d = d' + 1 := ⟨d - 1, by simp at hd; omega⟩
    have h0 := bA_mid A [39, 32, 120] [] 0 (by simp)
    have h1 := bA_mid A [39, 32, 120] [] 1 (by simp)
    rw [List.append_nil] at h0 h1
    rw [Nat.add_zero] at h0
    rw [show ((A.length + 1 : Nat) : Int) = (A.length : Int) + 1 by omega] at h1
    have h0 : bA (mkA (A ++ [39, 32, 120])) (A.length : Int) = 39 := h0
    have h1 : bA (mkA (A ++ [39, 32, 120])) ((A.length : Int) + 1) = 32 := h1
    simp only [List.flatMap_nil, List.nil_append, List.append_nil]
    rw [sgGo_s]
    dsimp only
    rw [if_pos (by rw [mkA_size]; simp), h0, h1, if_neg (by decide), if_pos rfl, if_neg (by decide), List.nil_append, foldF_one]
  | x :: X, A, l, d, keep, h, hd => by
    obtain ⟨d, rfl⟩ : ∃ d', d = d' + 1 := ⟨d - 1, by simp at hd; omega⟩
    have hx := h x (by simp)
    rw [List.flatMap_cons, List.append_assoc]
    by_cases h39 : x = 39
    · subst h39
      have hd2 : dbl 39 = [39, 39] := rfl
      rw [hd2]
      have h0 := bA_mid A [39, 39] (X.flatMap dbl ++ [39, 32, 120]) 0 (by simp)
      have h1 := bA_mid A [39, 39] (X.flatMap dbl ++ [39, 32, 120]) 1 (by simp)
      rw [Nat.add_zero] at h0
      rw [show ((A.length + 1 : Nat) : Int) = (A.length : Int) + 1 by omega] at h1
      have h0 : bA (mkA (A ++ ([39, 39] ++ (X.flatMap dbl ++ [39, 32, 120])))) (A.length : Int) = 39 := h0
      have h1 : bA (mkA (A ++ ([39, 39] ++ (X.flatMap dbl ++ [39, 32, 120])))) ((A.length : Int) + 1) = 39 := h1
      rw [sgGo_s]
      dsimp only
      rw [if_pos (by rw [mkA_size]; simp), h0, h1, if_neg (by decide), if_pos rfl, if_pos rfl]
      have := sg_bytes X (A ++ [39, 39]) (l ++ [39]) d (mkA l ++ ⟨#[39]⟩).size (fun y hy => h y (by simp [hy])) (by simp at hd; omega)
      rw [List.append_assoc, List.length_append] at this
      unfold QS.put
      simp only [if_true]
      rw [show (mkA l ++ ⟨#[39]⟩) = mkA (l ++ [39]) from mkA_app l [39]]
      rw [show mkA (l ++ [39]) = mkA l ++ ⟨#[39]⟩ from (mkA_app l [39]).symm] at this ⊢
      refine this.trans ?_
      simp [List.append_assoc]
    · have hd2 : dbl x = [x] := by unfold dbl; rw [if_neg h39]
      rw [hd2]
      have h0 := bA_mid A [x] (X.flatMap dbl ++ [39, 32, 120]) 0 (by simp)
      rw [Nat.add_zero] at h0
      have h0 : bA (mkA (A ++ ([x] ++ (X.flatMap dbl ++ [39, 32, 120])))) (A.length : Int) = (x.toNat : Int) := h0
      have hx39 : ¬ (x.toNat : Int) = 39 := fun e => h39 (UInt8.toNat_inj.1 (by show x.toNat = 39; omega))
      have hb1 : b1 (x.toNat : Int) = mkA [x] := by unfold b1; rw [Int.toNat_natCast, UInt8.ofNat_toNat]
      rw [sgGo_s]
      dsimp only
      rw [if_pos (by rw [mkA_size]; simp), h0, if_neg (by omega), if_neg hx39, hb1]
      unfold QS.put
      dsimp only
      rw [mkA_app]
      have := sg_bytes X (A ++ [x]) (l ++ [x]) d (if (decide (¬(x.toNat : Int) = 32 ∧ ¬(x.toNat : Int) = 9)) = true then (mkA (l ++ [x])).size else keep) (fun y hy => h y (by simp [hy])) (by simp at hd; omega)
      rw [List.append_assoc, List.length_append] at this
      refine this.trans ?_
      simp [List.append_assoc]
theorem encL_nobr {r : Int} (h : r ∈ rR) : ∀ x ∈ encL r, x.toNat ≠ 10 := by
  simp only [rR, List.mem_cons, List.not_mem_nil, or_false] at h
  rcases h with rfl | rfl | rfl | rfl | rfl | rfl | rfl | rfl | rfl | rfl | rfl | rfl <;> decide
theorem runes_nobr {s : ByteArray} (h : RunesP s) : ∀ x ∈ bs s, x.toNat ≠ 10 := by
  obtain ⟨rs, h1, h2, rfl⟩ := runes_of h
  intro x hx
  rw [bs_mk] at hx
  obtain ⟨r, hr, hx⟩ := List.mem_flatMap.1 hx
  exact encL_nobr (h1 r hr) x hx
theorem single_quo {s : ByteArray} (h : RunesP s) : singleM (mkA ([39] ++ ((bs s).flatMap dbl ++ [39, 32, 120]))) 0 = (s, (([39] ++ (bs s).flatMap dbl).length : Int) + 1, 0) := by
  have h0 := bA_mid [] [39] ((bs s).flatMap dbl ++ [39, 32, 120]) 0 (by simp)
  have h0 : bA (mkA ([39] ++ ((bs s).flatMap dbl ++ [39, 32, 120]))) ((0 : Nat) : Int) = 39 := h0
  have hl : ∀ X : List UInt8, X.length ≤ (X.flatMap dbl).length := by
    intro X
    induction X with
    | nil => simp
    | cons x X ih =>
      rw [List.flatMap_cons, List.length_append, List.length_cons]
      have : 1 ≤ (dbl x).length := by unfold dbl; by_cases h : x = 39 <;> simp [h]
      omega
  unfold singleM
  rw [if_pos h0]
  have := sg_bytes (bs s) [39] [] ((mkA ([39] ++ ((bs s).flatMap dbl ++ [39, 32, 120]))).size + 1) 0 (runes_nobr h) (by rw [mkA_size]; have := hl (bs s); simp only [List.length_append, List.length_cons, List.length_nil]; omega)
  rw [List.nil_append, show mkA (bs s) = s from mk_bs s] at this
  exact this
end Go.Proofs.YtcbjmggbbnpbpaaDoor.Lg
