/- Texts of steps and values: plain. -/
import Derived.Test.YtcbjmggbbnpbpaaDoorCSgOk
import Derived.Test.YtcbjmggbbnpbpaaDoorCLines
namespace Go.Proofs.YtcbjmggbbnpbpaaDoor.Lg
set_option linter.unusedSimpArgs false
set_option linter.unusedVariables false
set_option maxRecDepth 100000

def dbq (x : UInt8) : List UInt8 := if x = 39 then [39, 39] else [x]
theorem repl_index (b : UInt8) (l : List UInt8) : Lib.index (b :: l) [39] = if b = 39 then 0 else if Lib.index l [39] = -1 then -1 else Lib.index l [39] + 1 := by
  rw [Lib.index]
  by_cases h : b = 39
  · subst h
    rw [if_pos rfl, if_pos (by rfl)]
  · rw [if_neg h, if_neg (by simp [List.isPrefixOf]; exact fun e => h e.symm)]
    by_cases h2 : Lib.index l [39] = -1
    · rw [if_pos h2, if_pos (by rw [h2]; rfl)]
    · rw [if_neg h2, if_neg (fun e => h2 (beq_iff_eq.1 e))]
theorem replK_q : ∀ s : List UInt8, Lib.replaceK [39] [39, 39] (Lib.count s [39]) s = s.flatMap dbq
  | [] => rfl
  | b :: l => by
    have ih := replK_q l
    have hi := repl_index b l
    rw [List.flatMap_cons]
    by_cases h : b = 39
    · subst h
      rw [if_pos rfl] at hi
      have hc := Lib.count_hit (s := 39 :: l) (sub := [39]) (i := 0) (by simp) hi
      rw [hc, Nat.add_comm, Lib.replaceK_hit _ _ _ _ 0 hi]
      simp only [List.length_singleton, Nat.zero_add, List.drop_succ_cons, List.drop_zero, List.take_zero, List.nil_append]
      rw [ih]; rfl
    · rw [if_neg h] at hi
      have hd : dbq b = [b] := by unfold dbq; rw [if_neg h]
      rw [hd]
      by_cases h2 : Lib.index l [39] = -1
      · rw [if_pos h2] at hi
        rw [Lib.count_miss hi]
        rw [Lib.count_miss h2] at ih
        have ih : l = l.flatMap dbq := ih
        rw [← ih]; rfl
      · rw [if_neg h2] at hi
        have hge := Lib.index_ge l [39]
        obtain ⟨i, hi2⟩ : ∃ i : Nat, Lib.index l [39] = i := ⟨(Lib.index l [39]).toNat, by omega⟩
        rw [hi2] at hi
        have hi : Lib.index (b :: l) [39] = ((i + 1 : Nat) : Int) := by rw [hi]; omega
        have hc := Lib.count_hit (sub := [39]) (by simp) hi
        have hc2 := Lib.count_hit (sub := [39]) (by simp) hi2
        rw [hc2, Nat.add_comm, Lib.replaceK_hit _ _ _ _ i hi2] at ih
        rw [hc, Nat.add_comm, Lib.replaceK_hit _ _ _ _ (i + 1) hi, ← ih]
        simp only [List.length_singleton, List.drop_succ_cons, List.take_succ_cons, List.cons_append, List.nil_append]
theorem repl_q (s : List UInt8) : Lib.replaceAll s [39] [39, 39] = s.flatMap dbq := by
  unfold Lib.replaceAll Lib.replace
  rw [if_neg (by decide)]
  have : Lib.replaceNum s [39] (-1) = Lib.count s [39] := by unfold Lib.replaceNum; rw [if_pos (.inl (by decide))]
  rw [this, replK_q]
theorem dbq_len (X : List UInt8) : (X.flatMap dbq).length ≤ 2 * X.length := by
  induction X with
  | nil => simp
  | cons x X ih =>
    rw [List.flatMap_cons, List.length_append, List.length_cons]
    have : (dbq x).length ≤ 2 := by unfold dbq; by_cases h : x = 39 <;> simp [h]
    omega
theorem sz0q (s : ByteArray) : s.size = 0 ↔ s = ⟨#[]⟩ := by
  constructor
  · intro h
    apply ByteArray.ext
    exact Array.size_eq_zero_iff.mp h
  · rintro rfl; rfl
/-- may a byte stand in a word? -/
def wordB (b : Int) : Prop := (97 ≤ b ∧ b ≤ 122) ∨ (65 ≤ b ∧ b ≤ 90) ∨ (48 ≤ b ∧ b ≤ 57) ∨ b = 45
instance (b : Int) : Decidable (wordB b) := by unfold wordB; infer_instance
/-- so are all bytes from a place on -/
def bareG (s : ByteArray) : Nat → Nat → Bool
  | 0, _ => true
  | d + 1, p => if p < s.size then (if wordB (bA s p) ∨ bA s p = 95 then bareG s d (p + 1) else false) else true
def bareB (s : ByteArray) : Bool := decide (s.size ≠ 0 ∧ ¬ (48 ≤ bA s 0 ∧ bA s 0 ≤ 57)) && bareG s s.size 0
def qtT (s : ByteArray) : ByteArray := ⟨([39] ++ ((bs s).flatMap dbq ++ [39])).toArray⟩
theorem qtT_sz (s : ByteArray) : (qtT s).size ≤ 2 * s.size + 2 := by
  show ([39] ++ ((bs s).flatMap dbq ++ [39])).length ≤ _
  have := dbq_len (bs s)
  rw [bs_len] at this
  simp only [List.length_append, List.length_cons, List.length_nil]; omega
theorem decT_few : ∀ (k n : Nat), n < 10 ^ (k + 1) → (decT n).size ≤ k + 1
  | 0, n, h => by
    rw [decT, if_pos (by simpa using h)]
    show 1 ≤ _
    omega
  | k + 1, n, h => by
    rw [decT]
    by_cases h2 : n < 10
    · rw [if_pos h2]; show 1 ≤ _; omega
    · rw [if_neg h2, ByteArray.size_append]
      have := decT_few k (n / 10) (by rw [Nat.pow_succ] at h; omega)
      have : (dig (n % 10)).size = 1 := rfl
      omega
theorem numT_few (n : Int) : (numT n).size ≤ 10 := by
  unfold numT
  by_cases h : n < 0 ∨ 4294967295 < n
  · rw [if_pos h]; exact Nat.zero_le _
  · rw [if_neg h]; exact decT_few 9 _ (by omega)
/-- what a step writes -/
def segT (s : Sg) : ByteArray :=
  if s.kind = 1 then numT s.n else if s.kind = 3 then ⟨#[64]⟩ ++ numT s.n else if s.kind = 4 then ⟨#[42]⟩ else if s.kind = 5 then ⟨#[42, 42]⟩ else if bareB s.text = true then s.text else qtT s.text
theorem segT_sz (s : Sg) : (segT s).size ≤ 2 * s.text.size + 11 := by
  have h1 := numT_few s.n
  have h2 := qtT_sz s.text
  have h3 : (⟨#[64]⟩ : ByteArray).size = 1 := rfl
  have h4 : (⟨#[42]⟩ : ByteArray).size = 1 := rfl
  have h5 : (⟨#[42, 42]⟩ : ByteArray).size = 2 := rfl
  unfold segT
  (repeat' split) <;> (try rw [ByteArray.size_append]) <;> omega
def pathB : List Sg → ByteArray
  | [] => ⟨#[]⟩
  | s :: l => ⟨#[47]⟩ ++ segT s ++ pathB l
/-- what a path writes -/
def pathT (l : List Sg) : ByteArray := if l.length ≤ 60 ∧ l.all sgOk = true then (if l = [] then ⟨#[47]⟩ else pathB l) else ⟨#[]⟩
theorem ba_assoc (a b c : ByteArray) : a ++ b ++ c = a ++ (b ++ c) := by
  apply ByteArray.ext; simp [ByteArray.data_append]
theorem ba_nil (a : ByteArray) : a ++ ⟨#[]⟩ = a := by apply ByteArray.ext; simp [ByteArray.data_append]
theorem ba_nil' (a : ByteArray) : (⟨#[]⟩ : ByteArray) ++ a = a := by apply ByteArray.ext; simp [ByteArray.data_append]
theorem pathB_app : ∀ (a b : List Sg), pathB (a ++ b) = pathB a ++ pathB b
  | [], b => by rw [List.nil_append, pathB, ba_nil']
  | s :: a, b => by rw [List.cons_append, pathB, pathB, pathB_app a b, ba_assoc (⟨#[47]⟩ ++ segT s)]
theorem pathB_take {l : List Sg} {i : Nat} (h : i < l.length) : pathB (l.take (i + 1)) = pathB (l.take i) ++ ⟨#[47]⟩ ++ segT (l.getD i sg0) := by
  rw [List.take_add_one, List.getElem?_eq_getElem h, Option.toList_some, pathB_app, getD_of h, pathB, pathB, ba_nil, ba_assoc]
theorem pathB_sz : ∀ (l : List Sg), (∀ s ∈ l, s.text.size ≤ 1048576) → (pathB l).size ≤ 2097164 * l.length
  | [], _ => Nat.zero_le _
  | s :: l, h => by
    have h1 := pathB_sz l (fun x hx => h x (List.mem_cons_of_mem _ hx))
    have h2 := segT_sz s
    have h3 := h s (List.mem_cons_self ..)
    have h4 : (⟨#[47]⟩ : ByteArray).size = 1 := rfl
    rw [pathB, ByteArray.size_append, ByteArray.size_append, List.length_cons]
    omega
theorem pathB_ne {l : List Sg} (h : l ≠ []) : pathB l ≠ ⟨#[]⟩ := by
  match l, h with
  | s :: l, _ =>
    intro e
    have e := congrArg ByteArray.size e
    have h4 : (⟨#[47]⟩ : ByteArray).size = 1 := rfl
    have h5 : (⟨#[]⟩ : ByteArray).size = 0 := rfl
    rw [pathB, ByteArray.size_append, ByteArray.size_append] at e
    omega
theorem join_tl (sep : List UInt8) : ∀ (x : List UInt8) (r : List (List UInt8)), Lib.join (x :: r) sep = x ++ (r.map (sep ++ ·)).flatten
  | x, [] => by simp [Lib.join_one]
  | x, y :: r => by
    have ih := join_tl sep y r
    have : Lib.join (x :: y :: r) sep = x ++ (sep ++ Lib.join (y :: r) sep) := by
      simp [Lib.join, List.intercalate, List.intersperse]
    rw [this, ih]
    simp [List.append_assoc]
theorem path_tl : ∀ (l : List Sg), (((l.map segT).map (·.data.toList)).map ([47] ++ ·)).flatten = bs (pathB l)
  | [] => rfl
  | s :: l => by
    rw [pathB, bs_app, bs_app, ← path_tl l]
    simp [bs]
theorem path_join (l : List Sg) : (⟨#[47]⟩ : ByteArray) ++ ⟨(Lib.join ((l.map segT).map (·.data.toList)) [47]).toArray⟩ = (if l = [] then ⟨#[47]⟩ else pathB l) := by
  cases l with
  | nil => rfl
  | cons s l =>
    rw [if_neg (by simp), pathB, ← mk_bs (⟨#[47]⟩ ++ segT s ++ pathB l), ← mk_bs (⟨#[47]⟩ ++ _)]
    congr 2
    rw [bs_app, bs_app, bs_app, ← path_tl l, List.map_cons, List.map_cons, join_tl, List.append_assoc]
theorem path_len (l : List Sg) : (Lib.join ((l.map segT).map (·.data.toList)) [47]).length ≤ (pathB l).size := by
  cases l with
  | nil => exact Nat.zero_le _
  | cons s l =>
    rw [List.map_cons, List.map_cons, join_tl, path_tl, List.length_append, pathB, ByteArray.size_append, ByteArray.size_append]
    have : (segT s).data.toList.length = (segT s).size := rfl
    have := bs_len (pathB l)
    omega
end Go.Proofs.YtcbjmggbbnpbpaaDoor.Lg
