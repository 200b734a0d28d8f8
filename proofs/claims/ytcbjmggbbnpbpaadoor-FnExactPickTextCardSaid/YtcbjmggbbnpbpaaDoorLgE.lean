/- The logical machine, part E: an evaluator of the model's code over logical values, proved sound, and its equations. No condition. -/
import Derived.Test.YtcbjmggbbnpbpaaDoorLgD
import Derived.FnData
import Derived.OpenShut
import Derived.MakeChecks
namespace Go.Proofs.YtcbjmggbbnpbpaaDoor.Lg
set_option linter.unusedSimpArgs false
set_option linter.unusedVariables false

/-- the result is there and is as 'Q' says -/
def Ret (Q : V → LH → Prop) (r : Option (V × LH)) : Prop := ∃ v H, r = some (v, H) ∧ Q v H
theorem Ret_some {Q : V → LH → Prop} {v : V} {H : LH} : Ret Q (some (v, H)) = Q v H := by
  apply propext
  constructor
  · rintro ⟨v', H', h, q⟩
    injection h with h; injection h with h1 h2
    subst h1; subst h2; exact q
  · intro q; exact ⟨v, H, rfl, q⟩
theorem Ret.mono {Q Q' : V → LH → Prop} {r : Option (V × LH)} (h : Ret Q r) (k : ∀ v H, Q v H → Q' v H) : Ret Q' r := by
  obtain ⟨v, H, e, q⟩ := h; exact ⟨v, H, e, k v H q⟩
theorem Ret_ite {Q : V → LH → Prop} {c : Prop} [Decidable c] {a b : Option (V × LH)} (h1 : c → Ret Q a) (h2 : ¬ c → Ret Q b) : Ret Q (if c then a else b) := by
  split
  · exact h1 ‹_›
  · exact h2 ‹_›
/-- a test on the left of an equation ('split' goes through nested tests too often) -/
theorem ite_E {α : Type} {c : Prop} [Decidable c] {a b r : α} (h1 : c → a = r) (h2 : ¬ c → b = r) : (if c then a else b) = r := by
  by_cases h : c
  · rw [if_pos h]; exact h1 h
  · rw [if_neg h]; exact h2 h
theorem ite_E2 {α : Type} {c : Prop} [Decidable c] {a b r : α} (h2 : ¬ c → b = r) (h1 : c → a = r) : (if c then a else b) = r := ite_E h1 h2
theorem Ret_cg {Q : V → LH → Prop} {r r' : Option (V × LH)} {d' : Nat} (h0 : dumA = d') (h : r = r') : Ret Q r = Ret Q r' := by rw [h]
/-- behind a call -/
theorem zS_call {P Q : V → LH → Prop} {F : Fin} {X : Ctx} {ops : List Oper} {d : Option Tmp} {rest : List Oper} {l : Loc} {e : Env} {k : List K} {r : Option (V × LH)}
    (h : Ret P r) (hk : ∀ v H, P v H → Ret Q (zS F X ops d rest l e k (some (v, H)))) : Ret Q (zS F X ops d rest l e k r) := by
  obtain ⟨v, H, rfl, p⟩ := h; exact hk v H p

/-- at a loop: its body and what is behind it get names -/
theorem at_loopE {F : Fin} {X : Ctx} {c : Code} {n : Nat} {k : List K} {e : Env} {H : LH} {r : Option (V × LH)}
    (h : ∀ c0 R, c = c0 → k = R → zEv F X (K.code (Code.loop c0) :: K.blk n :: R) .nrm e H = r) : zEv F X (K.code (Code.loop c) :: K.blk n :: k) .nrm e H = r := h c k rfl rfl
theorem at_loopR {F : Fin} {X : Ctx} {c : Code} {n : Nat} {k : List K} {e : Env} {H : LH} {Q : V → LH → Prop}
    (h : ∀ c0 R, c = c0 → k = R → Ret Q (zEv F X (K.code (Code.loop c0) :: K.blk n :: R) .nrm e H)) : Ret Q (zEv F X (K.code (Code.loop c) :: K.blk n :: k) .nrm e H) := h c k rfl rfl
/-- a round -/
theorem zEv_round {F : Fin} {P : Program} {C : Cfg} {ok : FuncId → Bool} {keep : List Tmp} {fl : Nat} {k : List K} {e : Env} {H : LH} {c c0 : Code} (h : c = c0) :
    zEv F (mkR P C ok keep fl) (.code (.loop c0) :: k) .nrm e H = zEv F (mkR P C ok keep fl) (.code c :: .lp c0 :: k) .nrm e H := by
  subst h; exact zEv_loop
/-! ### rows of cells -/
def rows {α : Type} (enc : α → List V) : List α → List V
  | [] => []
  | x :: xs => enc x ++ rows enc xs
section
variable {α : Type} {enc : α → List V} {z : Nat}
theorem rows_nil : rows enc [] = [] := rfl
theorem rows_cons {x : α} {xs : List α} : rows enc (x :: xs) = enc x ++ rows enc xs := rfl
theorem rows_one {x : α} : rows enc [x] = enc x := by simp [rows]
theorem rows_app {xs ys : List α} : rows enc (xs ++ ys) = rows enc xs ++ rows enc ys := by
  induction xs with
  | nil => rfl
  | cons x xs ih => simp [rows, ih]
theorem rows_len (hz : ∀ x, (enc x).length = z) (xs : List α) : (rows enc xs).length = xs.length * z := by
  induction xs with
  | nil => simp [rows]
  | cons x xs ih => simp [rows, ih, hz, Nat.succ_mul]; omega
theorem rows_split {xs : List α} {i : Nat} (hi : i < xs.length) : rows enc xs = rows enc (xs.take i) ++ (enc xs[i] ++ rows enc (xs.drop (i + 1))) := by
  conv => lhs; rw [← List.take_append_drop i xs, rows_app, List.drop_eq_getElem_cons hi, rows_cons]
theorem rows_take (hz : ∀ x, (enc x).length = z) (xs : List α) (n : Nat) : (rows enc xs).take (n * z) = rows enc (xs.take n) := by
  by_cases h : n ≤ xs.length
  · conv => lhs; rw [← List.take_append_drop n xs, rows_app]
    rw [show n * z = (rows enc (xs.take n)).length by rw [rows_len hz, List.length_take, Nat.min_eq_left h], List.take_left]
  · rw [List.take_of_length_le (by rw [rows_len hz]; exact Nat.mul_le_mul_right _ (by omega)), List.take_of_length_le (by omega)]
theorem rows_drop (hz : ∀ x, (enc x).length = z) (xs : List α) (n : Nat) : (rows enc xs).drop (n * z) = rows enc (xs.drop n) := by
  by_cases h : n ≤ xs.length
  · conv => lhs; rw [← List.take_append_drop n xs, rows_app]
    rw [show n * z = (rows enc (xs.take n)).length by rw [rows_len hz, List.length_take, Nat.min_eq_left h], List.drop_left]
  · rw [List.drop_of_length_le (by rw [rows_len hz]; exact Nat.mul_le_mul_right _ (by omega)), List.drop_of_length_le (by omega)]; rfl
theorem rows_row (hz : ∀ x, (enc x).length = z) {xs : List α} {i : Nat} (hi : i < xs.length) : ((rows enc xs).drop (i * z)).take z = enc xs[i] := by
  rw [rows_drop hz, List.drop_eq_getElem_cons hi, rows_cons, show z = (enc xs[i]).length from (hz _).symm, List.take_left]
theorem rows_cell (hz : ∀ x, (enc x).length = z) {xs : List α} {i j : Nat} (hi : i < xs.length) (hj : j < z) : (rows enc xs)[i * z + j]? = (enc xs[i])[j]? := by
  rw [rows_split hi, List.getElem?_append_right (by rw [rows_len hz, List.length_take, Nat.min_eq_left (by omega)]; omega),
    show i * z + j - (rows enc (xs.take i)).length = j by rw [rows_len hz, List.length_take, Nat.min_eq_left (by omega)]; omega,
    List.getElem?_append_left (by rw [hz]; exact hj)]
theorem putAt_len (cs : List V) (o : Nat) (ws : List V) : (putAt cs o ws).length = cs.length := by
  induction ws generalizing cs o with
  | nil => rfl
  | cons w ws ih => simp [putAt, ih]
theorem putAt_left {A B : List V} {o : Nat} {ws : List V} (h : o + ws.length ≤ A.length) : putAt (A ++ B) o ws = putAt A o ws ++ B := by
  induction ws generalizing A o with
  | nil => rfl
  | cons w ws ih =>
    simp only [putAt, List.length_cons] at *
    rw [List.set_append_left _ _ (by omega), ih (by simp; omega)]
theorem putAt_right {A B : List V} {o : Nat} {ws : List V} : putAt (A ++ B) (A.length + o) ws = A ++ putAt B o ws := by
  induction ws generalizing B o with
  | nil => rfl
  | cons w ws ih =>
    simp only [putAt]
    rw [List.set_append_right _ _ (by omega), show A.length + o - A.length = o by omega, show A.length + o + 1 = A.length + (o + 1) by omega, ih]
theorem rows_set {xs : List α} {i : Nat} {y : α} (hi : i < xs.length) : rows enc (xs.set i y) = rows enc (xs.take i) ++ (enc y ++ rows enc (xs.drop (i + 1))) := by
  rw [rows_split (xs := xs.set i y) (i := i) (by simpa using hi)]
  simp [List.take_set_of_le, List.drop_set_of_lt]
theorem rows_put (hz : ∀ x, (enc x).length = z) {xs : List α} {i j : Nat} (hi : i < xs.length) {ws : List V} (hj : j + ws.length ≤ z) (y : α) (hy : enc y = putAt (enc xs[i]) j ws) :
    putAt (rows enc xs) (i * z + j) ws = rows enc (xs.set i y) := by
  rw [rows_set hi, rows_split hi, hy, show i * z + j = (rows enc (xs.take i)).length + j by rw [rows_len hz, List.length_take, Nat.min_eq_left (by omega)],
    putAt_right, putAt_left (by rw [hz]; exact hj)]
theorem rows_replicate {x : α} {n : Nat} : rows enc (List.replicate n x) = (List.replicate n (enc x)).flatten := by
  induction n with
  | zero => rfl
  | succ n ih => rw [List.replicate_succ, rows_cons, ih, List.replicate_succ, List.flatten_cons]
end

/-! ### slices -/
def blkV : V → Nat
  | .sl b _ _ _ _ => b
  | _ => 0
def offV : V → Nat
  | .sl _ o _ _ _ => o
  | _ => 0
def isSl : V → Bool
  | .sl _ _ _ _ _ => true
  | .nilsl => true
  | .emp => true
  | _ => false
/-- the slice 'v' reads, in this heap, as 'xs' -/
def At {α : Type} (H : LH) (enc : α → List V) (z : Nat) (v : V) (xs : List α) : Prop :=
  (xs = [] ∧ (v = .nilsl ∨ v = .emp)) ∨ ∃ b o c l, v = .sl b o z xs.length c ∧ H.cellsAt b = some l ∧ o + xs.length * z ≤ l.length ∧ (l.drop o).take (xs.length * z) = rows enc xs
/-- likewise, and the block is the slice's alone, and not ahead of 'fl' -/
def Own {α : Type} (fl : Nat) (H : LH) (enc : α → List V) (z : Nat) (v : V) (xs : List α) : Prop :=
  (xs = [] ∧ (v = .nilsl ∨ v = .emp)) ∨ ∃ b, v = .sl b 0 z xs.length xs.length ∧ H.cellsAt b = some (rows enc xs) ∧ fl ≤ b
/-- the heap goes on where this one ends -/
def Hx (H H' : LH) : Prop := ∃ L, H' = H ++ L
theorem Hx.refl (H : LH) : Hx H H := ⟨[], by simp⟩
theorem Hx.trans {A B C : LH} (h : Hx A B) (k : Hx B C) : Hx A C := by
  obtain ⟨L, rfl⟩ := h; obtain ⟨M, rfl⟩ := k; exact ⟨L ++ M, by simp⟩
theorem Hx.app {H L : LH} : Hx H (H ++ L) := ⟨L, rfl⟩
theorem Hx.cells {H H' : LH} (h : Hx H H') {b : Nat} {l : List V} (e : H.cellsAt b = some l) : H'.cellsAt b = some l := by
  obtain ⟨L, rfl⟩ := h; exact cellsAt_left e
theorem Hx.len {H H' : LH} (h : Hx H H') : H.length ≤ H'.length := by
  obtain ⟨L, rfl⟩ := h; simp
theorem Hx.set {H H' : LH} (h : Hx H H') {b : Nat} {x : Blk} (hb : H.length ≤ b) : Hx H (H'.set b x) := by
  obtain ⟨L, rfl⟩ := h; exact ⟨L.set (b - H.length) x, by rw [List.set_append_right _ _ hb]⟩
section
variable {α : Type} {enc : α → List V} {z : Nat} {H : LH} {v : V} {xs : List α}
theorem At.ext {H' : LH} (h : At H enc z v xs) (e : Hx H H') : At H' enc z v xs := by
  rcases h with h | ⟨b, o, c, l, h1, h2, h3⟩
  · exact .inl h
  · exact .inr ⟨b, o, c, l, h1, e.cells h2, h3⟩
theorem At.left {L : LH} (h : At H enc z v xs) : At (H ++ L) enc z v xs := h.ext Hx.app
theorem Own.at {fl : Nat} (h : Own fl H enc z v xs) (hz : ∀ x, (enc x).length = z) : At H enc z v xs := by
  rcases h with h | ⟨b, h1, h2, _⟩
  · exact .inl h
  · refine .inr ⟨b, 0, _, _, h1, h2, ?_, ?_⟩
    · rw [rows_len hz]; omega
    · rw [List.drop_zero, List.take_of_length_le (by rw [rows_len hz]; exact Nat.le_refl _)]
theorem Own.ext {fl : Nat} {H' : LH} (h : Own fl H enc z v xs) (e : Hx H H') : Own fl H' enc z v xs := by
  rcases h with h | ⟨b, h1, h2, h3⟩
  · exact .inl h
  · exact .inr ⟨b, h1, e.cells h2, h3⟩
theorem At.cells (h : At H enc z v xs) : slCells H v = some (rows enc xs) := by
  rcases h with ⟨rfl, rfl | rfl⟩ | ⟨b, o, c, l, rfl, h1, h2, h3⟩
  · rfl
  · rfl
  · simp only [slCells, h1, optCut, cut, grd, h2, if_true, h3]
theorem At.src (h : At H enc z v xs) : srcOk z v = true := by
  rcases h with ⟨rfl, rfl | rfl⟩ | ⟨b, o, c, l, rfl, h1, h2, h3⟩
  · rfl
  · rfl
  · simp [srcOk]
/-- a block is set that the slice does not read -/
theorem At.set (h : At H enc z v xs) {b : Nat} {x : Blk} (hb : ∀ c o n m, v = .sl c o z n m → c ≠ b) : At (H.set b x) enc z v xs := by
  rcases h with h | ⟨b', o, c, l, h1, h2, h3, h4⟩
  · exact .inl h
  · exact .inr ⟨b', o, c, l, h1, by rw [cellsAt_set_ne (fun e => hb _ _ _ _ h1 e.symm)]; exact h2, h3, h4⟩
theorem At.new {L : LH} (hz : ∀ x, (enc x).length = z) : At (H ++ .cells (rows enc xs) :: L) enc z (.sl H.length 0 z xs.length xs.length) xs :=
  .inr ⟨H.length, 0, _, _, rfl, by rw [cellsAt_app0]; rfl, by rw [rows_len hz]; omega, by rw [List.drop_zero, List.take_of_length_le (by rw [rows_len hz]; exact Nat.le_refl _)]⟩
theorem At.isTup (h : At H enc z v xs) : v.isTup = false := by
  rcases h with ⟨_, rfl | rfl⟩ | ⟨b, o, c, l, rfl, _⟩ <;> rfl
theorem At.one (h : At H enc z v xs) : v.cells = [v] := by
  rcases h with ⟨_, rfl | rfl⟩ | ⟨b, o, c, l, rfl, _⟩ <;> rfl
theorem At.len (h : At H enc z v xs) (K : LH) : lenV K v = some xs.length := by
  rcases h with ⟨rfl, rfl | rfl⟩ | ⟨b, o, c, l, rfl, _⟩ <;> rfl
theorem At.lenOk (h : At H enc z v xs) {T : TypeId → Option TI} {t : TypeId} {s b : Nat} {e : TypeId} {zz : Option V} (hT : T t = some ⟨s, b, .slice e, zz⟩) : lenOk T t v = true := by
  rcases h with ⟨rfl, rfl | rfl⟩ | ⟨b, o, c, l, rfl, _⟩ <;> simp only [Lg.lenOk, hT]
theorem At.idx (h : At H enc z v xs) {T : TypeId → Option TI} {t : TypeId} (hT : sizeO (elemI T t) = some z) (k : IntKind) (n : Int) (h0 : 0 ≤ n) (h1 : n < (xs.length : Int)) :
    indexA T t v (.int k n) = some (.ptr (blkV v) (offV v + n.toNat * z)) := by
  rcases h with ⟨rfl, _⟩ | ⟨b, o, c, l, rfl, _⟩
  · simp at h1; omega
  · simp only [indexA, grd, hT, if_true, h0, h1, and_self, blkV, offV]
/-- the block of what is read -/
def conV (H : LH) (v : V) : List V := (H.cellsAt (blkV v)).getD []
theorem At.con (h : At H enc z v xs) (h1 : 0 < xs.length) : H.cellsAt (blkV v) = some (conV H v) := by
  rcases h with ⟨rfl, _⟩ | ⟨b, o, c, l, rfl, hb, _⟩
  · simp at h1
  · simp only [blkV, conV, hb, Option.getD_some]
theorem At.blk (h : At H enc z v xs) (h1 : 0 < xs.length) : blkV v < H.length := cellsAt_lt (h.con h1)
theorem cut_row {l : List V} {o n z i j m : Nat} (hl : o + n * z ≤ l.length) (hi : i < n) (hj : j + m ≤ z) : (((l.drop o).take (n * z)).drop (i * z + j)).take m = (l.drop (o + i * z + j)).take m := by
  have h1 : (i + 1) * z ≤ n * z := Nat.mul_le_mul_right _ hi
  rw [Nat.succ_mul] at h1
  rw [List.drop_take, List.take_take, List.drop_drop, Nat.min_eq_left (by omega), Nat.add_assoc]
theorem At.row (h : At H enc z v xs) (hz : ∀ x, (enc x).length = z) {i : Nat} (hi : i < xs.length) :
    offV v + i * z + z ≤ (conV H v).length ∧ ((conV H v).drop (offV v + i * z)).take z = enc xs[i] := by
  rcases h with ⟨rfl, _⟩ | ⟨b, o, c, l, rfl, hb, hl, hr⟩
  · simp at hi
  · have h1 : (i + 1) * z ≤ xs.length * z := Nat.mul_le_mul_right _ hi
    rw [Nat.succ_mul] at h1
    have e : conV H (V.sl b o z xs.length c) = l := by simp only [conV, blkV, hb, Option.getD_some]
    rw [e]
    simp only [offV]
    refine ⟨by omega, ?_⟩
    have hc := cut_row (z := z) (j := 0) (m := z) hl hi (by omega)
    rw [Nat.add_zero, Nat.add_zero] at hc
    rw [← rows_row hz hi, ← hr, ← hc]
theorem At.load (h : At H enc z v xs) (hz : ∀ x, (enc x).length = z) {i : Nat} (hi : i < xs.length) (K : LH) : cellO K true (offV v + i * z) z (some (conV H v)) = some (.agg (enc xs[i]), K) := by
  obtain ⟨h1, h2⟩ := h.row hz hi
  simp only [cellO, grd, h1, if_true, h2]
theorem At.loadF (h : At H enc z v xs) (hz : ∀ x, (enc x).length = z) {i j : Nat} (hi : i < xs.length) (hj : j < z) (n : Nat) (K : LH) :
    cellO K false (offV v + i * z + j) n (some (conV H v)) = some ((enc xs[i])[j]'(by rw [hz]; exact hj), K) := by
  obtain ⟨h1, h2⟩ := h.row hz hi
  have e : (conV H v)[offV v + i * z + j]? = some ((enc xs[i])[j]'(by rw [hz]; exact hj)) := by
    have e2 : (enc xs[i])[j]? = some ((enc xs[i])[j]'(by rw [hz]; exact hj)) := List.getElem?_eq_getElem _
    rw [← e2, ← h2, List.getElem?_take, if_pos hj, List.getElem?_drop]
  simp only [cellO, e]
end
theorem getD_of {α : Type} {xs : List α} {i : Nat} (hi : i < xs.length) (d : α) : xs.getD i d = xs[i] := by
  rw [List.getD_eq_getElem?_getD, List.getElem?_eq_getElem hi, Option.getD_some]
section
variable {α : Type} {enc : α → List V} {z : Nat} {H : LH} {v : V} {xs : List α}
theorem At.loadD (h : At H enc z v xs) (hz : ∀ x, (enc x).length = z) (d : α) (i : Nat) (hi : i < xs.length) (K : LH) : cellO K true (offV v + i * z) z (some (conV H v)) = some (.agg (enc (xs.getD i d)), K) := by
  rw [getD_of hi, h.load hz hi]
theorem At.loadDF (h : At H enc z v xs) (hz : ∀ x, (enc x).length = z) (d : α) (w : α → V) {j : Nat} (hw : ∀ x, (enc x)[j]? = some (w x)) (i : Nat) (hi : i < xs.length) (n : Nat) (K : LH) :
    cellO K false (offV v + i * z + j) n (some (conV H v)) = some (w (xs.getD i d), K) := by
  have hj : j < z := by
    have := (List.getElem?_eq_some_iff.1 (hw d)).1
    rw [hz] at this; exact this
  rw [h.loadF hz hi hj, getD_of hi]
  have := hw xs[i]
  rw [List.getElem?_eq_getElem (by rw [hz]; exact hj)] at this
  injection this with this
  rw [this]
theorem At.loadD0 (h : At H enc z v xs) (hz : ∀ x, (enc x).length = z) (d : α) (w : α → V) (hw : ∀ x, (enc x)[0]? = some (w x)) (i : Nat) (hi : i < xs.length) (n : Nat) (K : LH) :
    cellO K false (offV v + i * z) n (some (conV H v)) = some (w (xs.getD i d), K) := by
  have := h.loadDF hz d w (j := 0) hw i hi n K
  simpa using this
theorem At.load1 (h : At H enc 1 v xs) (d : α) (w : α → V) (hw : ∀ x, enc x = [w x]) (i : Nat) (hi : i < xs.length) (n : Nat) (K : LH) :
    cellO K false (offV v + i) n (some (conV H v)) = some (w (xs.getD i d), K) := by
  have := h.loadDF (fun x => by rw [hw]; rfl) d w (j := 0) (fun x => by rw [hw]; rfl) i hi n K
  simpa using this
theorem rows_putD (hz : ∀ x, (enc x).length = z) {j : Nat} {ws : List V} (d : α) (i : Nat) (hi : i < xs.length) (hj : j + ws.length ≤ z) (y : α) (hy : enc y = putAt (enc (xs.getD i d)) j ws) :
    putAt (rows enc xs) (i * z + j) ws = rows enc (xs.set i y) := rows_put hz hi hj y (by rw [hy, getD_of hi])
end
theorem copy_step {α : Type} {xs : List α} {i : Nat} {d e : α} (hi : i < xs.length) : (xs.take i ++ List.replicate (xs.length - i) d).set i (xs.getD i e) = xs.take (i + 1) ++ List.replicate (xs.length - (i + 1)) d := by
  have h1 : (xs.take i).length = i := by rw [List.length_take]; omega
  rw [getD_of hi, List.set_append_right _ _ (by omega), h1, Nat.sub_self, show xs.length - i = (xs.length - (i + 1)) + 1 by omega, List.replicate_succ, List.set_cons_zero, List.take_succ_eq_append_getElem hi, List.append_assoc]
  rfl
theorem map_get {α : Type} {f : α → α} {xs : List α} {i : Nat} {d : α} (hi : i < xs.length) : ((xs.take i).map f ++ xs.drop i).getD i d = xs[i] := by
  rw [getD_of (by simp; omega), List.getElem_append_right (by rw [List.length_map, List.length_take]; omega)]
  simp [Nat.min_eq_left (Nat.le_of_lt hi)]
theorem map_step {α : Type} {f : α → α} {xs : List α} {i : Nat} (hi : i < xs.length) : ((xs.take i).map f ++ xs.drop i).set i (f xs[i]) = (xs.take (i + 1)).map f ++ xs.drop (i + 1) := by
  have h1 : ((xs.take i).map f).length = i := by simp; omega
  rw [List.set_append_right _ _ (by omega), h1, Nat.sub_self, List.drop_eq_getElem_cons hi, List.set_cons_zero, List.take_succ_eq_append_getElem hi, List.map_append, List.append_assoc]
  rfl
/-- the sum of measures -/
def sumZ {α : Type} (w : α → Int) : List α → Int
  | [] => 0
  | x :: xs => w x + sumZ w xs
theorem sumZ_nil {α : Type} {w : α → Int} : sumZ w [] = 0 := rfl
theorem sumZ_cons {α : Type} {w : α → Int} {x : α} {xs : List α} : sumZ w (x :: xs) = w x + sumZ w xs := rfl
theorem sumZ_nonneg {α : Type} {w : α → Int} (h : ∀ x, 0 ≤ w x) (xs : List α) : 0 ≤ sumZ w xs := by
  induction xs with
  | nil => exact Int.le_refl _
  | cons x xs ih => have := h x; simp only [sumZ]; omega
/-- what marks write: counted on from 'k', 'f' for each element -/
def marksF {α : Type} (mk : Int → α) (f : Int) : Nat → Int → List α
  | 0, _ => []
  | n + 1, k => mk k :: marksF mk f n (k + f)
theorem marksF_len {α : Type} {mk : Int → α} {f : Int} : ∀ (n : Nat) (k : Int), (marksF mk f n k).length = n
  | 0, _ => rfl
  | n + 1, k => by simp [marksF, marksF_len n]
theorem marksF_get {α : Type} {mk : Int → α} {f : Int} : ∀ (n : Nat) (k : Int) (i : Nat) (d : α), i < n → (marksF mk f n k).getD i d = mk (k + i * f)
  | 0, _, _, _, h => absurd h (Nat.not_lt_zero _)
  | n + 1, k, 0, d, _ => by simp [marksF]
  | n + 1, k, i + 1, d, h => by
    have := marksF_get (mk := mk) (f := f) n (k + f) i d (by omega)
    have e : k + f + (i : Int) * f = k + ((i + 1 : Nat) : Int) * f := by
      rw [show ((i + 1 : Nat) : Int) = i + 1 from rfl, Int.add_mul, Int.one_mul]; omega
    rw [marksF, List.getD_cons_succ, this, e]
theorem marksF_last {α : Type} {mk : Int → α} {f : Int} : ∀ (n : Nat) (k : Int), marksF mk f (n + 1) k = marksF mk f n k ++ [mk (k + n * f)]
  | 0, k => by simp [marksF]
  | n + 1, k => by
    have := marksF_last (mk := mk) (f := f) n (k + f)
    have e : k + f + (n : Int) * f = k + ((n + 1 : Nat) : Int) * f := by
      rw [show ((n + 1 : Nat) : Int) = n + 1 from rfl, Int.add_mul, Int.one_mul]; omega
    rw [marksF, this, marksF, List.cons_append, e]
theorem mark_step {α : Type} {mk : Int → α} {f k : Int} {xs : List α} {i : Nat} (hi : i < xs.length) : (marksF mk f i k ++ xs.drop i).set i (mk (k + i * f)) = marksF mk f (i + 1) k ++ xs.drop (i + 1) := by
  rw [List.set_append_right _ _ (by rw [marksF_len]; omega), marksF_len, Nat.sub_self, List.drop_eq_getElem_cons hi, List.set_cons_zero, marksF_last, List.append_assoc]
  rfl
theorem set_same {H : LH} {b : Nat} {l : List V} (h : H.cellsAt b = some l) : H.set b (.cells l) = H := by
  have := cellsAt_some h
  obtain ⟨hb, e⟩ := List.getElem?_eq_some_iff.1 this
  rw [← e, List.set_getElem_self]
/-- the slice's block is set -/
def setV (H : LH) : V → List V → LH
  | .sl b _ _ _ _, l => H.set b (.cells l)
  | _, _ => H
section
variable {α : Type} {enc : α → List V} {z fl : Nat} {H : LH} {v : V} {xs : List α}
theorem Own.setV {ys : List α} (h : Own fl H enc z v xs) (e : ys.length = xs.length) : Own fl (Lg.setV H v (rows enc ys)) enc z v ys := by
  rcases h with ⟨rfl, h⟩ | ⟨b, rfl, h2, h3⟩
  · exact .inl ⟨List.eq_nil_of_length_eq_zero e, h⟩
  · exact .inr ⟨b, by rw [e], cellsAt_set (cellsAt_lt h2), h3⟩
theorem Hx.setV {A : LH} {l : List V} (h : Own fl H enc z v xs) (hA : Hx A H) (hf : A.length ≤ fl) : Hx A (Lg.setV H v l) := by
  rcases h with ⟨rfl, rfl | rfl⟩ | ⟨b, rfl, h2, h3⟩
  · exact hA
  · exact hA
  · exact hA.set (by omega)
theorem Own.setNe (h : Own fl H enc z v xs) {b : Nat} {x : Blk} (hb : b < fl) : Own fl (H.set b x) enc z v xs := by
  rcases h with h | ⟨b', h1, h2, h3⟩
  · exact .inl h
  · exact .inr ⟨b', h1, by rw [cellsAt_set_ne (by omega)]; exact h2, h3⟩
theorem Own.nil (h : Own fl H enc z v xs) (e : v = .nilsl ∨ v = .emp) : xs = [] := by
  rcases h with ⟨h, _⟩ | ⟨b, rfl, _⟩
  · exact h
  · rcases e with e | e <;> cases e
theorem Own.down {fl' : Nat} (h : Own fl H enc z v xs) (e : fl' ≤ fl) : Own fl' H enc z v xs := by
  rcases h with h | ⟨b', h1, h2, h3⟩
  · exact .inl h
  · exact .inr ⟨b', h1, h2, by omega⟩
theorem Own.new {L : LH} : Own H.length (H ++ .cells (rows enc xs) :: L) enc z (.sl H.length 0 z xs.length xs.length) xs :=
  .inr ⟨H.length, rfl, by rw [cellsAt_app0]; rfl, Nat.le_refl _⟩
end
theorem addO_ptr {off b o : Nat} : addO off (.ptr b o) = some (.ptr b (o + off)) := rfl
theorem addO_gptr {off b o : Nat} : addO off (.gptr b o) = some (.gptr b (o + off)) := rfl
theorem indexA_sl {T : TypeId → Option TI} {t : TypeId} {b o z len c : Nat} {k : IntKind} {n : Int} :
    indexA T t (.sl b o z len c) (.int k n) = grd (sizeO (elemI T t) = some z) (grd (0 ≤ n ∧ n < (len : Int)) (some (.ptr b (o + n.toNat * z)))) := rfl
theorem indexA_ptr {T : TypeId → Option TI} {t : TypeId} {b o : Nat} {k : IntKind} {n : Int} :
    indexA T t (.ptr b o) (.int k n) = (match T t with | some ⟨_, _, .array len e, _⟩ => atO .ptr o len n b (sizeO (T e)) | _ => none) := rfl
theorem indexA_gptr {T : TypeId → Option TI} {t : TypeId} {b o : Nat} {k : IntKind} {n : Int} :
    indexA T t (.gptr b o) (.int k n) = (match T t with | some ⟨_, _, .array len e, _⟩ => atO .gptr o len n b (sizeO (T e)) | _ => none) := rfl
theorem loadV_ptr {G : Nat → Option (List V)} {H : LH} {g : Bool} {n b o : Nat} : loadV G H g n (.ptr b o) = cellO H g o n (H.cellsAt b) := rfl
theorem loadV_gptr {G : Nat → Option (List V)} {H : LH} {g : Bool} {n b o : Nat} : loadV G H g n (.gptr b o) = cellO H g o n (G b) := rfl
theorem cellO_T {H : LH} {o n : Nat} {cs : List V} : cellO H true o n (some cs) = grd (o + n ≤ cs.length) (some (.agg ((cs.drop o).take n), H)) := rfl
theorem cellO_F {H : LH} {o n : Nat} {cs : List V} : cellO H false o n (some cs) = (match cs[o]? with | some v => some (v, H) | none => none) := rfl
theorem storeV_ptr {fl : Nat} {H : LH} {n b o : Nat} {v : V} : storeV fl H n v (.ptr b o) = storeO fl H b o n v (H.cellsAt b) := rfl
theorem sliceV_str {s : ByteArray} {lo hi : Option V} : sliceV (.str s) lo hi = cutS s (hiV s.size s.size hi) (hiV 0 s.size lo) := rfl
theorem sliceV_sl {b o z n c : Nat} {lo hi : Option V} : sliceV (.sl b o z n c) lo hi = cutL b o z c (hiV n c hi) (hiV 0 c lo) := rfl
theorem sliceV_nilsl {lo hi : Option V} : sliceV .nilsl lo hi = cutN (hiV 0 0 hi) (hiV 0 0 lo) := rfl
theorem sliceV_emp {lo hi : Option V} : sliceV .emp lo hi = cutE (hiV 0 0 hi) (hiV 0 0 lo) := rfl
theorem sliceOk_str {T : TypeId → Option TI} {t : TypeId} {s : ByteArray} : sliceOk T t (.str s) = (match T t with | some ⟨_, _, .str, _⟩ => true | _ => false) := rfl
theorem sliceOk_sl {T : TypeId → Option TI} {t : TypeId} {b o z n c : Nat} : sliceOk T t (.sl b o z n c) = (sizeO (elemI T t) == some z) := rfl
theorem sliceOk_nilsl {T : TypeId → Option TI} {t : TypeId} : sliceOk T t .nilsl = (elemI T t).isSome := rfl
theorem sliceOk_emp {T : TypeId → Option TI} {t : TypeId} : sliceOk T t .emp = (elemI T t).isSome := rfl
theorem appendV_nilsl {fl z bytes : Nat} {H : LH} {m : Nat} {new : List V} : appendV fl z bytes H m new .nilsl = if m = 0 then some (.nilsl, H) else grd (m * bytes ≤ mostCells) (some (.sl H.length 0 z m m, H ++ [.cells new])) := rfl
theorem appendV_emp {fl z bytes : Nat} {H : LH} {m : Nat} {new : List V} : appendV fl z bytes H m new .emp = if m = 0 then some (.emp, H) else grd (m * bytes ≤ mostCells) (some (.sl H.length 0 z m m, H ++ [.cells new])) := rfl
theorem appendV_sl {fl z bytes : Nat} {H : LH} {m : Nat} {new : List V} {b o z' n c : Nat} : appendV fl z bytes H m new (.sl b o z' n c) = grd (z' = z) (if m = 0 then some (.sl b o z n c, H) else appO fl bytes H b o z n c m new (H.cellsAt b)) := rfl
theorem callV_fn {call : FuncId → List V → Nat → LH → Option (V × LH)} {fl : Nat} {H : LH} {f : FuncId} {caps vs : List V} : callV call fl H (.fn f caps) (some vs) = call f (vs ++ caps) fl H := rfl
theorem selV_of {p : Prop} [Decidable p] {v : V} (h : p) : selV (decide p) v = v := by rw [decide_eq_true h]; rfl
theorem ite_cong2 {α : Type} {b c d : Prop} {x y u v : α} {s : Decidable b} [Decidable c] {d' : Nat} (h0 : dumA = d') (h1 : b = c) (h4 : (¬ c) = d) (h2 : c → x = u) (h3 : d → y = v) : ite b x y = ite c u v := by
  subst h4; exact ite_congr h1 h2 h3
theorem bool_or_eqF {a b : Bool} : ((a || b) = false) = (a = false ∧ b = false) := by simp
theorem bool_and_eqF {a b : Bool} : ((a && b) = false) = (a = false ∨ b = false) := by cases a <;> simp
theorem bool_not_eqF {a : Bool} : ((!a) = false) = (a = true) := by cases a <;> simp
theorem beq_false' {b : Bool} : ((b == false) = true) = (b = false) := by cases b <;> simp
theorem beq_true' {b : Bool} : ((b == true) = true) = (b = true) := by cases b <;> simp
theorem rng_ite {c : Prop} [Decidable c] {a b : Option (V × LH)} {x : Option (V × LH)} : ((if c then a else b) = x) ↔ ((c → a = x) ∧ (¬ c → b = x)) := by
  by_cases h : c <;> simp [h]
/-! ### what is read of an argument -/
theorem shp_rows {α : Type} {enc : α → List V} {P : α → Prop} {S : List V → Prop} (he : ∀ cs, S cs → ∃ x, cs = enc x ∧ P x) : ∀ {ps : List (List V)}, (∀ p ∈ ps, S p) → ∃ xs : List α, ps.length = xs.length ∧ List.flatten ps = rows enc xs ∧ ∀ x ∈ xs, P x
  | [], _ => ⟨[], rfl, rfl, by simp⟩
  | p :: ps, h => by
    obtain ⟨x, hx, px⟩ := he p (h p (by simp))
    obtain ⟨xs, h1, h2, h3⟩ := shp_rows he (ps := ps) (fun q hq => h q (List.mem_cons_of_mem _ hq))
    refine ⟨x :: xs, by simp [h1], by rw [List.flatten_cons, h2, hx, rows_cons], ?_⟩
    intro y hy
    rcases List.mem_cons.1 hy with hy | hy
    · subst hy; exact px
    · exact h3 y hy
theorem shp_slice {α : Type} {enc : α → List V} {P : α → Prop} {z n : Nat} {T : TypeId → Option TI} {t e : TypeId} {s b : Nat} {zz : Option V} {H : LH} {v : V} (hT : T t = some ⟨s, b, .slice e, zz⟩)
    (hs : sizeO (T e) = some z) (hz : ∀ x, (enc x).length = z) (he : ∀ cs, Shp T n e H cs → ∃ x, cs = enc x ∧ P x) (h : Shp T (n + 1) t H [v]) : ∃ xs : List α, At H enc z v xs ∧ xs.length ≤ 9223372036854775807 ∧ ∀ x ∈ xs, P x := by
  unfold Shp at h
  rw [hT] at h
  rcases h with h | h | ⟨b, z', len, cap, ps, h1, h2, h3, h4, h5, h6, h7, h8⟩
  · injection h with h _
    exact ⟨[], .inl ⟨rfl, .inl h⟩, by simp, by simp⟩
  · injection h with h _
    exact ⟨[], .inl ⟨rfl, .inr h⟩, by simp, by simp⟩
  · injection h1 with h1 _
    rw [hs] at h2
    injection h2 with h2
    subst h2
    obtain ⟨xs, g1, g2, g3⟩ := shp_rows he h8
    have hl : (xs.take len).length = len := by rw [List.length_take]; omega
    refine ⟨xs.take len, .inr ⟨b, 0, cap, _, by rw [hl]; exact h1, h3, ?_, ?_⟩, by omega, fun x hx => g3 x (List.mem_of_mem_take hx)⟩
    · rw [hl, g2, rows_len hz, Nat.zero_add]; exact Nat.mul_le_mul_right _ (by omega)
    · rw [hl, g2, List.drop_zero, rows_take hz]
attribute [go_sem] addO_ptr addO_gptr indexA_sl indexA_ptr indexA_gptr loadV_ptr loadV_gptr storeV_ptr sliceV_str sliceV_sl sliceV_nilsl sliceV_emp sliceOk_str sliceOk_sl sliceOk_nilsl sliceOk_emp appendV_nilsl appendV_emp appendV_sl callV_fn Ret_some List.set_set beq_self_eq_true growO appO ite_not not_or Int.not_lt Int.not_le Bool.not_eq_true Bool.not_eq_false bool_or_eqF bool_and_eqF bool_not_eqF beq_false' beq_true' Bool.true_eq_false Bool.false_eq_true
attribute [go_sem low] cellO_T cellO_F selV_of
attribute [congr] Ret_cg ite_cong2
end Go.Proofs.YtcbjmggbbnpbpaaDoor.Lg
namespace Go.Proofs.YtcbjmggbbnpbpaaDoor.Lg
set_option linter.unusedSimpArgs false
set_option linter.unusedVariables false

/-- the bytes of a text -/
abbrev bs (s : ByteArray) : List UInt8 := s.data.toList
theorem bs_len (s : ByteArray) : (bs s).length = s.size := rfl
/-- the byte at a place, or -1 -/
def bA (s : ByteArray) (p : Int) : Int := if 0 ≤ p ∧ p < (s.size : Int) then (((bs s).getD p.toNat 0).toNat : Int) else -1
theorem bA_hi (s : ByteArray) (p : Int) : bA s p ≤ 255 := by
  unfold bA
  split
  · have := ((bs s).getD p.toNat 0).toNat_lt; omega
  · omega
theorem bA_lo (s : ByteArray) (p : Int) : -1 ≤ bA s p := by
  unfold bA
  split <;> omega
theorem bA_in {s : ByteArray} {p : Int} (h : 0 ≤ p) (h2 : p < (s.size : Int)) : 0 ≤ bA s p := by
  unfold bA
  rw [if_pos ⟨h, h2⟩]; omega
theorem bA_out {s : ByteArray} {p : Int} (h2 : (s.size : Int) ≤ p) : bA s p = -1 := by
  unfold bA
  rw [if_neg (by omega)]
theorem bA_nat {s : ByteArray} {i : Nat} (h : i < s.size) : bA s (i : Int) = ((bs s)[i].toNat : Int) := by
  unfold bA
  rw [if_pos (by omega), Int.toNat_natCast, getD_of (by exact h)]
theorem byteV_in {s : ByteArray} {n : Int} (h : 0 ≤ n) (h2 : n < (s.size : Int)) : byteV s n = .int .u8 (bA s n) := by
  unfold byteV bA
  rw [if_pos ⟨h, h2⟩]
theorem bA_wrap {s : ByteArray} {n : Int} : IntKind.wrap .i64 (bA s n) = bA s n := by
  have h1 := bA_lo s n
  have h2 := bA_hi s n
  exact IntWalk.i64_in _ (by omega)
theorem byteV_lit {l : List UInt8} {n : Int} : byteV ⟨l.toArray⟩ n = .int .u8 ((l.getD n.toNat 0).toNat : Int) := rfl
/-- a byte as a cell -/
def byC (b : UInt8) : List V := [.int .u8 b.toNat]
theorem byC_len (b : UInt8) : (byC b).length = 1 := rfl
theorem bytesV_rows (s : ByteArray) : bytesV s = rows byC (bs s) := by
  unfold bytesV bs
  generalize s.data.toList = l
  induction l with
  | nil => rfl
  | cons b l ih => rw [List.map_cons, ih]; rfl
theorem toBytes_rows (l : List UInt8) : toBytes (rows byC l) = some l := by
  induction l with
  | nil => rfl
  | cons b l ih =>
    show (match toBytes (rows byC l) with | some r => some (UInt8.ofNat (Int.toNat (b.toNat : Int)) :: r) | none => none) = _
    rw [ih]
    simp
theorem At.str {T : TypeId → Option TI} {fl : Nat} {H : LH} {s d e : TypeId} {v : V} {l : List UInt8} (h : At H byC 1 v l) {a b a' b' a2 b2 : Nat} {z z' z2 : Option V} (h1 : T s = some ⟨a, b, .slice e, z⟩) (h2 : T d = some ⟨a', b', .str, z'⟩)
    (h3 : T e = some ⟨a2, b2, .int .u8, z2⟩) : convV T fl H s d v = some (.str ⟨l.toArray⟩, H) := by
  have hc := h.cells
  rcases h with ⟨rfl, rfl | rfl⟩ | ⟨b, o, c, l', rfl, _⟩
  · simp only [convV, h1, h2, h3]
  · simp only [convV, h1, h2, h3]
  · simp only [convV, h1, h2, h3, hc, bytesO, toBytes_rows, strO, grd, if_true]
theorem byte_lt (b : UInt8) : (b.toNat : Int) < 256 := by have := b.toNat_lt; omega

/-! ### a block is left, another begun -/
theorem cellsAt_appS (H L : LH) (b i : Nat) (x : Blk) : LH.cellsAt (H.set b x ++ L) (H.length + i) = LH.cellsAt L i := by
  have := cellsAt_app (H.set b x) L i
  rwa [List.length_set] at this
theorem cellsAt_appS0 (H L : LH) (b : Nat) (x : Blk) : LH.cellsAt (H.set b x ++ L) H.length = LH.cellsAt L 0 := cellsAt_appS H L b 0 x
theorem set_appS (H L : LH) (b i : Nat) (x y : Blk) : (H.set b x ++ L).set (H.length + i) y = H.set b x ++ L.set i y := by
  have := set_app (H.set b x) L i y
  rwa [List.length_set] at this
theorem set_appS0 (H L : LH) (b : Nat) (x y : Blk) : (H.set b x ++ L).set H.length y = H.set b x ++ L.set 0 y := set_appS H L b 0 x y
theorem take_rows {α : Type} {enc : α → List V} {z : Nat} (hz : ∀ x, (enc x).length = z) {xs : List α} {n : Nat} (h : n = xs.length * z) : (rows enc xs).take n = rows enc xs :=
  List.take_of_length_le (by rw [rows_len hz]; omega)
/-- bytes behind bytes -/
theorem mkB_app (a b : List UInt8) : (⟨(a ++ b).toArray⟩ : ByteArray) = ⟨a.toArray⟩ ++ ⟨b.toArray⟩ := by
  apply ByteArray.ext
  simp [ByteArray.data_append]
theorem bs_mk (l : List UInt8) : bs ⟨l.toArray⟩ = l := by simp [bs]
theorem mk_bs (s : ByteArray) : (⟨(bs s).toArray⟩ : ByteArray) = s := by simp [bs]
/-- a library function without a body -/
theorem Run_ext {P : Program} {C : Cfg} {ok : FuncId → Bool} {f : FuncId} {fn : Func} (hf : P.funcs[f]? = some fn) (hb : fn.body = none) (args : List V) (fl : Nat) (H : LH) : Run P C ok f args fl H = ext P fn args H := by
  rw [Run_eq]
  simp only [callStep, hf, hb]
/-- a library function that is taken by its contract -/
theorem Run_lib {P : Program} {C : Cfg} {ok : FuncId → Bool} {f : FuncId} {fn : Func} (hf : P.funcs[f]? = some fn) (hb : fn.body.isSome = true) (ho : ok f = false) (args : List V) (fl : Nat) (H : LH) : Run P C ok f args fl H = libStep C f args H := by
  rw [Run_eq]
  cases hc : fn.body with
  | none => rw [hc] at hb; cases hb
  | some c =>
    simp only [callStep, hf, hc]
    rw [if_neg (by rw [ho]; exact Bool.false_ne_true)]
theorem idx_find {s : ByteArray} {c : UInt8} {i : Nat} (h : (List.range s.size).find? (fun i => s[i]! == c) = some i) : i < s.size ∧ bA s i = (c.toNat : Int) ∧ ∀ j : Nat, j < i → bA s j ≠ (c.toNat : Int) := by
  rw [List.find?_range_eq_some] at h
  obtain ⟨h1, h2, h3⟩ := h
  have hi : i < s.size := List.mem_range.1 h2
  have key : ∀ j (hj : j < s.size), bA s (j : Int) = ((s[j]! : UInt8).toNat : Int) := by
    intro j hj
    rw [bA_nat hj, getElem!_pos s j hj]
    rfl
  refine ⟨hi, ?_, fun j hj => ?_⟩
  · rw [key i hi, beq_iff_eq.1 h1]
  · rw [key j (by omega)]
    have := h3 j hj
    intro e
    have e2 : (s[j]! : UInt8) = c := UInt8.toNat_inj.1 (by omega)
    rw [e2] at this
    simp at this
theorem idx_none {s : ByteArray} {c : UInt8} (h : (List.range s.size).find? (fun i => s[i]! == c) = none) : ∀ j : Nat, j < s.size → bA s j ≠ (c.toNat : Int) := by
  intro j hj e
  rw [List.find?_eq_none] at h
  have := h j (List.mem_range.2 hj)
  rw [bA_nat hj] at e
  have e2 : (s[j]! : UInt8) = c := UInt8.toNat_inj.1 (by rw [getElem!_pos s j hj]; have : (s[j] : UInt8) = (bs s)[j] := rfl; rw [this]; omega)
  rw [e2] at this
  simp at this
/-- what IndexByteString answers -/
theorem idxB_or (s : ByteArray) (c : UInt8) : (idxB s c = -1 ∧ ∀ j : Nat, j < s.size → bA s j ≠ (c.toNat : Int)) ∨
    ∃ i : Nat, idxB s c = i ∧ i < s.size ∧ bA s i = (c.toNat : Int) ∧ ∀ j : Nat, j < i → bA s j ≠ (c.toNat : Int) := by
  unfold idxB
  cases h : (List.range s.size).find? fun i => s[i]! == c with
  | none => exact .inl ⟨rfl, idx_none h⟩
  | some i => exact .inr ⟨i, rfl, idx_find h⟩
theorem idxB_lo (s : ByteArray) (c : UInt8) : -1 ≤ idxB s c := by
  rcases idxB_or s c with h | ⟨i, h, _⟩ <;> omega
theorem idxB_hi (s : ByteArray) (c : UInt8) : idxB s c < s.size := by
  rcases idxB_or s c with h | ⟨i, h, h2, _⟩ <;> omega
theorem toNat_mono {a b : Int} (h : a ≤ b) : (a.toNat ≤ b.toNat) = True := eq_true (Int.toNat_le_toNat h)
theorem toNat_le' {a : Int} {n : Nat} (h : a ≤ (n : Int)) : (a.toNat ≤ n) = True := eq_true (by omega)
theorem ite_fB {c : Prop} [Decidable c] {b : Bool} : ((if c then false else b) = true) = (¬ c ∧ b = true) := by by_cases h : c <;> simp [h]
theorem ite_tB {c : Prop} [Decidable c] {b : Bool} : ((if c then true else b) = true) = (c ∨ b = true) := by by_cases h : c <;> simp [h]
theorem ite_bF {c : Prop} [Decidable c] {b : Bool} : ((if c then b else false) = true) = (c ∧ b = true) := by by_cases h : c <;> simp [h]
theorem ite_bT {c : Prop} [Decidable c] {b : Bool} : ((if c then b else true) = true) = (¬ c ∨ b = true) := by by_cases h : c <;> simp [h]
theorem bs_app (a b : ByteArray) : bs (a ++ b) = bs a ++ bs b := by simp [bs, ByteArray.data_append]
theorem nle_self {n m : Nat} : (n + (m + 1) ≤ n) = False := by simp
theorem rows_byC1 {l : List UInt8} {b : UInt8} : rows byC (l ++ [b]) = rows byC l ++ [.int .u8 b.toNat] := by rw [rows_app]; rfl
theorem rows_byC2 {l : List UInt8} {a b : UInt8} : rows byC (l ++ [a, b]) = rows byC l ++ [.int .u8 a.toNat, .int .u8 b.toNat] := by rw [rows_app]; rfl
attribute [go_sem high] byteV_lit
theorem atO_some {k : Nat → Nat → V} {o len : Nat} {n : Int} {b z : Nat} : atO k o len n b (some z) = grd (0 ≤ n ∧ n < (len : Int)) (some (k b (o + n.toNat * z))) := rfl
attribute [go_sem] atO_some ite_fB ite_tB ite_bF ite_bT toNat_mono toNat_le' Nat.zero_le List.getD_cons_zero List.getD_cons_succ Option.isSome_some byteV_in bA_wrap bytesV_rows cellsAt_appS cellsAt_appS0 set_appS set_appS0 List.length_set
end Go.Proofs.YtcbjmggbbnpbpaaDoor.Lg
namespace Go.Proofs.YtcbjmggbbnpbpaaDoor.Lg
set_option linter.unusedSimpArgs false
set_option linter.unusedVariables false

/-- a table of bytes -/
def u8s (l : List Int) : List V := l.map (V.int .u8)
theorem u8s_get {l : List Int} {i : Nat} {v : V} (h : (u8s l)[i]? = some v) : ∃ n, l[i]? = some n ∧ v = .int .u8 n := by
  unfold u8s at h
  rw [List.getElem?_map] at h
  cases e : l[i]? with
  | none => rw [e] at h; cases h
  | some n => rw [e] at h; injection h with h; exact ⟨n, rfl, h.symm⟩
theorem u8s_lt (l : List Int) : ∀ c ∈ u8s l, V.lt 0 c := by
  intro c hc
  unfold u8s at hc
  obtain ⟨n, _, rfl⟩ := List.mem_map.1 hc
  simp only [V.lt]
def GlobAt (w : World) (g : Nat) (cs : List V) : Prop := ∃ c T fz, w.heap[g]? = some (.cells c T fz) ∧ cs.length ≤ c.size ∧ ∀ (i : Nat) (v : V), cs[i]? = some v → v.isScal = true ∧ ∃ u, c[i]? = some u ∧ ∀ φ w, VR φ w v u
section
variable {D : Type} {enc : TypeId × Value → D} {P : Program} {w : World}
theorem glob_of {n : String} {g : Nat} {cs : Array Value} {l : List Int} (hg : P.globalNamed n = some g) (hv : w.var? P n = some cs) (h : ∀ (i : Nat) (z : Int), l[i]? = some z → cs[i]? = some (Value.int .u8 z)) (hl : l.length ≤ cs.size) : GlobAt w g (u8s l) := by
  simp only [World.var?, hg, Option.bind_some] at hv
  split at hv
  · rename_i c T fz hc
    injection hv with hv
    subst hv
    refine ⟨c, T, fz, hc, by simpa [u8s] using hl, fun i v hi => ?_⟩
    obtain ⟨z, hz, rfl⟩ := u8s_get hi
    exact ⟨rfl, _, h i z hz, fun φ w => by simp only [VR]⟩
  · cases hv
theorem arr_u8 {base : Nat} {spare : Nat → Bool} {held : Bool} {fuel n : Nat} {t e : TypeId} {cs : List Value} {l : List Int} {p : List MemPlace} (ht : P.underlying t = some (.array n e)) (he : P.underlying e = some (.int .u8)) (hc : P.cellsOf e = 1)
    (h : DataW.trod enc P w base spare held fuel t cs = some (.agg (l.map fun z => .lit (.int .u8 z)), p)) : ∀ (i : Nat) (z : Int), l[i]? = some z → cs[i]? = some (Value.int .u8 z) := by
  obtain ⟨xs, m, _, ex, _, hl, hel⟩ := DataW.trod_array ht h
  intro i z hi
  have e3 : xs.map (·.1) = l.map fun z => .lit (.int .u8 z) := (DataW.agg.inj (Prod.mk.inj ex).1).symm
  have hlen : xs.length = l.length := by simpa using congrArg List.length e3
  have hil : i < l.length := (List.getElem?_eq_some_iff.1 hi).1
  have hE := hel i (by omega)
  rw [hc, Nat.mul_one, List.getElem?_eq_getElem (by omega)] at hE
  obtain ⟨y, e1, e2, _⟩ := DataW.trod_int he hE
  have e4 : (xs.map (·.1))[i]? = (l.map fun z => (DataW.lit (.int .u8 z) : DataW D))[i]? := by rw [e3]
  rw [List.getElem?_map, List.getElem?_map, List.getElem?_eq_getElem (by omega : i < xs.length), hi, e2] at e4
  simp only [Option.map_some, Option.some.injEq, DataW.lit.injEq, Lit.int.injEq, true_and] at e4
  subst e4
  have h0 : ((cs.drop i).take 1)[0]? = some (.int .u8 y) := by rw [e1]; rfl
  simpa using h0
/-- of pairs of bytes -/
def flat2 : List (Int × Int) → List Int
  | [] => []
  | (a, b) :: l => a :: b :: flat2 l
theorem flat2_get : ∀ {l : List (Int × Int)} {i : Nat} {z : Int}, (flat2 l)[i]? = some z → ∃ x, l[i / 2]? = some x ∧ ((i % 2 = 0 ∧ z = x.1) ∨ (i % 2 = 1 ∧ z = x.2))
  | [], i, z, h => by simp [flat2] at h
  | (a, b) :: l, 0, z, h => by simp [flat2] at h; exact ⟨(a, b), rfl, .inl ⟨rfl, h.symm⟩⟩
  | (a, b) :: l, 1, z, h => by simp [flat2] at h; exact ⟨(a, b), rfl, .inr ⟨rfl, h.symm⟩⟩
  | (a, b) :: l, i + 2, z, h => by
    simp only [flat2, List.getElem?_cons_succ] at h
    obtain ⟨x, h1, h2⟩ := flat2_get h
    refine ⟨x, ?_, ?_⟩
    · rw [show (i + 2) / 2 = i / 2 + 1 by omega, List.getElem?_cons_succ]; exact h1
    · rw [show (i + 2) % 2 = i % 2 by omega]; exact h2
theorem arr_u8u8 {base : Nat} {spare : Nat → Bool} {held : Bool} {fuel n : Nat} {t e b : TypeId} {fs : Array Field} {f0 f1 : Field} {cs : List Value} {l : List (Int × Int)} {p : List MemPlace} (ht : P.underlying t = some (.array n e)) (he : P.underlying e = some (.struct fs)) (hfs : fs = #[f0, f1])
    (ho0 : f0.offset = 0) (ho1 : f1.offset = 1) (ht0 : f0.type = b) (ht1 : f1.type = b) (hb : P.underlying b = some (.int .u8)) (hcb : P.cellsOf b = 1) (hc : P.cellsOf e = 2)
    (h : DataW.trod enc P w base spare held fuel t cs = some (.agg (l.map fun z => .agg [.lit (.int .u8 z.1), .lit (.int .u8 z.2)]), p)) : ∀ (i : Nat) (z : Int), (flat2 l)[i]? = some z → cs[i]? = some (Value.int .u8 z) := by
  obtain ⟨xs, m, _, ex, _, hl, hel⟩ := DataW.trod_array ht h
  intro i z hi
  obtain ⟨x, hx, hz⟩ := flat2_get hi
  have e3 : xs.map (·.1) = l.map fun z => .agg [.lit (.int .u8 z.1), .lit (.int .u8 z.2)] := (DataW.agg.inj (Prod.mk.inj ex).1).symm
  have hlen : xs.length = l.length := by simpa using congrArg List.length e3
  have hil : i / 2 < l.length := (List.getElem?_eq_some_iff.1 hx).1
  have hE := hel (i / 2) (by omega)
  rw [hc, List.getElem?_eq_getElem (by omega)] at hE
  obtain ⟨ys, k, _, ey, _, hyl, hey⟩ := DataW.trod_struct he hE
  have e4 : (xs.map (·.1))[i / 2]? = (l.map fun z => (DataW.agg [.lit (.int .u8 z.1), .lit (.int .u8 z.2)] : DataW D))[i / 2]? := by rw [e3]
  rw [List.getElem?_map, List.getElem?_map, List.getElem?_eq_getElem (by omega : i / 2 < xs.length), hx, ey] at e4
  simp only [Option.map_some, Option.some.injEq, DataW.agg.injEq] at e4
  subst hfs
  have hyl : ys.length = 2 := hyl
  match ys, hyl, e4 with
  | [y0, y1], _, e4 =>
    simp only [List.map_cons, List.map_nil, List.cons.injEq, and_true] at e4
    have h0 := hey 0 f0 rfl
    have h1 := hey 1 f1 rfl
    rw [ho0, ht0, hcb] at h0
    rw [ho1, ht1, hcb] at h1
    obtain ⟨n0, a1, a2, _⟩ := DataW.trod_int hb h0
    obtain ⟨n1, b1, b2, _⟩ := DataW.trod_int hb h1
    rw [a2, b2] at e4
    simp only [DataW.lit.injEq, Lit.int.injEq, true_and] at e4
    obtain ⟨e5, e6⟩ := e4
    subst e5; subst e6
    have c0 : cs[i / 2 * 2]? = some (.int .u8 x.1) := by
      have h0 : ((((cs.drop (i / 2 * 2)).take 2).drop 0).take 1)[0]? = some (.int .u8 x.1) := by rw [a1]; rfl
      simpa using h0
    have c1 : cs[i / 2 * 2 + 1]? = some (.int .u8 x.2) := by
      have h0 : ((((cs.drop (i / 2 * 2)).take 2).drop 1).take 1)[0]? = some (.int .u8 x.2) := by rw [b1]; rfl
      simpa [List.getElem?_take] using h0
    rcases hz with ⟨hm, rfl⟩ | ⟨hm, rfl⟩
    · have : i = i / 2 * 2 := by omega
      rw [← this] at c0; exact c0
    · have : i = i / 2 * 2 + 1 := by omega
      rw [← this] at c1; exact c1
end
/-- a test under a condition on the result -/
theorem ite_P {α : Type} {c : Prop} [Decidable c] {P : α → Prop} {a b : α} (ha : c → P a) (hb : ¬ c → P b) : P (if c then a else b) := by
  by_cases h : c
  · rw [if_pos h]; exact ha h
  · rw [if_neg h]; exact hb h
theorem at_loopP {P : Option (V × LH) → Prop} {F : Fin} {X : Ctx} {c : Code} {n : Nat} {k : List K} {e : Env} {H : LH}
    (h : ∀ c0 R, c = c0 → k = R → P (zEv F X (K.code (Code.loop c0) :: K.blk n :: R) .nrm e H)) : P (zEv F X (K.code (Code.loop c) :: K.blk n :: k) .nrm e H) := h c k rfl rfl
/-! ### append to an owned slice -/
/-- the block of a slice that was left -/
def killV (H : LH) : V → LH
  | .sl b _ _ _ _ => H.set b .dead
  | _ => H
theorem killV_len {H : LH} {v : V} : (killV H v).length = H.length := by
  cases v <;> simp [killV]
section
variable {α : Type} {enc : α → List V} {z : Nat} {H : LH} {v : V} {xs : List α}
theorem app_own {fl f0 : Nat} (h : Own f0 H enc z v xs) (hz : ∀ x, (enc x).length = z) (hf : fl ≤ f0) (ys : List α) (hy : 0 < ys.length) (bytes : Nat) (hb : (xs.length + ys.length) * bytes ≤ mostCells) :
    appendV fl z bytes H ys.length (rows enc ys) v = some (.sl H.length 0 z (xs.length + ys.length) (xs.length + ys.length), killV H v ++ [.cells (rows enc (xs ++ ys))]) := by
  rcases h with ⟨rfl, rfl | rfl⟩ | ⟨b, rfl, hc, h2⟩
  · rw [appendV_nilsl, if_neg (by omega)]
    simp only [List.length_nil, Nat.zero_add] at hb ⊢
    simp only [grd, hb, if_true, List.nil_append, killV]
  · rw [appendV_emp, if_neg (by omega)]
    simp only [List.length_nil, Nat.zero_add] at hb ⊢
    simp only [grd, hb, if_true, List.nil_append, killV]
  · rw [appendV_sl]
    have h3 : fl ≤ b := Nat.le_trans hf h2
    have hl : (rows enc xs).length = xs.length * z := rows_len hz xs
    have hc2 : cut (rows enc xs) 0 (xs.length * z) = some (rows enc xs) := by
      simp only [cut, grd, hl, Nat.zero_add, Nat.le_refl, if_true, List.drop_zero]
      rw [List.take_of_length_le (by omega)]
    simp only [grd, if_true, appO, hc, hb, h3, and_self, growO, hc2, killV, rows_app]
    rw [if_neg (by omega), if_neg (by omega)]
theorem app_own1 {fl f0 : Nat} (h : Own f0 H enc z v xs) (hz : ∀ x, (enc x).length = z) (hf : fl ≤ f0) (bytes : Nat) (hb : (xs.length + 1) * bytes ≤ mostCells) (x : α) :
    appendV fl z bytes H 1 (enc x) v = some (.sl H.length 0 z (xs.length + 1) (xs.length + 1), killV H v ++ [.cells (rows enc (xs ++ [x]))]) := by
  have := app_own h hz hf [x] (by simp) bytes (by simpa using hb)
  rwa [rows_one] at this
theorem app_new {f0 : Nat} (h : f0 ≤ H.length) (ys : List α) : Own f0 (killV H v ++ [.cells (rows enc ys)]) enc z (.sl H.length 0 z ys.length ys.length) ys := by
  refine .inr ⟨H.length, rfl, ?_, h⟩
  have := cellsAt_app0 (killV H v) [.cells (rows enc ys)]
  rw [killV_len] at this
  rw [this]; rfl
theorem app_hx {G L : LH} {f0 : Nat} (hx : Hx G H) (h : Own f0 H enc z v xs) (hf : G.length ≤ f0) : Hx G (killV H v ++ L) := by
  rcases h with ⟨rfl, rfl | rfl⟩ | ⟨b, rfl, hc, h2⟩
  · exact hx.trans Hx.app
  · exact hx.trans Hx.app
  · exact (hx.set (Nat.le_trans hf h2)).trans Hx.app
theorem app_old {f0 b : Nat} {l : List V} (hc : H.cellsAt b = some l) (h : Own f0 H enc z v xs) (hb : b < f0) (L : LH) : LH.cellsAt (killV H v ++ L) b = some l := by
  rcases h with ⟨rfl, rfl | rfl⟩ | ⟨b2, rfl, hc2, h2⟩
  · exact cellsAt_left hc
  · exact cellsAt_left hc
  · exact cellsAt_left (by rw [killV, cellsAt_set_ne (by omega)]; exact hc)
end
end Go.Proofs.YtcbjmggbbnpbpaaDoor.Lg
