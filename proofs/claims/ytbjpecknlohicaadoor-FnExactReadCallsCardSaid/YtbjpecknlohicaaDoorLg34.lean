/- The logical machine: bytes of texts, and slices of bytes. No condition. -/
import Derived.Test.YtbjpecknlohicaaDoorLg33
namespace Go.Proofs.YtbjpecknlohicaaDoor.Lg
set_option linter.unusedSimpArgs false
set_option linter.unusedVariables false

/-- the bytes of a text -/
abbrev bs (s : ByteArray) : List UInt8 := s.data.toList
theorem bs_len (s : ByteArray) : (bs s).length = s.size := rfl
/-- the byte at a place, or -1 -/
def bA (s : ByteArray) (p : Int) : Int := if 0 ≤ p ∧ p < (s.size : Int) then (((bs s).getD p.toNat 0).toNat : Int) else -1
theorem bA_hi (s : ByteArray) (p : Int) : bA s p ≤ 255 := by
  unfold bA
  split
  · have := ((bs s).getD p.toNat 0).toNat_lt; omega
  · omega
theorem bA_lo (s : ByteArray) (p : Int) : -1 ≤ bA s p := by
  unfold bA
  split <;> omega
theorem bA_in {s : ByteArray} {p : Int} (h : 0 ≤ p) (h2 : p < (s.size : Int)) : 0 ≤ bA s p := by
  unfold bA
  rw [if_pos ⟨h, h2⟩]; omega
theorem bA_out {s : ByteArray} {p : Int} (h2 : (s.size : Int) ≤ p) : bA s p = -1 := by
  unfold bA
  rw [if_neg (by omega)]
theorem bA_nat {s : ByteArray} {i : Nat} (h : i < s.size) : bA s (i : Int) = ((bs s)[i].toNat : Int) := by
  unfold bA
  rw [if_pos (by omega), Int.toNat_natCast, getD_of (by exact h)]
theorem byteV_in {s : ByteArray} {n : Int} (h : 0 ≤ n) (h2 : n < (s.size : Int)) : byteV s n = .int .u8 (bA s n) := by
  unfold byteV bA
  rw [if_pos ⟨h, h2⟩]
theorem bA_wrap {s : ByteArray} {n : Int} : IntKind.wrap .i64 (bA s n) = bA s n := by
  have h1 := bA_lo s n
  have h2 := bA_hi s n
  exact IntWalk.i64_in _ (by omega)
theorem byteV_lit {l : List UInt8} {n : Int} : byteV ⟨l.toArray⟩ n = .int .u8 ((l.getD n.toNat 0).toNat : Int) := rfl
/-- a byte as a cell -/
def byC (b : UInt8) : List V := [.int .u8 b.toNat]
theorem byC_len (b : UInt8) : (byC b).length = 1 := rfl
theorem bytesV_rows (s : ByteArray) : bytesV s = rows byC (bs s) := by
  unfold bytesV bs
  generalize s.data.toList = l
  induction l with
  | nil => rfl
  | cons b l ih => rw [List.map_cons, ih]; rfl
theorem toBytes_rows (l : List UInt8) : toBytes (rows byC l) = some l := by
  induction l with
  | nil => rfl
  | cons b l ih =>
    show (match toBytes (rows byC l) with | some r => some (UInt8.ofNat (Int.toNat (b.toNat : Int)) :: r) | none => none) = _
    rw [ih]
    simp
theorem At.str {T : TypeId → Option TI} {fl : Nat} {H : LH} {s d e : TypeId} {v : V} {l : List UInt8} (h : At H byC 1 v l) {a b a' b' a2 b2 : Nat} {z z' z2 : Option V} (h1 : T s = some ⟨a, b, .slice e, z⟩) (h2 : T d = some ⟨a', b', .str, z'⟩)
    (h3 : T e = some ⟨a2, b2, .int .u8, z2⟩) : convV T fl H s d v = some (.str ⟨l.toArray⟩, H) := by
  have hc := h.cells
  rcases h with ⟨rfl, rfl | rfl⟩ | ⟨b, o, c, l', rfl, _⟩
  · simp only [convV, h1, h2, h3]
  · simp only [convV, h1, h2, h3]
  · simp only [convV, h1, h2, h3, hc, bytesO, toBytes_rows, strO, grd, if_true]
theorem byte_lt (b : UInt8) : (b.toNat : Int) < 256 := by have := b.toNat_lt; omega

/-! ### a block is left, another begun -/
theorem cellsAt_appS (H L : LH) (b i : Nat) (x : Blk) : LH.cellsAt (H.set b x ++ L) (H.length + i) = LH.cellsAt L i := by
  have := cellsAt_app (H.set b x) L i
  rwa [List.length_set] at this
theorem cellsAt_appS0 (H L : LH) (b : Nat) (x : Blk) : LH.cellsAt (H.set b x ++ L) H.length = LH.cellsAt L 0 := cellsAt_appS H L b 0 x
theorem set_appS (H L : LH) (b i : Nat) (x y : Blk) : (H.set b x ++ L).set (H.length + i) y = H.set b x ++ L.set i y := by
  have := set_app (H.set b x) L i y
  rwa [List.length_set] at this
theorem set_appS0 (H L : LH) (b : Nat) (x y : Blk) : (H.set b x ++ L).set H.length y = H.set b x ++ L.set 0 y := set_appS H L b 0 x y
theorem take_rows {α : Type} {enc : α → List V} {z : Nat} (hz : ∀ x, (enc x).length = z) {xs : List α} {n : Nat} (h : n = xs.length * z) : (rows enc xs).take n = rows enc xs :=
  List.take_of_length_le (by rw [rows_len hz]; omega)
/-- bytes behind bytes -/
theorem mkB_app (a b : List UInt8) : (⟨(a ++ b).toArray⟩ : ByteArray) = ⟨a.toArray⟩ ++ ⟨b.toArray⟩ := by
  apply ByteArray.ext
  simp [ByteArray.data_append]
theorem bs_mk (l : List UInt8) : bs ⟨l.toArray⟩ = l := by simp [bs]
theorem mk_bs (s : ByteArray) : (⟨(bs s).toArray⟩ : ByteArray) = s := by simp [bs]
/-- a library function without a body -/
theorem Run_ext {P : Program} {C : Cfg} {ok : FuncId → Bool} {f : FuncId} {fn : Func} (hf : P.funcs[f]? = some fn) (hb : fn.body = none) (args : List V) (fl : Nat) (H : LH) : Run P C ok f args fl H = ext P fn args H := by
  rw [Run_eq]
  simp only [callStep, hf, hb]
theorem idx_find {s : ByteArray} {c : UInt8} {i : Nat} (h : (List.range s.size).find? (fun i => s[i]! == c) = some i) : i < s.size ∧ bA s i = (c.toNat : Int) ∧ ∀ j : Nat, j < i → bA s j ≠ (c.toNat : Int) := by
  rw [List.find?_range_eq_some] at h
  obtain ⟨h1, h2, h3⟩ := h
  have hi : i < s.size := List.mem_range.1 h2
  have key : ∀ j (hj : j < s.size), bA s (j : Int) = ((s[j]! : UInt8).toNat : Int) := by
    intro j hj
    rw [bA_nat hj, getElem!_pos s j hj]
    rfl
  refine ⟨hi, ?_, fun j hj => ?_⟩
  · rw [key i hi, beq_iff_eq.1 h1]
  · rw [key j (by omega)]
    have := h3 j hj
    intro e
    have e2 : (s[j]! : UInt8) = c := UInt8.toNat_inj.1 (by omega)
    rw [e2] at this
    simp at this
theorem idx_none {s : ByteArray} {c : UInt8} (h : (List.range s.size).find? (fun i => s[i]! == c) = none) : ∀ j : Nat, j < s.size → bA s j ≠ (c.toNat : Int) := by
  intro j hj e
  rw [List.find?_eq_none] at h
  have := h j (List.mem_range.2 hj)
  rw [bA_nat hj] at e
  have e2 : (s[j]! : UInt8) = c := UInt8.toNat_inj.1 (by rw [getElem!_pos s j hj]; have : (s[j] : UInt8) = (bs s)[j] := rfl; rw [this]; omega)
  rw [e2] at this
  simp at this
/-- what IndexByteString answers -/
theorem idxB_or (s : ByteArray) (c : UInt8) : (idxB s c = -1 ∧ ∀ j : Nat, j < s.size → bA s j ≠ (c.toNat : Int)) ∨
    ∃ i : Nat, idxB s c = i ∧ i < s.size ∧ bA s i = (c.toNat : Int) ∧ ∀ j : Nat, j < i → bA s j ≠ (c.toNat : Int) := by
  unfold idxB
  cases h : (List.range s.size).find? fun i => s[i]! == c with
  | none => exact .inl ⟨rfl, idx_none h⟩
  | some i => exact .inr ⟨i, rfl, idx_find h⟩
theorem idxB_lo (s : ByteArray) (c : UInt8) : -1 ≤ idxB s c := by
  rcases idxB_or s c with h | ⟨i, h, _⟩ <;> omega
theorem idxB_hi (s : ByteArray) (c : UInt8) : idxB s c < s.size := by
  rcases idxB_or s c with h | ⟨i, h, h2, _⟩ <;> omega
theorem toNat_mono {a b : Int} (h : a ≤ b) : (a.toNat ≤ b.toNat) = True := eq_true (Int.toNat_le_toNat h)
theorem toNat_le' {a : Int} {n : Nat} (h : a ≤ (n : Int)) : (a.toNat ≤ n) = True := eq_true (by omega)
theorem ite_fB {c : Prop} [Decidable c] {b : Bool} : ((if c then false else b) = true) = (¬ c ∧ b = true) := by by_cases h : c <;> simp [h]
theorem ite_tB {c : Prop} [Decidable c] {b : Bool} : ((if c then true else b) = true) = (c ∨ b = true) := by by_cases h : c <;> simp [h]
theorem ite_bF {c : Prop} [Decidable c] {b : Bool} : ((if c then b else false) = true) = (c ∧ b = true) := by by_cases h : c <;> simp [h]
theorem ite_bT {c : Prop} [Decidable c] {b : Bool} : ((if c then b else true) = true) = (¬ c ∨ b = true) := by by_cases h : c <;> simp [h]
theorem bs_app (a b : ByteArray) : bs (a ++ b) = bs a ++ bs b := by simp [bs, ByteArray.data_append]
theorem nle_self {n m : Nat} : (n + (m + 1) ≤ n) = False := by simp
theorem rows_byC1 {l : List UInt8} {b : UInt8} : rows byC (l ++ [b]) = rows byC l ++ [.int .u8 b.toNat] := by rw [rows_app]; rfl
theorem rows_byC2 {l : List UInt8} {a b : UInt8} : rows byC (l ++ [a, b]) = rows byC l ++ [.int .u8 a.toNat, .int .u8 b.toNat] := by rw [rows_app]; rfl
attribute [go_sem high] byteV_lit
theorem atO_some {k : Nat → Nat → V} {o len : Nat} {n : Int} {b z : Nat} : atO k o len n b (some z) = grd (0 ≤ n ∧ n < (len : Int)) (some (k b (o + n.toNat * z))) := rfl
attribute [go_sem] atO_some ite_fB ite_tB ite_bF ite_bT toNat_mono toNat_le' Nat.zero_le List.getD_cons_zero List.getD_cons_succ Option.isSome_some byteV_in bA_wrap bytesV_rows cellsAt_appS cellsAt_appS0 set_appS set_appS0 List.length_set
end Go.Proofs.YtbjpecknlohicaaDoor.Lg
