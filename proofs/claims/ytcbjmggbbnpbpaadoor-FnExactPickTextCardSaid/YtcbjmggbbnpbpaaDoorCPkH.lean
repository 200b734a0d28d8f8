/- Hits in the heap. No condition. -/
import Derived.Test.YtcbjmggbbnpbpaaDoorCTVal
import Derived.Test.YtcbjmggbbnpbpaaDoorCTSeg
import Derived.Test.YtcbjmggbbnpbpaaDoorLgE
namespace Go.Proofs.YtcbjmggbbnpbpaaDoor.Lg
set_option linter.unusedSimpArgs false
set_option linter.unusedVariables false
set_option maxRecDepth 100000
set_option maxHeartbeats 40000000
open Go.Proofs.YtcbjmggbbnpbpaaDoor
set_option linter.unusedSectionVars false
variable [ML]

/-- blocks ahead of 'f' stand as they stood, but for those of 'E' -/
structure Fx (f : Nat) (E : List Nat) (A B : LH) : Prop where
  len : A.length ≤ B.length
  get : ∀ b, b < f → b ∉ E → B[b]? = A[b]?
theorem Fx.refl {f : Nat} {E : List Nat} (A : LH) : Fx f E A A := ⟨Nat.le_refl _, fun _ _ _ => rfl⟩
theorem Fx.app {f : Nat} {E : List Nat} {A L : LH} (hf : f ≤ A.length) : Fx f E A (A ++ L) := ⟨by simp, fun b h1 _ => List.getElem?_append_left (by omega)⟩
theorem Fx.set {f b : Nat} {E : List Nat} {A : LH} {x : Blk} (hb : b ∈ E ∨ f ≤ b) : Fx f E A (A.set b x) := ⟨by simp, fun c h1 h2 => by
  rw [List.getElem?_set_ne]
  rcases hb with hb | hb
  · intro e; subst e; exact h2 hb
  · omega⟩
theorem Fx.trans {f : Nat} {E E' : List Nat} {A B C : LH} (h : Fx f E A B) (k : Fx B.length E' B C) (hf : f ≤ A.length) (he : ∀ c, c < f → c ∈ E' → c ∈ E) : Fx f E A C :=
  ⟨Nat.le_trans h.len k.len, fun b h1 h2 => (k.get b (by have := h.len; omega) (fun h3 => h2 (he b h1 h3))).trans (h.get b h1 h2)⟩
theorem cells_gx {A B : LH} {b : Nat} (h : B[b]? = A[b]?) : LH.cellsAt B b = LH.cellsAt A b := by
  unfold LH.cellsAt
  rw [h]
theorem Fx.cells {f b : Nat} {E : List Nat} {A B : LH} {l : List V} (h : Fx f E A B) (hc : LH.cellsAt A b = some l) (h1 : b < f) (h2 : b ∉ E) : LH.cellsAt B b = some l := by
  rw [cells_gx (h.get b h1 h2)]; exact hc
theorem Fx.hx {f : Nat} {E : List Nat} {A B G : LH} (h : Fx f E A B) (hx : Hx G A) (hl : G.length ≤ f) (hE : ∀ b ∈ E, G.length ≤ b) : Hx G B := by
  obtain ⟨L, rfl⟩ := hx
  refine ⟨B.drop G.length, ?_⟩
  have hlen := h.len
  rw [List.length_append] at hlen
  have : B.take G.length = G := by
    apply List.ext_getElem?
    intro i
    rw [List.getElem?_take]
    by_cases hi : i < G.length
    · rw [if_pos hi, h.get i (by omega) (fun hm => by have := hE i hm; omega), List.getElem?_append_left hi]
    · rw [if_neg hi, List.getElem?_eq_none (by omega)]
  conv => lhs; rw [← List.take_append_drop G.length B, this]
/-- the block of a slice, if it has one -/
def sbk : V → List Nat
  | .sl b _ _ _ _ => [b]
  | _ => []
theorem At.fr {α : Type} {enc : α → List V} {z f : Nat} {E : List Nat} {A B : LH} {v : V} {xs : List α} (h : At A enc z v xs) (k : Fx f E A B) (hv : ∀ c ∈ sbk v, c < f ∧ c ∉ E) : At B enc z v xs := by
  rcases h with h | ⟨b, o, c, l, rfl, h1, h2⟩
  · exact .inl h
  · have := hv b (by simp [sbk])
    exact .inr ⟨b, o, c, l, rfl, k.cells h1 this.1 this.2, h2⟩
theorem Own.fr {α : Type} {enc : α → List V} {z g f : Nat} {E : List Nat} {A B : LH} {v : V} {xs : List α} (h : Own g A enc z v xs) (k : Fx f E A B) (hv : ∀ c ∈ sbk v, c < f ∧ c ∉ E) : Own g B enc z v xs := by
  rcases h with h | ⟨b, rfl, h1, h2⟩
  · exact .inl h
  · have := hv b (by simp [sbk])
    exact .inr ⟨b, rfl, k.cells h1 this.1 this.2, h2⟩
theorem Own.sbk {α : Type} {enc : α → List V} {z g : Nat} {A : LH} {v : V} {xs : List α} (h : Own g A enc z v xs) : ∀ c ∈ sbk v, g ≤ c ∧ c < A.length := by
  intro c hc
  rcases h with ⟨_, rfl | rfl⟩ | ⟨b, rfl, h1, h2⟩
  · simp [Lg.sbk] at hc
  · simp [Lg.sbk] at hc
  · simp [Lg.sbk] at hc
    subst hc
    exact ⟨h2, cellsAt_lt h1⟩
theorem At.sbk {α : Type} {enc : α → List V} {z : Nat} {A : LH} {v : V} {xs : List α} (h : At A enc z v xs) : ∀ c ∈ sbk v, c < A.length := by
  intro c hc
  rcases h with ⟨_, rfl | rfl⟩ | ⟨b, o, q, l, rfl, h1, h2⟩
  · simp [Lg.sbk] at hc
  · simp [Lg.sbk] at hc
  · simp [Lg.sbk] at hc
    subst hc
    exact cellsAt_lt h1
theorem kill_fr {α : Type} {enc : α → List V} {z g : Nat} {A L : LH} {v : V} {xs : List α} (h : Own g A enc z v xs) : Fx A.length (sbk v) A (killV A v ++ L) := by
  rcases h with ⟨rfl, rfl | rfl⟩ | ⟨b, rfl, hc, h2⟩
  · exact Fx.app (Nat.le_refl _)
  · exact Fx.app (Nat.le_refl _)
  · refine ⟨by simp [killV], fun c h1 h2 => ?_⟩
    have hcb : c ≠ b := fun e => h2 (by simp [sbk, e])
    show ((A.set b .dead) ++ L)[c]? = A[c]?
    rw [List.getElem?_append_left (by rw [List.length_set]; exact h1), List.getElem?_set_ne (Ne.symm hcb)]
/-- a hit -/
structure Ht where
  doc : Int
  path : List Sg
  val : Val
  deriving DecidableEq
def pC (x : V) : List V := [x]
theorem pC_len (x : V) : (pC x).length = 1 := rfl
/-- a slice of patterns -/
structure PAt (H : LH) (w : V) (pv : List V) (ps : List (List Sg)) : Prop where
  at_ : At H pC 1 w pv
  len : pv.length = ps.length
  row : ∀ k, k < ps.length → At H sgC 3 (pv.getD k .nilsl) (ps.getD k [])
  few : ps.length ≤ 1048576
  sm : ∀ k, k < ps.length → (ps.getD k []).length ≤ 1048576
theorem PAt.ext {H B : LH} {w : V} {pv : List V} {ps : List (List Sg)} (h : PAt H w pv ps) (e : Hx H B) : PAt B w pv ps := ⟨h.at_.ext e, h.len, fun k hk => (h.row k hk).ext e, h.few, h.sm⟩
/-- the cells of a hit -/
structure HC where
  doc : Int
  pv : V
  val : Val
def htC (c : HC) : List V := [.int .i64 c.doc, c.pv, .int .i64 c.val.kind, .int .i64 c.val.n, .bool c.val.b, .str c.val.s]
theorem htC_len (c : HC) : (htC c).length = 6 := rfl
def hc0 : HC := ⟨0, .nilsl, va0⟩
def ht0 : Ht := ⟨0, [], va0⟩
structure RelH (f : Nat) (H : LH) (c : HC) (h : Ht) : Prop where
  doc : c.doc = h.doc
  val : c.val = h.val
  path : Own f H sgC 3 c.pv h.path
/-- hits, each path in a block of its own -/
structure HOwn (f : Nat) (H : LH) (v : V) (cs : List HC) (hs : List Ht) : Prop where
  own : Own f H htC 6 v cs
  len : cs.length = hs.length
  row : ∀ i, i < hs.length → RelH f H (cs.getD i hc0) (hs.getD i ht0)
  apart : ∀ i j, i < j → j < hs.length → ∀ a ∈ sbk (cs.getD i hc0).pv, ∀ c ∈ sbk (cs.getD j hc0).pv, a < c
  low : ∀ i, i < hs.length → ∀ a ∈ sbk (cs.getD i hc0).pv, ∀ c ∈ sbk v, a < c
theorem HOwn.nil {f : Nat} {H : LH} : HOwn f H .nilsl [] [] := ⟨.inl ⟨rfl, .inl rfl⟩, rfl, fun i h => absurd h (Nat.not_lt_zero _), fun i j _ h => absurd h (Nat.not_lt_zero _), fun i h => absurd h (Nat.not_lt_zero _)⟩
theorem HOwn.fr {g f : Nat} {E : List Nat} {A B : LH} {v : V} {cs : List HC} {hs : List Ht} (h : HOwn g A v cs hs) (k : Fx f E A B) (hf : A.length ≤ f) (hE : ∀ c ∈ E, c < g ∨ A.length ≤ c) : HOwn g B v cs hs := by
  have key : ∀ c, g ≤ c → c < A.length → c < f ∧ c ∉ E := fun c h1 h2 => ⟨by omega, fun h3 => by have := hE c h3; omega⟩
  refine ⟨h.own.fr k (fun c hc => ?_), h.len, fun i hi => ?_, h.apart, h.low⟩
  · have := h.own.sbk c hc; exact key c this.1 this.2
  · have r := h.row i hi
    exact ⟨r.doc, r.val, r.path.fr k (fun c hc => by have := r.path.sbk c hc; exact key c this.1 this.2)⟩
theorem getD_l {α : Type} {xs : List α} {y d : α} {i : Nat} (h : i < xs.length) : (xs ++ [y]).getD i d = xs.getD i d := by
  rw [List.getD_eq_getElem?_getD, List.getD_eq_getElem?_getD, List.getElem?_append_left h]
theorem getD_r {α : Type} {xs : List α} {y d : α} {i : Nat} (h : i = xs.length) : (xs ++ [y]).getD i d = y := by
  subst h
  rw [List.getD_eq_getElem?_getD, List.getElem?_append_right (Nat.le_refl _), Nat.sub_self]; rfl
theorem HOwn.put {f : Nat} {A L : LH} {hv pw : V} {cs : List HC} {hs : List Ht} {path : List Sg} (h : HOwn f A hv cs hs) (hp : Own f A sgC 3 pw path) (doc : Int) (val : Val)
    (hn1 : ∀ i, i < hs.length → ∀ a ∈ sbk (cs.getD i hc0).pv, ∀ c ∈ sbk pw, a < c) (hn2 : ∀ c ∈ sbk pw, ∀ b ∈ sbk hv, c ≠ b) (hf : f ≤ A.length) :
    HOwn f (killV (A ++ L) hv ++ [.cells (rows htC (cs ++ [⟨doc, pw, val⟩]))]) (.sl (A ++ L).length 0 6 (cs.length + 1) (cs.length + 1)) (cs ++ [⟨doc, pw, val⟩]) (hs ++ [⟨doc, path, val⟩]) := by
  have hfr : Fx A.length (sbk hv) A (killV (A ++ L) hv ++ [.cells (rows htC (cs ++ [⟨doc, pw, val⟩]))]) := by
    have k := kill_fr (L := [.cells (rows htC (cs ++ [⟨doc, pw, val⟩]))]) (h.own.ext (Hx.app (L := L)))
    refine ⟨by have := k.len; rw [List.length_append] at this; omega, fun c h1 h2 => ?_⟩
    rw [k.get c (by rw [List.length_append]; omega) h2, List.getElem?_append_left h1]
  have hl := h.len
  have an := app_new (enc := htC) (z := 6) (v := hv) (show f ≤ (A ++ L).length by rw [List.length_append]; omega) (cs ++ [⟨doc, pw, val⟩])
  have el : (cs ++ [(⟨doc, pw, val⟩ : HC)]).length = cs.length + 1 := by simp
  rw [el] at an
  refine ⟨an, by simp [hl], fun i hi => ?_, fun i j hij hj => ?_, fun i hi => ?_⟩
  · rw [List.length_append, List.length_singleton] at hi
    by_cases hlt : i < hs.length
    · rw [getD_l (by omega), getD_l hlt]
      have r := h.row i hlt
      refine ⟨r.doc, r.val, r.path.fr hfr (fun c hc => ?_)⟩
      have := r.path.sbk c hc
      exact ⟨this.2, fun h3 => by have := h.low i hlt c hc c h3; omega⟩
    · rw [getD_r (by omega), getD_r (by omega)]
      refine ⟨rfl, rfl, hp.fr hfr (fun c hc => ?_)⟩
      have := hp.sbk c hc
      exact ⟨this.2, fun h3 => hn2 c hc c h3 rfl⟩
  · rw [List.length_append, List.length_singleton] at hj
    rw [getD_l (by omega)]
    by_cases hlt : j < hs.length
    · rw [getD_l (by omega)]; exact h.apart i j hij hlt
    · rw [getD_r (by omega)]; exact hn1 i (by omega)
  · rw [List.length_append, List.length_singleton] at hi
    intro a ha c hc
    have hc : c = (A ++ L).length := by simpa [sbk] using hc
    rw [List.length_append] at hc
    by_cases hlt : i < hs.length
    · rw [getD_l (by omega)] at ha
      have := (h.row i hlt).path.sbk a ha
      omega
    · rw [getD_r (by omega)] at ha
      have := hp.sbk a ha
      omega
end Go.Proofs.YtcbjmggbbnpbpaaDoor.Lg
