/- The logical machine and its contracts, part 9. No condition. -/
import Derived.Test.YthlbglmfdjdagaaGreatDoorN8
namespace Go.Proofs.YthlbglmfdjdagaaGreatDoor.Lg
set_option linter.unusedSimpArgs false
set_option linter.unusedVariables false
set_option maxRecDepth 100000
set_option maxHeartbeats 40000000
open Go.Proofs.YthlbglmfdjdagaaGreatDoor
def encM (M : List (ByteArray × Nat)) : List (V × V) := M.map (fun p => (.str p.1, .int .i64 p.2))
def fnd (t : ByteArray) : List (ByteArray × Nat) → Nat → Option (Nat × Nat)
 | [], _ => none
 | (a, x) :: M, i => if t = a then some (i, x) else fnd t M (i + 1)
def Dj (M : List (ByteArray × Nat)) (t : ByteArray) : Option Nat := (fnd t M 0).map (·.2)
theorem Gc (t : ByteArray) : ∀ (M : List (ByteArray × Nat)) (i : Nat), CB (.str t) (encM M) i = some ((fnd t M i).map (fun p => (p.1, .int .i64 p.2)))
 | [], i => rfl
 | (a, x) :: M, i => by
   have ih := Gc t M (i + 1)
   show (match eqS (.str t) (.str a) with | some true => some (some (i, V.int .i64 (x : Int))) | some false => CB (.str t) (encM M) (i + 1) | none => none) = _
   simp only [eqS, fnd]
   by_cases h : t = a
   ·rw [if_pos h, decide_eq_true h]; rfl
   ·rw [if_neg h, decide_eq_false h]; exact ih
theorem PD (t : ByteArray) : ∀ (M : List (ByteArray × Nat)) (i j x : Nat), fnd t M i = some (j, x) → i ≤ j ∧ M[j - i]? = some (t, x)
 | [], i, j, x, h => by cases h
 | (a, y) :: M, i, j, x, h => by
   unfold fnd at h
   by_cases e : t = a
   ·rw [if_pos e] at h; cases h; subst e; exact ⟨Nat.le_refl _, by simp⟩
   ·rw [if_neg e] at h
    have := PD t M (i + 1) j x h
    refine ⟨by omega, ?_⟩
    rw [show j - i = (j - (i + 1)) + 1 by omega, List.getElem?_cons_succ]; exact this.2
theorem Jt (t : ByteArray) : ∀ (M : List (ByteArray × Nat)) (i k : Nat), (fnd t M i).map (·.2) = (fnd t M k).map (·.2)
 | [], i, k => rfl
 | (a, x) :: M, i, k => by
   unfold fnd
   by_cases e : t = a
   ·rw [if_pos e, if_pos e]; rfl
   ·rw [if_neg e, if_neg e]; exact Jt t M (i + 1) (k + 1)
theorem Bk (a t : ByteArray) (x : Nat) (M : List (ByteArray × Nat)) : Dj ((a, x) :: M) t = if t = a then some x else Dj M t := by
 show (if t = a then some (0, x) else fnd t M (0 + 1)).map (·.2) = _
 by_cases e : t = a
 ·rw [if_pos e, if_pos e]; rfl
 ·rw [if_neg e, if_neg e]; exact Jt t M 1 0
theorem JI {t u : ByteArray} {x : Nat} : ∀ {M : List (ByteArray × Nat)}, Dj M t = none → Dj (M ++ [(t, x)]) u = if u = t then some x else Dj M u
 | [], _ => by rw [List.nil_append, Bk]
 | (a, y) :: M, h => by
   rw [Bk] at h
   by_cases e : t = a
   ·rw [if_pos e] at h; cases h
   ·rw [if_neg e] at h
    rw [List.cons_append, Bk, Bk, JI h]
    by_cases e1 : u = a
    ·subst e1; rw [if_pos rfl, if_pos rfl, if_neg (fun h => e h.symm)]
    ·rw [if_neg e1, if_neg e1]
theorem JJ {t u : ByteArray} {x : Nat} : ∀ {M : List (ByteArray × Nat)} {i j y : Nat}, fnd t M i = some (j, y) → Dj (M.set (j - i) (t, x)) u = if u = t then some x else Dj M u
 | [], i, j, y, h => by cases h
 | (a, z) :: M, i, j, y, h => by
   unfold fnd at h
   by_cases e : t = a
   ·rw [if_pos e] at h; cases h; subst e
    rw [Nat.sub_self, List.set_cons_zero, Bk, Bk]
    by_cases e1 : u = t
    ·rw [if_pos e1, if_pos e1]
    ·rw [if_neg e1, if_neg e1, if_neg e1]
   ·rw [if_neg e] at h
    have hj := (PD t M (i + 1) j y h).1
    rw [show j - i = (j - (i + 1)) + 1 by omega, List.set_cons_succ, Bk, Bk, JJ h]
    by_cases e1 : u = a
    ·subst e1; rw [if_pos rfl, if_pos rfl, if_neg (fun h => e h.symm)]
    ·rw [if_neg e1, if_neg e1]
theorem RW (M : List (ByteArray × Nat)) (j : Nat) (t : ByteArray) (x : Nat) : (encM M).set j (.str t, .int .i64 (x : Int)) = encM (M.set j (t, x)) := by simp [encM, List.map_set]
theorem RV (M : List (ByteArray × Nat)) (t : ByteArray) (x : Nat) : encM M ++ [(.str t, .int .i64 (x : Int))] = encM (M ++ [(t, x)]) := by simp [encM]
theorem BB {H : LH} {b : Nat} {l} (h : H.mapAt b = some l) : b < H.length := by
 unfold LH.mapAt at h
 cases e : H[b]? with
 | none => rw [e] at h; cases h
 | some x => exact (List.getElem?_eq_some_iff.1 e).1
theorem NT {H L : LH} {b : Nat} {l} (h : H.mapAt b = some l) : LH.mapAt (H ++ L) b = some l := by
 unfold LH.mapAt at *
 rw [List.getElem?_append_left (BB h)]; exact h
theorem Qj {H : LH} {b : Nat} {l} (h : b < H.length) : LH.mapAt (H.set b (.map l)) b = some l := by
 unfold LH.mapAt
 rw [List.getElem?_set_self h]
theorem Di {H : LH} {b c : Nat} {x : Blk} (h : b ≠ c) : LH.mapAt (H.set b x) c = LH.mapAt H c := by
 unfold LH.mapAt
 rw [List.getElem?_set_ne h]
theorem Bj {H : LH} {b c : Nat} {l m} (h : H.cellsAt b = some l) (k : H.mapAt c = some m) : b ≠ c := by
 intro e
 subst e
 unfold LH.cellsAt LH.mapAt at *
 cases e : H[b]? with
 | none => rw [e] at h; cases h
 | some x => rw [e] at h k; cases x <;> simp at h k
open Go.Proofs.YthlbglmfdjdagaaGreatDoor
def bo1 (t : Bool) : List V := [.bool t]
theorem DU (t : Bool) : (bo1 t).length = 1 := rfl
structure RC where
 o : V
 en : V
 nm : Nat
 hv : V
def rdC (s : ByteArray) (c : RC) (pos depth : Nat) (cd pl : Int) (fr : Bool) (la : Int) : List V :=
 [.str s, .int .i64 pos, c.o, c.en, .map c.nm, c.hv, .int .i64 depth, .int .i64 cd, .int .i64 pl, .bool fr, .int .i64 la]
def rbl (b : Nat) (c : RC) : List Nat := b :: c.nm :: (sbk c.o ++ sbk c.en ++ sbk c.hv)
structure RH (G H : LH) (b : Nat) (s : ByteArray) (c : RC) (pos depth : Nat) (cd pl : Int) (fr : Bool) (la : Int) (out : List Ev) (ended : List Bool) (hands : List (ByteArray × ByteArray)) (names : List (ByteArray × Nat)) : Prop where
 hx : Hx G H
 hG : G.length ≤ b
 cell : H.cellsAt b = some (rdC s c pos depth cd pl fr la)
 oo : Own G.length H evC 8 c.o out
 oe : Own G.length H bo1 1 c.en ended
 oh : Own G.length H hdC 2 c.hv hands
 mp : ∃ M, H.mapAt c.nm = some (encM M) ∧ ∀ t, Dj M t = Ct names t
 hm : G.length ≤ c.nm
 bo : b ∉ sbk c.o
 be : b ∉ sbk c.en
 bh : b ∉ sbk c.hv
 oe0 : ∀ x ∈ sbk c.o, x ∉ sbk c.en
 oh0 : ∀ x ∈ sbk c.o, x ∉ sbk c.hv
 eh0 : ∀ x ∈ sbk c.en, x ∉ sbk c.hv
 mo : c.nm ∉ sbk c.o
 me : c.nm ∉ sbk c.en
 mh : c.nm ∉ sbk c.hv
structure RAt (G H : LH) (b : Nat) (s : ByteArray) (c : RC) (cd pl : Int) (fr : Bool) (la : Int) (st : RS) : Prop where
 hp : RH G H b s c st.pos st.depth cd pl fr la st.out st.ended st.hands st.names
 le : st.pos ≤ s.size
 len : st.ended.length = st.out.length
 dep : st.depth ≤ 40
 few : st.out.length ≤ 1000000
 fewh : st.hands.length ≤ 1000000
 fit : ∀ e ∈ st.out, fitE e
 fith : ∀ h ∈ st.hands, h.1.size ≤ 1048576 ∧ h.2.size ≤ 1048576
 num : ∀ x ∈ st.names, x.2 < st.out.length
structure RFr (b : Nat) (H : LH) (c : RC) (B : LH) (c' : RC) : Prop where
 fx : Fx H.length (rbl b c) H B
 nw : ∀ x ∈ rbl b c', x ∈ rbl b c ∨ H.length ≤ x
theorem RFr.refl {b : Nat} {H : LH} {c : RC} : RFr b H c H c := ⟨Fx.refl H, fun x h => .inl h⟩
theorem RFr.trans {b : Nat} {H B C : LH} {c c' c'' : RC} (h : RFr b H c B c') (k : RFr b B c' C c'') : RFr b H c C c'' := by
 have hl := h.fx.len
 refine ⟨h.fx.trans k.fx (Nat.le_refl _) (fun x h1 h2 => ?_), fun x hx => ?_⟩
 ·rcases h.nw x h2 with h3 | h3
  ·exact h3
  ·omega
 ·rcases k.nw x hx with h3 | h3
  ·exact h.nw x h3
  ·exact .inr (by omega)
theorem RFr.app {b : Nat} {H L : LH} {c : RC} : RFr b H c (H ++ L) c := ⟨Fx.app (Nat.le_refl _), fun x h => .inl h⟩
theorem RFr.set {b : Nat} {H : LH} {c : RC} {x : Blk} : RFr b H c (H.set b x) c := ⟨Fx.set (.inl (by simp [rbl])), fun x h => .inl h⟩
theorem RFr.cells {b x : Nat} {H B : LH} {c c' : RC} {l : List V} (h : RFr b H c B c') (hc : H.cellsAt x = some l) (hx : x ∉ rbl b c) : B.cellsAt x = some l ∧ x ∉ rbl b c' := by
 have hl := A5 hc
 refine ⟨h.fx.cells hc hl hx, fun hm => ?_⟩
 rcases h.nw x hm with h3 | h3
 ·exact hx h3
 ·omega
theorem RH.rb {G H : LH} {b : Nat} {s : ByteArray} {c : RC} {pos depth : Nat} {cd pl : Int} {fr : Bool} {la : Int} {out : List Ev} {ended : List Bool} {hands : List (ByteArray × ByteArray)} {names : List (ByteArray × Nat)} (h : RH G H b s c pos depth cd pl fr la out ended hands names) : ∀ x ∈ rbl b c, G.length ≤ x ∧ x < H.length := by
 intro x hx
 rcases List.mem_cons.1 hx with rfl | hx
 ·exact ⟨h.hG, A5 h.cell⟩
 rcases List.mem_cons.1 hx with rfl | hx
 ·obtain ⟨M, h1, _⟩ := h.mp
  exact ⟨h.hm, BB h1⟩
 rcases List.mem_append.1 hx with hx | hx
 ·rcases List.mem_append.1 hx with hx | hx
  ·exact h.oo.sbk x hx
  ·exact h.oe.sbk x hx
 ·exact h.oh.sbk x hx
theorem FH {A B : LH} {b : Nat} (h : B[b]? = A[b]?) : LH.mapAt B b = LH.mapAt A b := by
 unfold LH.mapAt
 rw [h]
theorem Wl {b x : Nat} {c : RC} (h : x ∈ sbk c.o) : x ∈ rbl b c := by unfold rbl; simp [h]
theorem V6 {b x : Nat} {c : RC} (h : x ∈ sbk c.en) : x ∈ rbl b c := by unfold rbl; simp [h]
theorem Wk {b x : Nat} {c : RC} (h : x ∈ sbk c.hv) : x ∈ rbl b c := by unfold rbl; simp [h]
theorem Gt {b : Nat} {c : RC} : b ∈ rbl b c := by unfold rbl; simp
theorem V7 {b : Nat} {c : RC} : c.nm ∈ rbl b c := by unfold rbl; simp
theorem RH.fr {G H : LH} {b : Nat} {s : ByteArray} {c : RC} {pos depth : Nat} {cd pl : Int} {fr : Bool} {la : Int} {out : List Ev} {ended : List Bool} {hands : List (ByteArray × ByteArray)} {names : List (ByteArray × Nat)} {B : LH} {f : Nat} {E : List Nat} (h : RH G H b s c pos depth cd pl fr la out ended hands names) (k : Fx f E H B) (hf : H.length ≤ f) (hE : ∀ x ∈ rbl b c, x ∉ E) (hEG : ∀ x ∈ E, G.length ≤ x) : RH G B b s c pos depth cd pl fr la out ended hands names := by
 have hr := h.rb
 have mem : ∀ x ∈ rbl b c, x < f ∧ x ∉ E := fun x hx => ⟨by have := hr x hx; omega, hE x hx⟩
 obtain ⟨M, hm1, hm2⟩ := h.mp
 exact ⟨k.hx h.hx (Nat.le_trans h.hx.len hf) hEG, h.hG, k.cells h.cell (mem b Gt).1 (mem b Gt).2, h.oo.fr k (fun x hx => mem x (Wl hx)), h.oe.fr k (fun x hx => mem x (V6 hx)), h.oh.fr k (fun x hx => mem x (Wk hx)),
  ⟨M, by rw [FH (k.get _ (mem _ V7).1 (mem _ V7).2)]; exact hm1, hm2⟩, h.hm, h.bo, h.be, h.bh, h.oe0, h.oh0, h.eh0, h.mo, h.me, h.mh⟩
theorem RH.left {G H : LH} {b : Nat} {s : ByteArray} {c : RC} {pos depth : Nat} {cd pl : Int} {fr : Bool} {la : Int} {out : List Ev} {ended : List Bool} {hands : List (ByteArray × ByteArray)} {names : List (ByteArray × Nat)} {L : LH} (h : RH G H b s c pos depth cd pl fr la out ended hands names) : RH G (H ++ L) b s c pos depth cd pl fr la out ended hands names := h.fr (E := []) (Fx.app (Nat.le_refl _)) (Nat.le_refl _) (by simp) (by simp)
theorem RH.upd {G H : LH} {b : Nat} {s : ByteArray} {c : RC} {pos depth : Nat} {cd pl : Int} {fr : Bool} {la : Int} {out : List Ev} {ended : List Bool} {hands : List (ByteArray × ByteArray)} {names : List (ByteArray × Nat)} (h : RH G H b s c pos depth cd pl fr la out ended hands names) {cd' pl' : Int} {fr' : Bool} {la' : Int} {p d : Nat} : RH G (H.set b (.cells (rdC s c p d cd' pl' fr' la'))) b s c p d cd' pl' fr' la' out ended hands names := by
 have hb := A5 h.cell
 have k : Fx H.length [b] H (H.set b (.cells (rdC s c p d cd' pl' fr' la'))) := Fx.set (.inl (by simp))
 have m1 : ∀ x ∈ sbk c.o, x < H.length ∧ x ∉ [b] := fun x hx => ⟨(h.oo.sbk x hx).2, fun hm => h.bo (by rw [← List.mem_singleton.1 hm]; exact hx)⟩
 have m2 : ∀ x ∈ sbk c.en, x < H.length ∧ x ∉ [b] := fun x hx => ⟨(h.oe.sbk x hx).2, fun hm => h.be (by rw [← List.mem_singleton.1 hm]; exact hx)⟩
 have m3 : ∀ x ∈ sbk c.hv, x < H.length ∧ x ∉ [b] := fun x hx => ⟨(h.oh.sbk x hx).2, fun hm => h.bh (by rw [← List.mem_singleton.1 hm]; exact hx)⟩
 obtain ⟨M, hm1, hm2⟩ := h.mp
 exact ⟨h.hx.set h.hG, h.hG, A1 hb, h.oo.fr k m1, h.oe.fr k m2, h.oh.fr k m3, ⟨M, by rw [Di (Bj h.cell hm1)]; exact hm1, hm2⟩, h.hm, h.bo, h.be, h.bh, h.oe0, h.oh0, h.eh0, h.mo, h.me, h.mh⟩
theorem Q9 {α : Type} {enc : α → List V} {z g b : Nat} {A X : LH} {v : V} {xs : List α} (h : Own g A enc z v xs) (hb : b < A.length) {l : List V} :
 Fx A.length (b :: sbk v) A (List.set (B5 A v ++ X) b (.cells l)) := by
 have k := Il (L := X) h
 have k2 : Fx (B5 A v ++ X).length [b] (B5 A v ++ X) (List.set (B5 A v ++ X) b (.cells l)) := Fx.set (.inl (by simp))
 refine k.up2.trans k2 (Nat.le_refl _) (fun x _ hx => by rw [List.mem_singleton.1 hx]; simp)
theorem RH.pushO {G H : LH} {b : Nat} {s : ByteArray} {c : RC} {pos depth : Nat} {cd pl : Int} {fr : Bool} {la : Int} {out : List Ev} {ended : List Bool} {hands : List (ByteArray × ByteArray)} {names : List (ByteArray × Nat)} (h : RH G H b s c pos depth cd pl fr la out ended hands names) (e : Ev) :
 RH G (List.set (B5 H c.o ++ [.cells (rows evC (out ++ [e]))]) b (.cells (rdC s ⟨.sl H.length 0 8 (out.length + 1) (out.length + 1), c.en, c.nm, c.hv⟩ pos depth cd pl fr la))) b s ⟨.sl H.length 0 8 (out.length + 1) (out.length + 1), c.en, c.nm, c.hv⟩ pos depth cd pl fr la (out ++ [e]) ended hands names ∧
 RFr b H c (List.set (B5 H c.o ++ [.cells (rows evC (out ++ [e]))]) b (.cells (rdC s ⟨.sl H.length 0 8 (out.length + 1) (out.length + 1), c.en, c.nm, c.hv⟩ pos depth cd pl fr la))) ⟨.sl H.length 0 8 (out.length + 1) (out.length + 1), c.en, c.nm, c.hv⟩ := by
 have hb := A5 h.cell
 have k := Q9 (X := [Blk.cells (rows evC (out ++ [e]))]) (l := rdC s ⟨.sl H.length 0 8 (out.length + 1) (out.length + 1), c.en, c.nm, c.hv⟩ pos depth cd pl fr la) h.oo hb
 have hlen : (B5 H c.o ++ [Blk.cells (rows evC (out ++ [e]))]).length = H.length + 1 := by rw [List.length_append, Ca]; rfl
 obtain ⟨M, hm1, hm2⟩ := h.mp
 have hmb := Bj h.cell hm1
 have hMm : c.nm ∉ b :: sbk c.o := fun hm => by
  rcases List.mem_cons.1 hm with e | hm
  ·exact hmb e.symm
  ·exact h.mo hm
 have an := D8 (enc := evC) (z := 8) (v := c.o) (H := H) (f0 := H.length) (Nat.le_refl _) (out ++ [e])
 have el : (out ++ [e]).length = out.length + 1 := by simp
 rw [el] at an
 refine ⟨⟨k.hx h.hx h.hx.len (fun x hx => ?_), h.hG, A1 (by rw [hlen]; omega), (an.setNe hb).down h.hx.len, h.oe.fr k (fun x hx => ?_), h.oh.fr k (fun x hx => ?_),
  ⟨M, by rw [FH (k.get _ (BB hm1) hMm)]; exact hm1, hm2⟩, h.hm, ?_, h.be, h.bh, ?_, ?_, h.eh0, ?_, h.me, h.mh⟩, ?_⟩
 ·rcases List.mem_cons.1 hx with rfl | hx
  ·exact h.hG
  ·exact (h.oo.sbk x hx).1
 ·refine ⟨(h.oe.sbk x hx).2, fun hm => ?_⟩
  rcases List.mem_cons.1 hm with rfl | hm
  ·exact h.be hx
  ·exact h.oe0 x hm hx
 ·refine ⟨(h.oh.sbk x hx).2, fun hm => ?_⟩
  rcases List.mem_cons.1 hm with rfl | hm
  ·exact h.bh hx
  ·exact h.oh0 x hm hx
 ·intro hm
  have : b = H.length := by simpa [sbk] using hm
  omega
 ·intro x hx hm
  have : x = H.length := by simpa [sbk] using hx
  have := h.oe.sbk x hm; omega
 ·intro x hx hm
  have : x = H.length := by simpa [sbk] using hx
  have := h.oh.sbk x hm; omega
 ·intro hm
  have : c.nm = H.length := by simpa [sbk] using hm
  have := BB hm1; omega
 ·refine ⟨k.sub (fun x hx => ?_), fun x hx => ?_⟩
  ·rcases List.mem_cons.1 hx with rfl | hx
   ·exact Gt
   ·exact Wl hx
  ·unfold rbl at hx ⊢
   simp only [List.mem_cons, List.mem_append, sbk, List.not_mem_nil, or_false] at hx ⊢
   grind
theorem RH.pushE {G H : LH} {b : Nat} {s : ByteArray} {c : RC} {pos depth : Nat} {cd pl : Int} {fr : Bool} {la : Int} {out : List Ev} {ended : List Bool} {hands : List (ByteArray × ByteArray)} {names : List (ByteArray × Nat)} (h : RH G H b s c pos depth cd pl fr la out ended hands names) (e : Bool) :
 RH G (List.set (B5 H c.en ++ [.cells (rows bo1 (ended ++ [e]))]) b (.cells (rdC s ⟨c.o, .sl H.length 0 1 (ended.length + 1) (ended.length + 1), c.nm, c.hv⟩ pos depth cd pl fr la))) b s ⟨c.o, .sl H.length 0 1 (ended.length + 1) (ended.length + 1), c.nm, c.hv⟩ pos depth cd pl fr la out (ended ++ [e]) hands names ∧
 RFr b H c (List.set (B5 H c.en ++ [.cells (rows bo1 (ended ++ [e]))]) b (.cells (rdC s ⟨c.o, .sl H.length 0 1 (ended.length + 1) (ended.length + 1), c.nm, c.hv⟩ pos depth cd pl fr la))) ⟨c.o, .sl H.length 0 1 (ended.length + 1) (ended.length + 1), c.nm, c.hv⟩ := by
 have hb := A5 h.cell
 have k := Q9 (X := [Blk.cells (rows bo1 (ended ++ [e]))]) (l := rdC s ⟨c.o, .sl H.length 0 1 (ended.length + 1) (ended.length + 1), c.nm, c.hv⟩ pos depth cd pl fr la) h.oe hb
 have hlen : (B5 H c.en ++ [Blk.cells (rows bo1 (ended ++ [e]))]).length = H.length + 1 := by rw [List.length_append, Ca]; rfl
 obtain ⟨M, hm1, hm2⟩ := h.mp
 have hmb := Bj h.cell hm1
 have hMm : c.nm ∉ b :: sbk c.en := fun hm => by
  rcases List.mem_cons.1 hm with e | hm
  ·exact hmb e.symm
  ·exact h.me hm
 have an := D8 (enc := bo1) (z := 1) (v := c.en) (H := H) (f0 := H.length) (Nat.le_refl _) (ended ++ [e])
 have el : (ended ++ [e]).length = ended.length + 1 := by simp
 rw [el] at an
 refine ⟨⟨k.hx h.hx h.hx.len (fun x hx => ?_), h.hG, A1 (by rw [hlen]; omega), h.oo.fr k (fun x hx => ?_), (an.setNe hb).down h.hx.len, h.oh.fr k (fun x hx => ?_),
  ⟨M, by rw [FH (k.get _ (BB hm1) hMm)]; exact hm1, hm2⟩, h.hm, h.bo, ?_, h.bh, ?_, h.oh0, ?_, h.mo, ?_, h.mh⟩, ?_⟩
 ·rcases List.mem_cons.1 hx with rfl | hx
  ·exact h.hG
  ·exact (h.oe.sbk x hx).1
 ·refine ⟨(h.oo.sbk x hx).2, fun hm => ?_⟩
  rcases List.mem_cons.1 hm with rfl | hm
  ·exact h.bo hx
  ·exact h.oe0 x hx hm
 ·refine ⟨(h.oh.sbk x hx).2, fun hm => ?_⟩
  rcases List.mem_cons.1 hm with rfl | hm
  ·exact h.bh hx
  ·exact h.eh0 x hm hx
 ·intro hm
  have : b = H.length := by simpa [sbk] using hm
  omega
 ·intro x hx hm
  have : x = H.length := by simpa [sbk] using hm
  have := h.oo.sbk x hx; omega
 ·intro x hx hm
  have : x = H.length := by simpa [sbk] using hx
  have := h.oh.sbk x hm; omega
 ·intro hm
  have : c.nm = H.length := by simpa [sbk] using hm
  have := BB hm1; omega
 ·refine ⟨k.sub (fun x hx => ?_), fun x hx => ?_⟩
  ·rcases List.mem_cons.1 hx with rfl | hx
   ·exact Gt
   ·exact V6 hx
  ·unfold rbl at hx ⊢
   simp only [List.mem_cons, List.mem_append, sbk, List.not_mem_nil, or_false] at hx ⊢
   grind
theorem RH.mapW {G H : LH} {b : Nat} {s : ByteArray} {c : RC} {pos depth : Nat} {cd pl : Int} {fr : Bool} {la : Int} {out : List Ev} {ended : List Bool} {hands : List (ByteArray × ByteArray)} {names : List (ByteArray × Nat)} (h : RH G H b s c pos depth cd pl fr la out ended hands names) {M : List (ByteArray × Nat)} {names' : List (ByteArray × Nat)} (hM : ∀ t, Dj M t = Ct names' t) : RH G (H.set c.nm (.map (encM M))) b s c pos depth cd pl fr la out ended hands names' ∧ RFr b H c (H.set c.nm (.map (encM M))) c := by
 obtain ⟨M0, hm1, hm2⟩ := h.mp
 have hmb := Bj h.cell hm1
 have k : Fx H.length [c.nm] H (H.set c.nm (.map (encM M))) := Fx.set (.inl (by simp))
 refine ⟨⟨h.hx.set h.hm, h.hG, by rw [A0 (Ne.symm hmb)]; exact h.cell, h.oo.fr k (fun x hx => ⟨(h.oo.sbk x hx).2, fun hm => h.mo (by rw [← List.mem_singleton.1 hm]; exact hx)⟩), h.oe.fr k (fun x hx => ⟨(h.oe.sbk x hx).2, fun hm => h.me (by rw [← List.mem_singleton.1 hm]; exact hx)⟩),
  h.oh.fr k (fun x hx => ⟨(h.oh.sbk x hx).2, fun hm => h.mh (by rw [← List.mem_singleton.1 hm]; exact hx)⟩), ⟨M, Qj (BB hm1), hM⟩, h.hm, h.bo, h.be, h.bh, h.oe0, h.oh0, h.eh0, h.mo, h.me, h.mh⟩, ⟨k.sub (fun x hx => by rw [List.mem_singleton.1 hx]; exact V7), fun x hx => .inl hx⟩⟩
theorem RH.o1 {G H : LH} {b : Nat} {s : ByteArray} {c : RC} {pos depth : Nat} {cd pl : Int} {fr : Bool} {la : Int} {out : List Ev} {ended : List Bool} {hands : List (ByteArray × ByteArray)} {names : List (ByteArray × Nat)} (h : RH G H b s c pos depth cd pl fr la out ended hands names) : c.o.isTup = false ∧ c.o.cells = [c.o] ∧ c.en.isTup = false ∧ c.en.cells = [c.en] ∧ c.hv.isTup = false ∧ c.hv.cells = [c.hv] :=
 ⟨(h.oo.at CA).isTup, (h.oo.at CA).one, (h.oe.at DU).isTup, (h.oe.at DU).one, (h.oh.at DW).isTup, (h.oh.at DW).one⟩
theorem RAt.left {G H : LH} {b : Nat} {s : ByteArray} {c : RC} {cd pl : Int} {fr : Bool} {la : Int} {st : RS} {L : LH} (h : RAt G H b s c cd pl fr la st) : RAt G (H ++ L) b s c cd pl fr la st := ⟨h.hp.left, h.le, h.len, h.dep, h.few, h.fewh, h.fit, h.fith, h.num⟩
theorem RAt.other {G H : LH} {b : Nat} {s : ByteArray} {c : RC} {cd pl : Int} {fr : Bool} {la : Int} {st : RS} {x : Nat} {y : Blk} (h : RAt G H b s c cd pl fr la st) (hx : x ∉ rbl b c) (hG : G.length ≤ x) : RAt G (H.set x y) b s c cd pl fr la st :=
 ⟨h.hp.fr (f := H.length) (E := [x]) (Fx.set (.inl (by simp))) (Nat.le_refl _) (fun z hz hm => by rw [List.mem_singleton.1 hm] at hz; exact hx hz) (fun z hz => by rw [List.mem_singleton.1 hz]; exact hG), h.le, h.len, h.dep, h.few, h.fewh, h.fit, h.fith, h.num⟩
theorem RAt.upd {G H : LH} {b : Nat} {s : ByteArray} {c : RC} {cd pl : Int} {fr : Bool} {la : Int} {st : RS} (h : RAt G H b s c cd pl fr la st) {cd' pl' : Int} {fr' : Bool} {la' : Int} {p d : Nat} (hp : p ≤ s.size) (hd : d ≤ 40) :
 RAt G (H.set b (.cells (rdC s c p d cd' pl' fr' la'))) b s c cd' pl' fr' la' ⟨p, st.out, st.names, st.ended, st.hands, d⟩ := ⟨h.hp.upd, hp, h.len, hd, h.few, h.fewh, h.fit, h.fith, h.num⟩
def GoodA (G H : LH) (b : Nat) (s : ByteArray) (c : RC) (fr : Bool) (la : Int) (st : RS) (B : LH) : Prop := ∃ c', RAt G B b s c' 0 0 fr la st ∧ RFr b H c B c'
def BadA (G H : LH) (b : Nat) (s : ByteArray) (c : RC) (o : List Ev) (cd pl : Int) (B : LH) : Prop := ∃ c' fr la st, RAt G B b s c' cd pl fr la st ∧ st.out = o ∧ cd ≠ 0 ∧ RFr b H c B c'
theorem BadA.trans {G H B C : LH} {b : Nat} {s : ByteArray} {c c' : RC} {o : List Ev} {cd pl : Int} (h : RFr b H c B c') (k : BadA G B b s c' o cd pl C) : BadA G H b s c o cd pl C := by
 obtain ⟨c2, fr, la, st, h1, h2, h3, h4⟩ := k
 exact ⟨c2, fr, la, st, h1, h2, h3, h.trans h4⟩
theorem GoodA.trans {G H B C : LH} {b : Nat} {s : ByteArray} {c c' : RC} {fr : Bool} {la : Int} {st : RS} (h : RFr b H c B c') (k : GoodA G B b s c' fr la st C) : GoodA G H b s c fr la st C := by
 obtain ⟨c2, h1, h4⟩ := k
 exact ⟨c2, h1, h.trans h4⟩
def PostU (G H : LH) (b : Nat) (s : ByteArray) (c : RC) (fr : Bool) (la : Int) (r : RR Unit) (w : V) (B : LH) : Prop :=
 match r with
 | .ok _ st => w = .bool true ∧ GoodA G H b s c fr la st B
 | .bad o cd pl => w = .bool false ∧ BadA G H b s c o cd pl B
def PostB (G H : LH) (b : Nat) (s : ByteArray) (c : RC) (r : RR Bool) (w : V) (B : LH) : Prop :=
 match r with
 | .ok fr st => w = .bool true ∧ ∃ la, GoodA G H b s c fr la st B
 | .bad o cd pl => w = .bool false ∧ BadA G H b s c o cd pl B
theorem PostU.trans {G H B C : LH} {b : Nat} {s : ByteArray} {c c' : RC} {fr : Bool} {la : Int} {r : RR Unit} {w : V} (h : RFr b H c B c') (k : PostU G B b s c' fr la r w C) : PostU G H b s c fr la r w C := by
 cases r with
 | ok _ st => exact ⟨k.1, k.2.trans h⟩
 | bad o cd pl => exact ⟨k.1, k.2.trans h⟩
theorem PostB.trans {G H B C : LH} {b : Nat} {s : ByteArray} {c c' : RC} {r : RR Bool} {w : V} (h : RFr b H c B c') (k : PostB G B b s c' r w C) : PostB G H b s c r w C := by
 cases r with
 | ok _ st => obtain ⟨k1, la, k2⟩ := k; exact ⟨k1, la, k2.trans h⟩
 | bad o cd pl => exact ⟨k.1, k.2.trans h⟩
open Go.Proofs.YthlbglmfdjdagaaGreatDoor
theorem Bo {G H : LH} {b : Nat} {s : ByteArray} {c : RC} {fr : Bool} {la : Int} {st : RS} {cd pl : Int} (h : RAt G H b s c 0 0 fr la st) (hc : cd ≠ 0) : BadA G H b s c st.out cd pl (H.set b (.cells (rdC s c st.pos st.depth cd pl fr la))) :=
 ⟨c, fr, la, _, h.upd h.le h.dep, rfl, hc, RFr.set⟩
theorem Ao {G H : LH} {b : Nat} {s : ByteArray} {c : RC} {fr : Bool} {la : Int} {st : RS} (h : RAt G H b s c 0 0 fr la st) (cd pl : Int) (fl : Nat) (hf : fl ≤ G.length) :
 run 50 [.ptr b 0, .int .i64 cd, .int .i64 pl] fl H = some (.bool false, H.set b (.cells (rdC s c st.pos st.depth cd pl fr la))) := by
 have hc := h.hp.cell
 have hb := A5 hc
 have hG := h.hp.hG
 obtain ⟨o1, o2, o3, o4, o5, o6⟩ := h.hp.o1
 unfold rdC at *
 unfold run at *
 rw [z50]
 simp +contextual -implicitDefEqProofs (maxSteps := 10000000) (disch := first | (and_intros <;> omega -splitDisjunctions) | (push_cast; and_intros <;> omega -splitDisjunctions) | fail) only [hc, o1, o2, o3, o4, o5, o6, A1, A0, A2, A3, go_sem, seval]
theorem By {G H : LH} {b : Nat} {s : ByteArray} {c : RC} {cd pl : Int} {fr : Bool} {la : Int} {st : RS} (h : RAt G H b s c cd pl fr la st) (p : Nat) (hp : p ≤ s.size) (hs : s.size ≤ 16777216) (fl : Nat) (hf : fl ≤ G.length) :
 run 55 [.ptr b 0, .int .i64 (p : Int)] fl H = some (.bool (decide (Aw s p)), H) := by
 have hc := h.hp.cell
 have hb := A5 hc
 have hG := h.hp.hG
 have e1 := fun fl H => AK s p fl H hp (by omega)
 obtain ⟨o1, o2, o3, o4, o5, o6⟩ := h.hp.o1
 unfold rdC at *
 by_cases h1 : s.size ≤ p
 ·rw [decide_eq_true (show Aw s p from .inl h1)]
  have t1 : ((s.size : Int) ≤ p) = True := eq_true (by omega)
  unfold run at *
  rw [z55]
  simp +contextual -implicitDefEqProofs (maxSteps := 10000000) (disch := first | (and_intros <;> omega -splitDisjunctions) | (push_cast; and_intros <;> omega -splitDisjunctions) | fail) only [hc, e1, t1, o1, o2, o3, o4, o5, o6, A1, A0, A2, A3, go_sem, seval]
 ·have t1 : ((s.size : Int) ≤ p) = False := eq_false (by omega)
  by_cases h2 : Ah s p ≠ 0
  ·rw [decide_eq_true (show Aw s p from .inr h2)]
   unfold run at *
   rw [z55]
   simp +contextual -implicitDefEqProofs (maxSteps := 10000000) (disch := first | (and_intros <;> omega -splitDisjunctions) | (push_cast; and_intros <;> omega -splitDisjunctions) | fail) only [hc, e1, t1, h2, o1, o2, o3, o4, o5, o6, A1, A0, A2, A3, go_sem, seval]
  ·rw [decide_eq_false (show ¬ Aw s p from fun k => by rcases k with k | k; exact h1 k; exact h2 k)]
   have h2 : Ah s p = 0 := by simpa using h2
   unfold run at *
   rw [z55]
   simp +contextual -implicitDefEqProofs (maxSteps := 10000000) (disch := first | (and_intros <;> omega -splitDisjunctions) | (push_cast; and_intros <;> omega -splitDisjunctions) | fail) only [hc, e1, t1, h2, o1, o2, o3, o4, o5, o6, A1, A0, A2, A3, go_sem, seval]
theorem SV {s : ByteArray} {p : Nat} : BP s p = 0 ∨ (BP s p = 3 ∧ s.size ≤ p) ∨ (BP s p = 4 ∧ p < s.size ∧ Ah s p ≠ 0) := by
 unfold BP
 by_cases h1 : s.size ≤ p
 ·rw [if_pos h1]; exact .inr (.inl ⟨rfl, h1⟩)
 ·rw [if_neg h1]
  by_cases h2 : Ah s p ≠ 0
  ·rw [if_pos h2]; exact .inr (.inr ⟨rfl, by omega, h2⟩)
  ·rw [if_neg h2]; exact .inl rfl
theorem Fd {s : ByteArray} {p : Nat} (h : BP s p = 0) : p < s.size ∧ Ah s p = 0 := by
 unfold BP at h
 by_cases h1 : s.size ≤ p
 ·rw [if_pos h1] at h; cases h
 ·rw [if_neg h1] at h
  by_cases h2 : Ah s p ≠ 0
  ·rw [if_pos h2] at h; cases h
  ·exact ⟨by omega, by simpa using h2⟩
theorem FG {s : ByteArray} {st : RS} {r : RR Unit} (h : GV s st = some r) : (BP s st.pos = 0 ∧ r = .ok () st) ∨ (BP s st.pos ≠ 0 ∧ r = .bad st.out (BP s st.pos) st.pos) := by
 unfold GV at h
 by_cases k : BP s st.pos = 0
 ·rw [if_pos k] at h; cases h; exact .inl ⟨k, rfl⟩
 ·rw [if_neg k] at h; cases h; exact .inr ⟨k, rfl⟩
theorem MQ {G H : LH} {b : Nat} {s : ByteArray} {c : RC} {fr : Bool} {la : Int} {st : RS} (h : RAt G H b s c 0 0 fr la st) (hs : s.size ≤ 16777216) (fl : Nat) (hf : fl ≤ G.length) {r : RR Unit} (hm : GV s st = some r) :
 Ret (PostU G H b s c fr la r) (run 135 [.ptr b 0] fl H) := by
 have hc := h.hp.cell
 have hb := A5 hc
 have hG := h.hp.hG
 have hle := h.le
 have e1 := fun fl H => AK s st.pos fl H hle (by omega)
 have e2 := fun cd pl fl hf => Ao h cd pl fl hf
 have hbad := fun cd (hcd : cd ≠ 0) pl => Bo h (cd := cd) (pl := pl) hcd
 obtain ⟨o1, o2, o3, o4, o5, o6⟩ := h.hp.o1
 unfold rdC at *
 unfold run at *
 generalize hQ : PostU G H b s c fr la r = Q
 rw [z135]
 rcases FG hm with ⟨h0, rfl⟩ | ⟨h0, rfl⟩
 ·obtain ⟨h1, h2⟩ := Fd h0
  have t1 : ((s.size : Int) ≤ (st.pos : Int)) = False := eq_false (by omega)
  simp +contextual -implicitDefEqProofs (maxSteps := 10000000) (disch := first | (and_intros <;> omega -splitDisjunctions) | (push_cast; and_intros <;> omega -splitDisjunctions) | fail) only [hc, e1, e2, t1, h2, o1, o2, o3, o4, o5, o6, A1, A0, A2, A3, go_sem, seval]
  subst hQ
  exact ⟨rfl, c, h, RFr.refl⟩
 ·rcases SV (s := s) (p := st.pos) with h1 | ⟨h1, h2⟩ | ⟨h1, h2, h3⟩
  ·exact absurd h1 h0
  ·have t1 : ((s.size : Int) ≤ (st.pos : Int)) = True := eq_true (by omega)
   rw [h1] at hQ
   simp +contextual -implicitDefEqProofs (maxSteps := 10000000) (disch := first | (and_intros <;> omega -splitDisjunctions) | (push_cast; and_intros <;> omega -splitDisjunctions) | fail) only [hc, e1, e2, t1, o1, o2, o3, o4, o5, o6, A1, A0, A2, A3, go_sem, seval]
   subst hQ
   exact ⟨rfl, hbad 3 (by decide) _⟩
  ·have t1 : ((s.size : Int) ≤ (st.pos : Int)) = False := eq_false (by omega)
   rw [h1] at hQ
   simp +contextual -implicitDefEqProofs (maxSteps := 10000000) (disch := first | (and_intros <;> omega -splitDisjunctions) | (push_cast; and_intros <;> omega -splitDisjunctions) | fail) only [hc, e1, e2, t1, h3, o1, o2, o3, o4, o5, o6, A1, A0, A2, A3, go_sem, seval]
   subst hQ
   exact ⟨rfl, hbad 4 (by decide) _⟩
theorem BR {G H : LH} {b : Nat} {s : ByteArray} {c : RC} {fr : Bool} {la : Int} {st : RS} (h : RAt G H b s c 0 0 fr la st) (hs : s.size ≤ 16777216) (fl : Nat) (hf : fl ≤ G.length) {r : RR Unit} (hm : gapM s st = some r) :
 Ret (PostU G H b s c fr la r) (run 119 [.ptr b 0] fl H) := by
 have hc := h.hp.cell
 have hb := A5 hc
 have hG := h.hp.hG
 have hle := h.le
 have e1 := fun fl H => DD s st.pos fl H hle (by omega)
 have hg := BL hle
 have h2 := h.upd (cd' := 0) (pl' := 0) (fr' := fr) (la' := la) hg h.dep
 obtain ⟨w, B, e2, hP⟩ := MQ h2 hs fl hf hm
 obtain ⟨o1, o2, o3, o4, o5, o6⟩ := h.hp.o1
 unfold rdC at *
 unfold run at *
 rw [z119]
 simp +contextual -implicitDefEqProofs (maxSteps := 10000000) (disch := first | (and_intros <;> omega -splitDisjunctions) | (push_cast; and_intros <;> omega -splitDisjunctions) | fail) only [hc, e1, e2, o1, o2, o3, o4, o5, o6, A1, A0, A2, A3, go_sem, seval]
 exact hP.trans RFr.set
open Go.Proofs.YthlbglmfdjdagaaGreatDoor
theorem RH.appO {G H : LH} {b : Nat} {s : ByteArray} {c : RC} {pos depth : Nat} {cd pl : Int} {fr : Bool} {la : Int} {out : List Ev} {ended : List Bool} {hands : List (ByteArray × ByteArray)} {names : List (ByteArray × Nat)} (h : RH G H b s c pos depth cd pl fr la out ended hands names) (e : Ev) (hl : out.length ≤ 1000000) {fl : Nat} (hf : fl ≤ G.length) :
 ∃ Y X, (∀ bytes : Nat, (out.length + 1) * bytes ≤ 1099511627776 → AB fl 8 bytes H 1 (evC e) c.o = some (.sl H.length 0 8 (out.length + 1) (out.length + 1), Y)) ∧ Y.cellsAt b = some (rdC s c pos depth cd pl fr la) ∧
  Y.set b (.cells (rdC s ⟨.sl H.length 0 8 (out.length + 1) (out.length + 1), c.en, c.nm, c.hv⟩ pos depth cd pl fr la)) = X ∧ RH G X b s ⟨.sl H.length 0 8 (out.length + 1) (out.length + 1), c.en, c.nm, c.hv⟩ pos depth cd pl fr la (out ++ [e]) ended hands names ∧ RFr b H c X ⟨.sl H.length 0 8 (out.length + 1) (out.length + 1), c.en, c.nm, c.hv⟩ := by
 have hp := h.pushO e
 have hb := A5 h.cell
 refine ⟨_, _, fun bytes hby => CR h.oo CA hf bytes (by unfold Aj; omega) e, ?_, rfl, hp.1, hp.2⟩
 have k := Il (L := [.cells (rows evC (out ++ [e]))]) h.oo
 exact k.cells h.cell hb h.bo
theorem RH.appE {G H : LH} {b : Nat} {s : ByteArray} {c : RC} {pos depth : Nat} {cd pl : Int} {fr : Bool} {la : Int} {out : List Ev} {ended : List Bool} {hands : List (ByteArray × ByteArray)} {names : List (ByteArray × Nat)} (h : RH G H b s c pos depth cd pl fr la out ended hands names) (e : Bool) (hl : ended.length ≤ 1000000) {fl : Nat} (hf : fl ≤ G.length) :
 ∃ Y X, (∀ bytes : Nat, (ended.length + 1) * bytes ≤ 1099511627776 → AB fl 1 bytes H 1 [.bool e] c.en = some (.sl H.length 0 1 (ended.length + 1) (ended.length + 1), Y)) ∧ Y.cellsAt b = some (rdC s c pos depth cd pl fr la) ∧
  Y.set b (.cells (rdC s ⟨c.o, .sl H.length 0 1 (ended.length + 1) (ended.length + 1), c.nm, c.hv⟩ pos depth cd pl fr la)) = X ∧ RH G X b s ⟨c.o, .sl H.length 0 1 (ended.length + 1) (ended.length + 1), c.nm, c.hv⟩ pos depth cd pl fr la out (ended ++ [e]) hands names ∧ RFr b H c X ⟨c.o, .sl H.length 0 1 (ended.length + 1) (ended.length + 1), c.nm, c.hv⟩ := by
 have hp := h.pushE e
 have hb := A5 h.cell
 refine ⟨_, _, fun bytes hby => CR h.oe DU hf bytes (by unfold Aj; omega) e, ?_, rfl, hp.1, hp.2⟩
 have k := Il (L := [.cells (rows bo1 (ended ++ [e]))]) h.oe
 exact k.cells h.cell hb h.be
theorem RFr.from {b : Nat} {H L B : LH} {c c' : RC} (h : RFr b (H ++ L) c B c') : RFr b H c B c' := RFr.app.trans h
theorem BC {G H : LH} {b : Nat} {s : ByteArray} {c : RC} {cd pl : Int} {fr : Bool} {la : Int} {st : RS} (h : RAt G H b s c cd pl fr la st) (e : Ev) (hl : st.out.length < 1000000) (he : fitE e) (fl : Nat) (hf : fl ≤ G.length) :
 Ret (fun w B => w = .int .i64 st.out.length ∧ ∃ c', RAt G B b s c' cd pl fr la (st.tell e) ∧ RFr b H c B c') (run 34 [.ptr b 0, .agg (evC e)] fl H) := by
 generalize hQ : (fun (w : V) (B : LH) => w = .int .i64 st.out.length ∧ ∃ c', RAt G B b s c' cd pl fr la (st.tell e) ∧ RFr b H c B c') = Q
 have hG := h.hp.hG
 have hb := A5 h.hp.cell
 have hlen := h.len
 have hH1 : H.length ∉ rbl b c := fun hm => by have := (h.hp.rb _ hm).2; omega
 obtain ⟨Y1, X1, ap1, cY1, sY1, hX1, f1⟩ := (h.hp.left (L := [.cells (evC e), .cells (evC e)])).appO e h.few hf
 have bX1 := (RFr.cells f1 (x := H.length) (l := evC e) (by rw [A7]; rfl) hH1)
 have f1' := RFr.from f1
 have l1 : (H ++ [Blk.cells (evC e), Blk.cells (evC e)]).length = H.length + 2 := by simp
 rw [l1] at ap1 sY1 hX1 f1 bX1 f1'
 have cX1 := hX1.cell
 obtain ⟨Y2, X2, ap2, cY2, sY2, hX2, f2⟩ := (hX1.left (L := [.cells [.bool (GW e)]])).appE (GW e) (by rw [hlen]; exact h.few) hf
 have bX2 := (RFr.cells f2 (x := H.length) (l := evC e) (Ag bX1.1) bX1.2).1
 have f2' := f1'.trans (RFr.from f2)
 have l2 : (X1 ++ [Blk.cells [V.bool (GW e)]]).length = X1.length + 1 := by simp
 rw [l2] at ap2 sY2 hX2 f2'
 have cX2 := hX2.cell
 obtain ⟨o1, o2, o3, o4, o5, o6⟩ := h.hp.o1
 have hX1l := bX1.1
 have hbX1 := A5 cX1
 have hbX2 := A5 cX2
 have hbY1 := A5 cY1
 have hbY2 := A5 cY2
 have hbX1L := fun L => Ag (L := L) bX1.1
 have cX1L := fun L => Ag (L := L) cX1
 have hlf : GW e = if e.kind = 3 then false else decide (¬ e.kind = 4) := by
  unfold GW
  by_cases h : e.kind = 3
  ·rw [if_pos h]; simp [h]
  ·rw [if_neg h]; simp [h]
 have base : ∀ {names' : List (ByteArray × Nat)} {B : LH}, (∀ x ∈ names', x.2 < st.out.length + 1) → RH G B b s ⟨.sl (H.length + 2) 0 8 (st.out.length + 1) (st.out.length + 1), .sl (X1.length + 1) 0 1 (st.ended.length + 1) (st.ended.length + 1), c.nm, c.hv⟩ st.pos st.depth cd pl fr la (st.out ++ [e]) (st.ended ++ [GW e]) st.hands names' →
  RAt G B b s ⟨.sl (H.length + 2) 0 8 (st.out.length + 1) (st.out.length + 1), .sl (X1.length + 1) 0 1 (st.ended.length + 1) (st.ended.length + 1), c.nm, c.hv⟩ cd pl fr la ⟨st.pos, st.out ++ [e], names', st.ended ++ [GW e], st.hands, st.depth⟩ := fun hn hB =>
  ⟨hB, h.le, by simp [hlen], h.dep, by simp; omega, h.fewh, fun x hx => by
    rcases List.mem_append.1 hx with hx | hx
    ·exact h.fit x hx
    ·rw [List.mem_singleton.1 hx]; exact he, h.fith, fun x hx => by have := hn x hx; simp; omega⟩
 have nm0 := h.num
 obtain ⟨M, hM1, hM2⟩ := hX2.mp
 have fM := Gc e.anchor M 0
 have hmn := BB hM1
 have hmb := Bj cX2 hM1
 dsimp only at hM1 hM2 hmn hmb
 have hone : (((st.out.length + 1 : Nat) : Int) - 1) = st.out.length := by omega
 by_cases ha : e.anchor = ⟨#[]⟩
 ·have hfin := base (B := X2) (fun x hx => by have := nm0 x hx; omega) hX2
  have htl : st.tell e = ⟨st.pos, st.out ++ [e], st.names, st.ended ++ [GW e], st.hands, st.depth⟩ := by unfold RS.tell; rw [if_pos ha]
  rw [← htl] at hfin
  rw [hlf] at ap2 l2
  clear base fM hM1 hM2 hmn hmb hX2 hX1 f1 f2
  have hc := h.hp.cell
  obtain ⟨ek, es, ef, et, ea, eg, ep, ec⟩ := e
  dsimp only at ha
  subst ha
  unfold rdC evC at *
  dsimp only at *
  unfold run at *
  rw [z34]
  simp +contextual -implicitDefEqProofs (maxSteps := 10000000) (disch := first | (and_intros <;> omega -splitDisjunctions) | (push_cast; and_intros <;> omega -splitDisjunctions) | fail) only [hc, hone, ap1, ap2, cY1, cY2, sY1, sY2, cX1, cX2, cX1L, bX1, bX2, hbX1L, o1, o2, o3, o4, o5, o6, A1, A0, A2, A3, go_sem, seval]
  subst hQ
  exact ⟨rfl, _, hfin, f2'⟩
 ·rw [hlf] at ap2 l2
  have htl : st.tell e = ⟨st.pos, st.out ++ [e], st.names ++ [(e.anchor, st.out.length)], st.ended ++ [GW e], st.hands, st.depth⟩ := by unfold RS.tell; rw [if_neg ha]
  have hnum : ∀ x ∈ st.names ++ [(e.anchor, st.out.length)], x.2 < st.out.length + 1 := fun x hx => by
   rcases List.mem_append.1 hx with hx | hx
   ·have := nm0 x hx; omega
   ·rw [List.mem_singleton.1 hx]; exact Nat.lt_succ_self _
  have fin : ∀ M', (∀ t, Dj M' t = if t = e.anchor then some st.out.length else Dj M t) → (RAt G (X2.set c.nm (.map (encM M'))) b s ⟨.sl (H.length + 2) 0 8 (st.out.length + 1) (st.out.length + 1), .sl (X1.length + 1) 0 1 (st.ended.length + 1) (st.ended.length + 1), c.nm, c.hv⟩ cd pl fr la (st.tell e) ∧ RFr b H c (X2.set c.nm (.map (encM M'))) ⟨.sl (H.length + 2) 0 8 (st.out.length + 1) (st.out.length + 1), .sl (X1.length + 1) 0 1 (st.ended.length + 1) (st.ended.length + 1), c.nm, c.hv⟩) := fun M' hM' => by
   have hw := hX2.mapW (M := M') (names' := st.names ++ [(e.anchor, st.out.length)]) (fun t => by
    rw [hM', Hw, hM2]
    by_cases h1 : t = e.anchor
    ·rw [if_pos h1, if_pos h1.symm]
    ·rw [if_neg h1, if_neg (Ne.symm h1)])
   exact ⟨by rw [htl]; exact base hnum hw.1, f2'.trans hw.2⟩
  have c3 : ∀ x, LH.cellsAt (X2.set c.nm x) b = some (rdC s ⟨.sl (H.length + 2) 0 8 (st.out.length + 1) (st.out.length + 1), .sl (X1.length + 1) 0 1 (st.ended.length + 1) (st.ended.length + 1), c.nm, c.hv⟩ st.pos st.depth cd pl fr la) := fun x => by rw [A0 (Ne.symm hmb)]; exact cX2
  have hc := h.hp.cell
  have hfs := RW M
  have hfa := RV M
  have hmn2 := h.hp.hm
  cases hf0 : fnd e.anchor M 0 with
  | none =>
    have hml : Dj M e.anchor = none := by unfold Dj; rw [hf0]; rfl
    obtain ⟨hfin, hfr⟩ := fin (M ++ [(e.anchor, st.out.length)]) (fun t => JI hml)
    rw [hf0] at fM
    have hfa := hfa e.anchor st.out.length
    clear base fin hX2 hX1 f1 f2 hM2 hnum htl hfs
    generalize st.tell e = stt at *
    obtain ⟨ek, es, ef, et, ea, eg, ep, ec⟩ := e
    dsimp only at ha hf0 fM hfa
    unfold rdC evC at *
    dsimp only at *
    unfold run at *
    rw [z34]
    simp +contextual -implicitDefEqProofs (maxSteps := 10000000) (disch := first | (and_intros <;> omega -splitDisjunctions) | (push_cast; and_intros <;> omega -splitDisjunctions) | fail) only [hc, ha, hone, ap1, ap2, cY1, cY2, sY1, sY2, cX1, cX2, cX1L, bX1, bX2, hbX1L, o1, o2, o3, o4, o5, o6, c3, hM1, Cc, mapE, entO, Cb, updV, updO, fM, hfa, Option.map_some, Option.map_none, C9, A1, A0, A2, A3, go_sem, seval]
    subst hQ
    exact ⟨rfl, _, hfin, hfr⟩
  | some jy =>
    obtain ⟨j, y⟩ := jy
    have hfl := (PD _ _ _ _ _ hf0).2
    obtain ⟨hfin, hfr⟩ := fin (M.set (j - 0) (e.anchor, st.out.length)) (fun t => JJ hf0)
    rw [hf0] at fM
    have hfs := hfs j e.anchor st.out.length
    rw [Nat.sub_zero] at hfin hfr
    clear base fin hX2 hX1 f1 f2 hM2 hnum htl hfa
    generalize st.tell e = stt at *
    obtain ⟨ek, es, ef, et, ea, eg, ep, ec⟩ := e
    dsimp only at ha hf0 fM hfs
    unfold rdC evC at *
    dsimp only at *
    unfold run at *
    rw [z34]
    simp +contextual -implicitDefEqProofs (maxSteps := 10000000) (disch := first | (and_intros <;> omega -splitDisjunctions) | (push_cast; and_intros <;> omega -splitDisjunctions) | fail) only [hc, ha, hone, ap1, ap2, cY1, cY2, sY1, sY2, cX1, cX2, cX1L, bX1, bX2, hbX1L, o1, o2, o3, o4, o5, o6, c3, hM1, Cc, mapE, entO, Cb, updV, updO, fM, hfs, Option.map_some, Option.map_none, C9, A1, A0, A2, A3, go_sem, seval]
    subst hQ
    exact ⟨rfl, _, hfin, hfr⟩
open Go.Proofs.YthlbglmfdjdagaaGreatDoor
def prC (p : PR) : List V := [.bool p.has, .str p.anchor, .str p.tag, .int .i64 (p.frm : Nat), .int .i64 (p.fin : Nat)]
theorem Aq {st : RS} {style : Int} {t : ByteArray} {p : PR} {r : RR Unit} (h : E6 st style t p = some r) : (st.out.length < 1000000 ∧ fitE (evN 5 style false t p.anchor p.tag)) ∧ r = .ok () (st.tell (evN 5 style false t p.anchor p.tag)) := by
 unfold E6 at h
 rcases A8 h with ⟨o, c, q, h1, rfl⟩ | ⟨a, st', h1, h2⟩
 ·have := (AD h1).2; cases this
 ·have h3 := AD h1
  have := h3.2
  cases this
  cases h2
  exact ⟨h3.1, rfl⟩
theorem Br {G H : LH} {b : Nat} {s : ByteArray} {c : RC} {cd pl : Int} {fr : Bool} {la : Int} {st : RS} (h : RAt G H b s c cd pl fr la st) (style : Int) (t : ByteArray) (p : PR) (hl : st.out.length < 1000000) (he : fitE (evN 5 style false t p.anchor p.tag)) (fl : Nat) (hf : fl ≤ G.length) :
 Ret (fun w B => w = und ∧ ∃ c', RAt G B b s c' cd pl fr la (st.tell (evN 5 style false t p.anchor p.tag)) ∧ RFr b H c B c') (run 77 [.ptr b 0, .int .i64 style, .str t, .agg (prC p)] fl H) := by
 obtain ⟨w, B, e1, rfl, c', h1, h2⟩ := BC (h.left (L := [.cells (prC p)])) (evN 5 style false t p.anchor p.tag) hl he fl hf
 have h2 := RFr.from h2
 generalize st.tell (evN 5 style false t p.anchor p.tag) = stt at *
 unfold evN evC prC at e1
 unfold run prC at *
 rw [z77]
 simp +contextual -implicitDefEqProofs (maxSteps := 10000000) (disch := first | (and_intros <;> omega -splitDisjunctions) | (push_cast; and_intros <;> omega -splitDisjunctions) | fail) only [e1, go_sem, seval]
 exact ⟨c', h1, h2⟩
def Ow (G H : LH) (b : Nat) (s : ByteArray) (c : RC) (fr : Bool) (la : Int) (r : RR Nat) (w : V) (B : LH) : Prop :=
 match r with
 | .ok k st => w = .tup [.int .i64 k, .bool true] ∧ GoodA G H b s c fr la st B
 | .bad o cd pl => (∃ j : Int, w = .tup [.int .i64 j, .bool false]) ∧ BadA G H b s c o cd pl B
theorem Cy {G H : LH} {b : Nat} {s : ByteArray} {c : RC} {fr : Bool} {la : Int} {st : RS} (h : RAt G H b s c 0 0 fr la st) (kind style : Int) (p : PR) (sign : Nat) (fl : Nat) (hf : fl ≤ G.length) {r : RR Nat} (hm : GZ st kind style p sign = some r) :
 Ret (Ow G H b s c fr la r) (run 82 [.ptr b 0, .int .i64 kind, .int .i64 style, .agg (prC p), .int .i64 (sign : Int)] fl H) := by
 have hc := h.hp.cell
 have hb := A5 hc
 have hG := h.hp.hG
 obtain ⟨o1, o2, o3, o4, o5, o6⟩ := h.hp.o1
 unfold GZ at hm
 by_cases hd : 40 ≤ st.depth
 ·rw [if_pos hd] at hm
  cases hm
  have t1 : (40 ≤ (st.depth : Int)) = True := eq_true (by omega)
  have e1 := fun fl hf => Ao (h.left (L := [.cells (prC p)])) 12 sign fl hf
  have hbad := Bo (h.left (L := [.cells (prC p)])) (cd := 12) (pl := sign) (by decide)
  have hbad := hbad.trans (RFr.app (H := H))
  generalize hQ : Ow G H b s c fr la (.bad st.out 12 sign) = Q
  unfold rdC prC at *
  unfold run at *
  rw [z82]
  simp +contextual -implicitDefEqProofs (maxSteps := 10000000) (disch := first | (and_intros <;> omega -splitDisjunctions) | (push_cast; and_intros <;> omega -splitDisjunctions) | fail) only [hc, e1, t1, o1, o2, o3, o4, o5, o6, A1, A0, A2, A3, go_sem, seval]
  subst hQ
  refine ⟨⟨0, rfl⟩, ?_⟩
  rw [A3 hb] at hbad
  exact hbad
 ·rw [if_neg hd] at hm
  have t1 : (40 ≤ (st.depth : Int)) = False := eq_false (by omega)
  obtain ⟨⟨h1, h2⟩, rfl⟩ := AD hm
  have hu := (h.upd (cd' := 0) (pl' := 0) (fr' := fr) (la' := la) (p := st.pos) (d := st.depth + 1) h.le (by omega)).left (L := [.cells (prC p)])
  obtain ⟨w, B, e1, rfl, c', h3, h4⟩ := BC hu (evN kind style false ⟨#[]⟩ p.anchor p.tag) h1 h2 fl hf
  have h4 := RFr.set.trans (RFr.from h4)
  have hone : (((st.depth + 1 : Nat) : Int)) = (st.depth : Int) + 1 := by omega
  dsimp only at h3 e1
  generalize hQ : Ow G H b s c fr la _ = Q
  generalize RS.tell _ _ = stt at *
  unfold evN evC at e1
  unfold rdC prC at *
  unfold run at *
  dsimp only at *
  rw [hone] at e1
  rw [z82]
  simp +contextual -implicitDefEqProofs (maxSteps := 10000000) (disch := first | (and_intros <;> omega -splitDisjunctions) | (push_cast; and_intros <;> omega -splitDisjunctions) | fail) only [hc, e1, t1, o1, o2, o3, o4, o5, o6, A1, A0, A2, A3, go_sem, seval]
  subst hQ
  exact ⟨rfl, c', h3, h4⟩
theorem RH.endW {G H : LH} {b : Nat} {s : ByteArray} {c : RC} {pos depth : Nat} {cd pl : Int} {fr : Bool} {la : Int} {out : List Ev} {ended : List Bool} {hands : List (ByteArray × ByteArray)} {names : List (ByteArray × Nat)} (h : RH G H b s c pos depth cd pl fr la out ended hands names) {k b2 n : Nat} (hv : c.en = .sl b2 0 1 n n) (hk : k < ended.length) :
 RH G (H.set b2 (.cells (rows bo1 (ended.set k true)))) b s c pos depth cd pl fr la out (ended.set k true) hands names ∧ RFr b H c (H.set b2 (.cells (rows bo1 (ended.set k true)))) c := by
 have hsb : b2 ∈ sbk c.en := by rw [hv]; simp [sbk]
 have hl2 := h.oe.sbk b2 hsb
 have fx : Fx H.length [b2] H (H.set b2 (.cells (rows bo1 (ended.set k true)))) := Fx.set (.inl (by simp))
 obtain ⟨M, hm1, hm2⟩ := h.mp
 have hbb : b2 ≠ b := fun e => h.be (by rw [← e]; exact hsb)
 have hmm : b2 ≠ c.nm := fun e => h.me (by rw [← e]; exact hsb)
 refine ⟨⟨h.hx.set hl2.1, h.hG, by rw [A0 hbb]; exact h.cell, h.oo.fr fx (fun x hx => ⟨(h.oo.sbk x hx).2, fun hm => ?_⟩), ?_, h.oh.fr fx (fun x hx => ⟨(h.oh.sbk x hx).2, fun hm => ?_⟩),
  ⟨M, by rw [Di hmm]; exact hm1, hm2⟩, h.hm, h.bo, h.be, h.bh, h.oe0, h.oh0, h.eh0, h.mo, h.me, h.mh⟩, ⟨fx.sub (fun x hx => ?_), fun x hx => .inl hx⟩⟩
 ·rw [List.mem_singleton.1 hm] at hx; exact h.oe0 b2 hx hsb
 ·rcases h.oe with ⟨hn, _⟩ | ⟨b3, h1, h2, h3⟩
  ·rw [hn] at hk; exact absurd hk (Nat.not_lt_zero _)
  ·rw [hv] at h1
   cases h1
   exact .inr ⟨b2, by rw [hv]; simp, A1 hl2.2, h3⟩
 ·rw [List.mem_singleton.1 hm] at hx; exact h.eh0 b2 hsb hx
 ·rw [List.mem_singleton.1 hx]; exact V6 hsb
theorem Vk {ts : List Bool} {i : Nat} (hi : i < ts.length) (w : Bool) : (rows bo1 ts).set i (.bool w) = rows bo1 (ts.set i w) := by
 have := QG (enc := bo1) (j := 0) (xs := ts) DU false i hi (ws := bo1 w) (by simp [DU]) _ rfl
 simpa [bo1, Bw] using this
theorem GJ {st : RS} {k : Nat} {r : RR Unit} (h : GI st k = some r) : (st.out.length < 1000000 ∧ fitE (evN 7 0 false ⟨#[]⟩ ⟨#[]⟩ ⟨#[]⟩)) ∧ r = .ok () (Pm ((⟨st.pos, st.out, st.names, st.ended, st.hands, st.depth - 1⟩ : RS).tell (evN 7 0 false ⟨#[]⟩ ⟨#[]⟩ ⟨#[]⟩)) k) := by
 unfold GI at h
 rcases A8 h with ⟨o, c, q, h1, rfl⟩ | ⟨a, st', h1, h2⟩
 ·have := (AD h1).2; cases this
 ·have h3 := AD h1
  have := h3.2
  cases this
  cases h2
  exact ⟨h3.1, rfl⟩
theorem IQ {G H : LH} {b : Nat} {s : ByteArray} {c : RC} {fr : Bool} {la : Int} {st : RS} (h : RAt G H b s c 0 0 fr la st) (k : Nat) (hk : k < st.out.length) (hd : 0 < st.depth) (fl : Nat) (hf : fl ≤ G.length) {r : RR Unit} (hm : GI st k = some r) :
 Ret (fun w B => w = und ∧ ∃ st', r = .ok () st' ∧ GoodA G H b s c fr la st' B) (run 100 [.ptr b 0, .int .i64 (k : Int)] fl H) := by
 have hc := h.hp.cell
 have hb := A5 hc
 have hG := h.hp.hG
 obtain ⟨o1, o2, o3, o4, o5, o6⟩ := h.hp.o1
 obtain ⟨⟨h1, h2⟩, rfl⟩ := GJ hm
 have hdep := h.dep
 have hu := h.upd (cd' := 0) (pl' := 0) (fr' := fr) (la' := la) (p := st.pos) (d := st.depth - 1) h.le (by omega)
 obtain ⟨w, B, e1, rfl, c', h3, h4⟩ := BC hu (evN 7 0 false ⟨#[]⟩ ⟨#[]⟩ ⟨#[]⟩) h1 h2 fl hf
 have h4 := RFr.set.trans h4
 have hlen := h.len
 have hlen3 := h3.len
 generalize hst : RS.tell _ _ = stt at *
 have hol : stt.out.length = st.out.length + 1 := by rw [← hst]; simp [RS.tell]
 have hke : k < stt.ended.length := by omega
 obtain ⟨b2, hv, hc2, hb2⟩ : ∃ b2, c'.en = .sl b2 0 1 stt.ended.length stt.ended.length ∧ B.cellsAt b2 = some (rows bo1 stt.ended) ∧ G.length ≤ b2 := by
  rcases h3.hp.oe with ⟨hn, _⟩ | hh
  ·rw [hn] at hke; exact absurd hke (Nat.not_lt_zero _)
  ·exact hh
 obtain ⟨h5, h6⟩ := h3.hp.endW hv hke
 have hfin : RAt G (B.set b2 (.cells (rows bo1 (stt.ended.set k true)))) b s c' 0 0 fr la (Pm stt k) := ⟨h5, h3.le, by show (stt.ended.set k true).length = _; rw [List.length_set]; exact h3.len, h3.dep, h3.few, h3.fewh, h3.fit, h3.fith, h3.num⟩
 have hcB := h3.hp.cell
 obtain ⟨p1, p2, p3, p4, p5, p6⟩ := h3.hp.o1
 have q1 : (rows bo1 stt.ended).length = stt.ended.length := by rw [Ak DU, Nat.mul_one]
 have q2 := Vk hke true
 have hbB := A5 hcB
 have hfew := h3.few
 have hone : (((st.depth - 1 : Nat) : Int)) = (st.depth : Int) - 1 := by omega
 clear hu h5 hst
 unfold rdC at *
 dsimp only at *
 rw [hv] at hcB p3 p4
 unfold evN evC at e1
 unfold run at *
 rw [hone] at e1
 generalize hQ : (fun (w : V) (B : LH) => w = und ∧ ∃ st', RR.ok () (Pm stt k) = RR.ok () st' ∧ GoodA G H b s c fr la st' B) = Q
 rw [z100]
 simp +contextual -implicitDefEqProofs (maxSteps := 10000000) (disch := first | (and_intros <;> omega -splitDisjunctions) | (push_cast; and_intros <;> omega -splitDisjunctions) | fail) only [hc, e1, hcB, hc2, q1, q2, o1, o2, o3, o4, o5, o6, p1, p2, p3, p4, p5, p6, A1, A0, A2, A3, go_sem, seval]
 subst hQ
 exact ⟨rfl, _, rfl, c', hfin, h4.trans h6⟩
open Go.Proofs.YthlbglmfdjdagaaGreatDoor
theorem Hy (t : ByteArray) : ∀ (l : List (ByteArray × Nat)) (k : Nat), Ct l t = some k → ∃ x ∈ l, x.2 = k
 | [], k, h => by cases h
 | x :: l, k, h => by
   have hd : Ct (x :: l) t = (match Ct l t with | some j => some j | none => if x.1 = t then some x.2 else none) := rfl
   rw [hd] at h
   cases h1 : Ct l t with
   | some j =>
     rw [h1] at h
     cases h
     obtain ⟨y, hy, e⟩ := Hy t l _ h1
     exact ⟨y, List.mem_cons_of_mem _ hy, e⟩
   | none =>
     rw [h1] at h
     dsimp only at h
     by_cases h2 : x.1 = t
     ·rw [if_pos h2] at h; cases h; exact ⟨x, List.mem_cons_self, rfl⟩
     ·rw [if_neg h2] at h; cases h
theorem Ci {G H : LH} {b : Nat} {s : ByteArray} {c : RC} {fr : Bool} {la : Int} {st : RS} (h : RAt G H b s c 0 0 fr la st) (p : PR) (hs : s.size ≤ 16777216) (fl : Nat) (hf : fl ≤ G.length) {r : RR Unit} (hm : CG s st p = some r) :
 Ret (PostU G H b s c fr la r) (run 88 [.ptr b 0, .agg (prC p)] fl H) := by
 obtain ⟨ph, pa, pg, pf, pn⟩ := p
 have hc := h.hp.cell
 have hb := A5 hc
 have hG := h.hp.hG
 have hle := h.le
 have e1 := fun fl H => Fa s st.pos fl H (by omega)
 rw [Ay hle] at e1
 have hL := h.left (L := [.cells (prC ⟨ph, pa, pg, pf, pn⟩)])
 have e2 := fun cd pl fl hf => Ao hL cd pl fl hf
 have hbad := fun cd (hcd : cd ≠ 0) pl => (Bo hL (cd := cd) (pl := pl) hcd).trans (RFr.app (H := H))
 simp only [A3 hb] at e2
 simp only [A3 hb] at hbad
 obtain ⟨o1, o2, o3, o4, o5, o6⟩ := h.hp.o1
 generalize hQ : PostU G H b s c fr la r = Q
 unfold CG at hm
 unfold t3N at e1
 by_cases h1 : (AP s st.pos).2.2 = false
 ·rw [if_pos h1] at hm
  cases hm
  unfold rdC prC at *
  unfold run at *
  rw [z88]
  simp +contextual -implicitDefEqProofs (maxSteps := 10000000) (disch := first | (and_intros <;> omega -splitDisjunctions) | (push_cast; and_intros <;> omega -splitDisjunctions) | fail) only [hc, h1, e1, e2, o1, o2, o3, o4, o5, o6, A1, A0, A2, A3, go_sem, seval]
  subst hQ
  exact ⟨rfl, hbad 7 (by decide) _⟩
 rw [if_neg h1] at hm
 have h1 : (AP s st.pos).2.2 = true := by simpa using h1
 obtain ⟨n1, n2, n3, n4⟩ := Cd hle h1
 dsimp only at hm
 by_cases h2 : ph = true
 ·rw [if_pos h2] at hm
  cases hm
  subst h2
  unfold rdC prC at *
  unfold run at *
  rw [z88]
  simp +contextual -implicitDefEqProofs (maxSteps := 10000000) (disch := first | (and_intros <;> omega -splitDisjunctions) | (push_cast; and_intros <;> omega -splitDisjunctions) | fail) only [hc, h1, e1, e2, o1, o2, o3, o4, o5, o6, A1, A0, A2, A3, go_sem, seval]
  subst hQ
  exact ⟨rfl, hbad 16 (by decide) _⟩
 rw [if_neg h2] at hm
 have h2 : ph = false := by simpa using h2
 subst h2
 obtain ⟨M, hM1, hM2⟩ := h.hp.mp
 have hM1L := fun L => NT (L := L) hM1
 generalize hN : AP s st.pos = N at *
 obtain ⟨nm, e, okb⟩ := N
 dsimp only at *
 subst h1
 have fM := Gc nm M 0
 have hml := hM2 nm
 cases hf0 : fnd nm M 0 with
 | none =>
   have hml0 : Dj M nm = none := by unfold Dj; rw [hf0]; rfl
   rw [← hml, hml0] at hm
   cases hm
   rw [hf0] at fM
   unfold rdC prC at *
   unfold run at *
   rw [z88]
   simp +contextual -implicitDefEqProofs (maxSteps := 10000000) (disch := first | (and_intros <;> omega -splitDisjunctions) | (push_cast; and_intros <;> omega -splitDisjunctions) | fail) only [hc, e1, e2, hM1L, fM, Cc, mapE, entO, Cb, Option.map_some, Option.map_none, C9, o1, o2, o3, o4, o5, o6, A1, A0, A2, A3, go_sem, seval]
   subst hQ
   exact ⟨rfl, hbad 14 (by decide) _⟩
 | some jk =>
   obtain ⟨j, k⟩ := jk
   have hml0 : Dj M nm = some k := by unfold Dj; rw [hf0]; rfl
   rw [hml0] at hml
   rw [← hml] at hm
   rw [hf0] at fM
   dsimp only at hm
   obtain ⟨y, hy1, hy2⟩ := Hy nm st.names k hml.symm
   have hk : k < st.out.length := by rw [← hy2]; exact h.num y hy1
   have hlen := h.len
   have hke : k < st.ended.length := by omega
   have hoe := h.hp.oe.at DU
   have q1 := hoe.isTup; have q2 := hoe.len; have q3 := hoe.lenOk ty63; have q0 := hoe.one
   have q4 := fun hp => hoe.con hp
   have q5 := hoe.idx (T := ty Tryz.prog) (t := 63) (by simp only [Av, AC, ty4, ty63])
   have q6 := hoe.load1 false (fun x => .bool x) (fun _ => rfl)
   have q4 := q4 (by omega)
   have q4L := fun L => Ag (L := L) q4
   have q5 := q5 .i64 (k : Int) (by omega) (by omega)
   have q6 := fun n K => q6 k hke n K
   simp only [Nat.mul_one, Int.toNat_natCast] at q5
   by_cases h3 : st.ended.getD k false = false
   ·rw [if_pos h3] at hm
    cases hm
    rw [h3] at q6
    unfold rdC prC at *
    unfold run at *
    rw [z88]
    simp +contextual -implicitDefEqProofs (maxSteps := 10000000) (disch := first | (and_intros <;> omega -splitDisjunctions) | (push_cast; and_intros <;> omega -splitDisjunctions) | fail) only [hc, e1, e2, hM1L, fM, Cc, mapE, entO, Cb, Option.map_some, Option.map_none, C9, q0, q1, q2, q3, q4L, q5, q6, o1, o2, o3, o4, o5, o6, A1, A0, A2, A3, go_sem, seval]
    subst hQ
    exact ⟨rfl, hbad 14 (by decide) _⟩
   ·rw [if_neg h3] at hm
    have h3 : st.ended.getD k false = true := by simpa using h3
    rw [h3] at q6
    rcases A8 hm with ⟨o, cc, q, m1, rfl⟩ | ⟨a, st', m1, m2⟩
    ·have := (AD m1).2; cases this
    obtain ⟨⟨t1, t2⟩, t3⟩ := AD m1
    cases t3
    cases m2
    obtain ⟨w, B, e3, rfl, c', k3, k4⟩ := BC hL (evN 6 0 false nm ⟨#[]⟩ ⟨#[]⟩) t1 t2 fl hf
    have k4 := RFr.from k4
    have hcB := k3.hp.cell
    have hbB := A5 hcB
    obtain ⟨p1, p2, p3, p4, p5, p6⟩ := k3.hp.o1
    have hfin := k3.upd (cd' := 0) (pl' := 0) (fr' := fr) (la' := la) (p := e) (d := (st.tell (evN 6 0 false nm ⟨#[]⟩ ⟨#[]⟩)).depth) n2 k3.dep
    generalize st.tell (evN 6 0 false nm ⟨#[]⟩ ⟨#[]⟩) = stt at *
    unfold evN evC at e3
    unfold rdC prC at *
    unfold run at *
    rw [z88]
    simp +contextual -implicitDefEqProofs (maxSteps := 10000000) (disch := first | (and_intros <;> omega -splitDisjunctions) | (push_cast; and_intros <;> omega -splitDisjunctions) | fail) only [hc, e1, e2, e3, hM1L, hcB, fM, Cc, mapE, entO, Cb, Option.map_some, Option.map_none, C9, q0, q1, q2, q3, q4L, q5, q6, o1, o2, o3, o4, o5, o6, p1, p2, p3, p4, p5, p6, A1, A0, A2, A3, go_sem, seval]
    subst hQ
    exact ⟨rfl, c', hfin, k4.trans RFr.set⟩
theorem Bz {G H : LH} {b : Nat} {s : ByteArray} {c : RC} {fr : Bool} {la : Int} {st : RS} (h : RAt G H b s c 0 0 fr la st) (p : PR) (hlt : st.pos < s.size) (hs : s.size ≤ 16777216) (fl : Nat) (hf : fl ≤ G.length) {r : RR Unit} (hm : CO s st p = some r) :
 Ret (PostU G H b s c fr la r) (run 90 [.ptr b 0, .agg (prC p)] fl H) := by
 have hc := h.hp.cell
 have hb := A5 hc
 have hG := h.hp.hG
 have hle := h.le
 have e1 := fun fl H => Fl s st.pos fl H (by omega)
 have e4 := fun fl H => Fj s st.pos fl H (by omega)
 rw [Ay hle] at e1 e4
 have hL := h.left (L := [.cells (prC p)])
 have e2 := fun cd pl fl hf => Ao hL cd pl fl hf
 have hbad := fun cd (hcd : cd ≠ 0) pl => (Bo hL (cd := cd) (pl := pl) hcd).trans (RFr.app (H := H))
 simp only [A3 hb] at e2
 simp only [A3 hb] at hbad
 obtain ⟨o1, o2, o3, o4, o5, o6⟩ := h.hp.o1
 have hrng : (Cg s st.pos).2.2 = 0 → 0 ≤ (Cg s st.pos).2.1 ∧ (Cg s st.pos).2.1 ≤ s.size := by
  unfold Cg
  by_cases h34 : bA s st.pos = 34
  ·rw [if_pos h34]; intro k; have := C8 hle k; omega
  ·rw [if_neg h34]; intro k; have := Cl hle k; omega
 generalize hQ : PostU G H b s c fr la r = Q
 unfold CO at hm
 unfold t3V at e1 e4
 by_cases h34 : bA s st.pos = 34
 ·have hqr : Cg s st.pos = AR s st.pos := if_pos h34
  rw [hqr] at hm hrng
  rw [if_pos h34] at hm
  generalize AS s st.pos = sg at *
  generalize AR s st.pos = db at *
  obtain ⟨sgt, sge, sgc⟩ := sg
  obtain ⟨dbt, dbe, dbc⟩ := db
  dsimp only at *
  by_cases h0 : dbc ≠ 0
  ·rw [if_pos h0] at hm
   cases hm
   unfold rdC prC at *
   unfold run at *
   rw [z90]
   simp +contextual -implicitDefEqProofs (maxSteps := 10000000) (disch := first | (and_intros <;> omega -splitDisjunctions) | (push_cast; and_intros <;> omega -splitDisjunctions) | fail) only [hc, h34, h0, e1, e2, e4, o1, o2, o3, o4, o5, o6, A1, A0, A2, A3, go_sem, seval]
   subst hQ
   exact ⟨rfl, hbad dbc h0 _⟩
  ·rw [if_neg h0] at hm
   have h0 : dbc = 0 := by simpa using h0
   subst h0
   obtain ⟨r1, r2⟩ := hrng rfl
   rcases A8 hm with ⟨o, cc, q, m1, rfl⟩ | ⟨a, st', m1, m2⟩
   ·have := (Aq m1).2; cases this
   obtain ⟨⟨t1, t2⟩, t3⟩ := Aq m1
   cases t3
   cases m2
   obtain ⟨w, B, e3, rfl, c', k3, k4⟩ := Br hL 3 dbt p t1 t2 fl hf
   have k4 := RFr.from k4
   have hcB := k3.hp.cell
   have hbB := A5 hcB
   obtain ⟨p1, p2, p3, p4, p5, p6⟩ := k3.hp.o1
   have hfin := k3.upd (cd' := 0) (pl' := 0) (fr' := fr) (la' := la) (p := (dbe).toNat) (d := (st.tell (evN 5 3 false dbt p.anchor p.tag)).depth) (by omega) k3.dep
   have hcast : ((dbe).toNat : Int) = dbe := by omega
   generalize st.tell (evN 5 3 false dbt p.anchor p.tag) = stt at *
   unfold rdC prC at *
   rw [hcast] at hfin
   unfold run at *
   rw [z90]
   simp +contextual -implicitDefEqProofs (maxSteps := 10000000) (disch := first | (and_intros <;> omega -splitDisjunctions) | (push_cast; and_intros <;> omega -splitDisjunctions) | fail) only [hc, h34, e1, e2, e3, e4, hcB, o1, o2, o3, o4, o5, o6, p1, p2, p3, p4, p5, p6, A1, A0, A2, A3, go_sem, seval]
   subst hQ
   exact ⟨rfl, c', hfin, k4.trans RFr.set⟩
 ·have hqr : Cg s st.pos = AS s st.pos := if_neg h34
  rw [hqr] at hm hrng
  rw [if_neg h34] at hm
  generalize AS s st.pos = sg at *
  generalize AR s st.pos = db at *
  obtain ⟨sgt, sge, sgc⟩ := sg
  obtain ⟨dbt, dbe, dbc⟩ := db
  dsimp only at *
  by_cases h0 : sgc ≠ 0
  ·rw [if_pos h0] at hm
   cases hm
   unfold rdC prC at *
   unfold run at *
   rw [z90]
   simp +contextual -implicitDefEqProofs (maxSteps := 10000000) (disch := first | (and_intros <;> omega -splitDisjunctions) | (push_cast; and_intros <;> omega -splitDisjunctions) | fail) only [hc, h34, h0, e1, e2, e4, o1, o2, o3, o4, o5, o6, A1, A0, A2, A3, go_sem, seval]
   subst hQ
   exact ⟨rfl, hbad sgc h0 _⟩
  ·rw [if_neg h0] at hm
   have h0 : sgc = 0 := by simpa using h0
   subst h0
   obtain ⟨r1, r2⟩ := hrng rfl
   rcases A8 hm with ⟨o, cc, q, m1, rfl⟩ | ⟨a, st', m1, m2⟩
   ·have := (Aq m1).2; cases this
   obtain ⟨⟨t1, t2⟩, t3⟩ := Aq m1
   cases t3
   cases m2
   obtain ⟨w, B, e3, rfl, c', k3, k4⟩ := Br hL 2 sgt p t1 t2 fl hf
   have k4 := RFr.from k4
   have hcB := k3.hp.cell
   have hbB := A5 hcB
   obtain ⟨p1, p2, p3, p4, p5, p6⟩ := k3.hp.o1
   have hfin := k3.upd (cd' := 0) (pl' := 0) (fr' := fr) (la' := la) (p := (sge).toNat) (d := (st.tell (evN 5 2 false sgt p.anchor p.tag)).depth) (by omega) k3.dep
   have hcast : ((sge).toNat : Int) = sge := by omega
   generalize st.tell (evN 5 2 false sgt p.anchor p.tag) = stt at *
   unfold rdC prC at *
   rw [hcast] at hfin
   unfold run at *
   rw [z90]
   simp +contextual -implicitDefEqProofs (maxSteps := 10000000) (disch := first | (and_intros <;> omega -splitDisjunctions) | (push_cast; and_intros <;> omega -splitDisjunctions) | fail) only [hc, h34, e1, e2, e3, e4, hcB, o1, o2, o3, o4, o5, o6, p1, p2, p3, p4, p5, p6, A1, A0, A2, A3, go_sem, seval]
   subst hQ
   exact ⟨rfl, c', hfin, k4.trans RFr.set⟩
theorem E1 (s : ByteArray) (n : Int) (f : Bool) : ∀ (d e : Nat) (l : List (ByteArray × Bool)), e ≤ s.size → e ≤ (Ce s n f d e l).2 ∧ (Ce s n f d e l).2 ≤ s.size
 | 0, e, l, h => ⟨Nat.le_refl _, h⟩
 | d + 1, e, l, h => by
   rw [Gp]
   cases hn : Io s e n f with
   | none => exact ⟨Nat.le_refl _, h⟩
   | some qk =>
     obtain ⟨q, k⟩ := qk
     obtain ⟨h1, h2, h3⟩ := Gm h hn
     dsimp only
     have := E1 s n f d (peN s q f) (l ++ List.replicate k (⟨#[]⟩, false) ++ [(s.extract q (peN s q f), false)]) (Ey h2)
     exact ⟨by omega, this.2⟩
theorem HC {s : ByteArray} {p : Nat} {n : Int} {f : Bool} (hp : p ≤ s.size) (h : pfB s p f = true) : p ≤ (CL s p n f).2.1 ∧ (CL s p n f).2.1 ≤ s.size := by
 unfold CL
 rw [if_pos h]
 have h1 := JT s p f
 have h2 := E1 s n f (s.size + 1) (peN s p f) [(s.extract p (peN s p f), false)] (Ey hp)
 exact ⟨by show p ≤ (Ce _ _ _ _ _ _).2; omega, h2.2⟩
theorem DH {G H : LH} {b : Nat} {s : ByteArray} {c : RC} {fr : Bool} {la : Int} {st : RS} (h : RAt G H b s c 0 0 fr la st) (p : PR) (n : Int) (f : Bool) (hpf : pfB s st.pos f = true) (hs : s.size ≤ 16777216) (fl : Nat) (hf : fl ≤ G.length) {r : RR Unit} (hm : Dm s st p n f = some r) :
 Ret (PostU G H b s c fr la r) (run 92 [.ptr b 0, .agg (prC p), .int .i64 n, .bool f] fl H) := by
 have hc := h.hp.cell
 have hb := A5 hc
 have hG := h.hp.hG
 have hle := h.le
 have e1 := fun fl H => Lt s st.pos n f fl H hs
 rw [Ay hle] at e1
 have hL := h.left (L := [.cells (prC p)])
 obtain ⟨o1, o2, o3, o4, o5, o6⟩ := h.hp.o1
 obtain ⟨r1, r2⟩ := HC (n := n) hle hpf
 generalize hQ : PostU G H b s c fr la r = Q
 unfold Dm at hm
 unfold t3N at e1
 generalize CL s st.pos n f = pm at *
 obtain ⟨pt, pe, pb⟩ := pm
 dsimp only at *
 rcases A8 hm with ⟨o, cc, q, m1, rfl⟩ | ⟨a, st', m1, m2⟩
 ·have := (Aq m1).2; cases this
 obtain ⟨⟨t1, t2⟩, t3⟩ := Aq m1
 cases t3
 cases m2
 obtain ⟨w, B, e3, rfl, c', k3, k4⟩ := Br hL 1 pt p t1 t2 fl hf
 have k4 := RFr.from k4
 have hcB := k3.hp.cell
 have hbB := A5 hcB
 obtain ⟨p1, p2, p3, p4, p5, p6⟩ := k3.hp.o1
 have hfin := k3.upd (cd' := 0) (pl' := 0) (fr' := fr) (la' := la) (p := pe) (d := (st.tell (evN 5 1 false pt p.anchor p.tag)).depth) r2 k3.dep
 generalize st.tell (evN 5 1 false pt p.anchor p.tag) = stt at *
 unfold rdC prC at *
 unfold run at *
 rw [z92]
 simp +contextual -implicitDefEqProofs (maxSteps := 10000000) (disch := first | (and_intros <;> omega -splitDisjunctions) | (push_cast; and_intros <;> omega -splitDisjunctions) | fail) only [hc, e1, e3, hcB, o1, o2, o3, o4, o5, o6, p1, p2, p3, p4, p5, p6, A1, A0, A2, A3, go_sem, seval]
 subst hQ
 exact ⟨rfl, c', hfin, k4.trans RFr.set⟩
theorem EH {G H : LH} {b : Nat} {s : ByteArray} {c : RC} {fr : Bool} {la : Int} {st : RS} (h : RAt G H b s c 0 0 fr la st) (cl : Int) (hcl : cl = 93 ∨ cl = 125) (hlt : st.pos < s.size) (fl : Nat) (hf : fl ≤ G.length) (hs : s.size ≤ 16777216) {r : RR Unit} (hm : DM s cl st = some r) :
 Ret (PostU G H b s c fr la r) (run 121 [.ptr b 0, .int .u8 cl] fl H) := by
 have hc := h.hp.cell
 have hb := A5 hc
 have hG := h.hp.hG
 have e2 := fun cd pl fl hf => Ao h cd pl fl hf
 have hbad := Bo h (cd := 11) (pl := st.pos) (by decide)
 have hfin := h.upd (cd' := 0) (pl' := 0) (fr' := fr) (la' := la) (p := st.pos + 1) (d := st.depth) hlt h.dep
 have hone : (((st.pos + 1 : Nat) : Int)) = (st.pos : Int) + 1 := by omega
 obtain ⟨o1, o2, o3, o4, o5, o6⟩ := h.hp.o1
 generalize hQ : PostU G H b s c fr la r = Q
 unfold DM at hm
 unfold rdC at *
 rw [hone] at hfin
 by_cases h1 : bA s st.pos = 44
 ·rw [if_pos h1] at hm
  cases hm
  unfold run at *
  rw [z121]
  simp +contextual -implicitDefEqProofs (maxSteps := 10000000) (disch := first | (and_intros <;> omega -splitDisjunctions) | (push_cast; and_intros <;> omega -splitDisjunctions) | fail) only [hc, h1, e2, o1, o2, o3, o4, o5, o6, A1, A0, A2, A3, go_sem, seval]
  subst hQ
  exact ⟨rfl, c, hfin, RFr.set⟩
 ·rw [if_neg h1] at hm
  by_cases h2 : bA s st.pos = cl
  ·rw [if_pos h2] at hm
   cases hm
   have h3 : ¬ cl = 44 := by omega
   unfold run at *
   rw [z121]
   simp +contextual -implicitDefEqProofs (maxSteps := 10000000) (disch := first | (and_intros <;> omega -splitDisjunctions) | (push_cast; and_intros <;> omega -splitDisjunctions) | fail) only [hc, h2, h3, e2, o1, o2, o3, o4, o5, o6, A1, A0, A2, A3, go_sem, seval]
   subst hQ
   exact ⟨rfl, c, h, RFr.refl⟩
  ·rw [if_neg h2] at hm
   cases hm
   unfold run at *
   rw [z121]
   simp +contextual -implicitDefEqProofs (maxSteps := 10000000) (disch := first | (and_intros <;> omega -splitDisjunctions) | (push_cast; and_intros <;> omega -splitDisjunctions) | fail) only [hc, h1, h2, e2, o1, o2, o3, o4, o5, o6, A1, A0, A2, A3, go_sem, seval]
   subst hQ
   exact ⟨rfl, hbad⟩
open Go.Proofs.YthlbglmfdjdagaaGreatDoor
theorem IX {s : ByteArray} {p : Nat} (hp : p ≤ s.size) (h : (tagM s p).2.2 = true) : p < (tagM s p).2.1 ∧ (tagM s p).2.1 ≤ s.size ∧ (tagM s p).1.size ≤ 60 := by
 unfold tagM at *
 by_cases h1 : bA s p = 33 ∧ tagE s p ≤ p + 60
 ·rw [if_pos h1] at *
  have hl := Ai h1.1 (by omega)
  have hst : p < stN s p := by
   have hg : ¬ gapP s p := fun k => by rcases k with (k | k) | k | k <;> omega
   have hw : ¬ flwP (bA s p) := fun k => by rcases k with k | k | k | k | k <;> omega
   rw [TD hg hw]
   have := R5 s (p + 1); omega
  have hE : p < tagE s p ∧ tagE s p ≤ s.size := by
   unfold tagE
   by_cases h2 : bA s (p + 1 : Nat) = 60 ∧ bA s (gtN s (p + 2)) = 62 ∧ gtN s (p + 2) ≠ p + 2
   ·rw [if_pos h2]
    have := Tq s (p + 2)
    have := Ai h2.2.1 (by omega)
    omega
   ·rw [if_neg h2]; exact ⟨hst, N1 hp⟩
  have hz : (s.extract p (tagE s p)).size = tagE s p - p := Ap hE.2
  exact ⟨hE.1, hE.2, by show (s.extract p (tagE s p)).size ≤ 60; omega⟩
 ·rw [if_neg h1] at h; cases h
theorem JQ {s : ByteArray} {f : Bool} {e : Nat} (he : e ≤ s.size) : e ≤ JP s f e ∧ JP s f e ≤ s.size := by
 unfold JP
 by_cases h : f = true
 ·rw [if_pos h]; exact ⟨CH s e, BL he⟩
 ·rw [if_neg h]; exact ⟨B8 s e, Bm he⟩
def DS (G H : LH) (b pb : Nat) (s : ByteArray) (c : RC) (fr : Bool) (la : Int) (r : RR PR) (w : V) (B : LH) : Prop :=
 Fx H.length [pb, b] H B ∧ B.length = H.length ∧ match r with
 | .ok p st => w = .bool true ∧ RAt G B b s c 0 0 fr la st ∧ B.cellsAt pb = some (prC p)
 | .bad o cd pl => w = .bool false ∧ ∃ p st, RAt G B b s c cd pl fr la st ∧ st.out = o ∧ cd ≠ 0 ∧ B.cellsAt pb = some (prC p)
theorem Fr {G H : LH} {b : Nat} {s : ByteArray} {c : RC} {fr : Bool} {la : Int} {st : RS} (h : RAt G H b s c 0 0 fr la st) (p : PR) (pb : Nat) (hpc : H.cellsAt pb = some (prC p)) (hpn : pb ∉ rbl b c) (hpG : G.length ≤ pb) (f : Bool) (hlt : st.pos < s.size) (hs : s.size ≤ 1048576) (fl : Nat) (hf : fl ≤ G.length) {r : RR PR} (hm : H3 s f st p = some r) :
 Ret (DS G H b pb s c fr la r) (run 80 [.ptr b 0, .ptr pb 0, .bool f] fl H) := by
 obtain ⟨ph, pa, pg, pf, pn⟩ := p
 have hc := h.hp.cell
 have hb := A5 hc
 have hpl := A5 hpc
 have hG := h.hp.hG
 have hle := h.le
 have hne : pb ≠ b := fun e => hpn (by rw [e]; exact Gt)
 have e1 := fun fl H => Fa s st.pos fl H (by omega)
 have e2 := fun fl H => QM s st.pos fl H (by omega)
 rw [Ay hle] at e1 e2
 have e3 := fun q (h : (0 : Int) ≤ q) fl H => Ad s q fl H h (by omega)
 have e4 := fun q (h : (0 : Int) ≤ q) fl H => B7 s q fl H h (by omega)
 have e5 := fun b fl H => CP b fl H
 have hO := fun y => h.other (y := y) hpn hpG
 have e6 := fun cd pl fl hf => Ao h cd pl fl hf
 have e7 := fun y cd pl fl hf => Ao (hO y) cd pl fl hf
 have hoh := h.hp.oh.at DW
 have c1 : ∀ y, LH.cellsAt (H.set pb y) b = some (rdC s c st.pos st.depth 0 0 fr la) := fun y => by rw [A0 hne]; exact hc
 have c2 : ∀ y, LH.cellsAt (H.set pb (.cells y)) pb = some y := fun y => A1 hpl
 have c3 : ∀ y z, LH.cellsAt ((H.set pb y).set b (.cells z)) b = some z := fun y z => A1 (by rw [List.length_set]; exact hb)
 have c4 : ∀ z, LH.cellsAt (H.set b (.cells z)) pb = some (prC ⟨ph, pa, pg, pf, pn⟩) := fun z => by rw [A0 (Ne.symm hne)]; exact hpc
 have c5 : ∀ y z, LH.cellsAt ((H.set pb (.cells y)).set b z) pb = some y := fun y z => by rw [A0 (Ne.symm hne)]; exact c2 y
 obtain ⟨o1, o2, o3, o4, o5, o6⟩ := h.hp.o1
 have fx1 : ∀ z, Fx H.length [pb, b] H (H.set b z) := fun z => Fx.set (.inl (by simp))
 have fx2 : ∀ y z, Fx H.length [pb, b] H ((H.set pb y).set b z) := fun y z => (Fx.set (.inl (by simp))).trans (Fx.set (.inl (by simp))) (Nat.le_refl _) (fun _ _ h => h)
 have bad1 : ∀ cd pl, cd ≠ 0 → DS G H b pb s c fr la (.bad st.out cd pl) (.bool false) (H.set b (.cells (rdC s c st.pos st.depth cd pl fr la))) := fun cd pl hcd =>
  ⟨fx1 _, by simp, rfl, _, _, h.upd h.le h.dep, rfl, hcd, c4 _⟩
 have bad2 : ∀ (q : PR) cd pl, cd ≠ 0 → DS G H b pb s c fr la (.bad st.out cd pl) (.bool false) ((H.set pb (.cells (prC q))).set b (.cells (rdC s c st.pos st.depth cd pl fr la))) := fun q cd pl hcd =>
  ⟨fx2 _ _, by simp, rfl, q, _, (hO _).upd h.le h.dep, rfl, hcd, c5 _ _⟩
 have good : ∀ (q : PR) (at' : Nat), at' ≤ s.size → DS G H b pb s c fr la (.ok q (st.at at')) (.bool true) ((H.set pb (.cells (prC q))).set b (.cells (rdC s c at' st.depth 0 0 fr la))) := fun q at' hat =>
  ⟨fx2 _ _, by simp, rfl, (hO _).upd hat h.dep, c5 _ _⟩
 unfold H3 at hm
 unfold t3N at e1 e2
 unfold JP at hm
 have hsp : ∀ e : Nat, sepP s f e = (gapP s e ∨ (f = true ∧ flwP (bA s e))) := fun _ => rfl
 by_cases h38 : bA s st.pos = 38
 ·rw [if_pos h38] at hm
  have hr := Cd (s := s) hle
  generalize AP s st.pos = N at *
  obtain ⟨nm, e, okb⟩ := N
  dsimp only at *
  cases okb with
  | false =>
    rw [if_pos (.inl rfl)] at hm
    cases hm
    have bad := bad1 7 st.pos (by decide)
    generalize DS G H b pb s c fr la _ = Q at *
    unfold rdC prC at *
    unfold run at *
    rw [z80]
    simp +contextual -implicitDefEqProofs (maxSteps := 10000000) (disch := first | (and_intros <;> omega -splitDisjunctions) | (push_cast; and_intros <;> omega -splitDisjunctions) | fail) only [hc, hpc, h38, e1, e6, c1, c2, c3, o1, o2, o3, o4, o5, o6, A1, A0, A2, A3, go_sem, seval]
    exact bad
  | true =>
    obtain ⟨r1, r2, r3, r4⟩ := hr rfl
    by_cases ha : pa = ⟨#[]⟩
    rotate_left
    ·rw [if_pos (.inr (.inl ha))] at hm
     cases hm
     have bad := bad1 7 st.pos (by decide)
     generalize DS G H b pb s c fr la _ = Q at *
     unfold rdC prC at *
     unfold run at *
     rw [z80]
     simp +contextual -implicitDefEqProofs (maxSteps := 10000000) (disch := first | (and_intros <;> omega -splitDisjunctions) | (push_cast; and_intros <;> omega -splitDisjunctions) | fail) only [hc, hpc, h38, ha, e1, e6, c1, c2, c3, o1, o2, o3, o4, o5, o6, A1, A0, A2, A3, go_sem, seval]
     exact bad
    subst ha
    by_cases hsep : sepP s f e
    rotate_left
    ·rw [if_pos (.inr (.inr hsep))] at hm
     cases hm
     have bad := bad2 ⟨ph, nm, pg, pf, pn⟩ 7 st.pos (by decide)
     rw [hsp] at hsep
     have g1 : ¬ gapP s e := fun k => hsep (.inl k)
     generalize DS G H b pb s c fr la _ = Q at *
     unfold rdC prC at *
     unfold run at *
     rw [z80]
     cases f with
     | true =>
       have g2 : ¬ flwP (bA s e) := fun k => hsep (.inr ⟨rfl, k⟩)
       simp +contextual -implicitDefEqProofs (maxSteps := 10000000) (disch := first | (and_intros <;> omega -splitDisjunctions) | (push_cast; and_intros <;> omega -splitDisjunctions) | fail) only [hc, hpc, h38, g1, g2, e1, e3, e4, e5, e6, e7, c1, c2, c3, o1, o2, o3, o4, o5, o6, A1, A0, A2, A3, go_sem, seval]
       exact bad
     | false =>
       simp +contextual -implicitDefEqProofs (maxSteps := 10000000) (disch := first | (and_intros <;> omega -splitDisjunctions) | (push_cast; and_intros <;> omega -splitDisjunctions) | fail) only [hc, hpc, h38, g1, e1, e3, e4, e5, e6, e7, c1, c2, c3, o1, o2, o3, o4, o5, o6, A1, A0, A2, A3, go_sem, seval]
       exact bad
    rw [if_neg (fun k => by rcases k with k | k | k; cases k; exact k rfl; exact k hsep)] at hm
    have w1 := B8 s e; have w2 := Bm r2
    have u1 := CH s e; have u2 := BL r2
    have e8 := fun fl H => AJ s e fl H r2 (by omega)
    have e9 := fun fl H => DD s e fl H r2 (by omega)
    have good := good ⟨true, nm, pg, pf, e⟩
    cases f with
    | false =>
      cases hm
      have good := good _ w2
      have g1 : gapP s e := by rcases hsep with k | k; exact k; cases k.1
      have hif : (if false = true then gpN s e else wtN s e) = wtN s e := rfl
      rw [hif]
      generalize DS G H b pb s c fr la _ = Q at *
      unfold rdC prC at *
      unfold run at *
      rw [z80]
      simp +contextual -implicitDefEqProofs (maxSteps := 10000000) (disch := first | (and_intros <;> omega -splitDisjunctions) | (push_cast; and_intros <;> omega -splitDisjunctions) | fail) only [hc, hpc, h38, g1, e1, e3, e4, e5, e6, e8, e9, c1, c2, c3, c5, o1, o2, o3, o4, o5, o6, List.set_set, A1, A0, A2, A3, go_sem, seval]
      exact good
    | true =>
      cases hm
      have good := good _ u2
      have hif : (if true = true then gpN s e else wtN s e) = gpN s e := rfl
      rw [hif]
      generalize DS G H b pb s c fr la _ = Q at *
      unfold rdC prC at *
      unfold run at *
      rw [z80]
      by_cases g1 : gapP s e
      ·simp +contextual -implicitDefEqProofs (maxSteps := 10000000) (disch := first | (and_intros <;> omega -splitDisjunctions) | (push_cast; and_intros <;> omega -splitDisjunctions) | fail) only [hc, hpc, h38, g1, e1, e3, e4, e5, e6, e8, e9, c1, c2, c3, c5, o1, o2, o3, o4, o5, o6, List.set_set, A1, A0, A2, A3, go_sem, seval]
       exact good
      ·have g2 : flwP (bA s e) := by rcases hsep with k | k; exact absurd k g1; exact k.2
       simp +contextual -implicitDefEqProofs (maxSteps := 10000000) (disch := first | (and_intros <;> omega -splitDisjunctions) | (push_cast; and_intros <;> omega -splitDisjunctions) | fail) only [hc, hpc, h38, g1, g2, e1, e3, e4, e5, e6, e8, e9, c1, c2, c3, c5, o1, o2, o3, o4, o5, o6, List.set_set, A1, A0, A2, A3, go_sem, seval]
       exact good
 rw [if_neg h38] at hm
 have hr := IX (s := s) hle
 generalize tagM s st.pos = N at *
 obtain ⟨raw, e, okb⟩ := N
 dsimp only at *
 cases okb with
 | false =>
   rw [if_pos (.inl rfl)] at hm
   cases hm
   have bad := bad1 7 st.pos (by decide)
   generalize DS G H b pb s c fr la _ = Q at *
   unfold rdC prC at *
   unfold run at *
   rw [z80]
   simp +contextual -implicitDefEqProofs (maxSteps := 10000000) (disch := first | (and_intros <;> omega -splitDisjunctions) | (push_cast; and_intros <;> omega -splitDisjunctions) | fail) only [hc, hpc, h38, e2, e6, c1, c2, c3, o1, o2, o3, o4, o5, o6, A1, A0, A2, A3, go_sem, seval]
   exact bad
 | true =>
   obtain ⟨r1, r2, r3⟩ := hr rfl
   by_cases ha : pg = ⟨#[]⟩
   rotate_left
   ·rw [if_pos (.inr (.inl ha))] at hm
    cases hm
    have bad := bad1 7 st.pos (by decide)
    generalize DS G H b pb s c fr la _ = Q at *
    unfold rdC prC at *
    unfold run at *
    rw [z80]
    simp +contextual -implicitDefEqProofs (maxSteps := 10000000) (disch := first | (and_intros <;> omega -splitDisjunctions) | (push_cast; and_intros <;> omega -splitDisjunctions) | fail) only [hc, hpc, h38, ha, e2, e6, c1, c2, c3, o1, o2, o3, o4, o5, o6, A1, A0, A2, A3, go_sem, seval]
    exact bad
   subst ha
   by_cases hsep : sepP s f e
   rotate_left
   ·rw [if_pos (.inr (.inr hsep))] at hm
    cases hm
    have bad := bad1 7 st.pos (by decide)
    rw [hsp] at hsep
    have g1 : ¬ gapP s e := fun k => hsep (.inl k)
    generalize DS G H b pb s c fr la _ = Q at *
    unfold rdC prC at *
    unfold run at *
    rw [z80]
    cases f with
    | true =>
      have g2 : ¬ flwP (bA s e) := fun k => hsep (.inr ⟨rfl, k⟩)
      simp +contextual -implicitDefEqProofs (maxSteps := 10000000) (disch := first | (and_intros <;> omega -splitDisjunctions) | (push_cast; and_intros <;> omega -splitDisjunctions) | fail) only [hc, hpc, h38, g1, g2, e2, e3, e4, e5, e6, e7, c1, c2, c3, o1, o2, o3, o4, o5, o6, A1, A0, A2, A3, go_sem, seval]
      exact bad
    | false =>
      simp +contextual -implicitDefEqProofs (maxSteps := 10000000) (disch := first | (and_intros <;> omega -splitDisjunctions) | (push_cast; and_intros <;> omega -splitDisjunctions) | fail) only [hc, hpc, h38, g1, e2, e3, e4, e5, e6, e7, c1, c2, c3, o1, o2, o3, o4, o5, o6, A1, A0, A2, A3, go_sem, seval]
      exact bad
   rw [if_neg (fun k => by rcases k with k | k | k; cases k; exact k rfl; exact k hsep)] at hm
   have er := fun fl => Lu raw hoh (by omega) h.fith (by have := h.fewh; omega) fl
   cases hT : tagR raw st.hands with
   | none =>
     rw [hT] at hm er
     cases hm
     unfold tgV at er
     have bad := bad1 15 st.pos (by decide)
     rw [hsp] at hsep
     generalize DS G H b pb s c fr la _ = Q at *
     unfold rdC prC at *
     unfold run at *
     rw [z80]
     by_cases g1 : gapP s e
     ·simp +contextual -implicitDefEqProofs (maxSteps := 10000000) (disch := first | (and_intros <;> omega -splitDisjunctions) | (push_cast; and_intros <;> omega -splitDisjunctions) | fail) only [hc, hpc, h38, g1, e2, e3, e4, e5, e6, er, c1, c2, c3, o1, o2, o3, o4, o5, o6, A1, A0, A2, A3, go_sem, seval]
      exact bad
     ·obtain ⟨g0, g2⟩ := hsep.resolve_left g1
      subst g0
      simp +contextual -implicitDefEqProofs (maxSteps := 10000000) (disch := first | (and_intros <;> omega -splitDisjunctions) | (push_cast; and_intros <;> omega -splitDisjunctions) | fail) only [hc, hpc, h38, g1, g2, e2, e3, e4, e5, e6, er, c1, c2, c3, o1, o2, o3, o4, o5, o6, A1, A0, A2, A3, go_sem, seval]
      exact bad
   | some tg =>
     rw [hT] at hm er
     dsimp only at hm
     unfold tgV at er
     dsimp only at er
     have w1 := B8 s e; have w2 := Bm r2
     have u1 := CH s e; have u2 := BL r2
     have e8 := fun fl H => AJ s e fl H r2 (by omega)
     have e9 := fun fl H => DD s e fl H r2 (by omega)
     have good := good ⟨true, pa, tg, pf, e⟩
     cases f with
     | false =>
       cases hm
       have good := good _ w2
       have g1 : gapP s e := by rcases hsep with k | k; exact k; cases k.1
       have hif : (if false = true then gpN s e else wtN s e) = wtN s e := rfl
       rw [hif]
       generalize DS G H b pb s c fr la _ = Q at *
       unfold rdC prC at *
       unfold run at *
       rw [z80]
       simp +contextual -implicitDefEqProofs (maxSteps := 10000000) (disch := first | (and_intros <;> omega -splitDisjunctions) | (push_cast; and_intros <;> omega -splitDisjunctions) | fail) only [hc, hpc, h38, g1, e2, e3, e4, e5, e6, e8, e9, er, c1, c2, c3, c5, o1, o2, o3, o4, o5, o6, List.set_set, A1, A0, A2, A3, go_sem, seval]
       exact good
     | true =>
       cases hm
       have good := good _ u2
       have hif : (if true = true then gpN s e else wtN s e) = gpN s e := rfl
       rw [hif]
       generalize DS G H b pb s c fr la _ = Q at *
       unfold rdC prC at *
       unfold run at *
       rw [z80]
       by_cases g1 : gapP s e
       ·simp +contextual -implicitDefEqProofs (maxSteps := 10000000) (disch := first | (and_intros <;> omega -splitDisjunctions) | (push_cast; and_intros <;> omega -splitDisjunctions) | fail) only [hc, hpc, h38, g1, e2, e3, e4, e5, e6, e8, e9, er, c1, c2, c3, c5, o1, o2, o3, o4, o5, o6, List.set_set, A1, A0, A2, A3, go_sem, seval]
        exact good
       ·have g2 : flwP (bA s e) := by rcases hsep with k | k; exact absurd k g1; exact k.2
        simp +contextual -implicitDefEqProofs (maxSteps := 10000000) (disch := first | (and_intros <;> omega -splitDisjunctions) | (push_cast; and_intros <;> omega -splitDisjunctions) | fail) only [hc, hpc, h38, g1, g2, e2, e3, e4, e5, e6, e8, e9, er, c1, c2, c3, c5, o1, o2, o3, o4, o5, o6, List.set_set, A1, A0, A2, A3, go_sem, seval]
        exact good
open Go.Proofs.YthlbglmfdjdagaaGreatDoor
def VF (G H : LH) (b : Nat) (s : ByteArray) (c : RC) (fr : Bool) (la : Int) (r : RR PR) (w : V) (B : LH) : Prop :=
 match r with
 | .ok p st => w = .tup [.agg (prC p), .bool true] ∧ GoodA G H b s c fr la st B
 | .bad o cd pl => (∃ p : PR, w = .tup [.agg (prC p), .bool false]) ∧ BadA G H b s c o cd pl B
theorem CM {s : ByteArray} {f : Bool} {d : Nat} {st : RS} {p : PR} : E2 s f (d + 1) st p = if bA s st.pos = 38 ∨ bA s st.pos = 33 then mb (H3 s f st p) fun p st => E2 s f d st p else okM p st := rfl
theorem Fx.of2 {H A B : LH} {b x : Nat} {c : RC} (h : RFr b H c A c) (k : Fx A.length [x, b] A B) (hx : H.length ≤ x) : RFr b H c B c := by
 have hl := h.fx.len
 refine ⟨⟨Nat.le_trans h.fx.len k.len, fun y h1 h2 => ?_⟩, fun y hy => .inl hy⟩
 rw [k.get y (by omega) (fun hm => ?_), h.fx.get y h1 h2]
 simp only [List.mem_cons, List.not_mem_nil, or_false] at hm
 rcases hm with rfl | rfl
 ·omega
 ·exact h2 Gt
theorem RFr.setHi {H B : LH} {b x : Nat} {c c' : RC} {y : Blk} (h : RFr b H c B c') (hx : H.length ≤ x) : RFr b H c (B.set x y) c' := by
 refine ⟨⟨by rw [List.length_set]; exact h.fx.len, fun z h1 h2 => ?_⟩, h.nw⟩
 rw [List.getElem?_set_ne (by omega)]
 exact h.fx.get z h1 h2
theorem AV {G H : LH} {b : Nat} {s : ByteArray} {c : RC} {fr : Bool} {la : Int} {st : RS} (h : RAt G H b s c 0 0 fr la st) (f : Bool) (hs : s.size ≤ 1048576) (fl : Nat) (hf : fl ≤ G.length) {r : RR PR} (hm : CN s f st = some r) :
 Ret (VF G H b s c fr la r) (run 70 [.ptr b 0, .bool f] fl H) := by
 have hc := h.hp.cell
 have hb := A5 hc
 have hG := h.hp.hG
 have hle := h.le
 have hxl := h.hp.hx.len
 have e3 := fun q (h : (0 : Int) ≤ q) fl H => Ad s q fl H h (by omega)
 obtain ⟨o1, o2, o3, o4, o5, o6⟩ := h.hp.o1
 have hn0 : H.length ∉ rbl b c := fun k => by have := h.hp.rb _ k; omega
 have hn1 : H.length + 1 ∉ rbl b c := fun k => by have := h.hp.rb _ k; omega
 unfold CN at hm
 generalize hQ : VF G H b s c fr la r = Q
 unfold rdC at hc
 unfold run at *
 rw [z70]
 simp +contextual -implicitDefEqProofs (maxSteps := 10000000) (disch := first | (and_intros <;> omega -splitDisjunctions) | (push_cast; and_intros <;> omega -splitDisjunctions) | fail) only [hc, o1, o2, o3, o4, o5, o6, A1, A0, A2, A3, go_sem, seval]
 refine B9 fun c2 R2 hc2 hR2 => ?_
 have key2 : ∀ (m : Nat) (d : Nat) (B : LH) (q : PR) (st' : RS) (x5 x7 x31 x36 : Option V), d < m → RAt G B b s c 0 0 fr la st' → B.cellsAt (H.length + 1) = some (prC q) → B.cellsAt H.length = some (prC pr0) → RFr b H c B c → B.length = H.length + 2 → E2 s f d st' q = some r →
  Ret Q (zEv (Ac (mkR Tryz.prog cfg ok [0, 1, 4, 5, 6, 7, 31, 36] fl) .any H [ResultVar.cell 4 86, ResultVar.tmp 5]) (mkR Tryz.prog cfg ok [0, 1, 4, 5, 6, 7, 31, 36] fl) (K.code (Code.loop c2) :: K.blk 0 :: R2) .nrm [some (.ptr b 0), some (.bool f), some (.ptr H.length 0), x5, some (.ptr (H.length + 1) 0), x7, x31, x36] (B)) := by
  intro m
  induction m with
  | zero => intro d B q st' x5 x7 x31 x36 hm; omega
  | succ m ih2 =>
    intro d B q st' x5 x7 x31 x36 hm hA hq hz hRF hl2 hgo
    cases d with
    | zero => cases hgo
    | succ d =>
    rw [CM] at hgo
    have hcB := hA.hp.cell
    have hbB := A5 hcB
    have hle' := hA.le
    have sq : ∀ x, LH.cellsAt (B.set H.length x) (H.length + 1) = some (prC q) := fun x => by rw [A0 (by omega)]; exact hq
    have hfin := fun y => hA.other (y := y) hn0 (by omega)
    by_cases h1 : bA s st'.pos = 38 ∨ bA s st'.pos = 33
    ·rw [if_pos h1] at hgo
     have hlt : st'.pos < s.size := by rcases h1 with k | k <;> exact Ai k (by omega)
     rcases A8 hgo with ⟨o, cd, pl, m1, rfl⟩ | ⟨q2, st2, m1, m2⟩
     ·obtain ⟨w, C, e1, k1, k2, k3, q3, st3, k4, k5, k6, k7⟩ := Fr hA q (H.length + 1) hq hn1 (by omega) f hlt hs fl hf m1
      subst k3
      have hR3 := Fx.of2 hRF k1 (by omega)
      have hz3 : C.cellsAt H.length = some (prC pr0) := k1.cells hz (by omega) (by
       simp only [List.mem_cons, List.not_mem_nil, or_false, not_or]
       exact ⟨by omega, by omega⟩)
      have hCl := A5 hz3
      have hn3 : H.length ∉ rbl b c := hn0
      have hB4 := k4.other (y := .cells (prC q3)) hn0 (by omega)
      unfold rdC at hcB
      unfold run at e1
      rw [A4 hc2, ← hR2]
      have hss := fun x => A1 (cs := x) hCl
      unfold prC at k7 hz3 hB4 hss
      unfold pr0 at hz3
      dsimp only at hz3
      rcases h1 with h1 | h1
      ·simp +contextual -implicitDefEqProofs (maxSteps := 10000000) (disch := first | (and_intros <;> omega -splitDisjunctions) | (push_cast; and_intros <;> omega -splitDisjunctions) | fail) only [hcB, h1, e1, e3, k7, hz3, o1, o2, o3, o4, o5, o6, hss, A1, A0, A2, A3, go_sem, seval]
       subst hQ
       exact ⟨⟨q3, rfl⟩, c, fr, la, st3, hB4, k5, k6, hR3.setHi (Nat.le_refl _)⟩
      ·simp +contextual -implicitDefEqProofs (maxSteps := 10000000) (disch := first | (and_intros <;> omega -splitDisjunctions) | (push_cast; and_intros <;> omega -splitDisjunctions) | fail) only [hcB, h1, e1, e3, k7, hz3, o1, o2, o3, o4, o5, o6, hss, A1, A0, A2, A3, go_sem, seval]
       subst hQ
       exact ⟨⟨q3, rfl⟩, c, fr, la, st3, hB4, k5, k6, hR3.setHi (Nat.le_refl _)⟩
     ·obtain ⟨w, C, e1, k1, k2, k3, k4, k7⟩ := Fr hA q (H.length + 1) hq hn1 (by omega) f hlt hs fl hf m1
      subst k3
      have hR3 := Fx.of2 hRF k1 (by omega)
      have hz3 : C.cellsAt H.length = some (prC pr0) := k1.cells hz (by omega) (by
       simp only [List.mem_cons, List.not_mem_nil, or_false, not_or]
       exact ⟨by omega, by omega⟩)
      unfold rdC at hcB
      unfold run at e1
      rw [A4 hc2]
      rcases h1 with h1 | h1
      ·simp +contextual -implicitDefEqProofs (maxSteps := 10000000) (disch := first | (and_intros <;> omega -splitDisjunctions) | (push_cast; and_intros <;> omega -splitDisjunctions) | fail) only [hcB, h1, e1, e3, o1, o2, o3, o4, o5, o6, A1, A0, A2, A3, go_sem, seval]
       exact ih2 d C q2 st2 _ _ _ _ (by omega) k4 k7 hz3 hR3 (by omega) m2
      ·simp +contextual -implicitDefEqProofs (maxSteps := 10000000) (disch := first | (and_intros <;> omega -splitDisjunctions) | (push_cast; and_intros <;> omega -splitDisjunctions) | fail) only [hcB, h1, e1, e3, o1, o2, o3, o4, o5, o6, A1, A0, A2, A3, go_sem, seval]
       exact ih2 d C q2 st2 _ _ _ _ (by omega) k4 k7 hz3 hR3 (by omega) m2
    ·rw [if_neg h1] at hgo
     cases hgo
     have h2 : ¬ bA s st'.pos = 38 := fun k => h1 (.inl k)
     have h3 : ¬ bA s st'.pos = 33 := fun k => h1 (.inr k)
     have hss := fun x => A1 (cs := x) (A5 hz)
     have hB4 := hfin (.cells (prC q))
     unfold rdC at hcB
     unfold prC at hq hz hss hB4 sq
     unfold pr0 at hz
     dsimp only at hz
     rw [A4 hc2, ← hR2]
     simp +contextual -implicitDefEqProofs (maxSteps := 10000000) (disch := first | (and_intros <;> omega -splitDisjunctions) | (push_cast; and_intros <;> omega -splitDisjunctions) | fail) only [hcB, hq, hz, h2, h3, e3, o1, o2, o3, o4, o5, o6, hss, A1, A0, A2, A3, go_sem, seval]
     subst hQ
     exact ⟨rfl, c, hB4, hRF.setHi (Nat.le_refl _)⟩
 have hA0 := h.left (L := [.cells (prC pr0), .cells (prC ⟨false, ⟨#[]⟩, ⟨#[]⟩, st.pos, st.pos⟩)])
 exact key2 (s.size + 2) (s.size + 1) _ ⟨false, ⟨#[]⟩, ⟨#[]⟩, st.pos, st.pos⟩ st _ _ _ _ (by omega) hA0 (by rw [Bd]; rfl) (by rw [A7]; rfl) RFr.app (by simp) hm
structure Kp (s : ByteArray) (st st' : RS) : Prop where
 dep : st'.depth = st.depth
 out : st.out.length ≤ st'.out.length
 pos : st.pos ≤ st'.pos
 le : st'.pos ≤ s.size
theorem Kp.trans {s : ByteArray} {a b c : RS} (h : Kp s a b) (k : Kp s b c) : Kp s a c := ⟨k.dep.trans h.dep, Nat.le_trans h.out k.out, Nat.le_trans h.pos k.pos, k.le⟩
theorem Kp.refl {s : ByteArray} {a : RS} (h : a.pos ≤ s.size) : Kp s a a := ⟨rfl, Nat.le_refl _, Nat.le_refl _, h⟩
theorem Kp.at {s : ByteArray} {a : RS} {p : Nat} (h1 : a.pos ≤ p) (h2 : p ≤ s.size) : Kp s a (a.at p) := ⟨rfl, Nat.le_refl _, h1, h2⟩
theorem Kp.tell {s : ByteArray} {a : RS} {e : Ev} (h : a.pos ≤ s.size) : Kp s a (a.tell e) := ⟨rfl, by simp [RS.tell], Nat.le_refl _, h⟩
theorem Gf {s : ByteArray} {st st' : RS} {u : Unit} (h : GV s st = some (.ok u st')) (hp : st.pos ≤ s.size) : Kp s st st' ∧ st'.pos < s.size ∧ Ah s st'.pos = 0 := by
 rcases FG h with ⟨h1, h2⟩ | ⟨h1, h2⟩
 ·cases h2; exact ⟨Kp.refl hp, Fd h1⟩
 ·cases h2
theorem Bu {s : ByteArray} {st st' : RS} {u : Unit} (h : gapM s st = some (.ok u st')) (hp : st.pos ≤ s.size) : Kp s st st' ∧ st'.pos < s.size ∧ Ah s st'.pos = 0 := by
 have h1 := Gf h (BL hp)
 exact ⟨(Kp.at (CH s st.pos) (BL hp)).trans h1.1, h1.2⟩
theorem Lo {s : ByteArray} {f : Bool} {st st' : RS} {p p' : PR} (h : H3 s f st p = some (.ok p' st')) (hp : st.pos ≤ s.size) : Kp s st st' ∧ st.pos < st'.pos ∧ p'.has = true ∧ st.pos < p'.fin ∧ p'.fin ≤ st'.pos ∧ p'.frm = p.frm := by
 unfold H3 at h
 by_cases h1 : bA s st.pos = 38
 ·rw [if_pos h1] at h
  by_cases h2 : (AP s st.pos).2.2 = false ∨ p.anchor ≠ ⟨#[]⟩ ∨ ¬ sepP s f (AP s st.pos).2.1
  ·rw [if_pos h2] at h; cases h
  ·rw [if_neg h2] at h
   have h3 : (AP s st.pos).2.2 = true := by
    cases h4 : (AP s st.pos).2.2 with
    | true => rfl
    | false => exact absurd (.inl h4) h2
   have h4 := Cd hp h3
   have h5 := JQ (f := f) h4.2.1
   cases h
   exact ⟨Kp.at (by omega) h5.2, by show st.pos < JP s f (AP s st.pos).2.1; omega, rfl, by show st.pos < (AP s st.pos).2.1; omega, h5.1, rfl⟩
 ·rw [if_neg h1] at h
  by_cases h2 : (tagM s st.pos).2.2 = false ∨ p.tag ≠ ⟨#[]⟩ ∨ ¬ sepP s f (tagM s st.pos).2.1
  ·rw [if_pos h2] at h; cases h
  ·rw [if_neg h2] at h
   have h3 : (tagM s st.pos).2.2 = true := by
    cases h4 : (tagM s st.pos).2.2 with
    | true => rfl
    | false => exact absurd (.inl h4) h2
   have h4 := IX hp h3
   have h5 := JQ (f := f) h4.2.1
   cases h6 : tagR (tagM s st.pos).1 st.hands with
   | none => rw [h6] at h; cases h
   | some t =>
     rw [h6] at h
     cases h
     exact ⟨Kp.at (by omega) h5.2, by show st.pos < JP s f (tagM s st.pos).2.1; omega, rfl, h4.1, h5.1, rfl⟩
theorem NY {s : ByteArray} {f : Bool} : ∀ (d : Nat) {st st' : RS} {p p' : PR}, E2 s f d st p = some (.ok p' st') → st.pos ≤ s.size → Kp s st st' ∧ (p'.has = true → p.has = true ∨ (st.pos < p'.fin ∧ p'.fin ≤ st'.pos)) ∧ (p.has = true → p'.has = true) ∧ (p'.has = false → p' = p ∧ st' = st) ∧ p'.frm = p.frm := by
 intro d
 induction d with
 | zero => intro st st' p p' h; cases h
 | succ d ih =>
   intro st st' p p' h hp
   rw [CM] at h
   by_cases h1 : bA s st.pos = 38 ∨ bA s st.pos = 33
   ·rw [if_pos h1] at h
    rcases A8 h with ⟨o, c, q, m1, m2⟩ | ⟨p2, st2, m1, m2⟩
    ·cases m2
    ·obtain ⟨k1, k2, k3, k4, k5, k6⟩ := Lo m1 hp
     obtain ⟨j1, j2, j3, j4, j5⟩ := ih m2 k1.le
     have ht := j3 k3
     refine ⟨k1.trans j1, fun _ => .inr ?_, fun _ => ht, fun hh => (by rw [ht] at hh; cases hh), j5.trans k6⟩
     have jp := j1.pos
     have kp := k1.pos
     by_cases h2 : bA s st2.pos = 38 ∨ bA s st2.pos = 33
     ·
      cases d with
      | zero => cases m2
      | succ d =>
        rw [CM, if_pos h2] at m2
        rcases A8 m2 with ⟨o, c, q, n1, n2⟩ | ⟨p3, st3, n1, n2⟩
        ·cases n2
        ·obtain ⟨a1, a2, a3, a4, a5, a6⟩ := Lo n1 k1.le
         have := ih (st := st2) (st' := st') (p := ⟨false, p2.anchor, p2.tag, p2.frm, p2.fin⟩) (p' := p') (by
          rw [CM, if_pos h2]
          have e : H3 s f st2 ⟨false, p2.anchor, p2.tag, p2.frm, p2.fin⟩ = H3 s f st2 p2 := rfl
          rw [e, n1]; exact n2) k1.le
         have := this.2.1 ht
         rcases this with h | h
         ·cases h
         ·omega
     ·cases d with
      | zero => cases m2
      | succ d =>
        rw [CM, if_neg h2] at m2
        cases m2
        omega
   ·rw [if_neg h1] at h
    cases h
    exact ⟨Kp.refl hp, fun hh => .inl hh, fun hh => hh, fun _ => ⟨rfl, rfl⟩, rfl⟩
theorem Ba {s : ByteArray} {f : Bool} {st st' : RS} {p : PR} (h : CN s f st = some (.ok p st')) (hp : st.pos ≤ s.size) : Kp s st st' ∧ (p.has = true → st.pos < p.fin ∧ p.fin ≤ st'.pos) ∧ (p.has = false → st' = st ∧ p = ⟨false, ⟨#[]⟩, ⟨#[]⟩, st.pos, st.pos⟩) ∧ p.frm = st.pos := by
 obtain ⟨h1, h2, h3, h4, h5⟩ := NY _ h hp
 refine ⟨h1, fun hh => ?_, fun hh => ⟨(h4 hh).2, (h4 hh).1⟩, h5⟩
 rcases h2 hh with k | k
 ·cases k
 ·exact k
theorem EA {s : ByteArray} {st st' : RS} {p : PR} (h : Ez s st = some (.ok p st')) (hp : st.pos ≤ s.size) (hlt : st.pos < s.size) : Kp s st st' ∧ st'.pos < s.size ∧ (p.has = true → st.pos < st'.pos) ∧ (p.has = false → st' = st) := by
 unfold Ez at h
 rcases A8 h with ⟨o, c, q, m1, m2⟩ | ⟨p2, st2, m1, m2⟩
 ·cases m2
 obtain ⟨k1, k2, k3, k4⟩ := Ba m1 hp
 by_cases hh : p2.has = true
 ·rw [if_pos hh] at m2
  rcases A8 m2 with ⟨o, c, q, n1, n2⟩ | ⟨u, st3, n1, n2⟩
  ·cases n2
  ·have := Gf n1 k1.le
   cases n2
   have := k2 hh
   have := this
   exact ⟨k1.trans (Gf n1 k1.le).1, (Gf n1 k1.le).2.1, fun _ => by have := (Gf n1 k1.le).1.pos; omega, fun h0 => by rw [hh] at h0; cases h0⟩
 ·rw [if_neg hh] at m2
  cases m2
  have hh : p.has = false := by simpa using hh
  have := (k3 hh).1
  subst this
  exact ⟨k1, hlt, fun h0 => (by rw [hh] at h0; cases h0), fun _ => rfl⟩
theorem D1 {s : ByteArray} {st st' : RS} {style : Int} {t : ByteArray} {p : PR} {u : Unit} (h : E6 st style t p = some (.ok u st')) (hp : st.pos ≤ s.size) : Kp s st st' ∧ st'.pos = st.pos := by
 have := (Aq h).2
 cases this
 exact ⟨Kp.tell hp, rfl⟩
theorem Vo {s : ByteArray} {st st' : RS} {e : Ev} {k : Nat} (h : Ds st e = some (.ok k st')) (hp : st.pos ≤ s.size) : Kp s st st' ∧ k = st.out.length ∧ st' = st.tell e := by
 have := (AD h).2
 cases this
 exact ⟨Kp.tell hp, rfl, rfl⟩
theorem BU {s : ByteArray} {st st' : RS} {p : PR} {u : Unit} (h : CG s st p = some (.ok u st')) (hp : st.pos ≤ s.size) : Kp s st st' ∧ st.pos < st'.pos := by
 unfold CG at h
 by_cases h1 : (AP s st.pos).2.2 = false
 ·rw [if_pos h1] at h; cases h
 rw [if_neg h1] at h
 have hr := Cd hp (by simpa using h1)
 by_cases h2 : p.has = true
 ·rw [if_pos h2] at h; cases h
 rw [if_neg h2] at h
 cases h3 : Ct st.names (AP s st.pos).1 with
 | none => rw [h3] at h; cases h
 | some k =>
   rw [h3] at h
   dsimp only at h
   by_cases h4 : st.ended.getD k false = false
   ·rw [if_pos h4] at h; cases h
   ·rw [if_neg h4] at h
    rcases A8 h with ⟨o, c, q, m1, m2⟩ | ⟨a, st2, m1, m2⟩
    ·cases m2
    ·obtain ⟨k1, k2, k3⟩ := Vo m1 hp
     cases m2
     have hps : st2.pos = st.pos := by rw [k3]; rfl
     exact ⟨k1.trans (Kp.at (by omega) hr.2.1), by show st.pos < (AP s st.pos).2.1; omega⟩
theorem BZ {s : ByteArray} {st st' : RS} {p : PR} {u : Unit} (h : CO s st p = some (.ok u st')) (hp : st.pos ≤ s.size) : Kp s st st' ∧ st.pos < st'.pos := by
 unfold CO at h
 by_cases h1 : (Cg s st.pos).2.2 ≠ 0
 ·rw [if_pos h1] at h; cases h
 rw [if_neg h1] at h
 have h1 : (Cg s st.pos).2.2 = 0 := by simpa using h1
 have hr : (st.pos : Int) < (Cg s st.pos).2.1 ∧ (Cg s st.pos).2.1 ≤ s.size := by
  unfold Cg at *
  by_cases h2 : bA s st.pos = 34
  ·rw [if_pos h2] at *; exact C8 hp h1
  ·rw [if_neg h2] at *; exact Cl hp h1
 rcases A8 h with ⟨o, c, q, m1, m2⟩ | ⟨a, st2, m1, m2⟩
 ·cases m2
 ·obtain ⟨k1, k2⟩ := D1 m1 hp
  cases m2
  exact ⟨k1.trans (Kp.at (by omega) (by omega)), by show st.pos < (Cg s st.pos).2.1.toNat; omega⟩
theorem Wj {s : ByteArray} {p : Nat} {f : Bool} (h : pfB s p f = true) : p < peN s p f := by
 have h0 := of_decide_eq_true h
 obtain ⟨h1, h2, h3⟩ := h0
 have hlt := CS h1
 have hst : ¬ GL s p f p := fun k => by
  rcases k with k | k | k | k
  ·exact h1 (.inr k)
  ·exact h2 (.inr (.inl k.1))
  ·have := h3 (.inr (.inr k.1))
   rcases k.2 with j | j
   ·exact this.1 j
   ·exact this.2 j
  ·exact h2 (.inl k.2)
 unfold peN
 rw [Tz hst]
 have hlo := MM s p f (p + 1)
 have key : ∀ q, p + 1 ≤ q → p < trN s p q := by
  intro q
  induction q with
  | zero => intro k; omega
  | succ q ih =>
    intro k
    rw [Vp]
    by_cases hw : p < q + 1 ∧ whP s q
    ·rw [if_pos hw]
     by_cases hq : p + 1 ≤ q
     ·exact ih hq
     ·have : q = p := by omega
      subst this
      exact absurd (.inl hw.2) h1
    ·rw [if_neg hw]; omega
 exact key _ hlo
theorem Cu {s : ByteArray} {st st' : RS} {p : PR} {n : Int} {f : Bool} {u : Unit} (h : Dm s st p n f = some (.ok u st')) (hpf : pfB s st.pos f = true) (hp : st.pos ≤ s.size) : Kp s st st' ∧ st.pos < st'.pos := by
 unfold Dm at h
 rcases A8 h with ⟨o, c, q, m1, m2⟩ | ⟨a, st2, m1, m2⟩
 ·cases m2
 ·obtain ⟨k1, k2⟩ := D1 m1 hp
  cases m2
  have h1 := HC (n := n) hp hpf
  have h2 : peN s st.pos f ≤ (CL s st.pos n f).2.1 := by
   unfold CL
   rw [if_pos hpf]
   exact (E1 s n f _ _ _ (Ey hp)).1
  have h3 := Wj hpf
  exact ⟨k1.trans (Kp.at (by omega) h1.2), by show st.pos < (CL s st.pos n f).2.1; omega⟩
theorem Dw {s : ByteArray} {st st' : RS} {c : Int} {u : Unit} (h : DM s c st = some (.ok u st')) (hp : st.pos < s.size) : Kp s st st' := by
 unfold DM at h
 by_cases h1 : bA s st.pos = 44
 ·rw [if_pos h1] at h; cases h; exact Kp.at (by omega) (by omega)
 ·rw [if_neg h1] at h
  by_cases h2 : bA s st.pos = c
  ·rw [if_pos h2] at h; cases h; exact Kp.refl (by omega)
  ·rw [if_neg h2] at h; cases h
theorem Dl {s : ByteArray} {st st' : RS} {kind style : Int} {p : PR} {sign k : Nat} (h : GZ st kind style p sign = some (.ok k st')) (hp : st.pos ≤ s.size) : st'.depth = st.depth + 1 ∧ st'.out.length = st.out.length + 1 ∧ k = st.out.length ∧ st'.pos = st.pos ∧ st.depth < 40 := by
 unfold GZ at h
 by_cases h1 : 40 ≤ st.depth
 ·rw [if_pos h1] at h; cases h
 ·rw [if_neg h1] at h
  have := (AD h).2
  cases this
  exact ⟨rfl, by simp [RS.tell], rfl, rfl, by omega⟩
theorem LC {s : ByteArray} {st st' : RS} {k : Nat} {u : Unit} (h : GI st k = some (.ok u st')) : st'.depth = st.depth - 1 ∧ st'.out.length = st.out.length + 1 ∧ st'.pos = st.pos := by
 have := (GJ h).2
 cases this
 exact ⟨rfl, by simp [RS.tell, Pm], rfl⟩
def KpF (s : ByteArray) (rec : RS → Option (RR Unit)) : Prop := ∀ st st' u, rec st = some (.ok u st') → st.pos < s.size → Kp s st st'
theorem Im {s : ByteArray} {rec : RS → Option (RR Unit)} {k d : Nat} {st : RS} : Fg s rec k (d + 1) st = mb (gapM s st) fun _ st =>
 if bA s st.pos = 93 then GI (st.at (st.pos + 1)) k
 else mb (rec st) fun _ st => mb (gapM s st) fun _ st => mb (DM s 93 st) fun _ st => Fg s rec k d st := rfl
theorem Le {s : ByteArray} {rec : RS → Option (RR Unit)} {k d : Nat} {st : RS} : JG s rec k (d + 1) st = mb (gapM s st) fun _ st =>
 if bA s st.pos = 125 then GI (st.at (st.pos + 1)) k
 else mb (JR s rec st) fun _ st => mb (gapM s st) fun _ st => mb (DM s 125 st) fun _ st => JG s rec k d st := rfl
theorem Qg {s : ByteArray} {rec : RS → Option (RR Unit)} (hrec : KpF s rec) (k : Nat) : ∀ (d : Nat) {st st' : RS} {u : Unit}, Fg s rec k d st = some (.ok u st') → st.pos ≤ s.size →
 st'.depth = st.depth - 1 ∧ st.out.length ≤ st'.out.length ∧ st.pos ≤ st'.pos ∧ st'.pos ≤ s.size := by
 intro d
 induction d with
 | zero => intro st st' u h; cases h
 | succ d ih =>
   intro st st' u h hp
   rw [Im] at h
   rcases A8 h with ⟨o, c, q, m1, m2⟩ | ⟨_, st1, m1, h⟩
   ·cases m2
   obtain ⟨k1, k2, k3⟩ := Bu m1 hp
   by_cases h1 : bA s st1.pos = 93
   ·rw [if_pos h1] at h
    have hs := LC (s := s) h
    have e1 : (st1.at (st1.pos + 1)).depth = st1.depth := rfl
    have e2 : (st1.at (st1.pos + 1)).out = st1.out := rfl
    have e3 : (st1.at (st1.pos + 1)).pos = st1.pos + 1 := rfl
    rw [e1, e2, e3] at hs
    have := k1.dep; have := k1.out; have := k1.pos
    omega
   ·rw [if_neg h1] at h
    rcases A8 h with ⟨o, c, q, n1, n2⟩ | ⟨_, st2, n1, h⟩
    ·cases n2
    have j1 := hrec _ _ _ n1 k2
    rcases A8 h with ⟨o, c, q, n2, n3⟩ | ⟨_, st3, n2, h⟩
    ·cases n3
    obtain ⟨l1, l2, l3⟩ := Bu n2 j1.le
    rcases A8 h with ⟨o, c, q, n3, n4⟩ | ⟨_, st4, n3, h⟩
    ·cases n4
    have c1 := Dw n3 l2
    have := ih h c1.le
    have K := ((k1.trans j1).trans l1).trans c1
    have := K.dep; have := K.out; have := K.pos
    omega
theorem Ib {s : ByteArray} {st st' : RS} {p : PR} {u : Unit} (h : Ia s st p = some (.ok u st')) (hp : st.pos ≤ s.size) : Kp s st st' := by
 unfold Ia at h
 by_cases h1 : bA s st.pos = 42
 ·rw [if_pos h1] at h; exact (BU h hp).1
 rw [if_neg h1] at h
 by_cases h2 : quoB (bA s st.pos)
 ·rw [if_pos h2] at h; exact (BZ h hp).1
 rw [if_neg h2] at h
 by_cases h3 : pfB s st.pos true = true
 ·rw [if_pos h3] at h; exact (Cu h h3 hp).1
 rw [if_neg h3] at h
 by_cases h4 : p.has = true ∧ (bA s st.pos = 44 ∨ bA s st.pos = 125 ∨ bA s st.pos = 58)
 ·rw [if_pos h4] at h; exact (D1 h hp).1
 ·rw [if_neg h4] at h; cases h
theorem Uy {s : ByteArray} {rec : RS → Option (RR Unit)} (hrec : KpF s rec) {q : Bool} {st st' : RS} {u : Unit} (h : Ih s rec q st = some (.ok u st')) (hp : st.pos < s.size) : Kp s st st' := by
 unfold Ih at h
 by_cases h1 : bA s st.pos = 58 ∧ (gapP s (st.pos + 1 : Nat) ∨ flwP (bA s (st.pos + 1 : Nat)) ∨ q = true)
 ·rw [if_pos h1] at h
  rcases A8 h with ⟨o, c, q, n1, n2⟩ | ⟨_, st2, n1, h⟩
  ·cases n2
  have k0 : Kp s st (st.at (st.pos + 1)) := Kp.at (by omega) (by omega)
  obtain ⟨k1, k2, k3⟩ := Bu n1 k0.le
  by_cases h2 : bA s st2.pos = 44 ∨ bA s st2.pos = 125
  ·rw [if_pos h2] at h
   exact (k0.trans k1).trans (D1 h k1.le).1
  ·rw [if_neg h2] at h
   exact (k0.trans k1).trans (hrec _ _ _ h k2)
 ·rw [if_neg h1] at h
  exact (D1 h (by omega)).1
theorem Qt {s : ByteArray} {rec : RS → Option (RR Unit)} (hrec : KpF s rec) {st st' : RS} {u : Unit} (h : JR s rec st = some (.ok u st')) (hp : st.pos < s.size) : Kp s st st' := by
 unfold JR at h
 rcases A8 h with ⟨o, c, q, n1, n2⟩ | ⟨p, st1, n1, h⟩
 ·cases n2
 obtain ⟨k1, k2, k3, k4⟩ := EA n1 (by omega) hp
 rcases A8 h with ⟨o, c, q, n2, n3⟩ | ⟨_, st2, n2, h⟩
 ·cases n3
 have k5 := Ib n2 k1.le
 rcases A8 h with ⟨o, c, q, n3, n4⟩ | ⟨_, st3, n3, h⟩
 ·cases n4
 obtain ⟨k6, k7, k8⟩ := Bu n3 k5.le
 exact ((k1.trans k5).trans k6).trans (Uy hrec h k7)
theorem Sz {s : ByteArray} {rec : RS → Option (RR Unit)} (hrec : KpF s rec) (k : Nat) : ∀ (d : Nat) {st st' : RS} {u : Unit}, JG s rec k d st = some (.ok u st') → st.pos ≤ s.size →
 st'.depth = st.depth - 1 ∧ st.out.length ≤ st'.out.length ∧ st.pos ≤ st'.pos ∧ st'.pos ≤ s.size := by
 intro d
 induction d with
 | zero => intro st st' u h; cases h
 | succ d ih =>
   intro st st' u h hp
   rw [Le] at h
   rcases A8 h with ⟨o, c, q, m1, m2⟩ | ⟨_, st1, m1, h⟩
   ·cases m2
   obtain ⟨k1, k2, k3⟩ := Bu m1 hp
   by_cases h1 : bA s st1.pos = 125
   ·rw [if_pos h1] at h
    have hs := LC (s := s) h
    have e1 : (st1.at (st1.pos + 1)).depth = st1.depth := rfl
    have e2 : (st1.at (st1.pos + 1)).out = st1.out := rfl
    have e3 : (st1.at (st1.pos + 1)).pos = st1.pos + 1 := rfl
    rw [e1, e2, e3] at hs
    have := k1.dep; have := k1.out; have := k1.pos
    omega
   ·rw [if_neg h1] at h
    rcases A8 h with ⟨o, c, q, n1, n2⟩ | ⟨_, st2, n1, h⟩
    ·cases n2
    have j1 := Qt hrec n1 k2
    rcases A8 h with ⟨o, c, q, n2, n3⟩ | ⟨_, st3, n2, h⟩
    ·cases n3
    obtain ⟨l1, l2, l3⟩ := Bu n2 j1.le
    rcases A8 h with ⟨o, c, q, n3, n4⟩ | ⟨_, st4, n3, h⟩
    ·cases n4
    have c1 := Dw n3 l2
    have := ih h c1.le
    have K := ((k1.trans j1).trans l1).trans c1
    have := K.dep; have := K.out; have := K.pos
    omega
theorem S7 {s : ByteArray} {rec : RS → Option (RR Unit)} (hrec : KpF s rec) {n : Nat} {st st' : RS} {p : PR} {u : Unit} (h : Dd s rec n st p = some (.ok u st')) (hp : st.pos < s.size) : Kp s st st' ∧ st.pos < st'.pos := by
 unfold Dd at h
 rcases A8 h with ⟨o, c, q, n1, n2⟩ | ⟨k, st1, n1, h⟩
 ·cases n2
 obtain ⟨k1, k2, k3, k4, k5⟩ := Dl (s := s) n1 (by omega)
 have e3 : (st1.at (st1.pos + 1)).pos = st1.pos + 1 := rfl
 have e1 : (st1.at (st1.pos + 1)).depth = st1.depth := rfl
 have e2 : (st1.at (st1.pos + 1)).out = st1.out := rfl
 have := Qg hrec k n h (by rw [e3]; omega)
 rw [e1, e2, e3] at this
 exact ⟨⟨by omega, by omega, by omega, by omega⟩, by omega⟩
theorem Uw {s : ByteArray} {rec : RS → Option (RR Unit)} (hrec : KpF s rec) {n : Nat} {st st' : RS} {p : PR} {u : Unit} (h : Eq s rec n st p = some (.ok u st')) (hp : st.pos < s.size) : Kp s st st' ∧ st.pos < st'.pos := by
 unfold Eq at h
 rcases A8 h with ⟨o, c, q, n1, n2⟩ | ⟨k, st1, n1, h⟩
 ·cases n2
 obtain ⟨k1, k2, k3, k4, k5⟩ := Dl (s := s) n1 (by omega)
 have e3 : (st1.at (st1.pos + 1)).pos = st1.pos + 1 := rfl
 have e1 : (st1.at (st1.pos + 1)).depth = st1.depth := rfl
 have e2 : (st1.at (st1.pos + 1)).out = st1.out := rfl
 have := Sz hrec k n h (by rw [e3]; omega)
 rw [e1, e2, e3] at this
 exact ⟨⟨by omega, by omega, by omega, by omega⟩, by omega⟩
theorem OT {s : ByteArray} {rec : RS → Option (RR Unit)} (hrec : KpF s rec) {n : Nat} {st st' : RS} {p : PR} {u : Unit} (h : HW s rec n st p = some (.ok u st')) (hp : st.pos ≤ s.size) : Kp s st st' ∧ (p.has = false → st.pos < st'.pos) := by
 unfold HW at h
 by_cases h1 : bA s st.pos = 91
 ·rw [if_pos h1] at h; have := S7 hrec h (Ai h1 (by omega)); exact ⟨this.1, fun _ => this.2⟩
 rw [if_neg h1] at h
 by_cases h2 : bA s st.pos = 123
 ·rw [if_pos h2] at h; have := Uw hrec h (Ai h2 (by omega)); exact ⟨this.1, fun _ => this.2⟩
 rw [if_neg h2] at h
 by_cases h3 : bA s st.pos = 42
 ·rw [if_pos h3] at h; have := BU h hp; exact ⟨this.1, fun _ => this.2⟩
 rw [if_neg h3] at h
 by_cases h4 : quoB (bA s st.pos)
 ·rw [if_pos h4] at h; have := BZ h hp; exact ⟨this.1, fun _ => this.2⟩
 rw [if_neg h4] at h
 by_cases h5 : pfB s st.pos true = true
 ·rw [if_pos h5] at h; have := Cu h h5 hp; exact ⟨this.1, fun _ => this.2⟩
 rw [if_neg h5] at h
 by_cases h6 : p.has = true ∧ (bA s st.pos = 44 ∨ bA s st.pos = 93 ∨ bA s st.pos = 125)
 ·rw [if_pos h6] at h; exact ⟨(D1 h hp).1, fun h0 => by rw [h6.1] at h0; cases h0⟩
 ·rw [if_neg h6] at h; cases h
theorem KT {s : ByteArray} {n : Nat} {st : RS} : Ic s (n + 1) st = mb (Ez s st) fun p st => HW s (Ic s n) n st p := rfl
theorem Id (s : ByteArray) : ∀ n, KpF s (Ic s n)
 | 0 => fun st st' u h => by cases h
 | n + 1 => fun st st' u h hp => by
   rw [KT] at h
   rcases A8 h with ⟨o, c, q, n1, n2⟩ | ⟨p, st1, n1, h⟩
   ·cases n2
   obtain ⟨k1, k2, k3, k4⟩ := EA n1 (by omega) hp
   exact k1.trans (OT (Id s n) h k1.le).1
end Go.Proofs.YthlbglmfdjdagaaGreatDoor.Lg
