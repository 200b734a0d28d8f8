/- The logical machine: addresses lie in the heap. No condition. -/
import Derived.Test.YtbjpecknlohicaaDoorLg15
namespace Go.Proofs.YtbjpecknlohicaaDoor.Lg
set_option linter.unusedSimpArgs false
set_option linter.unusedVariables false

mutual
def V.lt (n : Nat) : V → Prop
  | .ptr b _ => b < n
  | .sl b _ _ _ _ => b < n
  | .map b => b < n
  | .fn _ cs => V.lts n cs
  | .agg cs => V.lts n cs
  | .tup cs => V.lts n cs
  | .bool _ => True
  | .int _ _ => True
  | .str _ => True
  | .gptr _ _ => True
  | .nilp => True
  | .nilsl => True
  | .emp => True
  | .nilmap => True
  | .nilfn => True
def V.lts (n : Nat) : List V → Prop
  | [] => True
  | v :: vs => V.lt n v ∧ V.lts n vs
end
theorem lts_iff {n : Nat} : ∀ {vs : List V}, V.lts n vs ↔ ∀ v ∈ vs, V.lt n v
  | [] => by simp [V.lts]
  | v :: vs => by simp [V.lts, lts_iff]
mutual
theorem V.lt_mono {n m : Nat} (h : n ≤ m) : ∀ {v : V}, V.lt n v → V.lt m v
  | .ptr _ _, e => by simp only [V.lt] at e ⊢; omega
  | .sl _ _ _ _ _, e => by simp only [V.lt] at e ⊢; omega
  | .map _, e => by simp only [V.lt] at e ⊢; omega
  | .fn _ _, e => by simp only [V.lt] at e ⊢; exact V.lts_mono h e
  | .agg _, e => by simp only [V.lt] at e ⊢; exact V.lts_mono h e
  | .tup _, e => by simp only [V.lt] at e ⊢; exact V.lts_mono h e
  | .bool _, _ => by simp only [V.lt]
  | .int _ _, _ => by simp only [V.lt]
  | .str _, _ => by simp only [V.lt]
  | .gptr _ _, _ => by simp only [V.lt]
  | .nilp, _ => by simp only [V.lt]
  | .nilsl, _ => by simp only [V.lt]
  | .emp, _ => by simp only [V.lt]
  | .nilmap, _ => by simp only [V.lt]
  | .nilfn, _ => by simp only [V.lt]
theorem V.lts_mono {n m : Nat} (h : n ≤ m) : ∀ {vs : List V}, V.lts n vs → V.lts m vs
  | [], _ => by simp only [V.lts]
  | _ :: _, e => by simp only [V.lts] at e ⊢; exact ⟨V.lt_mono h e.1, V.lts_mono h e.2⟩
end
theorem cells_lt {n : Nat} {v : V} (h : V.lt n v) : ∀ c ∈ v.cells, V.lt n c := by
  cases v with
  | agg cs => simp only [V.lt] at h; exact lts_iff.1 h
  | _ => simpa [V.cells] using h
def Blk.lt (n : Nat) : Blk → Prop
  | .cells cs => ∀ c ∈ cs, V.lt n c
  | .map es => ∀ e ∈ es, V.lt n e.1 ∧ V.lt n e.2
  | .dead => True
theorem Blk.lt_mono {n m : Nat} (h : n ≤ m) {x : Blk} (k : x.lt n) : x.lt m := by
  cases x with
  | cells cs => exact fun c hc => V.lt_mono h (k c hc)
  | map es => exact fun e he => ⟨V.lt_mono h (k e he).1, V.lt_mono h (k e he).2⟩
  | dead => trivial
/-- every address in the heap lies in the heap -/
def HB (H : LH) : Prop := ∀ (b : Nat) (x : Blk), H[b]? = some x → x.lt H.length
theorem HB.push {H : LH} (h : HB H) {x : Blk} (hx : x.lt (H.length + 1)) : HB (H ++ [x]) := by
  intro b y e
  rw [List.length_append, List.length_singleton]
  rcases Nat.lt_or_ge b H.length with hl | hl
  · rw [List.getElem?_append_left hl] at e; exact Blk.lt_mono (x := y) (Nat.le_succ _) (h b y e)
  · rw [List.getElem?_append_right hl] at e
    have := (List.getElem?_eq_some_iff.1 e).1
    simp at this
    have hb : b - H.length = 0 := by omega
    rw [hb] at e; simp at e; subst e; exact hx
theorem HB.set {H : LH} (h : HB H) {x : Blk} {b : Nat} (hx : x.lt H.length) : HB (H.set b x) := by
  intro i y e
  rw [List.length_set]
  by_cases hb : b = i
  · subst hb
    have hl := (List.getElem?_eq_some_iff.1 e).1
    rw [List.getElem?_set_self (by simpa using hl)] at e
    injection e with e; subst e; exact hx
  · rw [List.getElem?_set_ne hb] at e; exact h i y e
theorem HB.cells {H : LH} (h : HB H) {b : Nat} {cs : List V} (e : H.cellsAt b = some cs) : ∀ c ∈ cs, V.lt H.length c := h b _ (cellsAt_some e)
theorem HB.map {H : LH} (h : HB H) {b : Nat} {es : List (V × V)} (e : H.mapAt b = some es) : ∀ x ∈ es, V.lt H.length x.1 ∧ V.lt H.length x.2 := h b _ (mapAt_some e)

/-- what an operation leaves -/
def Good (H : LH) (v : V) : Prop := HB H ∧ V.lt H.length v
/-- what a table of types and of globals is to give -/
def TypL (T : TypeId → Option TI) : Prop := ∀ t i z, T t = some i → i.zero = some z → V.lt 0 z
def GloL (G : Nat → Option (List V)) : Prop := ∀ g cs, G g = some cs → ∀ c ∈ cs, V.lt 0 c

theorem scal_lt {n : Nat} {v : Value} {x : V} (h : scal v = some x) : V.lt n x := by
  unfold scal at h
  split at h <;> first
    | (injection h with h; subst h; simp only [V.lt, V.lts])
    | cases h
theorem scals_lt {n : Nat} : ∀ {vs : List Value} {xs : List V}, scals vs = some xs → V.lts n xs
  | [], xs, h => by injection h with h; subst h; simp only [V.lts]
  | v :: vs, xs, h => by
    simp only [scals] at h
    split at h
    · rename_i h1 h2; injection h with h; subst h; simp only [V.lts]; exact ⟨scal_lt h1, scals_lt h2⟩
    · cases h
theorem ofValue_lt {n : Nat} {v : Value} {x : V} (h : ofValue v = some x) : V.lt n x := by
  unfold ofValue at h
  split at h
  · rename_i cs
    cases hs : scals cs with
    | none => rw [hs] at h; cases h
    | some xs => rw [hs] at h; injection h with h; subst h; simp only [V.lt]; exact scals_lt hs
  · injection h with h; subst h; simp only [V.lt, V.lts]
  · exact scal_lt h
theorem ty_TypL (P : Program) : TypL (ty P) := by
  intro t i z h hz
  unfold ty at h
  split at h
  · rename_i i' d _ _
    injection h with h; subst h
    simp only at hz
    cases hx : i'.zero with
    | none => rw [hx] at hz; cases hz
    | some x => rw [hx] at hz; exact ofValue_lt hz
  · cases h

theorem putAt_lt {n : Nat} : ∀ {xs cs : List V} {o : Nat}, (∀ c ∈ cs, V.lt n c) → (∀ c ∈ xs, V.lt n c) → ∀ c ∈ putAt cs o xs, V.lt n c
  | [], cs, o, h, _ => h
  | x :: xs, cs, o, h, k => by
    simp only [putAt]
    refine putAt_lt ?_ (fun c hc => k c (by simp [hc]))
    intro c hc
    rcases List.mem_or_eq_of_mem_set hc with h1 | h1
    · exact h c h1
    · subst h1; exact k c (by simp)
theorem fillV_lt {n : Nat} {place : Nat → Option (Nat × Nat)} : ∀ {ps : List (Nat × V)} {cs r : List V}, fillV place cs ps = some r → (∀ c ∈ cs, V.lt n c) → (∀ q ∈ ps, V.lt n q.2) → ∀ c ∈ r, V.lt n c
  | [], cs, r, h, hc, _ => by injection h with h; subst h; exact hc
  | (i, v) :: ps, cs, r, h, hc, hp => by
    simp only [fillV] at h
    split at h
    · obtain ⟨_, h⟩ := grd_some h
      exact fillV_lt h (putAt_lt hc (cells_lt (hp (i, v) (by simp)))) (fun q hq => hp q (by simp [hq]))
    · cases h
theorem zeros_lt {n m : Nat} {z : V} (h : V.lt 0 z) : ∀ c ∈ zeros z m, V.lt n c := by
  intro c hc
  unfold zeros at hc
  rw [List.mem_flatten] at hc
  obtain ⟨l, hl, hc⟩ := hc
  have := List.eq_of_mem_replicate hl
  subst this
  exact V.lt_mono (Nat.zero_le _) (cells_lt h c hc)
theorem zip_lt {n : Nat} {is : List Nat} {vs : List V} (h : ∀ v ∈ vs, V.lt n v) : ∀ q ∈ is.zip vs, V.lt n q.2 := fun q hq => h _ (List.of_mem_zip hq).2

theorem ptrV_lt {H : LH} {x v : V} {H' : LH} (h : HB H) (hx : V.lt H.length x) (e : ptrV H x = some (v, H')) : Good H' v := by
  obtain ⟨_, e⟩ := grd_some e
  injection e with e; injection e with e1 e2; subst e1; subst e2
  exact ⟨h.push fun c hc => V.lt_mono (Nat.le_succ _) (cells_lt hx c hc), by simp [V.lt]⟩
theorem withH_lt {H : LH} {x : Option V} {v : V} {H' : LH} (h : HB H) (e : withH H x = some (v, H')) (k : ∀ y, x = some y → V.lt H.length y) : Good H' v := by
  obtain ⟨rfl, rfl⟩ := withH_some e
  exact ⟨h, k _ rfl⟩
theorem cellO_lt {H : LH} {g : Bool} {o n : Nat} {cs : Option (List V)} {v : V} {H' : LH} (h : HB H) (k : ∀ l, cs = some l → ∀ c ∈ l, V.lt H.length c) (e : cellO H g o n cs = some (v, H')) : Good H' v := by
  unfold cellO at e
  split at e
  · split at e
    · obtain ⟨_, e⟩ := grd_some e
      injection e with e; injection e with e1 e2; subst e1; subst e2
      refine ⟨h, ?_⟩
      simp only [V.lt]
      exact lts_iff.2 fun c hc => k _ rfl c (List.mem_of_mem_drop (List.mem_of_mem_take hc))
    · split at e
      · rename_i hx
        injection e with e; injection e with e1 e2; subst e1; subst e2
        exact ⟨h, k _ rfl _ (List.mem_of_getElem? hx)⟩
      · cases e
  · cases e
theorem buildV_lt {T : TypeId → Option TI} (hT : TypL T) {t : TypeId} {ixs : List Nat} {vs : Option (List V)} {v : V} {n : Nat} (k : ∀ l, vs = some l → ∀ c ∈ l, V.lt n c) (e : buildV T t ixs vs = some v) : V.lt n v := by
  have agg : ∀ {z : V} {place : Nat → Option (Nat × Nat)} {l : List V}, V.lt 0 z → (∀ c ∈ l, V.lt n c) → aggO (fillV place z.cells (ixs.zip l)) = some v → V.lt n v := by
    intro z place l hz hl e
    unfold aggO at e
    split at e
    · rename_i cs hf
      injection e with e; subst e
      simp only [V.lt]
      exact lts_iff.2 (fillV_lt hf (fun c hc => V.lt_mono (Nat.zero_le _) (cells_lt hz c hc)) (zip_lt hl))
    · cases e
  unfold buildV at e
  split at e
  · cases e
  · rename_i l
    split at e
    · rename_i z hty
      split at e
      · obtain ⟨_, e⟩ := grd_some e; exact agg (hT _ _ _ hty rfl) (k l rfl) e
      · cases e
    · rename_i z hty
      unfold buildS at e
      split at e
      · obtain ⟨_, e⟩ := grd_some e; exact agg (hT _ _ _ hty rfl) (k l rfl) e
      · cases e
    · cases e
theorem buildL_lt {T : TypeId → Option TI} (hT : TypL T) {t : TypeId} {m : Nat} {ixs : List Nat} {vs : Option (List V)} {v : V} {H H' : LH} (h : HB H) (k : ∀ l, vs = some l → ∀ c ∈ l, V.lt H.length c) (e : buildL T t m ixs H vs = some (v, H')) : Good H' v := by
  unfold buildL at e
  split at e
  · cases e
  · rename_i l
    split at e
    · split at e
      · rename_i z hty
        obtain ⟨_, e⟩ := grd_some e
        unfold rowO at e
        split at e
        · rename_i cs hf
          injection e with e; injection e with e1 e2; subst e1; subst e2
          refine ⟨h.push fun c hc => V.lt_mono (Nat.le_succ _) ?_, by simp [V.lt]⟩
          exact fillV_lt hf (zeros_lt (hT _ _ _ hty rfl)) (zip_lt (k l rfl)) c hc
        · cases e
      · cases e
    · cases e
theorem binV_lt {T : TypeId → Option TI} {op : BinOp} {t : TypeId} {x y v : V} {n : Nat} (e : binV T op t x y = some v) : V.lt n v := by
  have key : ∀ {q : Option V}, (∀ z, q = some z → V.lt n z) → q = some v → V.lt n v := fun h e => h v e
  have bits : ∀ {op k a b}, bitsI op k a b = some v → V.lt n v := by
    intro op k a b e
    unfold bitsI at e
    split at e <;> first | (injection e with e; subst e; simp only [V.lt]) | cases e
  have cmp : ∀ {op a b}, cmpI op a b = some v → V.lt n v := by
    intro op a b e
    unfold cmpI at e
    split at e <;> first | (injection e with e; subst e; simp only [V.lt]) | cases e
  have yes : ∀ {b}, yesO b = some v → V.lt n v := by
    intro b e; unfold yesO at e; split at e <;> first | (injection e with e; subst e; simp only [V.lt]) | cases e
  have no : ∀ {b}, notO b = some v → V.lt n v := by
    intro b e; unfold notO at e; split at e <;> first | (injection e with e; subst e; simp only [V.lt]) | cases e
  unfold binV at e
  split at e
  · unfold binI at e
    split at e <;> (obtain ⟨_, e⟩ := grd_some e) <;> first
      | (injection e with e; subst e; simp only [V.lt])
      | exact bits e
      | exact cmp e
  · unfold binS at e
    split at e <;> first
      | (injection e with e; subst e; simp only [V.lt])
      | (obtain ⟨_, e⟩ := grd_some e; injection e with e; subst e; simp only [V.lt])
      | cases e
  · split at e <;> first | (injection e with e; subst e; simp only [V.lt]) | cases e
  · split at e <;> first | exact yes e | exact no e | cases e
  · cases e
theorem unV_lt {op : UnOp} {x v : V} {n : Nat} (e : unV op x = some v) : V.lt n v := by
  unfold unV at e
  split at e
  · split at e <;> first | (injection e with e; subst e; simp only [V.lt]) | cases e
  · split at e <;> first | (injection e with e; subst e; simp only [V.lt]) | cases e
  · cases e
theorem convV_lt {T : TypeId → Option TI} {fl : Nat} {s d : TypeId} {x v : V} {H H' : LH} (h : HB H) (e : convV T fl H s d x = some (v, H')) : Good H' v := by
  unfold convV at e
  split at e
  · split at e
    · injection e with e; injection e with e1 e2; subst e1; subst e2; exact ⟨h, by simp only [V.lt]⟩
    · cases e
  · split at e
    · injection e with e; injection e with e1 e2; subst e1; subst e2; exact ⟨h, by simp only [V.lt]⟩
    · cases e
  · split at e
    · obtain ⟨_, e⟩ := grd_some e
      unfold bytesO at e
      split at e
      · unfold strO at e
        split at e
        · injection e with e; injection e with e1 e2; subst e1; subst e2; exact ⟨h, by simp only [V.lt]⟩
        · cases e
      · cases e
    · injection e with e; injection e with e1 e2; subst e1; subst e2; exact ⟨h, by simp only [V.lt]⟩
    · injection e with e; injection e with e1 e2; subst e1; subst e2; exact ⟨h, by simp only [V.lt]⟩
    · cases e
  · split at e
    · injection e with e; injection e with e1 e2; subst e1; subst e2
      refine ⟨h.push fun c hc => ?_, by simp [V.lt]⟩
      unfold bytesV at hc
      rw [List.mem_map] at hc
      obtain ⟨b, _, rfl⟩ := hc
      simp only [V.lt]
    · cases e
  · split at e
    · injection e with e; injection e with e1 e2; subst e1; subst e2; exact ⟨h, by simp only [V.lt]⟩
    · cases e
  · split at e
    · obtain ⟨hc, e⟩ := grd_some e
      injection e with e; injection e with e1 e2; subst e1; subst e2
      refine ⟨h, ?_⟩
      obtain ⟨cs, hcs⟩ := Option.isSome_iff_exists.1 hc.2.2
      simp only [V.lt]
      exact (List.getElem?_eq_some_iff.1 (cellsAt_some hcs)).1
    · cases e
  · cases e
theorem elemI_lt {T : TypeId → Option TI} (hT : TypL T) {t : TypeId} {i : TI} {z : V} (h : elemI T t = some i) (hz : i.zero = some z) : V.lt 0 z := by
  unfold elemI at h
  split at h
  · exact hT _ _ _ h hz
  · cases h
theorem sliceV_lt {x v : V} {lo hi : Option V} {n : Nat} (hx : V.lt n x) (e : sliceV x lo hi = some v) : V.lt n v := by
  unfold sliceV at e
  split at e
  · unfold cutS at e
    split at e
    · obtain ⟨_, e⟩ := grd_some e; injection e with e; subst e; simp only [V.lt]
    · cases e
  · unfold cutL at e
    split at e
    · obtain ⟨_, e⟩ := grd_some e; injection e with e; subst e; simp only [V.lt] at hx ⊢; exact hx
    · cases e
  · unfold cutN at e
    split at e
    · injection e with e; subst e; simp only [V.lt]
    · cases e
  · unfold cutE at e
    split at e
    · injection e with e; subst e; simp only [V.lt]
    · cases e
  · cases e
theorem partV_lt {cs : List V} {off n : Nat} {i : Option TI} {v : V} (h : V.lts n cs) (e : partV cs off i = some v) : V.lt n v := by
  unfold partV at e
  split at e
  · split at e
    · obtain ⟨_, e⟩ := grd_some e; injection e with e; subst e
      simp only [V.lt]
      exact lts_iff.2 fun c hc => lts_iff.1 h c (List.mem_of_mem_drop (List.mem_of_mem_take hc))
    · exact lts_iff.1 h _ (List.mem_of_getElem? e)
  · cases e
theorem addO_lt {off n : Nat} {x v : V} (h : V.lt n x) (e : addO off x = some v) : V.lt n v := by
  unfold addO at e
  split at e
  · injection e with e; subst e; simp only [V.lt] at h ⊢; exact h
  · injection e with e; subst e; simp only [V.lt]
  · cases e
theorem atO_lt {k : Nat → Nat → V} {o len b n : Nat} {m : Int} {z : Option Nat} {v : V} (h : ∀ x, V.lt n (k b x)) (e : atO k o len m b z = some v) : V.lt n v := by
  unfold atO at e
  split at e
  · obtain ⟨_, e⟩ := grd_some e; injection e with e; subst e; exact h _
  · cases e
theorem findM_lt {k : V} {n : Nat} : ∀ {es : List (V × V)} {i j : Nat} {v : V}, (∀ x ∈ es, V.lt n x.1 ∧ V.lt n x.2) → findM k es i = some (some (j, v)) → V.lt n v
  | [], _, _, _, _, e => by injection e with e; cases e
  | (k', v') :: es, i, j, v, h, e => by
    simp only [findM] at e
    split at e
    · injection e with e; injection e with e; injection e with _ e; subst e; exact (h (k', v') (by simp)).2
    · exact findM_lt (fun x hx => h x (by simp [hx])) e
    · cases e
end Go.Proofs.YtbjpecknlohicaaDoor.Lg
