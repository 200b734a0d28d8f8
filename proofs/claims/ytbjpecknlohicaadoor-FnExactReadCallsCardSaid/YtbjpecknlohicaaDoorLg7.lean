/- The logical machine against the model: what the other operations do. No condition. -/
import Derived.Test.YtbjpecknlohicaaDoorLg6
import Derived.Laws.StructEq
import Derived.Laws.Strings
namespace Go.Proofs.YtbjpecknlohicaaDoor.Lg
set_option linter.unusedSimpArgs false
set_option linter.unusedVariables false
open Go.RowKit (Below)

theorem str_eq (a b : ByteArray) : (a.toList == b.toList) = decide (a = b) := by
  rw [ByteArray.toList_eq, ByteArray.toList_eq]
  obtain ⟨⟨x⟩⟩ := a
  obtain ⟨⟨y⟩⟩ := b
  rw [Bool.eq_iff_iff]
  simp

section
variable {P : Program} {p : Par} {φ : Phi} {H : LH} {w : World}

theorem binI_ok {op : BinOp} {t : TypeId} {ox oy : Operand} {k k' : IntKind} {a b : Int} {v : V} (e : binI op k a k' b = some v) :
    ∃ u, (do eqGuard op t ox oy (.int k a) (.int k' b); binOp op t (.int k a) (.int k' b) : Sem Value).run P w = .ok u w ∧ ∀ φ w, VR φ w v u := by
  have hg : (eqGuard op t ox oy (.int k a) (.int k' b)).run P w = .ok () w := by
    unfold eqGuard; cases op <;> rfl
  simp only [Sem.run_bind, hg, Result.andThen_ok]
  cases op <;> simp only [binI] at e <;> replace e := grd_some e <;> obtain ⟨hk, e⟩ := e <;> simp only [binOp]
  case shl => injection e with e; subst e; refine ⟨_, by simp only [Op.shift]; rw [if_neg (by omega)]; rfl, fun _ _ => by simp only [VR]⟩
  case shr => injection e with e; subst e; refine ⟨_, by simp only [Op.shift]; rw [if_neg (by omega)]; rfl, fun _ _ => by simp only [VR]⟩
  case quo => obtain ⟨hk, hb⟩ := hk; subst hk; injection e with e; subst e; refine ⟨_, by rw [if_neg (by simp)]; simp only [Op.intDiv]; rw [if_neg hb]; rfl, fun _ _ => by simp only [VR]⟩
  case rem => obtain ⟨hk, hb⟩ := hk; subst hk; injection e with e; subst e; refine ⟨_, by rw [if_neg (by simp)]; simp only [Op.intDiv]; rw [if_neg hb]; rfl, fun _ _ => by simp only [VR]⟩
  case eql => subst hk; rw [if_neg (by simp)]; injection e with e; subst e; exact ⟨.bool (decide (a = b)), rfl, fun _ _ => by simp only [VR]⟩
  case neq => subst hk; rw [if_neg (by simp)]; injection e with e; subst e; exact ⟨.bool (!decide (a = b)), rfl, fun _ _ => by simp only [VR]⟩
  all_goals
    subst hk
    rw [if_neg (by simp)]
    injection e with e
    subst e
    exact ⟨_, rfl, fun _ _ => by simp only [VR]⟩

theorem binS_ok {op : BinOp} {t : TypeId} {ox oy : Operand} {a b : ByteArray} {v : V} (e : binS op a b = some v) :
    ∃ u, (do eqGuard op t ox oy (.string a) (.string b); binOp op t (.string a) (.string b) : Sem Value).run P w = .ok u w ∧ ∀ φ w, VR φ w v u := by
  have hg : (eqGuard op t ox oy (.string a) (.string b)).run P w = .ok () w := by
    unfold eqGuard; cases op <;> rfl
  simp only [Sem.run_bind, hg, Result.andThen_ok]
  cases op <;> simp only [binS] at e <;> first | (cases e; done) | skip
  case add =>
    obtain ⟨hk, e⟩ := grd_some e
    injection e with e; subst e
    refine ⟨.string (a ++ b), ?_, fun _ _ => by simp only [VR]⟩
    simp only [binOp, Op.stringOp, Sem.run_ite]
    rw [if_neg (by have : IntKind.i64.max = 9223372036854775807 := by decide
                   rw [this]; omega)]
    rfl
  case eql =>
    injection e with e; subst e
    refine ⟨.bool (a.toList == b.toList), by simp only [binOp, Op.stringOp]; rfl, fun _ _ => by simp only [VR, str_eq]⟩
  case neq =>
    injection e with e; subst e
    refine ⟨.bool (!(a.toList == b.toList)), by simp only [binOp, Op.stringOp]; rfl, fun _ _ => by simp only [VR, str_eq]⟩

/-- flat structs -/
theorem flatFrom_cons {o : Nat} {f : Field} {fs : List Field} {ks : List Nat} (h : flatFrom P o (f :: fs) = some ks) :
    ∃ k l, ks = k :: l ∧ f.name ≠ "_" ∧ f.offset = o ∧ flatFrom P (o + 1) fs = some l ∧
      ((k = 0 ∧ P.underlying f.type = some .bool) ∨ (k = 1 ∧ ∃ j, P.underlying f.type = some (.int j)) ∨ (k = 2 ∧ P.underlying f.type = some .string)) := by
  unfold flatFrom at h
  split at h
  · rename_i hc
    simp only [Bool.and_eq_true, bne_iff_ne, ne_eq, beq_iff_eq] at hc
    split at h
    · rename_i l h1 h2; injection h with h; exact ⟨0, l, h.symm, hc.1, hc.2, h2, .inl ⟨rfl, h1⟩⟩
    · rename_i j l h1 h2; injection h with h; exact ⟨1, l, h.symm, hc.1, hc.2, h2, .inr (.inl ⟨rfl, j, h1⟩)⟩
    · rename_i l h1 h2; injection h with h; exact ⟨2, l, h.symm, hc.1, hc.2, h2, .inr (.inr ⟨rfl, h1⟩)⟩
    · cases h
  · cases h
theorem eqS_ok {t : TypeId} {x y : V} {ux uy : Value} {r : Bool} {k : Nat}
    (ht : (k = 0 ∧ P.underlying t = some .bool) ∨ (k = 1 ∧ ∃ j, P.underlying t = some (.int j)) ∨ (k = 2 ∧ P.underlying t = some .string)) (hk : kindV x = k) (hx : VR φ w x ux) (hy : VR φ w y uy)
    (e : eqS x y = some r) (d : Nat) : (Op.equalIn (d + 1) t ux uy).run P w = .ok r w := by
  unfold eqS at e
  split at e
  · injection e with e; subst e
    simp only [VR] at hx hy; subst hx; subst hy
    rcases ht with ⟨_, hu⟩ | ⟨h1, _⟩ | ⟨h1, _⟩
    · exact run_equalIn_bool' w d t _ _ hu
    · subst h1; cases hk
    · subst h1; cases hk
  · obtain ⟨hq, e⟩ := grd_some e
    injection e with e; subst e; subst hq
    simp only [VR] at hx hy; subst hx; subst hy
    rcases ht with ⟨h1, _⟩ | ⟨_, j, hu⟩ | ⟨h1, _⟩
    · subst h1; cases hk
    · rw [run_equalIn_int w d t _ j _ _ hu]; congr 1
    · subst h1; cases hk
  · injection e with e; subst e
    simp only [VR] at hx hy; subst hx; subst hy
    rcases ht with ⟨h1, _⟩ | ⟨h1, _⟩ | ⟨_, hu⟩
    · subst h1; cases hk
    · subst h1; cases hk
    · rw [run_equalIn_string w d t _ _ hu, str_eq]
  · cases e
theorem part_ok {t : TypeId} {off : Nat} {us : List Value} {u : Value} (ht : (isAgg t).run P w = .ok false w) (h : us[off]? = some u) : (part t ⟨us⟩ off).run P w = .ok u w := by
  simp only [part, Sem.run_bind, ht, Result.andThen_ok, Bool.false_eq_true, if_false]
  have : (⟨us⟩ : Array Value)[off]? = some u := by simpa using h
  rw [this]; rfl
theorem eqL_ok : ∀ {fs : List Field} {o : Nat} {ks : List Nat} {xs ys : List V} {ux uy : List Value} {r : Bool}, flatFrom P o fs = some ks → eqL ks xs ys = some r →
    (∀ (i : Nat) (v : V), xs[i]? = some v → ∃ u, ux[o + i]? = some u ∧ VR φ w v u) → (∀ (i : Nat) (v : V), ys[i]? = some v → ∃ u, uy[o + i]? = some u ∧ VR φ w v u) →
    ∀ d, (Op.eqFields (d + 1) ⟨ux⟩ ⟨uy⟩ fs).run P w = .ok r w
  | [], o, ks, xs, ys, ux, uy, r, hf, e, _, _, d => by
    injection hf with hf; subst hf
    unfold eqL at e
    split at e <;> first | (injection e with e; subst e; simp [Op.eqFields]; done) | (cases e; done) | (rename_i h _ _; cases h)
  | f :: fs, o, ks, xs, ys, ux, uy, r, hf, e, hx, hy, d => by
    obtain ⟨k, l, rfl, hn, ho, hl, hk⟩ := flatFrom_cons hf
    cases xs with
    | nil => cases e
    | cons x xs =>
      cases ys with
      | nil => cases e
      | cons y ys =>
        simp only [eqL] at e
        obtain ⟨hkk, e⟩ := grd_some e
        cases h1 : eqS x y with
        | none => rw [h1] at e; cases e
        | some b =>
          cases h2 : eqL l xs ys with
          | none => rw [h1, h2] at e; cases e
          | some c =>
            rw [h1, h2] at e; injection e with e; subst e
            obtain ⟨u1, hu1, r1⟩ := hx 0 x rfl
            obtain ⟨u2, hu2, r2⟩ := hy 0 y rfl
            rw [Nat.add_zero] at hu1 hu2
            have hagg : (isAgg f.type).run P w = .ok false w := by
              simp only [isAgg, Sem.run_bind]
              rcases hk with ⟨_, hu⟩ | ⟨_, j, hu⟩ | ⟨_, hu⟩ <;> rw [run_underlying hu] <;> rfl
            have ih := eqL_ok (d := d) hl h2 (fun i v hi => by have := hx (i + 1) v hi; rwa [show o + (i + 1) = o + 1 + i by omega] at this) (fun i v hi => by have := hy (i + 1) v hi; rwa [show o + (i + 1) = o + 1 + i by omega] at this)
            rw [Op.eqFields]
            simp only [if_pos hn, Sem.run_bind, ho, part_ok hagg hu1, part_ok hagg hu2, eqS_ok hk hkk r1 r2 h1 d, Result.andThen_ok]
            cases b
            · simp
            · simpa using ih
theorem guard_flat {fs : List Field} : ∀ {o : Nat} {ks : List Nat}, flatFrom P o fs = some ks → ∀ d, (fs.any fun f => f.name != "_" && P.eqGuardType (d + 1) f.type) = false := by
  induction fs with
  | nil => intro o ks _ d; rfl
  | cons f fs ih =>
    intro o ks h d
    obtain ⟨k, l, _, _, _, hl, hk⟩ := flatFrom_cons h
    rw [List.any_cons, ih hl d]
    have : P.eqGuardType (d + 1) f.type = false := by
      unfold Program.eqGuardType
      rcases hk with ⟨_, hu⟩ | ⟨_, j, hu⟩ | ⟨_, hu⟩ <;> rw [hu]
    rw [this]; simp
theorem eqA_ok {t : TypeId} {i : TI} {fs : List (Nat × TypeId)} {ks : List Nat} {xs ys : List V} {ux uy : Value} {r : Bool} (hi : ty P t = some i) (hk : i.kind = .struct fs (some ks)) (hx : VR φ w (.agg xs) ux) (hy : VR φ w (.agg ys) uy)
    (e : eqL ks xs ys = some r) (ox oy : Operand) (op : BinOp) : (eqGuard op t ox oy ux uy).run P w = .ok () w ∧ (Op.equal t ux uy).run P w = .ok r w := by
  simp only [VR] at hx hy
  obtain ⟨_, us, rfl, hx⟩ := hx
  obtain ⟨_, vs, rfl, hy⟩ := hy
  obtain ⟨d, h1, h2, h3⟩ := ty_under hi w
  rw [h2] at hk
  obtain ⟨gs, rfl, rfl, hfl⟩ := tk_struct hk
  have hst : P.stoodInHeld t = false := by
    cases hs : P.stoodInHeld t with
    | false => rfl
    | true => rw [hs] at hfl; cases hfl
  rw [hst] at hfl
  simp only [Bool.false_eq_true, if_false] at hfl
  constructor
  · have hgt : P.eqGuardType P.depth t = false := by
      have : P.depth = (2 * (P.types.size + Made.depth) + 1) + 1 := rfl
      rw [this]
      unfold Program.eqGuardType
      rw [h3]
      have := guard_flat (P := P) hfl.symm (2 * (P.types.size + Made.depth))
      show (gs.any fun f => f.name != "_" && P.eqGuardType (2 * (P.types.size + Made.depth) + 1) f.type) = false
      rw [← Array.any_toList]
      exact this
    unfold eqGuard
    cases op <;> simp [hgt]
  · have hf : P.fieldsOf t = gs := by simp [Program.fieldsOf, h3]
    unfold Op.equal Op.maxDepth
    rw [run_equalIn_struct (P := P) w 9999 t _ _ (by rw [hf]; exact h3) hst, hf]
    obtain ⟨_, hxi⟩ := VRs_iff.1 hx
    obtain ⟨_, hyi⟩ := VRs_iff.1 hy
    exact eqL_ok (d := 9998) hfl.symm e (fun i v hi => by rw [Nat.zero_add]; exact hxi i v hi) (fun i v hi => by rw [Nat.zero_add]; exact hyi i v hi)

theorem binV_ok {op : BinOp} {t : TypeId} {ox oy : Operand} {x y v : V} {ux uy : Value} (hx : VR φ w x ux) (hy : VR φ w y uy) (e : binV (ty P) op t x y = some v) :
    ∃ u, (do eqGuard op t ox oy ux uy; binOp op t ux uy : Sem Value).run P w = .ok u w ∧ ∀ φ w, VR φ w v u := by
  unfold binV at e
  split at e
  · simp only [VR] at hx hy; subst hx; subst hy; exact binI_ok e
  · simp only [VR] at hx hy; subst hx; subst hy; exact binS_ok e
  · simp only [VR] at hx hy; subst hx; subst hy
    rename_i a b
    split at e
    · rename_i s bt z hi
      injection e with e; subst e
      obtain ⟨d, h1, h2, h3⟩ := ty_under hi w
      have := tk_bool h2.symm; subst this
      refine ⟨.bool (a == b), ?_, fun _ _ => by simp only [VR]⟩
      have hg : (eqGuard .eql t ox oy (.bool a) (.bool b)).run P w = .ok () w := rfl
      simp only [Sem.run_bind, hg, Result.andThen_ok, binOp, Op.equal, Op.maxDepth, run_equalIn_bool' w 9999 t a b h3, Sem.run_pure]
    · rename_i s bt z hi
      injection e with e; subst e
      obtain ⟨d, h1, h2, h3⟩ := ty_under hi w
      have := tk_bool h2.symm; subst this
      refine ⟨.bool (!(a == b)), ?_, fun _ _ => by simp only [VR]⟩
      have hg : (eqGuard .neq t ox oy (.bool a) (.bool b)).run P w = .ok () w := rfl
      simp only [Sem.run_bind, hg, Result.andThen_ok, binOp, Op.equal, Op.maxDepth, run_equalIn_bool' w 9999 t a b h3, Sem.run_pure]
    · cases e
  · rename_i a b
    split at e
    · rename_i s bt fs ks z hi
      unfold yesO at e
      split at e
      · rename_i r he
        injection e with e; subst e
        obtain ⟨hg, hq⟩ := eqA_ok hi rfl hx hy he ox oy .eql
        simp only [VR] at hx hy
        obtain ⟨_, us, rfl, _⟩ := hx
        obtain ⟨_, vs, rfl, _⟩ := hy
        refine ⟨.bool r, ?_, fun _ _ => by simp only [VR]⟩
        simp only [Sem.run_bind, hg, Result.andThen_ok, binOp, hq, Sem.run_pure]
      · cases e
    · rename_i s bt fs ks z hi
      unfold notO at e
      split at e
      · rename_i r he
        injection e with e; subst e
        obtain ⟨hg, hq⟩ := eqA_ok hi rfl hx hy he ox oy .neq
        simp only [VR] at hx hy
        obtain ⟨_, us, rfl, _⟩ := hx
        obtain ⟨_, vs, rfl, _⟩ := hy
        refine ⟨.bool (!r), ?_, fun _ _ => by simp only [VR]⟩
        simp only [Sem.run_bind, hg, Result.andThen_ok, binOp, hq, Sem.run_pure]
      · cases e
    · cases e
  · cases e

theorem unV_ok {op : UnOp} {x v : V} {ux : Value} (hx : VR φ w x ux) (e : unV op x = some v) : ∃ u, (Op.unary op ux).run P w = .ok u w ∧ ∀ φ w, VR φ w v u := by
  unfold unV at e
  split at e
  · simp only [VR] at hx; subst hx
    split at e
    · injection e with e; subst e; exact ⟨_, rfl, fun _ _ => by simp only [VR]⟩
    · cases e
  · simp only [VR] at hx; subst hx
    split at e
    · injection e with e; subst e; exact ⟨_, rfl, fun _ _ => by simp only [VR]⟩
    · cases e
  · cases e
end

end Go.Proofs.YtbjpecknlohicaaDoor.Lg
