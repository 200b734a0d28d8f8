/- The logical machine: heaps that grow while some blocks stay: equations for evaluation. No condition. -/
import Derived.Test.YtbjpecknlohicaaDoorLg30
namespace Go.Proofs.YtbjpecknlohicaaDoor.Lg
set_option linter.unusedSimpArgs false
set_option linter.unusedVariables false

/-- a function that writes no old block does not ask from where on it may write -/
theorem Run_fl {P : Program} {C : Cfg} {ok : FuncId → Bool} {k : FuncId} {a : List V} {fl : Nat} {H : LH} {v : V} {H' : LH} (hm : C.mode k ≠ .any) (h : Run P C ok k a fl H = some (v, H')) (fl2 : Nat) : Run P C ok k a fl2 H = some (v, H') := by
  obtain ⟨n, hn⟩ := Run_of.1 h
  exact Run_of.2 ⟨n, (runN_mode n _ _ _ _ _ _ hm hn).2 fl2⟩
/-- the content of a slice whose elements take 'z' cells: 'ps' are its elements -/
def Sl (H : LH) (z : Nat) (v : V) (ps : List (List V)) : Prop :=
  ((v = .nilsl ∨ v = .emp) ∧ ps = []) ∨ ∃ b o c l, v = .sl b o z ps.length c ∧ H.cellsAt b = some l ∧ (∀ i p, ps[i]? = some p → p.length = z ∧ o + i * z + z ≤ l.length ∧ (l.drop (o + i * z)).take z = p)
theorem cellsAt_lt {H : LH} {b : Nat} {l : List V} (h : H.cellsAt b = some l) : b < H.length := (List.getElem?_eq_some_iff.1 (cellsAt_some h)).1
theorem Sl.ext {H L : LH} {z : Nat} {v : V} {ps : List (List V)} (h : Sl H z v ps) : Sl (H ++ L) z v ps := by
  rcases h with h | ⟨b, o, c, l, h1, h2, h3⟩
  · exact .inl h
  · exact .inr ⟨b, o, c, l, h1, cellsAt_left h2, h3⟩
/-- what is asked of a slice's value, whatever the heap -/
theorem Sl.facts {H : LH} {z : Nat} {v : V} {ps : List (List V)} (h : Sl H z v ps) {T : TypeId → Option TI} {t : TypeId} {s b : Nat} {e : TypeId} {zz : Option V} (hT : T t = some ⟨s, b, .slice e, zz⟩) :
    v.isTup = false ∧ (∀ K, lenV K v = some ps.length) ∧ lenOk T t v = true := by
  rcases h with ⟨rfl | rfl, rfl⟩ | ⟨b, o, c, l, rfl, _⟩
  · exact ⟨rfl, fun K => rfl, by simp only [lenOk, hT]⟩
  · exact ⟨rfl, fun K => rfl, by simp only [lenOk, hT]⟩
  · exact ⟨rfl, fun K => rfl, by simp only [lenOk, hT]⟩
theorem putAt_app : ∀ {X A B : List V}, X.length ≤ B.length → putAt (A ++ B) A.length X = A ++ X ++ B.drop X.length
  | [], A, B, _ => by simp [putAt]
  | x :: X, A, [], h => by simp at h
  | x :: X, A, b :: B, h => by
    simp only [putAt]
    have e : (A ++ b :: B).set A.length x = (A ++ [x]) ++ B := by simp
    rw [e, show A.length + 1 = (A ++ [x]).length by simp, putAt_app (by simpa using h)]
    simp
theorem set_old {H L : LH} {b : Nat} {x : Blk} (h : b < H.length) : (H ++ L).set b x = H.set b x ++ L := List.set_append_left _ _ h
theorem cellsAt_set {H : LH} {b : Nat} {cs : List V} (h : b < H.length) : LH.cellsAt (H.set b (.cells cs)) b = some cs := by
  unfold LH.cellsAt; rw [List.getElem?_set_self h]
theorem cellsAt_set_ne {H : LH} {b b' : Nat} {x : Blk} (h : b ≠ b') : LH.cellsAt (H.set b x) b' = H.cellsAt b' := by
  unfold LH.cellsAt; rw [List.getElem?_set_ne h]
theorem cellsAt_old {H L : LH} {b : Nat} (h : b < H.length) : LH.cellsAt (H ++ L) b = H.cellsAt b := by
  unfold LH.cellsAt; rw [List.getElem?_append_left h]
end Go.Proofs.YtbjpecknlohicaaDoor.Lg
