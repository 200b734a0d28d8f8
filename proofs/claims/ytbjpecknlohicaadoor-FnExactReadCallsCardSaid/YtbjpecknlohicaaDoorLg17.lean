/- The logical machine against the model: classes of operations, prefixes of a heap, and what may float in a region whose order is drawn. No condition. -/
import Derived.Test.YtbjpecknlohicaaDoorLg16
namespace Go.Proofs.YtbjpecknlohicaaDoor.Lg
set_option linter.unusedSimpArgs false
set_option linter.unusedVariables false
open Go.RowKit (Below)

/-- 0: over values alone; 1: reads or makes; 2: changes -/
def clsC (mode : FuncId → Mode) : Callee → Nat
  | .builtin .len => 1
  | .builtin .min => 1
  | .builtin .max => 1
  | .value (.func f) => match mode f with
    | .any => 2
    | .pure => 1
    | .fresh => 1
  | _ => 2
def cls (mode : FuncId → Mode) : Op → Nat
  | .move _ => 0
  | .assign _ => 0
  | .pick _ _ _ => 0
  | .build _ _ => 0
  | .nilCheck _ => 0
  | .binOp _ _ _ _ _ => 0
  | .unOp _ _ _ => 0
  | .makeFunc _ _ _ => 0
  | .slice _ _ _ _ _ => 0
  | .fieldAddr _ _ _ => 0
  | .field _ _ _ => 0
  | .indexAddr _ _ _ => 0
  | .index _ _ _ => 0
  | .extract _ _ => 0
  | .load _ _ => 1
  | .alloc _ => 1
  | .box _ _ => 1
  | .buildSlice _ _ _ => 1
  | .makeMap _ _ => 1
  | .makeSlice _ _ _ => 1
  | .lookup _ _ _ _ => 1
  | .convert s d _ => if s = d then 2 else 1
  | .call c => clsC mode c.callee
  | _ => 2

theorem withH_any {H : LH} {x : Option V} {v : V} {H' : LH} (e : withH H x = some (v, H')) : H' = H ∧ ∀ H2, withH H2 x = some (v, H2) := by
  obtain ⟨rfl, rfl⟩ := withH_some e
  exact ⟨rfl, fun _ => rfl⟩
theorem doOp_val {mode : FuncId → Mode} {call : CallF} {T G fl H o vs v H'} (h : doOp call T G fl H o vs = some (v, H')) (hc : cls mode o = 0) : H' = H ∧ ∀ fl2 H2, doOp call T G fl2 H2 o vs = some (v, H2) := by
  unfold doOp at h
  split at h <;> first
    | (simp only [cls] at hc; exact absurd hc (by decide))
    | (simp only [cls] at hc; split at hc <;> cases hc; done)
    | (simp only [doOp]; obtain ⟨rfl, k⟩ := withH_any h; exact ⟨rfl, fun _ H2 => k H2⟩)
    | (simp only [doOp]; obtain ⟨hg, h⟩ := grd_some h; obtain ⟨rfl, k⟩ := withH_any h; exact ⟨rfl, fun _ H2 => by unfold grd; rw [if_pos hg]; exact k H2⟩)
    | (simp only [doOp]; injection h with h; injection h with h1 h2; subst h1; subst h2; exact ⟨rfl, fun _ _ => rfl⟩)
    | skip
  · simp only [doOp]
    unfold pickV at h ⊢
    split at h
    · injection h with h; injection h with h1 h2; subst h1; subst h2; exact ⟨rfl, fun _ _ => rfl⟩
    · injection h with h; injection h with h1 h2; subst h1; subst h2; exact ⟨rfl, fun _ _ => rfl⟩
    · cases h
  · simp only [doOp]
    unfold ptrOk at h ⊢
    split at h
    · injection h with h; injection h with h1 h2; subst h1; subst h2; exact ⟨rfl, fun _ _ => rfl⟩
    · injection h with h; injection h with h1 h2; subst h1; subst h2; exact ⟨rfl, fun _ _ => rfl⟩
    · cases h
  · simp only [doOp]
    unfold fnO at h ⊢
    split at h
    · injection h with h; injection h with h1 h2; subst h1; subst h2; exact ⟨rfl, fun _ _ => rfl⟩
    · cases h
  · rename_i c vs
    exfalso
    simp only [cls] at hc
    unfold clsC at hc
    split at hc <;> first | (exact absurd hc (by decide)) | skip
    split at hc <;> exact absurd hc (by decide)
  · cases h

/-- a table of calls keeps to its modes -/
def CallM (mode : FuncId → Mode) (call : CallF) : Prop :=
  ∀ K args fl H v H', mode K ≠ .any → call K args fl H = some (v, H') → (∃ L, H' = H ++ L) ∧ ∀ fl2, call K args fl2 H = some (v, H')
theorem Grow.app {H H' : LH} (h : Grow H.length H H') : ∃ L, H' = H ++ L := by
  refine ⟨H'.drop H.length, ?_⟩
  have ht : H'.take H.length = H := by
    apply List.ext_getElem?
    intro i
    rw [List.getElem?_take]
    split
    · rename_i hi
      exact h.low i hi hi
    · rename_i hi
      rw [List.getElem?_eq_none (by omega)]
  conv => lhs; rw [← List.take_append_drop H.length H', ht]
theorem floor_any {m : Mode} (hm : m ≠ .any) (fl : Nat) (H : LH) : floor m fl H = H.length := by
  cases m with
  | any => exact absurd rfl hm
  | _ => rfl
theorem doBi_mem {T fl H b ts vs v H'} (h : doBi T fl H b ts vs = some (v, H')) (hb : b = .len ∨ b = .min ∨ b = .max) : H' = H ∧ ∀ fl2, doBi T fl2 H b ts vs = some (v, H') := by
  unfold doBi at h
  split at h
  · have h0 := h
    obtain ⟨_, h⟩ := grd_some h
    unfold numO at h
    split at h
    · injection h with h; injection h with _ h; subst h; exact ⟨rfl, fun _ => by simp only [doBi]; exact h0⟩
    · cases h
  · obtain ⟨rfl, k⟩ := withH_any h; exact ⟨rfl, fun _ => by simp only [doBi]; exact k _⟩
  · obtain ⟨rfl, k⟩ := withH_any h; exact ⟨rfl, fun _ => by simp only [doBi]; exact k _⟩
  · rcases hb with hb | hb | hb <;> cases hb
  · cases h
theorem convV_fl {T : TypeId → Option TI} {fl fl2 : Nat} {H : LH} {s d : TypeId} {v : V} (h : s ≠ d) : convV T fl2 H s d v = convV T fl H s d v := by
  unfold convV
  split <;> try rfl
  split <;> try rfl
  simp only [grd, h, false_and]
theorem doOp_mem {C : Cfg} {call : CallF} (hm : CallM C.mode call) {T G fl H o} {xs : List Operand} {keep env loc} {v H'} (hxs : xs = opds o) (h : doOp call T G fl H o (evalL keep env loc xs) = some (v, H')) (hc : cls C.mode o = 1) :
    (∃ L, H' = H ++ L) ∧ ∀ fl2, doOp call T G fl2 H o (evalL keep env loc xs) = some (v, H') := by
  generalize hvs : evalL keep env loc xs = vs at h
  unfold doOp at h
  split at h <;> first
    | (simp only [cls] at hc; exact absurd hc (by decide))
    | skip
  · exact ⟨(zeroO_grow (fl := H.length) h).app, fun _ => by simp only [doOp]; exact h⟩
  · exact ⟨(ptrV_grow (fl := H.length) h).app, fun _ => by simp only [doOp]; exact h⟩
  · exact ⟨(buildL_grow (fl := H.length) h).app, fun _ => by simp only [doOp]; exact h⟩
  · exact ⟨⟨[], by rw [loadO_same h, List.append_nil]⟩, fun _ => by simp only [doOp]; exact h⟩
  · rename_i s d _ _
    have hsd : s ≠ d := fun e => by simp only [cls, if_pos e] at hc; exact absurd hc (by decide)
    exact ⟨(convV_grow (fl := H.length) h).app, fun _ => by simp only [doOp]; exact (convV_fl hsd).trans h⟩
  · exact ⟨(mapO_grow (fl := H.length) h).app, fun _ => by simp only [doOp]; exact h⟩
  · exact ⟨(makeV_grow (fl := H.length) h).app, fun _ => by simp only [doOp]; exact h⟩
  · exact ⟨⟨[], by rw [lookV_same h, List.append_nil]⟩, fun _ => by simp only [doOp]; exact h⟩
  · rename_i c _
    simp only [cls] at hc
    unfold doCall at h
    split at h
    · rename_i b hb
      rw [hb] at hc
      have hbb : b = .len ∨ b = .min ∨ b = .max := by
        unfold clsC at hc
        split at hc <;> first | simp_all
      obtain ⟨rfl, k⟩ := doBi_mem h hbb
      exact ⟨⟨[], by simp⟩, fun fl2 => by simp only [doOp, doCall, hb]; exact k fl2⟩
    · rename_i f vf vs hb
      rw [hb] at hc
      cases f with
      | func K =>
        simp only [opds, hb] at hxs
        subst hxs
        simp only [evalL, evalO, List.cons.injEq, Option.some.injEq] at hvs
        obtain ⟨hv1, hv2⟩ := hvs
        subst hv1
        unfold callV at h
        split at h
        · rename_i K' caps vs' hvf hvs'
          injection hvf with h1 h2
          subst h1
          subst h2
          have hne : C.mode K ≠ .any := fun e => by simp only [clsC, e] at hc; exact absurd hc (by decide)
          obtain ⟨hL, k⟩ := hm _ _ _ _ _ _ hne h
          refine ⟨hL, fun fl2 => ?_⟩
          simp only [doOp, doCall, hb, callV, hvs']
          exact k fl2
        · cases h
      | _ => simp only [clsC] at hc; exact absurd hc (by decide)
    · cases h
  · cases h

section
variable {P : Program} {C : Cfg} {ok : FuncId → Bool}
theorem runN_mode : ∀ n, CallM C.mode (runN P C ok n).1
  | 0 => fun _ _ _ _ _ _ _ h => by cases h
  | n + 1 => by
    intro K args fl H v H' hm h
    have h0 : callStep P C ok (runN P C ok n).1 (runN P C ok n).2 K args fl H = some (v, H') := h
    have g := callStep_grow (P := P) (C := C) (ok := ok) (runN_grow (P := P) (C := C) (ok := ok) n).1 (runN_grow (P := P) (C := C) (ok := ok) n).2
    have hfl : ∀ fl2, callStep P C ok (runN P C ok n).1 (runN P C ok n).2 K args fl2 H = some (v, H') := by
      intro fl2
      rw [← h0]
      unfold callStep bodyStep
      simp only [floor_any hm]
    exact ⟨(g _ _ _ _ _ _ (hfl H.length) (Nat.le_refl _)).app, hfl⟩
end
end Go.Proofs.YtbjpecknlohicaaDoor.Lg
