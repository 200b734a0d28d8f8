/- The logical machine: small equations for evaluation. No condition. -/
import Derived.Test.YtbjpecknlohicaaLg27
import Derived.IntWalk
namespace Go.Proofs.Ytbjpecknlohicaa.Lg
set_option linter.unusedSimpArgs false
set_option linter.unusedVariables false

theorem grd_pos' {α : Type} {c : Prop} [Decidable c] {x : Option α} (h : c) : grd c x = x := if_pos h
theorem mk_T (P C call loop keep fl) : (mk P C call loop keep fl).T = ty P := rfl
theorem mk_G (P C call loop keep fl) : (mk P C call loop keep fl).G = C.glob := rfl
theorem mk_call (P C call loop keep fl) : (mk P C call loop keep fl).call = call := rfl
theorem mk_loop (P C call loop keep fl) : (mk P C call loop keep fl).loop = loop := rfl
theorem mk_keep (P C call loop keep fl) : (mk P C call loop keep fl).keep = keep := rfl
theorem mk_fl (P C call loop keep fl) : (mk P C call loop keep fl).fl = fl := rfl
theorem floor_pure (fl : Nat) (H : LH) : floor .pure fl H = H.length := rfl
theorem floor_fresh (fl : Nat) (H : LH) : floor .fresh fl H = H.length := rfl
theorem floor_any3 (fl : Nat) (H : LH) : floor .any fl H = fl := rfl
theorem beqT (b : Bool) : (b == true) = b := by cases b <;> rfl
theorem beqF (b : Bool) : (b == false) = !b := by cases b <;> rfl
theorem drop_app (H L : LH) : (H ++ L).length = H.length + L.length := List.length_append
theorem evs_some {α β : Type} (x : α) (f : α → β) (d : β) : (match some x with | some y => f y | none => d) = f x := rfl
theorem leave_pure {H H' : LH} {vs : List V} : leave .pure H H' (some vs) = grd ((oneV vs).noAddr = true) (some (oneV vs, H)) := rfl
theorem grd_true {α : Type} {x : Option α} {i : Decidable True} : @grd α True i x = x := by unfold grd; exact if_pos trivial
theorem size_lit (l : List UInt8) : ByteArray.size ⟨⟨l⟩⟩ = l.length := rfl
theorem noAddr_ite {c : Prop} [Decidable c] {x y : V} : V.noAddr (if c then x else y) = if c then x.noAddr else y.noAddr := by split <;> rfl
theorem leave_fresh {H H' : LH} {vs : List V} : leave .fresh H H' (some vs) = some (oneV vs, H') := rfl
theorem leave_any {H H' : LH} {vs : List V} : leave .any H H' (some vs) = some (oneV vs, H') := rfl
theorem leaveX_nrm {X : Ctx} {m : Mode} {H : LH} {rs : List ResultVar} {e : Env} {H' : LH} : leaveX X m H rs (some (.nrm, e, H')) = leave m H H' (allV (resV X e H' rs)) := rfl
theorem leaveX_ret {X : Ctx} {m : Mode} {H : LH} {rs : List ResultVar} {e : Env} {H' : LH} : leaveX X m H rs (some (.ret, e, H')) = leave m H H' (allV (resV X e H' rs)) := rfl
theorem set0 {α : Type} (x y : α) (L : List α) : (x :: L).set 0 y = y :: L := rfl
theorem setS {α : Type} (x y : α) (L : List α) (n : Nat) : (x :: L).set (n + 1) y = x :: L.set n y := rfl
theorem evB_ite {X : Ctx} {k : List K} {e : Env} {H : LH} {a b : Code} {t : Bool} : evB X a b k e H (some (.bool t)) = if t = true then ev X (.code a :: k) .nrm e H else ev X (.code b :: k) .nrm e H := by
  cases t <;> rfl
theorem leaveX_ite {X : Ctx} {m : Mode} {H : LH} {rs : List ResultVar} {c : Prop} [Decidable c] {x y : Option (Ex × Env × LH)} : leaveX X m H rs (if c then x else y) = if c then leaveX X m H rs x else leaveX X m H rs y := by
  split <;> rfl
theorem bool_dec (b : Bool) : decide (b = true) = b := by cases b <;> rfl
end Go.Proofs.Ytbjpecknlohicaa.Lg
