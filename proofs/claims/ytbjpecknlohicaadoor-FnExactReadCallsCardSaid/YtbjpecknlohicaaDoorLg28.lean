/- The logical machine: small equations for evaluation. No condition. -/
import Derived.Test.YtbjpecknlohicaaDoorLg27
import Derived.IntWalk
namespace Go.Proofs.YtbjpecknlohicaaDoor.Lg
set_option linter.unusedSimpArgs false
set_option linter.unusedVariables false

theorem grd_pos' {α : Type} {c : Prop} [Decidable c] {x : Option α} (h : c) : grd c x = x := if_pos h
theorem mk_T (P C call loop keep fl) : (mk P C call loop keep fl).T = ty P := rfl
theorem mk_G (P C call loop keep fl) : (mk P C call loop keep fl).G = C.glob := rfl
theorem mk_call (P C call loop keep fl) : (mk P C call loop keep fl).call = call := rfl
theorem mk_loop (P C call loop keep fl) : (mk P C call loop keep fl).loop = loop := rfl
theorem mk_keep (P C call loop keep fl) : (mk P C call loop keep fl).keep = keep := rfl
theorem mk_fl (P C call loop keep fl) : (mk P C call loop keep fl).fl = fl := rfl
theorem floor_pure (fl : Nat) (H : LH) : floor .pure fl H = H.length := rfl
theorem floor_fresh (fl : Nat) (H : LH) : floor .fresh fl H = H.length := rfl
theorem floor_any3 (fl : Nat) (H : LH) : floor .any fl H = fl := rfl
theorem beqT (b : Bool) : (b == true) = b := by cases b <;> rfl
theorem beqF (b : Bool) : (b == false) = !b := by cases b <;> rfl
theorem drop_app (H L : LH) : (H ++ L).length = H.length + L.length := List.length_append
theorem evs_some {α β : Type} (x : α) (f : α → β) (d : β) : (match some x with | some y => f y | none => d) = f x := rfl
theorem leave_pure {H H' : LH} {vs : List V} : leave .pure H H' (some vs) = grd ((oneV vs).noAddr = true) (some (oneV vs, H)) := rfl
theorem grd_true {α : Type} {x : Option α} {i : Decidable True} : @grd α True i x = x := by unfold grd; exact if_pos trivial
theorem size_lit (l : List UInt8) : ByteArray.size ⟨⟨l⟩⟩ = l.length := rfl
theorem noAddr_ite {c : Prop} [Decidable c] {x y : V} : V.noAddr (if c then x else y) = if c then x.noAddr else y.noAddr := by split <;> rfl
theorem leave_fresh {H H' : LH} {vs : List V} : leave .fresh H H' (some vs) = some (oneV vs, H') := rfl
theorem leave_any {H H' : LH} {vs : List V} : leave .any H H' (some vs) = some (oneV vs, H') := rfl
theorem leaveX_nrm {X : Ctx} {m : Mode} {H : LH} {rs : List ResultVar} {e : Env} {H' : LH} : leaveX X m H rs (some (.nrm, e, H')) = leave m H H' (allV (resV X e H' rs)) := rfl
theorem leaveX_ret {X : Ctx} {m : Mode} {H : LH} {rs : List ResultVar} {e : Env} {H' : LH} : leaveX X m H rs (some (.ret, e, H')) = leave m H H' (allV (resV X e H' rs)) := rfl
theorem set0 {α : Type} (x y : α) (L : List α) : (x :: L).set 0 y = y :: L := rfl
theorem setS {α : Type} (x y : α) (L : List α) (n : Nat) : (x :: L).set (n + 1) y = x :: L.set n y := rfl
theorem evB_ite {X : Ctx} {k : List K} {e : Env} {H : LH} {a b : Code} {t : Bool} : evB X a b k e H (some (.bool t)) = if t = true then ev X (.code a :: k) .nrm e H else ev X (.code b :: k) .nrm e H := by
  cases t <;> rfl
theorem leaveX_ite {X : Ctx} {m : Mode} {H : LH} {rs : List ResultVar} {c : Prop} [Decidable c] {x y : Option (Ex × Env × LH)} : leaveX X m H rs (if c then x else y) = if c then leaveX X m H rs x else leaveX X m H rs y := by
  split <;> rfl
theorem natLit {n : Nat} : ((no_index (OfNat.ofNat n) : Nat) : Int) = OfNat.ofNat n := rfl
theorem isTup_bool (b : Bool) : V.isTup (.bool b) = false := rfl
theorem cells_bool (b : Bool) : V.cells (.bool b) = [(.bool b)] := rfl
theorem isTup_int (k : IntKind) (n : Int) : V.isTup (.int k n) = false := rfl
theorem cells_int (k : IntKind) (n : Int) : V.cells (.int k n) = [(.int k n)] := rfl
theorem isTup_str (s : ByteArray) : V.isTup (.str s) = false := rfl
theorem cells_str (s : ByteArray) : V.cells (.str s) = [(.str s)] := rfl
theorem isTup_ptr (b o : Nat) : V.isTup (.ptr b o) = false := rfl
theorem cells_ptr (b o : Nat) : V.cells (.ptr b o) = [(.ptr b o)] := rfl
theorem isTup_gptr (b o : Nat) : V.isTup (.gptr b o) = false := rfl
theorem cells_gptr (b o : Nat) : V.cells (.gptr b o) = [(.gptr b o)] := rfl
theorem isTup_nilp  : V.isTup .nilp = false := rfl
theorem cells_nilp  : V.cells .nilp = [.nilp] := rfl
theorem isTup_sl (b o z n c : Nat) : V.isTup (.sl b o z n c) = false := rfl
theorem cells_sl (b o z n c : Nat) : V.cells (.sl b o z n c) = [(.sl b o z n c)] := rfl
theorem isTup_nilsl  : V.isTup .nilsl = false := rfl
theorem cells_nilsl  : V.cells .nilsl = [.nilsl] := rfl
theorem isTup_emp  : V.isTup .emp = false := rfl
theorem cells_emp  : V.cells .emp = [.emp] := rfl
theorem isTup_map (b : Nat) : V.isTup (.map b) = false := rfl
theorem cells_map (b : Nat) : V.cells (.map b) = [(.map b)] := rfl
theorem isTup_nilmap  : V.isTup .nilmap = false := rfl
theorem cells_nilmap  : V.cells .nilmap = [.nilmap] := rfl
theorem isTup_fn (f : FuncId) (cs : List V) : V.isTup (.fn f cs) = false := rfl
theorem cells_fn (f : FuncId) (cs : List V) : V.cells (.fn f cs) = [(.fn f cs)] := rfl
theorem isTup_nilfn  : V.isTup .nilfn = false := rfl
theorem cells_nilfn  : V.cells .nilfn = [.nilfn] := rfl
theorem isTup_agg (cs : List V) : V.isTup (.agg cs) = false := rfl
theorem cells_agg (cs : List V) : V.cells (.agg cs) = cs := rfl
theorem lenV_str (H : LH) (s : ByteArray) : lenV H (.str s) = some s.size := rfl
theorem lenV_sl (H : LH) (b o z n c : Nat) : lenV H (.sl b o z n c) = some n := rfl
theorem lenV_nilsl (H : LH) : lenV H .nilsl = some 0 := rfl
theorem lenV_emp (H : LH) : lenV H .emp = some 0 := rfl
theorem lenV_nilmap (H : LH) : lenV H .nilmap = some 0 := rfl
theorem lenV_map (H : LH) (b : Nat) : lenV H (.map b) = (match H.mapAt b with | some es => some es.length | none => none) := rfl
theorem lenOk_str (T : TypeId → Option TI) (t : TypeId) (s : ByteArray) : lenOk T t (.str s) = (match T t with | some ⟨_, _, .str, _⟩ => true | _ => false) := rfl
theorem lenOk_sl (T : TypeId → Option TI) (t : TypeId) (b o z n c : Nat) : lenOk T t (.sl b o z n c) = (match T t with | some ⟨_, _, .slice _, _⟩ => true | _ => false) := rfl
theorem lenOk_nilsl (T : TypeId → Option TI) (t : TypeId) : lenOk T t .nilsl = (match T t with | some ⟨_, _, .slice _, _⟩ => true | _ => false) := rfl
theorem lenOk_emp (T : TypeId → Option TI) (t : TypeId) : lenOk T t .emp = (match T t with | some ⟨_, _, .slice _, _⟩ => true | _ => false) := rfl
theorem lenOk_map (T : TypeId → Option TI) (t : TypeId) (b : Nat) : lenOk T t (.map b) = (match T t with | some ⟨_, _, .map _ _, _⟩ => true | _ => false) := rfl
theorem lenOk_nilmap (T : TypeId → Option TI) (t : TypeId) : lenOk T t .nilmap = (match T t with | some ⟨_, _, .map _ _, _⟩ => true | _ => false) := rfl
theorem slCells_sl (H : LH) (b o z n c : Nat) : slCells H (.sl b o z n c) = optCut o (n * z) (H.cellsAt b) := rfl
theorem slCells_nilsl (H : LH) : slCells H .nilsl = some [] := rfl
theorem slCells_emp (H : LH) : slCells H .emp = some [] := rfl
theorem slCells_str (H : LH) (s : ByteArray) : slCells H (.str s) = some (bytesV s) := rfl
theorem srcOk_sl (y b o z n c : Nat) : srcOk y (.sl b o z n c) = (z == y) := rfl
theorem srcOk_str (y : Nat) (s : ByteArray) : srcOk y (.str s) = (y == 1) := rfl
theorem srcOk_nilsl (y : Nat) : srcOk y .nilsl = true := rfl
theorem srcOk_emp (y : Nat) : srcOk y .emp = true := rfl
theorem mostC : mostCells = 1099511627776 := by decide
theorem bool_dec (b : Bool) : decide (b = true) = b := by cases b <;> rfl
end Go.Proofs.YtbjpecknlohicaaDoor.Lg
