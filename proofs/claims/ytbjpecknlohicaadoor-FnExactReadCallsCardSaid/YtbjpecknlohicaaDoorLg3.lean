/- The logical machine: evaluation by rewriting: a stack of what is to be done, equation by equation. No condition. -/
import Derived.Test.YtbjpecknlohicaaDoorLg2
namespace Go.Proofs.YtbjpecknlohicaaDoor.Lg
set_option linter.unusedSimpArgs false
set_option linter.unusedVariables false

inductive K where
  | code (c : Code)
  | blk (id : Nat)
  | lp (c : Code)

/-- the rest of a body -/
def ev (X : Ctx) : List K → Ex → Env → LH → Option (Ex × Env × LH)
  | [], x, e, H => some (x, e, H)
  | .code c :: k, .nrm, e, H => match exec X c e H with
    | some (x, e, H) => ev X k x e H
    | none => none
  | .code _ :: k, .ret, e, H => ev X k .ret e H
  | .code _ :: k, .exit j, e, H => ev X k (.exit j) e H
  | .blk _ :: k, .nrm, e, H => ev X k .nrm e H
  | .blk _ :: k, .ret, e, H => ev X k .ret e H
  | .blk id :: k, .exit j, e, H => if j = id then ev X k .nrm e H else ev X k (.exit j) e H
  | .lp c :: k, .nrm, e, H => match X.loop X.keep X.fl c e H with
    | some (x, e, H) => ev X k x e H
    | none => none
  | .lp _ :: k, .ret, e, H => ev X k .ret e H
  | .lp _ :: k, .exit j, e, H => ev X k (.exit j) e H

def evR (X : Ctx) (ops rest : List Oper) (l : Loc) (e : Env) (H : LH) (k : List K) : Option (Ex × Env × LH) :=
  match opsV X ops e rest l H with
  | some (l, H) => ev X k .nrm (keepE X.keep e l) H
  | none => none
def evS (X : Ctx) (ops : List Oper) (d : Option Tmp) (rest : List Oper) (l : Loc) (e : Env) (k : List K) : Option (V × LH) → Option (Ex × Env × LH)
  | some (v, H) => evR X ops rest (putL d v l) e H k
  | none => none
def evG (X : Ctx) (ops : List Oper) (o : Oper) (rest : List Oper) (l : Loc) (e : Env) (H : LH) (k : List K) : Option Bool → Option (Ex × Env × LH)
  | some true => evS X ops o.dst rest l e k (stepO X ops e l H o)
  | some false => evR X ops rest (putL o.dst und l) e H k
  | none => none
def evB (X : Ctx) (a b : Code) (k : List K) (e : Env) (H : LH) : Option V → Option (Ex × Env × LH)
  | some (.bool true) => ev X (.code a :: k) .nrm e H
  | some (.bool false) => ev X (.code b :: k) .nrm e H
  | _ => none

section
variable {X : Ctx} {k : List K} {e : Env} {H : LH}
theorem ev_nil {x : Ex} : ev X [] x e H = some (x, e, H) := rfl
theorem ev_skip : ev X (.code .skip :: k) .nrm e H = ev X k .nrm e H := rfl
theorem ev_label {l : Nat} : ev X (.code (.label l) :: k) .nrm e H = ev X k .nrm e H := rfl
theorem ev_seq {a b : Code} : ev X (.code (.seq a b) :: k) .nrm e H = ev X (.code a :: .code b :: k) .nrm e H := by
  simp only [ev, exec]
  cases exec X a e H with
  | none => rfl
  | some x => obtain ⟨x, e1, H1⟩ := x; cases x <;> rfl
theorem ev_region {id : Nat} {ops : Array Oper} {d : Bool} : ev X (.code (.region id ops d) :: k) .nrm e H = evR X ops.toList ops.toList [] e H k := by
  simp only [ev, exec, evR]
  cases opsV X ops.toList e ops.toList [] H <;> rfl
theorem ev_cond {c : Operand} {a b : Code} : ev X (.code (.cond c a b) :: k) .nrm e H = evB X a b k e H (evalO X.keep e [] c) := by
  simp only [ev, exec]
  cases evalO X.keep e [] c with
  | none => rfl
  | some v =>
    cases v with
    | bool t => cases t <;> rfl
    | _ => rfl
theorem ev_block {id : Nat} {c : Code} : ev X (.code (.block id c) :: k) .nrm e H = ev X (.code c :: .blk id :: k) .nrm e H := by
  simp only [ev, exec]
  cases exec X c e H with
  | none => rfl
  | some x =>
    obtain ⟨x, e1, H1⟩ := x
    cases x with
    | exit j => simp only [ev]; by_cases h : j = id <;> simp [h]
    | _ => rfl
theorem ev_exit {id : Nat} : ev X (.code (.exit id) :: k) .nrm e H = ev X k (.exit id) e H := rfl
theorem ev_ret : ev X (.code .ret :: k) .nrm e H = ev X k .ret e H := rfl
theorem ev_pass {c : Code} {j : Nat} : ev X (.code c :: k) (.exit j) e H = ev X k (.exit j) e H := rfl
theorem ev_passR {c : Code} : ev X (.code c :: k) .ret e H = ev X k .ret e H := rfl
theorem ev_blk {id : Nat} : ev X (.blk id :: k) .nrm e H = ev X k .nrm e H := rfl
theorem ev_blkR {id : Nat} : ev X (.blk id :: k) .ret e H = ev X k .ret e H := rfl
theorem ev_blkX {id j : Nat} : ev X (.blk id :: k) (.exit j) e H = if j = id then ev X k .nrm e H else ev X k (.exit j) e H := rfl
theorem ev_lpR {c : Code} : ev X (.lp c :: k) .ret e H = ev X k .ret e H := rfl
theorem ev_lpX {c : Code} {j : Nat} : ev X (.lp c :: k) (.exit j) e H = ev X k (.exit j) e H := rfl
theorem ev_lp {c : Code} : ev X (.lp c :: k) .nrm e H = ev X (.code (.loop c) :: k) .nrm e H := rfl
theorem evB_true {a b : Code} : evB X a b k e H (some (.bool true)) = ev X (.code a :: k) .nrm e H := rfl
theorem evB_false {a b : Code} : evB X a b k e H (some (.bool false)) = ev X (.code b :: k) .nrm e H := rfl
theorem evR_nil {ops : List Oper} {l : Loc} : evR X ops [] l e H k = ev X k .nrm (keepE X.keep e l) H := rfl
theorem evR_cons {ops : List Oper} {o : Oper} {rest : List Oper} {l : Loc} : evR X ops (o :: rest) l e H k = evG X ops o rest l e H k (wantV X ops e l o.guard) := by
  simp only [evR, opsV]
  cases wantV X ops e l o.guard with
  | none => rfl
  | some b =>
    cases b with
    | false => rfl
    | true =>
      simp only [evG]
      cases stepO X ops e l H o with
      | none => rfl
      | some v => rfl
theorem evG_true {ops : List Oper} {rest : List Oper} {l : Loc} {d : Tmp} {op : Op} {t : TypeId} {p : String} {a : Array Edge} {g : Option (Nat × Bool)} :
    evG X ops ⟨some d, op, t, p, a, g⟩ rest l e H k (some true) = evS X ops (some d) rest l e k (doOp X.call X.T X.G X.fl H op (evalL X.keep e l (opds op))) := rfl
theorem evG_store {ops : List Oper} {rest : List Oper} {l : Loc} {ty : TypeId} {ad x : Operand} {t : TypeId} {p : String} {a : Array Edge} {g : Option (Nat × Bool)} :
    evG X ops ⟨none, .store ty ad x, t, p, a, g⟩ rest l e H k (some true) =
      evS X ops none rest l e k (grd (fltE X.keep ops e l ad a.toList = true) (doOp X.call X.T X.G X.fl H (.store ty ad x) (evalL X.keep e l (opds (.store ty ad x))))) := rfl
theorem evG_upd {ops : List Oper} {rest : List Oper} {l : Loc} {ty : TypeId} {m i x : Operand} {t : TypeId} {p : String} {a : Array Edge} {g : Option (Nat × Bool)} :
    evG X ops ⟨none, .mapUpdate ty m i x, t, p, a, g⟩ rest l e H k (some true) =
      evS X ops none rest l e k (doOp X.call X.T X.G X.fl H (.mapUpdate ty m i x) (evalL X.keep e l (opds (.mapUpdate ty m i x)))) := rfl
theorem evG_callN {ops : List Oper} {rest : List Oper} {l : Loc} {c : Call} {t : TypeId} {p : String} {a : Array Edge} {g : Option (Nat × Bool)} :
    evG X ops ⟨none, .call c, t, p, a, g⟩ rest l e H k (some true) = evS X ops none rest l e k (doOp X.call X.T X.G X.fl H (.call c) (evalL X.keep e l (opds (.call c)))) := rfl
theorem evG_false {ops : List Oper} {rest : List Oper} {l : Loc} {d : Option Tmp} {op : Op} {t : TypeId} {p : String} {a : Array Edge} {g : Option (Nat × Bool)} :
    evG X ops ⟨d, op, t, p, a, g⟩ rest l e H k (some false) = evR X ops rest (putL d und l) e H k := rfl
theorem evS_some {ops : List Oper} {d : Tmp} {rest : List Oper} {l : Loc} {v : V} : evS X ops (some d) rest l e k (some (v, H)) = evR X ops rest ((d, v) :: l) e H k := rfl
theorem evS_none {ops : List Oper} {rest : List Oper} {l : Loc} {v : V} : evS X ops none rest l e k (some (v, H)) = evR X ops rest l e H k := rfl
end

/-- a loop is its body, and itself again -/
theorem ev_loop {P : Program} {C : Cfg} {ok : FuncId → Bool} {keep : List Tmp} {fl : Nat} {k : List K} {e : Env} {H : LH} {c : Code} :
    ev (mkR P C ok keep fl) (.code (.loop c) :: k) .nrm e H = ev (mkR P C ok keep fl) (.code c :: .lp c :: k) .nrm e H := by
  simp only [ev, exec]
  show (match Loop P C ok keep fl c e H with | some (x, e, H) => ev (mkR P C ok keep fl) k x e H | none => none) = _
  rw [Loop_eq]
  unfold loopStep
  cases exec (mkR P C ok keep fl) c e H with
  | none => rfl
  | some x =>
    obtain ⟨x, e1, H1⟩ := x
    cases x <;> rfl

theorem Run_body {P : Program} {C : Cfg} {ok : FuncId → Bool} {f : FuncId} {fn : Func} {c : Code} {kp : List Tmp} {m : Mode} (hf : P.funcs[f]? = some fn) (hb : fn.body = some c) (ho : ok f = true)
    (hk : C.keep f = kp) (hm : C.mode f = m) (args : List V) (fl : Nat) (H : LH) :
    Run P C ok f args fl H = leaveX (mkR P C ok kp (floor m fl H)) m H fn.results.toList (ev (mkR P C ok kp (floor m fl H)) [.code c] .nrm (enterE kp args) H) := by
  rw [Run_eq]
  simp only [callStep, hf, hb, ho, if_true, bodyStep, hk, hm]
  congr 1
  simp only [ev]
  cases exec (mk P C (Run P C ok) (Loop P C ok) kp (floor m fl H)) c (enterE kp args) H <;> rfl

/-! ### the heap -/
theorem get_app (H L : LH) (i : Nat) : (H ++ L)[H.length + i]? = L[i]? := by
  rw [List.getElem?_append_right (by omega)]
  congr 1
  omega
theorem cellsAt_app (H L : LH) (i : Nat) : LH.cellsAt (H ++ L) (H.length + i) = LH.cellsAt L i := by
  unfold LH.cellsAt; rw [get_app]
theorem cellsAt_app0 (H L : LH) : LH.cellsAt (H ++ L) H.length = LH.cellsAt L 0 := cellsAt_app H L 0
theorem mapAt_app (H L : LH) (i : Nat) : LH.mapAt (H ++ L) (H.length + i) = LH.mapAt L i := by
  unfold LH.mapAt; rw [get_app]
theorem mapAt_app0 (H L : LH) : LH.mapAt (H ++ L) H.length = LH.mapAt L 0 := mapAt_app H L 0
theorem cellsAt_zero (cs : List V) (L : LH) : LH.cellsAt (.cells cs :: L) 0 = some cs := rfl
theorem cellsAt_succ (b : Blk) (L : LH) (i : Nat) : LH.cellsAt (b :: L) (i + 1) = LH.cellsAt L i := rfl
theorem set_app (H L : LH) (i : Nat) (b : Blk) : (H ++ L).set (H.length + i) b = H ++ L.set i b := by
  simp
theorem set_app0 (H L : LH) (b : Blk) : (H ++ L).set H.length b = H ++ L.set 0 b := by
  simp

end Go.Proofs.YtbjpecknlohicaaDoor.Lg
