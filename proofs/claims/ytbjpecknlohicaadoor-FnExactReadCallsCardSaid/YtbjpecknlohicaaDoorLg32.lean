/- The logical machine: evaluation where a test is not known: with what is done with the end, and tests kept as tests; the equations of evaluation, gathered in one set. No condition. -/
import Derived.Test.YtbjpecknlohicaaDoorLg31
namespace Go.Proofs.YtbjpecknlohicaaDoor.Lg
set_option linter.unusedSimpArgs false
set_option linter.unusedVariables false

abbrev Fin := Option (Ex × Env × LH) → Option (V × LH)
theorem bool_dec' (b : Bool) {i : Decidable (b = true)} : @decide (b = true) i = b := by cases b <;> simp
/-- a value that is there where 'b' -/
def selV (b : Bool) (v : V) : V := match b with | true => v | false => und
/-- by these a congruence always counts as a change: what was evaluated is not gone through again by other ways -/
def dumA : Nat := 0
def dumB : Nat := 0
theorem dum : dumA = dumB := rfl
section
variable (F : Fin) (X : Ctx)
def zEv (k : List K) (x : Ex) (e : Env) (H : LH) : Option (V × LH) := F (ev X k x e H)
def zR (ops rest : List Oper) (l : Loc) (e : Env) (H : LH) (k : List K) : Option (V × LH) := F (evR X ops rest l e H k)
def zS (ops : List Oper) (d : Option Tmp) (rest : List Oper) (l : Loc) (e : Env) (k : List K) (r : Option (V × LH)) : Option (V × LH) := F (evS X ops d rest l e k r)
def zG (ops : List Oper) (o : Oper) (rest : List Oper) (l : Loc) (e : Env) (H : LH) (k : List K) (g : Option Bool) : Option (V × LH) := F (evG X ops o rest l e H k g)
def zB (a b : Code) (k : List K) (e : Env) (H : LH) (v : Option V) : Option (V × LH) := F (evB X a b k e H v)
/-- an operation under a guard 'b', whose result is 'r' -/
def zP (ops : List Oper) (d : Tmp) (rest : List Oper) (l : Loc) (e : Env) (H : LH) (k : List K) (b : Bool) (r : Option (V × LH)) : Option (V × LH) :=
  match b with
  | true => zS F X ops (some d) rest l e k r
  | false => zR F X ops rest ((d, und) :: l) e H k
/-- likewise, of an operation without a result -/
def zE (ops : List Oper) (rest : List Oper) (l : Loc) (e : Env) (H : LH) (k : List K) (b : Bool) (r : Option (V × LH)) : Option (V × LH) :=
  match b with
  | true => zS F X ops none rest l e k r
  | false => zR F X ops rest l e H k
end
section
variable {F : Fin} {X : Ctx} {k : List K} {e : Env} {H : LH}
theorem zEv_nil {x : Ex} : zEv F X [] x e H = F (some (x, e, H)) := rfl
theorem zEv_skip : zEv F X (.code .skip :: k) .nrm e H = zEv F X k .nrm e H := rfl
theorem zEv_label {l : Nat} : zEv F X (.code (.label l) :: k) .nrm e H = zEv F X k .nrm e H := rfl
theorem zEv_seq {a b : Code} : zEv F X (.code (.seq a b) :: k) .nrm e H = zEv F X (.code a :: .code b :: k) .nrm e H := congrArg F ev_seq
theorem zEv_region {id : Nat} {ops : List Oper} {d : Bool} : zEv F X (.code (.region id ⟨ops⟩ d) :: k) .nrm e H = zR F X ops ops [] e H k := congrArg F ev_region
theorem zEv_cond {c : Operand} {a b : Code} : zEv F X (.code (.cond c a b) :: k) .nrm e H = zB F X a b k e H (evalO X.keep e [] c) := congrArg F ev_cond
theorem zEv_block {id : Nat} {c : Code} : zEv F X (.code (.block id c) :: k) .nrm e H = zEv F X (.code c :: .blk id :: k) .nrm e H := congrArg F ev_block
theorem zEv_exit {id : Nat} : zEv F X (.code (.exit id) :: k) .nrm e H = zEv F X k (.exit id) e H := rfl
theorem zEv_ret : zEv F X (.code .ret :: k) .nrm e H = zEv F X k .ret e H := rfl
theorem zEv_pass {c : Code} {j : Nat} : zEv F X (.code c :: k) (.exit j) e H = zEv F X k (.exit j) e H := rfl
theorem zEv_passR {c : Code} : zEv F X (.code c :: k) .ret e H = zEv F X k .ret e H := rfl
theorem zEv_blk {id : Nat} : zEv F X (.blk id :: k) .nrm e H = zEv F X k .nrm e H := rfl
theorem zEv_blkR {id : Nat} : zEv F X (.blk id :: k) .ret e H = zEv F X k .ret e H := rfl
theorem zEv_blkX {id j : Nat} : zEv F X (.blk id :: k) (.exit j) e H = if j = id then zEv F X k .nrm e H else zEv F X k (.exit j) e H := by
  unfold zEv; rw [ev_blkX]; split <;> rfl
theorem zEv_lpR {c : Code} : zEv F X (.lp c :: k) .ret e H = zEv F X k .ret e H := rfl
theorem zEv_lpX {c : Code} {j : Nat} : zEv F X (.lp c :: k) (.exit j) e H = zEv F X k (.exit j) e H := rfl
theorem zEv_lp {c : Code} : zEv F X (.lp c :: k) .nrm e H = zEv F X (.code (.loop c) :: k) .nrm e H := rfl
theorem zR_nil {ops : List Oper} {l : Loc} : zR F X ops [] l e H k = zEv F X k .nrm (keepE X.keep e l) H := rfl
theorem zR_cons {ops : List Oper} {o : Oper} {rest : List Oper} {l : Loc} : zR F X ops (o :: rest) l e H k = zG F X ops o rest l e H k (wantV X ops e l o.guard) := congrArg F evR_cons
theorem zS_some {ops : List Oper} {d : Tmp} {rest : List Oper} {l : Loc} {v : V} : zS F X ops (some d) rest l e k (some (v, H)) = zR F X ops rest ((d, v) :: l) e H k := rfl
theorem zS_none {ops : List Oper} {rest : List Oper} {l : Loc} {v : V} : zS F X ops none rest l e k (some (v, H)) = zR F X ops rest l e H k := rfl
theorem zG_op {ops : List Oper} {rest : List Oper} {l : Loc} {d : Tmp} {op : Op} {t : TypeId} {p : String} {a : Array Edge} {g : Option (Nat × Bool)} {b : Bool} :
    zG F X ops ⟨some d, op, t, p, a, g⟩ rest l e H k (some b) = zP F X ops d rest l e H k b (doOp X.call X.T X.G X.fl H op (evalL X.keep e l (opds op))) := by cases b <;> rfl
theorem zG_st {ops : List Oper} {rest : List Oper} {l : Loc} {ty : TypeId} {ad x : Operand} {t : TypeId} {p : String} {a : Array Edge} {g : Option (Nat × Bool)} {b : Bool} :
    zG F X ops ⟨none, .store ty ad x, t, p, a, g⟩ rest l e H k (some b) =
      zE F X ops rest l e H k b (grd (fltE X.keep ops e l ad a.toList = true) (doOp X.call X.T X.G X.fl H (.store ty ad x) (evalL X.keep e l (opds (.store ty ad x))))) := by cases b <;> rfl
theorem zG_up {ops : List Oper} {rest : List Oper} {l : Loc} {ty : TypeId} {m i x : Operand} {t : TypeId} {p : String} {a : Array Edge} {g : Option (Nat × Bool)} {b : Bool} :
    zG F X ops ⟨none, .mapUpdate ty m i x, t, p, a, g⟩ rest l e H k (some b) =
      zE F X ops rest l e H k b (doOp X.call X.T X.G X.fl H (.mapUpdate ty m i x) (evalL X.keep e l (opds (.mapUpdate ty m i x)))) := by cases b <;> rfl
theorem zG_cl {ops : List Oper} {rest : List Oper} {l : Loc} {c : Call} {t : TypeId} {p : String} {a : Array Edge} {g : Option (Nat × Bool)} {b : Bool} :
    zG F X ops ⟨none, .call c, t, p, a, g⟩ rest l e H k (some b) = zE F X ops rest l e H k b (doOp X.call X.T X.G X.fl H (.call c) (evalL X.keep e l (opds (.call c)))) := by cases b <;> rfl
theorem zB_bool {a b : Code} {t : Bool} : zB F X a b k e H (some (.bool t)) = if t = true then zEv F X (.code a :: k) .nrm e H else zEv F X (.code b :: k) .nrm e H := by
  cases t <;> rfl
theorem zP_true {ops : List Oper} {rest : List Oper} {l : Loc} {d : Tmp} {r : Option (V × LH)} : zP F X ops d rest l e H k true r = zS F X ops (some d) rest l e k r := rfl
theorem zP_false {ops : List Oper} {rest : List Oper} {l : Loc} {d : Tmp} {r : Option (V × LH)} : zP F X ops d rest l e H k false r = zR F X ops rest ((d, und) :: l) e H k := rfl
theorem zP_same {ops : List Oper} {rest : List Oper} {l : Loc} {d : Tmp} {b : Bool} {v : V} : zP F X ops d rest l e H k b (some (v, H)) = zR F X ops rest ((d, selV b v) :: l) e H k := by cases b <;> rfl
theorem zP_sym {ops : List Oper} {rest : List Oper} {l : Loc} {d : Tmp} {b : Bool} {v : V} {H' : LH} : zP F X ops d rest l e H k b (some (v, H')) = if b = true then zR F X ops rest ((d, v) :: l) e H' k else zR F X ops rest ((d, und) :: l) e H k := by cases b <;> rfl
theorem zE_true {ops : List Oper} {rest : List Oper} {l : Loc} {r : Option (V × LH)} : zE F X ops rest l e H k true r = zS F X ops none rest l e k r := rfl
theorem zE_false {ops : List Oper} {rest : List Oper} {l : Loc} {r : Option (V × LH)} : zE F X ops rest l e H k false r = zR F X ops rest l e H k := rfl
theorem zE_sym {ops : List Oper} {rest : List Oper} {l : Loc} {b : Bool} {v : V} {H' : LH} : zE F X ops rest l e H k b (some (v, H')) = if b = true then zR F X ops rest l e H' k else zR F X ops rest l e H k := by cases b <;> rfl
theorem zP_dT {ops : List Oper} {rest : List Oper} {l : Loc} {d : Tmp} {r : Option (V × LH)} {i : Decidable True} : zP F X ops d rest l e H k (@decide True i) r = zS F X ops (some d) rest l e k r := by rw [decide_true]; rfl
theorem zP_dF {ops : List Oper} {rest : List Oper} {l : Loc} {d : Tmp} {r : Option (V × LH)} {i : Decidable False} : zP F X ops d rest l e H k (@decide False i) r = zR F X ops rest ((d, und) :: l) e H k := by rw [decide_false]; rfl
theorem zE_dT {ops : List Oper} {rest : List Oper} {l : Loc} {r : Option (V × LH)} {i : Decidable True} : zE F X ops rest l e H k (@decide True i) r = zS F X ops none rest l e k r := by rw [decide_true]; rfl
theorem zE_dF {ops : List Oper} {rest : List Oper} {l : Loc} {r : Option (V × LH)} {i : Decidable False} : zE F X ops rest l e H k (@decide False i) r = zR F X ops rest l e H k := by rw [decide_false]; rfl
theorem zB_sel {a b : Code} {s t : Bool} {h : s = true} : zB F X a b k e H (some (selV s (.bool t))) = zB F X a b k e H (some (.bool t)) := by
  subst h; rfl
theorem zEv_cg {F' : Fin} {X' : Ctx} {e' : Env} {H' : LH} {x : Ex} {d' : Nat} (h0 : dumA = d') (h1 : F = F') (h2 : X = X') (h3 : e = e') (h4 : H = H') : zEv F X k x e H = zEv F' X' k x e' H' := by
  subst h1; subst h2; subst h3; subst h4; rfl
theorem zR_cg {F' : Fin} {X' : Ctx} {e' : Env} {H' : LH} {ops rest : List Oper} {l : Loc} {d' : Nat} (h0 : dumA = d') (h1 : F = F') (h2 : X = X') (h3 : e = e') (h4 : H = H') : zR F X ops rest l e H k = zR F' X' ops rest l e' H' k := by
  subst h1; subst h2; subst h3; subst h4; rfl
theorem zS_cg {ops : List Oper} {d : Option Tmp} {rest : List Oper} {l : Loc} {r r' : Option (V × LH)} {d' : Nat} (h0 : dumA = d') (h : r = r') : zS F X ops d rest l e k r = zS F X ops d rest l e k r' := by rw [h]
theorem zG_cg {ops : List Oper} {o : Oper} {rest : List Oper} {l : Loc} {g g' : Option Bool} {d' : Nat} (h0 : dumA = d') (h : g = g') : zG F X ops o rest l e H k g = zG F X ops o rest l e H k g' := by rw [h]
theorem zB_cg {a b : Code} {v v' : Option V} {d' : Nat} (h0 : dumA = d') (h : v = v') : zB F X a b k e H v = zB F X a b k e H v' := by rw [h]
theorem zP_cg {ops : List Oper} {d : Tmp} {rest : List Oper} {l : Loc} {b : Bool} {c : Prop} [Decidable c] {r r' : Option (V × LH)} {d' : Nat} (h0 : dumA = d') (h : (b = true) = c) (h2 : c → r = r') : zP F X ops d rest l e H k b r = zP F X ops d rest l e H k (decide c) r' := by
  subst h
  rw [bool_dec']
  cases b with
  | true => rw [h2 rfl]
  | false => rfl
theorem zE_cg {ops : List Oper} {rest : List Oper} {l : Loc} {b : Bool} {c : Prop} [Decidable c] {r r' : Option (V × LH)} {d' : Nat} (h0 : dumA = d') (h : (b = true) = c) (h2 : c → r = r') : zE F X ops rest l e H k b r = zE F X ops rest l e H k (decide c) r' := by
  subst h
  rw [bool_dec']
  cases b with
  | true => rw [h2 rfl]
  | false => rfl
end
/-- a loop is its body, and itself again -/
theorem zEv_loop {F : Fin} {P : Program} {C : Cfg} {ok : FuncId → Bool} {keep : List Tmp} {fl : Nat} {k : List K} {e : Env} {H : LH} {c : Code} :
    zEv F (mkR P C ok keep fl) (.code (.loop c) :: k) .nrm e H = zEv F (mkR P C ok keep fl) (.code c :: .lp c :: k) .nrm e H := congrArg F ev_loop
/-- a call is its body -/
theorem Run_z {P : Program} {C : Cfg} {ok : FuncId → Bool} {f : FuncId} {fn : Func} {c : Code} {kp : List Tmp} {m : Mode} (hf : P.funcs[f]? = some fn) (hb : fn.body = some c) (ho : ok f = true)
    (hk : C.keep f = kp) (hm : C.mode f = m) (args : List V) (fl : Nat) (H : LH) :
    Run P C ok f args fl H = zEv (leaveX (mkR P C ok kp (floor m fl H)) m H fn.results.toList) (mkR P C ok kp (floor m fl H)) [.code c] .nrm (enterE kp args) H := Run_body hf hb ho hk hm args fl H

theorem dstOf_cg {ops : List Oper} {j : Nat} : dstOf ops j = dstOf ops j := rfl
theorem dstOf_zero {o : Oper} {ops : List Oper} : dstOf (o :: ops) 0 = o.dst := rfl
theorem dstOf_succ {o : Oper} {ops : List Oper} {j : Nat} : dstOf (o :: ops) (j + 1) = dstOf ops j := rfl
theorem selV_true {v : V} : selV true v = v := rfl
theorem selV_false {v : V} : selV false v = und := rfl
theorem selV_selV {a b : Bool} {v : V} : selV a (selV b v) = selV (a && b) v := by cases a <;> cases b <;> rfl
theorem selV_cg {a : Bool} {c : Prop} [Decidable c] {v w : V} {d' : Nat} (h0 : dumA = d') (h : (a = true) = c) (h2 : c → v = w) : selV a v = selV (decide c) w := by
  subst h
  rw [bool_dec']
  cases a with
  | true => rw [h2 rfl]
  | false => rfl
theorem selV_dT {i : Decidable True} {v : V} : selV (@decide True i) v = v := by rw [decide_true]; rfl
theorem selV_dF {i : Decidable False} {v : V} : selV (@decide False i) v = und := by rw [decide_false]; rfl
theorem dec_and {p q : Prop} [Decidable p] [Decidable q] : (decide p && decide q) = decide (p ∧ q) := by by_cases h : p <;> by_cases h2 : q <;> simp [h, h2]
theorem dec_or {p q : Prop} [Decidable p] [Decidable q] : (decide p || decide q) = decide (p ∨ q) := by by_cases h : p <;> by_cases h2 : q <;> simp [h, h2]
theorem dec_not {p : Prop} [Decidable p] : (!decide p) = decide (¬ p) := by by_cases h : p <;> simp [h]
theorem wantO_boolT {b : Bool} : wantO true (some (.bool b)) = some b := by cases b <;> rfl
theorem wantO_boolF {b : Bool} : wantO false (some (.bool b)) = some (!b) := by cases b <;> rfl
theorem wantO_und {w : Bool} : wantO w (some (.tup [])) = some false := rfl
theorem wantO_selT {s b : Bool} : wantO true (some (selV s (.bool b))) = some (s && b) := by cases s <;> cases b <;> rfl
theorem wantO_selF {s b : Bool} : wantO false (some (selV s (.bool b))) = some (s && !b) := by cases s <;> cases b <;> rfl
theorem pickV_bool {H : LH} {t : Bool} {x y : V} : pickV H (.bool t) x y = some (if t = true then x else y, H) := by cases t <;> rfl
theorem ite_bool {c : Prop} [Decidable c] {x y : Bool} : (if c then V.bool x else V.bool y) = V.bool (if c then x else y) := by split <;> rfl
theorem ite_int {c : Prop} [Decidable c] {k : IntKind} {x y : Int} : (if c then V.int k x else V.int k y) = V.int k (if c then x else y) := by split <;> rfl
theorem ite_str {c : Prop} [Decidable c] {x y : ByteArray} : (if c then V.str x else V.str y) = V.str (if c then x else y) := by split <;> rfl
theorem bool_and {c : Prop} [Decidable c] {x : Bool} : (if c then x else false) = (decide c && x) := by by_cases h : c <;> simp [h]
theorem bool_or {c : Prop} [Decidable c] {x : Bool} : (if c then true else x) = (decide c || x) := by by_cases h : c <;> simp [h]
theorem ite_TF {c : Prop} [Decidable c] : (if c then true else false) = decide c := by by_cases h : c <;> simp [h]
theorem ite_FT {c : Prop} [Decidable c] : (if c then false else true) = !decide c := by by_cases h : c <;> simp [h]
theorem bool_and_eq {a b : Bool} : ((a && b) = true) = (a = true ∧ b = true) := by simp
theorem bool_or_eq {a b : Bool} : ((a || b) = true) = (a = true ∨ b = true) := by simp
attribute [go_sem] dum mk_T mk_G mk_call mk_loop mk_keep mk_fl wantV evalL evalO lookL lookE opds doOp doCall doBi allV ptrV zeroO isTup_bool cells_bool isTup_int cells_int isTup_str cells_str isTup_ptr cells_ptr isTup_gptr cells_gptr isTup_nilp cells_nilp isTup_sl cells_sl isTup_nilsl cells_nilsl isTup_emp cells_emp isTup_map cells_map isTup_nilmap cells_nilmap isTup_fn cells_fn isTup_nilfn cells_nilfn isTup_agg cells_agg lenV_str lenV_sl lenV_nilsl lenV_emp lenV_nilmap lenV_map lenOk_str lenOk_sl lenOk_nilsl lenOk_emp lenOk_map lenOk_nilmap slCells_sl slCells_nilsl slCells_emp slCells_str srcOk_sl srcOk_str srcOk_nilsl srcOk_emp withH fieldA fieldV partV placeS places loadO storeT storeO putAt fltE flt1 apartV binV binS binI cmpI eqS unV ptrOk ofValue scal scals enterE keepE findL putL numO indexV elemI sizeO hiV boundV cutS cutL cutN convV buildV buildS buildL rowO zeros List.replicate_succ List.replicate_zero List.flatten_cons List.flatten_nil optCut cut bytesO strO toBytes IntWalk.i64_in IntWalk.u8_in aggO fillV extrV fnO mapO makeV appV isIntT TK.isAgg leaveX_nrm leaveX_ret leave_pure leave_fresh leave_any resV valO oneV floor_pure floor_fresh floor_any3 V.noAddr V.noAddrs grd_true grd_pos' size_lit ByteArray.size_append cellsAt_app cellsAt_app0 cellsAt_zero cellsAt_succ mapAt_app mapAt_app0 set_app set_app0 set0 setS List.getElem?_cons_zero List.getElem?_cons_succ List.getElem?_nil List.map_cons List.map_nil List.length_cons List.length_nil List.length_append List.length_set Nat.le_add_right Nat.le_refl List.drop_zero List.drop_succ_cons List.take_succ_cons List.take_zero List.zip_cons_cons List.zip_nil_left List.append_nil List.nil_append List.cons_append List.append_assoc Option.toList_some Option.toList_none Nat.zero_add Nat.add_zero Nat.zero_mul Nat.one_mul Nat.mul_one decide_true decide_false Bool.not_true Bool.not_false Bool.true_beq Bool.false_beq Bool.and_true Bool.true_and Bool.and_false Bool.false_and and_true true_and and_self decide_eq_true_eq Bool.not_eq_true' decide_eq_false_iff_not Int.toNat_natCast mostC zG_op zP_same zG_st zG_up zG_cl zB_bool zS_some zS_none zP_dT zP_dF zE_dT zE_dF zE_sym selV_selV selV_dT selV_dF dstOf_zero dstOf_succ wantO_boolT wantO_boolF wantO_und wantO_selT wantO_selF pickV_bool ite_bool ite_int ite_str bool_and bool_or ite_TF ite_FT bool_and_eq bool_or_eq Bool.and_self Bool.or_self dec_and dec_or dec_not and_assoc not_true_eq_false not_false_eq_true false_and and_false true_or or_true false_or or_false Classical.not_not
attribute [go_sem ↓] zEv_nil zEv_skip zEv_label zEv_seq zEv_region zEv_cond zEv_block zEv_exit zEv_ret zEv_pass zEv_passR zEv_blk zEv_blkR zEv_blkX zEv_lpR zEv_lpX zEv_lp zR_nil zR_cons zP_true zP_false zE_true zE_false selV_true selV_false
attribute [go_sem low] zP_sym
attribute [congr] zEv_cg zR_cg zS_cg zG_cg zB_cg zP_cg zE_cg selV_cg
end Go.Proofs.YtbjpecknlohicaaDoor.Lg
