/- The logical machine: the least fixed point of calls and loops, and the equations by which code is evaluated. No condition. -/
import Derived.Test.YtbjpecknlohicaaDoorLg1
namespace Go.Proofs.YtbjpecknlohicaaDoor.Lg
set_option linter.unusedSimpArgs false
set_option linter.unusedVariables false

abbrev CallF := FuncId → List V → Nat → LH → Option (V × LH)
abbrev LoopF := List Tmp → Nat → Code → Env → LH → Option (Ex × Env × LH)

def mk (P : Program) (C : Cfg) (call : CallF) (loop : LoopF) (keep : List Tmp) (fl : Nat) : Ctx := ⟨ty P, C.glob, call, loop, keep, fl⟩

/-- library functions without a body, by name: given by a table beside -/
def idxB (s : ByteArray) (c : UInt8) : Int := match (List.range s.size).find? fun i => s[i]! == c with
  | some i => (i : Int)
  | none => -1
def cntB (s : ByteArray) (c : UInt8) : Int := s.foldl (fun (n : Int) x => if x == c then n + 1 else n) ((0 : Nat) : Int)
def idxA (args : List V) (H : LH) : Option (V × LH) :=
  match args with
  | [.str s, .int .u8 c] => some (.int .i64 (idxB s (UInt8.ofNat c.toNat)), H)
  | _ => none
def cntA (args : List V) (H : LH) : Option (V × LH) :=
  match args with
  | [.str s, .int .u8 c] => some (.int .i64 (cntB s (UInt8.ofNat c.toNat)), H)
  | _ => none
def ext (P : Program) (fn : Func) (args : List V) (H : LH) : Option (V × LH) :=
  if fn.name = "internal/bytealg.IndexByteString" ∧ fn.origin = "" then idxA args H
  else if fn.name = "internal/bytealg.CountString" ∧ fn.origin = "" then cntA args H else none
theorem ext_same {P : Program} {fn : Func} {args : List V} {H H' : LH} {v : V} (h : ext P fn args H = some (v, H')) : H' = H ∧ ∃ n, v = .int .i64 n := by
  unfold ext at h
  split at h
  · unfold idxA at h
    split at h
    · injection h with h; injection h with h1 h2; exact ⟨h2.symm, _, h1.symm⟩
    · cases h
  · split at h
    · unfold cntA at h
      split at h
      · injection h with h; injection h with h1 h2; exact ⟨h2.symm, _, h1.symm⟩
      · cases h
    · cases h

def bodyStep (P : Program) (C : Cfg) (call : CallF) (loop : LoopF) (K : FuncId) (args : List V) (fl : Nat) (H : LH) (rs : List ResultVar) (c : Code) : Option (V × LH) :=
  leaveX (mk P C call loop (C.keep K) (floor (C.mode K) fl H)) (C.mode K) H rs
    (exec (mk P C call loop (C.keep K) (floor (C.mode K) fl H)) c (enterE (C.keep K) args) H)
def callStep (P : Program) (C : Cfg) (ok : FuncId → Bool) (call : CallF) (loop : LoopF) (K : FuncId) (args : List V) (fl : Nat) (H : LH) : Option (V × LH) :=
  match P.funcs[K]? with
  | some fn => match fn.body with
    | some c => if ok K = true then bodyStep P C call loop K args fl H fn.results.toList c else none
    | none => ext P fn args H
  | none => none
def loopStep (P : Program) (C : Cfg) (call : CallF) (loop : LoopF) (keep : List Tmp) (fl : Nat) (c : Code) (e : Env) (H : LH) : Option (Ex × Env × LH) :=
  match exec (mk P C call loop keep fl) c e H with
  | some (.nrm, e, H) => loop keep fl c e H
  | r => r

section
variable (P : Program) (C : Cfg) (ok : FuncId → Bool)
def runN : Nat → CallF × LoopF
  | 0 => (fun _ _ _ _ => none, fun _ _ _ _ _ => none)
  | n + 1 => (callStep P C ok (runN n).1 (runN n).2, loopStep P C (runN n).1 (runN n).2)

def leC (f g : CallF) : Prop := ∀ K a fl H r, f K a fl H = some r → g K a fl H = some r
def leL (f g : LoopF) : Prop := ∀ k fl c e H r, f k fl c e H = some r → g k fl c e H = some r

variable {P C ok}
theorem doOp_mono {f g : CallF} (h : leC f g) {T G fl H o vs r} (e : doOp f T G fl H o vs = some r) : doOp g T G fl H o vs = some r := by
  unfold doOp at e ⊢
  split at e <;> try exact e
  unfold doCall at e ⊢
  split at e <;> try exact e
  unfold callV at e ⊢
  split at e
  · exact h _ _ _ _ _ e
  · exact e

theorem stepO_do {X : Ctx} {ops : List Oper} {e : Env} {l : Loc} {H : LH} {o : Oper} {r : V × LH} (h : stepO X ops e l H o = some r) :
    doOp X.call X.T X.G X.fl H o.op (evalL X.keep e l (opds o.op)) = some r ∧ (o.dst = none → fltC X.keep ops e l o.op o.after = true) := by
  unfold stepO at h
  split at h
  · rename_i hd; exact ⟨h, fun e => by rw [hd] at e; cases e⟩
  · unfold grd at h
    split at h
    · exact ⟨h, fun _ => ‹_›⟩
    · cases h
theorem stepO_of {X : Ctx} {ops : List Oper} {e : Env} {l : Loc} {H : LH} {o : Oper} {r : V × LH} (h : doOp X.call X.T X.G X.fl H o.op (evalL X.keep e l (opds o.op)) = some r)
    (k : o.dst = none → fltC X.keep ops e l o.op o.after = true) : stepO X ops e l H o = some r := by
  unfold stepO
  split
  · exact h
  · rename_i hd; unfold grd; rw [if_pos (k hd)]; exact h

theorem opsV_mono {f g : CallF} {l m : LoopF} (h : leC f g) {keep fl ops env} : ∀ {rest loc H r}, opsV (mk P C f l keep fl) ops env rest loc H = some r → opsV (mk P C g m keep fl) ops env rest loc H = some r := by
  intro rest
  induction rest with
  | nil => intro loc H r e; exact e
  | cons o rest ih =>
    intro loc H r e
    simp only [opsV] at e ⊢
    have hw : wantV (mk P C g m keep fl) ops env loc o.guard = wantV (mk P C f l keep fl) ops env loc o.guard := by
      cases o.guard <;> rfl
    rw [hw]
    split at e
    · split at e
      · rename_i hs
        obtain ⟨h1, h2⟩ := stepO_do hs
        have := stepO_of (X := mk P C g m keep fl) (ops := ops) (doOp_mono h h1) h2
        rw [this]
        exact ih e
      · cases e
    · exact ih e
    · cases e

theorem exec_mono {f g : CallF} {l m : LoopF} (h : leC f g) (h' : leL l m) {keep fl} : ∀ {c e H r}, exec (mk P C f l keep fl) c e H = some r → exec (mk P C g m keep fl) c e H = some r := by
  intro c
  induction c with
  | region id ops d =>
    intro e H r he
    simp only [exec] at he ⊢
    split at he
    · rename_i hs; rw [opsV_mono h hs]; exact he
    · cases he
  | seq a b iha ihb =>
    intro e H r he
    simp only [exec] at he ⊢
    cases ha : exec (mk P C f l keep fl) a e H with
    | none => rw [ha] at he; cases he
    | some x =>
      rw [ha] at he
      rw [iha ha]
      obtain ⟨x, e1, H1⟩ := x
      cases x <;> first | exact ihb he | exact he
  | cond o a b iha ihb =>
    intro e H r he
    simp only [exec] at he ⊢
    have : evalO (mk P C g m keep fl).keep e [] o = evalO (mk P C f l keep fl).keep e [] o := rfl
    rw [this]
    split at he
    · exact iha he
    · exact ihb he
    · cases he
  | block id c ih =>
    intro e H r he
    simp only [exec] at he ⊢
    cases ha : exec (mk P C f l keep fl) c e H with
    | none => rw [ha] at he; cases he
    | some x => rw [ha] at he; rw [ih ha]; exact he
  | loop c ih => intro e H r he; exact h' _ _ _ _ _ _ he
  | skip => intro e H r he; exact he
  | label => intro e H r he; exact he
  | exit => intro e H r he; exact he
  | ret => intro e H r he; exact he
  | _ => intro e H r he; cases he

theorem leave_same {f g : CallF} {l m : LoopF} {keep fl md H rs x} : leaveX (mk P C f l keep fl) md H rs x = leaveX (mk P C g m keep fl) md H rs x := by
  have hr : ∀ env H, resV (mk P C f l keep fl) env H rs = resV (mk P C g m keep fl) env H rs := by
    intro env H
    induction rs with
    | nil => rfl
    | cons r rs ih => cases r <;> simp only [resV, ih] <;> rfl
  unfold leaveX
  split <;> first | rfl | simp only [hr]

theorem callStep_mono {f g : CallF} {l m : LoopF} (h : leC f g) (h' : leL l m) : leC (callStep P C ok f l) (callStep P C ok g m) := by
  intro K a fl H r e
  unfold callStep at e ⊢
  split at e
  · split at e
    · split at e
      · rename_i hok
        rw [if_pos hok]
        unfold bodyStep at e ⊢
        cases hx : exec (mk P C f l (C.keep K) (floor (C.mode K) fl H)) ‹Code› (enterE (C.keep K) a) H with
        | none => rw [hx] at e; cases e
        | some x => rw [hx] at e; rw [exec_mono h h' hx]; rw [← e]; exact leave_same
      · cases e
    · exact e
  · cases e
theorem loopStep_mono {f g : CallF} {l m : LoopF} (h : leC f g) (h' : leL l m) : leL (loopStep P C f l) (loopStep P C g m) := by
  intro k fl c e H r he
  unfold loopStep at he ⊢
  cases hx : exec (mk P C f l k fl) c e H with
  | none => rw [hx] at he; cases he
  | some x =>
    rw [hx] at he
    rw [exec_mono h h' hx]
    obtain ⟨x, e1, H1⟩ := x
    cases x <;> first | exact h' _ _ _ _ _ _ he | exact he

theorem runN_succ (n : Nat) : leC (runN P C ok n).1 (runN P C ok (n + 1)).1 ∧ leL (runN P C ok n).2 (runN P C ok (n + 1)).2 := by
  induction n with
  | zero => exact ⟨fun _ _ _ _ _ h => (by cases h), fun _ _ _ _ _ _ h => (by cases h)⟩
  | succ n ih => exact ⟨callStep_mono ih.1 ih.2, loopStep_mono ih.1 ih.2⟩
theorem runN_le {n m : Nat} (h : n ≤ m) : leC (runN P C ok n).1 (runN P C ok m).1 ∧ leL (runN P C ok n).2 (runN P C ok m).2 := by
  induction h with
  | refl => exact ⟨fun _ _ _ _ _ h => h, fun _ _ _ _ _ _ h => h⟩
  | step _ ih => exact ⟨fun _ _ _ _ _ h => (runN_succ _).1 _ _ _ _ _ (ih.1 _ _ _ _ _ h), fun _ _ _ _ _ _ h => (runN_succ _).2 _ _ _ _ _ _ (ih.2 _ _ _ _ _ _ h)⟩

variable (P C ok)
open Classical in
noncomputable def Run : CallF := fun K a fl H => if h : ∃ r, ∃ n, (runN P C ok n).1 K a fl H = some r then some h.choose else none
open Classical in
noncomputable def Loop : LoopF := fun k fl c e H => if h : ∃ r, ∃ n, (runN P C ok n).2 k fl c e H = some r then some h.choose else none
variable {P C ok}

theorem Run_of {K a fl H r} : Run P C ok K a fl H = some r ↔ ∃ n, (runN P C ok n).1 K a fl H = some r := by
  unfold Run
  split
  · rename_i h
    obtain ⟨n, hn⟩ := h.choose_spec
    constructor
    · intro e; injection e with e; exact ⟨n, by rw [← e]; exact hn⟩
    · rintro ⟨m, hm⟩
      have h1 := (runN_le (Nat.le_max_left n m)).1 _ _ _ _ _ hn
      have h2 := (runN_le (Nat.le_max_right n m)).1 _ _ _ _ _ hm
      rw [h1] at h2; exact h2
  · rename_i h
    exact ⟨fun e => (by cases e), fun ⟨n, hn⟩ => (h ⟨r, n, hn⟩).elim⟩
theorem Loop_of {k fl c e H r} : Loop P C ok k fl c e H = some r ↔ ∃ n, (runN P C ok n).2 k fl c e H = some r := by
  unfold Loop
  split
  · rename_i h
    obtain ⟨n, hn⟩ := h.choose_spec
    constructor
    · intro e; injection e with e; exact ⟨n, by rw [← e]; exact hn⟩
    · rintro ⟨m, hm⟩
      have h1 := (runN_le (Nat.le_max_left n m)).2 _ _ _ _ _ _ hn
      have h2 := (runN_le (Nat.le_max_right n m)).2 _ _ _ _ _ _ hm
      rw [h1] at h2; exact h2
  · rename_i h
    exact ⟨fun e => (by cases e), fun ⟨n, hn⟩ => (h ⟨r, n, hn⟩).elim⟩

theorem run_le (n : Nat) : leC (runN P C ok n).1 (Run P C ok) ∧ leL (runN P C ok n).2 (Loop P C ok) :=
  ⟨fun _ _ _ _ _ h => Run_of.2 ⟨n, h⟩, fun _ _ _ _ _ _ h => Loop_of.2 ⟨n, h⟩⟩

abbrev mkN (P : Program) (C : Cfg) (ok : FuncId → Bool) (n : Nat) := mk P C (runN P C ok n).1 (runN P C ok n).2
noncomputable abbrev mkR (P : Program) (C : Cfg) (ok : FuncId → Bool) := mk P C (Run P C ok) (Loop P C ok)

theorem callV_cont {fl H f vs r} (e : callV (Run P C ok) fl H f vs = some r) : ∃ n, callV (runN P C ok n).1 fl H f vs = some r := by
  cases f with
  | fn k caps =>
    cases vs with
    | none => cases e
    | some vs => exact Run_of.1 e
  | _ => cases e
theorem doCall_cont {T fl H c vs r} (e : doCall (Run P C ok) T fl H c vs = some r) : ∃ n, doCall (runN P C ok n).1 T fl H c vs = some r := by
  unfold doCall at e
  split at e
  · exact ⟨0, by simp only [doCall, *]⟩
  · obtain ⟨n, hn⟩ := callV_cont e
    exact ⟨n, by simp only [doCall, *]⟩
  · cases e
theorem doOp_cont {T G fl H o vs r} (e : doOp (Run P C ok) T G fl H o vs = some r) : ∃ n, doOp (runN P C ok n).1 T G fl H o vs = some r := by
  unfold doOp at e
  split at e
  all_goals first | exact ⟨0, e⟩ | exact doCall_cont e | cases e

theorem opsV_cont {keep fl ops env} : ∀ {rest loc H r}, opsV (mkR P C ok keep fl) ops env rest loc H = some r → ∃ n, opsV (mkN P C ok n keep fl) ops env rest loc H = some r := by
  intro rest
  induction rest with
  | nil => intro loc H r e; exact ⟨0, e⟩
  | cons o rest ih =>
    intro loc H r e
    simp only [opsV] at e
    have hw : ∀ n, wantV (mkN P C ok n keep fl) ops env loc o.guard = wantV (mkR P C ok keep fl) ops env loc o.guard := by
      intro n; cases o.guard <;> rfl
    split at e
    · rename_i hwant
      split at e
      · rename_i v H1 hs
        obtain ⟨hs1, hs2⟩ := stepO_do hs
        obtain ⟨n, hn⟩ := doOp_cont hs1
        obtain ⟨m, hm⟩ := ih e
        refine ⟨max n m, ?_⟩
        simp only [opsV, hw, hwant]
        have h1 : stepO (mkN P C ok (max n m) keep fl) ops env loc H o = some (v, H1) := stepO_of (doOp_mono (runN_le (Nat.le_max_left n m)).1 hn) hs2
        rw [h1]
        exact opsV_mono (runN_le (Nat.le_max_right n m)).1 hm
      · cases e
    · rename_i hwant
      obtain ⟨m, hm⟩ := ih e
      exact ⟨m, by simp only [opsV, hw, hwant]; exact hm⟩
    · cases e

theorem exec_cont {keep fl} : ∀ {c e H r}, exec (mkR P C ok keep fl) c e H = some r → ∃ n, exec (mkN P C ok n keep fl) c e H = some r := by
  intro c
  induction c with
  | region id ops d =>
    intro e H r he
    simp only [exec] at he
    split at he
    · rename_i hs
      obtain ⟨n, hn⟩ := opsV_cont hs
      exact ⟨n, by simp only [exec, hn]; exact he⟩
    · cases he
  | seq a b iha ihb =>
    intro e H r he
    simp only [exec] at he
    cases ha : exec (mkR P C ok keep fl) a e H with
    | none => rw [ha] at he; cases he
    | some x =>
      obtain ⟨n, hn⟩ := iha ha
      rw [ha] at he
      obtain ⟨x, e1, H1⟩ := x
      cases x
      case nrm =>
        obtain ⟨m, hm⟩ := ihb he
        refine ⟨max n m, ?_⟩
        simp only [exec]
        rw [exec_mono (runN_le (Nat.le_max_left n m)).1 (runN_le (Nat.le_max_left n m)).2 hn]
        exact exec_mono (runN_le (Nat.le_max_right n m)).1 (runN_le (Nat.le_max_right n m)).2 hm
      all_goals exact ⟨n, by simp only [exec, hn]; exact he⟩
  | cond o a b iha ihb =>
    intro e H r he
    simp only [exec] at he
    split at he
    · rename_i hc; obtain ⟨n, hn⟩ := iha he; exact ⟨n, by simp only [exec]; rw [show evalO (mkN P C ok n keep fl).keep e [] o = _ from hc]; exact hn⟩
    · rename_i hc; obtain ⟨n, hn⟩ := ihb he; exact ⟨n, by simp only [exec]; rw [show evalO (mkN P C ok n keep fl).keep e [] o = _ from hc]; exact hn⟩
    · cases he
  | block id c ih =>
    intro e H r he
    simp only [exec] at he
    cases ha : exec (mkR P C ok keep fl) c e H with
    | none => rw [ha] at he; cases he
    | some x => obtain ⟨n, hn⟩ := ih ha; rw [ha] at he; exact ⟨n, by simp only [exec, hn]; exact he⟩
  | loop c ih => intro e H r he; exact Loop_of.1 he
  | skip => intro e H r he; exact ⟨0, he⟩
  | label => intro e H r he; exact ⟨0, he⟩
  | exit => intro e H r he; exact ⟨0, he⟩
  | ret => intro e H r he; exact ⟨0, he⟩
  | _ => intro e H r he; cases he

theorem Run_eq (K a fl H) : Run P C ok K a fl H = callStep P C ok (Run P C ok) (Loop P C ok) K a fl H := by
  cases h : callStep P C ok (Run P C ok) (Loop P C ok) K a fl H with
  | some r =>
    have h0 := h
    unfold callStep at h
    refine Run_of.2 ?_
    split at h
    · rename_i fn hfn
      split at h
      · rename_i c hc
        split at h
        · rename_i hok
          unfold bodyStep at h
          cases hx : exec (mkR P C ok (C.keep K) (floor (C.mode K) fl H)) c (enterE (C.keep K) a) H with
          | none => rw [hx] at h; cases h
          | some x =>
            obtain ⟨n, hn⟩ := exec_cont hx
            refine ⟨n + 1, ?_⟩
            show callStep P C ok (runN P C ok n).1 (runN P C ok n).2 K a fl H = some r
            simp only [callStep, hfn, hc, hok, if_true, bodyStep]
            rw [hx] at h
            rw [hn, ← h]
            exact leave_same
        · cases h
      · rename_i hc
        exact ⟨1, by show callStep P C ok _ _ K a fl H = some r; simp only [callStep, hfn, hc]; exact h⟩
    · cases h
  | none =>
    cases hr : Run P C ok K a fl H with
    | none => rfl
    | some r =>
      obtain ⟨n, hn⟩ := Run_of.1 hr
      cases n with
      | zero => cases hn
      | succ n => rw [callStep_mono (run_le n).1 (run_le n).2 _ _ _ _ _ hn] at h; cases h

theorem Loop_eq (k fl c e H) : Loop P C ok k fl c e H = loopStep P C (Run P C ok) (Loop P C ok) k fl c e H := by
  cases h : loopStep P C (Run P C ok) (Loop P C ok) k fl c e H with
  | some r =>
    refine Loop_of.2 ?_
    unfold loopStep at h
    cases hx : exec (mkR P C ok k fl) c e H with
    | none => rw [hx] at h; cases h
    | some x =>
      obtain ⟨n, hn⟩ := exec_cont hx
      rw [hx] at h
      obtain ⟨x, e1, H1⟩ := x
      cases x
      case nrm =>
        obtain ⟨m, hm⟩ := Loop_of.1 h
        refine ⟨max n m + 1, ?_⟩
        show loopStep P C _ _ k fl c e H = some r
        unfold loopStep
        rw [exec_mono (runN_le (Nat.le_max_left n m)).1 (runN_le (Nat.le_max_left n m)).2 hn]
        exact (runN_le (Nat.le_max_right n m)).2 _ _ _ _ _ _ hm
      all_goals exact ⟨n + 1, by show loopStep P C _ _ k fl c e H = some r; unfold loopStep; rw [hn]; exact h⟩
  | none =>
    cases hr : Loop P C ok k fl c e H with
    | none => rfl
    | some r =>
      obtain ⟨n, hn⟩ := Loop_of.1 hr
      cases n with
      | zero => cases hn
      | succ n => rw [loopStep_mono (run_le n).1 (run_le n).2 _ _ _ _ _ _ hn] at h; cases h
end

end Go.Proofs.YtbjpecknlohicaaDoor.Lg
