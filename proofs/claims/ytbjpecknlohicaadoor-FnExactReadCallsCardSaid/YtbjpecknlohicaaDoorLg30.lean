/- The logical machine: from a law's run to its row. No condition. -/
import Derived.Test.YtbjpecknlohicaaDoorLg29
import Derived.ProofKit
namespace Go.Proofs.YtbjpecknlohicaaDoor.Lg
set_option linter.unusedSimpArgs false
set_option linter.unusedVariables false
open Go.RowKit (Below)
open Go.ChangeShapes Go.WideShapes

/-! ### one fuel -/
theorem tileF_mono {T : TypeId → Option TI} {S S' : TypeId → Bool} (h : ∀ t, S t = true → S' t = true) : ∀ {fs : List (Nat × TypeId)} {o e : Nat}, tileF T S fs o e = true → tileF T S' fs o e = true
  | [], _, _, k => k
  | f :: fs, o, e, k => by
    simp only [tileF, Bool.and_eq_true] at k ⊢
    refine ⟨⟨k.1.1, h _ k.1.2⟩, ?_⟩
    have k2 := k.2
    split at k2
    · exact tileF_mono h k2
    · cases k2
theorem plain_succ {T : TypeId → Option TI} : ∀ {n : Nat} {t : TypeId}, plain T n t = true → plain T (n + 1) t = true := by
  intro n
  induction n with
  | zero => intro t h; cases h
  | succ n ih =>
    intro t h
    unfold plain at h ⊢
    split at h
    · rfl
    · rfl
    · rfl
    · split at h
      · simp only [Bool.and_eq_true] at h ⊢
        exact ⟨h.1, ih h.2⟩
      · cases h
    · exact tileF_mono (fun t => ih) h
    · cases h
theorem plain_le {T : TypeId → Option TI} {n m : Nat} {t : TypeId} (h : n ≤ m) (k : plain T n t = true) : plain T m t = true := by
  induction h with
  | refl => exact k
  | step _ ih => exact plain_succ ih
theorem ShpF.fuel {T : TypeId → Option TI} {S S' : TypeId → List V → Prop} {B : TypeId → Bool} (h : ∀ u c, B u = true → S u c → S' u c) : ∀ {fs : List (Nat × TypeId)} {o e : Nat} {cs : List V}, tileF T B fs o e = true → ShpF S fs cs → ShpF S' fs cs
  | [], _, _, _, _, k => k
  | f :: fs, o, e, _, b, ⟨p, q, e1, k1, k2⟩ => by
    simp only [tileF, Bool.and_eq_true] at b
    have b2 := b.2
    split at b2
    · exact ⟨p, q, e1, h _ _ b.1.2 k1, ShpF.fuel h b2 k2⟩
    · cases b2
theorem Shp.fuel {T : TypeId → Option TI} {H : LH} : ∀ {k n : Nat} {t : TypeId} {cs : List V}, plain T k t = true → Shp T n t H cs → Shp T k t H cs := by
  intro k
  induction k with
  | zero => intro n t cs h; cases h
  | succ k ih =>
    intro n t cs h s
    cases n with
    | zero => exact s.elim
    | succ n =>
      unfold plain at h
      unfold Shp at s ⊢
      split at h
      · rename_i hty; rw [hty] at s ⊢; exact s
      · rename_i hty; rw [hty] at s ⊢; exact s
      · rename_i hty; rw [hty] at s ⊢; exact s
      · rename_i hty
        rw [hty] at s ⊢
        split at h
        · simp only [Bool.and_eq_true] at h
          rcases s with s | s | ⟨b, z, len, cap, ps, h1, h2, h3, h4, h5, h6, h7, h8⟩
          · exact .inl s
          · exact .inr (.inl s)
          · exact .inr (.inr ⟨b, z, len, cap, ps, h1, h2, h3, h4, h5, h6, h7, fun p hp => ih h.2 (h8 p hp)⟩)
        · cases h
      · rename_i hty
        rw [hty] at s ⊢
        exact ShpF.fuel (fun u c => ih) h s
      · cases h

/-! ### arguments -/
/-- an argument of a type -/
def ShpA (T : TypeId → Option TI) (n : Nat) (t : TypeId) (H : LH) (x : V) : Prop :=
  match T t with
  | some ⟨_, _, .struct _ _, _⟩ => ∃ cs, x = .agg cs ∧ Shp T n t H cs
  | _ => Shp T n t H [x]
def ShpAs (T : TypeId → Option TI) (n : Nat) (H : LH) : List TypeId → List V → Prop
  | [], [] => True
  | t :: ts, x :: xs => ShpA T n t H x ∧ ShpAs T n H ts xs
  | _, _ => False

section
variable {P : Program} {w : World} {D : Type} {enc : TypeId × Value → D}

theorem read_arg {k base : Nat} {t : TypeId} {v : Value} {d : DataW D} {ps : List MemPlace} (hp : plain (ty P) k t = true) (hok : Value.okWide P w .any base t v) (h : DataW.Trod enc P w 0 (fun _ => true) true t v d ps) {φ : Phi} {H : LH} (hR : RD φ H w) :
    ∃ φ' H' x, More φ H w φ' H' ∧ VR φ' w x v ∧ ShpA (ty P) k t H' x ∧ V.lt H'.length x := by
  obtain ⟨n, h⟩ := h
  have h2 := DataW.trod_le (Nat.le_max_left n k) h
  obtain ⟨φ', H', vs, g⟩ := read_ok _ _ _ _ h2 (plain_le (Nat.le_max_right n k) hp) φ H hR
  have hs : Shp (ty P) k t H' vs := g.shp.fuel hp
  have one : ∀ u, v.cells.toList = [u] → v = u → (∀ i, ty P t = some i → i.kind.isAgg = false) → ∃ φ' H' x, More φ H w φ' H' ∧ VR φ' w x v ∧ ShpA (ty P) k t H' x ∧ V.lt H'.length x := by
    intro u hu hvu hk
    have hr := g.vr
    rw [hu] at hr
    match vs, hr with
    | [], hr => simp [VRs] at hr
    | [x], hr =>
      simp only [VRs, List.cons.injEq] at hr
      obtain ⟨u', us', ⟨rfl, rfl⟩, hx, _⟩ := hr
      refine ⟨φ', H', x, g.more, by rw [hvu]; exact hx, ?_, g.lt x (by simp)⟩
      unfold ShpA
      split
      · rename_i hty; have := hk _ hty; cases this
      · exact hs
    | x :: y :: l, hr => simp only [VRs, List.cons.injEq] at hr; obtain ⟨u', us', ⟨rfl, rfl⟩, hx, u2, us2, h3, _⟩ := hr; cases h3
  unfold Value.okWide at hok
  cases k with
  | zero => cases hp
  | succ k =>
    unfold plain at hp
    split at hp
    · rename_i hty
      rw [bool_some hty] at hok
      unfold Cell.okWide at hok
      rw [bool_some hty] at hok
      cases v <;> simp [Cell.ok, bool_some hty] at hok
      exact one _ rfl rfl (fun i hi => by rw [hty] at hi; injection hi with hi; subst hi; rfl)
    · rename_i hty
      rw [int_some hty] at hok
      unfold Cell.okWide at hok
      rw [int_some hty] at hok
      cases v <;> simp [Cell.ok, int_some hty] at hok
      exact one _ rfl rfl (fun i hi => by rw [hty] at hi; injection hi with hi; subst hi; rfl)
    · rename_i hty
      rw [str_some hty] at hok
      unfold Cell.okWide at hok
      rw [str_some hty] at hok
      cases v <;> simp [Cell.ok, str_some hty] at hok
      exact one _ rfl rfl (fun i hi => by rw [hty] at hi; injection hi with hi; subst hi; rfl)
    · rename_i hty
      rw [slice_some hty] at hok
      unfold Cell.okWide at hok
      rw [slice_some hty] at hok
      cases v <;> simp [Cell.ok, slice_some hty] at hok
      exact one _ rfl rfl (fun i hi => by rw [hty] at hi; injection hi with hi; subst hi; rfl)
    · rename_i hty
      obtain ⟨gs, hu, _⟩ := struct_some hty
      rw [hu] at hok
      obtain ⟨cs, rfl, _, _⟩ := hok
      refine ⟨φ', H', .agg vs, g.more, ?_, ?_, ?_⟩
      · simp only [VR]; exact ⟨g.scal, cs.toList, by simp, g.vr⟩
      · unfold ShpA; rw [hty]; exact ⟨vs, rfl, hs⟩
      · simp only [V.lt]; exact lts_iff.2 g.lt
    · cases hp

theorem ShpA.more {φ φ' : Phi} {H H' : LH} (m : More φ H w φ' H') {T : TypeId → Option TI} {n : Nat} {t : TypeId} {x : V} (h : ShpA T n t H x) : ShpA T n t H' x := by
  unfold ShpA at h ⊢
  split
  · rename_i hty; rw [hty] at h; obtain ⟨cs, h1, h2⟩ := h; exact ⟨cs, h1, m.shp h2⟩
  · rename_i hty
    split at h
    · rename_i hty'; exact absurd hty' (hty _ _ _ _ _)
    · exact m.shp h
theorem read_args {k base : Nat} : ∀ {ts : List TypeId} {vs : List Value} {ds : List (DataW D)} {ps : List MemPlace}, ts.all (plain (ty P) k) = true → (∀ (j : Nat) t v, ts[j]? = some t → vs[j]? = some v → Value.okWide P w .any base t v) →
    DataW.TrodAll enc P w 0 (fun _ => true) true ts vs ds ps → ∀ {φ : Phi} {H : LH}, RD φ H w → ∃ φ' H' xs, More φ H w φ' H' ∧ VRs φ' w xs vs ∧ ShpAs (ty P) k H' ts xs ∧ ∀ x ∈ xs, V.lt H'.length x
  | [], [], [], ps, _, _, _, φ, H, hR => ⟨φ, H, [], .refl hR, by simp only [VRs], trivial, by simp⟩
  | t :: ts, v :: vs, d :: ds, ps, hp, hok, h, φ, H, hR => by
    obtain ⟨p, q, h1, h2, _⟩ := h
    simp only [List.all_cons, Bool.and_eq_true] at hp
    obtain ⟨φ1, H1, x, m1, r1, s1, l1⟩ := read_arg hp.1 (hok 0 t v rfl rfl) h1 hR
    obtain ⟨φ2, H2, xs, m2, r2, s2, l2⟩ := read_args hp.2 (fun j t v hj hv => hok (j + 1) t v hj hv) h2 m1.rd
    refine ⟨φ2, H2, x :: xs, m1.trans m2, by simp only [VRs]; exact ⟨v, vs, rfl, r1.mono m2.ext, r2⟩, ⟨s1.more m2, s2⟩, ?_⟩
    intro y hy
    rcases List.mem_cons.1 hy with hy | hy
    · subst hy; exact V.lt_mono m2.len l1
    · exact l2 y hy
  | [], _ :: _, _, _, _, _, h, _, _, _ => h.elim
  | [], [], _ :: _, _, _, _, h, _, _, _ => h.elim
  | _ :: _, [], _, _, _, _, h, _, _, _ => h.elim
  | _ :: _, _ :: _, [], _, _, _, h, _, _, _ => h.elim

/-- a law whose run yields true, whatever the arguments -/
def LawRun (P : Program) (C : Cfg) (ok : FuncId → Bool) (k : Nat) (K : FuncId) (ts : List TypeId) : Prop :=
  ∀ xs H, HB H → ShpAs (ty P) k H ts xs → ∃ H', Run P C ok K xs H.length H = some (.bool true, H')

theorem law_callsG {C : Cfg} {ok : FuncId → Bool} (hcall : CallOk P C.glob (Run P C ok)) {k base : Nat} {K : FuncId} {fn : Func} (hfn : P.funcs[K]? = some fn) (hbody : fn.body.isSome = true) (hname : fn.name ≠ "runtime.NumGoroutine")
    (hlaw : LawRun P C ok k K fn.params.toList) (hp : fn.params.toList.all (plain (ty P) k) = true) {args : Array Value} {ds : List (DataW D)} {ps : List MemPlace}
    (hval : ∀ (j : Nat) t v, fn.params[j]? = some t → args[j]? = some v → Value.okWide P w .any base t v) (htr : DataW.TrodAll enc P w 0 (fun _ => true) true fn.params.toList args.toList ds ps)
    (hglob : ∀ g cs, C.glob g = some cs → ∃ c T fz, w.heap[g]? = some (.cells c T fz) ∧ cs.length ≤ c.size ∧ ∀ (i : Nat) (v : V), cs[i]? = some v → v.isScal = true ∧ ∃ u, c[i]? = some u ∧ ∀ φ w, VR φ w v u) :
    Calls P K args w fun e w' => e = .returned (.bool true) ∧ Below w.heap.size w w' := by
  have hR0 : RD (fun _ => none) [] w := ⟨fun b x e => (by cases e), fun b q d x e => (by cases e), fun b q d e => (by cases e), fun b x e => by simp at e⟩
  obtain ⟨φ, H, xs, m, r, s, l⟩ := read_args hp (fun j t v hj hv => hval j t v (by simpa using hj) (by simpa using hv)) htr hR0
  obtain ⟨H', hrun⟩ := hlaw xs H m.rd.hb s
  let p : Par := ⟨H.length, w.heap.size, w, C.glob⟩
  have hHR : HR p φ H w := by
    refine ⟨fun b q d x e hx => ?_, m.rd.bnd, fun b b' q d d' e e' hr _ => ?_, fun b q d e hr => ?_, Nat.le_refl _, .refl _ _, fun g cs e => ?_⟩
    · have hb := m.rd.dom b _ e
      have := m.rd.blk b q d x e hx
      cases x with
      | cells cs =>
        obtain ⟨c, T, fz, h1, h2, h3, _⟩ := this
        exact ⟨c, T, fz, h1, h2, h3, fun hf => absurd hf (Nat.not_le.2 hb)⟩
      | map es => exact this
      | dead => trivial
    · exact absurd (m.rd.dom b _ e) (Nat.not_lt.2 hr)
    · exact absurd (m.rd.dom b _ e) (Nat.not_lt.2 hr)
    · have h := hglob g cs e
      obtain ⟨c, T, fz, h1, h2⟩ := h
      exact ⟨(Array.getElem?_eq_some_iff.1 h1).1, c, T, fz, h1, h2⟩
  have := hcall _ _ _ _ _ _ hrun p φ w args.toList rfl (Nat.le_refl _) (Nat.le_refl _) m.rd.hb l hHR (fun b x e => .inl (m.rd.dom b x e)) r
  have henter : (callFunc K ⟨args.toList⟩).run P w = .ok (.enter K args) w := by
    obtain ⟨c, hc⟩ := Option.isSome_iff_exists.1 hbody
    simp [callFunc, hfn, hname, hc]
  rw [henter] at this
  rcases this with ⟨u, w', _, h1 | ⟨h1, _⟩⟩ | ⟨f, as, w1, h1, h2⟩
  · cases h1
  · cases h1
  · injection h1 with h1 h3
    injection h1 with h4 h5
    subst h4; subst h5; subst h3
    refine Calls.mono h2 ?_
    rintro e w' ⟨u, rfl, φ', hv, h', _⟩
    simp only [VR] at hv
    subst hv
    exact ⟨rfl, h'.old⟩
theorem law_calls {C : Cfg} {ok : FuncId → Bool} (hcall : CallOk P C.glob (Run P C ok)) (hglob : ∀ g, C.glob g = none) {k base : Nat} {K : FuncId} {fn : Func} (hfn : P.funcs[K]? = some fn) (hbody : fn.body.isSome = true) (hname : fn.name ≠ "runtime.NumGoroutine")
    (hlaw : LawRun P C ok k K fn.params.toList) (hp : fn.params.toList.all (plain (ty P) k) = true) {args : Array Value} {ds : List (DataW D)} {ps : List MemPlace}
    (hval : ∀ (j : Nat) t v, fn.params[j]? = some t → args[j]? = some v → Value.okWide P w .any base t v) (htr : DataW.TrodAll enc P w 0 (fun _ => true) true fn.params.toList args.toList ds ps) :
    Calls P K args w fun e w' => e = .returned (.bool true) ∧ Below w.heap.size w w' :=
  law_callsG hcall hfn hbody hname hlaw hp hval htr fun g cs e => (by rw [hglob] at e; cases e)
end

/-! ### the row -/
section
variable {D : Type} {enc : TypeId × Value → D} {P : Program}
theorem trodAll_stays (hl : laidOutB P = true) {W W' : World} {sp' : Nat → Bool} (hb : Below W.heap.size W W') : ∀ {ts : List TypeId} {vs : List Value} {ds : List (DataW D)} {ps : List MemPlace}, ts.all (fun t => P.readableRec t && decide (t < P.types.size)) = true →
    DataW.TrodAll enc P W 0 (fun _ => true) true ts vs ds ps → (∀ p ∈ ps, p.block < W.heap.size) → (∀ p ∈ ps, sp' p.block = true) → DataW.TrodAll enc P W' 0 sp' true ts vs ds ps
  | [], [], [], _, _, h, _, _ => h
  | t :: ts, v :: vs, d :: ds, ps, hr, ⟨p, q, h1, h2, e⟩, hlt, hs => by
    subst e
    simp only [List.all_cons, Bool.and_eq_true, decide_eq_true_eq] at hr
    exact ⟨p, q, WideElems.Trod_stays hl hr.1.1 hr.1.2 h1 (fun x hx => hb.same (hlt x (by simp [hx]))) (fun x hx => hs x (by simp [hx])),
      trodAll_stays hl hb hr.2 h2 (fun x hx => hlt x (by simp [hx])) (fun x hx => hs x (by simp [hx])), rfl⟩
  | [], _ :: _, _, _, _, h, _, _ => h.elim
  | [], [], _ :: _, _, _, h, _, _ => h.elim
  | _ :: _, [], _, _, _, h, _, _ => h.elim
  | _ :: _, _ :: _, [], _, _, h, _, _ => h.elim

theorem shp1 {W : World} {t : TypeId} {vs : List Value} {ds : List (DataW D)} {ps : List MemPlace} (h : DataW.TrodAll enc P W 0 (fun _ => true) true [t] vs ds ps) : ∃ d, ds = [d] := by
  match vs, ds, h with
  | [_], [d], _ => exact ⟨d, rfl⟩
  | [], [], h => exact h.elim
  | [], _ :: _, h => exact h.elim
  | _ :: _, [], h => exact h.elim
  | _ :: _ :: _, _ :: [], h => obtain ⟨_, _, _, h, _⟩ := h; exact h.elim
  | [_], _ :: _ :: _, h => obtain ⟨_, _, _, h, _⟩ := h; exact h.elim
  | _ :: _ :: _, _ :: _ :: _, h => obtain ⟨_, _, _, h, _⟩ := h; exact h.elim
theorem shp2 {W : World} {t t' : TypeId} {vs : List Value} {ds : List (DataW D)} {ps : List MemPlace} (h : DataW.TrodAll enc P W 0 (fun _ => true) true [t, t'] vs ds ps) : ∃ d d', ds = [d, d'] := by
  match vs, ds, h with
  | _ :: vs, d :: ds, h =>
    obtain ⟨_, _, _, h, _⟩ := h
    obtain ⟨d', rfl⟩ := shp1 h
    exact ⟨d, d', rfl⟩
  | [], [], h => exact h.elim
  | [], _ :: _, h => exact h.elim
  | _ :: _, [], h => exact h.elim
theorem shpV {W : World} {gs : List (DataW D)} {ps : List MemPlace} {sp : Nat → Bool} (h : DataW.TrodVars enc P W sp [] gs ps) : gs = [] := by
  cases gs with
  | nil => rfl
  | cons g gs => exact h.elim
/-- nothing of what was there has turned: the row's 'post' -/
theorem post_of_below {f : Func} {s : ChangeSpec} {apart fresh handsOn again : Bool} {W W' : World} {args : Array Value} {v : Value} {ds gs : List (DataW D)} {before : List MemPlace} (hl : laidOutB P = true) (hb : Below W.heap.size W W')
    (hr : f.params.toList.all (fun t => P.readableRec t && decide (t < P.types.size)) = true) (hvars : s.vars = [])
    (hW : DataW.Whole enc P f.params.toList s.vars apart W args.toList ds gs before)
    (hres : ∀ (b : Nat) (sp : Nat → Bool) (hd : Bool), DataW.TrodAll enc P W' b sp hd f.resultTypes.toList (v.resultList f.resultTypes.size) (s.fn D (ds ++ gs)).results [])
    (hfa : (s.fn D (ds ++ gs)).args = ds) (hfv : (s.fn D (ds ++ gs)).vars = [])
    (hok : ∀ (j : Nat) (t : TypeId) (r : Value), f.resultTypes[j]? = some t → (v.resultList f.resultTypes.size)[j]? = some r → Value.okWide P W' .any 0 t r) :
    s.post enc P f apart fresh handsOn again W args v W' := by
  have hlt := hW.lt
  have hW0 := hW
  obtain ⟨p, q, hA, hV, hpq, hz, hn⟩ := hW
  rw [hvars] at hV
  have hq : q = [] ∧ gs = [] := by
    cases gs with
    | nil => exact ⟨hV, rfl⟩
    | cons g gs => exact hV.elim
  obtain ⟨rfl, rfl⟩ := hq
  simp only [List.append_nil] at hpq
  subst hpq
  have hargs : ∀ sp : Nat → Bool, (∀ x ∈ before, sp x.block = true) → DataW.TrodAll enc P W' 0 sp true f.params.toList args.toList (s.fn D (ds ++ [])).args before := fun sp hs => by
    rw [hfa]; exact trodAll_stays hl hb hr hA hlt hs
  have hvs : ∀ sp : Nat → Bool, DataW.TrodVars enc P W' sp s.vars (s.fn D (ds ++ [])).vars [] := fun sp => by
    rw [hvars, hfv]; exact rfl
  have hold : ∀ x ∈ before, (fun b => decide (b < W.heap.size)) x.block = true := fun x hx => by simpa using hlt x hx
  refine ⟨ds, [], before, [], before, [], hW0, hres _ _ _, hargs _ hold, hvs _, World.keptBut_mono (fun x hx => ⟨hx, Or.inr (by simpa using hx)⟩) (hb.frame (· ∈ before)), fun _ => ?_⟩
  refine ⟨hok, _, _, ([] ++ before) ++ [], ⟨[] ++ before, [], trodAll_append (hargs _ (fun _ _ => rfl)) (hres _ _ _), hvs _, rfl, ?_, ?_⟩, ?_⟩
  · intro b off hp
    have hp' : MemPlace.cell b off ∈ before := by simpa using hp
    rw [hb.frozen (hlt _ hp')]
    exact hz b off hp'
  · intro ha
    simpa using hn ha
  · intro x hx _
    simpa using hx
end
end Go.Proofs.YtbjpecknlohicaaDoor.Lg
