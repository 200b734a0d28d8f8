/- The logical machine and its contracts, part 3. No condition. -/
import Derived.Test.YthlbglmfdjdagaaGreatDoorN2
import Derived.LoopN
import Derived.Laws.Sem
import Derived.IntWalk
namespace Go.Proofs.YthlbglmfdjdagaaGreatDoor.Lg
set_option linter.unusedSimpArgs false
set_option linter.unusedVariables false
open Go.RowKit (Below)
section
variable {P : Program} {p : Par} {φ : Phi} {H : LH} {w : World}
def CallR (P : Program) (p : Par) (fl : Nat) (φ : Phi) (H : LH) (w : World) (v : V) (H' : LH) (r : Result Next) : Prop :=
 Gives P p fl φ H w v H' r ∨ ∃ f args w1, r = .ok (.enter f args) w1 ∧ Calls P f args w1 (fun e w' => ∃ u, e = .returned u ∧ Res p fl φ H w v H' u w')
def Cp (P : Program) (G : Nat → Option (List V)) (call : AM) : Prop :=
 ∀ K args fl H v H', call K args fl H = some (v, H') → ∀ (p : Par) φ w us, p.G = G → p.R0 ≤ fl → fl ≤ H.length → HB H → (∀ x ∈ args, V.lt H.length x) → HR p φ H w → NoFloat φ H H' → VRs φ w args us →
  CallR P p fl φ H w v H' ((callFunc K ⟨us⟩).run P w)
theorem CallR.upon {fl : Nat} {v : V} {H' : LH} {o : Oper} {a : Act} {next : Act → World → Prop} {Q : Exit → Act → World → Prop} {r : Result Next} (h : CallR P p fl φ H w v H' r)
 (k : ∀ u w', Res p fl φ H w v H' u w' → next (a.put o.dst u) w') : o.upon P a next Q r := by
 rcases h with ⟨u, w', hr, rfl | ⟨rfl, rfl⟩⟩ | ⟨f, args, w1, rfl, hc⟩
 ·exact k u w' hr
 ·exact k _ w' hr
 ·refine Calls.mono hc ?_
  rintro e w' ⟨u, rfl, hr⟩
  exact k u w' hr
theorem VRs.app {vs ws : List V} {us xs : List Value} (h : VRs φ w vs us) (k : VRs φ w ws xs) : VRs φ w (vs ++ ws) (us ++ xs) := by
 induction vs generalizing us with
 | nil => simp only [VRs] at h; subst h; exact k
 | cons v vs ih =>
   simp only [VRs] at h
   obtain ⟨u, us', rfl, hv, hs⟩ := h
   simp only [List.cons_append, VRs]
   exact ⟨u, us' ++ xs, rfl, hv, ih hs⟩
def DX : Op → Bool
 | .call c => match c.callee with
   | .value _ => true
   | _ => false
 | _ => false
theorem opR {call : AM} {G : Nat → Option (List V)} (hc : Cp P G call) (hG : p.G = G) {fl : Nat} {o : Oper} {keep env loc a} {v : V} {H' : LH}
 (h : HR p φ H w) (hT : TmpR φ w keep env loc a) (hR : p.R0 ≤ fl) (hfl : fl ≤ H.length) (nf : NoFloat φ H H')
 (hb : DX o.op = true → HB H ∧ ∀ x, some x ∈ Af keep env loc (opds o.op) → V.lt H.length x)
 (e : doOp call (ty P) G fl H o.op (Af keep env loc (opds o.op)) = some (v, H')) : CallR P p fl φ H w v H' ((execOp a.eval o).run P w) := by
 obtain ⟨dst, op, type, pos, after, guard⟩ := o
 by_cases hno : ∀ c, op = .call c → ∀ f, c.callee ≠ .value f
 ·subst hG
  exact .inl (X0 h hT hR hfl nf e hno)
 ·simp only [Classical.not_forall] at hno
  obtain ⟨c, rfl, f, hf⟩ := hno
  simp only [ne_eq, Classical.not_not] at hf
  change Bt call (ty P) fl H c (Af keep env loc (opds (.call c))) = some (v, H') at e
  have hb := hb (by simp only [DX, hf])
  simp only [opds, hf, Af] at e hb
  cases hx : Al keep env loc f with
  | none => rw [hx] at e; simp only [Bt, hf] at e; cases e
  | some vf =>
    rw [hx] at e
    simp only [Bt, hf] at e
    have rf := A9 hT hx
    cases vf with
    | fn k caps =>
      cases hv : allV (Af keep env loc c.args.toList) with
      | none => rw [hv] at e; cases e
      | some vs =>
        rw [hv] at e
        change call k (vs ++ caps) fl H = some (v, H') at e
        simp only [VR] at rf
        obtain ⟨cs, hfv, hcs⟩ := rf
        have hargs : ∀ x ∈ vs ++ caps, V.lt H.length x := by
         intro x hxm
         rcases List.mem_append.1 hxm with h1 | h1
         ·exact hb.2 x (List.mem_cons_of_mem _ (CQ hv x h1))
         ·have := hb.2 _ (by rw [hx]; exact List.mem_cons_self)
          simp only [V.lt] at this
          exact Bq.1 this x h1
        have := hc _ _ _ _ _ _ e p φ w (c.args.toList.map a.eval ++ cs) hG hR hfl hb.1 hargs h nf ((G1 hT hv).app hcs)
        have he : (execOp a.eval ⟨dst, .call c, type, pos, after, guard⟩).run P w = (callFunc k ⟨c.args.toList.map a.eval ++ cs⟩).run P w := by
         simp only [execOp, resolve, hf, hfv, Deferred.ofValue, Sem.run_bind, Sem.run_pure, Result.andThen_ok, invoke]
         congr 2
         apply Array.ext'
         simp
        rw [he]
        exact this
    | _ => cases e
theorem opW {call : AM} {G : Nat → Option (List V)} (hc : Cp P G call) (hG : p.G = G) {fl : Nat} {o : Oper} {keep env loc a} {v : V} {H' : LH} {next : Act → World → Prop} {Q : Exit → Act → World → Prop}
 (h : HR p φ H w) (hT : TmpR φ w keep env loc a) (hR : p.R0 ≤ fl) (hfl : fl ≤ H.length) (nf : NoFloat φ H H')
 (hb : DX o.op = true → HB H ∧ ∀ x, some x ∈ Af keep env loc (opds o.op) → V.lt H.length x)
 (e : doOp call (ty P) G fl H o.op (Af keep env loc (opds o.op)) = some (v, H')) (k : ∀ u w', Res p fl φ H w v H' u w' → next (a.put o.dst u) w') : o.wp P a w next Q :=
 (opR hc hG h hT hR hfl nf hb e).upon k
theorem DB {a : Act} {d : Option Tmp} {u : Value} : (a.put d u).tmps.size = a.tmps.size := by
 cases d <;> simp [Act.put]
theorem DA {a : Act} {d : Option Tmp} {u : Value} : (a.put d u).defers = a.defers := by
 cases d <;> rfl
theorem Lq {a : Act} {d : Option Tmp} {u : Value} {t : Tmp} (h : d ≠ some t) : (a.put d u).tmps.getD t undef = a.tmps.getD t undef := by
 cases d with
 | none => rfl
 | some d =>
   have : d ≠ t := fun e => h (by rw [e])
   simp [Act.put, Array.getElem?_setIfInBounds_ne this]
theorem MN {a : Act} {u : Value} {t : Tmp} (h : t < a.tmps.size) : (a.put (some t) u).tmps.getD t undef = u := by
 simp [Act.put, h]
def Bv (n : Nat) : Option Tmp → Bool
 | some t => decide (t < n)
 | none => true
theorem TmpR.put {keep env loc a} {v : V} {u : Value} {d : Option Tmp} {n : Nat} (h : TmpR φ w keep env loc a) (hd : Bv n d = true) (hn : n ≤ a.tmps.size) (hv : VR φ w v u) :
 TmpR φ w keep env (putL d v loc) (a.put d u) := by
 intro t x e
 cases d with
 | none => exact h t x e
 | some d =>
   simp only [putL, B2] at e
   split at e
   ·rename_i hdt
    subst hdt
    injection e with e; subst e
    simp only [Bv, decide_eq_true_eq] at hd
    rw [MN (Nat.lt_of_lt_of_le hd hn)]
    exact hv
   ·rename_i hdt
    rw [Lq (by simpa using hdt)]
    exact h t x e
theorem LZ : VR φ w und undef := by simp only [VR, VRs]; exact ⟨[], rfl, rfl⟩
theorem LU {X : Ctx} {ops : List Oper} {env : Env} {loc : Loc} {a : Act} {o : Oper} {b : Bool} (hT : TmpR φ w X.keep env loc a) (e : CF X ops env loc o.guard = some b) :
 Region.wanted o (yielded ops.toArray a.tmps) = b := by
 unfold Region.wanted
 cases hg : o.guard with
 | none => rw [hg] at e; injection e
 | some g =>
   obtain ⟨j, want⟩ := g
   rw [hg] at e
   simp only [CF] at e
   split at e
   ·rename_i d hd
    cases hl : B2 X.keep env loc d with
    | none => rw [hl] at e; cases e
    | some v =>
      rw [hl] at e
      have hv := hT d v hl
      unfold KM at hd
      have hd2 : ((ops.toArray[j]?).bind (·.dst)) = some d := by
       split at hd
       ·rename_i o' ho'; simp [ho', hd]
       ·cases hd
      unfold IY at e
      split at e
      ·rename_i x hx
       cases hx
       injection e with e
       simp only [VR] at hv
       have hy : yielded ops.toArray a.tmps j = some x := by
        unfold yielded
        rw [hd2]
        have ht : a.tmps[d]? = some (.bool x) := by
         rcases hq : a.tmps[d]? with _ | y
         ·simp [hq, undef] at hv
         ·simp [hq] at hv; rw [hv]
        simp [ht]
       simp only [hy, ← e]
       cases x <;> cases want <;> rfl
      ·rename_i hx
       cases hx
       injection e with e
       simp only [VR, VRs] at hv
       obtain ⟨us, hv, rfl⟩ := hv
       have hy : yielded ops.toArray a.tmps j = none := by
        unfold yielded
        rw [hd2]
        rcases hq : a.tmps[d]? with _ | y
        ·simp [hq]
        ·simp [hq] at hv; simp [hv, hq]
       simp only [hy, ← e]
       cases want <;> rfl
      ·cases e
   ·cases e
structure Post (p : Par) (keep : List Tmp) (fl : Nat) (φ : Phi) (H : LH) (w : World) (a : Act) (env' : Env) (loc' : Loc) (H' : LH) (a' : Act) (w' : World) (φ' : Phi) : Prop where
 hr : HR p φ' H' w'
 tmp : TmpR φ' w' keep env' loc' a'
 step : Step fl φ H w φ' H' w'
 size : a'.tmps.size = a.tmps.size
 defs : a'.defers = a.defers
theorem opsW {C : Cfg} {call : AM} {loop : AZ} {keep : List Tmp} {fl n : Nat} (hc : Cp P C.glob call) (hg : Cn call) (hl : FV call) (hGl : GloL C.glob) (hG : p.G = C.glob) {ops : List Oper} {env : Env} {Q : Exit → Act → World → Prop} (hR : p.R0 ≤ fl) :
 ∀ {rest : List Oper} {loc : Loc} {H : LH} {loc' : Loc} {H' : LH} {φ : Phi} {w : World} {a : Act}, opsV (mk P C call loop keep fl) ops env rest loc H = some (loc', H') →
  (∀ o ∈ rest, Bv n o.dst = true) → n ≤ a.tmps.size → HR p φ H w → TmpR φ w keep env loc a → fl ≤ H.length → NoFloat φ H H' → HB H → EL H.length env → LL H.length loc →
  (∀ a' w' φ', Post p keep fl φ H w a env loc' H' a' w' φ' → Q .normal a' w') → wpList P ops.toArray Q rest a w := by
 intro rest
 induction rest with
 | nil =>
   intro loc H loc' H' φ w a e _ _ h hT _ _ _ _ _ k
   injection e with e; injection e with e1 e2; subst e1; subst e2
   exact k a w φ ⟨h, hT, .refl, rfl, rfl⟩
 | cons o rest ih =>
   intro loc H loc' H' φ w a e hd hn h hT hfl nf hb hE hL k
   simp only [opsV] at e
   simp only [wpList]
   have hdo := hd o (by simp)
   have hdr : ∀ o ∈ rest, Bv n o.dst = true := fun o ho => hd o (by simp [ho])
   split at e
   ·rename_i hw
    rw [LU hT hw]
    rw [if_pos rfl]
    split at e
    ·rename_i v H1 hs
     have hs' : doOp call (ty P) C.glob fl H o.op (Af keep env loc (opds o.op)) = some (v, H1) := (Bb hs).1
     have g1 := Ej hg hfl hs'
     have g2 := JN (P := P) (C := C) hg (Nat.le_trans hfl g1.len) e
     have nf1 : NoFloat φ H H1 := nf.left g2.len
     have hbe := fun x (hx : some x ∈ Af keep env loc (opds o.op)) => En hE hL hx
     have gd := KL hl (LR P) hGl hfl hb hbe hs'
     refine .inl (opW hc hG h hT hR hfl nf1 (fun _ => ⟨hb, hbe⟩) hs' fun u w1 hres => ?_)
     obtain ⟨φ1, hv, h1, st⟩ := hres
     refine ih e hdr (by rw [DB]; exact hn) h1 ((hT.mono st.ext).put hdo hn hv) (Nat.le_trans hfl g1.len) (nf.right st) gd.1 (hE.mono g1.len) (F9 (hL.mono g1.len) gd.2) fun a' w' φ' q => ?_
     exact k a' w' φ' ⟨q.hr, q.tmp, st.trans q.step nf1, by rw [q.size, DB], by rw [q.defs, DA]⟩
    ·cases e
   ·rename_i hw
    rw [LU hT hw]
    rw [if_neg (by simp)]
    refine ih e hdr (by rw [DB]; exact hn) h (hT.put hdo hn LZ) hfl nf hb hE (F9 hL Rh) fun a' w' φ' q => ?_
    exact k a' w' φ' ⟨q.hr, q.tmp, q.step, by rw [q.size, DB], by rw [q.defs, DA]⟩
   ·cases e
theorem UI {keep : List Tmp} {env : Env} {loc : Loc} {a : Act} (h : TmpR φ w keep env loc a) : TmpR φ w keep (DY keep env loc) [] a := by
 intro t v e
 refine h t v ?_
 have key : ∀ (ks : List Tmp) (es : Env), CC ks (DY ks es loc) t = some v → B2 ks es loc t = some v := by
  have fl : ∀ (l : Loc) (ks : List Tmp) (es : Env), B2 ks es l t = KR l t (CC ks es t) := by
   intro l ks es
   induction l with
   | nil => rfl
   | cons x l ih => obtain ⟨t', v'⟩ := x; simp only [B2, KR, ih]
  intro ks es q
  rw [fl]
  induction ks generalizing es with
  | nil => simp only [CC] at q; cases q
  | cons k ks ih =>
    cases es with
    | nil => simp only [DY, CC] at q; cases q
    | cons x es =>
      simp only [DY, CC] at q ⊢
      split at q
      ·rename_i hk; subst hk; rw [if_pos rfl]; exact q
      ·rename_i hk; rw [if_neg hk]; exact ih es q
 exact key keep env e
end
open Go.RowKit (Below)
def clsC (mode : FuncId → Mode) : Callee → Nat
 | .builtin .len => 1
 | .builtin .min => 1
 | .builtin .max => 1
 | .value (.func f) => match mode f with
   | .any => 2
   | .pure => 1
   | .fresh => 1
 | _ => 2
def cls (mode : FuncId → Mode) : Op → Nat
 | .move _ => 0
 | .assign _ => 0
 | .pick _ _ _ => 0
 | .build _ _ => 0
 | .nilCheck _ => 0
 | .binOp _ _ _ _ _ => 0
 | .unOp _ _ _ => 0
 | .makeFunc _ _ _ => 0
 | .slice _ _ _ _ _ => 0
 | .fieldAddr _ _ _ => 0
 | .field _ _ _ => 0
 | .indexAddr _ _ _ => 0
 | .index _ _ _ => 0
 | .extract _ _ => 0
 | .load _ _ => 1
 | .alloc _ => 1
 | .box _ _ => 1
 | .buildSlice _ _ _ => 1
 | .makeMap _ _ => 1
 | .makeSlice _ _ _ => 1
 | .lookup _ _ _ _ => 1
 | .convert s d _ => if s = d then 2 else 1
 | .call c => clsC mode c.callee
 | _ => 2
theorem EP {H : LH} {x : Option V} {v : V} {H' : LH} (e : AY H x = some (v, H')) : H' = H ∧ ∀ H2, AY H2 x = some (v, H2) := by
 obtain ⟨rfl, rfl⟩ := Fe e
 exact ⟨rfl, fun _ => rfl⟩
theorem I1 {mode : FuncId → Mode} {call : AM} {T G fl H o vs v H'} (h : doOp call T G fl H o vs = some (v, H')) (hc : cls mode o = 0) : H' = H ∧ ∀ fl2 H2, doOp call T G fl2 H2 o vs = some (v, H2) := by
 unfold doOp at h
 split at h <;> first
  | (simp only [cls] at hc; exact absurd hc (by decide))
  | (simp only [cls] at hc; split at hc <;> cases hc; done)
  | (simp only [doOp]; obtain ⟨rfl, k⟩ := EP h; exact ⟨rfl, fun _ H2 => k H2⟩)
  | (simp only [doOp]; obtain ⟨hg, h⟩ := A6 h; obtain ⟨rfl, k⟩ := EP h; exact ⟨rfl, fun _ H2 => by unfold grd; rw [if_pos hg]; exact k H2⟩)
  | (simp only [doOp]; injection h with h; injection h with h1 h2; subst h1; subst h2; exact ⟨rfl, fun _ _ => rfl⟩)
  | skip
 ·simp only [doOp]
  unfold Is at h ⊢
  split at h
  ·injection h with h; injection h with h1 h2; subst h1; subst h2; exact ⟨rfl, fun _ _ => rfl⟩
  ·injection h with h; injection h with h1 h2; subst h1; subst h2; exact ⟨rfl, fun _ _ => rfl⟩
  ·cases h
 ·simp only [doOp]
  unfold JW at h ⊢
  split at h
  ·injection h with h; injection h with h1 h2; subst h1; subst h2; exact ⟨rfl, fun _ _ => rfl⟩
  ·injection h with h; injection h with h1 h2; subst h1; subst h2; exact ⟨rfl, fun _ _ => rfl⟩
  ·cases h
 ·simp only [doOp]
  unfold fnO at h ⊢
  split at h
  ·injection h with h; injection h with h1 h2; subst h1; subst h2; exact ⟨rfl, fun _ _ => rfl⟩
  ·cases h
 ·rename_i c vs
  exfalso
  simp only [cls] at hc
  unfold clsC at hc
  split at hc <;> first | (exact absurd hc (by decide)) | skip
  split at hc <;> exact absurd hc (by decide)
 ·cases h
def Fs (mode : FuncId → Mode) (call : AM) : Prop :=
 ∀ K args fl H v H', mode K ≠ .any → call K args fl H = some (v, H') → (∃ L, H' = H ++ L) ∧ ∀ fl2, call K args fl2 H = some (v, H')
theorem Grow.app {H H' : LH} (h : Grow H.length H H') : ∃ L, H' = H ++ L := by
 refine ⟨H'.drop H.length, ?_⟩
 have ht : H'.take H.length = H := by
  apply List.ext_getElem?
  intro i
  rw [List.getElem?_take]
  split
  ·rename_i hi
   exact h.low i hi hi
  ·rename_i hi
   rw [List.getElem?_eq_none (by omega)]
 conv => lhs; rw [← List.take_append_drop H.length H', ht]
theorem Pv {m : Mode} (hm : m ≠ .any) (fl : Nat) (H : LH) : BK m fl H = H.length := by
 cases m with
 | any => exact absurd rfl hm
 | _ => rfl
theorem RP {T fl H b ts vs v H'} (h : doBi T fl H b ts vs = some (v, H')) (hb : b = .len ∨ b = .min ∨ b = .max) : H' = H ∧ ∀ fl2, doBi T fl2 H b ts vs = some (v, H') := by
 unfold doBi at h
 split at h
 ·have h0 := h
  obtain ⟨_, h⟩ := A6 h
  unfold numO at h
  split at h
  ·injection h with h; injection h with _ h; subst h; exact ⟨rfl, fun _ => by simp only [doBi]; exact h0⟩
  ·cases h
 ·obtain ⟨rfl, k⟩ := EP h; exact ⟨rfl, fun _ => by simp only [doBi]; exact k _⟩
 ·obtain ⟨rfl, k⟩ := EP h; exact ⟨rfl, fun _ => by simp only [doBi]; exact k _⟩
 ·rcases hb with hb | hb | hb <;> cases hb
 ·cases h
theorem RL {T : TypeId → Option TI} {fl fl2 : Nat} {H : LH} {s d : TypeId} {v : V} (h : s ≠ d) : DJ T fl2 H s d v = DJ T fl H s d v := by
 unfold DJ
 split <;> try rfl
 split <;> try rfl
 simp only [grd, h, false_and]
theorem Mi {C : Cfg} {call : AM} (hm : Fs C.mode call) {T G fl H o} {xs : List Operand} {keep env loc} {v H'} (hxs : xs = opds o) (h : doOp call T G fl H o (Af keep env loc xs) = some (v, H')) (hc : cls C.mode o = 1) :
 (∃ L, H' = H ++ L) ∧ ∀ fl2, doOp call T G fl2 H o (Af keep env loc xs) = some (v, H') := by
 generalize hvs : Af keep env loc xs = vs at h
 unfold doOp at h
 split at h <;> first
  | (simp only [cls] at hc; exact absurd hc (by decide))
  | skip
 ·exact ⟨(HO (fl := H.length) h).app, fun _ => by simp only [doOp]; exact h⟩
 ·exact ⟨(Gs (fl := H.length) h).app, fun _ => by simp only [doOp]; exact h⟩
 ·exact ⟨(G7 (fl := H.length) h).app, fun _ => by simp only [doOp]; exact h⟩
 ·exact ⟨⟨[], by rw [CI h, List.append_nil]⟩, fun _ => by simp only [doOp]; exact h⟩
 ·rename_i s d _ _
  have hsd : s ≠ d := fun e => by simp only [cls, if_pos e] at hc; exact absurd hc (by decide)
  exact ⟨(Hg (fl := H.length) h).app, fun _ => by simp only [doOp]; exact (RL hsd).trans h⟩
 ·exact ⟨(JH (fl := H.length) h).app, fun _ => by simp only [doOp]; exact h⟩
 ·exact ⟨(Hv (fl := H.length) h).app, fun _ => by simp only [doOp]; exact h⟩
 ·exact ⟨⟨[], by rw [Hu h, List.append_nil]⟩, fun _ => by simp only [doOp]; exact h⟩
 ·rename_i c _
  simp only [cls] at hc
  unfold Bt at h
  split at h
  ·rename_i b hb
   rw [hb] at hc
   have hbb : b = .len ∨ b = .min ∨ b = .max := by
    unfold clsC at hc
    split at hc <;> first | simp_all
   obtain ⟨rfl, k⟩ := RP h hbb
   exact ⟨⟨[], by simp⟩, fun fl2 => by simp only [doOp, Bt, hb]; exact k fl2⟩
  ·rename_i f vf vs hb
   rw [hb] at hc
   cases f with
   | func K =>
     simp only [opds, hb] at hxs
     subst hxs
     simp only [Af, Al, List.cons.injEq, Option.some.injEq] at hvs
     obtain ⟨hv1, hv2⟩ := hvs
     subst hv1
     unfold HY at h
     split at h
     ·rename_i K' caps vs' hvf hvs'
      injection hvf with h1 h2
      subst h1
      subst h2
      have hne : C.mode K ≠ .any := fun e => by simp only [clsC, e] at hc; exact absurd hc (by decide)
      obtain ⟨hL, k⟩ := hm _ _ _ _ _ _ hne h
      refine ⟨hL, fun fl2 => ?_⟩
      simp only [doOp, Bt, hb, HY, hvs']
      exact k fl2
     ·cases h
   | _ => simp only [clsC] at hc; exact absurd hc (by decide)
  ·cases h
 ·cases h
section
variable {P : Program} {C : Cfg} {ok : FuncId → Bool}
theorem QH : ∀ n, Fs C.mode (runN P C ok n).1
 | 0 => fun _ _ _ _ _ _ _ h => by cases h
 | n + 1 => by
   intro K args fl H v H' hm h
   have h0 : Ar P C ok (runN P C ok n).1 (runN P C ok n).2 K args fl H = some (v, H') := h
   have g := Eg (P := P) (C := C) (ok := ok) (B0 (P := P) (C := C) (ok := ok) n).1 (B0 (P := P) (C := C) (ok := ok) n).2
   have hfl : ∀ fl2, Ar P C ok (runN P C ok n).1 (runN P C ok n).2 K args fl2 H = some (v, H') := by
    intro fl2
    rw [← h0]
    unfold Ar BV
    simp only [Pv hm]
   exact ⟨(g _ _ _ _ _ _ (hfl H.length) (Nat.le_refl _)).app, hfl⟩
end
open Go.RowKit (Below)
def ties (e : Edge) : Bool := Region.binds .any e
inductive Prec (ops : List Oper) : Nat → Nat → Prop where
 | edge {k : Nat} {o : Oper} {e : Edge} (h : ops[k]? = some o) (he : e ∈ o.after) (hb : ties e = true) : Prec ops e.on k
 | step {i k : Nat} {o : Oper} {e : Edge} (h : ops[k]? = some o) (he : e ∈ o.after) (hb : ties e = true) (p : Prec ops i e.on) : Prec ops i k
def UQ (acc : List Nat) (s : Nat) (e : Edge) : Nat := if ties e then s ||| 2 ^ e.on ||| acc.getD e.on 0 else s
def MD (acc : List Nat) (o : Oper) : Nat := o.after.toList.foldl (UQ acc) 0
def NU : List Oper → List Nat → List Nat
 | [], acc => acc
 | o :: os, acc => NU os (acc ++ [MD acc o])
theorem Qk {acc : List Nat} {es : List Edge} {s i : Nat} (h : (es.foldl (UQ acc) s).testBit i = true) :
 s.testBit i = true ∨ ∃ e, e ∈ es ∧ ties e = true ∧ (e.on = i ∨ (acc.getD e.on 0).testBit i = true) := by
 induction es generalizing s with
 | nil => exact .inl h
 | cons e es ih =>
   simp only [List.foldl_cons] at h
   rcases ih h with h1 | ⟨e', h1, h2⟩
   ·unfold UQ at h1
    split at h1
    ·rename_i hb
     rw [Nat.testBit_or, Nat.testBit_or, Nat.testBit_two_pow] at h1
     simp only [Bool.or_eq_true, decide_eq_true_eq] at h1
     rcases h1 with (h1 | h1) | h1
     ·exact .inl h1
     ·exact .inr ⟨e, by simp, hb, .inl h1⟩
     ·exact .inr ⟨e, by simp, hb, .inr h1⟩
    ·exact .inl h1
   ·exact .inr ⟨e', by simp [h1], h2⟩
theorem ME {ops : List Oper} : ∀ (rest : List Oper) (acc : List Nat) (pre : List Oper), pre ++ rest = ops → acc.length = pre.length →
 (∀ k i : Nat, (acc.getD k 0).testBit i = true → Prec ops i k) → ∀ k i : Nat, ((NU rest acc).getD k 0).testBit i = true → Prec ops i k
 | [], acc, pre, _, _, h => h
 | o :: os, acc, pre, he, hl, h => by
   refine ME os (acc ++ [MD acc o]) (pre ++ [o]) (by simpa using he) (by simp [hl]) ?_
   intro k i hk
   rcases Nat.lt_trichotomy k acc.length with hlt | heq | hgt
   ·refine h k i ?_
    simpa [List.getD_eq_getElem?_getD, List.getElem?_append_left hlt] using hk
   ·subst heq
    have ho : ops[acc.length]? = some o := by rw [← he, hl]; simp
    have hm : (MD acc o).testBit i = true := by simpa [List.getD_eq_getElem?_getD] using hk
    rcases Qk hm with h1 | ⟨e, h1, h2, h3 | h3⟩
    ·simp at h1
    ·subst h3; exact .edge ho (by simpa using h1) h2
    ·exact .step ho (by simpa using h1) h2 (h _ _ h3)
   ·have : (acc ++ [MD acc o]).getD k 0 = 0 := by
     rw [List.getD_eq_getElem?_getD, List.getElem?_eq_none (by simp; omega)]; rfl
    rw [this] at hk; simp at hk
def ahead (ms : List Nat) (i k : Nat) : Bool := (ms.getD k 0).testBit i
theorem E9 {ops : List Oper} {i k : Nat} (h : ahead (NU ops []) i k = true) : Prec ops i k :=
 ME ops [] [] rfl rfl (fun k i h => by simp at h) k i h
theorem Prec.closed {ops : List Oper} {S : Nat → Prop} (hS : ∀ k o e, S k → ops[k]? = some o → e ∈ o.after → ties e = true → S e.on) {i k : Nat} (h : Prec ops i k) : S k → S i := by
 induction h with
 | edge h he hb => exact fun hk => hS _ _ _ hk h he hb
 | step h he hb _ ih => exact fun hk => ih (hS _ _ _ hk h he hb)
theorem Prec.ready {ops : List Oper} {S : Nat → Prop} (hS : ∀ k o e, S k → ops[k]? = some o → e ∈ o.after → ties e = true → S e.on) {i k : Nat} {o : Oper} (hk : ops[k]? = some o) (hr : ∀ e, e ∈ o.after → ties e = true → S e.on) (h : Prec ops i k) : S i := by
 cases h with
 | edge h he hb => rw [hk] at h; injection h with h; subst h; exact hr _ he hb
 | step h he hb p => rw [hk] at h; injection h with h; subst h; exact p.closed hS (hr _ he hb)
def Kv : List Operand → List Tmp
 | [] => []
 | .tmp t :: xs => t :: Kv xs
 | _ :: xs => Kv xs
def PP (ops : List Oper) : Option (Nat × Bool) → List Tmp
 | some (j, _) => (KM ops j).toList
 | none => []
def GX (ops : List Oper) (o : Oper) : List Tmp := Kv (opds o.op) ++ PP ops o.guard
def Jw : Edge → Nat → Bool
 | ⟨i, .textOnly _⟩, j => i == j
 | _, _ => false
def UF : Op → Bool
 | .store _ _ _ => true
 | _ => false
def G2 : Op → Bool
 | .alloc _ => true
 | .box _ _ => true
 | .buildSlice _ _ _ => true
 | .makeSlice _ _ _ => true
 | _ => false
def Sm : Op → Bool
 | .call ⟨.builtin .append, ⟨_ :: _⟩, _⟩ => true
 | _ => false
def Jp (ops : List Oper) (j : Nat) (oj ok : Oper) : Bool :=
 match oj.op with
 | .load _ (.tmp t) => ((ok.dst.isNone && UF ok.op) || Sm ok.op) && ok.after.toList.any (Jw · j) && (ops.drop j).all (fun o => o.dst != some t)
 | _ => false
def TB (ops : List Oper) (k : Nat) : Op → Bool
 | .call ⟨_, ⟨.tmp t :: _⟩, _⟩ => (ops.take k).any (fun o => o.dst == some t)
 | _ => false
def Jo (ops : List Oper) (k : Nat) (oj ok : Oper) : Bool := G2 oj.op && Sm ok.op && TB ops k ok.op
def Gd (ops : List Oper) (j k : Nat) (oj ok : Oper) : Bool := Jp ops j oj ok || Jo ops k oj ok
def JS (mode : FuncId → Mode) (ops : List Oper) (ms : List Nat) (j k : Nat) (oj ok : Oper) : Bool :=
 match cls mode oj.op, cls mode ok.op with
 | 1, 2 => ahead ms j k || Gd ops j k oj ok
 | 2, 1 => ahead ms j k
 | 2, 2 => ahead ms j k
 | _, _ => true
def Tv (ms : List Nat) (k j : Nat) (t : Tmp) (oj : Oper) : Bool := oj.dst != some t || (decide (j < k) && ahead ms j k) || (decide (k < j) && ahead ms k j)
def allI {α : Type} (p : Nat → α → Bool) : Nat → List α → Bool
 | _, [] => true
 | i, x :: xs => p i x && allI p (i + 1) xs
def opOk (mode : FuncId → Mode) (ops : List Oper) (ms : List Nat) (k : Nat) (o : Oper) : Bool :=
 o.after.toList.all (fun e => !ties e || decide (e.on < k)) &&
 (GX ops o).all (fun t => allI (fun j oj => Tv ms k j t oj) 0 ops) &&
 allI (fun j oj => !decide (j < k) || (JS mode ops ms j k oj o && (oj.dst.isNone || oj.dst != o.dst))) 0 ops
def Ji (mode : FuncId → Mode) (ops : List Oper) : Bool := allI (opOk mode ops (NU ops [])) 0 ops
theorem HP {α : Type} {p : Nat → α → Bool} : ∀ {l : List α} {n : Nat}, allI p n l = true → ∀ i x, l[i]? = some x → p (n + i) x = true
 | [], _, _, i, x, e => by simp at e
 | y :: l, n, h, i, x, e => by
   simp only [allI, Bool.and_eq_true] at h
   cases i with
   | zero => simp at e; subst e; exact h.1
   | succ i =>
     have := HP h.2 i x (by simpa using e)
     rw [show n + (i + 1) = n + 1 + i by omega]; exact this
structure E8 (mode : FuncId → Mode) (ops : List Oper) : Prop where
 back : ∀ (k : Nat) (o : Oper) (e : Edge), ops[k]? = some o → e ∈ o.after → ties e = true → e.on < k
 look : ∀ (k : Nat) (o : Oper) (t : Tmp) (j : Nat) (oj : Oper), ops[k]? = some o → t ∈ GX ops o → ops[j]? = some oj → oj.dst = some t → (j < k ∧ Prec ops j k) ∨ (k < j ∧ Prec ops k j)
 dsts : ∀ (j k : Nat) (oj ok : Oper) (t : Tmp), j < k → ops[j]? = some oj → ops[k]? = some ok → oj.dst = some t → ok.dst ≠ some t
 pair12 : ∀ (j k : Nat) (oj ok : Oper), j < k → ops[j]? = some oj → ops[k]? = some ok → cls mode oj.op = 1 → cls mode ok.op = 2 → Prec ops j k ∨ Gd ops j k oj ok = true
 pair21 : ∀ (j k : Nat) (oj ok : Oper), j < k → ops[j]? = some oj → ops[k]? = some ok → cls mode oj.op = 2 → cls mode ok.op = 1 → Prec ops j k
 pair22 : ∀ (j k : Nat) (oj ok : Oper), j < k → ops[j]? = some oj → ops[k]? = some ok → cls mode oj.op = 2 → cls mode ok.op = 2 → Prec ops j k
theorem Pk {mode : FuncId → Mode} {ops : List Oper} (h : Ji mode ops = true) : E8 mode ops := by
 have hop : ∀ k o, ops[k]? = some o → opOk mode ops (NU ops []) k o = true := fun k o e => by
  have := HP h k o e; rwa [Nat.zero_add] at this
 have hpair : ∀ j k oj ok, j < k → ops[j]? = some oj → ops[k]? = some ok → JS mode ops (NU ops []) j k oj ok = true ∧ (oj.dst.isNone || oj.dst != ok.dst) = true := by
  intro j k oj ok hjk hj hk
  have h1 := hop k ok hk
  simp only [opOk, Bool.and_eq_true] at h1
  have h2 := HP h1.2 j oj hj
  simp only [Nat.zero_add, hjk, decide_true, Bool.not_true, Bool.false_or, Bool.and_eq_true] at h2
  exact h2
 refine ⟨?_, ?_, ?_, ?_, ?_, ?_⟩
 ·intro k o e hk he hb
  have h1 := hop k o hk
  simp only [opOk, Bool.and_eq_true, List.all_eq_true] at h1
  have := h1.1.1 e (by simpa using he)
  simpa [hb] using this
 ·intro k o t j oj hk ht hj hd
  have h1 := hop k o hk
  simp only [opOk, Bool.and_eq_true, List.all_eq_true] at h1
  have h2 := HP (h1.1.2 t ht) j oj hj
  simp only [Nat.zero_add, Tv, Bool.or_eq_true, Bool.and_eq_true, decide_eq_true_eq] at h2
  rcases h2 with (h2 | h2) | h2
  ·simp [hd] at h2
  ·exact .inl ⟨h2.1, E9 h2.2⟩
  ·exact .inr ⟨h2.1, E9 h2.2⟩
 ·intro j k oj ok t hjk hj hk hd hd'
  have := (hpair j k oj ok hjk hj hk).2
  simp [hd, hd'] at this
 ·intro j k oj ok hjk hj hk h1 h2
  have := (hpair j k oj ok hjk hj hk).1
  simp only [JS, h1, h2, Bool.or_eq_true] at this
  exact this.imp E9 id
 ·intro j k oj ok hjk hj hk h1 h2
  have := (hpair j k oj ok hjk hj hk).1
  simp only [JS, h1, h2] at this
  exact E9 this
 ·intro j k oj ok hjk hj hk h1 h2
  have := (hpair j k oj ok hjk hj hk).1
  simp only [JS, h1, h2] at this
  exact E9 this
section
variable {p : Par} {φ φ' : Phi} {H L : LH} {w w' : World}
theorem HR.left (h : HR p φ (H ++ L) w) : HR p φ H w :=
 ⟨fun b q d x e hx => h.blk b q d x e (by rw [List.getElem?_append_left (List.getElem?_eq_some_iff.1 hx).1]; exact hx), h.bnd,
   fun b b' q d d' e e' hr hn => (h.inj b b' q d d' e e' hr hn).imp Gone.left Gone.left, h.low, h.q0, h.old, h.glo⟩
theorem Gone.ext {b : Nat} (h : Gone H b) (hb : b < H.length ∨ H.length + L.length ≤ b) : Gone (H ++ L) b := by
 intro x e
 rcases hb with hb | hb
 ·rw [List.getElem?_append_left hb] at e; exact h x e
 ·have := (List.getElem?_eq_some_iff.1 e).1
  simp at this; omega
theorem HR.ext (h : HR p φ H w) (hb : ∀ b x, φ b = some x → b < H.length ∨ H.length + L.length ≤ b) : HR p φ (H ++ L) w := by
 refine ⟨fun b q d x e hx => ?_, h.bnd, fun b b' q d d' e e' hr hn => ?_, h.low, h.q0, h.old, h.glo⟩
 ·rcases hb b _ e with h1 | h1
  ·rw [List.getElem?_append_left h1] at hx; exact h.blk b q d x e hx
  ·have := (List.getElem?_eq_some_iff.1 hx).1
   simp at this; omega
 ·exact (h.inj b b' q d d' e e' hr hn).imp (fun k => k.ext (hb b _ e)) (fun k => k.ext (hb b' _ e'))
theorem Grow.ext {fl : Nat} {A B : LH} (h : Grow fl A B) (L : LH) : Grow fl A (B ++ L) :=
 h.trans ⟨by simp, fun b _ hl => by rw [List.getElem?_append_left hl], fun b hb => by rw [List.getElem?_append_left (List.getElem?_eq_some_iff.1 hb).1]; exact hb⟩
theorem Step.ext' {fl : Nat} {φ0 : Phi} {H0 : LH} {w0 : World} (h : Step fl φ0 H0 w0 φ H w) (L : LH) : Step fl φ0 H0 w0 φ (H ++ L) w :=
 ⟨h.ext, fun b x e n => by have := h.dom b x e n; simp; omega, h.img, h.frm, h.len, h.grow.ext L⟩
theorem Wb {Hi H1 : LH} (h : HR p φ (H1 ++ L) w) (h' : HR p φ' H1 w') (s : Step Hi.length φ Hi w φ' H1 w') : HR p φ' (H1 ++ L) w' := by
 have hfr : ∀ q, q < w.heap.size → w'.heap[q]? = w.heap[q]? := fun q hq => s.frm q hq fun b d h1 h2 => by omega
 have hnew : ∀ b q d, φ' b = some (q, d) → φ b = none → w.heap.size ≤ q ∧ b < H1.length := fun b q d e n => by
  refine ⟨?_, (s.dom b _ e n).2⟩
  rcases s.img b q d e n with h1 | ⟨b0, _, h1, h2, _⟩
  ·exact h1
  ·omega
 refine ⟨fun b q d x e hx => ?_, h'.bnd, fun b b' q d d' e e' hr hn => ?_, h'.low, h'.q0, h'.old, h'.glo⟩
 ·cases ho : φ b with
  | none =>
    rw [List.getElem?_append_left (hnew b q d e ho).2] at hx
    exact h'.blk b q d x e hx
  | some y =>
    have hy := s.ext.ext b y ho
    rw [e] at hy; injection hy with hy; subst hy
    exact (h.blk b q d x ho hx).mono s.ext (hfr q (h.bnd b q d ho))
 ·cases ho : φ b with
  | some y =>
    have hy := s.ext.ext b y ho
    rw [e] at hy; injection hy with hy; subst hy
    cases ho' : φ b' with
    | some y' =>
      have hy := s.ext.ext b' y' ho'
      rw [e'] at hy; injection hy with hy; subst hy
      exact h.inj b b' q d d' ho ho' hr hn
    | none =>
      have := h.bnd b q d ho
      have := (hnew b' q d' e' ho').1
      omega
  | none =>
    cases ho' : φ b' with
    | some y' =>
      have hy := s.ext.ext b' y' ho'
      rw [e'] at hy; injection hy with hy; subst hy
      have := h.bnd b' q d' ho'
      have := (hnew b q d e ho).1
      omega
    | none =>
      exact (h'.inj b b' q d d' e e' hr hn).imp (fun k => k.ext (.inl (hnew b q d e ho).2)) (fun k => k.ext (.inl (hnew b' q d' e' ho').2))
theorem Vm {fl : Nat} {φ0 : Phi} {H0 Hi H1 : LH} {w0 : World} (h : Step fl φ0 H0 w0 φ (H1 ++ L) w) (s : Step Hi.length φ Hi w φ' H1 w') (hl : H0.length ≤ Hi.length) : Step fl φ0 H0 w0 φ' (H1 ++ L) w' := by
 refine ⟨h.ext.trans s.ext, fun b x e n => ?_, fun b q d e n => ?_, fun q hq hn => ?_, Nat.le_trans h.len s.len, h.grow⟩
 ·cases ho : φ b with
  | some y => exact h.dom b y ho n
  | none => have := s.dom b x e ho; simp; omega
 ·cases ho : φ b with
  | some y =>
    have hy := s.ext.ext b y ho
    rw [e] at hy; injection hy with hy; subst hy
    exact h.img b q d ho n
  | none =>
    rcases s.img b q d e ho with h1 | ⟨b0, _, h1, h2, _⟩
    ·exact .inl (Nat.le_trans h.len h1)
    ·omega
 ·rw [s.frm q (Nat.lt_of_lt_of_le hq h.len) (fun b d h1 h2 => by omega)]
  exact h.frm q hq hn
end
open Go.RowKit (Below)
structure Tr (X : Ctx) (ops : List Oper) (env : Env) (rest : List Oper) (pl : Nat → Loc) (ph : Nat → LH) : Prop where
 step : ∀ (i : Nat) (o : Oper), rest[i]? = some o →
  (CF X ops env (pl i) o.guard = some true ∧ ∃ v, GK X ops env (pl i) (ph i) o = some (v, ph (i + 1)) ∧ pl (i + 1) = putL o.dst v (pl i)) ∨
  (CF X ops env (pl i) o.guard = some false ∧ ph (i + 1) = ph i ∧ pl (i + 1) = putL o.dst und (pl i))
theorem X9 {X : Ctx} {ops : List Oper} {env : Env} {lf : Loc} {Hf : LH} : ∀ {rest : List Oper} {l : Loc} {H : LH}, opsV X ops env rest l H = some (lf, Hf) →
 ∃ pl ph, Tr X ops env rest pl ph ∧ pl 0 = l ∧ ph 0 = H ∧ pl rest.length = lf ∧ ph rest.length = Hf := by
 intro rest
 induction rest with
 | nil =>
   intro l H h
   injection h with h; injection h with h1 h2
   exact ⟨fun _ => l, fun _ => H, ⟨fun i o e => by simp at e⟩, rfl, rfl, h1, h2⟩
 | cons o rest ih =>
   intro l H h
   simp only [opsV] at h
   have key : ∀ (l1 : Loc) (H1 : LH), opsV X ops env rest l1 H1 = some (lf, Hf) →
    ((CF X ops env l o.guard = some true ∧ ∃ v, GK X ops env l H o = some (v, H1) ∧ l1 = putL o.dst v l) ∨ (CF X ops env l o.guard = some false ∧ H1 = H ∧ l1 = putL o.dst und l)) →
    ∃ pl ph, Tr X ops env (o :: rest) pl ph ∧ pl 0 = l ∧ ph 0 = H ∧ pl (o :: rest).length = lf ∧ ph (o :: rest).length = Hf := by
    intro l1 H1 h1 h2
    obtain ⟨pl, ph, ht, hp, hh, hpl, hph⟩ := ih h1
    refine ⟨fun i => match i with | 0 => l | i + 1 => pl i, fun i => match i with | 0 => H | i + 1 => ph i, ⟨fun i x e => ?_⟩, rfl, rfl, by simpa using hpl, by simpa using hph⟩
    cases i with
    | zero =>
      simp at e; subst e
      show (CF X ops env l o.guard = some true ∧ ∃ v, GK X ops env l H o = some (v, ph 0) ∧ pl 0 = putL o.dst v l) ∨ (CF X ops env l o.guard = some false ∧ ph 0 = H ∧ pl 0 = putL o.dst und l)
      rw [hp, hh]; exact h2
    | succ i => exact ht.step i x (by simpa using e)
   split at h
   ·rename_i hw
    split at h
    ·rename_i v H1 hs; exact key _ _ h (.inl ⟨hw, v, hs, rfl⟩)
    ·cases h
   ·rename_i hw; exact key _ _ h (.inr ⟨hw, rfl, rfl⟩)
   ·cases h
def hv : Loc → V
 | (_, v) :: _ => v
 | [] => und
section
variable {X : Ctx} {ops : List Oper} {env : Env} {pl : Nat → Loc} {ph : Nat → LH} {C : Cfg}
theorem Tr.put (T : Tr X ops env ops pl ph) {i : Nat} {o : Oper} (h : ops[i]? = some o) : ∃ v, pl (i + 1) = putL o.dst v (pl i) := by
 rcases T.step i o h with ⟨_, v, _, h⟩ | ⟨_, _, h⟩
 ·exact ⟨v, h⟩
 ·exact ⟨und, h⟩
theorem Tr.look (T : Tr X ops env ops pl ph) (h0 : pl 0 = []) {keep : List Tmp} {t : Tmp} {v : V} : ∀ {i : Nat}, i ≤ ops.length → B2 keep env (pl i) t = some v →
 (∃ k o, k < i ∧ ops[k]? = some o ∧ o.dst = some t ∧ v = hv (pl (k + 1))) ∨ ((∀ k o, k < i → ops[k]? = some o → o.dst ≠ some t) ∧ CC keep env t = some v) := by
 intro i
 induction i with
 | zero => intro _ e; rw [h0] at e; exact .inr ⟨fun k o h => by omega, e⟩
 | succ i ih =>
   intro hi e
   have ho := List.getElem?_eq_getElem (show i < ops.length by omega)
   obtain ⟨x, hx⟩ := T.put ho
   by_cases hd : (ops[i]'(by omega)).dst = some t
   ·left
    refine ⟨i, _, by omega, ho, hd, ?_⟩
    rw [hx, hd] at e
    simp only [putL, B2, if_true] at e
    injection e with e; subst e
    rw [hx, hd]; rfl
   ·have e' : B2 keep env (pl i) t = some v := by
     rw [hx] at e
     cases hdd : (ops[i]'(by omega)).dst with
     | none => rw [hdd] at e; exact e
     | some d =>
       rw [hdd] at e hd
       simp only [putL, B2] at e
       rw [if_neg (by intro h; exact hd (by rw [h]))] at e
       exact e
    rcases ih (by omega) e' with ⟨k, o, hk, h1, h2, h3⟩ | ⟨h1, h2⟩
    ·exact .inl ⟨k, o, by omega, h1, h2, h3⟩
    ·refine .inr ⟨fun k o hk hko => ?_, h2⟩
     rcases Nat.lt_or_ge k i with h | h
     ·exact h1 k o h hko
     ·have : k = i := by omega
      subst this
      rw [ho] at hko; injection hko with hko; subst hko; exact hd
theorem Tr.stay (T : Tr X ops env ops pl ph) {keep : List Tmp} {t : Tmp} {i : Nat} : ∀ {k : Nat}, i ≤ k → k ≤ ops.length → (∀ j o, i ≤ j → j < k → ops[j]? = some o → o.dst ≠ some t) → B2 keep env (pl k) t = B2 keep env (pl i) t := by
 intro k hik
 induction hik with
 | refl => intro _ _; rfl
 | step hik ih =>
   rename_i k
   intro hk hn
   have hk' : k < ops.length := hk
   have ho := List.getElem?_eq_getElem hk'
   obtain ⟨x, hx⟩ := T.put ho
   have hd := hn k _ hik (Nat.lt_succ_self k) ho
   rw [hx, ← ih (by omega) (fun j o h1 h2 => hn j o h1 (by omega))]
   cases hdd : (ops[k]'hk').dst with
   | none => rfl
   | some d =>
     rw [hdd] at hd
     simp only [putL, B2]
     rw [if_neg (by intro h; exact hd (by rw [h]))]
theorem Tr.grow {P : Program} {call : AM} {loop : AZ} {keep : List Tmp} {fl : Nat} (hg : Cn call) (T : Tr (Lg.mk P C call loop keep fl) ops env ops pl ph) (hf : fl ≤ (ph 0).length) {i : Nat} :
 ∀ {k : Nat}, i ≤ k → k ≤ ops.length → fl ≤ (ph i).length → Grow fl (ph i) (ph k) := by
 intro k hik
 induction hik with
 | refl => intro _ _; exact .refl _ _
 | step hik ih =>
   rename_i k
   intro hk hi
   have hk' : k < ops.length := hk
   have ho := List.getElem?_eq_getElem hk'
   have g := ih (by omega) hi
   rcases T.step k _ ho with ⟨_, v, hs, _⟩ | ⟨_, he, _⟩
   ·exact g.trans (Ej hg (Nat.le_trans hi g.len) (Bb hs).1)
   ·rw [he]; exact g
theorem Tr.ext {P : Program} {call : AM} {loop : AZ} {keep : List Tmp} {fl : Nat} (hm : Fs C.mode call) (T : Tr (Lg.mk P C call loop keep fl) ops env ops pl ph) {i : Nat} :
 ∀ {k : Nat}, i ≤ k → k ≤ ops.length → (∀ j o, i ≤ j → j < k → ops[j]? = some o → cls C.mode o.op ≠ 2) → ∃ L, ph k = ph i ++ L := by
 have c3 : ∀ o, cls C.mode o = 0 ∨ cls C.mode o = 1 ∨ cls C.mode o = 2 := by
  intro o
  cases o <;> simp only [cls] <;> try decide
  case convert => split <;> decide
  unfold clsC
  split <;> try decide
  split <;> decide
 intro k hik
 induction hik with
 | refl => intro _ _; exact ⟨[], by simp⟩
 | step hik ih =>
   rename_i k
   intro hk hn
   have hk' : k < ops.length := hk
   have ho := List.getElem?_eq_getElem hk'
   obtain ⟨L, hL⟩ := ih (by omega) (fun j o h1 h2 => hn j o h1 (by omega))
   rcases T.step k _ ho with ⟨_, v, hs, _⟩ | ⟨_, he, _⟩
   ·have hs := (Bb hs).1
    have hc := hn k _ hik (Nat.lt_succ_self k) ho
    rcases c3 (ops[k]'hk').op with h | h | h
    ·rw [(I1 hs h).1]; exact ⟨L, hL⟩
    ·obtain ⟨L', hL'⟩ := (Mi hm rfl hs h).1
     exact ⟨L ++ L', by rw [hL', hL, List.append_assoc]⟩
    ·exact absurd h hc
   ·rw [he]; exact ⟨L, hL⟩
end
theorem Ag {H L : LH} {b : Nat} {cs : List V} (h : H.cellsAt b = some cs) : LH.cellsAt (H ++ L) b = some cs := by
 have h1 := AI h
 unfold LH.cellsAt
 rw [List.getElem?_append_left (List.getElem?_eq_some_iff.1 h1).1, h1]
theorem F1 {G : Nat → Option (List V)} {H L : LH} {a v : V} {i : Option TI} {H' : LH} (h : BX G H a i = some (v, H')) : BX G (H ++ L) a i = some (v, H ++ L) := by
 have key : ∀ {g : Bool} {o n : Nat} {cs : Option (List V)} {K : LH}, BF H g o n cs = some (v, H') → BF K g o n cs = some (v, K) := by
  intro g o n cs K h
  unfold BF at h ⊢
  cases cs with
  | none => cases h
  | some cs =>
    cases g with
    | true =>
      obtain ⟨hc, h⟩ := A6 h
      injection h with h; injection h with h _; subst h
      simp only [grd, if_pos hc]
    | false =>
      simp only at h ⊢
      split at h
      ·rename_i hx; injection h with h; injection h with h _; subst h; rfl
      ·cases h
 unfold BX at h ⊢
 cases i with
 | none => cases h
 | some i =>
   unfold Gi at h ⊢
   cases a with
   | ptr b o =>
     simp only at h ⊢
     cases hb : H.cellsAt b with
     | none => rw [hb] at h; cases h
     | some cs => rw [Ag hb]; rw [hb] at h; exact key h
   | gptr b o => exact key h
   | _ => cases h
theorem JE {G : Nat → Option (List V)} {H : LH} {a v : V} {i : Option TI} {H' : LH} {b o : Nat} {x : Blk} (h : BX G H a i = some (v, H')) (hb : Ha (some a) (some (.ptr b o)) = true) : BX G (H.set b x) a i = some (v, H.set b x) := by
 have key : ∀ {g : Bool} {o n : Nat} {cs : Option (List V)} {K : LH}, BF H g o n cs = some (v, H') → BF K g o n cs = some (v, K) := by
  intro g o n cs K h
  unfold BF at h ⊢
  cases cs with
  | none => cases h
  | some cs =>
    cases g with
    | true =>
      obtain ⟨hc, h⟩ := A6 h
      injection h with h; injection h with h _; subst h
      simp only [grd, if_pos hc]
    | false =>
      simp only at h ⊢
      split at h
      ·rename_i hx; injection h with h; injection h with h _; subst h; rfl
      ·cases h
 unfold BX at h ⊢
 cases i with
 | none => cases h
 | some i =>
   unfold Gi at h ⊢
   cases a with
   | ptr b' o' =>
     simp only [Ha, decide_eq_true_eq] at hb
     simp only at h ⊢
     have : LH.cellsAt (H.set b x) b' = H.cellsAt b' := by
      unfold LH.cellsAt
      rw [List.getElem?_set_ne (fun e => hb e.symm)]
     rw [this]; exact key h
   | gptr b o => exact key h
   | _ => cases h
open Go.RowKit (Below)
def resL (keep : List Tmp) (env : Env) (loc : Loc) : List Tmp → Loc
 | [] => []
 | t :: ts => match B2 keep env loc t with
   | some v => (t, v) :: resL keep env loc ts
   | none => resL keep env loc ts
theorem C1 {keep env loc} {t : Tmp} {v : V} : ∀ {ts : List Tmp}, B2 [] [] (resL keep env loc ts) t = some v → t ∈ ts ∧ B2 keep env loc t = some v
 | [], h => by simp only [resL, B2, CC] at h; cases h
 | t' :: ts, h => by
   unfold resL at h
   split at h
   ·rename_i x hx
    simp only [B2] at h
    split at h
    ·rename_i e; subst e; injection h with h; subst h; exact ⟨by simp, hx⟩
    ·exact ⟨by simp [(C1 h).1], (C1 h).2⟩
   ·exact ⟨by simp [(C1 h).1], (C1 h).2⟩
theorem EC {keep env loc} {t : Tmp} : ∀ {ts : List Tmp}, t ∈ ts → B2 [] [] (resL keep env loc ts) t = B2 keep env loc t
 | [], h => by cases h
 | t' :: ts, h => by
   unfold resL
   split
   ·rename_i x hx
    simp only [B2]
    split
    ·rename_i e; subst e; exact hx.symm
    ·rename_i e
     rcases List.mem_cons.1 h with h | h
     ·exact absurd h.symm e
     ·exact EC h
   ·rename_i hx
    rcases List.mem_cons.1 h with h | h
    ·subst h
     rw [hx]
     cases hl : B2 [] [] (resL keep env loc ts) t with
     | none => rfl
     | some v => have := (C1 hl).2; rw [hx] at this; cases this
    ·exact EC h
theorem Dn {keep env loc} {ts : List Tmp} : ∀ {xs : List Operand}, (∀ t ∈ Kv xs, t ∈ ts) → Af [] [] (resL keep env loc ts) xs = Af keep env loc xs
 | [], _ => rfl
 | x :: xs, h => by
   simp only [Af]
   cases x with
   | tmp t =>
     simp only [Kv, List.mem_cons, forall_eq_or_imp] at h
     simp only [Al, EC h.1, Dn h.2]
   | const c => simp only [Kv] at h; simp only [Al, Dn h]
   | global g => simp only [Kv] at h; simp only [Al, Dn h]
   | func f => simp only [Kv] at h; simp only [Al, Dn h]
section
variable {P : Program} {C : Cfg} {call : AM} {loop : AZ} {keep : List Tmp} {fl : Nat} {ops : List Oper} {env : Env} {pl : Nat → Loc} {ph : Nat → LH}
theorem SY {loc : Loc} {g : Option (Nat × Bool)} {ts : List Tmp} (h : ∀ t ∈ PP ops g, t ∈ ts) :
 CF (mk P C call loop [] fl) ops [] (resL keep env loc ts) g = CF (mk P C call loop keep fl) ops env loc g := by
 cases g with
 | none => rfl
 | some g =>
   obtain ⟨j, b⟩ := g
   simp only [CF]
   cases hd : KM ops j with
   | none => rfl
   | some d =>
     have : d ∈ ts := h d (by simp [PP, hd])
     show IY b (B2 [] [] (resL keep env loc ts) d) = IY b (B2 keep env loc d)
     rw [EC this]
def on (listed : Array Bool) (k : Nat) : Prop := listed.getD k false = true
structure Inv (P : Program) (C : Cfg) (p : Par) (keep : List Tmp) (fl : Nat) (ops : List Oper) (env : Env) (pl : Nat → Loc) (ph : Nat → LH) (φ0 : Phi) (w0 : World) (a0 : Act)
 (listed : Array Bool) (m : Nat) (a : Act) (w : World) (φ : Phi) : Prop where
 size : listed.size = ops.length
 closed : ∀ (k : Nat) (o : Oper) (e : Edge), on listed k → ops[k]? = some o → e ∈ o.after → ties e = true → on listed e.on
 mle : m ≤ ops.length
 mcut : ∀ o : Oper, ops[m]? = some o → cls C.mode o.op = 2 ∧ ¬ on listed m
 effs : ∀ (k : Nat) (o : Oper), k < m → ops[k]? = some o → cls C.mode o.op = 2 → on listed k
 hr : HR p φ (ph m) w
 step : Step fl φ0 (ph 0) w0 φ (ph m) w
 nofl : ∀ (b : Nat) (x : Nat × Nat), φ b = some x → ∀ i, i < ops.length → ¬ on listed i → b < (ph i).length ∨ (ph (i + 1)).length ≤ b
 new : ∀ (k : Nat) (o : Oper) (t : Tmp), on listed k → ops[k]? = some o → o.dst = some t → VR φ w (hv (pl (k + 1))) (a.tmps.getD t undef)
 old : ∀ (t : Tmp) (v : V), CC keep env t = some v → (∀ (k : Nat) (o : Oper), on listed k → ops[k]? = some o → o.dst ≠ some t) → VR φ w v (a.tmps.getD t undef)
 asz : a.tmps.size = a0.tmps.size
 adf : a.defers = a0.defers
theorem Dk {listed : Array Bool} {i k : Nat} (hs : i < listed.size) : on (listed.setIfInBounds i true) k ↔ k = i ∨ on listed k := by
 unfold on
 by_cases h : i = k
 ·subst h; simp [hs]
 ·rw [getD_set_ne false h]
  constructor
  ·exact .inr
  ·rintro (e | e)
   ·exact absurd e.symm h
   ·exact e
theorem Wf (mode : FuncId → Mode) (ops : List Oper) : ∀ (d i : Nat), i ≤ ops.length → ops.length - i = d → ∃ m, i ≤ m ∧ m ≤ ops.length ∧ (∀ o, ops[m]? = some o → cls mode o.op = 2) ∧ ∀ j o, i ≤ j → j < m → ops[j]? = some o → cls mode o.op ≠ 2 := by
 intro d
 induction d with
 | zero =>
   intro i hi hd
   exact ⟨i, Nat.le_refl _, hi, fun o ho => by have := (List.getElem?_eq_some_iff.1 ho).1; omega, fun j o h1 h2 => by omega⟩
 | succ d ih =>
   intro i hi hd
   have hlt : i < ops.length := by omega
   have ho := List.getElem?_eq_getElem hlt
   by_cases hc : cls mode (ops[i]'hlt).op = 2
   ·exact ⟨i, Nat.le_refl _, hi, fun o h => by rw [ho] at h; injection h with h; subst h; exact hc, fun j o h1 h2 => by omega⟩
   ·obtain ⟨m, h1, h2, h3, h4⟩ := ih (i + 1) hlt (by omega)
    refine ⟨m, by omega, h2, h3, fun j o hj1 hj2 hjo => ?_⟩
    rcases Nat.eq_or_lt_of_le hj1 with e | e
    ·subst e; rw [ho] at hjo; injection hjo with hjo; subst hjo; exact hc
    ·exact h4 j o e hj2 hjo
variable {p : Par} {φ0 : Phi} {w0 : World} {a0 : Act} {listed : Array Bool} {m : Nat} {a : Act} {w : World} {φ : Phi} {n : Nat}
structure Rdy (ops : List Oper) (listed : Array Bool) (i : Nat) (o : Oper) : Prop where
 get : ops[i]? = some o
 off : ¬ on listed i
 aft : ∀ e, e ∈ o.after → ties e = true → on listed e.on
theorem Inv.ahead (I : Inv P C p keep fl ops env pl ph φ0 w0 a0 listed m a w φ) {i : Nat} {o : Oper} (r : Rdy ops listed i o) {j : Nat} (h : Prec ops j i) : on listed j :=
 h.ready (S := on listed) I.closed r.get r.aft
theorem Inv.back (I : Inv P C p keep fl ops env pl ph φ0 w0 a0 listed m a w φ) {i : Nat} {o : Oper} (r : Rdy ops listed i o) {j : Nat} (h : Prec ops i j) : ¬ on listed j :=
 fun hj => r.off (h.closed (S := on listed) I.closed hj)
theorem Inv.tmps (D : E8 C.mode ops) (T : Tr (Lg.mk P C call loop keep fl) ops env ops pl ph) (h0 : pl 0 = []) (I : Inv P C p keep fl ops env pl ph φ0 w0 a0 listed m a w φ) {i : Nat} {o : Oper} (r : Rdy ops listed i o) :
 TmpR φ w [] [] (resL keep env (pl i) (GX ops o)) a := by
 intro t v e
 obtain ⟨ht, hl⟩ := C1 e
 have hi : i < ops.length := (List.getElem?_eq_some_iff.1 r.get).1
 rcases T.look h0 (Nat.le_of_lt hi) hl with ⟨k, ok, hk, hko, hd, rfl⟩ | ⟨hn, hE⟩
 ·refine I.new k ok t ?_ hko hd
  rcases D.look i o t k ok r.get ht hko hd with ⟨_, h⟩ | ⟨h, _⟩
  ·exact I.ahead r h
  ·omega
 ·refine I.old t v hE fun k ok hk hko hd => ?_
  rcases D.look i o t k ok r.get ht hko hd with ⟨h, _⟩ | ⟨_, h⟩
  ·exact hn k ok h hko hd
  ·exact I.back r h hk
theorem Ts {d : Option Tmp} {t : Tmp} {v : V} {l l' : Loc} (hd : d = some t) (h : l' = putL d v l) : hv l' = v := by
 subst hd; rw [h]; rfl
theorem Inv.tmps' (D : E8 C.mode ops) (I : Inv P C p keep fl ops env pl ph φ0 w0 a0 listed m a w φ) {i : Nat} {o : Oper} (r : Rdy ops listed i o) (hd : Bv n o.dst = true) (hn : n ≤ a0.tmps.size) {φ' : Phi} {w' : World} {u : Value}
 (he : Ext φ w φ' w') (hu : ∀ t, o.dst = some t → VR φ' w' (hv (pl (i + 1))) u) :
 (∀ (k : Nat) (ok : Oper) (t : Tmp), on (listed.setIfInBounds i true) k → ops[k]? = some ok → ok.dst = some t → VR φ' w' (hv (pl (k + 1))) ((a.put o.dst u).tmps.getD t undef)) ∧
 (∀ (t : Tmp) (v : V), CC keep env t = some v → (∀ (k : Nat) (ok : Oper), on (listed.setIfInBounds i true) k → ops[k]? = some ok → ok.dst ≠ some t) → VR φ' w' v ((a.put o.dst u).tmps.getD t undef)) := by
 have hi : i < ops.length := (List.getElem?_eq_some_iff.1 r.get).1
 have hs : i < listed.size := by rw [I.size]; exact hi
 refine ⟨fun k ok t hk hko hdt => ?_, fun t v hE hno => ?_⟩
 ·rcases (Dk hs).1 hk with rfl | hk
  ·rw [r.get] at hko; injection hko with hko; subst hko
   rw [hdt, MN]
   ·exact hu t hdt
   ·rw [hdt] at hd
    simp only [Bv, decide_eq_true_eq] at hd
    rw [I.asz]; exact Nat.lt_of_lt_of_le hd hn
  ·have hne : i ≠ k := fun e => r.off (by rw [e]; exact hk)
   rw [Lq]
   ·exact (I.new k ok t hk hko hdt).mono he
   ·rcases Nat.lt_or_ge i k with h | h
    ·exact fun e => D.dsts i k o ok t h r.get hko e hdt
    ·exact D.dsts k i ok o t (by omega) hko r.get hdt
 ·rw [Lq (hno i o ((Dk hs).2 (.inl rfl)) r.get)]
  exact (I.old t v hE fun k ok hk => hno k ok ((Dk hs).2 (.inr hk))).mono he
theorem Inv.closed' (I : Inv P C p keep fl ops env pl ph φ0 w0 a0 listed m a w φ) {i : Nat} {o : Oper} (r : Rdy ops listed i o) :
 ∀ (k : Nat) (ok : Oper) (e : Edge), on (listed.setIfInBounds i true) k → ops[k]? = some ok → e ∈ ok.after → ties e = true → on (listed.setIfInBounds i true) e.on := by
 have hs : i < listed.size := by rw [I.size]; exact (List.getElem?_eq_some_iff.1 r.get).1
 intro k ok e hk hko he hb
 refine (Dk hs).2 (.inr ?_)
 rcases (Dk hs).1 hk with rfl | hk
 ·rw [r.get] at hko; injection hko with hko; subst hko; exact r.aft e he hb
 ·exact I.closed k ok e hk hko he hb
theorem Inv.nofl' (hg : Cn call) (T : Tr (Lg.mk P C call loop keep fl) ops env ops pl ph) (hf : fl ≤ (ph 0).length) (I : Inv P C p keep fl ops env pl ph φ0 w0 a0 listed m a w φ) {i : Nat} {o : Oper} (r : Rdy ops listed i o) {φ' : Phi}
 (hdom : ∀ b x, φ' b = some x → φ b = none → (ph i).length ≤ b ∧ b < (ph (i + 1)).length) (hext : ∀ b x, φ b = some x → φ' b = some x) :
 ∀ (b : Nat) (x : Nat × Nat), φ' b = some x → ∀ j, j < ops.length → ¬ on (listed.setIfInBounds i true) j → b < (ph j).length ∨ (ph (j + 1)).length ≤ b := by
 have hi : i < ops.length := (List.getElem?_eq_some_iff.1 r.get).1
 have hs : i < listed.size := by rw [I.size]; exact hi
 have mono : ∀ {x y : Nat}, x ≤ y → y ≤ ops.length → (ph x).length ≤ (ph y).length := fun {x y} h1 h2 => by
  have h3 := (T.grow hg hf (Nat.zero_le x) (Nat.le_trans h1 h2) hf).len
  exact (T.grow hg hf h1 h2 (Nat.le_trans hf h3)).len
 intro b x e j hj hno
 have hji : j ≠ i := fun h => hno ((Dk hs).2 (.inl h))
 have hnj : ¬ on listed j := fun h => hno ((Dk hs).2 (.inr h))
 cases ho : φ b with
 | some y => exact I.nofl b y ho j hj hnj
 | none =>
   have := hdom b x e ho
   rcases Nat.lt_or_ge i j with h | h
   ·have := mono (show i + 1 ≤ j from h) (Nat.le_of_lt hj); left; omega
   ·have := mono (show j + 1 ≤ i by omega) (Nat.le_of_lt hi); right; omega
theorem Inv.soft (hg : Cn call) (D : E8 C.mode ops) (T : Tr (Lg.mk P C call loop keep fl) ops env ops pl ph) (hf : fl ≤ (ph 0).length) (I : Inv P C p keep fl ops env pl ph φ0 w0 a0 listed m a w φ) {i : Nat} {o : Oper} (r : Rdy ops listed i o)
 (hc : cls C.mode o.op ≠ 2) (hd : Bv n o.dst = true) (hn : n ≤ a0.tmps.size) {φ' : Phi} {w' : World} {u : Value} (he : Ext φ w φ' w') (hu : ∀ t, o.dst = some t → VR φ' w' (hv (pl (i + 1))) u)
 (hdom : ∀ b x, φ' b = some x → φ b = none → (ph i).length ≤ b ∧ b < (ph (i + 1)).length) (hr : HR p φ' (ph m) w') (hst : Step fl φ0 (ph 0) w0 φ' (ph m) w') :
 Inv P C p keep fl ops env pl ph φ0 w0 a0 (listed.setIfInBounds i true) m (a.put o.dst u) w' φ' := by
 have hi : i < ops.length := (List.getElem?_eq_some_iff.1 r.get).1
 have hs : i < listed.size := by rw [I.size]; exact hi
 obtain ⟨hnew, hold⟩ := I.tmps' (n := n) D r hd hn he hu
 refine ⟨by simp [I.size], I.closed' r, I.mle, fun om hm => ⟨(I.mcut om hm).1, fun h => ?_⟩, fun k ok hk hko hkc => (Dk hs).2 (.inr (I.effs k ok hk hko hkc)), hr, hst, I.nofl' hg T hf r hdom he.ext, hnew, hold, by rw [DB, I.asz], by rw [DA, I.adf]⟩
 rcases (Dk hs).1 h with h | h
 ·subst h
  rw [r.get] at hm; injection hm with hm; subst hm
  exact hc (I.mcut _ r.get).1
 ·exact (I.mcut om hm).2 h
theorem Inv.hard (hg : Cn call) (hm : Fs C.mode call) (D : E8 C.mode ops) (T : Tr (Lg.mk P C call loop keep fl) ops env ops pl ph) (hf : fl ≤ (ph 0).length) (I : Inv P C p keep fl ops env pl ph φ0 w0 a0 listed m a w φ) {o : Oper} (r : Rdy ops listed m o)
 (hd : Bv n o.dst = true) (hn : n ≤ a0.tmps.size) {φ' : Phi} {w' : World} {u : Value} (he : Ext φ w φ' w') (hu : ∀ t, o.dst = some t → VR φ' w' (hv (pl (m + 1))) u)
 (hdom : ∀ b x, φ' b = some x → φ b = none → (ph m).length ≤ b ∧ b < (ph (m + 1)).length) (hr : HR p φ' (ph (m + 1)) w') (hst : Step fl φ0 (ph 0) w0 φ' (ph (m + 1)) w') :
 ∃ m', Inv P C p keep fl ops env pl ph φ0 w0 a0 (listed.setIfInBounds m true) m' (a.put o.dst u) w' φ' := by
 have hi : m < ops.length := (List.getElem?_eq_some_iff.1 r.get).1
 have hs : m < listed.size := by rw [I.size]; exact hi
 obtain ⟨hnew, hold⟩ := I.tmps' (n := n) D r hd hn he hu
 obtain ⟨m', h1, h2, h3, h4⟩ := Wf C.mode ops _ (m + 1) hi rfl
 have hcm : cls C.mode o.op = 2 := (I.mcut o r.get).1
 have hsoft : ∀ k ok, m < k → ops[k]? = some ok → on listed k → cls C.mode ok.op = 0 := by
  intro k ok hk hko hon
  have c3 : cls C.mode ok.op = 0 ∨ cls C.mode ok.op = 1 ∨ cls C.mode ok.op = 2 := by
   cases ok.op <;> simp only [cls] <;> try decide
   case convert => split <;> decide
   unfold clsC
   split <;> try decide
   split <;> decide
  rcases c3 with h | h | h
  ·exact h
  ·exact absurd hon (I.back r (D.pair21 m k o ok hk r.get hko hcm h))
  ·exact absurd hon (I.back r (D.pair22 m k o ok hk r.get hko hcm h))
 obtain ⟨L, hL⟩ := T.ext hm h1 h2 h4
 have hgap : ∀ b x, φ' b = some x → b < (ph (m + 1)).length ∨ (ph m').length ≤ b := by
  intro b x e
  rcases Nat.lt_or_ge b (ph (m + 1)).length with h | h
  ·exact .inl h
  ·right
   have hφ : φ b = some x := by
    cases ho : φ b with
    | none => have := hdom b x e ho; omega
    | some y => have := he.ext b y ho; rw [e] at this; exact this.symm
   have key : ∀ k, m + 1 ≤ k → k ≤ m' → (ph k).length ≤ b := by
    intro k hk
    induction hk with
    | refl => intro _; exact h
    | step hk ih =>
      rename_i k
      intro hkm
      have hb := ih (by omega)
      have hkl : k < ops.length := by omega
      have hko := List.getElem?_eq_getElem hkl
      by_cases hon : on listed k
      ·have hc0 := hsoft k _ hk hko hon
       rcases T.step k _ hko with ⟨_, v, hst', _⟩ | ⟨_, he', _⟩
       ·rw [(I1 (Bb hst').1 hc0).1]; exact hb
       ·rw [he']; exact hb
      ·rcases I.nofl b x hφ k hkl hon with h' | h'
       ·omega
       ·exact h'
   exact key m' h1 (Nat.le_refl _)
 refine ⟨m', ⟨by simp [I.size], I.closed' r, h2, fun om hom => ⟨h3 om hom, fun h => ?_⟩, fun k ok hk hko hkc => (Dk hs).2 ?_, ?_, ?_, I.nofl' hg T hf r hdom he.ext, hnew, hold, by rw [DB, I.asz], by rw [DA, I.adf]⟩⟩
 ·rcases (Dk hs).1 h with h | h
  ·omega
  ·have := hsoft m' om (by omega) hom h
   rw [h3 om hom] at this; cases this
 ·rcases Nat.lt_trichotomy k m with h | h | h
  ·exact .inr (I.effs k ok h hko hkc)
  ·exact .inl h
  ·exact absurd hkc (h4 k ok h hk hko)
 ·rw [hL]
  refine hr.ext fun b x e => ?_
  rcases hgap b x e with h | h
  ·exact .inl h
  ·right; rw [hL] at h; simpa using h
 ·rw [hL]; exact hst.ext' L
end
open Go.RowKit (Below)
section
variable {P : Program} {C : Cfg} {call : AM} {loop : AZ} {keep : List Tmp} {fl : Nat} {ops : List Oper} {env : Env} {pl : Nat → Loc} {ph : Nat → LH}
variable {p : Par} {φ0 : Phi} {w0 : World} {a0 : Act} {listed : Array Bool} {m : Nat} {a : Act} {w : World} {φ : Phi} {n : Nat}
theorem Jx {e : Edge} {j : Nat} (h : Jw e j = true) : ∃ r, e = ⟨j, .textOnly r⟩ := by
 obtain ⟨i, g⟩ := e
 unfold Jw at h
 split at h
 ·rename_i r he
  injection he with h1 h2
  subst h1; subst h2
  simp only [beq_iff_eq] at h
  subst h
  exact ⟨_, rfl⟩
 ·cases h
theorem KX {keep : List Tmp} {ops : List Oper} {e : Env} {l : Loc} {adr : Operand} {j : Nat} {oj : Oper} (ho : ops[j]? = some oj) : ∀ {es : List Edge}, fltE keep ops e l adr es = true → es.any (Jw · j) = true → flt1 keep e l adr (some oj) = true
 | [], _, h => by simp at h
 | x :: es, hf, h => by
   simp only [List.any_cons, Bool.or_eq_true] at h
   obtain ⟨i, g⟩ := x
   rcases h with h | h
   ·obtain ⟨r, hr⟩ := Jx h
    injection hr with h1 h2
    subst h1; subst h2
    simp only [fltE, Bool.and_eq_true] at hf
    rw [ho] at hf
    exact hf.1
   ·cases g with
    | textOnly r => simp only [fltE, Bool.and_eq_true] at hf; exact KX ho hf.2 h
    | _ => simp only [fltE] at hf; exact KX ho hf h
theorem KU {keep : List Tmp} {ops : List Oper} {e : Env} {l : Loc} {x : Operand} {j : Nat} {oj : Oper} (ho : ops[j]? = some oj) : ∀ {es : List Edge}, fltA keep ops e l x es = true → es.any (Jw · j) = true → flt2 keep e l x (some oj) = true
 | [], _, h => by simp at h
 | y :: es, hf, h => by
   simp only [List.any_cons, Bool.or_eq_true] at h
   obtain ⟨i, g⟩ := y
   rcases h with h | h
   ·obtain ⟨r, hr⟩ := Jx h
    injection hr with h1 h2
    subst h1; subst h2
    simp only [fltA, Bool.and_eq_true] at hf
    rw [ho] at hf
    exact hf.1
   ·cases g with
    | textOnly r => simp only [fltA, Bool.and_eq_true] at hf; exact KU ho hf.2 h
    | _ => simp only [fltA] at hf; exact KU ho hf h
theorem Mq {c : Call} (h : Sm (.call c) = true) : ∃ x xs ts, c = ⟨.builtin .append, ⟨x :: xs⟩, ts⟩ := by
 unfold Sm at h
 split at h
 ·rename_i x xs ts he
  injection he with he
  exact ⟨_, _, _, he⟩
 ·cases h
theorem RO {T : TypeId → Option TI} {fl : Nat} {H : LH} {r : V × LH} : ∀ {ts : List TypeId} {vs : List (Option V)}, doBi T fl H .append ts vs = some r → ∃ t t' s y, vs = [some s, some y] ∧ appV T fl t t' H s y = some r
 | t :: t' :: _, [some s, some y], h => ⟨t, t', s, y, rfl, h⟩
 | [], _, h => by cases h
 | [_], _, h => by cases h
 | _ :: _ :: _, [], h => by cases h
 | _ :: _ :: _, [none], h => by cases h
 | _ :: _ :: _, [some _], h => by cases h
 | _ :: _ :: _, none :: _ :: _, h => by cases h
 | _ :: _ :: _, some _ :: none :: _, h => by cases h
 | _ :: _ :: _, some _ :: some _ :: _ :: _, h => by cases h
theorem Tf {call : AM} {T : TypeId → Option TI} {G : Nat → Option (List V)} {fl : Nat} {H : LH} {x : Operand} {xs : List Operand} {ts : Array TypeId} {keep : List Tmp} {env : Env} {loc : Loc} {v : V} {H' : LH}
 (h : doOp call T G fl H (.call ⟨.builtin .append, ⟨x :: xs⟩, ts⟩) (Af keep env loc (opds (.call ⟨.builtin .append, ⟨x :: xs⟩, ts⟩))) = some (v, H')) :
 ∃ sv, Al keep env loc x = some sv ∧ ∃ z by' m new, AB fl z by' H m new sv = some (v, H') := by
 have h : doBi T fl H .append ts.toList (Al keep env loc x :: Af keep env loc xs) = some (v, H') := h
 obtain ⟨t, t', s, y, h1, h⟩ := RO h
 injection h1 with h1 h2
 refine ⟨s, h1, ?_⟩
 unfold appV at h
 split at h
 ·obtain ⟨_, h⟩ := A6 h
  exact ⟨_, _, _, _, h⟩
 ·cases h
theorem Hb {fl z by' m : Nat} {H H' : LH} {new : List V} {sv v : V} (h : AB fl z by' H m new sv = some (v, H')) :
 (∃ L, (sv = .nilsl ∨ sv = .emp) ∧ H' = H ++ L) ∨ ∃ b o n c, sv = .sl b o z n c ∧ (H' = H ∨ ∃ y L, H' = H.set b y ++ L) := by
 cases sv with
 | nilsl =>
   rw [show AB fl z by' H m new .nilsl = if m = 0 then some (.nilsl, H) else grd (m * by' ≤ Aj) (some (.sl H.length 0 z m m, H ++ [.cells new])) from rfl] at h
   left
   split at h
   ·injection h with h; injection h with _ h
    exact ⟨[], .inl rfl, by rw [← h]; simp⟩
   ·obtain ⟨_, h⟩ := A6 h
    injection h with h; injection h with _ h
    exact ⟨_, .inl rfl, h.symm⟩
 | emp =>
   rw [show AB fl z by' H m new .emp = if m = 0 then some (.emp, H) else grd (m * by' ≤ Aj) (some (.sl H.length 0 z m m, H ++ [.cells new])) from rfl] at h
   left
   split at h
   ·injection h with h; injection h with _ h
    exact ⟨[], .inr rfl, by rw [← h]; simp⟩
   ·obtain ⟨_, h⟩ := A6 h
    injection h with h; injection h with _ h
    exact ⟨_, .inr rfl, h.symm⟩
 | sl b o z' n c =>
   right
   rw [show AB fl z by' H m new (.sl b o z' n c) = grd (z' = z) (if m = 0 then some (.sl b o z n c, H) else appO fl by' H b o z n c m new (H.cellsAt b)) from rfl] at h
   obtain ⟨hz, h⟩ := A6 h
   subst hz
   refine ⟨b, o, n, c, rfl, ?_⟩
   split at h
   ·injection h with h; injection h with _ h; exact .inl h.symm
   ·unfold appO at h
    split at h
    ·split at h
     ·obtain ⟨_, h⟩ := A6 h
      injection h with h; injection h with _ h
      exact .inr ⟨_, [], by rw [List.append_nil]; exact h.symm⟩
     ·obtain ⟨_, h⟩ := A6 h
      unfold L0 at h
      split at h
      ·injection h with h; injection h with _ h
       exact .inr ⟨_, _, h.symm⟩
      ·cases h
    ·cases h
 | _ => cases h
theorem Rv {a : V} {b o z n c : Nat} (h : J5 (some a) (some (.sl b o z n c)) = true) : Ha (some a) (some (.ptr b 0)) = true := by
 cases a <;> first | exact h | cases h
theorem NQ {G : Nat → Option (List V)} {H H' : LH} {a v sv v' : V} {i : Option TI} {fl z by' m : Nat} {new : List V} (h : BX G H a i = some (v, H)) (hb : J5 (some a) (some sv) = true)
 (ha : AB fl z by' H m new sv = some (v', H')) : BX G H' a i = some (v, H') := by
 rcases Hb ha with ⟨L, h1, h2⟩ | ⟨b, o, n, c, rfl, rfl | ⟨y, L, rfl⟩⟩
 ·rw [h2]; exact F1 h
 ·exact h
 ·exact F1 (JE h (Rv hb))
theorem Tr.load (hm : Fs C.mode call) (D : E8 C.mode ops) (T : Tr (Lg.mk P C call loop keep fl) ops env ops pl ph) {i : Nat} {o : Oper} {t : TypeId} {ad : Operand} {av v : V} (hi : ops[i]? = some o) (ho : o.op = .load t ad)
 (ha : Al keep env (pl i) ad = some av) (hl : BX C.glob (ph i) av (ty P t) = some (v, ph i)) :
 ∀ {k : Nat}, i ≤ k → k ≤ ops.length → (∀ j, i < j → j < k → ∀ oj, ops[j]? = some oj → cls C.mode oj.op = 2 → ¬ Prec ops i j) → BX C.glob (ph k) av (ty P t) = some (v, ph k) := by
 intro k hik
 induction hik with
 | refl => intro _ _; exact hl
 | step hik ih =>
   rename_i k
   intro hk hno
   have hk' : k < ops.length := hk
   have hko := List.getElem?_eq_getElem hk'
   have hprev := ih (by omega) (fun j h1 h2 => hno j h1 (by omega))
   by_cases hc : cls C.mode (ops[k]'hk').op = 2
   ·
    have hne : i ≠ k := by
     intro e
     subst e
     rw [hi] at hko; injection hko with hko
     rw [← hko, ho] at hc
     simp only [cls] at hc
     cases hc
    have hlt : i < k := Nat.lt_of_le_of_ne hik hne
    have hcl : cls C.mode o.op = 1 := by rw [ho]; rfl
    rcases D.pair12 i k o _ hlt hi hko hcl hc with h | h
    ·exact absurd h (hno k hlt (Nat.lt_succ_self k) _ hko hc)
    ·obtain ⟨dst, op, type, pos, after, guard⟩ := o
     simp only at ho
     subst ho
     have h9 : Jp ops i ⟨dst, .load t ad, type, pos, after, guard⟩ (ops[k]'hk') = true := by
      simpa [Gd, Jo, G2] using h
     clear h
     unfold Jp at h9
     split at h9
     ·rename_i t' tt hop
      injection hop with h1 h2
      subst h1; subst h2
      simp only [Bool.and_eq_true, Bool.or_eq_true, List.all_eq_true] at h9
      obtain ⟨⟨hst, hte⟩, hall⟩ := h9
      have hstay : B2 keep env (pl k) tt = B2 keep env (pl i) tt := by
       refine T.stay (Nat.le_of_lt hlt) (Nat.le_of_lt hk') fun j oj h1 h2 hj => ?_
       have hmem : oj ∈ ops.drop i := List.mem_of_getElem? (i := j - i) (by rw [List.getElem?_drop, show i + (j - i) = j by omega]; exact hj)
       simpa using hall oj hmem
      rcases T.step k _ hko with ⟨_, v', hs, _⟩ | ⟨_, he, _⟩
      ·obtain ⟨hdo, hf⟩ := Bb hs
       generalize ops[k]'hk' = ok at *
       obtain ⟨dst', op', type', pos', after', guard'⟩ := ok
       cases op' with
       | store ts adr x =>
         obtain ⟨es⟩ := after'
         have hf1 : fltE keep ops env (pl k) adr es = true := hf
         have hfl := KX (l := pl k) (adr := adr) hi hf1 hte
         simp only [flt1, Al] at hfl
         change B2 keep env (pl i) tt = some av at ha
         rw [hstay, ha] at hfl
         have hdo2 : doOp call (ty P) C.glob fl (ph k) (.store ts adr x) (Af keep env (pl k) [adr, x]) = some (v', ph (k + 1)) := hdo
         simp only [Af] at hdo2
         change Ha (some av) (Al keep env (pl k) adr) = true at hfl
         cases hadr : Al keep env (pl k) adr with
         | none => rw [hadr] at hdo2; cases hdo2
         | some va =>
           rw [hadr] at hdo2 hfl
           cases hx : Al keep env (pl k) x with
           | none => rw [hx] at hdo2; cases hdo2
           | some vx =>
             rw [hx] at hdo2
             change DP fl (ph k) va vx (ty P ts) = some (v', ph (k + 1)) at hdo2
             unfold DP at hdo2
             split at hdo2
             ·unfold HJ at hdo2
              split at hdo2
              ·unfold GM at hdo2
               split at hdo2
               ·obtain ⟨_, hdo2⟩ := A6 hdo2
                injection hdo2 with hdo2; injection hdo2 with _ hdo2
                rw [← hdo2]
                exact JE hprev hfl
               ·cases hdo2
              ·cases hdo2
             ·cases hdo2
       | call c =>
         rcases hst with ⟨_, hst⟩ | hst
         ·cases hst
         ·obtain ⟨x, xs, ts, rfl⟩ := Mq hst
          obtain ⟨es⟩ := after'
          have hf1 : fltA keep ops env (pl k) x es = true := hf
          have hfl := KU (l := pl k) (x := x) hi hf1 hte
          simp only [flt2, Al] at hfl
          change B2 keep env (pl i) tt = some av at ha
          rw [hstay, ha] at hfl
          change J5 (some av) (Al keep env (pl k) x) = true at hfl
          obtain ⟨sv, hsv, z, by', m, new, hap⟩ := Tf (keep := keep) (env := env) (loc := pl k) hdo
          rw [hsv] at hfl
          exact NQ hprev hfl hap
       | _ =>
         rcases hst with ⟨_, hst⟩ | hst <;> cases hst
      ·rw [he]; exact hprev
     ·cases h9
   ·obtain ⟨L, hL⟩ := T.ext hm (Nat.le_succ k) hk (fun j oj h1 h2 hj => by
     have : j = k := by omega
     subst this
     rw [hko] at hj; injection hj with hj; subst hj; exact hc)
    rw [hL]; exact F1 hprev
theorem cls3 (mode : FuncId → Mode) (o : Op) : cls mode o = 0 ∨ cls mode o = 1 ∨ cls mode o = 2 := by
 cases o <;> simp only [cls] <;> try decide
 case convert => split <;> decide
 unfold clsC
 split <;> try decide
 split <;> decide
theorem OC {call : AM} {T : TypeId → Option TI} {G : Nat → Option (List V)} {fl : Nat} {H H' : LH} {o : Op} {vs : List (Option V)} {v : V} (ha : G2 o = true) (h : doOp call T G fl H o vs = some (v, H')) :
 ∃ L, H' = H ++ L ∧ ∀ fl2 (K : LH), K.length = H.length → doOp call T G fl2 K o vs = some (v, K ++ L) := by
 have hp : ∀ {x : V}, ptrV H x = some (v, H') → ∃ L, H' = H ++ L ∧ ∀ K : LH, K.length = H.length → ptrV K x = some (v, K ++ L) := by
  intro x h
  unfold ptrV at h ⊢
  obtain ⟨hg, h⟩ := A6 h
  injection h with h; injection h with h1 h2
  refine ⟨_, h2.symm, fun K hK => ?_⟩
  unfold grd
  rw [if_pos hg, ← h1, hK]
 cases o with
 | alloc t =>
   match vs, h with
   | [], h =>
     have h : Fy H (T t) = some (v, H') := h
     unfold Fy at h
     split at h
     ·rename_i hz
      obtain ⟨L, h1, h2⟩ := hp h
      refine ⟨L, h1, fun fl2 K hK => ?_⟩
      show Fy K (T t) = _
      simp only [Fy, hz]
      exact h2 K hK
     ·cases h
   | _ :: _, h => cases h
 | box t x =>
   match vs, h with
   | [some y], h =>
     obtain ⟨L, h1, h2⟩ := hp (x := y) h
     exact ⟨L, h1, fun fl2 K hK => h2 K hK⟩
   | [], h => cases h
   | none :: _, h => cases h
   | some _ :: _ :: _, h => cases h
 | buildSlice t n ps =>
   have e : ∀ fl2 K, doOp call T G fl2 K (.buildSlice t n ps) vs = D5 T t n (ps.toList.map (·.1)) K (allV vs) := fun fl2 K => rfl
   rw [e] at h
   unfold D5 at h
   split at h
   ·cases h
   ·rename_i ws hw
    split at h
    ·rename_i hT
     split at h
     ·rename_i hT2
      obtain ⟨hg, h⟩ := A6 h
      unfold rowO at h
      split at h
      ·rename_i hf
       injection h with h; injection h with h1 h2
       refine ⟨_, h2.symm, fun fl2 K hK => ?_⟩
       rw [e]
       simp only [D5, hw, hT, hT2, hf, rowO, grd, if_pos hg]
       rw [← h1, hK]
      ·cases h
     ·cases h
    ·cases h
 | makeSlice t l c =>
   match vs, h with
   | [some x, some y], h =>
     have h : Gk H (Av T t) x y = some (v, H') := h
     unfold Gk at h
     split at h
     ·rename_i hT' _
      obtain ⟨hg, h⟩ := A6 h
      injection h with h; injection h with h1 h2
      refine ⟨_, h2.symm, fun fl2 K hK => ?_⟩
      show Gk K (Av T t) _ _ = _
      rw [hT']
      show grd _ _ = _
      unfold grd
      rw [if_pos hg, ← h1, hK]
     ·cases h
   | [], h => cases h
   | none :: _, h => cases h
   | [some _], h => cases h
   | some _ :: none :: _, h => cases h
   | some _ :: some _ :: _ :: _, h => cases h
 | _ => cases ha
theorem Inv.late (hm : Fs C.mode call) (D : E8 C.mode ops) (T : Tr (Lg.mk P C call loop keep fl) ops env ops pl ph) (h0 : pl 0 = []) (I : Inv P C p keep fl ops env pl ph φ0 w0 a0 listed m a w φ) {i : Nat} {o : Oper} (r : Rdy ops listed i o)
 (hal : G2 o.op = true) (hcl : cls C.mode o.op = 1) {L : LH} (hL : ph (i + 1) = ph i ++ L) (him : i < m) :
 ∀ {k : Nat}, i + 1 ≤ k → k ≤ m → (ph i).length + L.length ≤ (ph k).length ∧ ∀ b, b < L.length → (ph k)[(ph i).length + b]? = L[b]? := by
 intro k hik
 induction hik with
 | refl =>
   intro _
   rw [hL]
   exact ⟨by simp, fun b hb => by rw [List.getElem?_append_right (by omega)]; congr 1; omega⟩
 | step hik ih =>
   rename_i k
   intro hkm
   obtain ⟨hl, hg⟩ := ih (by omega)
   have hik' : i + 1 ≤ k := hik
   have hk : k < ops.length := by have := I.mle; omega
   have hko := List.getElem?_eq_getElem hk
   by_cases hc : cls C.mode (ops[k]'hk).op = 2
   ·have hon : on listed k := I.effs k _ (by omega) hko hc
    rcases T.step k _ hko with ⟨_, v', hs, _⟩ | ⟨_, he, _⟩
    ·rcases D.pair12 i k o _ (by omega) r.get hko hcl hc with h | h
     ·exact absurd hon (I.back r h)
     ·have hf : Jo ops k o (ops[k]'hk) = true := by
       simp only [Gd, Bool.or_eq_true] at h
       rcases h with h | h
       ·exfalso
        unfold Jp at h
        split at h
        ·rename_i hop; rw [hop] at hal; cases hal
        ·cases h
       ·exact h
      simp only [Jo, Bool.and_eq_true] at hf
      obtain ⟨⟨_, happ⟩, hpr⟩ := hf
      obtain ⟨hdo, _⟩ := Bb hs
      have hlk := D.look k
      generalize ops[k]'hk = ok at *
      obtain ⟨dst', op', type', pos', after', guard'⟩ := ok
      cases op' with
      | call c =>
        obtain ⟨x, xs, ts, rfl⟩ := Mq happ
        obtain ⟨sv, hsv, z, by', m', new, hap⟩ := Tf (keep := keep) (env := env) (loc := pl k) hdo
        rcases Hb hap with ⟨M, h1, h2⟩ | ⟨b0, o0, n0, c0, rfl, h2⟩
        ·rw [h2]
         exact ⟨by rw [List.length_append]; omega, fun b hb => by rw [List.getElem?_append_left (by omega)]; exact hg b hb⟩
        ·
         have hb0 : b0 < (ph i).length ∨ (ph i).length + L.length ≤ b0 := by
          cases x with
          | tmp t =>
            simp only [TB, List.any_eq_true] at hpr
            obtain ⟨op1, hmem, hd1⟩ := hpr
            have hd1 : op1.dst = some t := by simpa using hd1
            obtain ⟨k1, hk1, hk1o⟩ := List.getElem_of_mem hmem
            rw [List.length_take] at hk1
            rw [List.getElem_take] at hk1o
            have hg1 : ops[k1]? = some op1 := by rw [List.getElem?_eq_getElem (by omega), hk1o]
            rcases T.look h0 (Nat.le_of_lt hk) hsv with ⟨k2, o2, hk2, h3, h4, h5⟩ | ⟨h3, _⟩
            ·have hmm : t ∈ GX ops ⟨dst', .call ⟨.builtin .append, ⟨.tmp t :: xs⟩, ts⟩, type', pos', after', guard'⟩ := by
              unfold GX
              exact List.mem_append_left _ (List.mem_cons_self ..)
             have hpre : Prec ops k2 k := by
              rcases hlk _ t k2 o2 hko hmm h3 h4 with ⟨_, h⟩ | ⟨h, _⟩
              ·exact h
              ·omega
             have hon2 : on listed k2 := hpre.closed (S := on listed) I.closed hon
             have hv := I.new k2 o2 t hon2 h3 h4
             rw [← h5] at hv
             simp only [VR] at hv
             obtain ⟨_, q, d, off, c', hφ, _⟩ := hv
             have := I.nofl b0 _ hφ i ((List.getElem?_eq_some_iff.1 r.get).1) r.off
             rw [hL, List.length_append] at this
             exact this
            ·exact absurd hd1 (h3 k1 op1 (by omega) hg1)
          | _ => cases hpr
         rcases h2 with h2 | ⟨y, M, h2⟩
         ·rw [h2]; exact ⟨hl, hg⟩
         ·rw [h2]
          refine ⟨by rw [List.length_append, List.length_set]; omega, fun b hb => ?_⟩
          rw [List.getElem?_append_left (by rw [List.length_set]; omega), List.getElem?_set_ne (by omega)]
          exact hg b hb
      | _ => cases happ
    ·rw [he]; exact ⟨hl, hg⟩
   ·obtain ⟨M, hM⟩ := T.ext hm (Nat.le_succ k) hk (fun j oj h1 h2 hj => by
     have : j = k := by omega
     subst this
     rw [hko] at hj; injection hj with hj; subst hj; exact hc)
    rw [hM]
    exact ⟨by rw [List.length_append]; omega, fun b hb => by rw [List.getElem?_append_left (by omega)]; exact hg b hb⟩
theorem RT {Q : Exit → Act → World → Prop} (hc : Cp P C.glob call) (hg : Cn call) (hm : Fs C.mode call) (hG : p.G = C.glob) (hR : p.R0 ≤ fl) (D : E8 C.mode ops) (T : Tr (Lg.mk P C call loop keep fl) ops env ops pl ph)
 (h0 : pl 0 = []) (hf : fl ≤ (ph 0).length) (nf0 : NoFloat φ0 (ph 0) (ph ops.length)) (hB : ∀ i, i ≤ ops.length → HB (ph i) ∧ EL (ph i).length env ∧ LL (ph i).length (pl i)) (hd : ∀ o ∈ ops, Bv n o.dst = true) (hn : n ≤ a0.tmps.size)
 (I : Inv P C p keep fl ops env pl ph φ0 w0 a0 listed m a w φ) {i : Nat} {o : Oper} (r : Rdy ops listed i o) {K : Act → World → Prop}
 (k : ∀ m' a' w' φ', Inv P C p keep fl ops env pl ph φ0 w0 a0 (listed.setIfInBounds i true) m' a' w' φ' → K a' w') : wpOp P ops.toArray Q i K a w := by
 have hi : i < ops.length := (List.getElem?_eq_some_iff.1 r.get).1
 have hdo : Bv n o.dst = true := hd o (List.mem_of_getElem? r.get)
 have hTm := I.tmps D T h0 r
 have hmono : ∀ {x y : Nat}, x ≤ y → y ≤ ops.length → Grow fl (ph x) (ph y) := fun {x y} h1 h2 => by
  have h3 := (T.grow hg hf (Nat.zero_le x) (Nat.le_trans h1 h2) hf).len
  exact T.grow hg hf h1 h2 (Nat.le_trans hf h3)
 have hfm : ∀ {x : Nat}, x ≤ ops.length → fl ≤ (ph x).length := fun {x} h => Nat.le_trans hf (hmono (Nat.zero_le x) h).len
 have hget : ops.toArray[i]? = some o := by simpa using r.get
 have hwant : ∀ b, CF (Lg.mk P C call loop keep fl) ops env (pl i) o.guard = some b → Region.wanted o (yielded ops.toArray a.tmps) = b := by
  intro b hb
  refine LU (X := Lg.mk P C call loop [] fl) (loc := resL keep env (pl i) (GX ops o)) (env := []) hTm ?_
  rw [SY (fun t ht => by unfold GX; exact List.mem_append_right _ ht)]; exact hb
 have heval : Af [] [] (resL keep env (pl i) (GX ops o)) (opds o.op) = Af keep env (pl i) (opds o.op) :=
  Dn (fun t ht => by unfold GX; exact List.mem_append_left _ ht)
 have hhard : cls C.mode o.op = 2 → i = m := by
  intro hc2
  rcases Nat.lt_trichotomy i m with h | h | h
  ·exact absurd (I.effs i o h r.get hc2) r.off
  ·exact h
  ·have hml : m < ops.length := by omega
   have hmo := List.getElem?_eq_getElem hml
   have := I.mcut _ hmo
   exact absurd (I.ahead r (D.pair22 m i _ o h hmo r.get this.1 hc2)) this.2
 have hbefore : cls C.mode o.op = 1 → i < m := by
  intro hc1
  rcases Nat.lt_trichotomy i m with h | h | h
  ·exact h
  ·subst h
   have := (I.mcut o r.get).1
   rw [hc1] at this; cases this
  ·have hml : m < ops.length := by omega
   have hmo := List.getElem?_eq_getElem hml
   have := I.mcut _ hmo
   exact absurd (I.ahead r (D.pair21 m i _ o h hmo r.get this.1 hc1)) this.2
 have hncf0 : cls C.mode o.op = 0 → DX o.op ≠ true := by
  intro h0 h1
  cases hop : o.op with
  | call c =>
    rw [hop] at h0
    simp only [cls] at h0
    unfold clsC at h0
    split at h0 <;> first | (exact absurd h0 (by decide)) | skip
    split at h0 <;> exact absurd h0 (by decide)
  | _ => rw [hop] at h1; cases h1
 have hbi : DX o.op = true → HB (ph i) ∧ ∀ x, some x ∈ Af [] [] (resL keep env (pl i) (GX ops o)) (opds o.op) → V.lt (ph i).length x := by
  intro _
  obtain ⟨k1, k2, k3⟩ := hB i (Nat.le_of_lt hi)
  exact ⟨k1, fun x hx => by rw [heval] at hx; exact En k2 k3 hx⟩
 unfold wpOp
 simp only [hget]
 rcases T.step i o r.get with ⟨hw, v, hs, hpl⟩ | ⟨hw, hph, hpl⟩
 ·rw [hwant _ hw, if_pos rfl]
  refine .inl ?_
  have hs := (Bb hs).1
  change doOp call (ty P) C.glob fl (ph i) o.op (Af keep env (pl i) (opds o.op)) = some (v, ph (i + 1)) at hs
  have hvv : ∀ t, o.dst = some t → hv (pl (i + 1)) = v := fun t ht => Ts ht hpl
  have atM : ∀ (hs2 : doOp call (ty P) C.glob (ph m).length (ph m) o.op (Af keep env (pl i) (opds o.op)) = some (v, ph m)) (hne : cls C.mode o.op ≠ 2) (hncf : DX o.op ≠ true), o.wp P a w K Q := by
   intro hs2 hne hncf
   refine opW (v := v) (H' := ph m) hc hG I.hr hTm (Nat.le_trans hR (hfm I.mle)) (Nat.le_refl _) (fun b x _ => Nat.lt_or_ge b _) (fun hcf => absurd hcf hncf) (by rw [heval]; exact hs2) fun u w' ⟨φ', hv', h', st⟩ => ?_
   refine k m _ _ _ (I.soft (n := n) hg D T hf r hne hdo hn st.ext (fun t ht => by rw [hvv t ht]; exact hv') (fun b x e e0 => by have := st.dom b x e e0; omega) h' ?_)
   have := Vm (L := []) (H1 := ph m) (by simpa using I.step) st (hmono (Nat.zero_le m) I.mle).len
   simpa using this
  rcases cls3 C.mode o.op with hcl | hcl | hcl
  ·exact atM ((I1 hs hcl).2 _ _) (by rw [hcl]; decide) (hncf0 hcl)
  ·have him := hbefore hcl
   by_cases hload : ∃ t ad, o.op = .load t ad
   ·obtain ⟨t, ad, hop⟩ := hload
    refine atM ?_ (by rw [hcl]; decide) (by rw [hop]; exact (by decide : ¬ (false = true)))
    rw [hop] at hs ⊢
    simp only [opds, Af] at hs ⊢
    cases ha : Al keep env (pl i) ad with
    | none => rw [ha] at hs; cases hs
    | some av =>
      rw [ha] at hs
      change BX C.glob (ph i) av (ty P t) = some (v, ph (i + 1)) at hs
      show BX C.glob (ph m) av (ty P t) = some (v, ph m)
      rw [CI hs] at hs
      refine T.load hm D r.get hop ha hs (Nat.le_of_lt him) I.mle fun j h1 h2 oj hj hcj hp => ?_
      exact I.back r hp (I.effs j oj h2 hj hcj)
   by_cases hal : G2 o.op = true
   ·
    have hs2 : doOp call (ty P) C.glob fl (ph i) o.op (Af keep env (pl i) (opds o.op)) = some (v, ph (i + 1)) := hs
    obtain ⟨L, hL, hany⟩ := OC hal hs2
    obtain ⟨hl, hg'⟩ := I.late hm D T h0 r hal hcl hL him (show i + 1 ≤ m from him) (Nat.le_refl _)
    have hK : ((ph m).take (ph i).length).length = (ph i).length := by rw [List.length_take]; omega
    have hmk : ph m = ((ph m).take (ph i).length ++ L) ++ (ph m).drop ((ph i).length + L.length) := by
     apply List.ext_getElem?
     intro b
     by_cases h1 : b < (ph i).length
     ·rw [List.getElem?_append_left (by rw [List.length_append, hK]; omega), List.getElem?_append_left (by rw [hK]; exact h1), List.getElem?_take, if_pos h1]
     ·by_cases h2 : b < (ph i).length + L.length
      ·rw [List.getElem?_append_left (by rw [List.length_append, hK]; omega), List.getElem?_append_right (by rw [hK]; omega), hK, ← hg' (b - (ph i).length) (by omega)]
       congr 1; omega
      ·rw [List.getElem?_append_right (by rw [List.length_append, hK]; omega), List.length_append, hK, List.getElem?_drop]
       congr 1; omega
    generalize hKK : (ph m).take (ph i).length = K at hK hmk
    generalize hMM : (ph m).drop ((ph i).length + L.length) = M at hmk
    have hri : HR p φ K w := by
     have := I.hr
     rw [hmk, List.append_assoc] at this
     exact this.left
    have hlen : (K ++ L).length = (ph (i + 1)).length := by rw [hL, List.length_append, List.length_append, hK]
    have hncf : DX o.op ≠ true := by
     intro h1
     cases hop : o.op with
     | call c => rw [hop] at hal; cases hal
     | _ => rw [hop] at h1; cases h1
    refine opW (v := v) (H' := K ++ L) hc hG hri hTm (Nat.le_trans hR (by rw [hK]; exact hfm (Nat.le_of_lt hi))) (Nat.le_refl _) (fun b x e => by rw [hlen, hK]; exact I.nofl b x e i hi r.off) (fun hcf => absurd hcf hncf) (by rw [heval]; exact hany K.length K hK) fun u w' ⟨φ', hv', h', st⟩ => ?_
    refine k m _ _ _ (I.soft (n := n) hg D T hf r (by rw [hcl]; decide) hdo hn st.ext (fun t ht => by rw [hvv t ht]; exact hv') (fun b x e e0 => by have := st.dom b x e e0; rw [hK, hlen] at this; exact this) ?_ ?_)
    ·have := I.hr
     rw [hmk] at this ⊢
     exact Wb this h' st
    ·have := I.step
     rw [hmk] at this ⊢
     exact Vm this st (by rw [hK]; exact (hmono (Nat.zero_le i) (Nat.le_of_lt hi)).len)
   ·
    obtain ⟨L, hL⟩ := T.ext hm (show i + 1 ≤ m from him) I.mle fun j oj h1 h2 hj hcj => by
     rcases D.pair12 i j o oj h1 r.get hj hcl hcj with h | h
     ·exact I.back r h (I.effs j oj h2 hj hcj)
     ·simp only [Gd, Bool.or_eq_true] at h
      rcases h with h | h
      ·unfold Jp at h
       split at h
       ·rename_i t' tt hop; exact hload ⟨_, _, hop⟩
       ·cases h
      ·simp only [Jo, Bool.and_eq_true] at h
       exact hal h.1.1
    obtain ⟨⟨L1, hL1⟩, hany⟩ := Mi (keep := keep) (env := env) (loc := pl i) hm rfl hs hcl
    have hri : HR p φ (ph i) w := by
     have := I.hr
     rw [hL, hL1, List.append_assoc] at this
     exact this.left
    refine opW (v := v) (H' := ph (i + 1)) hc hG hri hTm (Nat.le_trans hR (hfm (Nat.le_of_lt hi))) (Nat.le_refl _) (fun b x e => I.nofl b x e i hi r.off) hbi (by rw [heval]; exact hany (ph i).length) fun u w' ⟨φ', hv', h', st⟩ => ?_
    refine k m _ _ _ (I.soft (n := n) hg D T hf r (by rw [hcl]; decide) hdo hn st.ext (fun t ht => by rw [hvv t ht]; exact hv') (fun b x e e0 => st.dom b x e e0) ?_ ?_)
    ·have := I.hr
     rw [hL] at this ⊢
     exact Wb this h' st
    ·have := I.step
     rw [hL] at this ⊢
     exact Vm this st (hmono (Nat.zero_le i) (Nat.le_of_lt hi)).len
  ·have him := hhard hcl
   subst him
   refine opW (v := v) (H' := ph (i + 1)) hc hG I.hr hTm hR (hfm I.mle) (fun b x e => I.nofl b x e i hi r.off) hbi (by rw [heval]; exact hs) fun u w' ⟨φ', hv', h', st⟩ => ?_
   obtain ⟨m', I'⟩ := I.hard (n := n) hg hm D T hf r hdo hn st.ext (fun t ht => by rw [hvv t ht]; exact hv') (fun b x e e0 => st.dom b x e e0) h' (I.step.trans st (nf0.left (hmono I.mle (Nat.le_refl _)).len))
   exact k m' _ _ _ I'
 ·rw [hwant _ hw, if_neg (by decide)]
  have hu : ∀ t, o.dst = some t → VR φ w (hv (pl (i + 1))) undef := fun t ht => by rw [Ts ht hpl]; exact LZ
  have hdom : ∀ b x, φ b = some x → φ b = none → (ph i).length ≤ b ∧ b < (ph (i + 1)).length := fun b x e e0 => by rw [e] at e0; cases e0
  by_cases hcl : cls C.mode o.op = 2
  ·have him := hhard hcl
   subst him
   obtain ⟨m', I'⟩ := I.hard (n := n) hg hm D T hf r hdo hn (.refl _ _) hu hdom (by rw [hph]; exact I.hr) (by rw [hph]; exact I.step)
   exact k m' _ _ _ I'
  ·exact k m _ _ _ (I.soft (n := n) hg D T hf r hcl hdo hn (.refl _ _) hu hdom I.hr I.step)
end
open Go.RowKit (Below)
def off1 (listed : Array Bool) (i : Nat) : Bool := !listed.getD i false
def cnt (listed : Array Bool) (n : Nat) : Nat := (List.range n).countP (off1 listed)
theorem Jf {α : Type} {p q : α → Bool} : ∀ {l : List α}, (∀ x, q x = true → p x = true) → l.countP q ≤ l.countP p
 | [], _ => Nat.le_refl _
 | x :: l, h => by
   have := Jf (l := l) h
   simp only [List.countP_cons]
   split <;> split <;> first | omega | (rename_i h1 h2; exact absurd (h x h1) h2)
theorem Jg {α : Type} {p q : α → Bool} {a : α} : ∀ {l : List α}, a ∈ l → p a = true → q a = false → (∀ x, q x = true → p x = true) → l.countP q < l.countP p
 | x :: l, hm, hp, hq, h => by
   simp only [List.countP_cons]
   rcases List.mem_cons.1 hm with e | hm
   ·subst e
    have := Jf (l := l) h
    rw [if_pos hp, if_neg (by rw [hq]; decide)]; omega
   ·have := Jg hm hp hq h
    split <;> split <;> first | omega | (rename_i h1 h2; exact absurd (h x h1) h2)
theorem P9 {listed : Array Bool} {n i : Nat} (hi : i < n) (hs : i < listed.size) (hoff : ¬ on listed i) : cnt (listed.setIfInBounds i true) n < cnt listed n := by
 refine Jg (a := i) (by simpa using hi) (by simpa [off1, on] using hoff) ?_ ?_
 ·simp [off1, hs]
 ·intro x hx
  by_cases e : i = x
  ·subst e; simp [off1, hs] at hx
  ·simpa [off1, getD_set_ne false e] using hx
section
variable {P : Program} {C : Cfg} {call : AM} {loop : AZ} {keep : List Tmp} {fl : Nat} {ops : List Oper} {env : Env} {pl : Nat → Loc} {ph : Nat → LH}
variable {p : Par} {φ0 : Phi} {w0 : World} {a0 : Act} {n : Nat}
theorem Gu {listed : Array Bool} {i : Nat} (hs : listed.size = ops.length) : i ∈ Region.ready .any ops.toArray listed ↔ ∃ o, Rdy ops listed i o := by
 rw [mem_ready]
 constructor
 ·rintro ⟨h1, o, ho, h2⟩
  have ho : ops[i]? = some o := by simpa using ho
  have hi : i < ops.length := (List.getElem?_eq_some_iff.1 ho).1
  refine ⟨o, ho, ?_, h2⟩
  unfold on
  have : listed.getD i false = listed.getD i true := by simp [hs, hi]
  rw [this, h1]; decide
 ·rintro ⟨o, ho, h1, h2⟩
  have hi : i < ops.length := (List.getElem?_eq_some_iff.1 ho).1
  refine ⟨?_, o, by simpa using ho, h2⟩
  have : listed.getD i true = listed.getD i false := by simp [hs, hi]
  rw [this]
  unfold on at h1
  simpa using h1
theorem Pl {Q : Exit → Act → World → Prop} (hc : Cp P C.glob call) (hg : Cn call) (hm : Fs C.mode call) (hG : p.G = C.glob) (hR : p.R0 ≤ fl) (D : E8 C.mode ops) (T : Tr (Lg.mk P C call loop keep fl) ops env ops pl ph)
 (h0 : pl 0 = []) (hf : fl ≤ (ph 0).length) (nf0 : NoFloat φ0 (ph 0) (ph ops.length)) (hB : ∀ i, i ≤ ops.length → HB (ph i) ∧ EL (ph i).length env ∧ LL (ph i).length (pl i)) (hd : ∀ o ∈ ops, Bv n o.dst = true) (hn : n ≤ a0.tmps.size)
 (k : ∀ a' w' φ', Post p keep fl φ0 (ph 0) w0 a0 env (pl ops.length) (ph ops.length) a' w' φ' → Q .normal a' w') :
 ∀ (fuel : Nat) (listed : Array Bool) (m : Nat) (a : Act) (w : World) (φ : Phi), Inv P C p keep fl ops env pl ph φ0 w0 a0 listed m a w φ → cnt listed ops.length ≤ fuel → wpAny P .any ops.toArray Q fuel listed a w := by
 have done : ∀ (listed : Array Bool) (m : Nat) (a : Act) (w : World) (φ : Phi), Inv P C p keep fl ops env pl ph φ0 w0 a0 listed m a w φ → Region.ready .any ops.toArray listed = [] → Q .normal a w := by
  intro listed m a w φ I hr
  have hall : ∀ j, j < ops.length → on listed j := by
   intro j
   induction j using Nat.strongRecOn with
   | _ j ih =>
     intro hj
     by_cases h : on listed j
     ·exact h
     ·have hjo := List.getElem?_eq_getElem hj
      have : j ∈ Region.ready .any ops.toArray listed := (Gu I.size).2 ⟨_, hjo, h, fun e he hb => by
       have := D.back j _ e hjo he hb
       exact ih e.on this (by omega)⟩
      rw [hr] at this; cases this
  have hmn : m = ops.length := by
   rcases Nat.lt_or_ge m ops.length with h | h
   ·exact absurd (hall m h) (I.mcut _ (List.getElem?_eq_getElem h)).2
   ·have := I.mle; omega
  subst hmn
  refine k a w φ ⟨I.hr, fun t v e => ?_, I.step, I.asz, I.adf⟩
  rcases T.look h0 (Nat.le_refl _) e with ⟨j, o, hj, hjo, hdst, rfl⟩ | ⟨hno, he⟩
  ·exact I.new j o t (hall j hj) hjo hdst
  ·exact I.old t v he fun j o _ hjo => hno j o (List.getElem?_eq_some_iff.1 hjo).1 hjo
 intro fuel
 induction fuel with
 | zero =>
   intro listed m a w φ I hcnt
   have hr : Region.ready .any ops.toArray listed = [] := by
    cases hr : Region.ready .any ops.toArray listed with
    | nil => rfl
    | cons i is =>
      have : i ∈ Region.ready .any ops.toArray listed := by rw [hr]; simp
      obtain ⟨o, r⟩ := (Gu I.size).1 this
      have hi : i < ops.length := (List.getElem?_eq_some_iff.1 r.get).1
      have := P9 hi (by rw [I.size]; exact hi) r.off
      omega
   exact ⟨hr, done listed m a w φ I hr⟩
 | succ fuel ih =>
   intro listed m a w φ I hcnt
   refine ⟨fun hr => done listed m a w φ I hr, fun i hi => ?_⟩
   obtain ⟨o, r⟩ := (Gu I.size).1 hi
   have hil : i < ops.length := (List.getElem?_eq_some_iff.1 r.get).1
   have := P9 hil (by rw [I.size]; exact hil) r.off
   exact RT hc hg hm hG hR D T h0 hf nf0 hB hd hn I r fun m' a' w' φ' I' => ih _ m' a' w' φ' I' (by omega)
theorem Pj {Q : Exit → Act → World → Prop} (hc : Cp P C.glob call) (hg : Cn call) (hl : FV call) (hGl : GloL C.glob) (hm : Fs C.mode call) (hG : p.G = C.glob) (hR : p.R0 ≤ fl) (hD : Ji C.mode ops = true)
 {H H' : LH} {loc' : Loc} {φ : Phi} {w : World} {a : Act} (e : opsV (mk P C call loop keep fl) ops env ops [] H = some (loc', H'))
 (hd : ∀ o ∈ ops, Bv n o.dst = true) (hn : n ≤ a.tmps.size) (h : HR p φ H w) (hT : TmpR φ w keep env [] a) (hf : fl ≤ H.length) (nf : NoFloat φ H H') (hb : HB H) (hE : EL H.length env)
 (k : ∀ a' w' φ', Post p keep fl φ H w a env loc' H' a' w' φ' → Q .normal a' w') : wpAny P .any ops.toArray Q ops.toArray.size (Array.replicate ops.toArray.size false) a { w with drawn := w.drawn + 1 } := by
 obtain ⟨pl, ph, T, hp0, hh0, hpn, hhn⟩ := X9 e
 subst hh0; subst hpn; subst hhn
 have D := Pk hD
 have hmono : ∀ {x y : Nat}, x ≤ y → y ≤ ops.length → Grow fl (ph x) (ph y) := fun {x y} h1 h2 => by
  have h3 := (T.grow hg hf (Nat.zero_le x) (Nat.le_trans h1 h2) hf).len
  exact T.grow hg hf h1 h2 (Nat.le_trans hf h3)
 have hB : ∀ i, i ≤ ops.length → HB (ph i) ∧ EL (ph i).length env ∧ LL (ph i).length (pl i) := by
  intro i
  induction i with
  | zero => intro _; exact ⟨hb, hE, by rw [hp0]; intro t v hv; cases hv⟩
  | succ i ih =>
    intro hi
    obtain ⟨k1, k2, k3⟩ := ih (by omega)
    have hil : i < ops.length := hi
    have ho := List.getElem?_eq_getElem hil
    rcases T.step i _ ho with ⟨_, v, hs, hpl⟩ | ⟨_, hph, hpl⟩
    ·have hs := (Bb hs).1
     have g := hmono (Nat.le_succ i) hi
     have gd := KL hl (LR P) hGl (Nat.le_trans hf (hmono (Nat.zero_le i) (by omega)).len) k1 (fun x hx => En k2 k3 hx) hs
     rw [hpl]
     exact ⟨gd.1, k2.mono g.len, F9 (k3.mono g.len) gd.2⟩
    ·rw [hph, hpl]; exact ⟨k1, k2, F9 k3 Rh⟩
 obtain ⟨m, _, hm2, hm3, hm4⟩ := Wf C.mode ops _ 0 (Nat.zero_le _) rfl
 obtain ⟨L, hL⟩ := T.ext hm (Nat.zero_le m) hm2 hm4
 have hoff : ∀ i, ¬ on (Array.replicate ops.toArray.size false) i := by
  intro i
  unfold on
  by_cases h : i < ops.length <;> simp [h]
 have hmn := (hmono hm2 (Nat.le_refl _)).len
 refine Pl (φ0 := φ) (w0 := w) (a0 := a) hc hg hm hG hR D T hp0 hf nf hB hd hn k ops.toArray.size _ m a _ φ ⟨by simp, fun k o e hk => absurd hk (hoff k), hm2, fun o ho => ⟨hm3 o ho, hoff m⟩, fun k o hk ho hc2 => absurd hc2 (hm4 k o (Nat.zero_le _) hk ho), ?_, ?_, ?_, fun k o t hk => absurd hk (hoff k), fun t v he _ => ?_, rfl, rfl⟩ ?_
 ·rw [hL]
  refine (h.drew _).ext fun b x e => ?_
  rcases nf b x e with h1 | h1
  ·exact .inl h1
  ·right; rw [hL] at hmn; simp at hmn; omega
 ·rw [hL]; exact (Step.drew _).ext' L
 ·intro b x e i hi _
  rcases nf b x e with h1 | h1
  ·exact .inl (Nat.lt_of_lt_of_le h1 (hmono (Nat.zero_le i) (Nat.le_of_lt hi)).len)
  ·right
   have := (hmono (show i + 1 ≤ ops.length from hi) (Nat.le_refl _)).len
   omega
 ·exact VR.mono (φ := φ) (w := w) (φ' := φ) (w' := { w with drawn := w.drawn + 1 }) ⟨fun _ _ h => h, fun _ _ h => h⟩ (hT t v he)
 ·unfold cnt
  have := List.countP_le_length (p := off1 (Array.replicate ops.toArray.size false)) (l := List.range ops.length)
  simpa using this
end
open Go.RowKit (Below)
def V1 (σ : List Nat) (n : Nat) : Bool := σ.length == n && σ.all (fun i => decide (i < n)) && (List.range n).all (fun i => σ[σ.idxOf i]? == some i) && (List.range n).all (fun p => σ.idxOf (σ.getD p n) == p)
structure Perm (σ : List Nat) (n : Nat) : Prop where
 len : σ.length = n
 lt : ∀ i ∈ σ, i < n
 back : ∀ i, i < n → σ[σ.idxOf i]? = some i
 forth : ∀ p, p < n → σ.idxOf (σ.getD p n) = p
theorem SD {σ : List Nat} {n : Nat} (h : V1 σ n = true) : Perm σ n := by
 simp only [V1, Bool.and_eq_true, beq_iff_eq, List.all_eq_true, decide_eq_true_eq, List.mem_range] at h
 exact ⟨h.1.1.1, h.1.1.2, h.1.2, h.2⟩
theorem Qz {σ : List Nat} {x : List (Nat × Nat)} {ops : List Oper} : ∀ {is : List Nat} {p i : Nat} {o : Oper}, is[p]? = some i → ops[i]? = some o → (reL σ x ops is)[p]? = some (reO σ x i o)
 | [], p, i, o, h, _ => by simp at h
 | j :: is, 0, i, o, h, ho => by
   have h : j = i := by simpa using h
   subst h
   simp only [reL, ho, List.getElem?_cons_zero]
 | j :: is, p + 1, i, o, h, ho => by
   simp only [reL, List.getElem?_cons_succ]
   exact Qz (by simpa using h) ho
theorem Iv {σ : List Nat} {x : List (Nat × Nat)} {ops : List Oper} : ∀ {is : List Nat}, (reL σ x ops is).length = is.length
 | [] => rfl
 | _ :: is => by simp only [reL, List.length_cons, Iv (is := is)]
section
variable {P : Program} {Q : Exit → Act → World → Prop} {ops : List Oper} {σ : List Nat} {x : List (Nat × Nat)}
theorem PU (h : Perm σ ops.length) {i : Nat} (hi : i < ops.length) : σ.idxOf i < ops.length := by
 have := (List.getElem?_eq_some_iff.1 (h.back i hi)).1
 have := h.len
 omega
theorem PW (h : Perm σ ops.length) {i : Nat} (hi : ops.length ≤ i) : σ.idxOf i = ops.length := by
 rw [← h.len]
 refine List.idxOf_eq_length fun hm => ?_
 have := h.lt i hm
 omega
theorem Lr (h : Perm σ ops.length) {i : Nat} {o : Oper} (ho : ops[i]? = some o) : (reL σ x ops σ)[σ.idxOf i]? = some (reO σ x i o) :=
 Qz (h.back i (List.getElem?_eq_some_iff.1 ho).1) ho
theorem V9 (h : Perm σ ops.length) {i : Nat} (hi : ops.length ≤ i) : (reL σ x ops σ)[σ.idxOf i]? = none := by
 rw [PW h hi]
 exact List.getElem?_eq_none (by rw [Iv, h.len]; exact Nat.le_refl _)
structure Lst (σ : List Nat) (n : Nat) (listed listed' : Array Bool) : Prop where
 s : listed.size = n
 s' : listed'.size = n
 eq : ∀ i, i < n → listed.getD i false = listed'.getD (σ.idxOf i) false
theorem PI {l : Array Bool} {i : Nat} (h : i < l.size) : l.getD i true = l.getD i false := by simp [h]
theorem Ju {l : Array Bool} {i : Nat} (h : l.size ≤ i) : l.getD i false = false := by simp [Nat.not_lt.2 h]
theorem Lst.all (h : Perm σ ops.length) {l l' : Array Bool} (L : Lst σ ops.length l l') (i : Nat) : l.getD i false = l'.getD (σ.idxOf i) false := by
 by_cases hi : i < ops.length
 ·exact L.eq i hi
 ·rw [PW h (by omega), Ju (by rw [L.s]; omega), Ju (by rw [L.s']; exact Nat.le_refl _)]
theorem Iw (h : Perm σ ops.length) {l l' : Array Bool} (L : Lst σ ops.length l l') {i : Nat} (hi : i < ops.length) :
 i ∈ Region.ready .any ops.toArray l ↔ σ.idxOf i ∈ Region.ready .any (reL σ x ops σ).toArray l' := by
 have ho : ops[i]? = some (ops[i]'hi) := List.getElem?_eq_getElem hi
 have ho' := Lr (x := x) h ho
 have hq := PU h hi
 have hg : l.getD i true = l'.getD (σ.idxOf i) true := by
  rw [PI (by rw [L.s]; exact hi), PI (by rw [L.s']; exact hq)]
  exact L.eq i hi
 generalize ops[i]'hi = o at ho ho'
 have he : (∀ e, e ∈ o.after → Region.binds .any e = true → l.getD e.on false = true) ↔ (∀ e, e ∈ (reO σ x i o).after → Region.binds .any e = true → l'.getD e.on false = true) := by
  constructor
  ·intro k e hm hb
   have hm : e ∈ o.after.toList.map (fun e => (⟨σ.idxOf e.on, e.ground⟩ : Edge)) ++ (x.filter (fun p => p.1 == i)).map (fun p => (⟨σ.idxOf p.2, .textOnly .lateStores⟩ : Edge)) := Array.mem_def.1 hm
   rcases List.mem_append.1 hm with hm | hm
   ·obtain ⟨e0, hm0, rfl⟩ := List.mem_map.1 hm
    rw [← L.all h]
    exact k e0 (Array.mem_def.2 hm0) hb
   ·obtain ⟨p0, _, rfl⟩ := List.mem_map.1 hm
    cases hb
  ·intro k e hm hb
   rw [L.all h]
   refine k ⟨σ.idxOf e.on, e.ground⟩ ?_ hb
   exact Array.mem_def.2 (List.mem_append_left _ (List.mem_map.2 ⟨e, Array.mem_def.1 hm, rfl⟩))
 have a1 : ops.toArray[i]? = some o := by simpa using ho
 have a2 : (reL σ x ops σ).toArray[σ.idxOf i]? = some (reO σ x i o) := by simpa using ho'
 rw [mem_ready, mem_ready, hg]
 constructor
 ·rintro ⟨h1, o1, h2, h3⟩
  rw [a1] at h2; injection h2 with h2; subst h2
  exact ⟨h1, _, a2, he.1 h3⟩
 ·rintro ⟨h1, o1, h2, h3⟩
  rw [a2] at h2; injection h2 with h2; subst h2
  exact ⟨h1, _, a1, he.2 h3⟩
theorem SI (h : Perm σ ops.length) (t : Array Value) (j : Nat) : yielded (reL σ x ops σ).toArray t (σ.idxOf j) = yielded ops.toArray t j := by
 unfold yielded
 by_cases hj : j < ops.length
 ·have ho : ops[j]? = some (ops[j]'hj) := List.getElem?_eq_getElem hj
  have ho' := Lr (x := x) h ho
  have a1 : ops.toArray[j]? = some (ops[j]'hj) := by simp
  have a2 : (reL σ x ops σ).toArray[σ.idxOf j]? = some (reO σ x j (ops[j]'hj)) := by simpa using ho'
  rw [a1, a2]
  rfl
 ·have a1 : ops.toArray[j]? = none := by simpa using (by omega : ops.length ≤ j)
  have a2 : (reL σ x ops σ).toArray[σ.idxOf j]? = none := by
   have := V9 (x := x) h (show ops.length ≤ j by omega)
   simpa using this
  rw [a1, a2]
theorem QA (h : Perm σ ops.length) {i : Nat} {o : Oper} (t : Array Value) : Region.wanted (reO σ x i o) (yielded (reL σ x ops σ).toArray t) = Region.wanted o (yielded ops.toArray t) := by
 obtain ⟨d, op, ty, pos, af, g⟩ := o
 cases g with
 | none => rfl
 | some g =>
   obtain ⟨j, b⟩ := g
   show (yielded (reL σ x ops σ).toArray t (σ.idxOf j) == some b) = (yielded ops.toArray t j == some b)
   rw [SI h]
theorem X4 (h : Perm σ ops.length) {i : Nat} (hi : i < ops.length) {K K' : Act → World → Prop} {a : Act} {w : World} (hk : ∀ a w, K' a w → K a w)
 (hw : wpOp P (reL σ x ops σ).toArray Q (σ.idxOf i) K' a w) : wpOp P ops.toArray Q i K a w := by
 have ho : ops[i]? = some (ops[i]'hi) := List.getElem?_eq_getElem hi
 have ho' := Lr (x := x) h ho
 generalize ops[i]'hi = o at ho ho'
 have a1 : ops.toArray[i]? = some o := by simpa using ho
 have a2 : (reL σ x ops σ).toArray[σ.idxOf i]? = some (reO σ x i o) := by simpa using ho'
 unfold wpOp at hw ⊢
 simp only [a2, QA h] at hw
 simp only [a1]
 split
 ·rename_i hwant
  rw [if_pos hwant] at hw
  rcases hw with hw | hw
  ·left
   exact Oper.wp_mono hk hw
  ·exact .inr hw
 ·rename_i hwant
  rw [if_neg hwant] at hw
  exact hk _ _ hw
theorem Ol (h : Perm σ ops.length) : ∀ (fuel : Nat) (l l' : Array Bool) (a : Act) (w : World), Lst σ ops.length l l' → wpAny P .any (reL σ x ops σ).toArray Q fuel l' a w → wpAny P .any ops.toArray Q fuel l a w := by
 have nil : ∀ {l l' : Array Bool}, Lst σ ops.length l l' → Region.ready .any ops.toArray l = [] → Region.ready .any (reL σ x ops σ).toArray l' = [] := by
  intro l l' L he
  refine List.eq_nil_iff_forall_not_mem.2 fun q hq => ?_
  have hql : q < ops.length := by
   obtain ⟨_, o, ho, _⟩ := mem_ready.1 hq
   have := (Array.getElem?_eq_some_iff.1 ho).1
   simp only [List.size_toArray, Iv, h.len] at this
   exact this
  have hi : σ.getD q ops.length < ops.length := by
   have hl := h.len
   rw [List.getD_eq_getElem?_getD, List.getElem?_eq_getElem (by omega), Option.getD_some]
   exact h.lt _ (List.getElem_mem _)
  have := (Iw (x := x) h L hi).2 (by rw [h.forth q hql]; exact hq)
  rw [he] at this
  cases this
 intro fuel
 induction fuel with
 | zero =>
   intro l l' a w L hw
   obtain ⟨h1, h2⟩ := hw
   refine ⟨?_, h2⟩
   refine List.eq_nil_iff_forall_not_mem.2 fun i hi => ?_
   have hil : i < ops.length := by
    obtain ⟨_, o, ho, _⟩ := mem_ready.1 hi
    have := (Array.getElem?_eq_some_iff.1 ho).1
    simpa using this
   have := (Iw (x := x) h L hil).1 hi
   rw [h1] at this
   cases this
 | succ fuel ih =>
   intro l l' a w L hw
   obtain ⟨h1, h2⟩ := hw
   refine ⟨fun he => h1 (nil L he), fun i hi => ?_⟩
   have hil : i < ops.length := by
    obtain ⟨_, o, ho, _⟩ := mem_ready.1 hi
    have := (Array.getElem?_eq_some_iff.1 ho).1
    simpa using this
   refine X4 h hil (fun a w => ih _ _ a w ⟨by simp [L.s], by simp [L.s'], fun j hj => ?_⟩) (h2 _ ((Iw (x := x) h L hil).1 hi))
   have hij : i = j ↔ σ.idxOf i = σ.idxOf j := by
    constructor
    ·intro e; rw [e]
    ·intro e
     have a1 := h.back i hil
     have a2 := h.back j hj
     rw [e, a2] at a1
     injection a1 with a1
     exact a1.symm
   by_cases e : i = j
   ·subst e
    have s1 : i < l.size := by rw [L.s]; exact hil
    have s2 : σ.idxOf i < l'.size := by rw [L.s']; exact PU h hil
    simp [s1, s2]
   ·rw [getD_set_ne false e, getD_set_ne false (fun e' => e (hij.2 e'))]
    exact L.eq j hj
end
def F7 (τ : List (Nat × List Nat × List (Nat × Nat))) : Code → Bool
 | .region id ops true => match S6 id τ with
   | some (σ, _) => V1 σ ops.toList.length
   | none => true
 | .seq a b => F7 τ a && F7 τ b
 | .cond _ a b => F7 τ a && F7 τ b
 | .block _ c => F7 τ c
 | .loop c => F7 τ c
 | _ => true
open Go.RowKit (Below)
def C7 (mode : FuncId → Mode) (n : Nat) : Code → Bool
 | .region _ ops d => ops.toList.all (fun o => Bv n o.dst) && (!d || Ji mode ops.toList)
 | .seq a b => C7 mode n a && C7 mode n b
 | .cond _ a b => C7 mode n a && C7 mode n b
 | .block _ c => C7 mode n c
 | .loop c => C7 mode n c
 | _ => true
def exOf : Ex → Exit
 | .nrm => .normal
 | .exit id => .exit id
 | .ret => .ret
section
variable {P : Program} {C : Cfg} {p : Par}
def J1 (P : Program) (C : Cfg) (loop : AZ) (r : Nat) : Prop :=
 ∀ keep fl τ c e H x e' H', loop keep fl (reC τ c) e H = some (x, e', H') → ∀ (n : Nat), C7 C.mode n (reC τ c) = true → F7 τ c = true → ∀ (p : Par) φ w a (Q : Exit → Act → World → Prop), p.G = C.glob → p.R0 ≤ fl → fl ≤ H.length → n ≤ a.tmps.size →
  HR p φ H w → TmpR φ w keep e [] a → NoFloat φ H H' → HB H → EL H.length e → (∀ a' w' φ', Post p keep fl φ H w a e' [] H' a' w' φ' → Q (exOf x) a' w') → Code.rounds P c Q r a w
theorem Post.trans {keep : List Tmp} {fl : Nat} {φ φ1 φ2 : Phi} {H H1 H2 : LH} {w w1 w2 : World} {a a1 a2 : Act} {e1 e2 : Env} {l1 l2 : Loc}
 (h : Post p keep fl φ H w a e1 l1 H1 a1 w1 φ1) (k : Post p keep fl φ1 H1 w1 a1 e2 l2 H2 a2 w2 φ2) (nf : NoFloat φ H H1) : Post p keep fl φ H w a e2 l2 H2 a2 w2 φ2 :=
 ⟨k.hr, k.tmp, h.step.trans k.step nf, by rw [k.size, h.size], by rw [k.defs, h.defs]⟩
theorem RK (hmix : P.follows .mixedOrders = true) {call : AM} {loop : AZ} {r : Nat} (hc : Cp P C.glob call) (hg : Cn call) (hl : FV call) (hm : Fs C.mode call) (hlo : J1 P C loop r) (hlg : FX loop) (hll : J0 loop) (hGl : GloL C.glob)
 (hG : p.G = C.glob) {keep : List Tmp} {fl n : Nat} (hR : p.R0 ≤ fl) {τ : List (Nat × List Nat × List (Nat × Nat))} : ∀ {c : Code} {e : Env} {H : LH} {x : Ex} {e' : Env} {H' : LH} {φ : Phi} {w : World} {a : Act} {Q : Exit → Act → World → Prop}, exec (mk P C call loop keep fl) (reC τ c) e H = some (x, e', H') → C7 C.mode n (reC τ c) = true → F7 τ c = true →
  fl ≤ H.length → n ≤ a.tmps.size → HR p φ H w → TmpR φ w keep e [] a → NoFloat φ H H' → HB H → EL H.length e → (∀ a' w' φ', Post p keep fl φ H w a e' [] H' a' w' φ' → Q (exOf x) a' w') → c.wp P Q a w := by
 intro c
 induction c with
 | region id ops d =>
   intro e H x e' H' φ w a Q hx hok hpe hf hn h hT nf hb hE k
   have kk : ∀ {l : Loc} {H1 : LH} {x : Ex} {e' : Env} {H' : LH}, some (Ex.nrm, DY keep e l, H1) = some (x, e', H') → (∀ a' w' φ', Post p keep fl φ H w a e' [] H' a' w' φ' → Q (exOf x) a' w') → ∀ a' w' φ', Post p keep fl φ H w a e l H1 a' w' φ' → Q .normal a' w' := by
    intro l H1 x e' H' hx k a' w' φ' q
    injection hx with hx; injection hx with h1 hx; injection hx with h2 h3; subst h1; subst h2; subst h3
    exact k a' w' φ' ⟨q.hr, UI q.tmp, q.step, q.size, q.defs⟩
   have hH : ∀ {l : Loc} {H1 : LH} {x : Ex} {e' : Env} {H' : LH}, some (Ex.nrm, DY keep e l, H1) = some (x, e', H') → H1 = H' := by
    intro l H1 x e' H' hx
    injection hx with hx; injection hx with h1 hx; injection hx with h2 h3
   cases d with
   | false =>
     simp only [reC, exec] at hx
     split at hx
     ·rename_i l H1 hs
      simp only [reC, C7, Bool.and_eq_true, List.all_eq_true] at hok
      have := hH hx
      subst this
      refine wp_region_list ?_
      exact opsW hc hg hl hGl hG hR hs hok.1 hn h hT hf nf hb hE (fun t v hv => by cases hv) (kk hx k)
     ·cases hx
   | true =>
     cases hfi : S6 id τ with
     | none =>
       simp only [reC, hfi, reR, exec] at hx
       split at hx
       ·rename_i l H1 hs
        simp only [reC, hfi, reR, C7, Bool.and_eq_true, List.all_eq_true] at hok
        have := hH hx
        subst this
        have hD : Ji C.mode ops.toList = true := by simpa using hok.2
        exact wp_region_any hmix (Pj hc hg hl hGl hm hG hR hD hs hok.1 hn h hT hf nf hb hE (kk hx k))
       ·cases hx
     | some y =>
       obtain ⟨σ, y⟩ := y
       simp only [reC, hfi, reR, exec] at hx
       split at hx
       ·rename_i l H1 hs
        simp only [reC, hfi, reR, C7, Bool.and_eq_true, List.all_eq_true] at hok
        simp only [F7, hfi] at hpe
        have := hH hx
        subst this
        have hD : Ji C.mode (reL σ y ops.toList σ) = true := by simpa using hok.2
        have hP := SD hpe
        have hA := Pj (P := P) (Q := Q) hc hg hl hGl hm hG hR hD hs hok.1 hn h hT hf nf hb hE (kk hx k)
        have hsz : (reL σ y ops.toList σ).toArray.size = ops.size := by
         rw [List.size_toArray, Iv, hP.len, Array.length_toList]
        rw [hsz] at hA
        refine wp_region_any hmix ?_
        have := Ol hP ops.size (Array.replicate ops.size false) (Array.replicate ops.size false) a { w with drawn := w.drawn + 1 } ⟨by simp, by simp, fun i hi => by
         have h1 : i < ops.size := by simpa using hi
         have h2 := PU hP hi
         have h2 : σ.idxOf i < ops.size := by simpa using h2
         simp [h1, h2]⟩ hA
        simpa using this
       ·cases hx
 | seq a b iha ihb =>
   intro e H x e' H' φ w ac Q hx hok hpe hf hn h hT nf hb hE k
   simp only [reC, exec] at hx
   simp only [reC, C7, Bool.and_eq_true] at hok
   simp only [F7, Bool.and_eq_true] at hpe
   cases ha : exec (mk P C call loop keep fl) (reC τ a) e H with
   | none => rw [ha] at hx; cases hx
   | some y =>
     rw [ha] at hx
     obtain ⟨y, e1, H1⟩ := y
     have g1 := BJ hg hlg hf ha
     have kl := Ga hl hg hll hlg hGl hf hb hE ha
     refine wp_seq ?_
     cases y with
     | nrm =>
       have g2 := BJ hg hlg (Nat.le_trans hf g1.len) hx
       have nf1 : NoFloat φ H H1 := nf.left g2.len
       refine iha ha hok.1 hpe.1 hf hn h hT nf1 hb hE fun a1 w1 φ1 q1 => ?_
       refine ihb hx hok.2 hpe.2 (Nat.le_trans hf g1.len) (by rw [q1.size]; exact hn) q1.hr q1.tmp (nf.right q1.step) kl.1 kl.2 fun a2 w2 φ2 q2 => ?_
       exact k a2 w2 φ2 (q1.trans q2 nf1)
     | exit j =>
       injection hx with hx; injection hx with h1 hx; injection hx with h2 h3; subst h1; subst h2; subst h3
       exact iha ha hok.1 hpe.1 hf hn h hT nf hb hE fun a1 w1 φ1 q1 => k a1 w1 φ1 q1
     | ret =>
       injection hx with hx; injection hx with h1 hx; injection hx with h2 h3; subst h1; subst h2; subst h3
       exact iha ha hok.1 hpe.1 hf hn h hT nf hb hE fun a1 w1 φ1 q1 => k a1 w1 φ1 q1
 | cond o a b iha ihb =>
   intro e H x e' H' φ w ac Q hx hok hpe hf hn h hT nf hb hE k
   simp only [reC, exec] at hx
   simp only [reC, C7, Bool.and_eq_true] at hok
   simp only [F7, Bool.and_eq_true] at hpe
   split at hx
   ·rename_i hc'
    have hv := A9 hT hc'
    simp only [VR] at hv
    exact wp_cond_true hv (iha hx hok.1 hpe.1 hf hn h hT nf hb hE k)
   ·rename_i hc'
    have hv := A9 hT hc'
    simp only [VR] at hv
    exact wp_cond_false hv (ihb hx hok.2 hpe.2 hf hn h hT nf hb hE k)
   ·cases hx
 | block id c ih =>
   intro e H x e' H' φ w ac Q hx hok hpe hf hn h hT nf hb hE k
   simp only [reC, exec] at hx
   simp only [reC, C7] at hok
   simp only [F7] at hpe
   cases ha : exec (mk P C call loop keep fl) (reC τ c) e H with
   | none => rw [ha] at hx; cases hx
   | some y =>
     rw [ha] at hx
     obtain ⟨y, e1, H1⟩ := y
     refine wp_block ?_
     cases y with
     | nrm =>
       injection hx with hx; injection hx with h1 hx; injection hx with h2 h3; subst h1; subst h2; subst h3
       exact ih ha hok hpe hf hn h hT nf hb hE k
     | exit j =>
       dsimp only at hx
       split at hx
       ·rename_i hj
        injection hx with hx; injection hx with h1 hx; injection hx with h2 h3; subst h1; subst h2; subst h3
        refine ih ha hok hpe hf hn h hT nf hb hE fun a1 w1 φ1 q1 => ?_
        simp only [exOf, Exit.inBlock, hj, if_true]
        exact k a1 w1 φ1 q1
       ·rename_i hj
        injection hx with hx; injection hx with h1 hx; injection hx with h2 h3; subst h1; subst h2; subst h3
        refine ih ha hok hpe hf hn h hT nf hb hE fun a1 w1 φ1 q1 => ?_
        simp only [exOf, Exit.inBlock, hj, if_false]
        exact k a1 w1 φ1 q1
     | ret =>
       injection hx with hx; injection hx with h1 hx; injection hx with h2 h3; subst h1; subst h2; subst h3
       exact ih ha hok hpe hf hn h hT nf hb hE k
 | loop c ih =>
   intro e H x e' H' φ w ac Q hx hok hpe hf hn h hT nf hb hE k
   exact wp_loop_rounds r (hlo _ _ τ c _ _ _ _ _ hx n hok hpe p φ w ac Q hG hR hf hn h hT nf hb hE k)
 | skip =>
   intro e H x e' H' φ w ac Q hx hok hpe hf hn h hT nf hb hE k
   injection hx with hx; injection hx with h1 hx; injection hx with h2 h3; subst h1; subst h2; subst h3
   exact wp_skip (k ac w φ ⟨h, hT, .refl, rfl, rfl⟩)
 | label =>
   intro e H x e' H' φ w ac Q hx hok hpe hf hn h hT nf hb hE k
   injection hx with hx; injection hx with h1 hx; injection hx with h2 h3; subst h1; subst h2; subst h3
   exact wp_label (k ac w φ ⟨h, hT, .refl, rfl, rfl⟩)
 | exit =>
   intro e H x e' H' φ w ac Q hx hok hpe hf hn h hT nf hb hE k
   injection hx with hx; injection hx with h1 hx; injection hx with h2 h3; subst h1; subst h2; subst h3
   exact wp_exit (k ac w φ ⟨h, hT, .refl, rfl, rfl⟩)
 | ret =>
   intro e H x e' H' φ w ac Q hx hok hpe hf hn h hT nf hb hE k
   injection hx with hx; injection hx with h1 hx; injection hx with h2 h3; subst h1; subst h2; subst h3
   exact wp_ret (k ac w φ ⟨h, hT, .refl, rfl, rfl⟩)
 | _ => intro e H x e' H' φ w ac Q hx; cases hx
theorem Qi (hmix : P.follows .mixedOrders = true) {call : AM} {loop : AZ} {r : Nat} (hc : Cp P C.glob call) (hg : Cn call) (hl : FV call) (hm : Fs C.mode call) (hlo : J1 P C loop r) (hlg : FX loop) (hll : J0 loop) (hGl : GloL C.glob) :
 J1 P C (AL P C call loop) (r + 1) := by
 intro keep fl τ c e H x e' H' h n hok hpe p φ w a Q hG hR hf hn hr hT nf hb hE k
 rw [rounds_succ]
 unfold AL at h
 cases hx : exec (mk P C call loop keep fl) (reC τ c) e H with
 | none => rw [hx] at h; cases h
 | some y =>
   rw [hx] at h
   obtain ⟨y, e1, H1⟩ := y
   have g1 := BJ hg hlg hf hx
   have kl := Ga hl hg hll hlg hGl hf hb hE hx
   cases y with
   | nrm =>
     have g2 := hlg _ _ _ _ _ _ _ _ h (Nat.le_trans hf g1.len)
     have nf1 : NoFloat φ H H1 := nf.left g2.len
     refine RK hmix hc hg hl hm hlo hlg hll hGl hG hR hx hok hpe hf hn hr hT nf1 hb hE fun a1 w1 φ1 q1 => ?_
     show Code.rounds P c Q r a1 w1
     refine hlo _ _ τ c _ _ _ _ _ h n hok hpe p φ1 w1 a1 Q hG hR (Nat.le_trans hf g1.len) (by rw [q1.size]; exact hn) q1.hr q1.tmp (nf.right q1.step) kl.1 kl.2 fun a2 w2 φ2 q2 => ?_
     exact k a2 w2 φ2 (q1.trans q2 nf1)
   | exit j =>
     injection h with h; injection h with h1 h; injection h with h2 h3; subst h1; subst h2; subst h3
     exact RK hmix hc hg hl hm hlo hlg hll hGl hG hR hx hok hpe hf hn hr hT nf hb hE fun a1 w1 φ1 q1 => k a1 w1 φ1 q1
   | ret =>
     injection h with h; injection h with h1 h; injection h with h2 h3; subst h1; subst h2; subst h3
     exact RK hmix hc hg hl hm hlo hlg hll hGl hG hR hx hok hpe hf hn hr hT nf hb hE fun a1 w1 φ1 q1 => k a1 w1 φ1 q1
end
open Go.RowKit (Below)
def okF (P : Program) (C : Cfg) (K : FuncId) : Bool :=
 match P.funcs[K]? with
 | some fn => match fn.body with
   | some c => C7 C.mode fn.ntmps (reC (C.ord K) c) && F7 (C.ord K) c && fn.name != "runtime.NumGoroutine"
   | none => false
 | none => false
def Phi.cut (φ : Phi) (n : Nat) : Phi := fun b => if b < n then φ b else none
theorem BW {φ : Phi} {n b : Nat} {x : Nat × Nat} : φ.cut n b = some x ↔ b < n ∧ φ b = some x := by
 unfold Phi.cut
 split
 ·rename_i h; exact ⟨fun e => ⟨h, e⟩, fun e => e.2⟩
 ·rename_i h; exact ⟨fun e => (by cases e), fun e => absurd e.1 h⟩
mutual
theorem VR.cut {φ : Phi} {n : Nat} {w : World} : ∀ {v : V} {u : Value}, V.lt n v → VR φ w v u → VR (φ.cut n) w v u
 | .bool _, _, _, e => by simp only [VR] at e ⊢; exact e
 | .int _ _, _, _, e => by simp only [VR] at e ⊢; exact e
 | .str _, _, _, e => by simp only [VR] at e ⊢; exact e
 | .ptr _ _, _, h, e => by simp only [VR, V.lt] at h e ⊢; obtain ⟨q, d, hb, e⟩ := e; exact ⟨q, d, BW.2 ⟨h, hb⟩, e⟩
 | .gptr _ _, _, _, e => by simp only [VR] at e ⊢; exact e
 | .nilp, _, _, e => by simp only [VR] at e ⊢; exact e
 | .sl _ _ _ _ _, _, h, e => by
   simp only [VR, V.lt] at h e ⊢
   obtain ⟨hn, q, d, off, c', hb, e⟩ := e
   exact ⟨hn, q, d, off, c', BW.2 ⟨h, hb⟩, e⟩
 | .nilsl, _, _, e => by simp only [VR] at e ⊢; exact e
 | .emp, _, _, e => by simp only [VR] at e ⊢; exact e
 | .map _, _, h, e => by simp only [VR, V.lt] at h e ⊢; obtain ⟨q, d, hb, e⟩ := e; exact ⟨q, d, BW.2 ⟨h, hb⟩, e⟩
 | .nilmap, _, _, e => by simp only [VR] at e ⊢; exact e
 | .fn _ _, _, h, e => by simp only [VR, V.lt] at h e ⊢; obtain ⟨cs, e, k⟩ := e; exact ⟨cs, e, VRs.cut h k⟩
 | .nilfn, _, _, e => by simp only [VR] at e ⊢; exact e
 | .agg _, _, h, e => by simp only [VR, V.lt] at h e ⊢; obtain ⟨hs, us, e, k⟩ := e; exact ⟨hs, us, e, VRs.cut h k⟩
 | .tup _, _, h, e => by simp only [VR, V.lt] at h e ⊢; obtain ⟨us, e, k⟩ := e; exact ⟨us, e, VRs.cut h k⟩
theorem VRs.cut {φ : Phi} {n : Nat} {w : World} : ∀ {vs : List V} {us : List Value}, V.lts n vs → VRs φ w vs us → VRs (φ.cut n) w vs us
 | [], _, _, e => by simp only [VRs] at e ⊢; exact e
 | _ :: _, _, h, e => by
   simp only [VRs, V.lts] at h e ⊢
   obtain ⟨u, us', e, k, ks⟩ := e
   exact ⟨u, us', e, VR.cut h.1 k, VRs.cut h.2 ks⟩
end
mutual
theorem VR.free {φ φ' : Phi} {w w' : World} : ∀ {v : V} {u : Value}, v.noAddr = true → VR φ w v u → VR φ' w' v u
 | .bool _, _, _, e => by simp only [VR] at e ⊢; exact e
 | .int _ _, _, _, e => by simp only [VR] at e ⊢; exact e
 | .str _, _, _, e => by simp only [VR] at e ⊢; exact e
 | .ptr _ _, _, h, _ => by simp [V.noAddr] at h
 | .gptr _ _, _, _, e => by simp only [VR] at e ⊢; exact e
 | .nilp, _, _, e => by simp only [VR] at e ⊢; exact e
 | .sl _ _ _ _ _, _, h, _ => by simp [V.noAddr] at h
 | .nilsl, _, _, e => by simp only [VR] at e ⊢; exact e
 | .emp, _, _, e => by simp only [VR] at e ⊢; exact e
 | .map _, _, h, _ => by simp [V.noAddr] at h
 | .nilmap, _, _, e => by simp only [VR] at e ⊢; exact e
 | .fn _ _, _, h, _ => by simp [V.noAddr] at h
 | .nilfn, _, _, e => by simp only [VR] at e ⊢; exact e
 | .agg _, _, h, e => by simp only [VR, V.noAddr] at h e ⊢; obtain ⟨hs, us, e, k⟩ := e; exact ⟨hs, us, e, VRs.free h k⟩
 | .tup _, _, h, e => by simp only [VR, V.noAddr] at h e ⊢; obtain ⟨us, e, k⟩ := e; exact ⟨us, e, VRs.free h k⟩
theorem VRs.free {φ φ' : Phi} {w w' : World} : ∀ {vs : List V} {us : List Value}, V.noAddrs vs = true → VRs φ w vs us → VRs φ' w' vs us
 | [], _, _, e => by simp only [VRs] at e ⊢; exact e
 | _ :: _, _, h, e => by
   simp only [VRs, V.noAddrs, Bool.and_eq_true] at h e ⊢
   obtain ⟨u, us', e, k, ks⟩ := e
   exact ⟨u, us', e, VR.free h.1 k, VRs.free h.2 ks⟩
end
theorem EsR.cut {φ : Phi} {n : Nat} {w : World} : ∀ {es : List (V × V)} {us : List MapEntry}, (∀ e ∈ es, V.lt n e.1 ∧ V.lt n e.2) → EsR φ w es us → EsR (φ.cut n) w es us
 | [], _, _, e => e
 | (k, v) :: _, _, h, ⟨m, us', e, a, b, c⟩ => ⟨m, us', e, a.cut (h (k, v) (by simp)).1, b.cut (h (k, v) (by simp)).2, EsR.cut (fun e he => h e (by simp [he])) c⟩
theorem HR.cut {p : Par} {φ : Phi} {H : LH} {w : World} (h : HR p φ H w) (hb : HB H) : HR p (φ.cut H.length) H w := by
 refine ⟨fun b q d x e hx => ?_, fun b q d e => h.bnd b q d (BW.1 e).2, fun b b' q d d' e e' => h.inj b b' q d d' (BW.1 e).2 (BW.1 e').2, fun b q d e => h.low b q d (BW.1 e).2, h.q0, h.old, h.glo⟩
 have hlt := hb b x hx
 have := h.blk b q d x (BW.1 e).2 hx
 cases x with
 | cells cs =>
   obtain ⟨c, T, fz, h1, h2, h3, h4⟩ := this
   refine ⟨c, T, fz, h1, h2, fun i v hi => ?_, h4⟩
   obtain ⟨hs, u, hu, r⟩ := h3 i v hi
   exact ⟨hs, u, hu, r.cut (hlt v (List.mem_of_getElem? hi))⟩
 | map es =>
   obtain ⟨us, clk, h1, h2⟩ := this
   exact ⟨us, clk, h1, h2.cut hlt⟩
 | dead => trivial
theorem Step.mono {fl fl' : Nat} {φ φ' : Phi} {H H' : LH} {w w' : World} (h : Step fl' φ H w φ' H' w') (k : fl ≤ fl') : Step fl φ H w φ' H' w' :=
 ⟨h.ext, h.dom, fun b q d e n => (h.img b q d e n).imp id fun ⟨b0, d0, h1, h2, h3⟩ => ⟨b0, d0, Nat.le_trans k h1, h2, h3⟩,
   fun q hq hn => h.frm q hq fun b d h1 h2 => hn b d (Nat.le_trans k h1) h2, h.len, h.grow.mono k⟩
theorem Step.same {fl : Nat} {φ φ' : Phi} {H : LH} {w w' : World} (h : Step fl φ H w φ' H w') : φ' = φ := by
 funext b
 cases e : φ b with
 | some x => exact h.ext.ext b x e
 | none =>
   cases e' : φ' b with
   | none => rfl
   | some x => have := h.dom b x e' e; omega
section
variable {P : Program} {C : Cfg} {p : Par} {φ : Phi} {H : LH} {w : World}
theorem Hk {args : List V} {t : Tmp} {v : V} : ∀ {ks : List Tmp}, CC ks (BH ks args) t = some v → args[t]? = some v
 | [], h => by simp only [CC] at h; cases h
 | k :: ks, h => by
   simp only [CC, BH] at h
   split at h
   ·rename_i e; subst e; exact h
   ·exact Hk h
theorem RX {args : List V} {us : List Value} {keep : List Tmp} {m : Nat} (h : VRs φ w args us) : TmpR φ w keep (BH keep args) [] { tmps := ⟨us⟩ ++ Array.replicate m undef, defers := [] } := by
 intro t v e
 have ha := Hk e
 obtain ⟨u, hu, hr⟩ := (An.1 h).2 t v ha
 have ht : t < us.length := (List.getElem?_eq_some_iff.1 hu).1
 have : ((⟨us⟩ : Array Value) ++ Array.replicate m undef).getD t undef = u := by
  rw [Array.getD_eq_getD_getElem?, Array.getElem?_append_left (by simpa using ht)]
  simp [hu]
 rw [this]; exact hr
theorem QB {call : AM} {loop : AZ} {keep : List Tmp} {fl : Nat} {env : Env} {a : Act} (hG : p.G = C.glob) (h : HR p φ H w) (hT : TmpR φ w keep env [] a) : ∀ {rs : List ResultVar} {vs : List V}, allV (resV (mk P C call loop keep fl) env H rs) = some vs →
 ∃ us, (rs.mapM (m := Sem) fun | .tmp t => pure (a.tmps.getD t undef) | .cell c t => do loadVar t (← asAddr (a.tmps.getD c undef))).run P w = .ok us w ∧ VRs φ w vs us
 | [], vs, e => by injection e with e; subst e; exact ⟨[], by simp, by simp only [VRs]⟩
 | r :: rs, vs, e => by
   have key : ∀ (v : Option V), allV (v :: resV (mk P C call loop keep fl) env H rs) = some vs → ∃ v0 vs0, v = some v0 ∧ allV (resV (mk P C call loop keep fl) env H rs) = some vs0 ∧ vs = v0 :: vs0 := by
    intro v e
    cases v with
    | none => cases e
    | some v0 =>
      simp only [allV] at e
      split at e
      ·rename_i l hl; injection e with e; exact ⟨v0, l, rfl, hl, e.symm⟩
      ·cases e
   cases r with
   | tmp t =>
     simp only [resV] at e
     obtain ⟨v0, vs0, h1, h2, rfl⟩ := key _ e
     obtain ⟨us, hu, hr⟩ := QB hG h hT h2
     refine ⟨a.tmps.getD t undef :: us, ?_, by simp only [VRs]; exact ⟨_, _, rfl, hT t v0 h1, hr⟩⟩
     simp only [List.mapM_cons, Sem.run_bind, Sem.run_pure, Result.andThen_ok]
     rw [hu]; rfl
   | cell c t =>
     simp only [resV] at e
     obtain ⟨v0, vs0, h1, h2, rfl⟩ := key _ e
     obtain ⟨us, hu, hr⟩ := QB hG h hT h2
     split at h1
     ·rename_i va hva
      unfold valO at h1
      split at h1
      ·rename_i v' H' hl
       injection h1 with h1; subst h1
       have hH := CI hl
       subst hH
       have hl : BX C.glob H' va (ty P t) = some (v', H') := hl
       obtain ⟨u, hu', φ', hv, _, st⟩ := My (P := P) (fl := H'.length) h (hT c va hva) (by rw [hG]; exact hl)
       rw [st.same] at hv
       refine ⟨u :: us, ?_, by simp only [VRs]; exact ⟨_, _, rfl, hv, hr⟩⟩
       have hp : ∃ ad, a.tmps.getD c undef = .pointer (some ad) := by
        have hv := hT c va hva
        unfold BX at hl
        split at hl
        ·unfold Gi at hl
         split at hl
         ·simp only [VR] at hv; obtain ⟨q, d, _, hv⟩ := hv; exact ⟨_, hv⟩
         ·simp only [VR] at hv; exact ⟨_, hv⟩
         ·cases hl
        ·cases hl
       obtain ⟨ad, had⟩ := hp
       rw [had] at hu'
       have hu2 : (loadVar t ad).run P w = .ok u w := hu'
       rw [List.mapM_cons]
       revert hu
       generalize (List.mapM (m := Sem) _ rs : Sem (List Value)) = M
       intro hu
       simp only [had, asAddr, pure_bind]
       rw [Sem.run_bind, hu2]
       simp only [Result.andThen_ok]
       rw [Sem.run_bind, hu]
       rfl
      ·cases h1
     ·cases h1
theorem O1 {fn : Func} {call : AM} {loop : AZ} {keep : List Tmp} {fl : Nat} {env : Env} {a : Act} {vs : List V} (hG : p.G = C.glob) (h : HR p φ H w) (hT : TmpR φ w keep env [] a)
 (e : allV (resV (mk P C call loop keep fl) env H fn.results.toList) = some vs) : ∃ u, (results fn a.tmps).run P w = .ok u w ∧ VR φ w (oneV vs) u := by
 obtain ⟨us, hu, hr⟩ := QB hG h hT e
 unfold results
 rw [Array.mapM_eq_mapM_toList]
 have hrun : ∀ (f : ResultVar → Sem Value), (fn.results.toList.mapM f).run P w = .ok us w → (do let vs ← List.toArray <$> fn.results.toList.mapM f; pure (if h : vs.size = 1 then vs[0] else .tuple vs) : Sem Value).run P w = .ok (if h : us.toArray.size = 1 then us.toArray[0] else .tuple us.toArray) w := by
  intro f hf
  simp only [Sem.run_bind, map_eq_pure_bind, hf, Result.andThen_ok, Sem.run_pure]
 refine ⟨_, hrun _ hu, ?_⟩
 match vs, us, hr with
 | [], us, hr => simp only [VRs] at hr; subst hr; simp only [oneV, VR, VRs]; exact ⟨[], rfl, rfl⟩
 | [v], us, hr => simp only [VRs] at hr; obtain ⟨u, us', rfl, hv, rfl⟩ := hr; simp only [oneV]; exact hv
 | v :: x :: vs, us, hr =>
   have hr0 := hr
   simp only [VRs] at hr
   obtain ⟨u, us', rfl, hv, y, ys, rfl, _, _⟩ := hr
   simp only [oneV, VR]
   exact ⟨_, rfl, hr0⟩
theorem JK {fn : Func} {s : String} (hn : fn.name = s) (ho : fn.origin = "") (h : Extern.allNextRows.lookup s = none) : Extern.findNext fn = none := by
 unfold Extern.findNext
 have h2 : Extern.allNextRows.lookup "" = none := by kernel_rfl
 simp only [hn, ho, h, h2]
 rfl
theorem Mn {fn : Func} {s : String} {f : Array Value → Sem Value} (hn : fn.name = s) (h : Extern.allGenericRows.lookup s = none) (h2 : Extern.allTypedRows.lookup s = none) (h3 : Extern.allRows.lookup s = some f) : Extern.find fn = some f := by
 unfold Extern.find
 simp only [hn, h, h2, h3]
 rfl
theorem UA (s : ByteArray) (c : Int) : Extern.BytealgIndexByte.indexByte #[.string s, .int .u8 c] = pure (Value.int .i64 (idxB s (UInt8.ofNat c.toNat))) := by
 show (match (List.range s.size).find? fun i => s[i]! == UInt8.ofNat c.toNat with
  | some i => pure (goInt i)
  | none => pure (goInt (-1)) : Sem Value) = _
 unfold idxB
 cases (List.range s.size).find? fun i => s[i]! == UInt8.ofNat c.toNat <;> rfl
theorem QO {P : Program} {w : World} {fn : Func} {K : FuncId} {us : List Value} {f : Array Value → Sem Value} {x : Value} (hfn : P.funcs[K]? = some fn) (hb : fn.body = none) (hr : (fn.name == "runtime.NumGoroutine") = false)
 (h1 : Extern.findNext fn = none) (h2 : Extern.find fn = some f) (h3 : f ⟨us⟩ = pure x) : (callFunc K ⟨us⟩).run P w = .ok (.value x) w := by
 simp only [callFunc, run_program, Sem.run_bind, Result.andThen_ok, hfn, hr, hb, h1, h2, h3, Option.isNone_none, if_true, Bool.false_eq_true, if_false]
 rfl
theorem Ue (s : ByteArray) (c : Int) : Extern.BytealgCount.count #[.string s, .int .u8 c] = pure (Value.int .i64 (cntB s (UInt8.ofNat c.toNat))) := by
 rfl
theorem VX {P : Program} {φ : Phi} {w : World} {fn : Func} {K : FuncId} (hfn : P.funcs[K]? = some fn) (hb : fn.body = none) {args : List V} {H H' : LH} {v : V} {us : List Value} (hus : VRs φ w args us) (e : ext P fn args H = some (v, H')) :
 ∃ n, v = .int .i64 n ∧ H' = H ∧ (callFunc K ⟨us⟩).run P w = .ok (.value (.int .i64 n)) w := by
 have key : ∀ {s : ByteArray} {c : Int}, args = [.str s, .int .u8 c] → us = [.string s, .int .u8 c] := by
  intro s c h
  subst h
  simp only [VRs] at hus
  obtain ⟨u, us', rfl, h1, u2, us2, rfl, h2, rfl⟩ := hus
  simp only [VR] at h1 h2
  subst h1; subst h2; rfl
 unfold ext at e
 split at e
 ·rename_i hn
  unfold idxA at e
  split at e
  ·rename_i s c
   injection e with e; injection e with e1 e2
   obtain rfl := key rfl
   refine ⟨_, e1.symm, e2.symm, ?_⟩
   have h1 := JK hn.1 hn.2 (by kernel_rfl)
   have h2 := Mn (f := Extern.BytealgIndexByte.indexByte) hn.1 (by kernel_rfl) (by kernel_rfl) (by kernel_rfl)
   exact QO hfn hb (by rw [hn.1]; kernel_rfl) h1 h2 (UA s c)
  ·cases e
 ·split at e
  ·rename_i hn
   unfold cntA at e
   split at e
   ·rename_i s c
    injection e with e; injection e with e1 e2
    obtain rfl := key rfl
    refine ⟨_, e1.symm, e2.symm, ?_⟩
    have h1 := JK hn.1 hn.2 (by kernel_rfl)
    have h2 := Mn (f := Extern.BytealgCount.count) hn.1 (by kernel_rfl) (by kernel_rfl) (by kernel_rfl)
    exact QO hfn hb (by rw [hn.1]; kernel_rfl) h1 h2 (Ue s c)
   ·cases e
  ·cases e
def Oq (P : Program) (C : Cfg) : Prop :=
 ∀ K k s args H, C.lib K = some k → libA k args H = some s → ∀ (p : Par) φ w us, p.G = C.glob → HR p φ H w → VRs φ w args us →
  (callFunc K ⟨us⟩).run P w = .ok (.enter K ⟨us⟩) w ∧ Calls P K ⟨us⟩ w (fun e w' => e = .returned (.string s) ∧ Below w.heap.size w w')
theorem OZ (hlib : Oq P C) (hmix : P.follows .mixedOrders = true) {ok : FuncId → Bool} (hok : ∀ K, ok K = true → okF P C K = true) {call : AM} {loop : AZ} {r : Nat} (hc : Cp P C.glob call) (hg : Cn call) (hl : FV call) (hm : Fs C.mode call) (hlo : J1 P C loop r) (hlg : FX loop) (hll : J0 loop) (hGl : GloL C.glob) :
 Cp P C.glob (Ar P C ok call loop) := by
 intro K args fl H v H' e p φ w us hG hR hf hb hargs h nf hus
 unfold Ar at e
 split at e
 ·rename_i fn hfn
  split at e
  ·rename_i c hbody
   split at e
   ·rename_i hokK
    have hk := hok K hokK
    simp only [okF, hfn, hbody, Bool.and_eq_true, bne_iff_ne, ne_eq] at hk
    have henter : (callFunc K ⟨us⟩).run P w = .ok (.enter K ⟨us⟩) w := by
     simp [callFunc, hfn, hk.2, hbody]
    rw [henter]
    refine .inr ⟨K, ⟨us⟩, w, rfl, ?_⟩
    refine calls_of_wp hfn hbody ?_
    have hfl := Ep (C.mode K) hf
    unfold BV Ac at e
    have fin : ∀ (φb : Phi) (x : Ex) (env' : Env) (H1 : LH), exec (mk P C call loop (C.keep K) (BK (C.mode K) fl H)) (reC (C.ord K) c) (BH (C.keep K) args) H = some (x, env', H1) → (x = .nrm ∨ x = .ret) →
     HR p φb H w → VRs φb w args us → NoFloat φb H H1 → ∀ vs, allV (resV (mk P C call loop (C.keep K) (BK (C.mode K) fl H)) env' H1 fn.results.toList) = some vs →
     (∀ u φ' w', VR φ' w' (oneV vs) u → HR p φ' H1 w' → Step (BK (C.mode K) fl H) φb H w φ' H1 w' → Res p fl φ H w v H' u w') →
     c.wp P (bodyPost P fn fun e w' => ∃ u, e = .returned u ∧ Res p fl φ H w v H' u w') { tmps := ⟨us⟩ ++ Array.replicate (fn.ntmps - (⟨us⟩ : Array Value).size) undef, defers := [] } w := by
     intro φb x env' H1 hx hxx hb' hus' nf' vs hvs k
     refine RK hmix hc hg hl hm hlo hlg hll hGl hG (Nat.le_trans hR hfl.1) hx hk.1.1 hk.1.2 hfl.2 (by simp; omega) hb' (RX hus') nf' hb (Em hargs) fun a' w' φ' q => ?_
     obtain ⟨u, hu, hv⟩ := O1 (call := call) (loop := loop) (fl := BK (C.mode K) fl H) (fn := fn) hG q.hr q.tmp hvs
     rcases hxx with rfl | rfl
     ·exact ⟨q.defs, u, hu, u, rfl, k u φ' w' hv q.hr q.step⟩
     ·exact ⟨q.defs, u, hu, u, rfl, k u φ' w' hv q.hr q.step⟩
    have main : ∀ (x : Ex) (env' : Env) (H1 : LH), exec (mk P C call loop (C.keep K) (BK (C.mode K) fl H)) (reC (C.ord K) c) (BH (C.keep K) args) H = some (x, env', H1) → (x = .nrm ∨ x = .ret) →
     EZ (C.mode K) H H1 (allV (resV (mk P C call loop (C.keep K) (BK (C.mode K) fl H)) env' H1 fn.results.toList)) = some (v, H') →
     c.wp P (bodyPost P fn fun e w' => ∃ u, e = .returned u ∧ Res p fl φ H w v H' u w') { tmps := ⟨us⟩ ++ Array.replicate (fn.ntmps - (⟨us⟩ : Array Value).size) undef, defers := [] } w := by
     intro x env' H1 hx hxx hlv
     unfold EZ at hlv
     split at hlv
     ·rename_i vs hvs
      cases hmode : C.mode K with
      | pure =>
        rw [hmode] at hlv
        obtain ⟨hna, hlv⟩ := A6 hlv
        injection hlv with hlv; injection hlv with h1 h2; subst h1; subst h2
        refine fin (φ.cut H.length) x env' H1 hx hxx (h.cut hb) (VRs.cut (Bq.2 hargs) hus) (fun b x e => .inl (BW.1 e).1) vs hvs fun u φ' w' hv h' st => ?_
        rw [hmode] at st
        have hfr : ∀ q, q < w.heap.size → w'.heap[q]? = w.heap[q]? := fun q hq => st.frm q hq fun b d h1 h2 => absurd h2 (Nat.not_lt.2 h1)
        have he : Ext φ w φ w' := ⟨fun _ _ h => h, st.ext.siz⟩
        refine ⟨φ, VR.free hna hv, ⟨fun b q d x e hx => (h.blk b q d x e hx).mono he (hfr q (h.bnd b q d e)), fun b q d e => Nat.lt_of_lt_of_le (h.bnd b q d e) st.len, h.inj, h.low, h'.q0, h'.old, h.glo⟩,
         ⟨he, fun b x e n => (by rw [e] at n; cases n), fun b q d e n => (by rw [e] at n; cases n), fun q hq _ => hfr q hq, st.len, .refl _ _⟩⟩
      | fresh =>
        rw [hmode] at hlv
        injection hlv with hlv; injection hlv with h1 h2; subst h1; subst h2
        refine fin φ x env' H1 hx hxx h hus nf vs hvs fun u φ' w' hv h' st => ?_
        rw [hmode] at st
        exact ⟨φ', hv, h', st.mono hf⟩
      | any =>
        rw [hmode] at hlv
        injection hlv with hlv; injection hlv with h1 h2; subst h1; subst h2
        refine fin φ x env' H1 hx hxx h hus nf vs hvs fun u φ' w' hv h' st => ?_
        rw [hmode] at st
        exact ⟨φ', hv, h', st⟩
     ·cases hlv
    split at e
    ·rename_i hx; exact main _ _ _ hx (.inl rfl) e
    ·rename_i hx; exact main _ _ _ hx (.inr rfl) e
    ·cases e
   ·obtain ⟨rfl, k, s, hk, hs, rfl⟩ := De e
    obtain ⟨he, hcl⟩ := hlib K k s args _ hk hs p φ w us hG h hus
    rw [he]
    refine .inr ⟨K, ⟨us⟩, w, rfl, hcl.mono ?_⟩
    rintro e w' ⟨rfl, hbl⟩
    have he : Ext φ w φ w' := ⟨fun _ _ h => h, fun q n ⟨c, T, fz, hq, hn⟩ => ⟨c, T, fz, by rw [hbl.block q (Array.getElem?_eq_some_iff.1 hq).1]; exact hq, hn⟩⟩
    refine ⟨_, rfl, φ, by simp only [VR], ⟨fun b q d x e hx => (h.blk b q d x e hx).mono he (hbl.block q (h.bnd b q d e)), fun b q d e => Nat.lt_of_lt_of_le (h.bnd b q d e) hbl.size, h.inj, h.low, Nat.le_trans h.q0 hbl.size, ?_, h.glo⟩,
     ⟨he, fun b x e n => (by rw [e] at n; cases n), fun b q d e n => (by rw [e] at n; cases n), fun q hq _ => hbl.block q hq, hbl.size, .refl _ _⟩⟩
    exact ⟨hbl.os.trans h.old.os, hbl.tape.trans h.old.tape, hbl.output.trans h.old.output, Nat.le_trans h.old.size hbl.size, fun k hk => (hbl.block k (Nat.lt_of_lt_of_le hk h.q0)).trans (h.old.block k hk)⟩
  ·rename_i hbody
   obtain ⟨n, rfl, rfl, hrun⟩ := VX hfn hbody hus e
   rw [hrun]
   exact .inl ⟨_, _, .same h (by simp only [VR]), .inl rfl⟩
 ·cases e
theorem QI (hlib : Oq P C) (hmix : P.follows .mixedOrders = true) {ok : FuncId → Bool} (hok : ∀ K, ok K = true → okF P C K = true) (hGl : GloL C.glob) : ∀ n, Cp P C.glob (runN P C ok n).1 ∧ J1 P C (runN P C ok n).2 n
 | 0 => ⟨fun _ _ _ _ _ _ h => (by cases h), fun _ _ _ _ _ _ _ _ _ h => (by cases h)⟩
 | n + 1 =>
   have ih := QI hlib hmix hok hGl n
   have g := B0 (P := P) (C := C) (ok := ok) n
   have l := Gx (P := P) (C := C) (ok := ok) hGl n
   have m := QH (P := P) (C := C) (ok := ok) n
   ⟨OZ hlib hmix hok ih.1 g.1 l.1 m ih.2 g.2 l.2 hGl, Qi hmix ih.1 g.1 l.1 m ih.2 g.2 l.2 hGl⟩
theorem VJ (hlib : Oq P C) (hmix : P.follows .mixedOrders = true) {ok : FuncId → Bool} (hok : ∀ K, ok K = true → okF P C K = true) (hGl : GloL C.glob) : Cp P C.glob (Run P C ok) := by
 intro K args fl H v H' e
 obtain ⟨n, hn⟩ := J2.1 e
 exact (QI hlib hmix hok hGl n).1 _ _ _ _ _ _ hn
end
open Go.RowKit (Below)
theorem Kr : ∀ {vs : List V} {xs : List ByteArray}, LO vs = some xs → xs.length = vs.length ∧ ∀ (j : Nat) x, xs[j]? = some x → vs[j]? = some (.str x)
 | [], xs, h => by cases h; exact ⟨rfl, fun j x hj => by cases j <;> cases hj⟩
 | v :: vs, xs, h => by
   cases v with
   | str s =>
     simp only [LO] at h
     cases hr : LO vs with
     | none => rw [hr] at h; cases h
     | some ys =>
       rw [hr] at h
       cases h
       have ih := Kr hr
       refine ⟨by simp [ih.1], fun j x hj => ?_⟩
       cases j with
       | zero => simp at hj; subst hj; rfl
       | succ j => simp at hj ⊢; exact ih.2 j x hj
   | _ => cases h
theorem P0 {w : World} {q i : Nat} {c : Array Value} {T : TypeId} {fz : Nat × Nat} {u : Value} (h : w.heap[q]? = some (.cells c T fz)) (k : c[i]? = some u) : w.cell? ⟨q, i, none⟩ = some u := by
 simp only [World.cell?, h]
 exact k
def VG (P : Program) (K : FuncId) : Prop := ∀ (s : ByteArray) (c : Nat) (w : World), c ≤ 9223372036854775807 → s.size * c ≤ 140737488355328 →
 Calls P K #[.string s, .int .i64 c] w fun e w' => e = .returned (.string ⟨(Lib.repeatL s.data.toList c).toArray⟩) ∧ Below w.heap.size w w'
def Te (P : Program) (K : FuncId) : Prop :=
 (∀ (a : Option Addr) (c : Nat) (sep : ByteArray) (w : World), Calls P K #[.slice a 0 c, .string sep] w fun e w' => e = .returned (.string ⟨#[]⟩) ∧ w' = w) ∧
 ∀ (bk o c : Nat) (xs : List ByteArray) (sep : ByteArray) (w : World) (hcells : ∀ (j : Nat) x, xs[j]? = some x → w.cell? ⟨bk, o + j, none⟩ = some (.string x))
  (hbk : bk < w.heap.size) (hN : xs.length ≤ 140737488355328) (hcap : xs.length ≤ c) (hlen : (Lib.join (xs.map (·.data.toList)) sep.data.toList).length ≤ 140737488355328),
  Calls P K #[.slice (some ⟨bk, o, none⟩) xs.length c, .string sep] w fun e w' => e = .returned (.string ⟨(Lib.join (xs.map (·.data.toList)) sep.data.toList).toArray⟩) ∧ Below w.heap.size w w'
def VH (P : Program) (K : FuncId) (g : Nat) : Prop := ∀ (s old new : ByteArray) (m : Int) (w : World), s.size < 4294967281 → w.cell? ⟨g, 0, none⟩ = some (.int .i64 m) → 1 ≤ old.size → s.size + Lib.countB s old * new.size ≤ 140737488355328 →
 Calls P K #[.string s, .string old, .string new] w fun e w' => e = .returned (.string ⟨(Lib.replaceAll s.data.toList old.data.toList new.data.toList).toArray⟩) ∧ Below w.heap.size w w'
def Nc (P : Program) (K : FuncId) : Prop := ∀ (us : Array Value) (w : World), (callFunc K us).run P w = .ok (.enter K us) w
theorem LW {P : Program} {K : FuncId} {fn : Func} (hfn : P.funcs[K]? = some fn) (hb : fn.body.isSome = true) (hn : (fn.name != "runtime.NumGoroutine") = true) : Nc P K := by
 intro us w
 cases hbody : fn.body with
 | none => rw [hbody] at hb; cases hb
 | some c =>
   simp only [bne_iff_ne, ne_eq] at hn
   simp [callFunc, hfn, hn, hbody]
theorem Rq {P : Program} {C : Cfg} (hr : ∀ K, C.lib K = some .rep → Nc P K ∧ VG P K) (hj : ∀ K, C.lib K = some .join → Nc P K ∧ Te P K) (hx : ∀ K, C.lib K = some .repl → Nc P K ∧ ∃ g m, C.glob g = some [.int .i64 m] ∧ VH P K g) : Oq P C := by
 intro K k s args H hk hs p φ w us hG h hus
 cases k with
 | repl =>
   obtain ⟨he, g, m, hg, hc⟩ := hx K hk
   unfold libA at hs
   split at hs
   case _ => contradiction
   case _ => contradiction
   case _ s0 old new heq =>
    split at hs
    ·rename_i hb
     injection hs with hs
     subst hs
     simp only [VRs] at hus
     obtain ⟨u, us', rfl, h1, u2, us2, rfl, h2, u3, us3, rfl, h3, rfl⟩ := hus
     simp only [VR] at h1 h2 h3
     subst h1; subst h2; subst h3
     refine ⟨he _ w, ?_⟩
     obtain ⟨c, T, fz, hq, hl, hv⟩ := h.glob (hG ▸ hg : p.G g = _)
     obtain ⟨_, u, hu, hvr⟩ := hv 0 (.int .i64 m) rfl
     simp only [VR] at hvr
     subst hvr
     exact hc s0 old new m w hb.1 (P0 hq hu) hb.2.1 hb.2.2
    ·cases hs
   all_goals first | contradiction | cases hs
 | rep =>
   obtain ⟨he, hc⟩ := hr K hk
   unfold libA at hs
   split at hs
   case _ s0 n heq =>
    split at hs
    ·rename_i hb
     injection hs with hs
     subst hs
     simp only [VRs] at hus
     obtain ⟨u, us', rfl, h1, u2, us2, rfl, h2, rfl⟩ := hus
     simp only [VR] at h1 h2
     subst h1; subst h2
     refine ⟨he _ w, ?_⟩
     have := hc s0 n.toNat w (by omega) hb.2.2
     rw [show ((n.toNat : Nat) : Int) = n by omega] at this
     exact this
    ·cases hs
   all_goals first | contradiction | cases hs
 | join =>
   obtain ⟨he, hc⟩ := hj K hk
   unfold libA at hs
   split at hs
   case _ => contradiction
   case _ v sep heq =>
    split at hs
    ·rename_i xs hxs
     split at hs
     ·rename_i hb
      injection hs with hs
      subst hs
      simp only [VRs] at hus
      obtain ⟨u, us', rfl, h1, u2, us2, rfl, h2, rfl⟩ := hus
      simp only [VR] at h2
      subst h2
      refine ⟨he _ w, ?_⟩
      have none0 : ∀ (a : Option Addr) (c : Nat), xs = [] → u = .slice a 0 c → Calls P K ⟨[u, .string sep]⟩ w (fun e w' => e = .returned (.string ⟨(Lib.join (xs.map (·.data.toList)) sep.data.toList).toArray⟩) ∧ Below w.heap.size w w') := by
       intro a c e e2
       subst e; subst e2
       refine (hc.1 a c sep w).mono ?_
       rintro e w' ⟨rfl, rfl⟩
       exact ⟨rfl, Below.refl _ _⟩
      unfold N4 at hxs
      split at hxs
      ·injection hxs with hxs
       simp only [VR] at h1
       exact none0 _ _ hxs.symm h1
      ·injection hxs with hxs
       simp only [VR] at h1
       obtain ⟨a, h1⟩ := h1
       exact none0 _ _ hxs.symm h1
      ·rename_i b o z n c
       split at hxs
       ·rename_i hz
        obtain ⟨rfl, hnc⟩ := hz
        split at hxs
        ·rename_i cs hcs
         split at hxs
         ·rename_i hon
          obtain ⟨hl, hg⟩ := Kr hxs
          have hl2 : xs.length = n := by rw [hl, List.length_take, List.length_drop]; omega
          simp only [VR] at h1
          obtain ⟨_, q, d, off, c', hφ, hu, hcc, hoff, hrow⟩ := h1
          by_cases hn : n = 0
          ·exact none0 _ _ (List.length_eq_zero_iff.1 (by omega)) (by rw [hu, hn])
          ·have hoff : off = d + o := by omega
           have hblk : H[b]? = some (.cells cs) := by
            unfold LH.cellsAt at hcs
            split at hcs
            ·injection hcs with hcs; subst hcs; assumption
            ·cases hcs
           obtain ⟨ca, T, fz, hw, hlen, hcell, _⟩ := h.blk b q d _ hφ hblk
           have := hc.2 q off c' xs sep w (fun j x hj => by
            have h1 := hg j x hj
            have hjn : j < n := by have := (List.getElem?_eq_some_iff.1 hj).1; omega
            rw [List.getElem?_take, if_pos hjn, List.getElem?_drop] at h1
            obtain ⟨_, u, hu2, hv⟩ := hcell (o + j) _ h1
            simp only [VR] at hv
            rw [hv] at hu2
            exact P0 hw (by rw [show off + j = d + (o + j) by omega]; exact hu2)) (h.bnd b q d hφ) hb.1 (by omega) hb.2
           rw [hl2] at this
           rw [hu]
           exact this
         ·cases hxs
        ·cases hxs
       ·cases hxs
      ·cases hxs
     ·cases hs
    ·cases hs
   all_goals first | contradiction | cases hs
theorem Sg {α : Type} {c : Prop} [Decidable c] {x : Option α} (h : c) : grd c x = x := if_pos h
theorem mk_T (P C call loop keep fl) : (mk P C call loop keep fl).T = ty P := rfl
theorem mk_G (P C call loop keep fl) : (mk P C call loop keep fl).G = C.glob := rfl
theorem UV (P C call loop keep fl) : (mk P C call loop keep fl).call = call := rfl
theorem UX (P C call loop keep fl) : (mk P C call loop keep fl).loop = loop := rfl
theorem UW (P C call loop keep fl) : (mk P C call loop keep fl).keep = keep := rfl
theorem WW (P C call loop keep fl) : (mk P C call loop keep fl).fl = fl := rfl
theorem Nw (fl : Nat) (H : LH) : BK .pure fl H = H.length := rfl
theorem KS (fl : Nat) (H : LH) : BK .fresh fl H = H.length := rfl
theorem Nv (fl : Nat) (H : LH) : BK .any fl H = fl := rfl
theorem NO {H H' : LH} {vs : List V} : EZ .pure H H' (some vs) = grd ((oneV vs).noAddr = true) (some (oneV vs, H)) := rfl
theorem Sh {α : Type} {x : Option α} {i : Decidable True} : @grd α True i x = x := by unfold grd; exact if_pos trivial
theorem FO (l : List UInt8) : ByteArray.size ⟨⟨l⟩⟩ = l.length := rfl
theorem L8 {H H' : LH} {vs : List V} : EZ .fresh H H' (some vs) = some (oneV vs, H') := rfl
theorem Qb {H H' : LH} {vs : List V} : EZ .any H H' (some vs) = some (oneV vs, H') := rfl
theorem NM {X : Ctx} {m : Mode} {H : LH} {rs : List ResultVar} {e : Env} {H' : LH} : Ac X m H rs (some (.nrm, e, H')) = EZ m H H' (allV (resV X e H' rs)) := rfl
theorem NN {X : Ctx} {m : Mode} {H : LH} {rs : List ResultVar} {e : Env} {H' : LH} : Ac X m H rs (some (.ret, e, H')) = EZ m H H' (allV (resV X e H' rs)) := rfl
theorem set0 {α : Type} (x y : α) (L : List α) : (x :: L).set 0 y = y :: L := rfl
theorem setS {α : Type} (x y : α) (L : List α) (n : Nat) : (x :: L).set (n + 1) y = x :: L.set n y := rfl
theorem We {n : Nat} : ((no_index (OfNat.ofNat n) : Nat) : Int) = OfNat.ofNat n := rfl
theorem NF (b : Bool) : V.isTup (.bool b) = false := rfl
theorem No (b : Bool) : V.cells (.bool b) = [(.bool b)] := rfl
theorem Q4 (k : IntKind) (n : Int) : V.isTup (.int k n) = false := rfl
theorem P3 (k : IntKind) (n : Int) : V.cells (.int k n) = [(.int k n)] := rfl
theorem Q7 (s : ByteArray) : V.isTup (.str s) = false := rfl
theorem P6 (s : ByteArray) : V.cells (.str s) = [(.str s)] := rfl
theorem Q6 (b o : Nat) : V.isTup (.ptr b o) = false := rfl
theorem P5 (b o : Nat) : V.cells (.ptr b o) = [(.ptr b o)] := rfl
theorem NG (b o : Nat) : V.isTup (.gptr b o) = false := rfl
theorem Np (b o : Nat) : V.cells (.gptr b o) = [(.gptr b o)] := rfl
theorem NH  : V.isTup .nilp = false := rfl
theorem Nq  : V.cells .nilp = [.nilp] := rfl
theorem So (b o z n c : Nat) : V.isTup (.sl b o z n c) = false := rfl
theorem RJ (b o z n c : Nat) : V.cells (.sl b o z n c) = [(.sl b o z n c)] := rfl
theorem L6  : V.isTup .nilsl = false := rfl
theorem KI  : V.cells .nilsl = [.nilsl] := rfl
theorem Q3  : V.isTup .emp = false := rfl
theorem P2  : V.cells .emp = [.emp] := rfl
theorem Q5 (b : Nat) : V.isTup (.map b) = false := rfl
theorem P4 (b : Nat) : V.cells (.map b) = [(.map b)] := rfl
theorem Jy  : V.isTup .nilmap = false := rfl
theorem Je  : V.cells .nilmap = [.nilmap] := rfl
theorem Sn (f : FuncId) (cs : List V) : V.isTup (.fn f cs) = false := rfl
theorem RG (f : FuncId) (cs : List V) : V.cells (.fn f cs) = [(.fn f cs)] := rfl
theorem L5  : V.isTup .nilfn = false := rfl
theorem KH  : V.cells .nilfn = [.nilfn] := rfl
theorem Q2 (cs : List V) : V.isTup (.agg cs) = false := rfl
theorem P1 (cs : List V) : V.cells (.agg cs) = cs := rfl
theorem Sv (H : LH) (s : ByteArray) : lenV H (.str s) = some s.size := rfl
theorem UM (H : LH) (b o z n c : Nat) : lenV H (.sl b o z n c) = some n := rfl
theorem NP (H : LH) : lenV H .nilsl = some 0 := rfl
theorem St (H : LH) : lenV H .emp = some 0 := rfl
theorem La (H : LH) : lenV H .nilmap = some 0 := rfl
theorem Su (H : LH) (b : Nat) : lenV H (.map b) = (match H.mapAt b with | some es => some es.length | none => none) := rfl
theorem Qe (T : TypeId → Option TI) (t : TypeId) (s : ByteArray) : lenOk T t (.str s) = (match T t with | some ⟨_, _, .str, _⟩ => true | _ => false) := rfl
theorem Ss (T : TypeId → Option TI) (t : TypeId) (b o z n c : Nat) : lenOk T t (.sl b o z n c) = (match T t with | some ⟨_, _, .slice _, _⟩ => true | _ => false) := rfl
theorem L9 (T : TypeId → Option TI) (t : TypeId) : lenOk T t .nilsl = (match T t with | some ⟨_, _, .slice _, _⟩ => true | _ => false) := rfl
theorem Qc (T : TypeId → Option TI) (t : TypeId) : lenOk T t .emp = (match T t with | some ⟨_, _, .slice _, _⟩ => true | _ => false) := rfl
theorem Qd (T : TypeId → Option TI) (t : TypeId) (b : Nat) : lenOk T t (.map b) = (match T t with | some ⟨_, _, .map _ _, _⟩ => true | _ => false) := rfl
theorem JB (T : TypeId → Option TI) (t : TypeId) : lenOk T t .nilmap = (match T t with | some ⟨_, _, .map _ _, _⟩ => true | _ => false) := rfl
theorem Od (H : LH) (b o z n c : Nat) : AW H (.sl b o z n c) = Fh o (n * z) (H.cellsAt b) := rfl
theorem IS (H : LH) : AW H .nilsl = some [] := rfl
theorem LE (H : LH) : AW H .emp = some [] := rfl
theorem LF (H : LH) (s : ByteArray) : AW H (.str s) = some (D6 s) := rfl
theorem SU (y b o z n c : Nat) : LJ y (.sl b o z n c) = (z == y) := rfl
theorem R4 (y : Nat) (s : ByteArray) : LJ y (.str s) = (y == 1) := rfl
theorem LK (y : Nat) : LJ y .nilsl = true := rfl
theorem R3 (y : Nat) : LJ y .emp = true := rfl
theorem WY : Aj = 1099511627776 := by decide
end Go.Proofs.YthlbglmfdjdagaaGreatDoor.Lg
