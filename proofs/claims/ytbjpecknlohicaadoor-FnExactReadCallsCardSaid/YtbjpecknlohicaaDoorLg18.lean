/- The logical machine against the model: the static rule for a region whose order is drawn; memories put together. No condition. -/
import Derived.Test.YtbjpecknlohicaaDoorLg17
namespace Go.Proofs.YtbjpecknlohicaaDoor.Lg
set_option linter.unusedSimpArgs false
set_option linter.unusedVariables false
open Go.RowKit (Below)

/-! ### who must come ahead of whom -/
def ties (e : Edge) : Bool := Region.binds .any e
inductive Prec (ops : List Oper) : Nat → Nat → Prop where
  | edge {k : Nat} {o : Oper} {e : Edge} (h : ops[k]? = some o) (he : e ∈ o.after) (hb : ties e = true) : Prec ops e.on k
  | step {i k : Nat} {o : Oper} {e : Edge} (h : ops[k]? = some o) (he : e ∈ o.after) (hb : ties e = true) (p : Prec ops i e.on) : Prec ops i k

def maskF (acc : List Nat) (s : Nat) (e : Edge) : Nat := if ties e then s ||| 2 ^ e.on ||| acc.getD e.on 0 else s
def maskOf (acc : List Nat) (o : Oper) : Nat := o.after.toList.foldl (maskF acc) 0
def masks : List Oper → List Nat → List Nat
  | [], acc => acc
  | o :: os, acc => masks os (acc ++ [maskOf acc o])
theorem mask_fold {acc : List Nat} {es : List Edge} {s i : Nat} (h : (es.foldl (maskF acc) s).testBit i = true) :
    s.testBit i = true ∨ ∃ e, e ∈ es ∧ ties e = true ∧ (e.on = i ∨ (acc.getD e.on 0).testBit i = true) := by
  induction es generalizing s with
  | nil => exact .inl h
  | cons e es ih =>
    simp only [List.foldl_cons] at h
    rcases ih h with h1 | ⟨e', h1, h2⟩
    · unfold maskF at h1
      split at h1
      · rename_i hb
        rw [Nat.testBit_or, Nat.testBit_or, Nat.testBit_two_pow] at h1
        simp only [Bool.or_eq_true, decide_eq_true_eq] at h1
        rcases h1 with (h1 | h1) | h1
        · exact .inl h1
        · exact .inr ⟨e, by simp, hb, .inl h1⟩
        · exact .inr ⟨e, by simp, hb, .inr h1⟩
      · exact .inl h1
    · exact .inr ⟨e', by simp [h1], h2⟩
theorem masks_ok {ops : List Oper} : ∀ (rest : List Oper) (acc : List Nat) (pre : List Oper), pre ++ rest = ops → acc.length = pre.length →
    (∀ k i : Nat, (acc.getD k 0).testBit i = true → Prec ops i k) → ∀ k i : Nat, ((masks rest acc).getD k 0).testBit i = true → Prec ops i k
  | [], acc, pre, _, _, h => h
  | o :: os, acc, pre, he, hl, h => by
    refine masks_ok os (acc ++ [maskOf acc o]) (pre ++ [o]) (by simpa using he) (by simp [hl]) ?_
    intro k i hk
    rcases Nat.lt_trichotomy k acc.length with hlt | heq | hgt
    · refine h k i ?_
      simpa [List.getD_eq_getElem?_getD, List.getElem?_append_left hlt] using hk
    · subst heq
      have ho : ops[acc.length]? = some o := by rw [← he, hl]; simp
      have hm : (maskOf acc o).testBit i = true := by simpa [List.getD_eq_getElem?_getD] using hk
      rcases mask_fold hm with h1 | ⟨e, h1, h2, h3 | h3⟩
      · simp at h1
      · subst h3; exact .edge ho (by simpa using h1) h2
      · exact .step ho (by simpa using h1) h2 (h _ _ h3)
    · have : (acc ++ [maskOf acc o]).getD k 0 = 0 := by
        rw [List.getD_eq_getElem?_getD, List.getElem?_eq_none (by simp; omega)]; rfl
      rw [this] at hk; simp at hk
def ahead (ms : List Nat) (i k : Nat) : Bool := (ms.getD k 0).testBit i
theorem ahead_ok {ops : List Oper} {i k : Nat} (h : ahead (masks ops []) i k = true) : Prec ops i k :=
  masks_ok ops [] [] rfl rfl (fun k i h => by simp at h) k i h
/-- a set that is closed under edges is closed under paths -/
theorem Prec.closed {ops : List Oper} {S : Nat → Prop} (hS : ∀ k o e, S k → ops[k]? = some o → e ∈ o.after → ties e = true → S e.on) {i k : Nat} (h : Prec ops i k) : S k → S i := by
  induction h with
  | edge h he hb => exact fun hk => hS _ _ _ hk h he hb
  | step h he hb _ ih => exact fun hk => ih (hS _ _ _ hk h he hb)
theorem Prec.ready {ops : List Oper} {S : Nat → Prop} (hS : ∀ k o e, S k → ops[k]? = some o → e ∈ o.after → ties e = true → S e.on) {i k : Nat} {o : Oper} (hk : ops[k]? = some o) (hr : ∀ e, e ∈ o.after → ties e = true → S e.on) (h : Prec ops i k) : S i := by
  cases h with
  | edge h he hb => rw [hk] at h; injection h with h; subst h; exact hr _ he hb
  | step h he hb p => rw [hk] at h; injection h with h; subst h; exact p.closed hS (hr _ he hb)

/-! ### the rule -/
def tmpsO : List Operand → List Tmp
  | [] => []
  | .tmp t :: xs => t :: tmpsO xs
  | _ :: xs => tmpsO xs
def guardT (ops : List Oper) : Option (Nat × Bool) → List Tmp
  | some (j, _) => (dstOf ops j).toList
  | none => []
def looks (ops : List Oper) (o : Oper) : List Tmp := tmpsO (opds o.op) ++ guardT ops o.guard
def isText : Edge → Nat → Bool
  | ⟨i, .textOnly _⟩, j => i == j
  | _, _ => false
def isStore : Op → Bool
  | .store _ _ _ => true
  | _ => false
def floatOk (ops : List Oper) (j : Nat) (oj ok : Oper) : Bool :=
  match oj.op with
  | .load _ (.tmp t) => ok.dst.isNone && isStore ok.op && ok.after.toList.any (isText · j) && (ops.drop j).all (fun o => o.dst != some t)
  | _ => false
def pairOk (mode : FuncId → Mode) (ops : List Oper) (ms : List Nat) (j k : Nat) (oj ok : Oper) : Bool :=
  match cls mode oj.op, cls mode ok.op with
  | 1, 2 => ahead ms j k || floatOk ops j oj ok
  | 2, 1 => ahead ms j k
  | 2, 2 => ahead ms j k
  | _, _ => true
def lookOk (ms : List Nat) (k j : Nat) (t : Tmp) (oj : Oper) : Bool := oj.dst != some t || (decide (j < k) && ahead ms j k) || (decide (k < j) && ahead ms k j)
def allI {α : Type} (p : Nat → α → Bool) : Nat → List α → Bool
  | _, [] => true
  | i, x :: xs => p i x && allI p (i + 1) xs
def opOk (mode : FuncId → Mode) (ops : List Oper) (ms : List Nat) (k : Nat) (o : Oper) : Bool :=
  o.after.toList.all (fun e => !ties e || decide (e.on < k)) &&
  (looks ops o).all (fun t => allI (fun j oj => lookOk ms k j t oj) 0 ops) &&
  allI (fun j oj => !decide (j < k) || (pairOk mode ops ms j k oj o && (oj.dst.isNone || oj.dst != o.dst))) 0 ops
def drawOk (mode : FuncId → Mode) (ops : List Oper) : Bool := allI (opOk mode ops (masks ops [])) 0 ops

theorem allI_ok {α : Type} {p : Nat → α → Bool} : ∀ {l : List α} {n : Nat}, allI p n l = true → ∀ i x, l[i]? = some x → p (n + i) x = true
  | [], _, _, i, x, e => by simp at e
  | y :: l, n, h, i, x, e => by
    simp only [allI, Bool.and_eq_true] at h
    cases i with
    | zero => simp at e; subst e; exact h.1
    | succ i =>
      have := allI_ok h.2 i x (by simpa using e)
      rw [show n + (i + 1) = n + 1 + i by omega]; exact this

structure DrawOk (mode : FuncId → Mode) (ops : List Oper) : Prop where
  back : ∀ (k : Nat) (o : Oper) (e : Edge), ops[k]? = some o → e ∈ o.after → ties e = true → e.on < k
  look : ∀ (k : Nat) (o : Oper) (t : Tmp) (j : Nat) (oj : Oper), ops[k]? = some o → t ∈ looks ops o → ops[j]? = some oj → oj.dst = some t → (j < k ∧ Prec ops j k) ∨ (k < j ∧ Prec ops k j)
  dsts : ∀ (j k : Nat) (oj ok : Oper) (t : Tmp), j < k → ops[j]? = some oj → ops[k]? = some ok → oj.dst = some t → ok.dst ≠ some t
  pair12 : ∀ (j k : Nat) (oj ok : Oper), j < k → ops[j]? = some oj → ops[k]? = some ok → cls mode oj.op = 1 → cls mode ok.op = 2 → Prec ops j k ∨ floatOk ops j oj ok = true
  pair21 : ∀ (j k : Nat) (oj ok : Oper), j < k → ops[j]? = some oj → ops[k]? = some ok → cls mode oj.op = 2 → cls mode ok.op = 1 → Prec ops j k
  pair22 : ∀ (j k : Nat) (oj ok : Oper), j < k → ops[j]? = some oj → ops[k]? = some ok → cls mode oj.op = 2 → cls mode ok.op = 2 → Prec ops j k

theorem drawOk_ok {mode : FuncId → Mode} {ops : List Oper} (h : drawOk mode ops = true) : DrawOk mode ops := by
  have hop : ∀ k o, ops[k]? = some o → opOk mode ops (masks ops []) k o = true := fun k o e => by
    have := allI_ok h k o e; rwa [Nat.zero_add] at this
  have hpair : ∀ j k oj ok, j < k → ops[j]? = some oj → ops[k]? = some ok → pairOk mode ops (masks ops []) j k oj ok = true ∧ (oj.dst.isNone || oj.dst != ok.dst) = true := by
    intro j k oj ok hjk hj hk
    have h1 := hop k ok hk
    simp only [opOk, Bool.and_eq_true] at h1
    have h2 := allI_ok h1.2 j oj hj
    simp only [Nat.zero_add, hjk, decide_true, Bool.not_true, Bool.false_or, Bool.and_eq_true] at h2
    exact h2
  refine ⟨?_, ?_, ?_, ?_, ?_, ?_⟩
  · intro k o e hk he hb
    have h1 := hop k o hk
    simp only [opOk, Bool.and_eq_true, List.all_eq_true] at h1
    have := h1.1.1 e (by simpa using he)
    simpa [hb] using this
  · intro k o t j oj hk ht hj hd
    have h1 := hop k o hk
    simp only [opOk, Bool.and_eq_true, List.all_eq_true] at h1
    have h2 := allI_ok (h1.1.2 t ht) j oj hj
    simp only [Nat.zero_add, lookOk, Bool.or_eq_true, Bool.and_eq_true, decide_eq_true_eq] at h2
    rcases h2 with (h2 | h2) | h2
    · simp [hd] at h2
    · exact .inl ⟨h2.1, ahead_ok h2.2⟩
    · exact .inr ⟨h2.1, ahead_ok h2.2⟩
  · intro j k oj ok t hjk hj hk hd hd'
    have := (hpair j k oj ok hjk hj hk).2
    simp [hd, hd'] at this
  · intro j k oj ok hjk hj hk h1 h2
    have := (hpair j k oj ok hjk hj hk).1
    simp only [pairOk, h1, h2, Bool.or_eq_true] at this
    exact this.imp ahead_ok id
  · intro j k oj ok hjk hj hk h1 h2
    have := (hpair j k oj ok hjk hj hk).1
    simp only [pairOk, h1, h2] at this
    exact ahead_ok this
  · intro j k oj ok hjk hj hk h1 h2
    have := (hpair j k oj ok hjk hj hk).1
    simp only [pairOk, h1, h2] at this
    exact ahead_ok this

/-! ### memories -/
section
variable {p : Par} {φ φ' : Phi} {H L : LH} {w w' : World}

theorem HR.left (h : HR p φ (H ++ L) w) : HR p φ H w :=
  ⟨fun b q d x e hx => h.blk b q d x e (by rw [List.getElem?_append_left (List.getElem?_eq_some_iff.1 hx).1]; exact hx), h.bnd,
    fun b b' q d d' e e' hr hn => (h.inj b b' q d d' e e' hr hn).imp Gone.left Gone.left, h.low, h.q0, h.old, h.glo⟩
theorem Gone.ext {b : Nat} (h : Gone H b) (hb : b < H.length ∨ H.length + L.length ≤ b) : Gone (H ++ L) b := by
  intro x e
  rcases hb with hb | hb
  · rw [List.getElem?_append_left hb] at e; exact h x e
  · have := (List.getElem?_eq_some_iff.1 e).1
    simp at this; omega
theorem HR.ext (h : HR p φ H w) (hb : ∀ b x, φ b = some x → b < H.length ∨ H.length + L.length ≤ b) : HR p φ (H ++ L) w := by
  refine ⟨fun b q d x e hx => ?_, h.bnd, fun b b' q d d' e e' hr hn => ?_, h.low, h.q0, h.old, h.glo⟩
  · rcases hb b _ e with h1 | h1
    · rw [List.getElem?_append_left h1] at hx; exact h.blk b q d x e hx
    · have := (List.getElem?_eq_some_iff.1 hx).1
      simp at this; omega
  · exact (h.inj b b' q d d' e e' hr hn).imp (fun k => k.ext (hb b _ e)) (fun k => k.ext (hb b' _ e'))
theorem Grow.ext {fl : Nat} {A B : LH} (h : Grow fl A B) (L : LH) : Grow fl A (B ++ L) :=
  h.trans ⟨by simp, fun b _ hl => by rw [List.getElem?_append_left hl], fun b hb => by rw [List.getElem?_append_left (List.getElem?_eq_some_iff.1 hb).1]; exact hb⟩
theorem Step.ext' {fl : Nat} {φ0 : Phi} {H0 : LH} {w0 : World} (h : Step fl φ0 H0 w0 φ H w) (L : LH) : Step fl φ0 H0 w0 φ (H ++ L) w :=
  ⟨h.ext, fun b x e n => by have := h.dom b x e n; simp; omega, h.img, h.frm, h.len, h.grow.ext L⟩

/-- an operation ran on a part of the memory, and only made new blocks: the whole is as it was, and the new -/
theorem merge {Hi H1 : LH} (h : HR p φ (H1 ++ L) w) (h' : HR p φ' H1 w') (s : Step Hi.length φ Hi w φ' H1 w') : HR p φ' (H1 ++ L) w' := by
  have hfr : ∀ q, q < w.heap.size → w'.heap[q]? = w.heap[q]? := fun q hq => s.frm q hq fun b d h1 h2 => by omega
  have hnew : ∀ b q d, φ' b = some (q, d) → φ b = none → w.heap.size ≤ q ∧ b < H1.length := fun b q d e n => by
    refine ⟨?_, (s.dom b _ e n).2⟩
    rcases s.img b q d e n with h1 | ⟨b0, _, h1, h2, _⟩
    · exact h1
    · omega
  refine ⟨fun b q d x e hx => ?_, h'.bnd, fun b b' q d d' e e' hr hn => ?_, h'.low, h'.q0, h'.old, h'.glo⟩
  · cases ho : φ b with
    | none =>
      rw [List.getElem?_append_left (hnew b q d e ho).2] at hx
      exact h'.blk b q d x e hx
    | some y =>
      have hy := s.ext.ext b y ho
      rw [e] at hy; injection hy with hy; subst hy
      exact (h.blk b q d x ho hx).mono s.ext (hfr q (h.bnd b q d ho))
  · cases ho : φ b with
    | some y =>
      have hy := s.ext.ext b y ho
      rw [e] at hy; injection hy with hy; subst hy
      cases ho' : φ b' with
      | some y' =>
        have hy := s.ext.ext b' y' ho'
        rw [e'] at hy; injection hy with hy; subst hy
        exact h.inj b b' q d d' ho ho' hr hn
      | none =>
        have := h.bnd b q d ho
        have := (hnew b' q d' e' ho').1
        omega
    | none =>
      cases ho' : φ b' with
      | some y' =>
        have hy := s.ext.ext b' y' ho'
        rw [e'] at hy; injection hy with hy; subst hy
        have := h.bnd b' q d' ho'
        have := (hnew b q d e ho).1
        omega
      | none =>
        exact (h'.inj b b' q d d' e e' hr hn).imp (fun k => k.ext (.inl (hnew b q d e ho).2)) (fun k => k.ext (.inl (hnew b' q d' e' ho').2))
theorem stepM {fl : Nat} {φ0 : Phi} {H0 Hi H1 : LH} {w0 : World} (h : Step fl φ0 H0 w0 φ (H1 ++ L) w) (s : Step Hi.length φ Hi w φ' H1 w') (hl : H0.length ≤ Hi.length) : Step fl φ0 H0 w0 φ' (H1 ++ L) w' := by
  refine ⟨h.ext.trans s.ext, fun b x e n => ?_, fun b q d e n => ?_, fun q hq hn => ?_, Nat.le_trans h.len s.len, h.grow⟩
  · cases ho : φ b with
    | some y => exact h.dom b y ho n
    | none => have := s.dom b x e ho; simp; omega
  · cases ho : φ b with
    | some y =>
      have hy := s.ext.ext b y ho
      rw [e] at hy; injection hy with hy; subst hy
      exact h.img b q d ho n
    | none =>
      rcases s.img b q d e ho with h1 | ⟨b0, _, h1, h2, _⟩
      · exact .inl (Nat.le_trans h.len h1)
      · omega
  · rw [s.frm q (Nat.lt_of_lt_of_le hq h.len) (fun b d h1 h2 => by omega)]
    exact h.frm q hq hn
end
end Go.Proofs.YtbjpecknlohicaaDoor.Lg
