/- The logical machine, part D: an evaluator of the model's code over logical values, proved sound, and its equations. No condition. -/
import Derived.Test.YtcbjmggbbnpbpaaDoorLgC
import Derived.ChangeArms
import Derived.OpenShut
import Derived.ProofKit
namespace Go.Proofs.YtcbjmggbbnpbpaaDoor.Lg
set_option linter.unusedSimpArgs false
set_option linter.unusedVariables false
open Go.RowKit (Below)

/-- the fields of a struct, one behind the other -/
def ShpF (S : TypeId → List V → Prop) : List (Nat × TypeId) → List V → Prop
  | [], cs => cs = []
  | f :: fs, cs => ∃ p q, cs = p ++ q ∧ S f.2 p ∧ ShpF S fs q
/-- the cells of a value of a type -/
def Shp (T : TypeId → Option TI) : Nat → TypeId → LH → List V → Prop
  | 0, _, _, _ => False
  | n + 1, t, H, cs => match T t with
    | some ⟨_, _, .bool, _⟩ => ∃ b, cs = [.bool b]
    | some ⟨_, _, .int k, _⟩ => ∃ m, cs = [.int k m] ∧ (Lit.int k m).wf = true
    | some ⟨_, _, .str, _⟩ => ∃ s, cs = [.str s] ∧ s.size ≤ 9223372036854775807
    | some ⟨_, _, .slice e, _⟩ => cs = [.nilsl] ∨ cs = [.emp] ∨ ∃ b z len cap ps, cs = [.sl b 0 z len cap] ∧ sizeO (T e) = some z ∧ H.cellsAt b = some (List.flatten ps) ∧ ps.length = cap ∧ (∀ p ∈ ps, p.length = z) ∧ len ≤ cap ∧ cap ≤ 9223372036854775807 ∧
        (∀ p ∈ ps, Shp T n e H p)
    | some ⟨_, _, .struct fs _, _⟩ => ShpF (fun u c => Shp T n u H c) fs cs
    | _ => False
/-- a type whose values can be read so -/
def tileF (T : TypeId → Option TI) (S : TypeId → Bool) : List (Nat × TypeId) → Nat → Nat → Bool
  | [], o, e => o == e
  | f :: fs, o, e => f.1 == o && S f.2 && (match T f.2 with | some i => tileF T S fs (o + i.size) e | none => false)
def plain (T : TypeId → Option TI) : Nat → TypeId → Bool
  | 0, _ => false
  | n + 1, t => match T t with
    | some ⟨1, _, .bool, _⟩ => true
    | some ⟨1, _, .int _, _⟩ => true
    | some ⟨1, _, .str, _⟩ => true
    | some ⟨1, _, .slice e, _⟩ => (match T e with | some i => decide (0 < i.size) && plain T n e | none => false)
    | some ⟨s, _, .struct fs _, _⟩ => tileF T (plain T n) fs 0 s
    | _ => false

theorem ShpF.mono {S S' : TypeId → List V → Prop} (h : ∀ u c, S u c → S' u c) : ∀ {fs : List (Nat × TypeId)} {cs : List V}, ShpF S fs cs → ShpF S' fs cs
  | [], _, e => e
  | _ :: _, _, ⟨p, q, e, a, b⟩ => ⟨p, q, e, h _ _ a, ShpF.mono h b⟩
theorem Shp.ext {T : TypeId → Option TI} {H L : LH} : ∀ {n : Nat} {t : TypeId} {cs : List V}, Shp T n t H cs → Shp T n t (H ++ L) cs := by
  intro n
  induction n with
  | zero => intro t cs h; exact h
  | succ n ih =>
    intro t cs h
    unfold Shp at h ⊢
    split at h
    · exact h
    · exact h
    · exact h
    · rcases h with h | h | ⟨b, z, len, cap, ps, h1, h2, h3, h4, h5, h6, h7, h8⟩
      · exact .inl h
      · exact .inr (.inl h)
      · exact .inr (.inr ⟨b, z, len, cap, ps, h1, h2, cellsAt_left h3, h4, h5, h6, h7, fun p hp => ih (h8 p hp)⟩)
    · exact h.mono fun u c => ih
    · exact h

/-- a heap that stands for a part of memory that is only read -/
structure RD (φ : Phi) (H : LH) (w : World) : Prop where
  dom : ∀ b x, φ b = some x → b < H.length
  blk : ∀ b q d x, φ b = some (q, d) → H[b]? = some x → BlkR False φ w q d x
  bnd : ∀ b q d, φ b = some (q, d) → q < w.heap.size
  hb : HB H
/-- more was read -/
structure More (φ : Phi) (H : LH) (w : World) (φ' : Phi) (H' : LH) : Prop where
  rd : RD φ' H' w
  ext : Ext φ w φ' w
  app : ∃ L, H' = H ++ L
theorem More.refl {φ : Phi} {H : LH} {w : World} (h : RD φ H w) : More φ H w φ H := ⟨h, .refl _ _, [], by simp⟩
theorem More.trans {φ φ1 φ2 : Phi} {H H1 H2 : LH} {w : World} (h : More φ H w φ1 H1) (k : More φ1 H1 w φ2 H2) : More φ H w φ2 H2 := by
  obtain ⟨L, hL⟩ := h.app
  obtain ⟨L', hL'⟩ := k.app
  exact ⟨k.rd, h.ext.trans k.ext, L ++ L', by rw [hL', hL, List.append_assoc]⟩
theorem More.len {φ φ1 : Phi} {H H1 : LH} {w : World} (h : More φ H w φ1 H1) : H.length ≤ H1.length := by
  obtain ⟨L, hL⟩ := h.app; rw [hL]; simp
theorem More.shp {φ φ1 : Phi} {H H1 : LH} {w : World} (h : More φ H w φ1 H1) {T : TypeId → Option TI} {n : Nat} {t : TypeId} {cs : List V} (k : Shp T n t H cs) : Shp T n t H1 cs := by
  obtain ⟨L, hL⟩ := h.app; rw [hL]; exact k.ext

/-- what a reading of cells gives -/
structure Got (P : Program) (φ : Phi) (H : LH) (w : World) (n : Nat) (t : TypeId) (us : List Value) (φ' : Phi) (H' : LH) (vs : List V) : Prop where
  more : More φ H w φ' H'
  vr : VRs φ' w vs us
  shp : Shp (ty P) n t H' vs
  scal : vs.all V.isScal = true
  lt : ∀ v ∈ vs, V.lt H'.length v

section
variable {P : Program} {w : World} {D : Type} {enc : TypeId × Value → D}

theorem cellsOf_ty {t : TypeId} {i : TI} (h : ty P t = some i) : P.cellsOf t = i.size := by
  obtain ⟨j, d, h1, h2, rfl⟩ := ty_some h
  simp [Program.cellsOf, h1]
theorem bool_some {t : TypeId} {s b : Nat} {z : Option V} (h : ty P t = some ⟨s, b, .bool, z⟩) : P.underlying t = some .bool := by
  obtain ⟨j, d, h1, h2, h3⟩ := ty_some h
  injection h3 with e1 e2 e3 e4
  cases d <;> simp only [tkOf] at e3 <;> first | exact h2 | cases e3
theorem add_add (a : Addr) (m k : Nat) : (a.add m).add k = a.add (m + k) := by
  unfold Addr.add
  by_cases hm : m = 0
  · subst hm; simp
  · by_cases hk : k = 0
    · subst hk; simp
    · simp [hm, hk]; omega

theorem readF {n : Nat} {us : List Value} (ih : ∀ (t : TypeId) (us : List Value) (x : DataW D × List MemPlace), DataW.trod enc P w 0 (fun _ => true) true n t us = some x → plain (ty P) n t = true → ∀ φ H, RD φ H w → ∃ φ' H' vs, Got P φ H w n t us φ' H' vs) :
    ∀ {fl : List (Nat × TypeId)} {o e : Nat}, tileF (ty P) (plain (ty P) n) fl o e = true → (∀ f ∈ fl, ∃ x, DataW.trod enc P w 0 (fun _ => true) true n f.2 ((us.drop f.1).take (P.cellsOf f.2)) = some x) → us.length = e → ∀ φ H, RD φ H w →
    ∃ φ' H' vs, More φ H w φ' H' ∧ VRs φ' w vs (us.drop o) ∧ ShpF (fun u c => Shp (ty P) n u H' c) fl vs ∧ vs.all V.isScal = true ∧ ∀ v ∈ vs, V.lt H'.length v := by
  intro fl
  induction fl with
  | nil =>
    intro o e ht _ hl φ H h
    simp only [tileF, beq_iff_eq] at ht
    refine ⟨φ, H, [], .refl h, ?_, rfl, rfl, fun v hv => by cases hv⟩
    rw [List.drop_of_length_le (by omega)]
    simp only [VRs]
  | cons f fl ihf =>
    intro o e ht hx hl φ H h
    simp only [tileF, Bool.and_eq_true, beq_iff_eq] at ht
    obtain ⟨⟨ho, hp⟩, ht⟩ := ht
    split at ht
    · rename_i i hi
      obtain ⟨x, hxf⟩ := hx f (by simp)
      rw [cellsOf_ty hi, ho] at hxf
      obtain ⟨φ1, H1, v1, g1⟩ := ih _ _ _ hxf hp φ H h
      obtain ⟨φ2, H2, v2, m2, r2, s2, c2, l2⟩ := ihf ht (fun f hf => hx f (by simp [hf])) hl φ1 H1 g1.more.rd
      refine ⟨φ2, H2, v1 ++ v2, g1.more.trans m2, ?_, ⟨v1, v2, rfl, m2.shp g1.shp, s2⟩, ?_, ?_⟩
      · have : us.drop o = (us.drop o).take i.size ++ us.drop (o + i.size) := by
          rw [← List.drop_drop, List.take_append_drop]
        rw [this]
        exact (g1.vr.mono m2.ext).app r2
      · rw [List.all_append, g1.scal, c2]; rfl
      · intro v hv
        rcases List.mem_append.1 hv with hv | hv
        · exact V.lt_mono m2.len (g1.lt v hv)
        · exact l2 v hv
    · cases ht

theorem readE {n : Nat} (ih : ∀ (t : TypeId) (us : List Value) (x : DataW D × List MemPlace), DataW.trod enc P w 0 (fun _ => true) true n t us = some x → plain (ty P) n t = true → ∀ φ H, RD φ H w → ∃ φ' H' vs, Got P φ H w n t us φ' H' vs)
    {e : TypeId} (hp : plain (ty P) n e = true) {a : Addr} {z cap : Nat} (hx : ∀ i, i < cap → ∃ x, (w.cells? 0 (a.add (i * z)) z).bind (DataW.trod enc P w 0 (fun _ => true) true n e) = some x) :
    ∀ (k : Nat), k ≤ cap → ∀ φ H, RD φ H w → ∃ φ' H' ps us, More φ H w φ' H' ∧ ps.length = k ∧ (∀ p ∈ ps, p.length = z) ∧ VRs φ' w (List.flatten ps) us ∧ us.length = k * z ∧ (∀ j, j < k * z → w.cell? (a.add j) = us[j]?) ∧
      (∀ p ∈ ps, Shp (ty P) n e H' p) ∧ (List.flatten ps).all V.isScal = true ∧ ∀ v ∈ List.flatten ps, V.lt H'.length v := by
  intro k
  induction k with
  | zero =>
    intro _ φ H h
    exact ⟨φ, H, [], [], .refl h, rfl, by simp, by simp [VRs], by simp, by simp, by simp, rfl, by simp⟩
  | succ k ihk =>
    intro hk φ H h
    obtain ⟨φ1, H1, ps, us, m1, a1, a2, a3, a4, a5, a6, a7, a8⟩ := ihk (by omega) φ H h
    obtain ⟨x, hxk⟩ := hx k (by omega)
    obtain ⟨cs, hcs, htr⟩ := Option.bind_eq_some_iff.1 hxk
    obtain ⟨φ2, H2, v2, g2⟩ := ih _ _ _ htr hp φ1 H1 m1.rd
    unfold World.cells? at hcs
    split at hcs
    · have hlen : cs.length = z := by have := mapM_some_length hcs; simpa using this
      have hv2 : v2.length = z := by have := (VRs_iff.1 g2.vr).1; omega
      refine ⟨φ2, H2, ps ++ [v2], us ++ cs, m1.trans g2.more, by simp [a1], ?_, ?_, by simp [a4, hlen, Nat.succ_mul], ?_, ?_, ?_, ?_⟩
      · intro p hp'
        rcases List.mem_append.1 hp' with hp' | hp'
        · exact a2 p hp'
        · rw [List.mem_singleton] at hp'; subst hp'; exact hv2
      · rw [List.flatten_append]
        simp only [List.flatten_cons, List.flatten_nil, List.append_nil]
        exact (a3.mono g2.more.ext).app g2.vr
      · intro j hj
        rw [Nat.succ_mul] at hj
        rcases Nat.lt_or_ge j (k * z) with hlt | hge
        · rw [List.getElem?_append_left (by rw [a4]; exact hlt)]; exact a5 j hlt
        · rw [List.getElem?_append_right (by rw [a4]; exact hge), a4]
          have := mapM_some_get hcs (j - k * z) (j - k * z) (by rw [List.getElem?_range (by omega)])
          rw [← this, add_add]
          congr 2; omega
      · intro p hp'
        rcases List.mem_append.1 hp' with hp' | hp'
        · exact g2.more.shp (a6 p hp')
        · rw [List.mem_singleton] at hp'; subst hp'; exact g2.shp
      · rw [List.flatten_append]
        simp only [List.flatten_cons, List.flatten_nil, List.append_nil, List.all_append, a7, g2.scal]; rfl
      · intro v hv
        rw [List.flatten_append] at hv
        simp only [List.flatten_cons, List.flatten_nil, List.append_nil] at hv
        rcases List.mem_append.1 hv with hv | hv
        · exact V.lt_mono g2.more.len (a8 v hv)
        · exact g2.lt v hv
    · cases hcs

theorem read_ok : ∀ (n : Nat) (t : TypeId) (us : List Value) (x : DataW D × List MemPlace), DataW.trod enc P w 0 (fun _ => true) true n t us = some x → plain (ty P) n t = true → ∀ φ H, RD φ H w → ∃ φ' H' vs, Got P φ H w n t us φ' H' vs := by
  intro n
  induction n with
  | zero => intro t us x h hp; cases hp
  | succ n ih =>
    intro t us x h hp φ H hR
    unfold plain at hp
    split at hp
    · rename_i hty
      obtain ⟨b, rfl, _⟩ := DataW.trod_bool (bool_some hty) h
      refine ⟨φ, H, [.bool b], .refl hR, by simp only [VRs, VR]; exact ⟨_, _, rfl, rfl, rfl⟩, ?_, rfl, by simp [V.lt]⟩
      unfold Shp; rw [hty]; exact ⟨b, rfl⟩
    · rename_i hty
      obtain ⟨m, rfl, _, hw⟩ := DataW.trod_int (int_some hty) h
      refine ⟨φ, H, [.int _ m], .refl hR, by simp only [VRs, VR]; exact ⟨_, _, rfl, rfl, rfl⟩, ?_, rfl, by simp [V.lt]⟩
      unfold Shp; rw [hty]; exact ⟨m, rfl, hw⟩
    · rename_i hty
      obtain ⟨s, rfl, _, hw⟩ := DataW.trod_string (str_some hty) h
      refine ⟨φ, H, [.str s], .refl hR, by simp only [VRs, VR]; exact ⟨_, _, rfl, rfl, rfl⟩, ?_, rfl, by simp [V.lt]⟩
      unfold Shp; rw [hty]; exact ⟨s, rfl, hw⟩
    · rename_i by' e zz hty
      split at hp
      · rename_i i hi
        simp only [Bool.and_eq_true, decide_eq_true_eq] at hp
        obtain ⟨hpos, hpe⟩ := hp
        rcases DataW.trod_slice (slice_some hty) h with ⟨rfl, _⟩ | ⟨a, len, cap, elems, rest, m, hm, rfl, _, _, hlen, hcap, hel, helems, hrest, _⟩
        · refine ⟨φ, H, [.nilsl], .refl hR, by simp only [VRs, VR]; exact ⟨_, _, rfl, rfl, rfl⟩, ?_, rfl, by simp [V.lt]⟩
          unfold Shp; rw [hty]; exact .inl rfl
        · injection hm with hm
          subst hm
          rw [cellsOf_ty hi] at helems hrest
          rcases Nat.eq_zero_or_pos cap with hc0 | hc0
          · subst hc0
            have hl0 : len = 0 := by omega
            subst hl0
            refine ⟨φ, H, [.emp], .refl hR, by simp only [VRs, VR]; exact ⟨_, _, rfl, ⟨a, rfl⟩, rfl⟩, ?_, rfl, by simp [V.lt]⟩
            unfold Shp; rw [hty]; exact .inr (.inl rfl)
          · obtain ⟨hrl, hrest⟩ := hrest rfl
            have hall : ∀ j, j < cap → ∃ x, (w.cells? 0 (a.add (j * i.size)) i.size).bind (DataW.trod enc P w 0 (fun _ => true) true n e) = some x := by
              intro j hj
              rcases Nat.lt_or_ge j len with hjl | hjl
              · rw [helems j hjl]; exact ⟨_, List.getElem?_eq_getElem (by omega)⟩
              · have := hrest (j - len) (by omega)
                rw [show len + (j - len) = j by omega] at this
                rw [this]; exact ⟨_, List.getElem?_eq_getElem (by omega)⟩
            obtain ⟨φ1, H1, ps, us, m1, a1, a2, a3, a4, a5, a6, a7, a8⟩ := readE ih hpe hall cap (Nat.le_refl _) φ H hR
            have hczpos : 0 < cap * i.size := Nat.mul_pos hc0 hpos
            -- the row
            have h0 := a5 0 hczpos
            have hu0 : ∃ u, us[0]? = some u := ⟨_, List.getElem?_eq_getElem (by omega)⟩
            obtain ⟨u0, hu0⟩ := hu0
            rw [hu0] at h0
            have haz : a.add 0 = a := rfl
            rw [haz] at h0
            have hrow : ∃ c T fz, w.heap[a.block]? = some (.cells c T fz) ∧ a.spot = none := by
              unfold World.cell? at h0
              split at h0
              · rename_i c T fz hc
                refine ⟨c, T, fz, hc, ?_⟩
                cases hsp : a.spot with
                | none => rfl
                | some s => rw [hsp] at h0; simp at h0
              · cases h0
            obtain ⟨c, T, fz, hc, hsp⟩ := hrow
            have hcell : ∀ j, j < cap * i.size → c[a.off + j]? = us[j]? := by
              intro j hj
              rw [← a5 j hj]
              unfold World.cell?
              have hb : (a.add j).block = a.block := by unfold Addr.add; split <;> rfl
              have hs : (a.add j).spot = none := by unfold Addr.add; split <;> first | exact hsp | rfl
              have ho : (a.add j).off = a.off + j := by unfold Addr.add; split <;> simp_all
              rw [hb, hc, hs, ho]; rfl
            have hsz : a.off + cap * i.size ≤ c.size := by
              have := hcell (cap * i.size - 1) (by omega)
              rw [List.getElem?_eq_getElem (by omega)] at this
              have := (Array.getElem?_eq_some_iff.1 this).1
              omega
            have hfl : (List.flatten ps).length = cap * i.size := by rw [(VRs_iff.1 a3).1, a4]
            have hnone : φ1 H1.length = none := by
              cases hh : φ1 H1.length with
              | none => rfl
              | some y => have := m1.rd.dom _ _ hh; omega
            let φ2 := φ1.put H1.length a.block a.off
            have he2 : Ext φ1 w φ2 w := ⟨fun b x e => by
              show (φ1.put H1.length a.block a.off) b = some x
              unfold Phi.put
              rw [if_neg (fun hh => by rw [hh, hnone] at e; cases e)]; exact e, fun _ _ h => h⟩
            have hbq : a.block < w.heap.size := (Array.getElem?_eq_some_iff.1 hc).1
            have hrd : RD φ2 (H1 ++ [.cells (List.flatten ps)]) w := by
              refine ⟨fun b x he0 => ?_, fun b q d x he0 hx => ?_, fun b q d he0 => ?_, m1.rd.hb.push fun v hv => V.lt_mono (Nat.le_succ _) (a8 v hv)⟩
              · replace he0 : (φ1.put H1.length a.block a.off) b = some x := he0
                unfold Phi.put at he0
                split at he0
                · rename_i hb; simp; omega
                · have := m1.rd.dom b x he0; simp; omega
              · replace he0 : (φ1.put H1.length a.block a.off) b = some (q, d) := he0
                unfold Phi.put at he0
                split at he0
                · rename_i hb
                  subst hb
                  simp only [Option.some.injEq, Prod.mk.injEq] at he0
                  obtain ⟨rfl, rfl⟩ := he0
                  have : (H1 ++ [Blk.cells (List.flatten ps)])[H1.length]? = some (.cells (List.flatten ps)) := by simp
                  rw [this] at hx; injection hx with hx; subst hx
                  refine ⟨c, T, fz, hc, by rw [hfl]; exact hsz, fun j v hj => ?_, fun hf => hf.elim⟩
                  obtain ⟨u, hu, hr⟩ := (VRs_iff.1 a3).2 j v hj
                  have hjl : j < cap * i.size := by have := (List.getElem?_eq_some_iff.1 hj).1; omega
                  exact ⟨List.all_eq_true.1 a7 v (List.mem_of_getElem? hj), u, by rw [hcell j hjl]; exact hu, hr.mono he2⟩
                · have hb := m1.rd.dom b _ he0
                  rw [List.getElem?_append_left hb] at hx
                  exact (m1.rd.blk b q d x he0 hx).mono he2 rfl
              · replace he0 : (φ1.put H1.length a.block a.off) b = some (q, d) := he0
                unfold Phi.put at he0
                split at he0
                · simp only [Option.some.injEq, Prod.mk.injEq] at he0
                  obtain ⟨rfl, rfl⟩ := he0
                  exact hbq
                · exact m1.rd.bnd b q d he0
            have m2 : More φ1 H1 w φ2 (H1 ++ [.cells (List.flatten ps)]) := ⟨hrd, he2, _, rfl⟩
            refine ⟨φ2, _, [.sl H1.length 0 i.size len cap], m1.trans m2, ?_, ?_, rfl, by simp [V.lt]⟩
            · simp only [VRs, VR]
              refine ⟨_, _, rfl, ⟨hlen, a.block, a.off, a.off, cap, ?_, ?_, Nat.le_refl _, .inl rfl, c, T, fz, hc, hsz⟩, rfl⟩
              · show (φ1.put H1.length a.block a.off) H1.length = _
                unfold Phi.put; rw [if_pos rfl]
              · obtain ⟨ab, ao, as⟩ := a
                simp only at hsp
                subst hsp; rfl
            · unfold Shp; rw [hty]
              refine .inr (.inr ⟨_, _, _, _, ps, rfl, by rw [hi]; rfl, ?_, a1, a2, hlen, hcap, fun p hp => m2.shp (a6 p hp)⟩)
              rw [cellsAt_app0]; rfl
      · cases hp
    · rename_i s by' fs fl zz hty
      obtain ⟨gs, hu, hfs⟩ := struct_some hty
      obtain ⟨xs, m, hm, _, hl, hxl, hf⟩ := DataW.trod_struct hu h
      injection hm with hm
      subst hm
      rw [cellsOf_ty hty] at hl
      have hall : ∀ f ∈ fs, ∃ x, DataW.trod enc P w 0 (fun _ => true) true n f.2 ((us.drop f.1).take (P.cellsOf f.2)) = some x := by
        intro f hf'
        rw [hfs, List.mem_map] at hf'
        obtain ⟨g, hg, rfl⟩ := hf'
        obtain ⟨j, hj, hgj⟩ := List.mem_iff_getElem.1 hg
        have hgj' : gs[j]? = some g := by rw [← hgj]; simp
        have := hf j g hgj'
        rw [this]
        have hjs : j < xs.length := by rw [hxl]; simpa using hj
        exact ⟨_, List.getElem?_eq_getElem hjs⟩
      obtain ⟨φ', H', vs, m1, r1, s1, c1, l1⟩ := readF ih hp hall hl φ H hR
      refine ⟨φ', H', vs, m1, by simpa using r1, ?_, c1, l1⟩
      unfold Shp; rw [hty]; exact s1
    · cases hp
end
end Go.Proofs.YtcbjmggbbnpbpaaDoor.Lg
namespace Go.Proofs.YtcbjmggbbnpbpaaDoor.Lg
set_option linter.unusedSimpArgs false
set_option linter.unusedVariables false
open Go.RowKit (Below)
open Go.ChangeShapes Go.WideShapes

/-! ### one fuel -/
theorem tileF_mono {T : TypeId → Option TI} {S S' : TypeId → Bool} (h : ∀ t, S t = true → S' t = true) : ∀ {fs : List (Nat × TypeId)} {o e : Nat}, tileF T S fs o e = true → tileF T S' fs o e = true
  | [], _, _, k => k
  | f :: fs, o, e, k => by
    simp only [tileF, Bool.and_eq_true] at k ⊢
    refine ⟨⟨k.1.1, h _ k.1.2⟩, ?_⟩
    have k2 := k.2
    split at k2
    · exact tileF_mono h k2
    · cases k2
theorem plain_succ {T : TypeId → Option TI} : ∀ {n : Nat} {t : TypeId}, plain T n t = true → plain T (n + 1) t = true := by
  intro n
  induction n with
  | zero => intro t h; cases h
  | succ n ih =>
    intro t h
    unfold plain at h ⊢
    split at h
    · rfl
    · rfl
    · rfl
    · split at h
      · simp only [Bool.and_eq_true] at h ⊢
        exact ⟨h.1, ih h.2⟩
      · cases h
    · exact tileF_mono (fun t => ih) h
    · cases h
theorem plain_le {T : TypeId → Option TI} {n m : Nat} {t : TypeId} (h : n ≤ m) (k : plain T n t = true) : plain T m t = true := by
  induction h with
  | refl => exact k
  | step _ ih => exact plain_succ ih
theorem ShpF.fuel {T : TypeId → Option TI} {S S' : TypeId → List V → Prop} {B : TypeId → Bool} (h : ∀ u c, B u = true → S u c → S' u c) : ∀ {fs : List (Nat × TypeId)} {o e : Nat} {cs : List V}, tileF T B fs o e = true → ShpF S fs cs → ShpF S' fs cs
  | [], _, _, _, _, k => k
  | f :: fs, o, e, _, b, ⟨p, q, e1, k1, k2⟩ => by
    simp only [tileF, Bool.and_eq_true] at b
    have b2 := b.2
    split at b2
    · exact ⟨p, q, e1, h _ _ b.1.2 k1, ShpF.fuel h b2 k2⟩
    · cases b2
theorem Shp.fuel {T : TypeId → Option TI} {H : LH} : ∀ {k n : Nat} {t : TypeId} {cs : List V}, plain T k t = true → Shp T n t H cs → Shp T k t H cs := by
  intro k
  induction k with
  | zero => intro n t cs h; cases h
  | succ k ih =>
    intro n t cs h s
    cases n with
    | zero => exact s.elim
    | succ n =>
      unfold plain at h
      unfold Shp at s ⊢
      split at h
      · rename_i hty; rw [hty] at s ⊢; exact s
      · rename_i hty; rw [hty] at s ⊢; exact s
      · rename_i hty; rw [hty] at s ⊢; exact s
      · rename_i hty
        rw [hty] at s ⊢
        split at h
        · simp only [Bool.and_eq_true] at h
          rcases s with s | s | ⟨b, z, len, cap, ps, h1, h2, h3, h4, h5, h6, h7, h8⟩
          · exact .inl s
          · exact .inr (.inl s)
          · exact .inr (.inr ⟨b, z, len, cap, ps, h1, h2, h3, h4, h5, h6, h7, fun p hp => ih h.2 (h8 p hp)⟩)
        · cases h
      · rename_i hty
        rw [hty] at s ⊢
        exact ShpF.fuel (fun u c => ih) h s
      · cases h

/-! ### arguments -/
/-- an argument of a type -/
def ShpA (T : TypeId → Option TI) (n : Nat) (t : TypeId) (H : LH) (x : V) : Prop :=
  match T t with
  | some ⟨_, _, .struct _ _, _⟩ => ∃ cs, x = .agg cs ∧ Shp T n t H cs
  | _ => Shp T n t H [x]
def ShpAs (T : TypeId → Option TI) (n : Nat) (H : LH) : List TypeId → List V → Prop
  | [], [] => True
  | t :: ts, x :: xs => ShpA T n t H x ∧ ShpAs T n H ts xs
  | _, _ => False

section
variable {P : Program} {w : World} {D : Type} {enc : TypeId × Value → D}

theorem read_arg {k base : Nat} {t : TypeId} {v : Value} {d : DataW D} {ps : List MemPlace} (hp : plain (ty P) k t = true) (hok : Value.okWide P w .any base t v) (h : DataW.Trod enc P w 0 (fun _ => true) true t v d ps) {φ : Phi} {H : LH} (hR : RD φ H w) :
    ∃ φ' H' x, More φ H w φ' H' ∧ VR φ' w x v ∧ ShpA (ty P) k t H' x ∧ V.lt H'.length x := by
  obtain ⟨n, h⟩ := h
  have h2 := DataW.trod_le (Nat.le_max_left n k) h
  obtain ⟨φ', H', vs, g⟩ := read_ok _ _ _ _ h2 (plain_le (Nat.le_max_right n k) hp) φ H hR
  have hs : Shp (ty P) k t H' vs := g.shp.fuel hp
  have one : ∀ u, v.cells.toList = [u] → v = u → (∀ i, ty P t = some i → i.kind.isAgg = false) → ∃ φ' H' x, More φ H w φ' H' ∧ VR φ' w x v ∧ ShpA (ty P) k t H' x ∧ V.lt H'.length x := by
    intro u hu hvu hk
    have hr := g.vr
    rw [hu] at hr
    match vs, hr with
    | [], hr => simp [VRs] at hr
    | [x], hr =>
      simp only [VRs, List.cons.injEq] at hr
      obtain ⟨u', us', ⟨rfl, rfl⟩, hx, _⟩ := hr
      refine ⟨φ', H', x, g.more, by rw [hvu]; exact hx, ?_, g.lt x (by simp)⟩
      unfold ShpA
      split
      · rename_i hty; have := hk _ hty; cases this
      · exact hs
    | x :: y :: l, hr => simp only [VRs, List.cons.injEq] at hr; obtain ⟨u', us', ⟨rfl, rfl⟩, hx, u2, us2, h3, _⟩ := hr; cases h3
  unfold Value.okWide at hok
  cases k with
  | zero => cases hp
  | succ k =>
    unfold plain at hp
    split at hp
    · rename_i hty
      rw [bool_some hty] at hok
      unfold Cell.okWide at hok
      rw [bool_some hty] at hok
      cases v <;> simp [Cell.ok, bool_some hty] at hok
      exact one _ rfl rfl (fun i hi => by rw [hty] at hi; injection hi with hi; subst hi; rfl)
    · rename_i hty
      rw [int_some hty] at hok
      unfold Cell.okWide at hok
      rw [int_some hty] at hok
      cases v <;> simp [Cell.ok, int_some hty] at hok
      exact one _ rfl rfl (fun i hi => by rw [hty] at hi; injection hi with hi; subst hi; rfl)
    · rename_i hty
      rw [str_some hty] at hok
      unfold Cell.okWide at hok
      rw [str_some hty] at hok
      cases v <;> simp [Cell.ok, str_some hty] at hok
      exact one _ rfl rfl (fun i hi => by rw [hty] at hi; injection hi with hi; subst hi; rfl)
    · rename_i hty
      rw [slice_some hty] at hok
      unfold Cell.okWide at hok
      rw [slice_some hty] at hok
      cases v <;> simp [Cell.ok, slice_some hty] at hok
      exact one _ rfl rfl (fun i hi => by rw [hty] at hi; injection hi with hi; subst hi; rfl)
    · rename_i hty
      obtain ⟨gs, hu, _⟩ := struct_some hty
      rw [hu] at hok
      obtain ⟨cs, rfl, _, _⟩ := hok
      refine ⟨φ', H', .agg vs, g.more, ?_, ?_, ?_⟩
      · simp only [VR]; exact ⟨g.scal, cs.toList, by simp, g.vr⟩
      · unfold ShpA; rw [hty]; exact ⟨vs, rfl, hs⟩
      · simp only [V.lt]; exact lts_iff.2 g.lt
    · cases hp

theorem ShpA.more {φ φ' : Phi} {H H' : LH} (m : More φ H w φ' H') {T : TypeId → Option TI} {n : Nat} {t : TypeId} {x : V} (h : ShpA T n t H x) : ShpA T n t H' x := by
  unfold ShpA at h ⊢
  split
  · rename_i hty; rw [hty] at h; obtain ⟨cs, h1, h2⟩ := h; exact ⟨cs, h1, m.shp h2⟩
  · rename_i hty
    split at h
    · rename_i hty'; exact absurd hty' (hty _ _ _ _ _)
    · exact m.shp h
theorem read_args {k base : Nat} : ∀ {ts : List TypeId} {vs : List Value} {ds : List (DataW D)} {ps : List MemPlace}, ts.all (plain (ty P) k) = true → (∀ (j : Nat) t v, ts[j]? = some t → vs[j]? = some v → Value.okWide P w .any base t v) →
    DataW.TrodAll enc P w 0 (fun _ => true) true ts vs ds ps → ∀ {φ : Phi} {H : LH}, RD φ H w → ∃ φ' H' xs, More φ H w φ' H' ∧ VRs φ' w xs vs ∧ ShpAs (ty P) k H' ts xs ∧ ∀ x ∈ xs, V.lt H'.length x
  | [], [], [], ps, _, _, _, φ, H, hR => ⟨φ, H, [], .refl hR, by simp only [VRs], trivial, by simp⟩
  | t :: ts, v :: vs, d :: ds, ps, hp, hok, h, φ, H, hR => by
    obtain ⟨p, q, h1, h2, _⟩ := h
    simp only [List.all_cons, Bool.and_eq_true] at hp
    obtain ⟨φ1, H1, x, m1, r1, s1, l1⟩ := read_arg hp.1 (hok 0 t v rfl rfl) h1 hR
    obtain ⟨φ2, H2, xs, m2, r2, s2, l2⟩ := read_args hp.2 (fun j t v hj hv => hok (j + 1) t v hj hv) h2 m1.rd
    refine ⟨φ2, H2, x :: xs, m1.trans m2, by simp only [VRs]; exact ⟨v, vs, rfl, r1.mono m2.ext, r2⟩, ⟨s1.more m2, s2⟩, ?_⟩
    intro y hy
    rcases List.mem_cons.1 hy with hy | hy
    · subst hy; exact V.lt_mono m2.len l1
    · exact l2 y hy
  | [], _ :: _, _, _, _, _, h, _, _, _ => h.elim
  | [], [], _ :: _, _, _, _, h, _, _, _ => h.elim
  | _ :: _, [], _, _, _, _, h, _, _, _ => h.elim
  | _ :: _, _ :: _, [], _, _, _, h, _, _, _ => h.elim

/-- a law whose run yields true, whatever the arguments -/
def LawRun (P : Program) (C : Cfg) (ok : FuncId → Bool) (k : Nat) (K : FuncId) (ts : List TypeId) : Prop :=
  ∀ xs H, HB H → ShpAs (ty P) k H ts xs → ∃ H', Run P C ok K xs H.length H = some (.bool true, H')

theorem law_callsG {C : Cfg} {ok : FuncId → Bool} (hcall : CallOk P C.glob (Run P C ok)) {k base : Nat} {K : FuncId} {fn : Func} (hfn : P.funcs[K]? = some fn) (hbody : fn.body.isSome = true) (hname : fn.name ≠ "runtime.NumGoroutine")
    (hlaw : LawRun P C ok k K fn.params.toList) (hp : fn.params.toList.all (plain (ty P) k) = true) {args : Array Value} {ds : List (DataW D)} {ps : List MemPlace}
    (hval : ∀ (j : Nat) t v, fn.params[j]? = some t → args[j]? = some v → Value.okWide P w .any base t v) (htr : DataW.TrodAll enc P w 0 (fun _ => true) true fn.params.toList args.toList ds ps)
    (hglob : ∀ g cs, C.glob g = some cs → ∃ c T fz, w.heap[g]? = some (.cells c T fz) ∧ cs.length ≤ c.size ∧ ∀ (i : Nat) (v : V), cs[i]? = some v → v.isScal = true ∧ ∃ u, c[i]? = some u ∧ ∀ φ w, VR φ w v u) :
    Calls P K args w fun e w' => e = .returned (.bool true) ∧ Below w.heap.size w w' := by
  have hR0 : RD (fun _ => none) [] w := ⟨fun b x e => (by cases e), fun b q d x e => (by cases e), fun b q d e => (by cases e), fun b x e => by simp at e⟩
  obtain ⟨φ, H, xs, m, r, s, l⟩ := read_args hp (fun j t v hj hv => hval j t v (by simpa using hj) (by simpa using hv)) htr hR0
  obtain ⟨H', hrun⟩ := hlaw xs H m.rd.hb s
  let p : Par := ⟨H.length, w.heap.size, w, C.glob⟩
  have hHR : HR p φ H w := by
    refine ⟨fun b q d x e hx => ?_, m.rd.bnd, fun b b' q d d' e e' hr _ => ?_, fun b q d e hr => ?_, Nat.le_refl _, .refl _ _, fun g cs e => ?_⟩
    · have hb := m.rd.dom b _ e
      have := m.rd.blk b q d x e hx
      cases x with
      | cells cs =>
        obtain ⟨c, T, fz, h1, h2, h3, _⟩ := this
        exact ⟨c, T, fz, h1, h2, h3, fun hf => absurd hf (Nat.not_le.2 hb)⟩
      | map es => exact this
      | dead => trivial
    · exact absurd (m.rd.dom b _ e) (Nat.not_lt.2 hr)
    · exact absurd (m.rd.dom b _ e) (Nat.not_lt.2 hr)
    · have h := hglob g cs e
      obtain ⟨c, T, fz, h1, h2⟩ := h
      exact ⟨(Array.getElem?_eq_some_iff.1 h1).1, c, T, fz, h1, h2⟩
  have := hcall _ _ _ _ _ _ hrun p φ w args.toList rfl (Nat.le_refl _) (Nat.le_refl _) m.rd.hb l hHR (fun b x e => .inl (m.rd.dom b x e)) r
  have henter : (callFunc K ⟨args.toList⟩).run P w = .ok (.enter K args) w := by
    obtain ⟨c, hc⟩ := Option.isSome_iff_exists.1 hbody
    simp [callFunc, hfn, hname, hc]
  rw [henter] at this
  rcases this with ⟨u, w', _, h1 | ⟨h1, _⟩⟩ | ⟨f, as, w1, h1, h2⟩
  · cases h1
  · cases h1
  · injection h1 with h1 h3
    injection h1 with h4 h5
    subst h4; subst h5; subst h3
    refine Calls.mono h2 ?_
    rintro e w' ⟨u, rfl, φ', hv, h', _⟩
    simp only [VR] at hv
    subst hv
    exact ⟨rfl, h'.old⟩
theorem law_calls {C : Cfg} {ok : FuncId → Bool} (hcall : CallOk P C.glob (Run P C ok)) (hglob : ∀ g, C.glob g = none) {k base : Nat} {K : FuncId} {fn : Func} (hfn : P.funcs[K]? = some fn) (hbody : fn.body.isSome = true) (hname : fn.name ≠ "runtime.NumGoroutine")
    (hlaw : LawRun P C ok k K fn.params.toList) (hp : fn.params.toList.all (plain (ty P) k) = true) {args : Array Value} {ds : List (DataW D)} {ps : List MemPlace}
    (hval : ∀ (j : Nat) t v, fn.params[j]? = some t → args[j]? = some v → Value.okWide P w .any base t v) (htr : DataW.TrodAll enc P w 0 (fun _ => true) true fn.params.toList args.toList ds ps) :
    Calls P K args w fun e w' => e = .returned (.bool true) ∧ Below w.heap.size w w' :=
  law_callsG hcall hfn hbody hname hlaw hp hval htr fun g cs e => (by rw [hglob] at e; cases e)
end

/-! ### the row -/
section
variable {D : Type} {enc : TypeId × Value → D} {P : Program}
theorem trodAll_stays (hl : laidOutB P = true) {W W' : World} {sp' : Nat → Bool} (hb : Below W.heap.size W W') : ∀ {ts : List TypeId} {vs : List Value} {ds : List (DataW D)} {ps : List MemPlace}, ts.all (fun t => P.readableRec t && decide (t < P.types.size)) = true →
    DataW.TrodAll enc P W 0 (fun _ => true) true ts vs ds ps → (∀ p ∈ ps, p.block < W.heap.size) → (∀ p ∈ ps, sp' p.block = true) → DataW.TrodAll enc P W' 0 sp' true ts vs ds ps
  | [], [], [], _, _, h, _, _ => h
  | t :: ts, v :: vs, d :: ds, ps, hr, ⟨p, q, h1, h2, e⟩, hlt, hs => by
    subst e
    simp only [List.all_cons, Bool.and_eq_true, decide_eq_true_eq] at hr
    exact ⟨p, q, WideElems.Trod_stays hl hr.1.1 hr.1.2 h1 (fun x hx => hb.same (hlt x (by simp [hx]))) (fun x hx => hs x (by simp [hx])),
      trodAll_stays hl hb hr.2 h2 (fun x hx => hlt x (by simp [hx])) (fun x hx => hs x (by simp [hx])), rfl⟩
  | [], _ :: _, _, _, _, h, _, _ => h.elim
  | [], [], _ :: _, _, _, h, _, _ => h.elim
  | _ :: _, [], _, _, _, h, _, _ => h.elim
  | _ :: _, _ :: _, [], _, _, h, _, _ => h.elim

theorem shp1 {W : World} {t : TypeId} {vs : List Value} {ds : List (DataW D)} {ps : List MemPlace} (h : DataW.TrodAll enc P W 0 (fun _ => true) true [t] vs ds ps) : ∃ d, ds = [d] := by
  match vs, ds, h with
  | [_], [d], _ => exact ⟨d, rfl⟩
  | [], [], h => exact h.elim
  | [], _ :: _, h => exact h.elim
  | _ :: _, [], h => exact h.elim
  | _ :: _ :: _, _ :: [], h => obtain ⟨_, _, _, h, _⟩ := h; exact h.elim
  | [_], _ :: _ :: _, h => obtain ⟨_, _, _, h, _⟩ := h; exact h.elim
  | _ :: _ :: _, _ :: _ :: _, h => obtain ⟨_, _, _, h, _⟩ := h; exact h.elim
theorem shp2 {W : World} {t t' : TypeId} {vs : List Value} {ds : List (DataW D)} {ps : List MemPlace} (h : DataW.TrodAll enc P W 0 (fun _ => true) true [t, t'] vs ds ps) : ∃ d d', ds = [d, d'] := by
  match vs, ds, h with
  | _ :: vs, d :: ds, h =>
    obtain ⟨_, _, _, h, _⟩ := h
    obtain ⟨d', rfl⟩ := shp1 h
    exact ⟨d, d', rfl⟩
  | [], [], h => exact h.elim
  | [], _ :: _, h => exact h.elim
  | _ :: _, [], h => exact h.elim
theorem shpV {W : World} {gs : List (DataW D)} {ps : List MemPlace} {sp : Nat → Bool} (h : DataW.TrodVars enc P W sp [] gs ps) : gs = [] := by
  cases gs with
  | nil => rfl
  | cons g gs => exact h.elim
/-- nothing of what was there has turned: the row's 'post' -/
theorem post_of_below {f : Func} {s : ChangeSpec} {apart fresh handsOn again : Bool} {W W' : World} {args : Array Value} {v : Value} {ds gs : List (DataW D)} {before : List MemPlace} (hl : laidOutB P = true) (hb : Below W.heap.size W W')
    (hr : f.params.toList.all (fun t => P.readableRec t && decide (t < P.types.size)) = true) (hvars : s.vars = [])
    (hW : DataW.Whole enc P f.params.toList s.vars apart W args.toList ds gs before)
    (hres : ∀ (b : Nat) (sp : Nat → Bool) (hd : Bool), DataW.TrodAll enc P W' b sp hd f.resultTypes.toList (v.resultList f.resultTypes.size) (s.fn D (ds ++ gs)).results [])
    (hfa : (s.fn D (ds ++ gs)).args = ds) (hfv : (s.fn D (ds ++ gs)).vars = [])
    (hok : ∀ (j : Nat) (t : TypeId) (r : Value), f.resultTypes[j]? = some t → (v.resultList f.resultTypes.size)[j]? = some r → Value.okWide P W' .any 0 t r) :
    s.post enc P f apart fresh handsOn again W args v W' := by
  have hlt := hW.lt
  have hW0 := hW
  obtain ⟨p, q, hA, hV, hpq, hz, hn⟩ := hW
  rw [hvars] at hV
  have hq : q = [] ∧ gs = [] := by
    cases gs with
    | nil => exact ⟨hV, rfl⟩
    | cons g gs => exact hV.elim
  obtain ⟨rfl, rfl⟩ := hq
  simp only [List.append_nil] at hpq
  subst hpq
  have hargs : ∀ sp : Nat → Bool, (∀ x ∈ before, sp x.block = true) → DataW.TrodAll enc P W' 0 sp true f.params.toList args.toList (s.fn D (ds ++ [])).args before := fun sp hs => by
    rw [hfa]; exact trodAll_stays hl hb hr hA hlt hs
  have hvs : ∀ sp : Nat → Bool, DataW.TrodVars enc P W' sp s.vars (s.fn D (ds ++ [])).vars [] := fun sp => by
    rw [hvars, hfv]; exact rfl
  have hold : ∀ x ∈ before, (fun b => decide (b < W.heap.size)) x.block = true := fun x hx => by simpa using hlt x hx
  refine ⟨ds, [], before, [], before, [], hW0, hres _ _ _, hargs _ hold, hvs _, World.keptBut_mono (fun x hx => ⟨hx, Or.inr (by simpa using hx)⟩) (hb.frame (· ∈ before)), fun _ => ?_⟩
  refine ⟨hok, _, _, ([] ++ before) ++ [], ⟨[] ++ before, [], trodAll_append (hargs _ (fun _ _ => rfl)) (hres _ _ _), hvs _, rfl, ?_, ?_⟩, ?_⟩
  · intro b off hp
    have hp' : MemPlace.cell b off ∈ before := by simpa using hp
    rw [hb.frozen (hlt _ hp')]
    exact hz b off hp'
  · intro ha
    simpa using hn ha
  · intro x hx _
    simpa using hx
end
end Go.Proofs.YtcbjmggbbnpbpaaDoor.Lg
namespace Go.Proofs.YtcbjmggbbnpbpaaDoor.Lg
set_option linter.unusedSimpArgs false
set_option linter.unusedVariables false

/-- a function that writes no old block does not ask from where on it may write -/
theorem Run_fl {P : Program} {C : Cfg} {ok : FuncId → Bool} {k : FuncId} {a : List V} {fl : Nat} {H : LH} {v : V} {H' : LH} (hm : C.mode k ≠ .any) (h : Run P C ok k a fl H = some (v, H')) (fl2 : Nat) : Run P C ok k a fl2 H = some (v, H') := by
  obtain ⟨n, hn⟩ := Run_of.1 h
  exact Run_of.2 ⟨n, (runN_mode n _ _ _ _ _ _ hm hn).2 fl2⟩
/-- the content of a slice whose elements take 'z' cells: 'ps' are its elements -/
def Sl (H : LH) (z : Nat) (v : V) (ps : List (List V)) : Prop :=
  ((v = .nilsl ∨ v = .emp) ∧ ps = []) ∨ ∃ b o c l, v = .sl b o z ps.length c ∧ H.cellsAt b = some l ∧ (∀ i p, ps[i]? = some p → p.length = z ∧ o + i * z + z ≤ l.length ∧ (l.drop (o + i * z)).take z = p)
theorem cellsAt_lt {H : LH} {b : Nat} {l : List V} (h : H.cellsAt b = some l) : b < H.length := (List.getElem?_eq_some_iff.1 (cellsAt_some h)).1
theorem Sl.ext {H L : LH} {z : Nat} {v : V} {ps : List (List V)} (h : Sl H z v ps) : Sl (H ++ L) z v ps := by
  rcases h with h | ⟨b, o, c, l, h1, h2, h3⟩
  · exact .inl h
  · exact .inr ⟨b, o, c, l, h1, cellsAt_left h2, h3⟩
/-- what is asked of a slice's value, whatever the heap -/
theorem Sl.facts {H : LH} {z : Nat} {v : V} {ps : List (List V)} (h : Sl H z v ps) {T : TypeId → Option TI} {t : TypeId} {s b : Nat} {e : TypeId} {zz : Option V} (hT : T t = some ⟨s, b, .slice e, zz⟩) :
    v.isTup = false ∧ (∀ K, lenV K v = some ps.length) ∧ lenOk T t v = true := by
  rcases h with ⟨rfl | rfl, rfl⟩ | ⟨b, o, c, l, rfl, _⟩
  · exact ⟨rfl, fun K => rfl, by simp only [lenOk, hT]⟩
  · exact ⟨rfl, fun K => rfl, by simp only [lenOk, hT]⟩
  · exact ⟨rfl, fun K => rfl, by simp only [lenOk, hT]⟩
theorem putAt_app : ∀ {X A B : List V}, X.length ≤ B.length → putAt (A ++ B) A.length X = A ++ X ++ B.drop X.length
  | [], A, B, _ => by simp [putAt]
  | x :: X, A, [], h => by simp at h
  | x :: X, A, b :: B, h => by
    simp only [putAt]
    have e : (A ++ b :: B).set A.length x = (A ++ [x]) ++ B := by simp
    rw [e, show A.length + 1 = (A ++ [x]).length by simp, putAt_app (by simpa using h)]
    simp
theorem set_old {H L : LH} {b : Nat} {x : Blk} (h : b < H.length) : (H ++ L).set b x = H.set b x ++ L := List.set_append_left _ _ h
theorem cellsAt_set {H : LH} {b : Nat} {cs : List V} (h : b < H.length) : LH.cellsAt (H.set b (.cells cs)) b = some cs := by
  unfold LH.cellsAt; rw [List.getElem?_set_self h]
theorem cellsAt_set_ne {H : LH} {b b' : Nat} {x : Blk} (h : b ≠ b') : LH.cellsAt (H.set b x) b' = H.cellsAt b' := by
  unfold LH.cellsAt; rw [List.getElem?_set_ne h]
theorem cellsAt_old {H L : LH} {b : Nat} (h : b < H.length) : LH.cellsAt (H ++ L) b = H.cellsAt b := by
  unfold LH.cellsAt; rw [List.getElem?_append_left h]
end Go.Proofs.YtcbjmggbbnpbpaaDoor.Lg
namespace Go.Proofs.YtcbjmggbbnpbpaaDoor.Lg
set_option linter.unusedSimpArgs false
set_option linter.unusedVariables false

abbrev Fin := Option (Ex × Env × LH) → Option (V × LH)
theorem bool_dec' (b : Bool) {i : Decidable (b = true)} : @decide (b = true) i = b := by cases b <;> simp
/-- a value that is there where 'b' -/
def selV (b : Bool) (v : V) : V := match b with | true => v | false => und
/-- by these a congruence always counts as a change: what was evaluated is not gone through again by other ways -/
def dumA : Nat := 0
def dumB : Nat := 0
theorem dum : dumA = dumB := rfl
section
variable (F : Fin) (X : Ctx)
def zEv (k : List K) (x : Ex) (e : Env) (H : LH) : Option (V × LH) := F (ev X k x e H)
def zR (ops rest : List Oper) (l : Loc) (e : Env) (H : LH) (k : List K) : Option (V × LH) := F (evR X ops rest l e H k)
def zS (ops : List Oper) (d : Option Tmp) (rest : List Oper) (l : Loc) (e : Env) (k : List K) (r : Option (V × LH)) : Option (V × LH) := F (evS X ops d rest l e k r)
def zG (ops : List Oper) (o : Oper) (rest : List Oper) (l : Loc) (e : Env) (H : LH) (k : List K) (g : Option Bool) : Option (V × LH) := F (evG X ops o rest l e H k g)
def zB (a b : Code) (k : List K) (e : Env) (H : LH) (v : Option V) : Option (V × LH) := F (evB X a b k e H v)
/-- an operation under a guard 'b', whose result is 'r' -/
def zP (ops : List Oper) (d : Tmp) (rest : List Oper) (l : Loc) (e : Env) (H : LH) (k : List K) (b : Bool) (r : Option (V × LH)) : Option (V × LH) :=
  match b with
  | true => zS F X ops (some d) rest l e k r
  | false => zR F X ops rest ((d, und) :: l) e H k
/-- likewise, of an operation without a result -/
def zE (ops : List Oper) (rest : List Oper) (l : Loc) (e : Env) (H : LH) (k : List K) (b : Bool) (r : Option (V × LH)) : Option (V × LH) :=
  match b with
  | true => zS F X ops none rest l e k r
  | false => zR F X ops rest l e H k
end
section
variable {F : Fin} {X : Ctx} {k : List K} {e : Env} {H : LH}
theorem zEv_nil {x : Ex} : zEv F X [] x e H = F (some (x, e, H)) := rfl
theorem zEv_skip : zEv F X (.code .skip :: k) .nrm e H = zEv F X k .nrm e H := rfl
theorem zEv_label {l : Nat} : zEv F X (.code (.label l) :: k) .nrm e H = zEv F X k .nrm e H := rfl
theorem zEv_seq {a b : Code} : zEv F X (.code (.seq a b) :: k) .nrm e H = zEv F X (.code a :: .code b :: k) .nrm e H := congrArg F ev_seq
theorem zEv_region {id : Nat} {ops : List Oper} {d : Bool} : zEv F X (.code (.region id ⟨ops⟩ d) :: k) .nrm e H = zR F X ops ops [] e H k := congrArg F ev_region
theorem zEv_cond {c : Operand} {a b : Code} : zEv F X (.code (.cond c a b) :: k) .nrm e H = zB F X a b k e H (evalO X.keep e [] c) := congrArg F ev_cond
theorem zEv_block {id : Nat} {c : Code} : zEv F X (.code (.block id c) :: k) .nrm e H = zEv F X (.code c :: .blk id :: k) .nrm e H := congrArg F ev_block
theorem zEv_exit {id : Nat} : zEv F X (.code (.exit id) :: k) .nrm e H = zEv F X k (.exit id) e H := rfl
theorem zEv_ret : zEv F X (.code .ret :: k) .nrm e H = zEv F X k .ret e H := rfl
theorem zEv_pass {c : Code} {j : Nat} : zEv F X (.code c :: k) (.exit j) e H = zEv F X k (.exit j) e H := rfl
theorem zEv_passR {c : Code} : zEv F X (.code c :: k) .ret e H = zEv F X k .ret e H := rfl
theorem zEv_blk {id : Nat} : zEv F X (.blk id :: k) .nrm e H = zEv F X k .nrm e H := rfl
theorem zEv_blkR {id : Nat} : zEv F X (.blk id :: k) .ret e H = zEv F X k .ret e H := rfl
theorem zEv_blkX {id j : Nat} : zEv F X (.blk id :: k) (.exit j) e H = if j = id then zEv F X k .nrm e H else zEv F X k (.exit j) e H := by
  unfold zEv; rw [ev_blkX]; split <;> rfl
theorem zEv_lpR {c : Code} : zEv F X (.lp c :: k) .ret e H = zEv F X k .ret e H := rfl
theorem zEv_lpX {c : Code} {j : Nat} : zEv F X (.lp c :: k) (.exit j) e H = zEv F X k (.exit j) e H := rfl
theorem zEv_lp {c : Code} : zEv F X (.lp c :: k) .nrm e H = zEv F X (.code (.loop c) :: k) .nrm e H := rfl
theorem zR_nil {ops : List Oper} {l : Loc} : zR F X ops [] l e H k = zEv F X k .nrm (keepE X.keep e l) H := rfl
theorem zR_cons {ops : List Oper} {o : Oper} {rest : List Oper} {l : Loc} : zR F X ops (o :: rest) l e H k = zG F X ops o rest l e H k (wantV X ops e l o.guard) := congrArg F evR_cons
theorem zS_some {ops : List Oper} {d : Tmp} {rest : List Oper} {l : Loc} {v : V} : zS F X ops (some d) rest l e k (some (v, H)) = zR F X ops rest ((d, v) :: l) e H k := rfl
theorem zS_none {ops : List Oper} {rest : List Oper} {l : Loc} {v : V} : zS F X ops none rest l e k (some (v, H)) = zR F X ops rest l e H k := rfl
theorem zG_op {ops : List Oper} {rest : List Oper} {l : Loc} {d : Tmp} {op : Op} {t : TypeId} {p : String} {a : Array Edge} {g : Option (Nat × Bool)} {b : Bool} :
    zG F X ops ⟨some d, op, t, p, a, g⟩ rest l e H k (some b) = zP F X ops d rest l e H k b (grdB (fltC X.keep ops e l op a) (doOp X.call X.T X.G X.fl H op (evalL X.keep e l (opds op)))) := by cases b <;> rfl
theorem zG_st {ops : List Oper} {rest : List Oper} {l : Loc} {ty : TypeId} {ad x : Operand} {t : TypeId} {p : String} {a : Array Edge} {g : Option (Nat × Bool)} {b : Bool} :
    zG F X ops ⟨none, .store ty ad x, t, p, a, g⟩ rest l e H k (some b) =
      zE F X ops rest l e H k b (grd (fltE X.keep ops e l ad a.toList = true) (doOp X.call X.T X.G X.fl H (.store ty ad x) (evalL X.keep e l (opds (.store ty ad x))))) := by
  have h : ∀ (c : Bool) (y : Option (V × LH)), grdB c y = grd (c = true) y := fun c y => by cases c <;> rfl
  rw [← h]
  cases b <;> rfl
theorem zG_up {ops : List Oper} {rest : List Oper} {l : Loc} {ty : TypeId} {m i x : Operand} {t : TypeId} {p : String} {a : Array Edge} {g : Option (Nat × Bool)} {b : Bool} :
    zG F X ops ⟨none, .mapUpdate ty m i x, t, p, a, g⟩ rest l e H k (some b) =
      zE F X ops rest l e H k b (doOp X.call X.T X.G X.fl H (.mapUpdate ty m i x) (evalL X.keep e l (opds (.mapUpdate ty m i x)))) := by cases b <;> rfl
theorem zG_in {ops : List Oper} {rest : List Oper} {l : Loc} {ty : TypeId} {m i x : Operand} {t : TypeId} {p : String} {a : Array Edge} {g : Option (Nat × Bool)} {b : Bool} :
    zG F X ops ⟨none, .insert ty m i x, t, p, a, g⟩ rest l e H k (some b) =
      zE F X ops rest l e H k b (doOp X.call X.T X.G X.fl H (.insert ty m i x) (evalL X.keep e l (opds (.insert ty m i x)))) := by cases b <;> rfl
theorem zG_cl {ops : List Oper} {rest : List Oper} {l : Loc} {c : Call} {t : TypeId} {p : String} {a : Array Edge} {g : Option (Nat × Bool)} {b : Bool} :
    zG F X ops ⟨none, .call c, t, p, a, g⟩ rest l e H k (some b) = zE F X ops rest l e H k b (grdB (fltC X.keep ops e l (.call c) a) (doOp X.call X.T X.G X.fl H (.call c) (evalL X.keep e l (opds (.call c))))) := by cases b <;> rfl
theorem zB_bool {a b : Code} {t : Bool} : zB F X a b k e H (some (.bool t)) = if t = true then zEv F X (.code a :: k) .nrm e H else zEv F X (.code b :: k) .nrm e H := by
  cases t <;> rfl
theorem zP_true {ops : List Oper} {rest : List Oper} {l : Loc} {d : Tmp} {r : Option (V × LH)} : zP F X ops d rest l e H k true r = zS F X ops (some d) rest l e k r := rfl
theorem zP_false {ops : List Oper} {rest : List Oper} {l : Loc} {d : Tmp} {r : Option (V × LH)} : zP F X ops d rest l e H k false r = zR F X ops rest ((d, und) :: l) e H k := rfl
theorem zP_same {ops : List Oper} {rest : List Oper} {l : Loc} {d : Tmp} {b : Bool} {v : V} : zP F X ops d rest l e H k b (some (v, H)) = zR F X ops rest ((d, selV b v) :: l) e H k := by cases b <;> rfl
theorem zP_sym {ops : List Oper} {rest : List Oper} {l : Loc} {d : Tmp} {b : Bool} {v : V} {H' : LH} : zP F X ops d rest l e H k b (some (v, H')) = if b = true then zR F X ops rest ((d, v) :: l) e H' k else zR F X ops rest ((d, und) :: l) e H k := by cases b <;> rfl
theorem zE_true {ops : List Oper} {rest : List Oper} {l : Loc} {r : Option (V × LH)} : zE F X ops rest l e H k true r = zS F X ops none rest l e k r := rfl
theorem zE_false {ops : List Oper} {rest : List Oper} {l : Loc} {r : Option (V × LH)} : zE F X ops rest l e H k false r = zR F X ops rest l e H k := rfl
theorem zE_sym {ops : List Oper} {rest : List Oper} {l : Loc} {b : Bool} {v : V} {H' : LH} : zE F X ops rest l e H k b (some (v, H')) = if b = true then zR F X ops rest l e H' k else zR F X ops rest l e H k := by cases b <;> rfl
theorem zP_dT {ops : List Oper} {rest : List Oper} {l : Loc} {d : Tmp} {r : Option (V × LH)} {i : Decidable True} : zP F X ops d rest l e H k (@decide True i) r = zS F X ops (some d) rest l e k r := by rw [decide_true]; rfl
theorem zP_dF {ops : List Oper} {rest : List Oper} {l : Loc} {d : Tmp} {r : Option (V × LH)} {i : Decidable False} : zP F X ops d rest l e H k (@decide False i) r = zR F X ops rest ((d, und) :: l) e H k := by rw [decide_false]; rfl
theorem zE_dT {ops : List Oper} {rest : List Oper} {l : Loc} {r : Option (V × LH)} {i : Decidable True} : zE F X ops rest l e H k (@decide True i) r = zS F X ops none rest l e k r := by rw [decide_true]; rfl
theorem zE_dF {ops : List Oper} {rest : List Oper} {l : Loc} {r : Option (V × LH)} {i : Decidable False} : zE F X ops rest l e H k (@decide False i) r = zR F X ops rest l e H k := by rw [decide_false]; rfl
theorem zB_sel {a b : Code} {s t : Bool} {h : s = true} : zB F X a b k e H (some (selV s (.bool t))) = zB F X a b k e H (some (.bool t)) := by
  subst h; rfl
theorem zEv_cg {F' : Fin} {X' : Ctx} {e' : Env} {H' : LH} {x : Ex} {d' : Nat} (h0 : dumA = d') (h1 : F = F') (h2 : X = X') (h3 : e = e') (h4 : H = H') : zEv F X k x e H = zEv F' X' k x e' H' := by
  subst h1; subst h2; subst h3; subst h4; rfl
theorem zR_cg {F' : Fin} {X' : Ctx} {e' : Env} {H' : LH} {ops rest : List Oper} {l : Loc} {d' : Nat} (h0 : dumA = d') (h1 : F = F') (h2 : X = X') (h3 : e = e') (h4 : H = H') : zR F X ops rest l e H k = zR F' X' ops rest l e' H' k := by
  subst h1; subst h2; subst h3; subst h4; rfl
theorem zS_cg {ops : List Oper} {d : Option Tmp} {rest : List Oper} {l : Loc} {r r' : Option (V × LH)} {d' : Nat} (h0 : dumA = d') (h : r = r') : zS F X ops d rest l e k r = zS F X ops d rest l e k r' := by rw [h]
theorem zG_cg {ops : List Oper} {o : Oper} {rest : List Oper} {l : Loc} {g g' : Option Bool} {d' : Nat} (h0 : dumA = d') (h : g = g') : zG F X ops o rest l e H k g = zG F X ops o rest l e H k g' := by rw [h]
theorem zB_cg {a b : Code} {v v' : Option V} {d' : Nat} (h0 : dumA = d') (h : v = v') : zB F X a b k e H v = zB F X a b k e H v' := by rw [h]
theorem zP_cg {ops : List Oper} {d : Tmp} {rest : List Oper} {l : Loc} {b : Bool} {c : Prop} [Decidable c] {r r' : Option (V × LH)} {d' : Nat} (h0 : dumA = d') (h : (b = true) = c) (h2 : c → r = r') : zP F X ops d rest l e H k b r = zP F X ops d rest l e H k (decide c) r' := by
  subst h
  rw [bool_dec']
  cases b with
  | true => rw [h2 rfl]
  | false => rfl
theorem zE_cg {ops : List Oper} {rest : List Oper} {l : Loc} {b : Bool} {c : Prop} [Decidable c] {r r' : Option (V × LH)} {d' : Nat} (h0 : dumA = d') (h : (b = true) = c) (h2 : c → r = r') : zE F X ops rest l e H k b r = zE F X ops rest l e H k (decide c) r' := by
  subst h
  rw [bool_dec']
  cases b with
  | true => rw [h2 rfl]
  | false => rfl
end
/-- a loop is its body, and itself again -/
theorem zEv_loop {F : Fin} {P : Program} {C : Cfg} {ok : FuncId → Bool} {keep : List Tmp} {fl : Nat} {k : List K} {e : Env} {H : LH} {c : Code} :
    zEv F (mkR P C ok keep fl) (.code (.loop c) :: k) .nrm e H = zEv F (mkR P C ok keep fl) (.code c :: .lp c :: k) .nrm e H := congrArg F ev_loop
/-- a call is its body -/
theorem Run_z {P : Program} {C : Cfg} {ok : FuncId → Bool} {f : FuncId} {fn : Func} {c : Code} {kp : List Tmp} {m : Mode} (hf : P.funcs[f]? = some fn) (hb : fn.body = some c) (ho : ok f = true)
    (hk : C.keep f = kp) (hm : C.mode f = m) (hr : C.ord f = []) (args : List V) (fl : Nat) (H : LH) :
    Run P C ok f args fl H = zEv (leaveX (mkR P C ok kp (floor m fl H)) m H fn.results.toList) (mkR P C ok kp (floor m fl H)) [.code c] .nrm (enterE kp args) H := Run_body hf hb ho hk hm hr args fl H
theorem Run_zr {P : Program} {C : Cfg} {ok : FuncId → Bool} {f : FuncId} {fn : Func} {c : Code} {kp : List Tmp} {m : Mode} {τ : List (Nat × List Nat × List (Nat × Nat))} (hf : P.funcs[f]? = some fn) (hb : fn.body = some c) (ho : ok f = true)
    (hk : C.keep f = kp) (hm : C.mode f = m) (hr : C.ord f = τ) (args : List V) (fl : Nat) (H : LH) :
    Run P C ok f args fl H = zEv (leaveX (mkR P C ok kp (floor m fl H)) m H fn.results.toList) (mkR P C ok kp (floor m fl H)) [.code (reC τ c)] .nrm (enterE kp args) H := Run_bodyR hf hb ho hk hm hr args fl H

theorem fltC_move {keep : List Tmp} {ops : List Oper} {e : Env} {l : Loc} {x} {es : Array Edge} : fltC keep ops e l (.move x) es = true := rfl
theorem fltC_assign {keep : List Tmp} {ops : List Oper} {e : Env} {l : Loc} {x} {es : Array Edge} : fltC keep ops e l (.assign x) es = true := rfl
theorem fltC_pick {keep : List Tmp} {ops : List Oper} {e : Env} {l : Loc} {x y z} {es : Array Edge} : fltC keep ops e l (.pick x y z) es = true := rfl
theorem fltC_alloc {keep : List Tmp} {ops : List Oper} {e : Env} {l : Loc} {x} {es : Array Edge} : fltC keep ops e l (.alloc x) es = true := rfl
theorem fltC_box {keep : List Tmp} {ops : List Oper} {e : Env} {l : Loc} {x y} {es : Array Edge} : fltC keep ops e l (.box x y) es = true := rfl
theorem fltC_build {keep : List Tmp} {ops : List Oper} {e : Env} {l : Loc} {x y} {es : Array Edge} : fltC keep ops e l (.build x y) es = true := rfl
theorem fltC_buildSlice {keep : List Tmp} {ops : List Oper} {e : Env} {l : Loc} {x y z} {es : Array Edge} : fltC keep ops e l (.buildSlice x y z) es = true := rfl
theorem fltC_load {keep : List Tmp} {ops : List Oper} {e : Env} {l : Loc} {x y} {es : Array Edge} : fltC keep ops e l (.load x y) es = true := rfl
theorem fltC_nilCheck {keep : List Tmp} {ops : List Oper} {e : Env} {l : Loc} {x} {es : Array Edge} : fltC keep ops e l (.nilCheck x) es = true := rfl
theorem fltC_binOp {keep : List Tmp} {ops : List Oper} {e : Env} {l : Loc} {x y z u v} {es : Array Edge} : fltC keep ops e l (.binOp x y z u v) es = true := rfl
theorem fltC_unOp {keep : List Tmp} {ops : List Oper} {e : Env} {l : Loc} {x y z} {es : Array Edge} : fltC keep ops e l (.unOp x y z) es = true := rfl
theorem fltC_convert {keep : List Tmp} {ops : List Oper} {e : Env} {l : Loc} {x y z} {es : Array Edge} : fltC keep ops e l (.convert x y z) es = true := rfl
theorem fltC_makeFunc {keep : List Tmp} {ops : List Oper} {e : Env} {l : Loc} {x y z} {es : Array Edge} : fltC keep ops e l (.makeFunc x y z) es = true := rfl
theorem fltC_makeMap {keep : List Tmp} {ops : List Oper} {e : Env} {l : Loc} {x y} {es : Array Edge} : fltC keep ops e l (.makeMap x y) es = true := rfl
theorem fltC_makeSlice {keep : List Tmp} {ops : List Oper} {e : Env} {l : Loc} {x y z} {es : Array Edge} : fltC keep ops e l (.makeSlice x y z) es = true := rfl
theorem fltC_slice {keep : List Tmp} {ops : List Oper} {e : Env} {l : Loc} {x y z u v} {es : Array Edge} : fltC keep ops e l (.slice x y z u v) es = true := rfl
theorem fltC_fieldAddr {keep : List Tmp} {ops : List Oper} {e : Env} {l : Loc} {x y z} {es : Array Edge} : fltC keep ops e l (.fieldAddr x y z) es = true := rfl
theorem fltC_field {keep : List Tmp} {ops : List Oper} {e : Env} {l : Loc} {x y z} {es : Array Edge} : fltC keep ops e l (.field x y z) es = true := rfl
theorem fltC_indexAddr {keep : List Tmp} {ops : List Oper} {e : Env} {l : Loc} {x y z} {es : Array Edge} : fltC keep ops e l (.indexAddr x y z) es = true := rfl
theorem fltC_index {keep : List Tmp} {ops : List Oper} {e : Env} {l : Loc} {x y z} {es : Array Edge} : fltC keep ops e l (.index x y z) es = true := rfl
theorem fltC_lookup {keep : List Tmp} {ops : List Oper} {e : Env} {l : Loc} {x y z u} {es : Array Edge} : fltC keep ops e l (.lookup x y z u) es = true := rfl
theorem fltC_extract {keep : List Tmp} {ops : List Oper} {e : Env} {l : Loc} {x y} {es : Array Edge} : fltC keep ops e l (.extract x y) es = true := rfl
theorem fltC_val {keep : List Tmp} {ops : List Oper} {e : Env} {l : Loc} {f : Operand} {xs : Array Operand} {ts : Array TypeId} {es : Array Edge} : fltC keep ops e l (.call ⟨.value f, xs, ts⟩) es = true := rfl
theorem fltC_len {keep : List Tmp} {ops : List Oper} {e : Env} {l : Loc} {xs : Array Operand} {ts : Array TypeId} {es : Array Edge} : fltC keep ops e l (.call ⟨.builtin .len, xs, ts⟩) es = true := rfl
theorem fltC_min {keep : List Tmp} {ops : List Oper} {e : Env} {l : Loc} {xs : Array Operand} {ts : Array TypeId} {es : Array Edge} : fltC keep ops e l (.call ⟨.builtin .min, xs, ts⟩) es = true := rfl
theorem fltC_max {keep : List Tmp} {ops : List Oper} {e : Env} {l : Loc} {xs : Array Operand} {ts : Array TypeId} {es : Array Edge} : fltC keep ops e l (.call ⟨.builtin .max, xs, ts⟩) es = true := rfl
theorem fltC_app {keep : List Tmp} {ops : List Oper} {e : Env} {l : Loc} {x : Operand} {xs : List Operand} {ts : Array TypeId} {es : List Edge} : fltC keep ops e l (.call ⟨.builtin .append, ⟨x :: xs⟩, ts⟩) ⟨es⟩ = fltA keep ops e l x es := rfl
theorem apartS_sl {b o b' o' z n c : Nat} : apartS (some (.ptr b o)) (some (.sl b' o' z n c)) = decide (b ≠ b') := rfl
theorem dstOf_cg {ops : List Oper} {j : Nat} : dstOf ops j = dstOf ops j := rfl
theorem dstOf_zero {o : Oper} {ops : List Oper} : dstOf (o :: ops) 0 = o.dst := rfl
theorem dstOf_succ {o : Oper} {ops : List Oper} {j : Nat} : dstOf (o :: ops) (j + 1) = dstOf ops j := rfl
theorem selV_true {v : V} : selV true v = v := rfl
theorem selV_false {v : V} : selV false v = und := rfl
theorem selV_selV {a b : Bool} {v : V} : selV a (selV b v) = selV (a && b) v := by cases a <;> cases b <;> rfl
theorem selV_cg {a : Bool} {c : Prop} [Decidable c] {v w : V} {d' : Nat} (h0 : dumA = d') (h : (a = true) = c) (h2 : c → v = w) : selV a v = selV (decide c) w := by
  subst h
  rw [bool_dec']
  cases a with
  | true => rw [h2 rfl]
  | false => rfl
theorem selV_dT {i : Decidable True} {v : V} : selV (@decide True i) v = v := by rw [decide_true]; rfl
theorem selV_dF {i : Decidable False} {v : V} : selV (@decide False i) v = und := by rw [decide_false]; rfl
theorem dec_and {p q : Prop} [Decidable p] [Decidable q] : (decide p && decide q) = decide (p ∧ q) := by by_cases h : p <;> by_cases h2 : q <;> simp [h, h2]
theorem dec_or {p q : Prop} [Decidable p] [Decidable q] : (decide p || decide q) = decide (p ∨ q) := by by_cases h : p <;> by_cases h2 : q <;> simp [h, h2]
theorem dec_not {p : Prop} [Decidable p] : (!decide p) = decide (¬ p) := by by_cases h : p <;> simp [h]
theorem wantO_boolT {b : Bool} : wantO true (some (.bool b)) = some b := by cases b <;> rfl
theorem wantO_boolF {b : Bool} : wantO false (some (.bool b)) = some (!b) := by cases b <;> rfl
theorem wantO_und {w : Bool} : wantO w (some (.tup [])) = some false := rfl
theorem wantO_selT {s b : Bool} : wantO true (some (selV s (.bool b))) = some (s && b) := by cases s <;> cases b <;> rfl
theorem wantO_selF {s b : Bool} : wantO false (some (selV s (.bool b))) = some (s && !b) := by cases s <;> cases b <;> rfl
theorem pickV_bool {H : LH} {t : Bool} {x y : V} : pickV H (.bool t) x y = some (if t = true then x else y, H) := by cases t <;> rfl
theorem ite_bool {c : Prop} [Decidable c] {x y : Bool} : (if c then V.bool x else V.bool y) = V.bool (if c then x else y) := by split <;> rfl
theorem ite_int {c : Prop} [Decidable c] {k : IntKind} {x y : Int} : (if c then V.int k x else V.int k y) = V.int k (if c then x else y) := by split <;> rfl
theorem ite_str {c : Prop} [Decidable c] {x y : ByteArray} : (if c then V.str x else V.str y) = V.str (if c then x else y) := by split <;> rfl
theorem bool_and {c : Prop} [Decidable c] {x : Bool} : (if c then x else false) = (decide c && x) := by by_cases h : c <;> simp [h]
theorem bool_or {c : Prop} [Decidable c] {x : Bool} : (if c then true else x) = (decide c || x) := by by_cases h : c <;> simp [h]
theorem ite_TF {c : Prop} [Decidable c] : (if c then true else false) = decide c := by by_cases h : c <;> simp [h]
theorem ite_FT {c : Prop} [Decidable c] : (if c then false else true) = !decide c := by by_cases h : c <;> simp [h]
theorem bool_and_eq {a b : Bool} : ((a && b) = true) = (a = true ∧ b = true) := by simp
theorem bool_or_eq {a b : Bool} : ((a || b) = true) = (a = true ∨ b = true) := by simp
attribute [go_sem] grdB_true fltA flt2 fltC_move fltC_assign fltC_pick fltC_alloc fltC_box fltC_build fltC_buildSlice fltC_load fltC_nilCheck fltC_binOp fltC_unOp fltC_convert fltC_makeFunc fltC_makeMap fltC_makeSlice fltC_slice fltC_fieldAddr fltC_field fltC_indexAddr fltC_index fltC_lookup fltC_extract fltC_val fltC_len fltC_min fltC_max fltC_app apartS dum mk_T mk_G mk_call mk_loop mk_keep mk_fl wantV evalL evalO lookL lookE opds doOp doCall doBi allV ptrV zeroO isTup_bool cells_bool isTup_int cells_int isTup_str cells_str isTup_ptr cells_ptr isTup_gptr cells_gptr isTup_nilp cells_nilp isTup_sl cells_sl isTup_nilsl cells_nilsl isTup_emp cells_emp isTup_map cells_map isTup_nilmap cells_nilmap isTup_fn cells_fn isTup_nilfn cells_nilfn isTup_agg cells_agg lenV_str lenV_sl lenV_nilsl lenV_emp lenV_nilmap lenV_map lenOk_str lenOk_sl lenOk_nilsl lenOk_emp lenOk_map lenOk_nilmap slCells_sl slCells_nilsl slCells_emp slCells_str srcOk_sl srcOk_str srcOk_nilsl srcOk_emp withH fieldA fieldV partV placeS places loadO storeT storeO putAt fltE flt1 apartV binV nilO yesO notO binS binI cmpI eqS unV ptrOk ofValue scal scals enterE keepE findL putL numO indexV elemI sizeO hiV boundV cutS cutL cutN convV buildV buildS buildL rowO zeros List.replicate_succ List.replicate_zero List.flatten_cons List.flatten_nil optCut cut bytesO strO toBytes IntWalk.i64_in IntWalk.u8_in aggO fillV extrV fnO mapO makeV appV isIntT TK.isAgg leaveX_nrm leaveX_ret leave_pure leave_fresh leave_any resV valO oneV floor_pure floor_fresh floor_any3 V.noAddr V.noAddrs grd_true grd_pos' size_lit ByteArray.size_append cellsAt_app cellsAt_app0 cellsAt_zero cellsAt_succ mapAt_app mapAt_app0 set_app set_app0 set0 setS List.getElem?_cons_zero List.getElem?_cons_succ List.getElem?_nil List.map_cons List.map_nil List.length_cons List.length_nil List.length_append List.length_set Nat.le_add_right Nat.le_refl List.drop_zero List.drop_succ_cons List.take_succ_cons List.take_zero List.zip_cons_cons List.zip_nil_left List.append_nil List.nil_append List.cons_append List.append_assoc Option.toList_some Option.toList_none Nat.zero_add Nat.add_zero Nat.zero_mul Nat.one_mul Nat.mul_one decide_true decide_false Bool.not_true Bool.not_false Bool.true_beq Bool.false_beq Bool.and_true Bool.true_and Bool.and_false Bool.false_and and_true true_and and_self decide_eq_true_eq Bool.not_eq_true' decide_eq_false_iff_not Int.toNat_natCast mostC zG_op zP_same zG_st zG_up zG_in zG_cl zB_bool zS_some zS_none zP_dT zP_dF zE_dT zE_dF zE_sym selV_selV selV_dT selV_dF dstOf_zero dstOf_succ wantO_boolT wantO_boolF wantO_und wantO_selT wantO_selF pickV_bool ite_bool ite_int ite_str bool_and bool_or ite_TF ite_FT bool_and_eq bool_or_eq Bool.and_self Bool.or_self dec_and dec_or dec_not and_assoc not_true_eq_false not_false_eq_true false_and and_false true_or or_true false_or or_false Classical.not_not
attribute [go_sem ↓] zEv_nil zEv_skip zEv_label zEv_seq zEv_region zEv_cond zEv_block zEv_exit zEv_ret zEv_pass zEv_passR zEv_blk zEv_blkR zEv_blkX zEv_lpR zEv_lpX zEv_lp zR_nil zR_cons zP_true zP_false zE_true zE_false selV_true selV_false
attribute [go_sem low] zP_sym
attribute [congr] zEv_cg zR_cg zS_cg zG_cg zB_cg zP_cg zE_cg selV_cg
end Go.Proofs.YtcbjmggbbnpbpaaDoor.Lg
