/- The logical machine: what a reading of arguments gives: logical values in a logical heap that is only read. No condition. -/
import Derived.Test.YtbjpecknlohicaaDoorLg28
import Derived.ChangeArms
import Derived.OpenShut
namespace Go.Proofs.YtbjpecknlohicaaDoor.Lg
set_option linter.unusedSimpArgs false
set_option linter.unusedVariables false
open Go.RowKit (Below)

/-- the fields of a struct, one behind the other -/
def ShpF (S : TypeId → List V → Prop) : List (Nat × TypeId) → List V → Prop
  | [], cs => cs = []
  | f :: fs, cs => ∃ p q, cs = p ++ q ∧ S f.2 p ∧ ShpF S fs q
/-- the cells of a value of a type -/
def Shp (T : TypeId → Option TI) : Nat → TypeId → LH → List V → Prop
  | 0, _, _, _ => False
  | n + 1, t, H, cs => match T t with
    | some ⟨_, _, .bool, _⟩ => ∃ b, cs = [.bool b]
    | some ⟨_, _, .int k, _⟩ => ∃ m, cs = [.int k m] ∧ (Lit.int k m).wf = true
    | some ⟨_, _, .str, _⟩ => ∃ s, cs = [.str s] ∧ s.size ≤ 9223372036854775807
    | some ⟨_, _, .slice e, _⟩ => cs = [.nilsl] ∨ cs = [.emp] ∨ ∃ b z len cap ps, cs = [.sl b 0 z len cap] ∧ sizeO (T e) = some z ∧ H.cellsAt b = some (List.flatten ps) ∧ ps.length = cap ∧ (∀ p ∈ ps, p.length = z) ∧ len ≤ cap ∧ cap ≤ 9223372036854775807 ∧
        (∀ p ∈ ps, Shp T n e H p)
    | some ⟨_, _, .struct fs _, _⟩ => ShpF (fun u c => Shp T n u H c) fs cs
    | _ => False
/-- a type whose values can be read so -/
def tileF (T : TypeId → Option TI) (S : TypeId → Bool) : List (Nat × TypeId) → Nat → Nat → Bool
  | [], o, e => o == e
  | f :: fs, o, e => f.1 == o && S f.2 && (match T f.2 with | some i => tileF T S fs (o + i.size) e | none => false)
def plain (T : TypeId → Option TI) : Nat → TypeId → Bool
  | 0, _ => false
  | n + 1, t => match T t with
    | some ⟨1, _, .bool, _⟩ => true
    | some ⟨1, _, .int _, _⟩ => true
    | some ⟨1, _, .str, _⟩ => true
    | some ⟨1, _, .slice e, _⟩ => (match T e with | some i => decide (0 < i.size) && plain T n e | none => false)
    | some ⟨s, _, .struct fs _, _⟩ => tileF T (plain T n) fs 0 s
    | _ => false

theorem ShpF.mono {S S' : TypeId → List V → Prop} (h : ∀ u c, S u c → S' u c) : ∀ {fs : List (Nat × TypeId)} {cs : List V}, ShpF S fs cs → ShpF S' fs cs
  | [], _, e => e
  | _ :: _, _, ⟨p, q, e, a, b⟩ => ⟨p, q, e, h _ _ a, ShpF.mono h b⟩
theorem Shp.ext {T : TypeId → Option TI} {H L : LH} : ∀ {n : Nat} {t : TypeId} {cs : List V}, Shp T n t H cs → Shp T n t (H ++ L) cs := by
  intro n
  induction n with
  | zero => intro t cs h; exact h
  | succ n ih =>
    intro t cs h
    unfold Shp at h ⊢
    split at h
    · exact h
    · exact h
    · exact h
    · rcases h with h | h | ⟨b, z, len, cap, ps, h1, h2, h3, h4, h5, h6, h7, h8⟩
      · exact .inl h
      · exact .inr (.inl h)
      · exact .inr (.inr ⟨b, z, len, cap, ps, h1, h2, cellsAt_left h3, h4, h5, h6, h7, fun p hp => ih (h8 p hp)⟩)
    · exact h.mono fun u c => ih
    · exact h

/-- a heap that stands for a part of memory that is only read -/
structure RD (φ : Phi) (H : LH) (w : World) : Prop where
  dom : ∀ b x, φ b = some x → b < H.length
  blk : ∀ b q d x, φ b = some (q, d) → H[b]? = some x → BlkR False φ w q d x
  bnd : ∀ b q d, φ b = some (q, d) → q < w.heap.size
  hb : HB H
/-- more was read -/
structure More (φ : Phi) (H : LH) (w : World) (φ' : Phi) (H' : LH) : Prop where
  rd : RD φ' H' w
  ext : Ext φ w φ' w
  app : ∃ L, H' = H ++ L
theorem More.refl {φ : Phi} {H : LH} {w : World} (h : RD φ H w) : More φ H w φ H := ⟨h, .refl _ _, [], by simp⟩
theorem More.trans {φ φ1 φ2 : Phi} {H H1 H2 : LH} {w : World} (h : More φ H w φ1 H1) (k : More φ1 H1 w φ2 H2) : More φ H w φ2 H2 := by
  obtain ⟨L, hL⟩ := h.app
  obtain ⟨L', hL'⟩ := k.app
  exact ⟨k.rd, h.ext.trans k.ext, L ++ L', by rw [hL', hL, List.append_assoc]⟩
theorem More.len {φ φ1 : Phi} {H H1 : LH} {w : World} (h : More φ H w φ1 H1) : H.length ≤ H1.length := by
  obtain ⟨L, hL⟩ := h.app; rw [hL]; simp
theorem More.shp {φ φ1 : Phi} {H H1 : LH} {w : World} (h : More φ H w φ1 H1) {T : TypeId → Option TI} {n : Nat} {t : TypeId} {cs : List V} (k : Shp T n t H cs) : Shp T n t H1 cs := by
  obtain ⟨L, hL⟩ := h.app; rw [hL]; exact k.ext

/-- what a reading of cells gives -/
structure Got (P : Program) (φ : Phi) (H : LH) (w : World) (n : Nat) (t : TypeId) (us : List Value) (φ' : Phi) (H' : LH) (vs : List V) : Prop where
  more : More φ H w φ' H'
  vr : VRs φ' w vs us
  shp : Shp (ty P) n t H' vs
  scal : vs.all V.isScal = true
  lt : ∀ v ∈ vs, V.lt H'.length v

section
variable {P : Program} {w : World} {D : Type} {enc : TypeId × Value → D}

theorem cellsOf_ty {t : TypeId} {i : TI} (h : ty P t = some i) : P.cellsOf t = i.size := by
  obtain ⟨j, d, h1, h2, rfl⟩ := ty_some h
  simp [Program.cellsOf, h1]
theorem bool_some {t : TypeId} {s b : Nat} {z : Option V} (h : ty P t = some ⟨s, b, .bool, z⟩) : P.underlying t = some .bool := by
  obtain ⟨j, d, h1, h2, h3⟩ := ty_some h
  injection h3 with e1 e2 e3 e4
  cases d <;> simp only [tkOf] at e3 <;> first | exact h2 | cases e3
theorem add_add (a : Addr) (m k : Nat) : (a.add m).add k = a.add (m + k) := by
  unfold Addr.add
  by_cases hm : m = 0
  · subst hm; simp
  · by_cases hk : k = 0
    · subst hk; simp
    · simp [hm, hk]; omega

theorem readF {n : Nat} {us : List Value} (ih : ∀ (t : TypeId) (us : List Value) (x : DataW D × List MemPlace), DataW.trod enc P w 0 (fun _ => true) true n t us = some x → plain (ty P) n t = true → ∀ φ H, RD φ H w → ∃ φ' H' vs, Got P φ H w n t us φ' H' vs) :
    ∀ {fl : List (Nat × TypeId)} {o e : Nat}, tileF (ty P) (plain (ty P) n) fl o e = true → (∀ f ∈ fl, ∃ x, DataW.trod enc P w 0 (fun _ => true) true n f.2 ((us.drop f.1).take (P.cellsOf f.2)) = some x) → us.length = e → ∀ φ H, RD φ H w →
    ∃ φ' H' vs, More φ H w φ' H' ∧ VRs φ' w vs (us.drop o) ∧ ShpF (fun u c => Shp (ty P) n u H' c) fl vs ∧ vs.all V.isScal = true ∧ ∀ v ∈ vs, V.lt H'.length v := by
  intro fl
  induction fl with
  | nil =>
    intro o e ht _ hl φ H h
    simp only [tileF, beq_iff_eq] at ht
    refine ⟨φ, H, [], .refl h, ?_, rfl, rfl, fun v hv => by cases hv⟩
    rw [List.drop_of_length_le (by omega)]
    simp only [VRs]
  | cons f fl ihf =>
    intro o e ht hx hl φ H h
    simp only [tileF, Bool.and_eq_true, beq_iff_eq] at ht
    obtain ⟨⟨ho, hp⟩, ht⟩ := ht
    split at ht
    · rename_i i hi
      obtain ⟨x, hxf⟩ := hx f (by simp)
      rw [cellsOf_ty hi, ho] at hxf
      obtain ⟨φ1, H1, v1, g1⟩ := ih _ _ _ hxf hp φ H h
      obtain ⟨φ2, H2, v2, m2, r2, s2, c2, l2⟩ := ihf ht (fun f hf => hx f (by simp [hf])) hl φ1 H1 g1.more.rd
      refine ⟨φ2, H2, v1 ++ v2, g1.more.trans m2, ?_, ⟨v1, v2, rfl, m2.shp g1.shp, s2⟩, ?_, ?_⟩
      · have : us.drop o = (us.drop o).take i.size ++ us.drop (o + i.size) := by
          rw [← List.drop_drop, List.take_append_drop]
        rw [this]
        exact (g1.vr.mono m2.ext).app r2
      · rw [List.all_append, g1.scal, c2]; rfl
      · intro v hv
        rcases List.mem_append.1 hv with hv | hv
        · exact V.lt_mono m2.len (g1.lt v hv)
        · exact l2 v hv
    · cases ht

theorem readE {n : Nat} (ih : ∀ (t : TypeId) (us : List Value) (x : DataW D × List MemPlace), DataW.trod enc P w 0 (fun _ => true) true n t us = some x → plain (ty P) n t = true → ∀ φ H, RD φ H w → ∃ φ' H' vs, Got P φ H w n t us φ' H' vs)
    {e : TypeId} (hp : plain (ty P) n e = true) {a : Addr} {z cap : Nat} (hx : ∀ i, i < cap → ∃ x, (w.cells? 0 (a.add (i * z)) z).bind (DataW.trod enc P w 0 (fun _ => true) true n e) = some x) :
    ∀ (k : Nat), k ≤ cap → ∀ φ H, RD φ H w → ∃ φ' H' ps us, More φ H w φ' H' ∧ ps.length = k ∧ (∀ p ∈ ps, p.length = z) ∧ VRs φ' w (List.flatten ps) us ∧ us.length = k * z ∧ (∀ j, j < k * z → w.cell? (a.add j) = us[j]?) ∧
      (∀ p ∈ ps, Shp (ty P) n e H' p) ∧ (List.flatten ps).all V.isScal = true ∧ ∀ v ∈ List.flatten ps, V.lt H'.length v := by
  intro k
  induction k with
  | zero =>
    intro _ φ H h
    exact ⟨φ, H, [], [], .refl h, rfl, by simp, by simp [VRs], by simp, by simp, by simp, rfl, by simp⟩
  | succ k ihk =>
    intro hk φ H h
    obtain ⟨φ1, H1, ps, us, m1, a1, a2, a3, a4, a5, a6, a7, a8⟩ := ihk (by omega) φ H h
    obtain ⟨x, hxk⟩ := hx k (by omega)
    obtain ⟨cs, hcs, htr⟩ := Option.bind_eq_some_iff.1 hxk
    obtain ⟨φ2, H2, v2, g2⟩ := ih _ _ _ htr hp φ1 H1 m1.rd
    unfold World.cells? at hcs
    split at hcs
    · have hlen : cs.length = z := by have := mapM_some_length hcs; simpa using this
      have hv2 : v2.length = z := by have := (VRs_iff.1 g2.vr).1; omega
      refine ⟨φ2, H2, ps ++ [v2], us ++ cs, m1.trans g2.more, by simp [a1], ?_, ?_, by simp [a4, hlen, Nat.succ_mul], ?_, ?_, ?_, ?_⟩
      · intro p hp'
        rcases List.mem_append.1 hp' with hp' | hp'
        · exact a2 p hp'
        · rw [List.mem_singleton] at hp'; subst hp'; exact hv2
      · rw [List.flatten_append]
        simp only [List.flatten_cons, List.flatten_nil, List.append_nil]
        exact (a3.mono g2.more.ext).app g2.vr
      · intro j hj
        rw [Nat.succ_mul] at hj
        rcases Nat.lt_or_ge j (k * z) with hlt | hge
        · rw [List.getElem?_append_left (by rw [a4]; exact hlt)]; exact a5 j hlt
        · rw [List.getElem?_append_right (by rw [a4]; exact hge), a4]
          have := mapM_some_get hcs (j - k * z) (j - k * z) (by rw [List.getElem?_range (by omega)])
          rw [← this, add_add]
          congr 2; omega
      · intro p hp'
        rcases List.mem_append.1 hp' with hp' | hp'
        · exact g2.more.shp (a6 p hp')
        · rw [List.mem_singleton] at hp'; subst hp'; exact g2.shp
      · rw [List.flatten_append]
        simp only [List.flatten_cons, List.flatten_nil, List.append_nil, List.all_append, a7, g2.scal]; rfl
      · intro v hv
        rw [List.flatten_append] at hv
        simp only [List.flatten_cons, List.flatten_nil, List.append_nil] at hv
        rcases List.mem_append.1 hv with hv | hv
        · exact V.lt_mono g2.more.len (a8 v hv)
        · exact g2.lt v hv
    · cases hcs

theorem read_ok : ∀ (n : Nat) (t : TypeId) (us : List Value) (x : DataW D × List MemPlace), DataW.trod enc P w 0 (fun _ => true) true n t us = some x → plain (ty P) n t = true → ∀ φ H, RD φ H w → ∃ φ' H' vs, Got P φ H w n t us φ' H' vs := by
  intro n
  induction n with
  | zero => intro t us x h hp; cases hp
  | succ n ih =>
    intro t us x h hp φ H hR
    unfold plain at hp
    split at hp
    · rename_i hty
      obtain ⟨b, rfl, _⟩ := DataW.trod_bool (bool_some hty) h
      refine ⟨φ, H, [.bool b], .refl hR, by simp only [VRs, VR]; exact ⟨_, _, rfl, rfl, rfl⟩, ?_, rfl, by simp [V.lt]⟩
      unfold Shp; rw [hty]; exact ⟨b, rfl⟩
    · rename_i hty
      obtain ⟨m, rfl, _, hw⟩ := DataW.trod_int (int_some hty) h
      refine ⟨φ, H, [.int _ m], .refl hR, by simp only [VRs, VR]; exact ⟨_, _, rfl, rfl, rfl⟩, ?_, rfl, by simp [V.lt]⟩
      unfold Shp; rw [hty]; exact ⟨m, rfl, hw⟩
    · rename_i hty
      obtain ⟨s, rfl, _, hw⟩ := DataW.trod_string (str_some hty) h
      refine ⟨φ, H, [.str s], .refl hR, by simp only [VRs, VR]; exact ⟨_, _, rfl, rfl, rfl⟩, ?_, rfl, by simp [V.lt]⟩
      unfold Shp; rw [hty]; exact ⟨s, rfl, hw⟩
    · rename_i by' e zz hty
      split at hp
      · rename_i i hi
        simp only [Bool.and_eq_true, decide_eq_true_eq] at hp
        obtain ⟨hpos, hpe⟩ := hp
        rcases DataW.trod_slice (slice_some hty) h with ⟨rfl, _⟩ | ⟨a, len, cap, elems, rest, m, hm, rfl, _, _, hlen, hcap, hel, helems, hrest, _⟩
        · refine ⟨φ, H, [.nilsl], .refl hR, by simp only [VRs, VR]; exact ⟨_, _, rfl, rfl, rfl⟩, ?_, rfl, by simp [V.lt]⟩
          unfold Shp; rw [hty]; exact .inl rfl
        · injection hm with hm
          subst hm
          rw [cellsOf_ty hi] at helems hrest
          rcases Nat.eq_zero_or_pos cap with hc0 | hc0
          · subst hc0
            have hl0 : len = 0 := by omega
            subst hl0
            refine ⟨φ, H, [.emp], .refl hR, by simp only [VRs, VR]; exact ⟨_, _, rfl, ⟨a, rfl⟩, rfl⟩, ?_, rfl, by simp [V.lt]⟩
            unfold Shp; rw [hty]; exact .inr (.inl rfl)
          · obtain ⟨hrl, hrest⟩ := hrest rfl
            have hall : ∀ j, j < cap → ∃ x, (w.cells? 0 (a.add (j * i.size)) i.size).bind (DataW.trod enc P w 0 (fun _ => true) true n e) = some x := by
              intro j hj
              rcases Nat.lt_or_ge j len with hjl | hjl
              · rw [helems j hjl]; exact ⟨_, List.getElem?_eq_getElem (by omega)⟩
              · have := hrest (j - len) (by omega)
                rw [show len + (j - len) = j by omega] at this
                rw [this]; exact ⟨_, List.getElem?_eq_getElem (by omega)⟩
            obtain ⟨φ1, H1, ps, us, m1, a1, a2, a3, a4, a5, a6, a7, a8⟩ := readE ih hpe hall cap (Nat.le_refl _) φ H hR
            have hczpos : 0 < cap * i.size := Nat.mul_pos hc0 hpos
            -- the row
            have h0 := a5 0 hczpos
            have hu0 : ∃ u, us[0]? = some u := ⟨_, List.getElem?_eq_getElem (by omega)⟩
            obtain ⟨u0, hu0⟩ := hu0
            rw [hu0] at h0
            have haz : a.add 0 = a := rfl
            rw [haz] at h0
            have hrow : ∃ c T fz, w.heap[a.block]? = some (.cells c T fz) ∧ a.spot = none := by
              unfold World.cell? at h0
              split at h0
              · rename_i c T fz hc
                refine ⟨c, T, fz, hc, ?_⟩
                cases hsp : a.spot with
                | none => rfl
                | some s => rw [hsp] at h0; simp at h0
              · cases h0
            obtain ⟨c, T, fz, hc, hsp⟩ := hrow
            have hcell : ∀ j, j < cap * i.size → c[a.off + j]? = us[j]? := by
              intro j hj
              rw [← a5 j hj]
              unfold World.cell?
              have hb : (a.add j).block = a.block := by unfold Addr.add; split <;> rfl
              have hs : (a.add j).spot = none := by unfold Addr.add; split <;> first | exact hsp | rfl
              have ho : (a.add j).off = a.off + j := by unfold Addr.add; split <;> simp_all
              rw [hb, hc, hs, ho]; rfl
            have hsz : a.off + cap * i.size ≤ c.size := by
              have := hcell (cap * i.size - 1) (by omega)
              rw [List.getElem?_eq_getElem (by omega)] at this
              have := (Array.getElem?_eq_some_iff.1 this).1
              omega
            have hfl : (List.flatten ps).length = cap * i.size := by rw [(VRs_iff.1 a3).1, a4]
            have hnone : φ1 H1.length = none := by
              cases hh : φ1 H1.length with
              | none => rfl
              | some y => have := m1.rd.dom _ _ hh; omega
            let φ2 := φ1.put H1.length a.block a.off
            have he2 : Ext φ1 w φ2 w := ⟨fun b x e => by
              show (φ1.put H1.length a.block a.off) b = some x
              unfold Phi.put
              rw [if_neg (fun hh => by rw [hh, hnone] at e; cases e)]; exact e, fun _ _ h => h⟩
            have hbq : a.block < w.heap.size := (Array.getElem?_eq_some_iff.1 hc).1
            have hrd : RD φ2 (H1 ++ [.cells (List.flatten ps)]) w := by
              refine ⟨fun b x he0 => ?_, fun b q d x he0 hx => ?_, fun b q d he0 => ?_, m1.rd.hb.push fun v hv => V.lt_mono (Nat.le_succ _) (a8 v hv)⟩
              · replace he0 : (φ1.put H1.length a.block a.off) b = some x := he0
                unfold Phi.put at he0
                split at he0
                · rename_i hb; simp; omega
                · have := m1.rd.dom b x he0; simp; omega
              · replace he0 : (φ1.put H1.length a.block a.off) b = some (q, d) := he0
                unfold Phi.put at he0
                split at he0
                · rename_i hb
                  subst hb
                  simp only [Option.some.injEq, Prod.mk.injEq] at he0
                  obtain ⟨rfl, rfl⟩ := he0
                  have : (H1 ++ [Blk.cells (List.flatten ps)])[H1.length]? = some (.cells (List.flatten ps)) := by simp
                  rw [this] at hx; injection hx with hx; subst hx
                  refine ⟨c, T, fz, hc, by rw [hfl]; exact hsz, fun j v hj => ?_, fun hf => hf.elim⟩
                  obtain ⟨u, hu, hr⟩ := (VRs_iff.1 a3).2 j v hj
                  have hjl : j < cap * i.size := by have := (List.getElem?_eq_some_iff.1 hj).1; omega
                  exact ⟨List.all_eq_true.1 a7 v (List.mem_of_getElem? hj), u, by rw [hcell j hjl]; exact hu, hr.mono he2⟩
                · have hb := m1.rd.dom b _ he0
                  rw [List.getElem?_append_left hb] at hx
                  exact (m1.rd.blk b q d x he0 hx).mono he2 rfl
              · replace he0 : (φ1.put H1.length a.block a.off) b = some (q, d) := he0
                unfold Phi.put at he0
                split at he0
                · simp only [Option.some.injEq, Prod.mk.injEq] at he0
                  obtain ⟨rfl, rfl⟩ := he0
                  exact hbq
                · exact m1.rd.bnd b q d he0
            have m2 : More φ1 H1 w φ2 (H1 ++ [.cells (List.flatten ps)]) := ⟨hrd, he2, _, rfl⟩
            refine ⟨φ2, _, [.sl H1.length 0 i.size len cap], m1.trans m2, ?_, ?_, rfl, by simp [V.lt]⟩
            · simp only [VRs, VR]
              refine ⟨_, _, rfl, ⟨hlen, a.block, a.off, a.off, cap, ?_, ?_, Nat.le_refl _, .inl rfl, c, T, fz, hc, hsz⟩, rfl⟩
              · show (φ1.put H1.length a.block a.off) H1.length = _
                unfold Phi.put; rw [if_pos rfl]
              · obtain ⟨ab, ao, as⟩ := a
                simp only at hsp
                subst hsp; rfl
            · unfold Shp; rw [hty]
              refine .inr (.inr ⟨_, _, _, _, ps, rfl, by rw [hi]; rfl, ?_, a1, a2, hlen, hcap, fun p hp => m2.shp (a6 p hp)⟩)
              rw [cellsAt_app0]; rfl
      · cases hp
    · rename_i s by' fs fl zz hty
      obtain ⟨gs, hu, hfs⟩ := struct_some hty
      obtain ⟨xs, m, hm, _, hl, hxl, hf⟩ := DataW.trod_struct hu h
      injection hm with hm
      subst hm
      rw [cellsOf_ty hty] at hl
      have hall : ∀ f ∈ fs, ∃ x, DataW.trod enc P w 0 (fun _ => true) true n f.2 ((us.drop f.1).take (P.cellsOf f.2)) = some x := by
        intro f hf'
        rw [hfs, List.mem_map] at hf'
        obtain ⟨g, hg, rfl⟩ := hf'
        obtain ⟨j, hj, hgj⟩ := List.mem_iff_getElem.1 hg
        have hgj' : gs[j]? = some g := by rw [← hgj]; simp
        have := hf j g hgj'
        rw [this]
        have hjs : j < xs.length := by rw [hxl]; simpa using hj
        exact ⟨_, List.getElem?_eq_getElem hjs⟩
      obtain ⟨φ', H', vs, m1, r1, s1, c1, l1⟩ := readF ih hp hall hl φ H hR
      refine ⟨φ', H', vs, m1, by simpa using r1, ?_, c1, l1⟩
      unfold Shp; rw [hty]; exact s1
    · cases hp
end
end Go.Proofs.YtbjpecknlohicaaDoor.Lg
