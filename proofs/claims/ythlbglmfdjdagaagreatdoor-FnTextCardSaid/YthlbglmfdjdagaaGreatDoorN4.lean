/- The logical machine and its contracts, part 4. No condition. -/
import Derived.Test.YthlbglmfdjdagaaGreatDoorN3
import Derived.ChangeArms
import Derived.OpenShut
import Derived.ProofKit
import Derived.FnData
import Derived.MakeChecks
namespace Go.Proofs.YthlbglmfdjdagaaGreatDoor.Lg
set_option linter.unusedSimpArgs false
set_option linter.unusedVariables false
open Go.RowKit (Below)
def ShpF (S : TypeId → List V → Prop) : List (Nat × TypeId) → List V → Prop
 | [], cs => cs = []
 | f :: fs, cs => ∃ p q, cs = p ++ q ∧ S f.2 p ∧ ShpF S fs q
def Shp (T : TypeId → Option TI) : Nat → TypeId → LH → List V → Prop
 | 0, _, _, _ => False
 | n + 1, t, H, cs => match T t with
   | some ⟨_, _, .bool, _⟩ => ∃ b, cs = [.bool b]
   | some ⟨_, _, .int k, _⟩ => ∃ m, cs = [.int k m] ∧ (Lit.int k m).wf = true
   | some ⟨_, _, .str, _⟩ => ∃ s, cs = [.str s] ∧ s.size ≤ 9223372036854775807
   | some ⟨_, _, .slice e, _⟩ => cs = [.nilsl] ∨ cs = [.emp] ∨ ∃ b z len cap ps, cs = [.sl b 0 z len cap] ∧ AC (T e) = some z ∧ H.cellsAt b = some (List.flatten ps) ∧ ps.length = cap ∧ (∀ p ∈ ps, p.length = z) ∧ len ≤ cap ∧ cap ≤ 9223372036854775807 ∧
      (∀ p ∈ ps, Shp T n e H p)
   | some ⟨_, _, .struct fs _, _⟩ => ShpF (fun u c => Shp T n u H c) fs cs
   | _ => False
def H7 (T : TypeId → Option TI) (S : TypeId → Bool) : List (Nat × TypeId) → Nat → Nat → Bool
 | [], o, e => o == e
 | f :: fs, o, e => f.1 == o && S f.2 && (match T f.2 with | some i => H7 T S fs (o + i.size) e | none => false)
def CT (T : TypeId → Option TI) : Nat → TypeId → Bool
 | 0, _ => false
 | n + 1, t => match T t with
   | some ⟨1, _, .bool, _⟩ => true
   | some ⟨1, _, .int _, _⟩ => true
   | some ⟨1, _, .str, _⟩ => true
   | some ⟨1, _, .slice e, _⟩ => (match T e with | some i => decide (0 < i.size) && CT T n e | none => false)
   | some ⟨s, _, .struct fs _, _⟩ => H7 T (CT T n) fs 0 s
   | _ => false
theorem ShpF.mono {S S' : TypeId → List V → Prop} (h : ∀ u c, S u c → S' u c) : ∀ {fs : List (Nat × TypeId)} {cs : List V}, ShpF S fs cs → ShpF S' fs cs
 | [], _, e => e
 | _ :: _, _, ⟨p, q, e, a, b⟩ => ⟨p, q, e, h _ _ a, ShpF.mono h b⟩
theorem Shp.ext {T : TypeId → Option TI} {H L : LH} : ∀ {n : Nat} {t : TypeId} {cs : List V}, Shp T n t H cs → Shp T n t (H ++ L) cs := by
 intro n
 induction n with
 | zero => intro t cs h; exact h
 | succ n ih =>
   intro t cs h
   unfold Shp at h ⊢
   split at h
   ·exact h
   ·exact h
   ·exact h
   ·rcases h with h | h | ⟨b, z, len, cap, ps, h1, h2, h3, h4, h5, h6, h7, h8⟩
    ·exact .inl h
    ·exact .inr (.inl h)
    ·exact .inr (.inr ⟨b, z, len, cap, ps, h1, h2, Ag h3, h4, h5, h6, h7, fun p hp => ih (h8 p hp)⟩)
   ·exact h.mono fun u c => ih
   ·exact h
structure RD (φ : Phi) (H : LH) (w : World) : Prop where
 dom : ∀ b x, φ b = some x → b < H.length
 blk : ∀ b q d x, φ b = some (q, d) → H[b]? = some x → BlkR False φ w q d x
 bnd : ∀ b q d, φ b = some (q, d) → q < w.heap.size
 hb : HB H
structure More (φ : Phi) (H : LH) (w : World) (φ' : Phi) (H' : LH) : Prop where
 rd : RD φ' H' w
 ext : Ext φ w φ' w
 app : ∃ L, H' = H ++ L
theorem More.refl {φ : Phi} {H : LH} {w : World} (h : RD φ H w) : More φ H w φ H := ⟨h, .refl _ _, [], by simp⟩
theorem More.trans {φ φ1 φ2 : Phi} {H H1 H2 : LH} {w : World} (h : More φ H w φ1 H1) (k : More φ1 H1 w φ2 H2) : More φ H w φ2 H2 := by
 obtain ⟨L, hL⟩ := h.app
 obtain ⟨L', hL'⟩ := k.app
 exact ⟨k.rd, h.ext.trans k.ext, L ++ L', by rw [hL', hL, List.append_assoc]⟩
theorem More.len {φ φ1 : Phi} {H H1 : LH} {w : World} (h : More φ H w φ1 H1) : H.length ≤ H1.length := by
 obtain ⟨L, hL⟩ := h.app; rw [hL]; simp
theorem More.shp {φ φ1 : Phi} {H H1 : LH} {w : World} (h : More φ H w φ1 H1) {T : TypeId → Option TI} {n : Nat} {t : TypeId} {cs : List V} (k : Shp T n t H cs) : Shp T n t H1 cs := by
 obtain ⟨L, hL⟩ := h.app; rw [hL]; exact k.ext
structure Got (P : Program) (φ : Phi) (H : LH) (w : World) (n : Nat) (t : TypeId) (us : List Value) (φ' : Phi) (H' : LH) (vs : List V) : Prop where
 more : More φ H w φ' H'
 vr : VRs φ' w vs us
 shp : Shp (ty P) n t H' vs
 scal : vs.all V.isScal = true
 lt : ∀ v ∈ vs, V.lt H'.length v
section
variable {P : Program} {w : World} {D : Type} {enc : TypeId × Value → D}
theorem ET {t : TypeId} {i : TI} (h : ty P t = some i) : P.cellsOf t = i.size := by
 obtain ⟨j, d, h1, h2, rfl⟩ := D3 h
 simp [Program.cellsOf, h1]
theorem Ee {t : TypeId} {s b : Nat} {z : Option V} (h : ty P t = some ⟨s, b, .bool, z⟩) : P.underlying t = some .bool := by
 obtain ⟨j, d, h1, h2, h3⟩ := D3 h
 injection h3 with e1 e2 e3 e4
 cases d <;> simp only [tkOf] at e3 <;> first | exact h2 | cases e3
theorem TV (a : Addr) (m k : Nat) : (a.add m).add k = a.add (m + k) := by
 unfold Addr.add
 by_cases hm : m = 0
 ·subst hm; simp
 ·by_cases hk : k = 0
  ·subst hk; simp
  ·simp [hm, hk]; omega
theorem X6 {n : Nat} {us : List Value} (ih : ∀ (t : TypeId) (us : List Value) (x : DataW D × List MemPlace), DataW.trod enc P w 0 (fun _ => true) true n t us = some x → CT (ty P) n t = true → ∀ φ H, RD φ H w → ∃ φ' H' vs, Got P φ H w n t us φ' H' vs) :
 ∀ {fl : List (Nat × TypeId)} {o e : Nat}, H7 (ty P) (CT (ty P) n) fl o e = true → (∀ f ∈ fl, ∃ x, DataW.trod enc P w 0 (fun _ => true) true n f.2 ((us.drop f.1).take (P.cellsOf f.2)) = some x) → us.length = e → ∀ φ H, RD φ H w →
 ∃ φ' H' vs, More φ H w φ' H' ∧ VRs φ' w vs (us.drop o) ∧ ShpF (fun u c => Shp (ty P) n u H' c) fl vs ∧ vs.all V.isScal = true ∧ ∀ v ∈ vs, V.lt H'.length v := by
 intro fl
 induction fl with
 | nil =>
   intro o e ht _ hl φ H h
   simp only [H7, beq_iff_eq] at ht
   refine ⟨φ, H, [], .refl h, ?_, rfl, rfl, fun v hv => by cases hv⟩
   rw [List.drop_of_length_le (by omega)]
   simp only [VRs]
 | cons f fl ihf =>
   intro o e ht hx hl φ H h
   simp only [H7, Bool.and_eq_true, beq_iff_eq] at ht
   obtain ⟨⟨ho, hp⟩, ht⟩ := ht
   split at ht
   ·rename_i i hi
    obtain ⟨x, hxf⟩ := hx f (by simp)
    rw [ET hi, ho] at hxf
    obtain ⟨φ1, H1, v1, g1⟩ := ih _ _ _ hxf hp φ H h
    obtain ⟨φ2, H2, v2, m2, r2, s2, c2, l2⟩ := ihf ht (fun f hf => hx f (by simp [hf])) hl φ1 H1 g1.more.rd
    refine ⟨φ2, H2, v1 ++ v2, g1.more.trans m2, ?_, ⟨v1, v2, rfl, m2.shp g1.shp, s2⟩, ?_, ?_⟩
    ·have : us.drop o = (us.drop o).take i.size ++ us.drop (o + i.size) := by
      rw [← List.drop_drop, List.take_append_drop]
     rw [this]
     exact (g1.vr.mono m2.ext).app r2
    ·rw [List.all_append, g1.scal, c2]; rfl
    ·intro v hv
     rcases List.mem_append.1 hv with hv | hv
     ·exact V.lt_mono m2.len (g1.lt v hv)
     ·exact l2 v hv
   ·cases ht
theorem X5 {n : Nat} (ih : ∀ (t : TypeId) (us : List Value) (x : DataW D × List MemPlace), DataW.trod enc P w 0 (fun _ => true) true n t us = some x → CT (ty P) n t = true → ∀ φ H, RD φ H w → ∃ φ' H' vs, Got P φ H w n t us φ' H' vs)
 {e : TypeId} (hp : CT (ty P) n e = true) {a : Addr} {z cap : Nat} (hx : ∀ i, i < cap → ∃ x, (w.cells? 0 (a.add (i * z)) z).bind (DataW.trod enc P w 0 (fun _ => true) true n e) = some x) :
 ∀ (k : Nat), k ≤ cap → ∀ φ H, RD φ H w → ∃ φ' H' ps us, More φ H w φ' H' ∧ ps.length = k ∧ (∀ p ∈ ps, p.length = z) ∧ VRs φ' w (List.flatten ps) us ∧ us.length = k * z ∧ (∀ j, j < k * z → w.cell? (a.add j) = us[j]?) ∧
  (∀ p ∈ ps, Shp (ty P) n e H' p) ∧ (List.flatten ps).all V.isScal = true ∧ ∀ v ∈ List.flatten ps, V.lt H'.length v := by
 intro k
 induction k with
 | zero =>
   intro _ φ H h
   exact ⟨φ, H, [], [], .refl h, rfl, by simp, by simp [VRs], by simp, by simp, by simp, rfl, by simp⟩
 | succ k ihk =>
   intro hk φ H h
   obtain ⟨φ1, H1, ps, us, m1, a1, a2, a3, a4, a5, a6, a7, a8⟩ := ihk (by omega) φ H h
   obtain ⟨x, hxk⟩ := hx k (by omega)
   obtain ⟨cs, hcs, htr⟩ := Option.bind_eq_some_iff.1 hxk
   obtain ⟨φ2, H2, v2, g2⟩ := ih _ _ _ htr hp φ1 H1 m1.rd
   unfold World.cells? at hcs
   split at hcs
   ·have hlen : cs.length = z := by have := mapM_some_length hcs; simpa using this
    have hv2 : v2.length = z := by have := (An.1 g2.vr).1; omega
    refine ⟨φ2, H2, ps ++ [v2], us ++ cs, m1.trans g2.more, by simp [a1], ?_, ?_, by simp [a4, hlen, Nat.succ_mul], ?_, ?_, ?_, ?_⟩
    ·intro p hp'
     rcases List.mem_append.1 hp' with hp' | hp'
     ·exact a2 p hp'
     ·rw [List.mem_singleton] at hp'; subst hp'; exact hv2
    ·rw [List.flatten_append]
     simp only [List.flatten_cons, List.flatten_nil, List.append_nil]
     exact (a3.mono g2.more.ext).app g2.vr
    ·intro j hj
     rw [Nat.succ_mul] at hj
     rcases Nat.lt_or_ge j (k * z) with hlt | hge
     ·rw [List.getElem?_append_left (by rw [a4]; exact hlt)]; exact a5 j hlt
     ·rw [List.getElem?_append_right (by rw [a4]; exact hge), a4]
      have := mapM_some_get hcs (j - k * z) (j - k * z) (by rw [List.getElem?_range (by omega)])
      rw [← this, TV]
      congr 2; omega
    ·intro p hp'
     rcases List.mem_append.1 hp' with hp' | hp'
     ·exact g2.more.shp (a6 p hp')
     ·rw [List.mem_singleton] at hp'; subst hp'; exact g2.shp
    ·rw [List.flatten_append]
     simp only [List.flatten_cons, List.flatten_nil, List.append_nil, List.all_append, a7, g2.scal]; rfl
    ·intro v hv
     rw [List.flatten_append] at hv
     simp only [List.flatten_cons, List.flatten_nil, List.append_nil] at hv
     rcases List.mem_append.1 hv with hv | hv
     ·exact V.lt_mono g2.more.len (a8 v hv)
     ·exact g2.lt v hv
   ·cases hcs
theorem Va : ∀ (n : Nat) (t : TypeId) (us : List Value) (x : DataW D × List MemPlace), DataW.trod enc P w 0 (fun _ => true) true n t us = some x → CT (ty P) n t = true → ∀ φ H, RD φ H w → ∃ φ' H' vs, Got P φ H w n t us φ' H' vs := by
 intro n
 induction n with
 | zero => intro t us x h hp; cases hp
 | succ n ih =>
   intro t us x h hp φ H hR
   unfold CT at hp
   split at hp
   ·rename_i hty
    obtain ⟨b, rfl, _⟩ := DataW.trod_bool (Ee hty) h
    refine ⟨φ, H, [.bool b], .refl hR, by simp only [VRs, VR]; exact ⟨_, _, rfl, rfl, rfl⟩, ?_, rfl, by simp [V.lt]⟩
    unfold Shp; rw [hty]; exact ⟨b, rfl⟩
   ·rename_i hty
    obtain ⟨m, rfl, _, hw⟩ := DataW.trod_int (B1 hty) h
    refine ⟨φ, H, [.int _ m], .refl hR, by simp only [VRs, VR]; exact ⟨_, _, rfl, rfl, rfl⟩, ?_, rfl, by simp [V.lt]⟩
    unfold Shp; rw [hty]; exact ⟨m, rfl, hw⟩
   ·rename_i hty
    obtain ⟨s, rfl, _, hw⟩ := DataW.trod_string (AT hty) h
    refine ⟨φ, H, [.str s], .refl hR, by simp only [VRs, VR]; exact ⟨_, _, rfl, rfl, rfl⟩, ?_, rfl, by simp [V.lt]⟩
    unfold Shp; rw [hty]; exact ⟨s, rfl, hw⟩
   ·rename_i by' e zz hty
    split at hp
    ·rename_i i hi
     simp only [Bool.and_eq_true, decide_eq_true_eq] at hp
     obtain ⟨hpos, hpe⟩ := hp
     rcases DataW.trod_slice (Az hty) h with ⟨rfl, _⟩ | ⟨a, len, cap, elems, rest, m, hm, rfl, _, _, hlen, hcap, hel, helems, hrest, _⟩
     ·refine ⟨φ, H, [.nilsl], .refl hR, by simp only [VRs, VR]; exact ⟨_, _, rfl, rfl, rfl⟩, ?_, rfl, by simp [V.lt]⟩
      unfold Shp; rw [hty]; exact .inl rfl
     ·injection hm with hm
      subst hm
      rw [ET hi] at helems hrest
      rcases Nat.eq_zero_or_pos cap with hc0 | hc0
      ·subst hc0
       have hl0 : len = 0 := by omega
       subst hl0
       refine ⟨φ, H, [.emp], .refl hR, by simp only [VRs, VR]; exact ⟨_, _, rfl, ⟨a, rfl⟩, rfl⟩, ?_, rfl, by simp [V.lt]⟩
       unfold Shp; rw [hty]; exact .inr (.inl rfl)
      ·obtain ⟨hrl, hrest⟩ := hrest rfl
       have hall : ∀ j, j < cap → ∃ x, (w.cells? 0 (a.add (j * i.size)) i.size).bind (DataW.trod enc P w 0 (fun _ => true) true n e) = some x := by
        intro j hj
        rcases Nat.lt_or_ge j len with hjl | hjl
        ·rw [helems j hjl]; exact ⟨_, List.getElem?_eq_getElem (by omega)⟩
        ·have := hrest (j - len) (by omega)
         rw [show len + (j - len) = j by omega] at this
         rw [this]; exact ⟨_, List.getElem?_eq_getElem (by omega)⟩
       obtain ⟨φ1, H1, ps, us, m1, a1, a2, a3, a4, a5, a6, a7, a8⟩ := X5 ih hpe hall cap (Nat.le_refl _) φ H hR
       have hczpos : 0 < cap * i.size := Nat.mul_pos hc0 hpos
       have h0 := a5 0 hczpos
       have hu0 : ∃ u, us[0]? = some u := ⟨_, List.getElem?_eq_getElem (by omega)⟩
       obtain ⟨u0, hu0⟩ := hu0
       rw [hu0] at h0
       have haz : a.add 0 = a := rfl
       rw [haz] at h0
       have hrow : ∃ c T fz, w.heap[a.block]? = some (.cells c T fz) ∧ a.spot = none := by
        unfold World.cell? at h0
        split at h0
        ·rename_i c T fz hc
         refine ⟨c, T, fz, hc, ?_⟩
         cases hsp : a.spot with
         | none => rfl
         | some s => rw [hsp] at h0; simp at h0
        ·cases h0
       obtain ⟨c, T, fz, hc, hsp⟩ := hrow
       have hcell : ∀ j, j < cap * i.size → c[a.off + j]? = us[j]? := by
        intro j hj
        rw [← a5 j hj]
        unfold World.cell?
        have hb : (a.add j).block = a.block := by unfold Addr.add; split <;> rfl
        have hs : (a.add j).spot = none := by unfold Addr.add; split <;> first | exact hsp | rfl
        have ho : (a.add j).off = a.off + j := by unfold Addr.add; split <;> simp_all
        rw [hb, hc, hs, ho]; rfl
       have hsz : a.off + cap * i.size ≤ c.size := by
        have := hcell (cap * i.size - 1) (by omega)
        rw [List.getElem?_eq_getElem (by omega)] at this
        have := (Array.getElem?_eq_some_iff.1 this).1
        omega
       have hfl : (List.flatten ps).length = cap * i.size := by rw [(An.1 a3).1, a4]
       have hnone : φ1 H1.length = none := by
        cases hh : φ1 H1.length with
        | none => rfl
        | some y => have := m1.rd.dom _ _ hh; omega
       let φ2 := φ1.put H1.length a.block a.off
       have he2 : Ext φ1 w φ2 w := ⟨fun b x e => by
        show (φ1.put H1.length a.block a.off) b = some x
        unfold Phi.put
        rw [if_neg (fun hh => by rw [hh, hnone] at e; cases e)]; exact e, fun _ _ h => h⟩
       have hbq : a.block < w.heap.size := (Array.getElem?_eq_some_iff.1 hc).1
       have hrd : RD φ2 (H1 ++ [.cells (List.flatten ps)]) w := by
        refine ⟨fun b x he0 => ?_, fun b q d x he0 hx => ?_, fun b q d he0 => ?_, m1.rd.hb.push fun v hv => V.lt_mono (Nat.le_succ _) (a8 v hv)⟩
        ·replace he0 : (φ1.put H1.length a.block a.off) b = some x := he0
         unfold Phi.put at he0
         split at he0
         ·rename_i hb; simp; omega
         ·have := m1.rd.dom b x he0; simp; omega
        ·replace he0 : (φ1.put H1.length a.block a.off) b = some (q, d) := he0
         unfold Phi.put at he0
         split at he0
         ·rename_i hb
          subst hb
          simp only [Option.some.injEq, Prod.mk.injEq] at he0
          obtain ⟨rfl, rfl⟩ := he0
          have : (H1 ++ [Blk.cells (List.flatten ps)])[H1.length]? = some (.cells (List.flatten ps)) := by simp
          rw [this] at hx; injection hx with hx; subst hx
          refine ⟨c, T, fz, hc, by rw [hfl]; exact hsz, fun j v hj => ?_, fun hf => hf.elim⟩
          obtain ⟨u, hu, hr⟩ := (An.1 a3).2 j v hj
          have hjl : j < cap * i.size := by have := (List.getElem?_eq_some_iff.1 hj).1; omega
          exact ⟨List.all_eq_true.1 a7 v (List.mem_of_getElem? hj), u, by rw [hcell j hjl]; exact hu, hr.mono he2⟩
         ·have hb := m1.rd.dom b _ he0
          rw [List.getElem?_append_left hb] at hx
          exact (m1.rd.blk b q d x he0 hx).mono he2 rfl
        ·replace he0 : (φ1.put H1.length a.block a.off) b = some (q, d) := he0
         unfold Phi.put at he0
         split at he0
         ·simp only [Option.some.injEq, Prod.mk.injEq] at he0
          obtain ⟨rfl, rfl⟩ := he0
          exact hbq
         ·exact m1.rd.bnd b q d he0
       have m2 : More φ1 H1 w φ2 (H1 ++ [.cells (List.flatten ps)]) := ⟨hrd, he2, _, rfl⟩
       refine ⟨φ2, _, [.sl H1.length 0 i.size len cap], m1.trans m2, ?_, ?_, rfl, by simp [V.lt]⟩
       ·simp only [VRs, VR]
        refine ⟨_, _, rfl, ⟨hlen, a.block, a.off, a.off, cap, ?_, ?_, Nat.le_refl _, .inl rfl, c, T, fz, hc, hsz⟩, rfl⟩
        ·show (φ1.put H1.length a.block a.off) H1.length = _
         unfold Phi.put; rw [if_pos rfl]
        ·obtain ⟨ab, ao, as⟩ := a
         simp only at hsp
         subst hsp; rfl
       ·unfold Shp; rw [hty]
        refine .inr (.inr ⟨_, _, _, _, ps, rfl, by rw [hi]; rfl, ?_, a1, a2, hlen, hcap, fun p hp => m2.shp (a6 p hp)⟩)
        rw [A7]; rfl
    ·cases hp
   ·rename_i s by' fs fl zz hty
    obtain ⟨gs, hu, hfs⟩ := Cm hty
    obtain ⟨xs, m, hm, _, hl, hxl, hf⟩ := DataW.trod_struct hu h
    injection hm with hm
    subst hm
    rw [ET hty] at hl
    have hall : ∀ f ∈ fs, ∃ x, DataW.trod enc P w 0 (fun _ => true) true n f.2 ((us.drop f.1).take (P.cellsOf f.2)) = some x := by
     intro f hf'
     rw [hfs, List.mem_map] at hf'
     obtain ⟨g, hg, rfl⟩ := hf'
     obtain ⟨j, hj, hgj⟩ := List.mem_iff_getElem.1 hg
     have hgj' : gs[j]? = some g := by rw [← hgj]; simp
     have := hf j g hgj'
     rw [this]
     have hjs : j < xs.length := by rw [hxl]; simpa using hj
     exact ⟨_, List.getElem?_eq_getElem hjs⟩
    obtain ⟨φ', H', vs, m1, r1, s1, c1, l1⟩ := X6 ih hp hall hl φ H hR
    refine ⟨φ', H', vs, m1, by simpa using r1, ?_, c1, l1⟩
    unfold Shp; rw [hty]; exact s1
   ·cases hp
end
open Go.RowKit (Below)
open Go.ChangeShapes Go.WideShapes
theorem HL {T : TypeId → Option TI} {S S' : TypeId → Bool} (h : ∀ t, S t = true → S' t = true) : ∀ {fs : List (Nat × TypeId)} {o e : Nat}, H7 T S fs o e = true → H7 T S' fs o e = true
 | [], _, _, k => k
 | f :: fs, o, e, k => by
   simp only [H7, Bool.and_eq_true] at k ⊢
   refine ⟨⟨k.1.1, h _ k.1.2⟩, ?_⟩
   have k2 := k.2
   split at k2
   ·exact HL h k2
   ·cases k2
theorem NX {T : TypeId → Option TI} : ∀ {n : Nat} {t : TypeId}, CT T n t = true → CT T (n + 1) t = true := by
 intro n
 induction n with
 | zero => intro t h; cases h
 | succ n ih =>
   intro t h
   unfold CT at h ⊢
   split at h
   ·rfl
   ·rfl
   ·rfl
   ·split at h
    ·simp only [Bool.and_eq_true] at h ⊢
     exact ⟨h.1, ih h.2⟩
    ·cases h
   ·exact HL (fun t => ih) h
   ·cases h
theorem SF {T : TypeId → Option TI} {n m : Nat} {t : TypeId} (h : n ≤ m) (k : CT T n t = true) : CT T m t = true := by
 induction h with
 | refl => exact k
 | step _ ih => exact NX ih
theorem ShpF.fuel {T : TypeId → Option TI} {S S' : TypeId → List V → Prop} {B : TypeId → Bool} (h : ∀ u c, B u = true → S u c → S' u c) : ∀ {fs : List (Nat × TypeId)} {o e : Nat} {cs : List V}, H7 T B fs o e = true → ShpF S fs cs → ShpF S' fs cs
 | [], _, _, _, _, k => k
 | f :: fs, o, e, _, b, ⟨p, q, e1, k1, k2⟩ => by
   simp only [H7, Bool.and_eq_true] at b
   have b2 := b.2
   split at b2
   ·exact ⟨p, q, e1, h _ _ b.1.2 k1, ShpF.fuel h b2 k2⟩
   ·cases b2
theorem Shp.fuel {T : TypeId → Option TI} {H : LH} : ∀ {k n : Nat} {t : TypeId} {cs : List V}, CT T k t = true → Shp T n t H cs → Shp T k t H cs := by
 intro k
 induction k with
 | zero => intro n t cs h; cases h
 | succ k ih =>
   intro n t cs h s
   cases n with
   | zero => exact s.elim
   | succ n =>
     unfold CT at h
     unfold Shp at s ⊢
     split at h
     ·rename_i hty; rw [hty] at s ⊢; exact s
     ·rename_i hty; rw [hty] at s ⊢; exact s
     ·rename_i hty; rw [hty] at s ⊢; exact s
     ·rename_i hty
      rw [hty] at s ⊢
      split at h
      ·simp only [Bool.and_eq_true] at h
       rcases s with s | s | ⟨b, z, len, cap, ps, h1, h2, h3, h4, h5, h6, h7, h8⟩
       ·exact .inl s
       ·exact .inr (.inl s)
       ·exact .inr (.inr ⟨b, z, len, cap, ps, h1, h2, h3, h4, h5, h6, h7, fun p hp => ih h.2 (h8 p hp)⟩)
      ·cases h
     ·rename_i hty
      rw [hty] at s ⊢
      exact ShpF.fuel (fun u c => ih) h s
     ·cases h
def ShpA (T : TypeId → Option TI) (n : Nat) (t : TypeId) (H : LH) (x : V) : Prop :=
 match T t with
 | some ⟨_, _, .struct _ _, _⟩ => ∃ cs, x = .agg cs ∧ Shp T n t H cs
 | _ => Shp T n t H [x]
def TR (T : TypeId → Option TI) (n : Nat) (H : LH) : List TypeId → List V → Prop
 | [], [] => True
 | t :: ts, x :: xs => ShpA T n t H x ∧ TR T n H ts xs
 | _, _ => False
section
variable {P : Program} {w : World} {D : Type} {enc : TypeId × Value → D}
theorem SJ {k base : Nat} {t : TypeId} {v : Value} {d : DataW D} {ps : List MemPlace} (hp : CT (ty P) k t = true) (hok : Value.okWide P w .any base t v) (h : DataW.Trod enc P w 0 (fun _ => true) true t v d ps) {φ : Phi} {H : LH} (hR : RD φ H w) :
 ∃ φ' H' x, More φ H w φ' H' ∧ VR φ' w x v ∧ ShpA (ty P) k t H' x ∧ V.lt H'.length x := by
 obtain ⟨n, h⟩ := h
 have h2 := DataW.trod_le (Nat.le_max_left n k) h
 obtain ⟨φ', H', vs, g⟩ := Va _ _ _ _ h2 (SF (Nat.le_max_right n k) hp) φ H hR
 have hs : Shp (ty P) k t H' vs := g.shp.fuel hp
 have one : ∀ u, v.cells.toList = [u] → v = u → (∀ i, ty P t = some i → i.kind.isAgg = false) → ∃ φ' H' x, More φ H w φ' H' ∧ VR φ' w x v ∧ ShpA (ty P) k t H' x ∧ V.lt H'.length x := by
  intro u hu hvu hk
  have hr := g.vr
  rw [hu] at hr
  match vs, hr with
  | [], hr => simp [VRs] at hr
  | [x], hr =>
    simp only [VRs, List.cons.injEq] at hr
    obtain ⟨u', us', ⟨rfl, rfl⟩, hx, _⟩ := hr
    refine ⟨φ', H', x, g.more, by rw [hvu]; exact hx, ?_, g.lt x (by simp)⟩
    unfold ShpA
    split
    ·rename_i hty; have := hk _ hty; cases this
    ·exact hs
  | x :: y :: l, hr => simp only [VRs, List.cons.injEq] at hr; obtain ⟨u', us', ⟨rfl, rfl⟩, hx, u2, us2, h3, _⟩ := hr; cases h3
 unfold Value.okWide at hok
 cases k with
 | zero => cases hp
 | succ k =>
   unfold CT at hp
   split at hp
   ·rename_i hty
    rw [Ee hty] at hok
    unfold Cell.okWide at hok
    rw [Ee hty] at hok
    cases v <;> simp [Cell.ok, Ee hty] at hok
    exact one _ rfl rfl (fun i hi => by rw [hty] at hi; injection hi with hi; subst hi; rfl)
   ·rename_i hty
    rw [B1 hty] at hok
    unfold Cell.okWide at hok
    rw [B1 hty] at hok
    cases v <;> simp [Cell.ok, B1 hty] at hok
    exact one _ rfl rfl (fun i hi => by rw [hty] at hi; injection hi with hi; subst hi; rfl)
   ·rename_i hty
    rw [AT hty] at hok
    unfold Cell.okWide at hok
    rw [AT hty] at hok
    cases v <;> simp [Cell.ok, AT hty] at hok
    exact one _ rfl rfl (fun i hi => by rw [hty] at hi; injection hi with hi; subst hi; rfl)
   ·rename_i hty
    rw [Az hty] at hok
    unfold Cell.okWide at hok
    rw [Az hty] at hok
    cases v <;> simp [Cell.ok, Az hty] at hok
    exact one _ rfl rfl (fun i hi => by rw [hty] at hi; injection hi with hi; subst hi; rfl)
   ·rename_i hty
    obtain ⟨gs, hu, _⟩ := Cm hty
    rw [hu] at hok
    obtain ⟨cs, rfl, _, _⟩ := hok
    refine ⟨φ', H', .agg vs, g.more, ?_, ?_, ?_⟩
    ·simp only [VR]; exact ⟨g.scal, cs.toList, by simp, g.vr⟩
    ·unfold ShpA; rw [hty]; exact ⟨vs, rfl, hs⟩
    ·simp only [V.lt]; exact Bq.2 g.lt
   ·cases hp
theorem ShpA.more {φ φ' : Phi} {H H' : LH} (m : More φ H w φ' H') {T : TypeId → Option TI} {n : Nat} {t : TypeId} {x : V} (h : ShpA T n t H x) : ShpA T n t H' x := by
 unfold ShpA at h ⊢
 split
 ·rename_i hty; rw [hty] at h; obtain ⟨cs, h1, h2⟩ := h; exact ⟨cs, h1, m.shp h2⟩
 ·rename_i hty
  split at h
  ·rename_i hty'; exact absurd hty' (hty _ _ _ _ _)
  ·exact m.shp h
theorem JX {k base : Nat} : ∀ {ts : List TypeId} {vs : List Value} {ds : List (DataW D)} {ps : List MemPlace}, ts.all (CT (ty P) k) = true → (∀ (j : Nat) t v, ts[j]? = some t → vs[j]? = some v → Value.okWide P w .any base t v) →
 DataW.TrodAll enc P w 0 (fun _ => true) true ts vs ds ps → ∀ {φ : Phi} {H : LH}, RD φ H w → ∃ φ' H' xs, More φ H w φ' H' ∧ VRs φ' w xs vs ∧ TR (ty P) k H' ts xs ∧ ∀ x ∈ xs, V.lt H'.length x
 | [], [], [], ps, _, _, _, φ, H, hR => ⟨φ, H, [], .refl hR, by simp only [VRs], trivial, by simp⟩
 | t :: ts, v :: vs, d :: ds, ps, hp, hok, h, φ, H, hR => by
   obtain ⟨p, q, h1, h2, _⟩ := h
   simp only [List.all_cons, Bool.and_eq_true] at hp
   obtain ⟨φ1, H1, x, m1, r1, s1, l1⟩ := SJ hp.1 (hok 0 t v rfl rfl) h1 hR
   obtain ⟨φ2, H2, xs, m2, r2, s2, l2⟩ := JX hp.2 (fun j t v hj hv => hok (j + 1) t v hj hv) h2 m1.rd
   refine ⟨φ2, H2, x :: xs, m1.trans m2, by simp only [VRs]; exact ⟨v, vs, rfl, r1.mono m2.ext, r2⟩, ⟨s1.more m2, s2⟩, ?_⟩
   intro y hy
   rcases List.mem_cons.1 hy with hy | hy
   ·subst hy; exact V.lt_mono m2.len l1
   ·exact l2 y hy
 | [], _ :: _, _, _, _, _, h, _, _, _ => h.elim
 | [], [], _ :: _, _, _, _, h, _, _, _ => h.elim
 | _ :: _, [], _, _, _, _, h, _, _, _ => h.elim
 | _ :: _, _ :: _, [], _, _, _, h, _, _, _ => h.elim
def LawRun (P : Program) (C : Cfg) (ok : FuncId → Bool) (k : Nat) (K : FuncId) (ts : List TypeId) : Prop :=
 ∀ xs H, HB H → TR (ty P) k H ts xs → ∃ H', Run P C ok K xs H.length H = some (.bool true, H')
theorem NL {C : Cfg} {ok : FuncId → Bool} (hcall : Cp P C.glob (Run P C ok)) {k base : Nat} {K : FuncId} {fn : Func} (hfn : P.funcs[K]? = some fn) (hbody : fn.body.isSome = true) (hname : fn.name ≠ "runtime.NumGoroutine")
 (hlaw : LawRun P C ok k K fn.params.toList) (hp : fn.params.toList.all (CT (ty P) k) = true) {args : Array Value} {ds : List (DataW D)} {ps : List MemPlace}
 (hval : ∀ (j : Nat) t v, fn.params[j]? = some t → args[j]? = some v → Value.okWide P w .any base t v) (htr : DataW.TrodAll enc P w 0 (fun _ => true) true fn.params.toList args.toList ds ps)
 (hglob : ∀ g cs, C.glob g = some cs → ∃ c T fz, w.heap[g]? = some (.cells c T fz) ∧ cs.length ≤ c.size ∧ ∀ (i : Nat) (v : V), cs[i]? = some v → v.isScal = true ∧ ∃ u, c[i]? = some u ∧ ∀ φ w, VR φ w v u) :
 Calls P K args w fun e w' => e = .returned (.bool true) ∧ Below w.heap.size w w' := by
 have hR0 : RD (fun _ => none) [] w := ⟨fun b x e => (by cases e), fun b q d x e => (by cases e), fun b q d e => (by cases e), fun b x e => by simp at e⟩
 obtain ⟨φ, H, xs, m, r, s, l⟩ := JX hp (fun j t v hj hv => hval j t v (by simpa using hj) (by simpa using hv)) htr hR0
 obtain ⟨H', hrun⟩ := hlaw xs H m.rd.hb s
 let p : Par := ⟨H.length, w.heap.size, w, C.glob⟩
 have hHR : HR p φ H w := by
  refine ⟨fun b q d x e hx => ?_, m.rd.bnd, fun b b' q d d' e e' hr _ => ?_, fun b q d e hr => ?_, Nat.le_refl _, .refl _ _, fun g cs e => ?_⟩
  ·have hb := m.rd.dom b _ e
   have := m.rd.blk b q d x e hx
   cases x with
   | cells cs =>
     obtain ⟨c, T, fz, h1, h2, h3, _⟩ := this
     exact ⟨c, T, fz, h1, h2, h3, fun hf => absurd hf (Nat.not_le.2 hb)⟩
   | map es => exact this
   | dead => trivial
  ·exact absurd (m.rd.dom b _ e) (Nat.not_lt.2 hr)
  ·exact absurd (m.rd.dom b _ e) (Nat.not_lt.2 hr)
  ·have h := hglob g cs e
   obtain ⟨c, T, fz, h1, h2⟩ := h
   exact ⟨(Array.getElem?_eq_some_iff.1 h1).1, c, T, fz, h1, h2⟩
 have := hcall _ _ _ _ _ _ hrun p φ w args.toList rfl (Nat.le_refl _) (Nat.le_refl _) m.rd.hb l hHR (fun b x e => .inl (m.rd.dom b x e)) r
 have henter : (callFunc K ⟨args.toList⟩).run P w = .ok (.enter K args) w := by
  obtain ⟨c, hc⟩ := Option.isSome_iff_exists.1 hbody
  simp [callFunc, hfn, hname, hc]
 rw [henter] at this
 rcases this with ⟨u, w', _, h1 | ⟨h1, _⟩⟩ | ⟨f, as, w1, h1, h2⟩
 ·cases h1
 ·cases h1
 ·injection h1 with h1 h3
  injection h1 with h4 h5
  subst h4; subst h5; subst h3
  refine Calls.mono h2 ?_
  rintro e w' ⟨u, rfl, φ', hv, h', _⟩
  simp only [VR] at hv
  subst hv
  exact ⟨rfl, h'.old⟩
end
section
variable {D : Type} {enc : TypeId × Value → D} {P : Program}
theorem EO (hl : laidOutB P = true) {W W' : World} {sp' : Nat → Bool} (hb : Below W.heap.size W W') : ∀ {ts : List TypeId} {vs : List Value} {ds : List (DataW D)} {ps : List MemPlace}, ts.all (fun t => P.readableRec t && decide (t < P.types.size)) = true →
 DataW.TrodAll enc P W 0 (fun _ => true) true ts vs ds ps → (∀ p ∈ ps, p.block < W.heap.size) → (∀ p ∈ ps, sp' p.block = true) → DataW.TrodAll enc P W' 0 sp' true ts vs ds ps
 | [], [], [], _, _, h, _, _ => h
 | t :: ts, v :: vs, d :: ds, ps, hr, ⟨p, q, h1, h2, e⟩, hlt, hs => by
   subst e
   simp only [List.all_cons, Bool.and_eq_true, decide_eq_true_eq] at hr
   exact ⟨p, q, WideElems.Trod_stays hl hr.1.1 hr.1.2 h1 (fun x hx => hb.same (hlt x (by simp [hx]))) (fun x hx => hs x (by simp [hx])),
    EO hl hb hr.2 h2 (fun x hx => hlt x (by simp [hx])) (fun x hx => hs x (by simp [hx])), rfl⟩
 | [], _ :: _, _, _, _, h, _, _ => h.elim
 | [], [], _ :: _, _, _, h, _, _ => h.elim
 | _ :: _, [], _, _, _, h, _, _ => h.elim
 | _ :: _, _ :: _, [], _, _, h, _, _ => h.elim
theorem shp1 {W : World} {t : TypeId} {vs : List Value} {ds : List (DataW D)} {ps : List MemPlace} (h : DataW.TrodAll enc P W 0 (fun _ => true) true [t] vs ds ps) : ∃ d, ds = [d] := by
 match vs, ds, h with
 | [_], [d], _ => exact ⟨d, rfl⟩
 | [], [], h => exact h.elim
 | [], _ :: _, h => exact h.elim
 | _ :: _, [], h => exact h.elim
 | _ :: _ :: _, _ :: [], h => obtain ⟨_, _, _, h, _⟩ := h; exact h.elim
 | [_], _ :: _ :: _, h => obtain ⟨_, _, _, h, _⟩ := h; exact h.elim
 | _ :: _ :: _, _ :: _ :: _, h => obtain ⟨_, _, _, h, _⟩ := h; exact h.elim
theorem shpV {W : World} {gs : List (DataW D)} {ps : List MemPlace} {sp : Nat → Bool} (h : DataW.TrodVars enc P W sp [] gs ps) : gs = [] := by
 cases gs with
 | nil => rfl
 | cons g gs => exact h.elim
theorem Iu {f : Func} {s : ChangeSpec} {apart fresh handsOn again : Bool} {W W' : World} {args : Array Value} {v : Value} {ds gs : List (DataW D)} {before : List MemPlace} (hl : laidOutB P = true) (hb : Below W.heap.size W W')
 (hr : f.params.toList.all (fun t => P.readableRec t && decide (t < P.types.size)) = true) (hvars : s.vars = [])
 (hW : DataW.Whole enc P f.params.toList s.vars apart W args.toList ds gs before)
 (hres : ∀ (b : Nat) (sp : Nat → Bool) (hd : Bool), DataW.TrodAll enc P W' b sp hd f.resultTypes.toList (v.resultList f.resultTypes.size) (s.fn D (ds ++ gs)).results [])
 (hfa : (s.fn D (ds ++ gs)).args = ds) (hfv : (s.fn D (ds ++ gs)).vars = [])
 (hok : ∀ (j : Nat) (t : TypeId) (r : Value), f.resultTypes[j]? = some t → (v.resultList f.resultTypes.size)[j]? = some r → Value.okWide P W' .any 0 t r) :
 s.post enc P f apart fresh handsOn again W args v W' := by
 have hlt := hW.lt
 have hW0 := hW
 obtain ⟨p, q, hA, hV, hpq, hz, hn⟩ := hW
 rw [hvars] at hV
 have hq : q = [] ∧ gs = [] := by
  cases gs with
  | nil => exact ⟨hV, rfl⟩
  | cons g gs => exact hV.elim
 obtain ⟨rfl, rfl⟩ := hq
 simp only [List.append_nil] at hpq
 subst hpq
 have hargs : ∀ sp : Nat → Bool, (∀ x ∈ before, sp x.block = true) → DataW.TrodAll enc P W' 0 sp true f.params.toList args.toList (s.fn D (ds ++ [])).args before := fun sp hs => by
  rw [hfa]; exact EO hl hb hr hA hlt hs
 have hvs : ∀ sp : Nat → Bool, DataW.TrodVars enc P W' sp s.vars (s.fn D (ds ++ [])).vars [] := fun sp => by
  rw [hvars, hfv]; exact rfl
 have hold : ∀ x ∈ before, (fun b => decide (b < W.heap.size)) x.block = true := fun x hx => by simpa using hlt x hx
 refine ⟨ds, [], before, [], before, [], hW0, hres _ _ _, hargs _ hold, hvs _, World.keptBut_mono (fun x hx => ⟨hx, Or.inr (by simpa using hx)⟩) (hb.frame (· ∈ before)), fun _ => ?_⟩
 refine ⟨hok, _, _, ([] ++ before) ++ [], ⟨[] ++ before, [], trodAll_append (hargs _ (fun _ _ => rfl)) (hres _ _ _), hvs _, rfl, ?_, ?_⟩, ?_⟩
 ·intro b off hp
  have hp' : MemPlace.cell b off ∈ before := by simpa using hp
  rw [hb.frozen (hlt _ hp')]
  exact hz b off hp'
 ·intro ha
  simpa using hn ha
 ·intro x hx _
  simpa using hx
end
def Sl (H : LH) (z : Nat) (v : V) (ps : List (List V)) : Prop :=
 ((v = .nilsl ∨ v = .emp) ∧ ps = []) ∨ ∃ b o c l, v = .sl b o z ps.length c ∧ H.cellsAt b = some l ∧ (∀ i p, ps[i]? = some p → p.length = z ∧ o + i * z + z ≤ l.length ∧ (l.drop (o + i * z)).take z = p)
theorem A5 {H : LH} {b : Nat} {l : List V} (h : H.cellsAt b = some l) : b < H.length := (List.getElem?_eq_some_iff.1 (AI h)).1
theorem Sl.ext {H L : LH} {z : Nat} {v : V} {ps : List (List V)} (h : Sl H z v ps) : Sl (H ++ L) z v ps := by
 rcases h with h | ⟨b, o, c, l, h1, h2, h3⟩
 ·exact .inl h
 ·exact .inr ⟨b, o, c, l, h1, Ag h2, h3⟩
theorem A3 {H L : LH} {b : Nat} {x : Blk} (h : b < H.length) : (H ++ L).set b x = H.set b x ++ L := List.set_append_left _ _ h
theorem A1 {H : LH} {b : Nat} {cs : List V} (h : b < H.length) : LH.cellsAt (H.set b (.cells cs)) b = some cs := by
 unfold LH.cellsAt; rw [List.getElem?_set_self h]
theorem A0 {H : LH} {b b' : Nat} {x : Blk} (h : b ≠ b') : LH.cellsAt (H.set b x) b' = H.cellsAt b' := by
 unfold LH.cellsAt; rw [List.getElem?_set_ne h]
theorem A2 {H L : LH} {b : Nat} (h : b < H.length) : LH.cellsAt (H ++ L) b = H.cellsAt b := by
 unfold LH.cellsAt; rw [List.getElem?_append_left h]
abbrev Fin := Option (Ex × Env × LH) → Option (V × LH)
theorem G6 (b : Bool) {i : Decidable (b = true)} : @decide (b = true) i = b := by cases b <;> simp
def selV (b : Bool) (v : V) : V := match b with | true => v | false => und
def dumA : Nat := 0
def dumB : Nat := 0
theorem dum : dumA = dumB := rfl
section
variable (F : Fin) (X : Ctx)
def zEv (k : List K) (x : Ex) (e : Env) (H : LH) : Option (V × LH) := F (ev X k x e H)
def zR (ops rest : List Oper) (l : Loc) (e : Env) (H : LH) (k : List K) : Option (V × LH) := F (evR X ops rest l e H k)
def zS (ops : List Oper) (d : Option Tmp) (rest : List Oper) (l : Loc) (e : Env) (k : List K) (r : Option (V × LH)) : Option (V × LH) := F (evS X ops d rest l e k r)
def zG (ops : List Oper) (o : Oper) (rest : List Oper) (l : Loc) (e : Env) (H : LH) (k : List K) (g : Option Bool) : Option (V × LH) := F (evG X ops o rest l e H k g)
def zB (a b : Code) (k : List K) (e : Env) (H : LH) (v : Option V) : Option (V × LH) := F (evB X a b k e H v)
def zP (ops : List Oper) (d : Tmp) (rest : List Oper) (l : Loc) (e : Env) (H : LH) (k : List K) (b : Bool) (r : Option (V × LH)) : Option (V × LH) :=
 match b with
 | true => zS F X ops (some d) rest l e k r
 | false => zR F X ops rest ((d, und) :: l) e H k
def zE (ops : List Oper) (rest : List Oper) (l : Loc) (e : Env) (H : LH) (k : List K) (b : Bool) (r : Option (V × LH)) : Option (V × LH) :=
 match b with
 | true => zS F X ops none rest l e k r
 | false => zR F X ops rest l e H k
end
section
variable {F : Fin} {X : Ctx} {k : List K} {e : Env} {H : LH}
theorem Vx {x : Ex} : zEv F X [] x e H = F (some (x, e, H)) := rfl
theorem Ta : zEv F X (.code .skip :: k) .nrm e H = zEv F X k .nrm e H := rfl
theorem Rn {l : Nat} : zEv F X (.code (.label l) :: k) .nrm e H = zEv F X k .nrm e H := rfl
theorem Vz {a b : Code} : zEv F X (.code (.seq a b) :: k) .nrm e H = zEv F X (.code a :: .code b :: k) .nrm e H := congrArg F VW
theorem Om {id : Nat} {ops : List Oper} {d : Bool} : zEv F X (.code (.region id ⟨ops⟩ d) :: k) .nrm e H = zR F X ops ops [] e H k := congrArg F Pp
theorem T7 {c : Operand} {a b : Code} : zEv F X (.code (.cond c a b) :: k) .nrm e H = zB F X a b k e H (Al X.keep e [] c) := congrArg F Us
theorem Rm {id : Nat} {c : Code} : zEv F X (.code (.block id c) :: k) .nrm e H = zEv F X (.code c :: .blk id :: k) .nrm e H := congrArg F S2
theorem T8 {id : Nat} : zEv F X (.code (.exit id) :: k) .nrm e H = zEv F X k (.exit id) e H := rfl
theorem Vy : zEv F X (.code .ret :: k) .nrm e H = zEv F X k .ret e H := rfl
theorem T9 {c : Code} {j : Nat} : zEv F X (.code c :: k) (.exit j) e H = zEv F X k (.exit j) e H := rfl
theorem Ro {c : Code} : zEv F X (.code c :: k) .ret e H = zEv F X k .ret e H := rfl
theorem Vu {id : Nat} : zEv F X (.blk id :: k) .nrm e H = zEv F X k .nrm e H := rfl
theorem T5 {id : Nat} : zEv F X (.blk id :: k) .ret e H = zEv F X k .ret e H := rfl
theorem T6 {id j : Nat} : zEv F X (.blk id :: k) (.exit j) e H = if j = id then zEv F X k .nrm e H else zEv F X k (.exit j) e H := by
 unfold zEv; rw [Ur]; split <;> rfl
theorem Vv {c : Code} : zEv F X (.lp c :: k) .ret e H = zEv F X k .ret e H := rfl
theorem Vw {c : Code} {j : Nat} : zEv F X (.lp c :: k) (.exit j) e H = zEv F X k (.exit j) e H := rfl
theorem WF {c : Code} : zEv F X (.lp c :: k) .nrm e H = zEv F X (.code (.loop c) :: k) .nrm e H := rfl
theorem WH {ops : List Oper} {l : Loc} : zR F X ops [] l e H k = zEv F X k .nrm (DY X.keep e l) H := rfl
theorem VC {ops : List Oper} {o : Oper} {rest : List Oper} {l : Loc} : zR F X ops (o :: rest) l e H k = zG F X ops o rest l e H k (CF X ops e l o.guard) := congrArg F S1
theorem VE {ops : List Oper} {d : Tmp} {rest : List Oper} {l : Loc} {v : V} : zS F X ops (some d) rest l e k (some (v, H)) = zR F X ops rest ((d, v) :: l) e H k := rfl
theorem VD {ops : List Oper} {rest : List Oper} {l : Loc} {v : V} : zS F X ops none rest l e k (some (v, H)) = zR F X ops rest l e H k := rfl
theorem Xk {ops : List Oper} {rest : List Oper} {l : Loc} {d : Tmp} {op : Op} {t : TypeId} {p : String} {a : Array Edge} {g : Option (Nat × Bool)} {b : Bool} :
 zG F X ops ⟨some d, op, t, p, a, g⟩ rest l e H k (some b) = zP F X ops d rest l e H k b (grdB (fltC X.keep ops e l op a) (doOp X.call X.T X.G X.fl H op (Af X.keep e l (opds op)))) := by cases b <;> rfl
theorem Xl {ops : List Oper} {rest : List Oper} {l : Loc} {ty : TypeId} {ad x : Operand} {t : TypeId} {p : String} {a : Array Edge} {g : Option (Nat × Bool)} {b : Bool} :
 zG F X ops ⟨none, .store ty ad x, t, p, a, g⟩ rest l e H k (some b) =
  zE F X ops rest l e H k b (grd (fltE X.keep ops e l ad a.toList = true) (doOp X.call X.T X.G X.fl H (.store ty ad x) (Af X.keep e l (opds (.store ty ad x))))) := by
 have h : ∀ (c : Bool) (y : Option (V × LH)), grdB c y = grd (c = true) y := fun c y => by cases c <;> rfl
 rw [← h]
 cases b <;> rfl
theorem Xm {ops : List Oper} {rest : List Oper} {l : Loc} {ty : TypeId} {m i x : Operand} {t : TypeId} {p : String} {a : Array Edge} {g : Option (Nat × Bool)} {b : Bool} :
 zG F X ops ⟨none, .mapUpdate ty m i x, t, p, a, g⟩ rest l e H k (some b) =
  zE F X ops rest l e H k b (doOp X.call X.T X.G X.fl H (.mapUpdate ty m i x) (Af X.keep e l (opds (.mapUpdate ty m i x)))) := by cases b <;> rfl
theorem Xj {ops : List Oper} {rest : List Oper} {l : Loc} {ty : TypeId} {m i x : Operand} {t : TypeId} {p : String} {a : Array Edge} {g : Option (Nat × Bool)} {b : Bool} :
 zG F X ops ⟨none, .insert ty m i x, t, p, a, g⟩ rest l e H k (some b) =
  zE F X ops rest l e H k b (doOp X.call X.T X.G X.fl H (.insert ty m i x) (Af X.keep e l (opds (.insert ty m i x)))) := by cases b <;> rfl
theorem Xi {ops : List Oper} {rest : List Oper} {l : Loc} {c : Call} {t : TypeId} {p : String} {a : Array Edge} {g : Option (Nat × Bool)} {b : Bool} :
 zG F X ops ⟨none, .call c, t, p, a, g⟩ rest l e H k (some b) = zE F X ops rest l e H k b (grdB (fltC X.keep ops e l (.call c) a) (doOp X.call X.T X.G X.fl H (.call c) (Af X.keep e l (opds (.call c))))) := by cases b <;> rfl
theorem Vs {a b : Code} {t : Bool} : zB F X a b k e H (some (.bool t)) = if t = true then zEv F X (.code a :: k) .nrm e H else zEv F X (.code b :: k) .nrm e H := by
 cases t <;> rfl
theorem VB {ops : List Oper} {rest : List Oper} {l : Loc} {d : Tmp} {r : Option (V × LH)} : zP F X ops d rest l e H k true r = zS F X ops (some d) rest l e k r := rfl
theorem Tb {ops : List Oper} {rest : List Oper} {l : Loc} {d : Tmp} {r : Option (V × LH)} : zP F X ops d rest l e H k false r = zR F X ops rest ((d, und) :: l) e H k := rfl
theorem VA {ops : List Oper} {rest : List Oper} {l : Loc} {d : Tmp} {b : Bool} {v : V} : zP F X ops d rest l e H k b (some (v, H)) = zR F X ops rest ((d, selV b v) :: l) e H k := by cases b <;> rfl
theorem WG {ops : List Oper} {rest : List Oper} {l : Loc} {d : Tmp} {b : Bool} {v : V} {H' : LH} : zP F X ops d rest l e H k b (some (v, H')) = if b = true then zR F X ops rest ((d, v) :: l) e H' k else zR F X ops rest ((d, und) :: l) e H k := by cases b <;> rfl
theorem Vt {ops : List Oper} {rest : List Oper} {l : Loc} {r : Option (V × LH)} : zE F X ops rest l e H k true r = zS F X ops none rest l e k r := rfl
theorem T4 {ops : List Oper} {rest : List Oper} {l : Loc} {r : Option (V × LH)} : zE F X ops rest l e H k false r = zR F X ops rest l e H k := rfl
theorem WD {ops : List Oper} {rest : List Oper} {l : Loc} {b : Bool} {v : V} {H' : LH} : zE F X ops rest l e H k b (some (v, H')) = if b = true then zR F X ops rest l e H' k else zR F X ops rest l e H k := by cases b <;> rfl
theorem Xp {ops : List Oper} {rest : List Oper} {l : Loc} {d : Tmp} {r : Option (V × LH)} {i : Decidable True} : zP F X ops d rest l e H k (@decide True i) r = zS F X ops (some d) rest l e k r := by rw [decide_true]; rfl
theorem Xo {ops : List Oper} {rest : List Oper} {l : Loc} {d : Tmp} {r : Option (V × LH)} {i : Decidable False} : zP F X ops d rest l e H k (@decide False i) r = zR F X ops rest ((d, und) :: l) e H k := by rw [decide_false]; rfl
theorem Xg {ops : List Oper} {rest : List Oper} {l : Loc} {r : Option (V × LH)} {i : Decidable True} : zE F X ops rest l e H k (@decide True i) r = zS F X ops none rest l e k r := by rw [decide_true]; rfl
theorem Xf {ops : List Oper} {rest : List Oper} {l : Loc} {r : Option (V × LH)} {i : Decidable False} : zE F X ops rest l e H k (@decide False i) r = zR F X ops rest l e H k := by rw [decide_false]; rfl
theorem WE {F' : Fin} {X' : Ctx} {e' : Env} {H' : LH} {x : Ex} {d' : Nat} (h0 : dumA = d') (h1 : F = F') (h2 : X = X') (h3 : e = e') (h4 : H = H') : zEv F X k x e H = zEv F' X' k x e' H' := by
 subst h1; subst h2; subst h3; subst h4; rfl
theorem Xq {F' : Fin} {X' : Ctx} {e' : Env} {H' : LH} {ops rest : List Oper} {l : Loc} {d' : Nat} (h0 : dumA = d') (h1 : F = F') (h2 : X = X') (h3 : e = e') (h4 : H = H') : zR F X ops rest l e H k = zR F' X' ops rest l e' H' k := by
 subst h1; subst h2; subst h3; subst h4; rfl
theorem Xr {ops : List Oper} {d : Option Tmp} {rest : List Oper} {l : Loc} {r r' : Option (V × LH)} {d' : Nat} (h0 : dumA = d') (h : r = r') : zS F X ops d rest l e k r = zS F X ops d rest l e k r' := by rw [h]
theorem Xh {ops : List Oper} {o : Oper} {rest : List Oper} {l : Loc} {g g' : Option Bool} {d' : Nat} (h0 : dumA = d') (h : g = g') : zG F X ops o rest l e H k g = zG F X ops o rest l e H k g' := by rw [h]
theorem Xd {a b : Code} {v v' : Option V} {d' : Nat} (h0 : dumA = d') (h : v = v') : zB F X a b k e H v = zB F X a b k e H v' := by rw [h]
theorem Xn {ops : List Oper} {d : Tmp} {rest : List Oper} {l : Loc} {b : Bool} {c : Prop} [Decidable c] {r r' : Option (V × LH)} {d' : Nat} (h0 : dumA = d') (h : (b = true) = c) (h2 : c → r = r') : zP F X ops d rest l e H k b r = zP F X ops d rest l e H k (decide c) r' := by
 subst h
 rw [G6]
 cases b with
 | true => rw [h2 rfl]
 | false => rfl
theorem Xe {ops : List Oper} {rest : List Oper} {l : Loc} {b : Bool} {c : Prop} [Decidable c] {r r' : Option (V × LH)} {d' : Nat} (h0 : dumA = d') (h : (b = true) = c) (h2 : c → r = r') : zE F X ops rest l e H k b r = zE F X ops rest l e H k (decide c) r' := by
 subst h
 rw [G6]
 cases b with
 | true => rw [h2 rfl]
 | false => rfl
end
theorem EQ {F : Fin} {P : Program} {C : Cfg} {ok : FuncId → Bool} {keep : List Tmp} {fl : Nat} {k : List K} {e : Env} {H : LH} {c : Code} :
 zEv F (mkR P C ok keep fl) (.code (.loop c) :: k) .nrm e H = zEv F (mkR P C ok keep fl) (.code c :: .lp c :: k) .nrm e H := congrArg F Ut
theorem Aa {P : Program} {C : Cfg} {ok : FuncId → Bool} {f : FuncId} {fn : Func} {c : Code} {kp : List Tmp} {m : Mode} (hf : P.funcs[f]? = some fn) (hb : fn.body = some c) (ho : ok f = true)
 (hk : C.keep f = kp) (hm : C.mode f = m) (hr : C.ord f = []) (args : List V) (fl : Nat) (H : LH) :
 Run P C ok f args fl H = zEv (Ac (mkR P C ok kp (BK m fl H)) m H fn.results.toList) (mkR P C ok kp (BK m fl H)) [.code c] .nrm (BH kp args) H := Rt hf hb ho hk hm hr args fl H
theorem Pz {keep : List Tmp} {ops : List Oper} {e : Env} {l : Loc} {x} {es : Array Edge} : fltC keep ops e l (.move x) es = true := rfl
theorem KV {keep : List Tmp} {ops : List Oper} {e : Env} {l : Loc} {x} {es : Array Edge} : fltC keep ops e l (.assign x) es = true := rfl
theorem PA {keep : List Tmp} {ops : List Oper} {e : Env} {l : Loc} {x y z} {es : Array Edge} : fltC keep ops e l (.pick x y z) es = true := rfl
theorem Nx {keep : List Tmp} {ops : List Oper} {e : Env} {l : Loc} {x} {es : Array Edge} : fltC keep ops e l (.alloc x) es = true := rfl
theorem S9 {keep : List Tmp} {ops : List Oper} {e : Env} {l : Loc} {x y} {es : Array Edge} : fltC keep ops e l (.box x y) es = true := rfl
theorem Nz {keep : List Tmp} {ops : List Oper} {e : Env} {l : Loc} {x y} {es : Array Edge} : fltC keep ops e l (.build x y) es = true := rfl
theorem Ge {keep : List Tmp} {ops : List Oper} {e : Env} {l : Loc} {x y z} {es : Array Edge} : fltC keep ops e l (.buildSlice x y z) es = true := rfl
theorem Py {keep : List Tmp} {ops : List Oper} {e : Env} {l : Loc} {x y} {es : Array Edge} : fltC keep ops e l (.load x y) es = true := rfl
theorem If {keep : List Tmp} {ops : List Oper} {e : Env} {l : Loc} {x} {es : Array Edge} : fltC keep ops e l (.nilCheck x) es = true := rfl
theorem Ny {keep : List Tmp} {ops : List Oper} {e : Env} {l : Loc} {x y z u v} {es : Array Edge} : fltC keep ops e l (.binOp x y z u v) es = true := rfl
theorem PC {keep : List Tmp} {ops : List Oper} {e : Env} {l : Loc} {x y z} {es : Array Edge} : fltC keep ops e l (.unOp x y z) es = true := rfl
theorem Jq {keep : List Tmp} {ops : List Oper} {e : Env} {l : Loc} {x y z} {es : Array Edge} : fltC keep ops e l (.convert x y z) es = true := rfl
theorem Ie {keep : List Tmp} {ops : List Oper} {e : Env} {l : Loc} {x y z} {es : Array Edge} : fltC keep ops e l (.makeFunc x y z) es = true := rfl
theorem Js {keep : List Tmp} {ops : List Oper} {e : Env} {l : Loc} {x y} {es : Array Edge} : fltC keep ops e l (.makeMap x y) es = true := rfl
theorem GT {keep : List Tmp} {ops : List Oper} {e : Env} {l : Loc} {x y z} {es : Array Edge} : fltC keep ops e l (.makeSlice x y z) es = true := rfl
theorem NC {keep : List Tmp} {ops : List Oper} {e : Env} {l : Loc} {x y z u v} {es : Array Edge} : fltC keep ops e l (.slice x y z u v) es = true := rfl
theorem GR {keep : List Tmp} {ops : List Oper} {e : Env} {l : Loc} {x y z} {es : Array Edge} : fltC keep ops e l (.fieldAddr x y z) es = true := rfl
theorem NA {keep : List Tmp} {ops : List Oper} {e : Env} {l : Loc} {x y z} {es : Array Edge} : fltC keep ops e l (.field x y z) es = true := rfl
theorem GS {keep : List Tmp} {ops : List Oper} {e : Env} {l : Loc} {x y z} {es : Array Edge} : fltC keep ops e l (.indexAddr x y z) es = true := rfl
theorem NB {keep : List Tmp} {ops : List Oper} {e : Env} {l : Loc} {x y z} {es : Array Edge} : fltC keep ops e l (.index x y z) es = true := rfl
theorem KW {keep : List Tmp} {ops : List Oper} {e : Env} {l : Loc} {x y z u} {es : Array Edge} : fltC keep ops e l (.lookup x y z u) es = true := rfl
theorem Jr {keep : List Tmp} {ops : List Oper} {e : Env} {l : Loc} {x y} {es : Array Edge} : fltC keep ops e l (.extract x y) es = true := rfl
theorem Sd {keep : List Tmp} {ops : List Oper} {e : Env} {l : Loc} {f : Operand} {xs : Array Operand} {ts : Array TypeId} {es : Array Edge} : fltC keep ops e l (.call ⟨.value f, xs, ts⟩) es = true := rfl
theorem Sa {keep : List Tmp} {ops : List Oper} {e : Env} {l : Loc} {xs : Array Operand} {ts : Array TypeId} {es : Array Edge} : fltC keep ops e l (.call ⟨.builtin .len, xs, ts⟩) es = true := rfl
theorem Sc {keep : List Tmp} {ops : List Oper} {e : Env} {l : Loc} {xs : Array Operand} {ts : Array TypeId} {es : Array Edge} : fltC keep ops e l (.call ⟨.builtin .min, xs, ts⟩) es = true := rfl
theorem Sb {keep : List Tmp} {ops : List Oper} {e : Env} {l : Loc} {xs : Array Operand} {ts : Array TypeId} {es : Array Edge} : fltC keep ops e l (.call ⟨.builtin .max, xs, ts⟩) es = true := rfl
theorem S8 {keep : List Tmp} {ops : List Oper} {e : Env} {l : Loc} {x : Operand} {xs : List Operand} {ts : Array TypeId} {es : List Edge} : fltC keep ops e l (.call ⟨.builtin .append, ⟨x :: xs⟩, ts⟩) ⟨es⟩ = fltA keep ops e l x es := rfl
theorem Nt {o : Oper} {ops : List Oper} : KM (o :: ops) 0 = o.dst := rfl
theorem Ns {o : Oper} {ops : List Oper} {j : Nat} : KM (o :: ops) (j + 1) = KM ops j := rfl
theorem QW {v : V} : selV true v = v := rfl
theorem Ob {v : V} : selV false v = und := rfl
theorem QV {a b : Bool} {v : V} : selV a (selV b v) = selV (a && b) v := by cases a <;> cases b <;> rfl
theorem Vg {a : Bool} {c : Prop} [Decidable c] {v w : V} {d' : Nat} (h0 : dumA = d') (h : (a = true) = c) (h2 : c → v = w) : selV a v = selV (decide c) w := by
 subst h
 rw [G6]
 cases a with
 | true => rw [h2 rfl]
 | false => rfl
theorem Vi {i : Decidable True} {v : V} : selV (@decide True i) v = v := by rw [decide_true]; rfl
theorem Vh {i : Decidable False} {v : V} : selV (@decide False i) v = und := by rw [decide_false]; rfl
theorem Uh {p q : Prop} [Decidable p] [Decidable q] : (decide p && decide q) = decide (p ∧ q) := by by_cases h : p <;> by_cases h2 : q <;> simp [h, h2]
theorem VQ {p q : Prop} [Decidable p] [Decidable q] : (decide p || decide q) = decide (p ∨ q) := by by_cases h : p <;> by_cases h2 : q <;> simp [h, h2]
theorem Ui {p : Prop} [Decidable p] : (!decide p) = decide (¬ p) := by by_cases h : p <;> simp [h]
theorem LT {b : Bool} : IY true (some (.bool b)) = some b := by cases b <;> rfl
theorem LS {b : Bool} : IY false (some (.bool b)) = some (!b) := by cases b <;> rfl
theorem Rk {w : Bool} : IY w (some (.tup [])) = some false := rfl
theorem Ok {s b : Bool} : IY true (some (selV s (.bool b))) = some (s && b) := by cases s <;> cases b <;> rfl
theorem Oj {s b : Bool} : IY false (some (selV s (.bool b))) = some (s && !b) := by cases s <;> cases b <;> rfl
theorem NV {H : LH} {t : Bool} {x y : V} : Is H (.bool t) x y = some (if t = true then x else y, H) := by cases t <;> rfl
theorem Sp {c : Prop} [Decidable c] {x y : Bool} : (if c then V.bool x else V.bool y) = V.bool (if c then x else y) := by split <;> rfl
theorem UG {c : Prop} [Decidable c] {k : IntKind} {x y : Int} : (if c then V.int k x else V.int k y) = V.int k (if c then x else y) := by split <;> rfl
theorem UH {c : Prop} [Decidable c] {x y : ByteArray} : (if c then V.str x else V.str y) = V.str (if c then x else y) := by split <;> rfl
theorem Rz {c : Prop} [Decidable c] {x : Bool} : (if c then x else false) = (decide c && x) := by by_cases h : c <;> simp [h]
theorem U9 {c : Prop} [Decidable c] {x : Bool} : (if c then true else x) = (decide c || x) := by by_cases h : c <;> simp [h]
theorem W4 {c : Prop} [Decidable c] : (if c then true else false) = decide c := by by_cases h : c <;> simp [h]
theorem W3 {c : Prop} [Decidable c] : (if c then false else true) = !decide c := by by_cases h : c <;> simp [h]
theorem KC {a b : Bool} : ((a && b) = true) = (a = true ∧ b = true) := by simp
theorem Nl {a b : Bool} : ((a || b) = true) = (a = true ∨ b = true) := by simp
attribute [go_sem] PO fltA flt2 Pz KV PA Nx S9 Nz Ge Py If Ny PC Jq Ie Js GT NC GR NA GS NB KW Jr Sd Sa Sc Sb S8 J5 dum mk_T mk_G UV UX UW WW CF Af Al B2 CC opds doOp Bt doBi allV ptrV Fy NF No Q4 P3 Q7 P6 Q6 P5 NG Np NH Nq So RJ L6 KI Q3 P2 Q5 P4 Jy Je Sn RG L5 KH Q2 P1 Sv UM NP St La Su Qe Ss L9 Qc Qd JB Od IS LE LF SU R4 LK R3 AY Hl Hm Ll Qu JU BX DP GM Bw fltE flt1 Ha binV nilO yesO notO binS binI cmpI eqS unV JW ofValue scal IR BH DY KR putL numO Hp Av AC hiV Ja cutS cutL cutN DJ G8 M9 D5 rowO Fz List.replicate_succ List.replicate_zero List.flatten_cons List.flatten_nil Fh cut He strO E7 IntWalk.i64_in IntWalk.u8_in aggO Gb Nu fnO mapO Gk appV Mr TK.isAgg NM NN NO L8 Qb resV valO oneV Nw KS Nv V.noAddr V.noAddrs Sh Sg FO ByteArray.size_append Bd A7 Jd Jc JF F2 QX SQ set0 setS List.getElem?_cons_zero List.getElem?_cons_succ List.getElem?_nil List.map_cons List.map_nil List.length_cons List.length_nil List.length_append List.length_set Nat.le_add_right Nat.le_refl List.drop_zero List.drop_succ_cons List.take_succ_cons List.take_zero List.zip_cons_cons List.zip_nil_left List.append_nil List.nil_append List.cons_append List.append_assoc Option.toList_some Option.toList_none Nat.zero_add Nat.add_zero Nat.zero_mul Nat.one_mul Nat.mul_one decide_true decide_false Bool.not_true Bool.not_false Bool.true_beq Bool.false_beq Bool.and_true Bool.true_and Bool.and_false Bool.false_and and_true true_and and_self decide_eq_true_eq Bool.not_eq_true' decide_eq_false_iff_not Int.toNat_natCast WY Xk VA Xl Xm Xj Xi Vs VE VD Xp Xo Xg Xf WD QV Vi Vh Nt Ns LT LS Rk Ok Oj NV Sp UG UH Rz U9 W4 W3 KC Nl Bool.and_self Bool.or_self Uh VQ Ui and_assoc not_true_eq_false not_false_eq_true false_and and_false true_or or_true false_or or_false Classical.not_not
attribute [go_sem ↓] Vx Ta Rn Vz Om T7 Rm T8 Vy T9 Ro Vu T5 T6 Vv Vw WF WH VC VB Tb Vt T4 QW Ob
attribute [go_sem low] WG
attribute [congr] WE Xq Xr Xh Xd Xn Xe Vg
def Ret (Q : V → LH → Prop) (r : Option (V × LH)) : Prop := ∃ v H, r = some (v, H) ∧ Q v H
theorem Rs {Q : V → LH → Prop} {v : V} {H : LH} : Ret Q (some (v, H)) = Q v H := by
 apply propext
 constructor
 ·rintro ⟨v', H', h, q⟩
  injection h with h; injection h with h1 h2
  subst h1; subst h2; exact q
 ·intro q; exact ⟨v, H, rfl, q⟩
theorem Ret.mono {Q Q' : V → LH → Prop} {r : Option (V × LH)} (h : Ret Q r) (k : ∀ v H, Q v H → Q' v H) : Ret Q' r := by
 obtain ⟨v, H, e, q⟩ := h; exact ⟨v, H, e, k v H q⟩
theorem BM {α : Type} {c : Prop} [Decidable c] {a b r : α} (h1 : c → a = r) (h2 : ¬ c → b = r) : (if c then a else b) = r := by
 by_cases h : c
 ·rw [if_pos h]; exact h1 h
 ·rw [if_neg h]; exact h2 h
theorem VI {Q : V → LH → Prop} {r r' : Option (V × LH)} {d' : Nat} (h0 : dumA = d') (h : r = r') : Ret Q r = Ret Q r' := by rw [h]
theorem Ae {F : Fin} {X : Ctx} {c : Code} {n : Nat} {k : List K} {e : Env} {H : LH} {r : Option (V × LH)}
 (h : ∀ c0 R, c = c0 → k = R → zEv F X (K.code (Code.loop c0) :: K.blk n :: R) .nrm e H = r) : zEv F X (K.code (Code.loop c) :: K.blk n :: k) .nrm e H = r := h c k rfl rfl
theorem B9 {F : Fin} {X : Ctx} {c : Code} {n : Nat} {k : List K} {e : Env} {H : LH} {Q : V → LH → Prop}
 (h : ∀ c0 R, c = c0 → k = R → Ret Q (zEv F X (K.code (Code.loop c0) :: K.blk n :: R) .nrm e H)) : Ret Q (zEv F X (K.code (Code.loop c) :: K.blk n :: k) .nrm e H) := h c k rfl rfl
theorem A4 {F : Fin} {P : Program} {C : Cfg} {ok : FuncId → Bool} {keep : List Tmp} {fl : Nat} {k : List K} {e : Env} {H : LH} {c c0 : Code} (h : c = c0) :
 zEv F (mkR P C ok keep fl) (.code (.loop c0) :: k) .nrm e H = zEv F (mkR P C ok keep fl) (.code c :: .lp c0 :: k) .nrm e H := by
 subst h; exact EQ
def rows {α : Type} (enc : α → List V) : List α → List V
 | [] => []
 | x :: xs => enc x ++ rows enc xs
section
variable {α : Type} {enc : α → List V} {z : Nat}
theorem Gv {x : α} {xs : List α} : rows enc (x :: xs) = enc x ++ rows enc xs := rfl
theorem MP {x : α} : rows enc [x] = enc x := by simp [rows]
theorem DC {xs ys : List α} : rows enc (xs ++ ys) = rows enc xs ++ rows enc ys := by
 induction xs with
 | nil => rfl
 | cons x xs ih => simp [rows, ih]
theorem Ak (hz : ∀ x, (enc x).length = z) (xs : List α) : (rows enc xs).length = xs.length * z := by
 induction xs with
 | nil => simp [rows]
 | cons x xs ih => simp [rows, ih, hz, Nat.succ_mul]; omega
theorem HD {xs : List α} {i : Nat} (hi : i < xs.length) : rows enc xs = rows enc (xs.take i) ++ (enc xs[i] ++ rows enc (xs.drop (i + 1))) := by
 conv => lhs; rw [← List.take_append_drop i xs, DC, List.drop_eq_getElem_cons hi, Gv]
theorem Gw (hz : ∀ x, (enc x).length = z) (xs : List α) (n : Nat) : (rows enc xs).take (n * z) = rows enc (xs.take n) := by
 by_cases h : n ≤ xs.length
 ·conv => lhs; rw [← List.take_append_drop n xs, DC]
  rw [show n * z = (rows enc (xs.take n)).length by rw [Ak hz, List.length_take, Nat.min_eq_left h], List.take_left]
 ·rw [List.take_of_length_le (by rw [Ak hz]; exact Nat.mul_le_mul_right _ (by omega)), List.take_of_length_le (by omega)]
theorem JY (hz : ∀ x, (enc x).length = z) (xs : List α) (n : Nat) : (rows enc xs).drop (n * z) = rows enc (xs.drop n) := by
 by_cases h : n ≤ xs.length
 ·conv => lhs; rw [← List.take_append_drop n xs, DC]
  rw [show n * z = (rows enc (xs.take n)).length by rw [Ak hz, List.length_take, Nat.min_eq_left h], List.drop_left]
 ·rw [List.drop_of_length_le (by rw [Ak hz]; exact Nat.mul_le_mul_right _ (by omega)), List.drop_of_length_le (by omega)]; rfl
theorem SL (hz : ∀ x, (enc x).length = z) {xs : List α} {i : Nat} (hi : i < xs.length) : ((rows enc xs).drop (i * z)).take z = enc xs[i] := by
 rw [JY hz, List.drop_eq_getElem_cons hi, Gv, show z = (enc xs[i]).length from (hz _).symm, List.take_left]
theorem O0 {A B : List V} {o : Nat} {ws : List V} (h : o + ws.length ≤ A.length) : Bw (A ++ B) o ws = Bw A o ws ++ B := by
 induction ws generalizing A o with
 | nil => rfl
 | cons w ws ih =>
   simp only [Bw, List.length_cons] at *
   rw [List.set_append_left _ _ (by omega), ih (by simp; omega)]
theorem Lp {A B : List V} {o : Nat} {ws : List V} : Bw (A ++ B) (A.length + o) ws = A ++ Bw B o ws := by
 induction ws generalizing B o with
 | nil => rfl
 | cons w ws ih =>
   simp only [Bw]
   rw [List.set_append_right _ _ (by omega), show A.length + o - A.length = o by omega, show A.length + o + 1 = A.length + (o + 1) by omega, ih]
theorem SM {xs : List α} {i : Nat} {y : α} (hi : i < xs.length) : rows enc (xs.set i y) = rows enc (xs.take i) ++ (enc y ++ rows enc (xs.drop (i + 1))) := by
 rw [HD (xs := xs.set i y) (i := i) (by simpa using hi)]
 simp [List.take_set_of_le, List.drop_set_of_lt]
theorem SK (hz : ∀ x, (enc x).length = z) {xs : List α} {i j : Nat} (hi : i < xs.length) {ws : List V} (hj : j + ws.length ≤ z) (y : α) (hy : enc y = Bw (enc xs[i]) j ws) :
 Bw (rows enc xs) (i * z + j) ws = rows enc (xs.set i y) := by
 rw [SM hi, HD hi, hy, show i * z + j = (rows enc (xs.take i)).length + j by rw [Ak hz, List.length_take, Nat.min_eq_left (by omega)],
  Lp, O0 (by rw [hz]; exact hj)]
end
def blkV : V → Nat
 | .sl b _ _ _ _ => b
 | _ => 0
def offV : V → Nat
 | .sl _ o _ _ _ => o
 | _ => 0
def At {α : Type} (H : LH) (enc : α → List V) (z : Nat) (v : V) (xs : List α) : Prop :=
 (xs = [] ∧ (v = .nilsl ∨ v = .emp)) ∨ ∃ b o c l, v = .sl b o z xs.length c ∧ H.cellsAt b = some l ∧ o + xs.length * z ≤ l.length ∧ (l.drop o).take (xs.length * z) = rows enc xs
def Own {α : Type} (fl : Nat) (H : LH) (enc : α → List V) (z : Nat) (v : V) (xs : List α) : Prop :=
 (xs = [] ∧ (v = .nilsl ∨ v = .emp)) ∨ ∃ b, v = .sl b 0 z xs.length xs.length ∧ H.cellsAt b = some (rows enc xs) ∧ fl ≤ b
def Hx (H H' : LH) : Prop := ∃ L, H' = H ++ L
theorem Hx.refl (H : LH) : Hx H H := ⟨[], by simp⟩
theorem Hx.trans {A B C : LH} (h : Hx A B) (k : Hx B C) : Hx A C := by
 obtain ⟨L, rfl⟩ := h; obtain ⟨M, rfl⟩ := k; exact ⟨L ++ M, by simp⟩
theorem Hx.app {H L : LH} : Hx H (H ++ L) := ⟨L, rfl⟩
theorem Hx.cells {H H' : LH} (h : Hx H H') {b : Nat} {l : List V} (e : H.cellsAt b = some l) : H'.cellsAt b = some l := by
 obtain ⟨L, rfl⟩ := h; exact Ag e
theorem Hx.len {H H' : LH} (h : Hx H H') : H.length ≤ H'.length := by
 obtain ⟨L, rfl⟩ := h; simp
theorem Hx.set {H H' : LH} (h : Hx H H') {b : Nat} {x : Blk} (hb : H.length ≤ b) : Hx H (H'.set b x) := by
 obtain ⟨L, rfl⟩ := h; exact ⟨L.set (b - H.length) x, by rw [List.set_append_right _ _ hb]⟩
section
variable {α : Type} {enc : α → List V} {z : Nat} {H : LH} {v : V} {xs : List α}
theorem At.ext {H' : LH} (h : At H enc z v xs) (e : Hx H H') : At H' enc z v xs := by
 rcases h with h | ⟨b, o, c, l, h1, h2, h3⟩
 ·exact .inl h
 ·exact .inr ⟨b, o, c, l, h1, e.cells h2, h3⟩
theorem At.left {L : LH} (h : At H enc z v xs) : At (H ++ L) enc z v xs := h.ext Hx.app
theorem Own.at {fl : Nat} (h : Own fl H enc z v xs) (hz : ∀ x, (enc x).length = z) : At H enc z v xs := by
 rcases h with h | ⟨b, h1, h2, _⟩
 ·exact .inl h
 ·refine .inr ⟨b, 0, _, _, h1, h2, ?_, ?_⟩
  ·rw [Ak hz]; omega
  ·rw [List.drop_zero, List.take_of_length_le (by rw [Ak hz]; exact Nat.le_refl _)]
theorem Own.ext {fl : Nat} {H' : LH} (h : Own fl H enc z v xs) (e : Hx H H') : Own fl H' enc z v xs := by
 rcases h with h | ⟨b, h1, h2, h3⟩
 ·exact .inl h
 ·exact .inr ⟨b, h1, e.cells h2, h3⟩
theorem At.cells (h : At H enc z v xs) : AW H v = some (rows enc xs) := by
 rcases h with ⟨rfl, rfl | rfl⟩ | ⟨b, o, c, l, rfl, h1, h2, h3⟩
 ·rfl
 ·rfl
 ·simp only [AW, h1, Fh, cut, grd, h2, if_true, h3]
theorem At.set (h : At H enc z v xs) {b : Nat} {x : Blk} (hb : ∀ c o n m, v = .sl c o z n m → c ≠ b) : At (H.set b x) enc z v xs := by
 rcases h with h | ⟨b', o, c, l, h1, h2, h3, h4⟩
 ·exact .inl h
 ·exact .inr ⟨b', o, c, l, h1, by rw [A0 (fun e => hb _ _ _ _ h1 e.symm)]; exact h2, h3, h4⟩
theorem At.new {L : LH} (hz : ∀ x, (enc x).length = z) : At (H ++ .cells (rows enc xs) :: L) enc z (.sl H.length 0 z xs.length xs.length) xs :=
 .inr ⟨H.length, 0, _, _, rfl, by rw [A7]; rfl, by rw [Ak hz]; omega, by rw [List.drop_zero, List.take_of_length_le (by rw [Ak hz]; exact Nat.le_refl _)]⟩
theorem At.isTup (h : At H enc z v xs) : v.isTup = false := by
 rcases h with ⟨_, rfl | rfl⟩ | ⟨b, o, c, l, rfl, _⟩ <;> rfl
theorem At.one (h : At H enc z v xs) : v.cells = [v] := by
 rcases h with ⟨_, rfl | rfl⟩ | ⟨b, o, c, l, rfl, _⟩ <;> rfl
theorem At.len (h : At H enc z v xs) (K : LH) : lenV K v = some xs.length := by
 rcases h with ⟨rfl, rfl | rfl⟩ | ⟨b, o, c, l, rfl, _⟩ <;> rfl
theorem At.lenOk (h : At H enc z v xs) {T : TypeId → Option TI} {t : TypeId} {s b : Nat} {e : TypeId} {zz : Option V} (hT : T t = some ⟨s, b, .slice e, zz⟩) : lenOk T t v = true := by
 rcases h with ⟨rfl, rfl | rfl⟩ | ⟨b, o, c, l, rfl, _⟩ <;> simp only [Lg.lenOk, hT]
theorem At.idx (h : At H enc z v xs) {T : TypeId → Option TI} {t : TypeId} (hT : AC (Av T t) = some z) (k : IntKind) (n : Int) (h0 : 0 ≤ n) (h1 : n < (xs.length : Int)) :
 DN T t v (.int k n) = some (.ptr (blkV v) (offV v + n.toNat * z)) := by
 rcases h with ⟨rfl, _⟩ | ⟨b, o, c, l, rfl, _⟩
 ·simp at h1; omega
 ·simp only [DN, grd, hT, if_true, h0, h1, and_self, blkV, offV]
def conV (H : LH) (v : V) : List V := (H.cellsAt (blkV v)).getD []
theorem At.con (h : At H enc z v xs) (h1 : 0 < xs.length) : H.cellsAt (blkV v) = some (conV H v) := by
 rcases h with ⟨rfl, _⟩ | ⟨b, o, c, l, rfl, hb, _⟩
 ·simp at h1
 ·simp only [blkV, conV, hb, Option.getD_some]
theorem At.blk (h : At H enc z v xs) (h1 : 0 < xs.length) : blkV v < H.length := A5 (h.con h1)
theorem Uf {l : List V} {o n z i j m : Nat} (hl : o + n * z ≤ l.length) (hi : i < n) (hj : j + m ≤ z) : (((l.drop o).take (n * z)).drop (i * z + j)).take m = (l.drop (o + i * z + j)).take m := by
 have h1 : (i + 1) * z ≤ n * z := Nat.mul_le_mul_right _ hi
 rw [Nat.succ_mul] at h1
 rw [List.drop_take, List.take_take, List.drop_drop, Nat.min_eq_left (by omega), Nat.add_assoc]
theorem At.row (h : At H enc z v xs) (hz : ∀ x, (enc x).length = z) {i : Nat} (hi : i < xs.length) :
 offV v + i * z + z ≤ (conV H v).length ∧ ((conV H v).drop (offV v + i * z)).take z = enc xs[i] := by
 rcases h with ⟨rfl, _⟩ | ⟨b, o, c, l, rfl, hb, hl, hr⟩
 ·simp at hi
 ·have h1 : (i + 1) * z ≤ xs.length * z := Nat.mul_le_mul_right _ hi
  rw [Nat.succ_mul] at h1
  have e : conV H (V.sl b o z xs.length c) = l := by simp only [conV, blkV, hb, Option.getD_some]
  rw [e]
  simp only [offV]
  refine ⟨by omega, ?_⟩
  have hc := Uf (z := z) (j := 0) (m := z) hl hi (by omega)
  rw [Nat.add_zero, Nat.add_zero] at hc
  rw [← SL hz hi, ← hr, ← hc]
theorem At.load (h : At H enc z v xs) (hz : ∀ x, (enc x).length = z) {i : Nat} (hi : i < xs.length) (K : LH) : BF K true (offV v + i * z) z (some (conV H v)) = some (.agg (enc xs[i]), K) := by
 obtain ⟨h1, h2⟩ := h.row hz hi
 simp only [BF, grd, h1, if_true, h2]
theorem At.loadF (h : At H enc z v xs) (hz : ∀ x, (enc x).length = z) {i j : Nat} (hi : i < xs.length) (hj : j < z) (n : Nat) (K : LH) :
 BF K false (offV v + i * z + j) n (some (conV H v)) = some ((enc xs[i])[j]'(by rw [hz]; exact hj), K) := by
 obtain ⟨h1, h2⟩ := h.row hz hi
 have e : (conV H v)[offV v + i * z + j]? = some ((enc xs[i])[j]'(by rw [hz]; exact hj)) := by
  have e2 : (enc xs[i])[j]? = some ((enc xs[i])[j]'(by rw [hz]; exact hj)) := List.getElem?_eq_getElem _
  rw [← e2, ← h2, List.getElem?_take, if_pos hj, List.getElem?_drop]
 simp only [BF, e]
end
theorem Bp {α : Type} {xs : List α} {i : Nat} (hi : i < xs.length) (d : α) : xs.getD i d = xs[i] := by
 rw [List.getD_eq_getElem?_getD, List.getElem?_eq_getElem hi, Option.getD_some]
section
variable {α : Type} {enc : α → List V} {z : Nat} {H : LH} {v : V} {xs : List α}
theorem At.loadD (h : At H enc z v xs) (hz : ∀ x, (enc x).length = z) (d : α) (i : Nat) (hi : i < xs.length) (K : LH) : BF K true (offV v + i * z) z (some (conV H v)) = some (.agg (enc (xs.getD i d)), K) := by
 rw [Bp hi, h.load hz hi]
theorem At.loadDF (h : At H enc z v xs) (hz : ∀ x, (enc x).length = z) (d : α) (w : α → V) {j : Nat} (hw : ∀ x, (enc x)[j]? = some (w x)) (i : Nat) (hi : i < xs.length) (n : Nat) (K : LH) :
 BF K false (offV v + i * z + j) n (some (conV H v)) = some (w (xs.getD i d), K) := by
 have hj : j < z := by
  have := (List.getElem?_eq_some_iff.1 (hw d)).1
  rw [hz] at this; exact this
 rw [h.loadF hz hi hj, Bp hi]
 have := hw xs[i]
 rw [List.getElem?_eq_getElem (by rw [hz]; exact hj)] at this
 injection this with this
 rw [this]
theorem At.loadD0 (h : At H enc z v xs) (hz : ∀ x, (enc x).length = z) (d : α) (w : α → V) (hw : ∀ x, (enc x)[0]? = some (w x)) (i : Nat) (hi : i < xs.length) (n : Nat) (K : LH) :
 BF K false (offV v + i * z) n (some (conV H v)) = some (w (xs.getD i d), K) := by
 have := h.loadDF hz d w (j := 0) hw i hi n K
 simpa using this
theorem At.load1 (h : At H enc 1 v xs) (d : α) (w : α → V) (hw : ∀ x, enc x = [w x]) (i : Nat) (hi : i < xs.length) (n : Nat) (K : LH) :
 BF K false (offV v + i) n (some (conV H v)) = some (w (xs.getD i d), K) := by
 have := h.loadDF (fun x => by rw [hw]; rfl) d w (j := 0) (fun x => by rw [hw]; rfl) i hi n K
 simpa using this
theorem QG (hz : ∀ x, (enc x).length = z) {j : Nat} {ws : List V} (d : α) (i : Nat) (hi : i < xs.length) (hj : j + ws.length ≤ z) (y : α) (hy : enc y = Bw (enc (xs.getD i d)) j ws) :
 Bw (rows enc xs) (i * z + j) ws = rows enc (xs.set i y) := SK hz hi hj y (by rw [hy, Bp hi])
end
section
variable {α : Type} {enc : α → List V} {z fl : Nat} {H : LH} {v : V} {xs : List α}
theorem Own.setNe (h : Own fl H enc z v xs) {b : Nat} {x : Blk} (hb : b < fl) : Own fl (H.set b x) enc z v xs := by
 rcases h with h | ⟨b', h1, h2, h3⟩
 ·exact .inl h
 ·exact .inr ⟨b', h1, by rw [A0 (by omega)]; exact h2, h3⟩
theorem Own.nil (h : Own fl H enc z v xs) (e : v = .nilsl ∨ v = .emp) : xs = [] := by
 rcases h with ⟨h, _⟩ | ⟨b, rfl, _⟩
 ·exact h
 ·rcases e with e | e <;> cases e
theorem Own.down {fl' : Nat} (h : Own fl H enc z v xs) (e : fl' ≤ fl) : Own fl' H enc z v xs := by
 rcases h with h | ⟨b', h1, h2, h3⟩
 ·exact .inl h
 ·exact .inr ⟨b', h1, h2, by omega⟩
theorem Own.new {L : LH} : Own H.length (H ++ .cells (rows enc xs) :: L) enc z (.sl H.length 0 z xs.length xs.length) xs :=
 .inr ⟨H.length, rfl, by rw [A7]; rfl, Nat.le_refl _⟩
end
theorem Ru {off b o : Nat} : addO off (.ptr b o) = some (.ptr b (o + off)) := rfl
theorem OB {off b o : Nat} : addO off (.gptr b o) = some (.gptr b (o + off)) := rfl
theorem PY {T : TypeId → Option TI} {t : TypeId} {b o z len c : Nat} {k : IntKind} {n : Int} :
 DN T t (.sl b o z len c) (.int k n) = grd (AC (Av T t) = some z) (grd (0 ≤ n ∧ n < (len : Int)) (some (.ptr b (o + n.toNat * z)))) := rfl
theorem NE {T : TypeId → Option TI} {t : TypeId} {b o : Nat} {k : IntKind} {n : Int} :
 DN T t (.ptr b o) (.int k n) = (match T t with | some ⟨_, _, .array len e, _⟩ => atO .ptr o len n b (AC (T e)) | _ => none) := rfl
theorem L4 {T : TypeId → Option TI} {t : TypeId} {b o : Nat} {k : IntKind} {n : Int} :
 DN T t (.gptr b o) (.int k n) = (match T t with | some ⟨_, _, .array len e, _⟩ => atO .gptr o len n b (AC (T e)) | _ => none) := rfl
theorem Qh {G : Nat → Option (List V)} {H : LH} {g : Bool} {n b o : Nat} : Gi G H g n (.ptr b o) = BF H g o n (H.cellsAt b) := rfl
theorem NR {G : Nat → Option (List V)} {H : LH} {g : Bool} {n b o : Nat} : Gi G H g n (.gptr b o) = BF H g o n (G b) := rfl
theorem Uc {H : LH} {o n : Nat} {cs : List V} : BF H true o n (some cs) = grd (o + n ≤ cs.length) (some (.agg ((cs.drop o).take n), H)) := rfl
theorem Ub {H : LH} {o n : Nat} {cs : List V} : BF H false o n (some cs) = (match cs[o]? with | some v => some (v, H) | none => none) := rfl
theorem Og {fl : Nat} {H : LH} {n b o : Nat} {v : V} : HJ fl H n v (.ptr b o) = GM fl H b o n v (H.cellsAt b) := rfl
theorem Of {s : ByteArray} {lo hi : Option V} : BN (.str s) lo hi = cutS s (hiV s.size s.size hi) (hiV 0 s.size lo) := rfl
theorem Kn {b o z n c : Nat} {lo hi : Option V} : BN (.sl b o z n c) lo hi = cutL b o z c (hiV n c hi) (hiV 0 c lo) := rfl
theorem Km {lo hi : Option V} : BN .nilsl lo hi = cutN (hiV 0 0 hi) (hiV 0 0 lo) := rfl
theorem Oe {lo hi : Option V} : BN .emp lo hi = cutE (hiV 0 0 hi) (hiV 0 0 lo) := rfl
theorem LI {T : TypeId → Option TI} {t : TypeId} {s : ByteArray} : Bh T t (.str s) = (match T t with | some ⟨_, _, .str, _⟩ => true | _ => false) := rfl
theorem HI {T : TypeId → Option TI} {t : TypeId} {b o z n c : Nat} : Bh T t (.sl b o z n c) = (AC (Av T t) == some z) := rfl
theorem IU {T : TypeId → Option TI} {t : TypeId} : Bh T t .nilsl = (Av T t).isSome := rfl
theorem LG {T : TypeId → Option TI} {t : TypeId} : Bh T t .emp = (Av T t).isSome := rfl
theorem Eb {fl z bytes : Nat} {H : LH} {m : Nat} {new : List V} : AB fl z bytes H m new .nilsl = if m = 0 then some (.nilsl, H) else grd (m * bytes ≤ Aj) (some (.sl H.length 0 z m m, H ++ [.cells new])) := rfl
theorem G3 {fl z bytes : Nat} {H : LH} {m : Nat} {new : List V} : AB fl z bytes H m new .emp = if m = 0 then some (.emp, H) else grd (m * bytes ≤ Aj) (some (.sl H.length 0 z m m, H ++ [.cells new])) := rfl
theorem Hc {fl z bytes : Nat} {H : LH} {m : Nat} {new : List V} {b o z' n c : Nat} : AB fl z bytes H m new (.sl b o z' n c) = grd (z' = z) (if m = 0 then some (.sl b o z n c, H) else appO fl bytes H b o z n c m new (H.cellsAt b)) := rfl
theorem RE {call : FuncId → List V → Nat → LH → Option (V × LH)} {fl : Nat} {H : LH} {f : FuncId} {caps vs : List V} : HY call fl H (.fn f caps) (some vs) = call f (vs ++ caps) fl H := rfl
theorem Vj {p : Prop} [Decidable p] {v : V} (h : p) : selV (decide p) v = v := by rw [decide_eq_true h]; rfl
theorem Q8 {α : Type} {b c d : Prop} {x y u v : α} {s : Decidable b} [Decidable c] {d' : Nat} (h0 : dumA = d') (h1 : b = c) (h4 : (¬ c) = d) (h2 : c → x = u) (h3 : d → y = v) : ite b x y = ite c u v := by
 subst h4; exact ite_congr h1 h2 h3
theorem KD {a b : Bool} : ((a || b) = false) = (a = false ∧ b = false) := by simp
theorem J8 {a b : Bool} : ((a && b) = false) = (a = false ∨ b = false) := by cases a <;> simp
theorem J9 {a : Bool} : ((!a) = false) = (a = true) := by cases a <;> simp
theorem Nh {b : Bool} : ((b == false) = true) = (b = false) := by cases b <;> simp
theorem OL {b : Bool} : ((b == true) = true) = (b = true) := by cases b <;> simp
theorem MX {α : Type} {enc : α → List V} {P : α → Prop} {S : List V → Prop} (he : ∀ cs, S cs → ∃ x, cs = enc x ∧ P x) : ∀ {ps : List (List V)}, (∀ p ∈ ps, S p) → ∃ xs : List α, ps.length = xs.length ∧ List.flatten ps = rows enc xs ∧ ∀ x ∈ xs, P x
 | [], _ => ⟨[], rfl, rfl, by simp⟩
 | p :: ps, h => by
   obtain ⟨x, hx, px⟩ := he p (h p (by simp))
   obtain ⟨xs, h1, h2, h3⟩ := MX he (ps := ps) (fun q hq => h q (List.mem_cons_of_mem _ hq))
   refine ⟨x :: xs, by simp [h1], by rw [List.flatten_cons, h2, hx, Gv], ?_⟩
   intro y hy
   rcases List.mem_cons.1 hy with hy | hy
   ·subst hy; exact px
   ·exact h3 y hy
theorem R1 {α : Type} {enc : α → List V} {P : α → Prop} {z n : Nat} {T : TypeId → Option TI} {t e : TypeId} {s b : Nat} {zz : Option V} {H : LH} {v : V} (hT : T t = some ⟨s, b, .slice e, zz⟩)
 (hs : AC (T e) = some z) (hz : ∀ x, (enc x).length = z) (he : ∀ cs, Shp T n e H cs → ∃ x, cs = enc x ∧ P x) (h : Shp T (n + 1) t H [v]) : ∃ xs : List α, At H enc z v xs ∧ xs.length ≤ 9223372036854775807 ∧ ∀ x ∈ xs, P x := by
 unfold Shp at h
 rw [hT] at h
 rcases h with h | h | ⟨b, z', len, cap, ps, h1, h2, h3, h4, h5, h6, h7, h8⟩
 ·injection h with h _
  exact ⟨[], .inl ⟨rfl, .inl h⟩, by simp, by simp⟩
 ·injection h with h _
  exact ⟨[], .inl ⟨rfl, .inr h⟩, by simp, by simp⟩
 ·injection h1 with h1 _
  rw [hs] at h2
  injection h2 with h2
  subst h2
  obtain ⟨xs, g1, g2, g3⟩ := MX he h8
  have hl : (xs.take len).length = len := by rw [List.length_take]; omega
  refine ⟨xs.take len, .inr ⟨b, 0, cap, _, by rw [hl]; exact h1, h3, ?_, ?_⟩, by omega, fun x hx => g3 x (List.mem_of_mem_take hx)⟩
  ·rw [hl, g2, Ak hz, Nat.zero_add]; exact Nat.mul_le_mul_right _ (by omega)
  ·rw [hl, g2, List.drop_zero, Gw hz]
attribute [go_sem] Ru OB PY NE L4 Qh NR Og Of Kn Km Oe LI HI IU LG Eb G3 Hc RE Rs List.set_set beq_self_eq_true L0 appO ite_not not_or Int.not_lt Int.not_le Bool.not_eq_true Bool.not_eq_false KD J8 J9 Nh OL Bool.true_eq_false Bool.false_eq_true
attribute [go_sem low] Uc Ub Vj
attribute [congr] VI Q8
abbrev bs (s : ByteArray) : List UInt8 := s.data.toList
theorem C6 (s : ByteArray) : (bs s).length = s.size := rfl
def bA (s : ByteArray) (p : Int) : Int := if 0 ≤ p ∧ p < (s.size : Int) then (((bs s).getD p.toNat 0).toNat : Int) else -1
theorem D9 (s : ByteArray) (p : Int) : bA s p ≤ 255 := by
 unfold bA
 split
 ·have := ((bs s).getD p.toNat 0).toNat_lt; omega
 ·omega
theorem OJ (s : ByteArray) (p : Int) : -1 ≤ bA s p := by
 unfold bA
 split <;> omega
theorem J6 {s : ByteArray} {p : Int} (h : 0 ≤ p) (h2 : p < (s.size : Int)) : 0 ≤ bA s p := by
 unfold bA
 rw [if_pos ⟨h, h2⟩]; omega
theorem B3 {s : ByteArray} {p : Int} (h2 : (s.size : Int) ≤ p) : bA s p = -1 := by
 unfold bA
 rw [if_neg (by omega)]
theorem Bn {s : ByteArray} {i : Nat} (h : i < s.size) : bA s (i : Int) = ((bs s)[i].toNat : Int) := by
 unfold bA
 rw [if_pos (by omega), Int.toNat_natCast, Bp (by exact h)]
theorem RB {s : ByteArray} {n : Int} (h : 0 ≤ n) (h2 : n < (s.size : Int)) : Nm s n = .int .u8 (bA s n) := by
 unfold Nm bA
 rw [if_pos ⟨h, h2⟩]
theorem U1 {s : ByteArray} {n : Int} : IntKind.wrap .i64 (bA s n) = bA s n := by
 have h1 := OJ s n
 have h2 := D9 s n
 exact IntWalk.i64_in _ (by omega)
theorem OY {l : List UInt8} {n : Int} : Nm ⟨l.toArray⟩ n = .int .u8 ((l.getD n.toNat 0).toNat : Int) := rfl
def byC (b : UInt8) : List V := [.int .u8 b.toNat]
theorem Ab (b : UInt8) : (byC b).length = 1 := rfl
theorem KE (s : ByteArray) : D6 s = rows byC (bs s) := by
 unfold D6 bs
 generalize s.data.toList = l
 induction l with
 | nil => rfl
 | cons b l ih => rw [List.map_cons, ih]; rfl
theorem Am (l : List UInt8) : E7 (rows byC l) = some l := by
 induction l with
 | nil => rfl
 | cons b l ih =>
   show (match E7 (rows byC l) with | some r => some (UInt8.ofNat (Int.toNat (b.toNat : Int)) :: r) | none => none) = _
   rw [ih]
   simp
theorem At.str {T : TypeId → Option TI} {fl : Nat} {H : LH} {s d e : TypeId} {v : V} {l : List UInt8} (h : At H byC 1 v l) {a b a' b' a2 b2 : Nat} {z z' z2 : Option V} (h1 : T s = some ⟨a, b, .slice e, z⟩) (h2 : T d = some ⟨a', b', .str, z'⟩)
 (h3 : T e = some ⟨a2, b2, .int .u8, z2⟩) : DJ T fl H s d v = some (.str ⟨l.toArray⟩, H) := by
 have hc := h.cells
 rcases h with ⟨rfl, rfl | rfl⟩ | ⟨b, o, c, l', rfl, _⟩
 ·simp only [DJ, h1, h2, h3]
 ·simp only [DJ, h1, h2, h3]
 ·simp only [DJ, h1, h2, h3, hc, He, Am, strO, grd, if_true]
theorem Db (H L : LH) (b i : Nat) (x : Blk) : LH.cellsAt (H.set b x ++ L) (H.length + i) = LH.cellsAt L i := by
 have := Bd (H.set b x) L i
 rwa [List.length_set] at this
theorem HZ (H L : LH) (b : Nat) (x : Blk) : LH.cellsAt (H.set b x ++ L) H.length = LH.cellsAt L 0 := Db H L b 0 x
theorem MW (H L : LH) (b i : Nat) (x y : Blk) : (H.set b x ++ L).set (H.length + i) y = H.set b x ++ L.set i y := by
 have := QX (H.set b x) L i y
 rwa [List.length_set] at this
theorem QY (H L : LH) (b : Nat) (x y : Blk) : (H.set b x ++ L).set H.length y = H.set b x ++ L.set 0 y := MW H L b 0 x y
theorem AQ {α : Type} {enc : α → List V} {z : Nat} (hz : ∀ x, (enc x).length = z) {xs : List α} {n : Nat} (h : n = xs.length * z) : (rows enc xs).take n = rows enc xs :=
 List.take_of_length_le (by rw [Ak hz]; omega)
theorem UU (a b : List UInt8) : (⟨(a ++ b).toArray⟩ : ByteArray) = ⟨a.toArray⟩ ++ ⟨b.toArray⟩ := by
 apply ByteArray.ext
 simp [ByteArray.data_append]
theorem WO (l : List UInt8) : bs ⟨l.toArray⟩ = l := by simp [bs]
theorem Wc (s : ByteArray) : (⟨(bs s).toArray⟩ : ByteArray) = s := by simp [bs]
theorem TQ {P : Program} {C : Cfg} {ok : FuncId → Bool} {f : FuncId} {fn : Func} (hf : P.funcs[f]? = some fn) (hb : fn.body = none) (args : List V) (fl : Nat) (H : LH) : Run P C ok f args fl H = ext P fn args H := by
 rw [Oy]
 simp only [Ar, hf, hb]
theorem Oz {P : Program} {C : Cfg} {ok : FuncId → Bool} {f : FuncId} {fn : Func} (hf : P.funcs[f]? = some fn) (hb : fn.body.isSome = true) (ho : ok f = false) (args : List V) (fl : Nat) (H : LH) : Run P C ok f args fl H = F0 C f args H := by
 rw [Oy]
 cases hc : fn.body with
 | none => rw [hc] at hb; cases hb
 | some c =>
   simp only [Ar, hf, hc]
   rw [if_neg (by rw [ho]; exact Bool.false_ne_true)]
theorem Sj {s : ByteArray} {c : UInt8} {i : Nat} (h : (List.range s.size).find? (fun i => s[i]! == c) = some i) : i < s.size ∧ bA s i = (c.toNat : Int) ∧ ∀ j : Nat, j < i → bA s j ≠ (c.toNat : Int) := by
 rw [List.find?_range_eq_some] at h
 obtain ⟨h1, h2, h3⟩ := h
 have hi : i < s.size := List.mem_range.1 h2
 have key : ∀ j (hj : j < s.size), bA s (j : Int) = ((s[j]! : UInt8).toNat : Int) := by
  intro j hj
  rw [Bn hj, getElem!_pos s j hj]
  rfl
 refine ⟨hi, ?_, fun j hj => ?_⟩
 ·rw [key i hi, beq_iff_eq.1 h1]
 ·rw [key j (by omega)]
  have := h3 j hj
  intro e
  have e2 : (s[j]! : UInt8) = c := UInt8.toNat_inj.1 (by omega)
  rw [e2] at this
  simp at this
theorem Sk {s : ByteArray} {c : UInt8} (h : (List.range s.size).find? (fun i => s[i]! == c) = none) : ∀ j : Nat, j < s.size → bA s j ≠ (c.toNat : Int) := by
 intro j hj e
 rw [List.find?_eq_none] at h
 have := h j (List.mem_range.2 hj)
 rw [Bn hj] at e
 have e2 : (s[j]! : UInt8) = c := UInt8.toNat_inj.1 (by rw [getElem!_pos s j hj]; have : (s[j] : UInt8) = (bs s)[j] := rfl; rw [this]; omega)
 rw [e2] at this
 simp at this
theorem Ik (s : ByteArray) (c : UInt8) : (idxB s c = -1 ∧ ∀ j : Nat, j < s.size → bA s j ≠ (c.toNat : Int)) ∨
 ∃ i : Nat, idxB s c = i ∧ i < s.size ∧ bA s i = (c.toNat : Int) ∧ ∀ j : Nat, j < i → bA s j ≠ (c.toNat : Int) := by
 unfold idxB
 cases h : (List.range s.size).find? fun i => s[i]! == c with
 | none => exact .inl ⟨rfl, Sk h⟩
 | some i => exact .inr ⟨i, rfl, Sj h⟩
theorem Oi {a b : Int} (h : a ≤ b) : (a.toNat ≤ b.toNat) = True := eq_true (Int.toNat_le_toNat h)
theorem Re {a : Int} {n : Nat} (h : a ≤ (n : Int)) : (a.toNat ≤ n) = True := eq_true (by omega)
theorem W7 {c : Prop} [Decidable c] {b : Bool} : ((if c then false else b) = true) = (¬ c ∧ b = true) := by by_cases h : c <;> simp [h]
theorem W8 {c : Prop} [Decidable c] {b : Bool} : ((if c then true else b) = true) = (c ∨ b = true) := by by_cases h : c <;> simp [h]
theorem W5 {c : Prop} [Decidable c] {b : Bool} : ((if c then b else false) = true) = (c ∧ b = true) := by by_cases h : c <;> simp [h]
theorem W6 {c : Prop} [Decidable c] {b : Bool} : ((if c then b else true) = true) = (¬ c ∨ b = true) := by by_cases h : c <;> simp [h]
theorem SC {n m : Nat} : (n + (m + 1) ≤ n) = False := by simp
theorem QF {l : List UInt8} {a b : UInt8} : rows byC (l ++ [a, b]) = rows byC l ++ [.int .u8 a.toNat, .int .u8 b.toNat] := by rw [DC]; rfl
attribute [go_sem high] OY
theorem Rx {k : Nat → Nat → V} {o len : Nat} {n : Int} {b z : Nat} : atO k o len n b (some z) = grd (0 ≤ n ∧ n < (len : Int)) (some (k b (o + n.toNat * z))) := rfl
attribute [go_sem] Rx W7 W8 W5 W6 Oi Re Nat.zero_le List.getD_cons_zero List.getD_cons_succ Option.isSome_some RB U1 KE Db HZ MW QY List.length_set
def u8s (l : List Int) : List V := l.map (V.int .u8)
theorem Vr {l : List Int} {i : Nat} {v : V} (h : (u8s l)[i]? = some v) : ∃ n, l[i]? = some n ∧ v = .int .u8 n := by
 unfold u8s at h
 rw [List.getElem?_map] at h
 cases e : l[i]? with
 | none => rw [e] at h; cases h
 | some n => rw [e] at h; injection h with h; exact ⟨n, rfl, h.symm⟩
theorem TG (l : List Int) : ∀ c ∈ u8s l, V.lt 0 c := by
 intro c hc
 unfold u8s at hc
 obtain ⟨n, _, rfl⟩ := List.mem_map.1 hc
 simp only [V.lt]
def Td (w : World) (g : Nat) (cs : List V) : Prop := ∃ c T fz, w.heap[g]? = some (.cells c T fz) ∧ cs.length ≤ c.size ∧ ∀ (i : Nat) (v : V), cs[i]? = some v → v.isScal = true ∧ ∃ u, c[i]? = some u ∧ ∀ φ w, VR φ w v u
section
variable {D : Type} {enc : TypeId × Value → D} {P : Program} {w : World}
theorem PK {n : String} {g : Nat} {cs : Array Value} {l : List Int} (hg : P.globalNamed n = some g) (hv : w.var? P n = some cs) (h : ∀ (i : Nat) (z : Int), l[i]? = some z → cs[i]? = some (Value.int .u8 z)) (hl : l.length ≤ cs.size) : Td w g (u8s l) := by
 simp only [World.var?, hg, Option.bind_some] at hv
 split at hv
 ·rename_i c T fz hc
  injection hv with hv
  subst hv
  refine ⟨c, T, fz, hc, by simpa [u8s] using hl, fun i v hi => ?_⟩
  obtain ⟨z, hz, rfl⟩ := Vr hi
  exact ⟨rfl, _, h i z hz, fun φ w => by simp only [VR]⟩
 ·cases hv
theorem VK {base : Nat} {spare : Nat → Bool} {held : Bool} {fuel n : Nat} {t e : TypeId} {cs : List Value} {l : List Int} {p : List MemPlace} (ht : P.underlying t = some (.array n e)) (he : P.underlying e = some (.int .u8)) (hc : P.cellsOf e = 1)
 (h : DataW.trod enc P w base spare held fuel t cs = some (.agg (l.map fun z => .lit (.int .u8 z)), p)) : ∀ (i : Nat) (z : Int), l[i]? = some z → cs[i]? = some (Value.int .u8 z) := by
 obtain ⟨xs, m, _, ex, _, hl, hel⟩ := DataW.trod_array ht h
 intro i z hi
 have e3 : xs.map (·.1) = l.map fun z => .lit (.int .u8 z) := (DataW.agg.inj (Prod.mk.inj ex).1).symm
 have hlen : xs.length = l.length := by simpa using congrArg List.length e3
 have hil : i < l.length := (List.getElem?_eq_some_iff.1 hi).1
 have hE := hel i (by omega)
 rw [hc, Nat.mul_one, List.getElem?_eq_getElem (by omega)] at hE
 obtain ⟨y, e1, e2, _⟩ := DataW.trod_int he hE
 have e4 : (xs.map (·.1))[i]? = (l.map fun z => (DataW.lit (.int .u8 z) : DataW D))[i]? := by rw [e3]
 rw [List.getElem?_map, List.getElem?_map, List.getElem?_eq_getElem (by omega : i < xs.length), hi, e2] at e4
 simp only [Option.map_some, Option.some.injEq, DataW.lit.injEq, Lit.int.injEq, true_and] at e4
 subst e4
 have h0 : ((cs.drop i).take 1)[0]? = some (.int .u8 y) := by rw [e1]; rfl
 simpa using h0
def D7 : List (Int × Int) → List Int
 | [] => []
 | (a, b) :: l => a :: b :: D7 l
theorem Jn : ∀ {l : List (Int × Int)} {i : Nat} {z : Int}, (D7 l)[i]? = some z → ∃ x, l[i / 2]? = some x ∧ ((i % 2 = 0 ∧ z = x.1) ∨ (i % 2 = 1 ∧ z = x.2))
 | [], i, z, h => by simp [D7] at h
 | (a, b) :: l, 0, z, h => by simp [D7] at h; exact ⟨(a, b), rfl, .inl ⟨rfl, h.symm⟩⟩
 | (a, b) :: l, 1, z, h => by simp [D7] at h; exact ⟨(a, b), rfl, .inr ⟨rfl, h.symm⟩⟩
 | (a, b) :: l, i + 2, z, h => by
   simp only [D7, List.getElem?_cons_succ] at h
   obtain ⟨x, h1, h2⟩ := Jn h
   refine ⟨x, ?_, ?_⟩
   ·rw [show (i + 2) / 2 = i / 2 + 1 by omega, List.getElem?_cons_succ]; exact h1
   ·rw [show (i + 2) % 2 = i % 2 by omega]; exact h2
theorem Rw {base : Nat} {spare : Nat → Bool} {held : Bool} {fuel n : Nat} {t e b : TypeId} {fs : Array Field} {f0 f1 : Field} {cs : List Value} {l : List (Int × Int)} {p : List MemPlace} (ht : P.underlying t = some (.array n e)) (he : P.underlying e = some (.struct fs)) (hfs : fs = #[f0, f1])
 (ho0 : f0.offset = 0) (ho1 : f1.offset = 1) (ht0 : f0.type = b) (ht1 : f1.type = b) (hb : P.underlying b = some (.int .u8)) (hcb : P.cellsOf b = 1) (hc : P.cellsOf e = 2)
 (h : DataW.trod enc P w base spare held fuel t cs = some (.agg (l.map fun z => .agg [.lit (.int .u8 z.1), .lit (.int .u8 z.2)]), p)) : ∀ (i : Nat) (z : Int), (D7 l)[i]? = some z → cs[i]? = some (Value.int .u8 z) := by
 obtain ⟨xs, m, _, ex, _, hl, hel⟩ := DataW.trod_array ht h
 intro i z hi
 obtain ⟨x, hx, hz⟩ := Jn hi
 have e3 : xs.map (·.1) = l.map fun z => .agg [.lit (.int .u8 z.1), .lit (.int .u8 z.2)] := (DataW.agg.inj (Prod.mk.inj ex).1).symm
 have hlen : xs.length = l.length := by simpa using congrArg List.length e3
 have hil : i / 2 < l.length := (List.getElem?_eq_some_iff.1 hx).1
 have hE := hel (i / 2) (by omega)
 rw [hc, List.getElem?_eq_getElem (by omega)] at hE
 obtain ⟨ys, k, _, ey, _, hyl, hey⟩ := DataW.trod_struct he hE
 have e4 : (xs.map (·.1))[i / 2]? = (l.map fun z => (DataW.agg [.lit (.int .u8 z.1), .lit (.int .u8 z.2)] : DataW D))[i / 2]? := by rw [e3]
 rw [List.getElem?_map, List.getElem?_map, List.getElem?_eq_getElem (by omega : i / 2 < xs.length), hx, ey] at e4
 simp only [Option.map_some, Option.some.injEq, DataW.agg.injEq] at e4
 subst hfs
 have hyl : ys.length = 2 := hyl
 match ys, hyl, e4 with
 | [y0, y1], _, e4 =>
   simp only [List.map_cons, List.map_nil, List.cons.injEq, and_true] at e4
   have h0 := hey 0 f0 rfl
   have h1 := hey 1 f1 rfl
   rw [ho0, ht0, hcb] at h0
   rw [ho1, ht1, hcb] at h1
   obtain ⟨n0, a1, a2, _⟩ := DataW.trod_int hb h0
   obtain ⟨n1, b1, b2, _⟩ := DataW.trod_int hb h1
   rw [a2, b2] at e4
   simp only [DataW.lit.injEq, Lit.int.injEq, true_and] at e4
   obtain ⟨e5, e6⟩ := e4
   subst e5; subst e6
   have c0 : cs[i / 2 * 2]? = some (.int .u8 x.1) := by
    have h0 : ((((cs.drop (i / 2 * 2)).take 2).drop 0).take 1)[0]? = some (.int .u8 x.1) := by rw [a1]; rfl
    simpa using h0
   have c1 : cs[i / 2 * 2 + 1]? = some (.int .u8 x.2) := by
    have h0 : ((((cs.drop (i / 2 * 2)).take 2).drop 1).take 1)[0]? = some (.int .u8 x.2) := by rw [b1]; rfl
    simpa [List.getElem?_take] using h0
   rcases hz with ⟨hm, rfl⟩ | ⟨hm, rfl⟩
   ·have : i = i / 2 * 2 := by omega
    rw [← this] at c0; exact c0
   ·have : i = i / 2 * 2 + 1 := by omega
    rw [← this] at c1; exact c1
end
theorem L7 {α : Type} {c : Prop} [Decidable c] {P : α → Prop} {a b : α} (ha : c → P a) (hb : ¬ c → P b) : P (if c then a else b) := by
 by_cases h : c
 ·rw [if_pos h]; exact ha h
 ·rw [if_neg h]; exact hb h
def B5 (H : LH) : V → LH
 | .sl b _ _ _ _ => H.set b .dead
 | _ => H
theorem Ca {H : LH} {v : V} : (B5 H v).length = H.length := by
 cases v <;> simp [B5]
section
variable {α : Type} {enc : α → List V} {z : Nat} {H : LH} {v : V} {xs : List α}
theorem OG {fl f0 : Nat} (h : Own f0 H enc z v xs) (hz : ∀ x, (enc x).length = z) (hf : fl ≤ f0) (ys : List α) (hy : 0 < ys.length) (bytes : Nat) (hb : (xs.length + ys.length) * bytes ≤ Aj) :
 AB fl z bytes H ys.length (rows enc ys) v = some (.sl H.length 0 z (xs.length + ys.length) (xs.length + ys.length), B5 H v ++ [.cells (rows enc (xs ++ ys))]) := by
 rcases h with ⟨rfl, rfl | rfl⟩ | ⟨b, rfl, hc, h2⟩
 ·rw [Eb, if_neg (by omega)]
  simp only [List.length_nil, Nat.zero_add] at hb ⊢
  simp only [grd, hb, if_true, List.nil_append, B5]
 ·rw [G3, if_neg (by omega)]
  simp only [List.length_nil, Nat.zero_add] at hb ⊢
  simp only [grd, hb, if_true, List.nil_append, B5]
 ·rw [Hc]
  have h3 : fl ≤ b := Nat.le_trans hf h2
  have hl : (rows enc xs).length = xs.length * z := Ak hz xs
  have hc2 : cut (rows enc xs) 0 (xs.length * z) = some (rows enc xs) := by
   simp only [cut, grd, hl, Nat.zero_add, Nat.le_refl, if_true, List.drop_zero]
   rw [List.take_of_length_le (by omega)]
  simp only [grd, if_true, appO, hc, hb, h3, and_self, L0, hc2, B5, DC]
  rw [if_neg (by omega), if_neg (by omega)]
theorem CR {fl f0 : Nat} (h : Own f0 H enc z v xs) (hz : ∀ x, (enc x).length = z) (hf : fl ≤ f0) (bytes : Nat) (hb : (xs.length + 1) * bytes ≤ Aj) (x : α) :
 AB fl z bytes H 1 (enc x) v = some (.sl H.length 0 z (xs.length + 1) (xs.length + 1), B5 H v ++ [.cells (rows enc (xs ++ [x]))]) := by
 have := OG h hz hf [x] (by simp) bytes (by simpa using hb)
 rwa [MP] at this
theorem D8 {f0 : Nat} (h : f0 ≤ H.length) (ys : List α) : Own f0 (B5 H v ++ [.cells (rows enc ys)]) enc z (.sl H.length 0 z ys.length ys.length) ys := by
 refine .inr ⟨H.length, rfl, ?_, h⟩
 have := A7 (B5 H v) [.cells (rows enc ys)]
 rw [Ca] at this
 rw [this]; rfl
theorem M1 {G L : LH} {f0 : Nat} (hx : Hx G H) (h : Own f0 H enc z v xs) (hf : G.length ≤ f0) : Hx G (B5 H v ++ L) := by
 rcases h with ⟨rfl, rfl | rfl⟩ | ⟨b, rfl, hc, h2⟩
 ·exact hx.trans Hx.app
 ·exact hx.trans Hx.app
 ·exact (hx.set (Nat.le_trans hf h2)).trans Hx.app
theorem Kz {f0 b : Nat} {l : List V} (hc : H.cellsAt b = some l) (h : Own f0 H enc z v xs) (hb : b < f0) (L : LH) : LH.cellsAt (B5 H v ++ L) b = some l := by
 rcases h with ⟨rfl, rfl | rfl⟩ | ⟨b2, rfl, hc2, h2⟩
 ·exact Ag hc
 ·exact Ag hc
 ·exact Ag (by rw [B5, A0 (by omega)]; exact hc)
end
end Go.Proofs.YthlbglmfdjdagaaGreatDoor.Lg
