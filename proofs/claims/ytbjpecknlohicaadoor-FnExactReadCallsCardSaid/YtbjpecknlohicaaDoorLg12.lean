/- The logical machine against the model: append, maps, builtins, put together. No condition. -/
import Derived.Test.YtbjpecknlohicaaDoorLg11
namespace Go.Proofs.YtbjpecknlohicaaDoor.Lg
set_option linter.unusedSimpArgs false
set_option linter.unusedVariables false
open Go.RowKit (Below)

section
variable {P : Program} {p : Par} {φ : Phi} {H : LH} {w : World}

theorem run_app_zero {t t' ty' : TypeId} {e : TypeId} {i : TypeInfo} {d' : TypeDesc} {base : Option Addr} {n c : Nat} {ux : Value} (hu : P.underlying t = some (.slice e)) (hi : P.info? e = some i)
    (ht' : P.underlying t' = some d') (hd : isIntD d' = false) (hm : (Builtin.lenOf ux).run P w = .ok 0 w) (hf : (Builtin.firstCells i.size 0 ux).run P w = .ok #[] w) (hfit : n ≤ c) :
    (Builtin.append_ #[t, t'] ty' #[.slice base n c, ux]).run P w = .ok (.slice base n c) w := by
  simp [Builtin.append_, run_underlying hu, run_underlying ht', sizeOf, typeInfo, hi, hm, hfit]
  split
  · simp [isIntD] at hd
  · cases base <;> simp [hf, storeCells]

set_option maxHeartbeats 2000000 in
theorem appV_ok {fl : Nat} {t t' ty' : TypeId} {s x v : V} {us ux : Value} {H' : LH} (h : HR p φ H w) (hR : p.R0 ≤ fl) (hfl : fl ≤ H.length) (nf : NoFloat φ H H') (hs : VR φ w s us) (hx : VR φ w x ux)
    (e : appV (ty P) fl t t' H s x = some (v, H')) : ∃ u w', (Builtin.append_ #[t, t'] ty' #[us, ux]).run P w = .ok u w' ∧ Res p fl φ H w v H' u w' := by
  have hRH : p.R0 ≤ H.length := Nat.le_trans hR hfl
  unfold appV at e
  split at e
  · rename_i z by' kd zv m new hel hm hnew
    replace e := grd_some e
    obtain ⟨⟨g1, g2, g3, g4, g5, g6'⟩, e⟩ := e
    obtain ⟨el, hu, hT⟩ := elemI_some hel
    obtain ⟨j, d, hi, hd, hj⟩ := ty_some hT
    injection hj with j1 j2 j3 j4
    obtain ⟨uz, hz, hzv⟩ := Option.bind_eq_some_iff.1 j4.symm
    have huz : uz.cells.size = z := by
      have := (VRs_iff.1 (VR_cells (VR_ofValue hzv φ w) g6').1).1
      rw [g5] at this; simp at this; exact this.symm
    have hzc : ∀ k, (Builtin.zeroCells uz.cells k).toList.length = k * z := fun k => by simp [Builtin.zeroCells, huz]
    obtain ⟨d', ht', hd'⟩ := intT_some g2
    obtain ⟨news, hlen, hfc, hnr, hns, hnl⟩ := src_ok (P := P) h hx g1 hm hnew
    have hfc' := hfc w.drawn
    rw [j1] at hfc hfc'
    unfold appendV at e
    split at e
    · -- nothing yet
      simp only [VR] at hs; subst hs
      split at e
      · rename_i hm0
        subst hm0
        injection e with e; injection e with e1 e2; subst e1; subst e2
        have : news = [] := List.eq_nil_of_length_eq_zero (by rw [hnl]; simp)
        subst this
        exact ⟨_, w, run_app_zero hu hi ht' hd' hlen hfc' (Nat.le_refl _), .same h (by simp only [VR])⟩
      · rename_i hm0
        replace e := grd_some e
        obtain ⟨hb, e⟩ := e
        injection e with e; injection e with e1 e2; subst e1; subst e2
        have hb1 : m ≤ mostCells := Nat.le_trans (by have := Nat.mul_le_mul_left m (show 1 ≤ by' by omega); simpa using this) hb
        obtain ⟨cap, hcap, hrun⟩ := run_app_grow (P := P) (w := w) (ty' := ty') (base := none) (n := 0) (c := 0) (olds := []) hu hi hz ht' hd' hlen hfc (fun k => rfl) (by omega) (by rw [Nat.zero_add, ← j2]; exact hb) (by omega)
        have h2 := h.drew (w.drawn + 1)
        obtain ⟨r1, r2⟩ := new_cells (fl := fl) h2 el hRH nf.new (hnr.mono (Ext.dr _)) hns (Builtin.zeroCells uz.cells (cap - (0 + m))).toList (0, 0) (fun i _ => by simp)
        refine ⟨_, _, hrun, _, ?_, r1, (Step.drew (w.drawn + 1)).trans r2 (nf.left (by simp))⟩
        simp only [VR]
        refine ⟨Nat.le_refl _, w.heap.size, 0, 0, cap, put_self _ _ _ _, by simp, by omega, .inl rfl, _, _, _, alloc_new _ _, ?_⟩
        have hsum : m * z + (cap - (0 + m)) * z = cap * z := by rw [← Nat.add_mul]; congr 1; omega
        simp only [List.size_toArray, List.length_append, List.length_nil, hnl, hzc]
        omega
    · -- nothing yet
      have hs0 := hs
      simp only [VR] at hs; obtain ⟨ba, rfl⟩ := hs
      split at e
      · rename_i hm0
        subst hm0
        injection e with e; injection e with e1 e2; subst e1; subst e2
        have : news = [] := List.eq_nil_of_length_eq_zero (by rw [hnl]; simp)
        subst this
        exact ⟨_, w, run_app_zero hu hi ht' hd' hlen hfc' (Nat.le_refl _), .same h hs0⟩
      · rename_i hm0
        replace e := grd_some e
        obtain ⟨hb, e⟩ := e
        injection e with e; injection e with e1 e2; subst e1; subst e2
        have hb1 : m ≤ mostCells := Nat.le_trans (by have := Nat.mul_le_mul_left m (show 1 ≤ by' by omega); simpa using this) hb
        obtain ⟨cap, hcap, hrun⟩ := run_app_grow (P := P) (w := w) (ty' := ty') (base := some ba) (n := 0) (c := 0) (olds := []) hu hi hz ht' hd' hlen hfc (fun k => by simp only [Builtin.firstCells, Nat.zero_mul]; rfl) (by omega) (by rw [Nat.zero_add, ← j2]; exact hb) (by omega)
        have h2 := h.drew (w.drawn + 1)
        obtain ⟨r1, r2⟩ := new_cells (fl := fl) h2 el hRH nf.new (hnr.mono (Ext.dr _)) hns (Builtin.zeroCells uz.cells (cap - (0 + m))).toList (0, 0) (fun i _ => by simp)
        refine ⟨_, _, hrun, _, ?_, r1, (Step.drew (w.drawn + 1)).trans r2 (nf.left (by simp))⟩
        simp only [VR]
        refine ⟨Nat.le_refl _, w.heap.size, 0, 0, cap, put_self _ _ _ _, by simp, by omega, .inl rfl, _, _, _, alloc_new _ _, ?_⟩
        have hsum : m * z + (cap - (0 + m)) * z = cap * z := by rw [← Nat.add_mul]; congr 1; omega
        simp only [List.size_toArray, List.length_append, List.length_nil, hnl, hzc]
        omega
    · rename_i b o z' n c
      replace e := grd_some e
      obtain ⟨hz', e⟩ := e
      subst hz'
      have hs0 := hs
      simp only [VR] at hs
      obtain ⟨hnc, q, d1, off, c', hp, rfl, hc, ho, hr⟩ := hs
      split at e
      · rename_i hm0
        subst hm0
        injection e with e; injection e with e1 e2; subst e1; subst e2
        have : news = [] := List.eq_nil_of_length_eq_zero (by rw [hnl]; simp)
        subst this
        exact ⟨_, w, run_app_zero hu hi ht' hd' hlen hfc' (by omega), .same h hs0⟩
      · rename_i hm0
        cases hcs : H.cellsAt b with
        | none => rw [hcs] at e; cases e
        | some cs =>
          rw [hcs] at e
          unfold appO at e
          dsimp only at e
          obtain ⟨cc, T, fz, hq, hle, hv, hf⟩ := h.cells hp hcs
          have hrow : off + c' * z' ≤ cc.size := by
            obtain ⟨c1, T1, fz1, hq1, hle1⟩ := hr
            rw [hq] at hq1; injection hq1 with hq1; injection hq1 with e1 e2 e3; subst e1; exact hle1
          have hone := VRs_all_one hnr hns
          split at e
          · rename_i hfit
            replace e := grd_some e
            obtain ⟨⟨g6, g7⟩, e⟩ := e
            injection e with e; injection e with e1 e2; subst e1; subst e2
            have hoff : off = d1 + o := by rcases ho with h | h <;> omega
            subst hoff
            have hmul : (n + m) * z' = n * z' + m * z' := Nat.add_mul _ _ _
            have hrun := run_app_room (P := P) (w := w) (ty' := ty') (q := q) (off := d1 + o) (us := news) (n := n) (c := c') hu hi ht' hd' hlen hfc' (by omega) hq (fun i hi e => hf (by omega) i hi ⟨e.1, .inl e.2⟩) (by rw [← j1, hnl]; omega) hone
            have hon : o + n * z' + new.length ≤ cs.length := by rw [(VRs_iff.1 hnr).1, hnl]; omega
            obtain ⟨r1, r2⟩ := write_ok h hp hcs g6 hR hq hnr hns hon
            rw [← j1, Nat.add_assoc] at hrun
            refine ⟨_, _, hrun, φ, ?_, r1, r2⟩
            simp only [VR]
            exact ⟨by omega, q, d1, d1 + o, c', hp, rfl, hc, .inl rfl, r2.ext.siz _ _ ⟨cc, T, fz, hq, hrow⟩⟩
          · rename_i hfit
            replace e := grd_some e
            obtain ⟨⟨g6, g7⟩, e⟩ := e
            unfold growO at e
            split at e
            · rename_i old hold
              obtain ⟨hcut, hold⟩ := grd_some hold
              injection hold with hold
              injection e with e; injection e with e1 e2; subst e1; subst e2
              have hlen2 : (H.set b .dead ++ [Blk.cells (old ++ new)]).length = H.length + 1 := by simp
              have hnf : φ H.length = none := by
                cases e : φ H.length with
                | none => rfl
                | some y => rcases nf _ y e with h | h <;> (try rw [hlen2] at h) <;> omega
              have hbl : b < H.length := (List.getElem?_eq_some_iff.1 (cellsAt_some hcs)).1
              by_cases hin : n + m ≤ c'
              · -- in place
                have hoff : off = d1 + o := by rcases ho with h | h <;> omega
                subst hoff
                have hmul : (n + m) * z' = n * z' + m * z' := Nat.add_mul _ _ _
                have hmulc : (n + m) * z' ≤ c' * z' := Nat.mul_le_mul_right _ hin
                have hrun := run_app_room (P := P) (w := w) (ty' := ty') (q := q) (off := d1 + o) (us := news) (n := n) (c := c') hu hi ht' hd' hlen hfc' hin hq (fun i hi e => hf (by omega) i hi ⟨e.1, .inl e.2⟩) (by rw [← j1, hnl]; omega) hone
                rw [← j1] at hrun
                have hlo : old.length = n * z' := by rw [← hold]; simp; omega
                have hln : new.length = m * z' := by rw [(VRs_iff.1 hnr).1, hnl]
                have hfit2 : d1 + o + n * z' + news.length ≤ cc.size := by rw [hnl]; omega
                obtain ⟨r1, r2⟩ := take_over (c' := putA cc (d1 + o + n * z') news) (off := d1 + o) (cs' := old ++ new) h hp g6 hR hbl (cellsAt_nd hcs) hnf hq (hf (by omega)) (putA_size _ _ _) (by rw [putA_size, List.length_append, hlo, hln]; omega) (by
                  intro i v hi'
                  rw [putA_get _ _ _ _ hfit2]
                  by_cases hio : i < old.length
                  · rw [List.getElem?_append_left hio] at hi'
                    rw [if_neg (by rw [hlo] at hio; omega), Nat.add_assoc]
                    rw [← hold, List.getElem?_take] at hi'
                    rw [if_pos (by rw [hlo] at hio; exact hio), List.getElem?_drop] at hi'
                    exact hv _ _ hi'
                  · rw [List.getElem?_append_right (by omega)] at hi'
                    have hil : i - old.length < new.length := (List.getElem?_eq_some_iff.1 hi').1
                    rw [if_pos (by rw [hlo] at hio hil; rw [hnl]; omega)]
                    obtain ⟨u, hu', r⟩ := (VRs_iff.1 hnr).2 _ _ hi'
                    refine ⟨all_get hns hi', u, ?_, r⟩
                    rw [show d1 + o + i - (d1 + o + n * z') = i - old.length by omega]
                    exact hu')
                refine ⟨_, _, hrun, _, ?_, r1, r2⟩
                simp only [VR]
                refine ⟨Nat.le_refl _, q, d1 + o, d1 + o, c', put_self _ _ _ _, rfl, hin, .inl rfl, ?_⟩
                exact r2.ext.siz _ _ ⟨cc, T, fz, hq, hrow⟩
              · -- a new row
                have hb1 : n + m ≤ mostCells := Nat.le_trans (by have := Nat.mul_le_mul_left (n + m) (show 1 ≤ by' by omega); simpa using this) g7
                have hslc : slCells H (.sl b o z' n c) = some old := by
                  simp only [slCells, hcs, optCut, cut, grd, hcut, if_true, hold]
                obtain ⟨q2, off2, c2, olds, heq, hol, hor, hos, hold2⟩ := sl_cells (P := P) h hs0 hslc
                injection heq with e1 e2 e3; injection e1 with e1; injection e1 with e1 e4; subst e1; subst e4; subst e3
                obtain ⟨cap, hcap, hrun⟩ := run_app_grow (P := P) (w := w) (ty' := ty') (base := some ⟨q, off, none⟩) (n := n) (c := c') (olds := olds) hu hi hz ht' hd' hlen hfc
                  (fun k => by simp only [Builtin.firstCells]; rw [← j1]; exact hold2 k) (by omega) (by rw [← j2]; exact g7) hb1
                obtain ⟨s1, s2⟩ := dead_HR h g6
                have h2 := s1.drew (w.drawn + 1)
                have hlenS : (H.set b .dead).length = H.length := by simp
                have hnr2 := VRs_app (hor.mono (Ext.dr (w.drawn + 1))) (hnr.mono (Ext.dr (w.drawn + 1)))
                obtain ⟨r1, r2⟩ := new_cells (fl := fl) h2 el (by rw [hlenS]; exact hRH) (by rw [hlenS]; exact hnf) hnr2 (all_app hos hns) (Builtin.zeroCells uz.cells (cap - (n + m))).toList (0, 0) (fun i _ => by simp)
                have nf1 : NoFloat φ H (H.set b .dead) := fun i x hx' => by
                  rcases nf i x hx' with h | h
                  · exact .inl h
                  · right; rw [hlenS]; rw [hlen2] at h; omega
                refine ⟨_, _, hrun, _, ?_, r1, (s2.trans (Step.drew (w.drawn + 1)) nf1).trans r2 nf1⟩
                simp only [VR]
                refine ⟨Nat.le_refl _, w.heap.size, 0, 0, cap, by rw [← hlenS]; exact put_self _ _ _ _, rfl, hcap, .inl rfl, _, _, _, alloc_new _ _, ?_⟩
                have hsum : (n * z' + m * z') + (cap - (n + m)) * z' = cap * z' := by rw [← Nat.add_mul, ← Nat.add_mul]; congr 1; omega
                simp only [List.size_toArray, List.length_append, hol, hnl, hzc]
                omega
            · cases e
    · cases e
  · cases e
end

end Go.Proofs.YtbjpecknlohicaaDoor.Lg
