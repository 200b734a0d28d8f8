/- The logical machine against the model: one operation in a region. No condition. -/
import Derived.Test.YtbjpecknlohicaaDoorLg14
namespace Go.Proofs.YtbjpecknlohicaaDoor.Lg
set_option linter.unusedSimpArgs false
set_option linter.unusedVariables false
open Go.RowKit (Below)

section
variable {P : Program} {p : Par} {φ : Phi} {H : LH} {w : World}

theorem ev1 {keep env loc} {x : Operand} {v : V} (h : evalL keep env loc [x] = [some v]) : evalO keep env loc x = some v := by simpa [evalL] using h
theorem ev2 {keep env loc} {x y : Operand} {v u : V} (h : evalL keep env loc [x, y] = [some v, some u]) : evalO keep env loc x = some v ∧ evalO keep env loc y = some u := by simpa [evalL] using h
theorem ev3 {keep env loc} {x y z : Operand} {v u t : V} (h : evalL keep env loc [x, y, z] = [some v, some u, some t]) : evalO keep env loc x = some v ∧ evalO keep env loc y = some u ∧ evalO keep env loc z = some t := by simpa [evalL] using h
theorem parts_map {a : Act} (ps : Array (Nat × Operand)) : (ps.map fun (i, x) => (i, a.eval x)).toList.map (·.1) = ps.toList.map (·.1) ∧ (ps.map fun (i, x) => (i, a.eval x)).toList.map (·.2) = (ps.toList.map (·.2)).map a.eval := by
  constructor
  · simp
  · simp

theorem op_ok {call : CallF} {fl : Nat} {o : Op} {keep env loc a} {v : V} {H' : LH} {dst : Option Tmp} {type : TypeId} {pos : String} {after : Array Edge} {guard : Option (Nat × Bool)}
    (h : HR p φ H w) (hT : TmpR φ w keep env loc a) (hR : p.R0 ≤ fl) (hfl : fl ≤ H.length) (nf : NoFloat φ H H')
    (e : doOp call (ty P) p.G fl H o (evalL keep env loc (opds o)) = some (v, H')) (hno : ∀ c, o = .call c → ∀ f, c.callee ≠ .value f) :
    Gives P p fl φ H w v H' ((execOp a.eval ⟨dst, o, type, pos, after, guard⟩).run P w) := by
  have hRH : p.R0 ≤ H.length := Nat.le_trans hR hfl
  cases o with
  | move x =>
    simp only [opds, evalL] at e
    cases hx : evalO keep env loc x with
    | none => rw [hx] at e; cases e
    | some vx =>
      rw [hx] at e
      change some (vx, H) = some (v, H') at e
      have rx := evalO_ok hT hx
      injection e with e; injection e with e1 e2; subst e1; subst e2
      exact ⟨a.eval x, w, .same h rx, .inl rfl⟩
  | assign x =>
    simp only [opds, evalL] at e
    cases hx : evalO keep env loc x with
    | none => rw [hx] at e; cases e
    | some vx =>
      rw [hx] at e
      change some (vx, H) = some (v, H') at e
      have rx := evalO_ok hT hx
      injection e with e; injection e with e1 e2; subst e1; subst e2
      exact ⟨a.eval x, w, .same h rx, .inl rfl⟩
  | pick x y z =>
    simp only [opds, evalL] at e
    cases hx : evalO keep env loc x with
    | none => rw [hx] at e; cases e
    | some vx =>
      rw [hx] at e
      cases hy : evalO keep env loc y with
      | none => rw [hy] at e; cases e
      | some vy =>
        rw [hy] at e
        cases hz : evalO keep env loc z with
        | none => rw [hz] at e; cases e
        | some vz =>
          rw [hz] at e
          change pickV H vx vy vz = some (v, H') at e
          have rx := evalO_ok hT hx
          have ry := evalO_ok hT hy
          have rz := evalO_ok hT hz
          exact pickV_ok h rx ry rz e
  | alloc t =>
    simp only [opds, evalL] at e
    change zeroO H (ty P t) = some (v, H') at e
    obtain ⟨u, w', hu, r⟩ := zeroO_ok (P := P) (fl := fl) h hRH nf e
    exact .val hu r
  | box t x =>
    simp only [opds, evalL] at e
    cases hx : evalO keep env loc x with
    | none => rw [hx] at e; cases e
    | some vx =>
      rw [hx] at e
      change ptrV H vx = some (v, H') at e
      have rx := evalO_ok hT hx
      obtain ⟨u, w', hu, r⟩ := ptrV_ok (P := P) (fl := fl) (t := t) h hRH nf rx e
      exact .val hu r
  | load t x =>
    simp only [opds, evalL] at e
    cases hx : evalO keep env loc x with
    | none => rw [hx] at e; cases e
    | some vx =>
      rw [hx] at e
      change loadO p.G H vx (ty P t) = some (v, H') at e
      have rx := evalO_ok hT hx
      obtain ⟨u, hu, r⟩ := loadO_ok (P := P) (fl := fl) h rx e
      exact .val hu r
  | store t x y =>
    simp only [opds, evalL] at e
    cases hx : evalO keep env loc x with
    | none => rw [hx] at e; cases e
    | some vx =>
      rw [hx] at e
      cases hy : evalO keep env loc y with
      | none => rw [hy] at e; cases e
      | some vy =>
        rw [hy] at e
        change storeT fl H vx vy (ty P t) = some (v, H') at e
        have rx := evalO_ok hT hx
        have ry := evalO_ok hT hy
        obtain ⟨w', hu, r⟩ := storeT_ok (P := P) h hR rx ry e
        exact ⟨undef, w', r, .inr ⟨run_u hu, rfl⟩⟩
  | nilCheck x =>
    simp only [opds, evalL] at e
    cases hx : evalO keep env loc x with
    | none => rw [hx] at e; cases e
    | some vx =>
      rw [hx] at e
      change ptrOk H vx = some (v, H') at e
      have rx := evalO_ok hT hx
      obtain ⟨ad, hu, r⟩ := ptrOk_ok (fl := fl) h rx e
      refine ⟨a.eval x, w, r, .inl ?_⟩
      simp only [execOp, hu, Sem.run_pure]
  | binOp op t x y t2 =>
    simp only [opds, evalL] at e
    cases hx : evalO keep env loc x with
    | none => rw [hx] at e; cases e
    | some vx =>
      rw [hx] at e
      cases hy : evalO keep env loc y with
      | none => rw [hy] at e; cases e
      | some vy =>
        rw [hy] at e
        change withH H (binV (ty P) op t vx vy) = some (v, H') at e
        have rx := evalO_ok hT hx
        have ry := evalO_ok hT hy
        obtain ⟨e1, e2⟩ := withH_split e
        subst e2
        obtain ⟨u, hu, r⟩ := binV_ok (P := P) (w := w) (ox := x) (oy := y) rx ry e1
        exact .val hu (.same h (r φ w))
  | unOp op t x =>
    simp only [opds, evalL] at e
    cases hx : evalO keep env loc x with
    | none => rw [hx] at e; cases e
    | some vx =>
      rw [hx] at e
      change withH H (unV op vx) = some (v, H') at e
      have rx := evalO_ok hT hx
      obtain ⟨e1, e2⟩ := withH_split e
      subst e2
      obtain ⟨u, hu, r⟩ := unV_ok (P := P) (w := w) rx e1
      exact .val hu (.same h (r φ w))
  | convert s d x =>
    simp only [opds, evalL] at e
    cases hx : evalO keep env loc x with
    | none => rw [hx] at e; cases e
    | some vx =>
      rw [hx] at e
      change convV (ty P) fl H s d vx = some (v, H') at e
      have rx := evalO_ok hT hx
      obtain ⟨u, w', hu, r⟩ := convV_ok (P := P) (fl := fl) h hRH nf rx hR e
      exact .val hu r
  | makeSlice t x y =>
    simp only [opds, evalL] at e
    cases hx : evalO keep env loc x with
    | none => rw [hx] at e; cases e
    | some vx =>
      rw [hx] at e
      cases hy : evalO keep env loc y with
      | none => rw [hy] at e; cases e
      | some vy =>
        rw [hy] at e
        change makeV H (elemI (ty P) t) vx vy = some (v, H') at e
        have rx := evalO_ok hT hx
        have ry := evalO_ok hT hy
        obtain ⟨u, w', hu, r⟩ := makeV_ok (P := P) (fl := fl) h hRH nf rx ry e
        exact .val hu r
  | fieldAddr t x f =>
    simp only [opds, evalL] at e
    cases hx : evalO keep env loc x with
    | none => rw [hx] at e; cases e
    | some vx =>
      rw [hx] at e
      change withH H (fieldA (ty P) t f vx) = some (v, H') at e
      have rx := evalO_ok hT hx
      obtain ⟨e1, e2⟩ := withH_split e
      subst e2
      obtain ⟨u, hu, r⟩ := fieldA_ok (P := P) (w := w) rx e1
      exact .val hu (.same h r)
  | field t x f =>
    simp only [opds, evalL] at e
    cases hx : evalO keep env loc x with
    | none => rw [hx] at e; cases e
    | some vx =>
      rw [hx] at e
      change withH H (fieldV (ty P) t f vx) = some (v, H') at e
      have rx := evalO_ok hT hx
      obtain ⟨e1, e2⟩ := withH_split e
      subst e2
      obtain ⟨u, hu, r⟩ := fieldV_ok (P := P) (w := w) rx e1
      exact .val hu (.same h r)
  | indexAddr t x y =>
    simp only [opds, evalL] at e
    cases hx : evalO keep env loc x with
    | none => rw [hx] at e; cases e
    | some vx =>
      rw [hx] at e
      cases hy : evalO keep env loc y with
      | none => rw [hy] at e; cases e
      | some vy =>
        rw [hy] at e
        change withH H (indexA (ty P) t vx vy) = some (v, H') at e
        have rx := evalO_ok hT hx
        have ry := evalO_ok hT hy
        obtain ⟨e1, e2⟩ := withH_split e
        subst e2
        obtain ⟨u, hu, r⟩ := indexA_ok (P := P) (w := w) rx ry e1
        exact .val hu (.same h r)
  | index t x y =>
    simp only [opds, evalL] at e
    cases hx : evalO keep env loc x with
    | none => rw [hx] at e; cases e
    | some vx =>
      rw [hx] at e
      cases hy : evalO keep env loc y with
      | none => rw [hy] at e; cases e
      | some vy =>
        rw [hy] at e
        change withH H (indexV (ty P) t vx vy) = some (v, H') at e
        have rx := evalO_ok hT hx
        have ry := evalO_ok hT hy
        obtain ⟨e1, e2⟩ := withH_split e
        subst e2
        obtain ⟨u, hu, r⟩ := indexV_ok (P := P) (w := w) rx ry e1
        exact .val hu (.same h r)
  | lookup t x y ok =>
    simp only [opds, evalL] at e
    cases hx : evalO keep env loc x with
    | none => rw [hx] at e; cases e
    | some vx =>
      rw [hx] at e
      cases hy : evalO keep env loc y with
      | none => rw [hy] at e; cases e
      | some vy =>
        rw [hy] at e
        change lookV (ty P) t ok H vx vy = some (v, H') at e
        have rx := evalO_ok hT hx
        have ry := evalO_ok hT hy
        obtain ⟨u, hu, r⟩ := lookV_ok (P := P) (fl := fl) h rx ry e
        exact .val hu r
  | mapUpdate t x y z =>
    simp only [opds, evalL] at e
    cases hx : evalO keep env loc x with
    | none => rw [hx] at e; cases e
    | some vx =>
      rw [hx] at e
      cases hy : evalO keep env loc y with
      | none => rw [hy] at e; cases e
      | some vy =>
        rw [hy] at e
        cases hz : evalO keep env loc z with
        | none => rw [hz] at e; cases e
        | some vz =>
          rw [hz] at e
          change updV (ty P) t fl H vy vz vx = some (v, H') at e
          have rx := evalO_ok hT hx
          have ry := evalO_ok hT hy
          have rz := evalO_ok hT hz
          obtain ⟨w', hu, r⟩ := updV_ok (P := P) h hR rx ry rz e
          exact ⟨undef, w', r, .inr ⟨run_u hu, rfl⟩⟩
  | extract x i =>
    simp only [opds, evalL] at e
    cases hx : evalO keep env loc x with
    | none => rw [hx] at e; cases e
    | some vx =>
      rw [hx] at e
      change withH H (extrV i vx) = some (v, H') at e
      have rx := evalO_ok hT hx
      obtain ⟨e1, e2⟩ := withH_split e
      subst e2
      obtain ⟨u, hu, r⟩ := extrV_ok (P := P) (w := w) rx e1
      exact .val hu (.same h r)
  | build t ps =>
    simp only [opds] at e
    change withH H (buildV (ty P) t (ps.toList.map (·.1)) (allV (evalL keep env loc (ps.toList.map (·.2))))) = some (v, H') at e
    obtain ⟨e1, e2⟩ := withH_split e
    subst e2
    cases hv : allV (evalL keep env loc (ps.toList.map (·.2))) with
    | none => rw [hv] at e1; cases e1
    | some vs =>
      rw [hv] at e1
      obtain ⟨u, hu, r⟩ := build_ok (P := P) (w := w) (parts_map (a := a) ps).1 (parts_map (a := a) ps).2 (allV_ok hT hv) e1
      exact .val hu (.same h r)
  | buildSlice t n ps =>
    simp only [opds] at e
    change buildL (ty P) t n (ps.toList.map (·.1)) H (allV (evalL keep env loc (ps.toList.map (·.2)))) = some (v, H') at e
    cases hv : allV (evalL keep env loc (ps.toList.map (·.2))) with
    | none => rw [hv] at e; cases e
    | some vs =>
      rw [hv] at e
      obtain ⟨u, w', hu, r⟩ := buildL_ok (P := P) (fl := fl) h hRH nf (parts_map (a := a) ps).1 (parts_map (a := a) ps).2 (allV_ok hT hv) e
      exact .val hu r
  | makeMap t r =>
    simp only [opds, evalL] at e
    cases r with
    | some r => cases e
    | none =>
      change mapO H (ty P t) = some (v, H') at e
      obtain ⟨u, w', hu, r⟩ := mapO_ok (P := P) (fl := fl) h hRH nf e
      exact .val hu r
  | makeFunc fn first cs =>
    simp only [opds] at e
    cases fn with
    | func f =>
      obtain ⟨fs⟩ := first
      cases fs with
      | nil =>
        change fnO H f (allV (evalL keep env loc cs.toList)) = some (v, H') at e
        unfold fnO at e
        split at e
        · rename_i vs hv
          injection e with e; injection e with e1 e2; subst e1; subst e2
          refine .val (u := .func (.func f) #[] (cs.map a.eval)) (by rw [show (Array.map a.eval (⟨[]⟩ : Array Operand)) = #[] from Array.map_empty]; rfl) (.same h ?_)
          simp only [VR]
          exact ⟨(cs.map a.eval).toList, rfl, by simpa using allV_ok hT hv⟩
        · cases e
      | cons => cases e
    | _ => cases e
  | slice t x lo hi mx =>
    cases mx with
    | some m => 
      exfalso
      simp only [opds] at e
      unfold doOp at e
      split at e <;> first | contradiction | (cases e; done) | (rename_i heq _; injection heq with _ _ _ _ h5; cases h5)
    | none =>
      cases lo with
      | none =>
        cases hi with
        | none =>
          simp only [opds, Option.toList, List.append_nil, List.nil_append, evalL] at e
          cases hx : evalO keep env loc x with
          | none => rw [hx] at e; cases e
          | some vx =>
            rw [hx] at e
            change grd (sliceOk (ty P) t vx = true) (withH H (sliceV vx none none)) = some (v, H') at e
            have rx := evalO_ok hT hx
            obtain ⟨hk, e1⟩ := grd_some e
            obtain ⟨e2, e3⟩ := withH_split e1
            subst e3
            obtain ⟨u, hu, r⟩ := sliceV_ok (P := P) (w := w) (lo := none) (hi := none) (ulo := none) (uhi := none) (fun _ h => by cases h) (fun _ => rfl) (fun _ h => by cases h) (fun _ => rfl) rx hk e2
            exact .val hu (.same h r)
        | some y =>
          simp only [opds, Option.toList, List.append_nil, List.nil_append, evalL] at e
          cases hx : evalO keep env loc x with
          | none => rw [hx] at e; cases e
          | some vx =>
            rw [hx] at e
            cases hy : evalO keep env loc y with
            | none => rw [hy] at e; cases e
            | some vy =>
              rw [hy] at e
              change grd (sliceOk (ty P) t vx = true) (withH H (sliceV vx none (some vy))) = some (v, H') at e
              have rx := evalO_ok hT hx
              have ry := evalO_ok hT hy
              obtain ⟨hk, e1⟩ := grd_some e
              obtain ⟨e2, e3⟩ := withH_split e1
              subst e3
              obtain ⟨u, hu, r⟩ := sliceV_ok (P := P) (w := w) (lo := none) (hi := (some vy)) (ulo := none) (uhi := (some (a.eval y))) (fun _ h => by cases h) (fun _ => rfl) (fun _ h => by cases h; exact ⟨_, rfl, ry⟩) (fun h => by cases h) rx hk e2
              exact .val hu (.same h r)
      | some y =>
        cases hi with
        | none =>
          simp only [opds, Option.toList, List.append_nil, List.nil_append, List.cons_append, evalL] at e
          cases hx : evalO keep env loc x with
          | none => rw [hx] at e; cases e
          | some vx =>
            rw [hx] at e
            cases hy : evalO keep env loc y with
            | none => rw [hy] at e; cases e
            | some vy =>
              rw [hy] at e
              change grd (sliceOk (ty P) t vx = true) (withH H (sliceV vx (some vy) none)) = some (v, H') at e
              have rx := evalO_ok hT hx
              have ry := evalO_ok hT hy
              obtain ⟨hk, e1⟩ := grd_some e
              obtain ⟨e2, e3⟩ := withH_split e1
              subst e3
              obtain ⟨u, hu, r⟩ := sliceV_ok (P := P) (w := w) (lo := (some vy)) (hi := none) (ulo := (some (a.eval y))) (uhi := none) (fun _ h => by cases h; exact ⟨_, rfl, ry⟩) (fun h => by cases h) (fun _ h => by cases h) (fun _ => rfl) rx hk e2
              exact .val hu (.same h r)
        | some z =>
          simp only [opds, Option.toList, List.append_nil, List.nil_append, List.cons_append, evalL] at e
          cases hx : evalO keep env loc x with
          | none => rw [hx] at e; cases e
          | some vx =>
            rw [hx] at e
            cases hy : evalO keep env loc y with
            | none => rw [hy] at e; cases e
            | some vy =>
              rw [hy] at e
              cases hz : evalO keep env loc z with
              | none => rw [hz] at e; cases e
              | some vz =>
                rw [hz] at e
                change grd (sliceOk (ty P) t vx = true) (withH H (sliceV vx (some vy) (some vz))) = some (v, H') at e
                have rx := evalO_ok hT hx
                have ry := evalO_ok hT hy
                have rz := evalO_ok hT hz
                obtain ⟨hk, e1⟩ := grd_some e
                obtain ⟨e2, e3⟩ := withH_split e1
                subst e3
                obtain ⟨u, hu, r⟩ := sliceV_ok (P := P) (w := w) (lo := (some vy)) (hi := (some vz)) (ulo := (some (a.eval y))) (uhi := (some (a.eval z))) (fun _ h => by cases h; exact ⟨_, rfl, ry⟩) (fun h => by cases h) (fun _ h => by cases h; exact ⟨_, rfl, rz⟩) (fun h => by cases h) rx hk e2
                exact .val hu (.same h r)
  | call c =>
    change doCall call (ty P) fl H c (evalL keep env loc (opds (.call c))) = some (v, H') at e
    unfold doCall at e
    split at e
    · rename_i vs b hc
      simp only [opds, hc] at e
      obtain ⟨u, w', r, hr⟩ := doBi_ok (P := P) (t := type) (cs := c.args.map fun | .const _ => true | _ => false) h hT hR hfl nf e
      refine ⟨u, w', r, ?_⟩
      have hex : (execOp a.eval ⟨dst, .call c, type, pos, after, guard⟩).run P w = (builtin b c.argTypes.toList.toArray type (c.args.map fun | .const _ => true | _ => false) (c.args.toList.map a.eval).toArray).run P w := by
        simp only [execOp, resolve, hc, Sem.run_bind, Sem.run_pure, Result.andThen_ok, invoke]
        congr 1
        apply congrArg
        apply Array.ext'
        simp
      rw [hex]
      exact hr
    · exact absurd (by assumption) (hno c rfl _)
    · cases e
  | _ =>
    exfalso
    simp only [opds, evalL] at e
    cases e

end

end Go.Proofs.YtbjpecknlohicaaDoor.Lg
