/- The contracts of the library functions stand; the logical machine answers as the model. No condition. -/
import Derived.Test.YtcbjmggbbnpbpaaDoorLc
import Derived.Test.YtcbjmggbbnpbpaaDoorLy
namespace Go.Proofs.YtcbjmggbbnpbpaaDoor.Lg
set_option linter.unusedSimpArgs false
open Go.Proofs.YtcbjmggbbnpbpaaDoor
set_option linter.unusedSectionVars false
variable [ML]
theorem findA_some {α : Type} {l : List (Nat × Option α)} {k : Nat} {x : α} (h : findA none l k = some x) : (k, some x) ∈ l := by
  induction l with
  | nil => cases h
  | cons a l ih =>
    obtain ⟨i, y⟩ := a
    unfold findA at h
    split at h
    · rename_i e; subst e; subst h; exact List.mem_cons_self
    · exact List.mem_cons_of_mem _ (ih h)
theorem libOk : LibOk Tryd.prog cfg := by
  exact LibOk_of (fun K h => by
    have h := findA_some h
    simp [libs] at h
    subst h; exact ⟨Lib_rep_e, Lib_rep_c⟩) (fun K h => by
    have h := findA_some h
    simp [libs] at h
    subst h; exact ⟨Lib_join_e, Lib_join_c⟩) (fun K h => by
    have h := findA_some h
    simp [libs] at h
    subst h; exact ⟨Lib_repl_e, 2, ML.m, by rfl, Lib_repl_c⟩)
theorem calls_ok : CallOk Tryd.prog cfg.glob (Run Tryd.prog cfg ok) := Run_ok libOk mixed ok_ok glo
end Go.Proofs.YtcbjmggbbnpbpaaDoor.Lg
