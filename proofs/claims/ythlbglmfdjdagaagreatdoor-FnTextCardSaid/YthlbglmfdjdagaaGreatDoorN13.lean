/- The logical machine and its contracts, part 13. No condition. -/
import Derived.Test.YthlbglmfdjdagaaGreatDoorN12
import Derived.Test.YthlbglmfdjdagaaGreatDoorProg
import Derived.Shelf.Strings.Repeat
import Derived.Shelf.Strings.OnBuilder
namespace Go.Proofs.YthlbglmfdjdagaaGreatDoor.Lg
open Go.Proofs Go.Shelf
def FW : Go.Shelf.Ren := ⟨fun | 105 => 116 | 212 => 128 | 99 => 129 | 165 => 130 | 166 => 131 | 170 => 132 | 169 => 133 | 263 => 139 | 264 => 140 | 206 => 141 | 240 => 142 | 241 => 143 | 276 => 145 | 277 => 146 | n => n, fun | 9 => 9 | 3 => 3 | 4 => 4 | 20 => 20 | 0 => 0 | 46 => 51 | 109 => 137 | 5 => 5 | 72 => 141 | 76 => 144 | 51 => 148 | 146 => 149 | 53 => 151 | 148 => 152 | 70 => 139 | 37 => 22 | 75 => 143 | 127 => 154 | 164 => 156 | 80 => 147 | n => n, fun | n => n⟩
theorem TM : Go.Proofs.Lays.n105 Tryz.prog FW := { mixed := by kernel_rfl, f99 := Tryz.func129.trans (congrArg some (by kernel_rfl)), f105 := Tryz.func116.trans (congrArg some (by kernel_rfl)), f165 := Tryz.func130.trans (congrArg some (by kernel_rfl)), f166 := Tryz.func131.trans (congrArg some (by kernel_rfl)), f169 := Tryz.func133.trans (congrArg some (by kernel_rfl)), f170 := Tryz.func132.trans (congrArg some (by kernel_rfl)), f206 := Tryz.func141.trans (congrArg some (by kernel_rfl)), f212 := Tryz.func128.trans (congrArg some (by kernel_rfl)), f240 := Tryz.func142.trans (congrArg some (by kernel_rfl)), f241 := Tryz.func143.trans (congrArg some (by kernel_rfl)), f263 := Tryz.func139.trans (congrArg some (by kernel_rfl)), f264 := Tryz.func140.trans (congrArg some (by kernel_rfl)), f276 := Tryz.func145.trans (congrArg some (by kernel_rfl)), f277 := Tryz.func146.trans (congrArg some (by kernel_rfl)), t0 := Tryz.underlying0, a0 := Tryz.isAgg0, z0 := Tryz.sizeOf0, v0 := Tryz.zeroValue0, t3 := Tryz.underlying3, a3 := Tryz.isAgg3, z3 := Tryz.sizeOf3, v3 := Tryz.zeroValue3, t4 := Tryz.underlying4, a4 := Tryz.isAgg4, z4 := Tryz.sizeOf4, v4 := Tryz.zeroValue4, t5 := Tryz.underlying5, a5 := Tryz.isAgg5, z5 := Tryz.sizeOf5, v5 := Tryz.zeroValue5, t9 := Tryz.underlying9, a9 := Tryz.isAgg9, z9 := Tryz.sizeOf9, v9 := Tryz.zeroValue9, t20 := Tryz.underlying20, a20 := Tryz.isAgg20, z20 := Tryz.sizeOf20, v20 := Tryz.zeroValue20, t37 := Tryz.underlying22, a37 := Tryz.isAgg22, z37 := Tryz.sizeOf22, v37 := Tryz.zeroValue22, t46 := Tryz.underlying51, a46 := Tryz.isAgg51, z46 := Tryz.sizeOf51, v46 := Tryz.zeroValue51, t51 := Tryz.underlying148, a51 := Tryz.isAgg148, z51 := Tryz.sizeOf148, v51 := Tryz.zeroValue148, t53 := Tryz.underlying151, a53 := Tryz.isAgg151, z53 := Tryz.sizeOf151, v53 := Tryz.zeroValue151, t70 := Tryz.underlying139, a70 := Tryz.isAgg139, z70 := Tryz.sizeOf139, v70 := Tryz.zeroValue139, t72 := Tryz.underlying141, a72 := Tryz.isAgg141, z72 := Tryz.sizeOf141, v72 := Tryz.zeroValue141, t75 := Tryz.underlying143, a75 := Tryz.isAgg143, z75 := Tryz.sizeOf143, v75 := Tryz.zeroValue143, t76 := Tryz.underlying144, a76 := Tryz.isAgg144, z76 := Tryz.sizeOf144, v76 := Tryz.zeroValue144, t109 := Tryz.underlying137, a109 := Tryz.isAgg137, z109 := Tryz.sizeOf137, v109 := Tryz.zeroValue137, t127 := Tryz.underlying154, a127 := Tryz.isAgg154, z127 := Tryz.sizeOf154, v127 := Tryz.zeroValue154, t146 := Tryz.underlying149, a146 := Tryz.isAgg149, z146 := Tryz.sizeOf149, v146 := Tryz.zeroValue149, t148 := Tryz.underlying152, a148 := Tryz.isAgg152, z148 := Tryz.sizeOf152, v148 := Tryz.zeroValue152, t164 := Tryz.underlying156, a164 := Tryz.isAgg156, z164 := Tryz.sizeOf156, v164 := Tryz.zeroValue156 }
theorem Ov : Builder.Extra Tryz.prog FW := { sizeBuilder := by kernel_rfl, liesBuilder := by kernel_rfl, t5 := Tryz.underlying5, a5 := Tryz.isAgg5, z5 := Tryz.sizeOf5, v5 := Tryz.zeroValue5, infoByte := by kernel_rfl, cellsByte := by kernel_rfl, sizeByte := by kernel_rfl, neB5 := by decide }
theorem Ou : Nc Tryz.prog 116 := LW Tryz.func116 (by kernel_rfl) (by kernel_rfl)
theorem Ot : VG Tryz.prog 116 := fun s c w h1 h2 => Any.strings_Repeat TM Ov s c w h1 h2
def Ff : Go.Shelf.Ren := ⟨fun | 156 => 117 | 165 => 130 | 166 => 131 | 169 => 133 | 240 => 142 | 241 => 143 | 276 => 145 | 277 => 146 | n => n, fun | 31 => 77 | 9 => 9 | 3 => 3 | 4 => 4 | 0 => 0 | 20 => 20 | 72 => 141 | 76 => 144 | 70 => 139 | 37 => 22 | 75 => 143 | 127 => 154 | 164 => 156 | 5 => 5 | 80 => 147 | n => n, fun | n => n⟩
theorem LY : Go.Proofs.Lays.n156 Tryz.prog Ff := { mixed := by kernel_rfl, f156 := Tryz.func117.trans (congrArg some (by kernel_rfl)), f165 := Tryz.func130.trans (congrArg some (by kernel_rfl)), f166 := Tryz.func131.trans (congrArg some (by kernel_rfl)), f169 := Tryz.func133.trans (congrArg some (by kernel_rfl)), f240 := Tryz.func142.trans (congrArg some (by kernel_rfl)), f241 := Tryz.func143.trans (congrArg some (by kernel_rfl)), f276 := Tryz.func145.trans (congrArg some (by kernel_rfl)), f277 := Tryz.func146.trans (congrArg some (by kernel_rfl)), t0 := Tryz.underlying0, a0 := Tryz.isAgg0, z0 := Tryz.sizeOf0, v0 := Tryz.zeroValue0, t3 := Tryz.underlying3, a3 := Tryz.isAgg3, z3 := Tryz.sizeOf3, v3 := Tryz.zeroValue3, t4 := Tryz.underlying4, a4 := Tryz.isAgg4, z4 := Tryz.sizeOf4, v4 := Tryz.zeroValue4, t9 := Tryz.underlying9, a9 := Tryz.isAgg9, z9 := Tryz.sizeOf9, v9 := Tryz.zeroValue9, t20 := Tryz.underlying20, a20 := Tryz.isAgg20, z20 := Tryz.sizeOf20, v20 := Tryz.zeroValue20, t31 := Tryz.underlying77, a31 := Tryz.isAgg77, z31 := Tryz.sizeOf77, v31 := Tryz.zeroValue77, t37 := Tryz.underlying22, a37 := Tryz.isAgg22, z37 := Tryz.sizeOf22, v37 := Tryz.zeroValue22, t70 := Tryz.underlying139, a70 := Tryz.isAgg139, z70 := Tryz.sizeOf139, v70 := Tryz.zeroValue139, t72 := Tryz.underlying141, a72 := Tryz.isAgg141, z72 := Tryz.sizeOf141, v72 := Tryz.zeroValue141, t75 := Tryz.underlying143, a75 := Tryz.isAgg143, z75 := Tryz.sizeOf143, v75 := Tryz.zeroValue143, t76 := Tryz.underlying144, a76 := Tryz.isAgg144, z76 := Tryz.sizeOf144, v76 := Tryz.zeroValue144, t127 := Tryz.underlying154, a127 := Tryz.isAgg154, z127 := Tryz.sizeOf154, v127 := Tryz.zeroValue154, t164 := Tryz.underlying156, a164 := Tryz.isAgg156, z164 := Tryz.sizeOf156, v164 := Tryz.zeroValue156 }
theorem H9 : Builder.Extra Tryz.prog Ff := { sizeBuilder := by kernel_rfl, liesBuilder := by kernel_rfl, t5 := Tryz.underlying5, a5 := Tryz.isAgg5, z5 := Tryz.sizeOf5, v5 := Tryz.zeroValue5, infoByte := by kernel_rfl, cellsByte := by kernel_rfl, sizeByte := by kernel_rfl, neB5 := by decide }
theorem Nf : Nc Tryz.prog 117 := LW Tryz.func117 (by kernel_rfl) (by kernel_rfl)
theorem Nd : Te Tryz.prog 117 := ⟨fun a c sep w => Any.strings_Join_none LY H9 a c sep w, fun bk o c xs sep w h1 h2 h3 h4 h5 => Any.strings_Join LY H9 bk o c xs sep w h1 h2 h3 h4 h5⟩
set_option linter.unusedSimpArgs false
open Go.Proofs.YthlbglmfdjdagaaGreatDoor
theorem EW {α : Type} {l : List (Nat × Option α)} {k : Nat} {x : α} (h : KQ none l k = some x) : (k, some x) ∈ l := by
 induction l with
 | nil => cases h
 | cons a l ih =>
   obtain ⟨i, y⟩ := a
   unfold KQ at h
   split at h
   ·rename_i e; subst e; subst h; exact List.mem_cons_self
   ·exact List.mem_cons_of_mem _ (ih h)
theorem WU : Oq Tryz.prog cfg := by
 exact Rq (fun K h => by
  have h := EW h
  simp [libs] at h
  subst h; exact ⟨Ou, Ot⟩) (fun K h => by
  have h := EW h
  simp [libs] at h
  subst h; exact ⟨Nf, Nd⟩) (fun K h => by
  have h := EW h
  simp [libs] at h)
theorem RF : Cp Tryz.prog cfg.glob (Run Tryz.prog cfg ok) := VJ WU UT WZ glo
end Go.Proofs.YthlbglmfdjdagaaGreatDoor.Lg
