/- Contracts of functions of the program, printed by a program of this session and proved by the kernel, or plain laws about them: part R0. No condition. -/
import Derived.Test.YtcmnnggpeloanaaGreatDoorG1
import Derived.Test.YtcmnnggpeloanaaGreatDoorEng29
import Derived.Test.YtcmnnggpeloanaaGreatDoorCards
import Derived.Test.YtcmnnggpeloanaaGreatDoorTie
import Derived.ProofKit
import Derived.OpenShut
import Derived.Deep.DeepHandedRow
import Derived.Lib.LaidTab
namespace Go.Proofs.YtcmnnggpeloanaaGreatDoor
open Go.ChangeShapes Go.WideShapes Go.ChangeAt Go.RowKit Go.ChangeMaps
open Eng Go
set_option maxRecDepth 100000

theorem own : ownKnob Tryz.prog.godebug = none := by kernel_rfl
theorem gTab : Tryz.prog.globalNamed "intrusion/digest.constants" = some 1 := by kernel_rfl
theorem gTabType : (Tryz.prog.globals[1]?).map (·.type) = some 179 := by kernel_rfl
theorem cells179 : Tryz.prog.cellsOf 179 = 64 := by kernel_rfl
theorem cells63 : Tryz.prog.cellsOf 63 = 1 := by kernel_rfl

/-- what the row's list gives -/
theorem table {W : World} (h : laidMetH Tryz.prog Rows.fileTypesRow.laid W) : Lib.TabIs Tryz.prog W "intrusion/digest.constants" .u32 shaC :=
  Lib.tabIs_of_head (rest := []) gTab gTabType Tryz.underlying179 Tryz.underlying63 cells63 cells179 h

theorem glob_real {W : World} (h : Lib.TabIs Tryz.prog W "intrusion/digest.constants" .u32 shaC) : ∀ k s, K0.glob k = some s → s.real W E0 ⟨[k], 0, 0⟩ ∧ k < W.heap.size := by
  intro k s hk
  simp only [K0] at hk
  split at hk
  · rename_i hk1
    subst hk1
    cases hk
    have cell : ∀ j, j < 64 → W.cell? ⟨1, j, none⟩ = some (.int .u32 (shaC.getD j 0)) := fun j hj => h.cell gTab j hj
    refine ⟨⟨1, rfl, ?_⟩, ?_⟩
    · intro j v hj
      have hlen : (cellsOf (concL E0 [AV.arr .u32 64 shaC])).length = 64 := rfl
      have hj64 : j < 64 := by rw [← hlen]; exact (List.getElem?_eq_some_iff.1 hj).1
      show W.cell? ⟨1, 0 + j, none⟩ = _
      rw [Nat.zero_add, cell j hj64]
      have e : cellsOf (concL E0 [AV.arr .u32 64 shaC]) = arrVals .u32 64 shaC := by
        simp [concL, conc, cellsOf, Value.cells]
      rw [e, arrVals_get _ _ _ _ hj64] at hj
      exact hj
    · have := cell 0 (by omega)
      apply Decidable.byContradiction
      intro hb
      have hn : W.heap[1]? = none := Array.getElem?_eq_none (by omega)
      unfold World.cell? at this
      simp [hn] at this
  · cases hk

/-- A WORLD FOR THE WITNESS -/
noncomputable def laidWorld (os : Os) : World :=
  { World.holding Tryz.prog os ⟨#[], #[], []⟩ with heap := (World.holding Tryz.prog os ⟨#[], #[], []⟩).heap.modify 1 fun
      | .cells _ t frozen => .cells (shaC.map fun z => Value.int .u32 z).toArray t frozen
      | o => o }

end Go.Proofs.YtcmnnggpeloanaaGreatDoor
