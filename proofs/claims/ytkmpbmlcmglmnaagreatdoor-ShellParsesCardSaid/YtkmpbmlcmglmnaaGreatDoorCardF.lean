/- The card's closed facts: no conditions. -/
import Derived.Test.YtkmpbmlcmglmnaaGreatDoorRows
import Derived.SevenTiedAt
import Derived.ProofKit
import Derived.Test.YtkmpbmlcmglmnaaGreatDoorRowF
set_option linter.all false

namespace Go.Proofs.YtkmpbmlcmglmnaaGreatDoor
open Go
theorem card_wf : Rows.shellParsesRow.wfByText (OpenSpec.ofChange Rows.shellParsesSpec) = true := by kernel_rfl
theorem card_main : Tryz.pinned.checked.prog.mainIs = some ((true, "c96609625aed1b4591597e33fe63defd2f4edcf1a00ae91b9ef6bd8c5e4ca2fc").1, (true, "c96609625aed1b4591597e33fe63defd2f4edcf1a00ae91b9ef6bd8c5e4ca2fc").2.toList) := by kernel_rfl
theorem card_looks : true = Tryz.pinned.checked.prog.looks [] := by kernel_rfl
theorem card_stand : Tryz.pinned.checked.prog.wantsStandIn 9 = false := by kernel_rfl
end Go.Proofs.YtkmpbmlcmglmnaaGreatDoor

namespace Go.Proofs.YtkmpbmlcmglmnaaGreatDoor
open Go
theorem no_goes : Tryz.pinned.checked.prog.funcs.toList.any Func.goes = false := by kernel_rfl
theorem goes_none {P : Program} (h : P.funcs.toList.any Func.goes = false) (f : FuncId) : P.goes f = false := by
  unfold Program.goes
  have h2 : P.funcs.any Func.goes = false := by rw [← Array.any_toList]; exact h
  rw [h2, Bool.and_false, Bool.or_false]
  rw [List.any_eq_false] at h ⊢
  intro g _
  cases hg : P.funcs[g]? with
  | none => simp
  | some fn =>
    obtain ⟨hl, rfl⟩ := Array.getElem?_eq_some_iff.1 hg
    simpa using h _ (Array.mem_toList_iff.2 (Array.getElem_mem hl))
theorem card_goes : false = Rows.shellParsesRow.goesBy Tryz.pinned.checked.prog := by
  unfold OpenClaim.goesBy Program.goesAt Program.goesFrom
  rw [row_named]
  show false = (Option.any _ (some _) || false)
  rw [Option.any_some, goes_none no_goes]
  rfl
end Go.Proofs.YtkmpbmlcmglmnaaGreatDoor
