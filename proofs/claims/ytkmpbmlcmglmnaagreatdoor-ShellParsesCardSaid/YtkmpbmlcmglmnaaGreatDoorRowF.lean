/- The row's function. -/
import Derived.Test.YtkmpbmlcmglmnaaGreatDoorRows
import Derived.ProofKit
set_option linter.all false
namespace Go.Proofs.YtkmpbmlcmglmnaaGreatDoor
open Go
theorem row_named : Tryz.pinned.checked.prog.funcNamed Rows.shellParsesRow.func = some 3 := by kernel_rfl
theorem row_inst : Tryz.f3.isInstance Tryz.pinned.checked.prog Rows.shellParsesRow.origin Rows.shellParsesRow.targs := of_decide_eq_true (by kernel_rfl)
theorem row_wrap : Tryz.f3.isWrapper Tryz.pinned.checked.prog Rows.shellParsesRow.wrapper Rows.shellParsesRow.mainSum := by
  unfold Func.isWrapper
  first | (rw [if_pos (by decide +kernel)]; kernel_rfl) | (rw [if_neg (by decide +kernel)]; exact ⟨rfl, rfl⟩)
end Go.Proofs.YtkmpbmlcmglmnaaGreatDoor
