/- The names of what is laid. -/
import Derived.Test.YtkmpbmlcmglmnaaGreatDoorKnot
set_option linter.all false
namespace Go.Proofs.YtkmpbmlcmglmnaaGreatDoor
open Go
theorem knot_named : varsNamedLaterB Tryz.prog (varsId Tryz.prog) tied = true := by kernel_rfl
theorem knot_done : ∀ os tape, varsDone Tryz.prog 400 (varsId Tryz.prog) os tape = true := fun _ _ => by kernel_rfl
end Go.Proofs.YtkmpbmlcmglmnaaGreatDoor
