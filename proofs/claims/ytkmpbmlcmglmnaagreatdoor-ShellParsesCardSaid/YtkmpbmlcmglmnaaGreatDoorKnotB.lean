/- What the variables read as behind the run. -/
import Derived.Test.YtkmpbmlcmglmnaaGreatDoorKnot
set_option linter.all false
namespace Go.Proofs.YtkmpbmlcmglmnaaGreatDoor
open Go
theorem knot_reads : ∀ os tape, (DataW.laidRun Tryz.prog (varsWorld Tryz.prog 400 (varsId Tryz.prog) os tape).memory 8 (tied.map (·.1))).map (·.1) = some tied := fun _ _ => by kernel_rfl
end Go.Proofs.YtkmpbmlcmglmnaaGreatDoor
