/- The program's reader of scripts: what its small functions answer. -/
import Derived.Test.YtkmpbmlcmglmnaaGreatDoorGround
set_option linter.all false
namespace Go.Proofs.YtkmpbmlcmglmnaaGreatDoor
open Go Go.RowKit
set_option maxHeartbeats 800000 in
theorem shape_prog (s : ByteArray) (w : World) :
    Calls Tryz.prog 21 #[.string s] w fun e w' => e = .returned (.tuple #[.string (shStr s), .bool (shOk s)]) ∧ w = w' := by
  go_enter Tryz.func21, Tryz.ntmps21
  go_wp2
  all_goals
    go_ret2
    refine ⟨?_, rfl⟩
    first
      | (simp [shStr, shOk, shKinds, shapeOf, shapes, List.lookup, *]; done)
      | (exfalso; simp_all; done)
theorem space_prog (c : Int) (w : World) :
    Calls Tryz.prog 20 #[.int .i32 c] w fun e w' => e = .returned (.bool (c == 32)) ∧ w = w' := by
  go_enter Tryz.func20, Tryz.ntmps20
  go_wp2
  all_goals
    go_ret
    first
      | exact ⟨rfl, rfl⟩
      | (refine ⟨?_, rfl⟩; simp [*])
end Go.Proofs.YtkmpbmlcmglmnaaGreatDoor
