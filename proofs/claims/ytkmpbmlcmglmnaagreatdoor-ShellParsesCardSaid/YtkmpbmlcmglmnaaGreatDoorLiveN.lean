/- The law's own script tells what it ought to. -/
import Derived.Test.YtkmpbmlcmglmnaaGreatDoorLiveM
set_option linter.all false
namespace Go.Proofs.YtkmpbmlcmglmnaaGreatDoor
open Go Go.RowKit
set_option maxRecDepth 100000 in
set_option maxHeartbeats 1000000 in
theorem lives_true (hC : CutOk) (hF : FieldsOk) (hT : TrimOk) (hI : IndexOk) (hM : MulOk) (hA : AddOk) (hB : WByteOk) (hS2 : StringOk) (hK : CheckOk) (hO : ItoaOk) (w : World) (hw : HasLen w) :
    Calls Tryz.prog 7 #[] w fun e w' => e = .returned (.bool true) ∧ Below w.heap.size w w' := by
  go_enter Tryz.func7, Tryz.ntmps7
  go_wp2_with (first
    | (go_at_call 17; refine (run_live hC hF hT hI hM hA hB hS2 hK hO w hw).mono ?_; rintro e1 w1 ⟨rfl, hb1⟩)
    | go_in)
  go_ret
  exact ⟨rfl, hb1⟩
end Go.Proofs.YtkmpbmlcmglmnaaGreatDoor
