/- The law's own script, played. -/
import Derived.Test.YtkmpbmlcmglmnaaGreatDoorLiveK
import Derived.Test.YtkmpbmlcmglmnaaGreatDoorCodeH
import Derived.WideMake
set_option linter.all false
namespace Go.Proofs.YtkmpbmlcmglmnaaGreatDoor
open Go Go.RowKit
set_option maxRecDepth 100000 in
set_option maxHeartbeats 2000000 in
theorem check_nil (w : World) : Calls Tryz.prog 36 #[.slice none 0 0] w fun e w' => e = .returned (.int .i64 0) ∧ w' = w.alloc (.map #[] 0) := by
  have m1 := fun w : World => run_makeMap_plain (P := Tryz.prog) w 83
  go_enter Tryz.func36, Tryz.ntmps36
  go_wp2
  go_rounds 1
  go_ret
  exact ⟨rfl, rfl⟩
set_option maxRecDepth 100000 in
set_option maxHeartbeats 2000000 in
theorem new_state (w : World) : Calls Tryz.prog 27 #[.slice none 0 0] w fun e w' => ∃ q, e = .returned (.tuple #[.pointer q, .int .i64 0]) ∧ Below w.heap.size w w' := by
  have m1 := fun w : World => run_makeMap_plain (P := Tryz.prog) w 83
  have m2 := fun w : World => run_makeMap_plain (P := Tryz.prog) w 84
  have m3 := fun w : World => run_makeMap_plain (P := Tryz.prog) w 85
  have m4 := fun w : World => run_makeMap_plain (P := Tryz.prog) w 82
  go_enter Tryz.func27, Tryz.ntmps27
  go_wp2_with (first | (go_at_call 36; refine (check_nil _).mono ?_; rintro e1 w1 ⟨rfl, rfl⟩) | go_in)
  all_goals go_rounds 1
  all_goals
    go_ret2
    exact ⟨_, rfl, by go_grown⟩

def liveS : ByteArray := ⟨#[119, 111, 114, 100, 32, 97, 100, 100, 32, 50, 32, 51, 10, 112, 117, 116, 32, 54, 49, 32, 54, 50, 10, 103, 101, 116, 32, 54, 49, 10]⟩
def liveL : List Cmd := [(1, [⟨#[119, 111, 114, 100]⟩, ⟨#[97, 100, 100]⟩, ⟨#[50]⟩, ⟨#[51]⟩]), (2, [⟨#[112, 117, 116]⟩, ⟨#[54, 49]⟩, ⟨#[54, 50]⟩]), (3, [⟨#[103, 101, 116]⟩, ⟨#[54, 49]⟩])]
theorem liveRead : parseS liveS = .ok liveL := by kernel_rfl
set_option maxRecDepth 100000 in
set_option maxHeartbeats 2000000 in
theorem new_trie (w : World) : Calls Tryz.prog 28 #[] w fun e w' => e = .returned (.pointer (some ⟨w.heap.size, 0, none⟩)) ∧ w' = w.alloc (.cells #[.pointer none, .int .i64 0] 111) := by
  go_enter Tryz.func28, Tryz.ntmps28
  go_wp2
  go_ret
  exact ⟨rfl, rfl⟩
end Go.Proofs.YtkmpbmlcmglmnaaGreatDoor
