/- A command of the law's own script, done. -/
import Derived.Test.YtkmpbmlcmglmnaaGreatDoorLiveJ
set_option linter.all false
namespace Go.Proofs.YtkmpbmlcmglmnaaGreatDoor
open Go Go.RowKit
set_option maxRecDepth 100000 in
set_option maxHeartbeats 2000000 in
theorem done_word (hM : MulOk) (hA : AddOk) (S T A cap : Nat) (w : World) (hS : ShellAt w S T A 3 cap) (h1 : w.cell? ⟨A, 1, none⟩ = some (.string ⟨#[97, 100, 100]⟩)) (h2 : w.cell? ⟨A, 2, none⟩ = some (.string ⟨#[50]⟩)) (h3 : w.cell? ⟨A, 3, none⟩ = some (.string ⟨#[51]⟩)) :
    Calls Tryz.prog 31 #[.pointer (some ⟨S, 0, none⟩), .string ⟨#[119, 111, 114, 100]⟩] w fun e w' => e = .returned (.string ⟨#[53]⟩) ∧ Below w.heap.size w w' := by
  have hbA := (Below.refl w.heap.size w).alloc (Nat.le_refl _) (.cells #[.func (.func 42) #[] #[], .func (.func 43) #[] #[], .func (.func 44) #[] #[], .func (.func 45) #[] #[]] 112)
  go_enter Tryz.func31, Tryz.ntmps31
  go_wp2
  refine wp_loop_rounds 4 ?_
  rw [rounds_succ]
  go_wp2_with (go_at_call 42; refine (reck_word hM hA S T A cap _ (hS.below hbA) (cell_kept2 hbA h1) (cell_kept2 hbA h2) (cell_kept2 hbA h3)).mono ?_; rintro e1 w1 ⟨rfl, hb1⟩)
  go_ret
  exact ⟨rfl, hbA.trans (hb1.mono hbA.size)⟩
set_option maxRecDepth 100000 in
set_option maxHeartbeats 2000000 in
theorem done_put (hT : TrimOk) (hI : IndexOk) (S T A cap : Nat) (w : World) (hS : ShellAt w S T A 2 cap) (h1 : w.cell? ⟨A, 1, none⟩ = some (.string ⟨#[54, 49]⟩)) (h2 : w.cell? ⟨A, 2, none⟩ = some (.string ⟨#[54, 50]⟩)) (hN : w.heap[T]? = some (.cells #[.pointer none, .int .i64 0] 111 (0, 0))) :
    Calls Tryz.prog 31 #[.pointer (some ⟨S, 0, none⟩), .string ⟨#[112, 117, 116]⟩] w fun e w' => e = .returned (.string ⟨#[111, 107]⟩) ∧ TrieAt w' T w.heap.size ∧ w.grownBy w' (some T) := by
  have hbA := (Below.refl w.heap.size w).alloc (Nat.le_refl _) (.cells #[.func (.func 42) #[] #[], .func (.func 43) #[] #[], .func (.func 44) #[] #[], .func (.func 45) #[] #[]] 112)
  have hTl := (Array.getElem?_eq_some_iff.1 hN).1
  go_enter Tryz.func31, Tryz.ntmps31
  go_wp2
  refine wp_loop_rounds 4 ?_
  rw [rounds_succ]
  go_wp2_with (go_at_call 42; refine (reck_put _ _).mono ?_; rintro e1 w1 ⟨rfl, rfl⟩)
  rw [rounds_succ]
  go_wp2_with (go_at_call 43; refine (signs_put _ _).mono ?_; rintro e2 w2 ⟨rfl, rfl⟩)
  rw [rounds_succ]
  go_wp2_with (go_at_call 44; refine (keeps_put hT hI S T A cap _ (hS.below hbA) (cell_kept2 hbA h1) (cell_kept2 hbA h2) ((hbA.block T hTl).trans hN)).mono ?_; rintro e3 w3 ⟨rfl, hta, hgr⟩)
  go_ret
  exact ⟨rfl, hta.mono hbA.size, grown_behind hbA hgr⟩
set_option maxRecDepth 100000 in
set_option maxHeartbeats 2000000 in
theorem done_get (hT : TrimOk) (hI : IndexOk) (hB : WByteOk) (hS2 : StringOk) (S T A cap lo : Nat) (w : World) (hS : ShellAt w S T A 1 cap) (h1 : w.cell? ⟨A, 1, none⟩ = some (.string ⟨#[54, 49]⟩)) (hN : TrieAt w T lo) :
    Calls Tryz.prog 31 #[.pointer (some ⟨S, 0, none⟩), .string ⟨#[103, 101, 116]⟩] w fun e w' => e = .returned (.string ⟨#[54, 50]⟩) ∧ Below w.heap.size w w' := by
  have hbA := (Below.refl w.heap.size w).alloc (Nat.le_refl _) (.cells #[.func (.func 42) #[] #[], .func (.func 43) #[] #[], .func (.func 44) #[] #[], .func (.func 45) #[] #[]] 112)
  go_enter Tryz.func31, Tryz.ntmps31
  go_wp2
  refine wp_loop_rounds 4 ?_
  rw [rounds_succ]
  go_wp2_with (go_at_call 42; refine (reck_get _ _).mono ?_; rintro e1 w1 ⟨rfl, rfl⟩)
  rw [rounds_succ]
  go_wp2_with (go_at_call 43; refine (signs_get _ _).mono ?_; rintro e2 w2 ⟨rfl, rfl⟩)
  rw [rounds_succ]
  go_wp2_with (go_at_call 44; refine (keeps_get hT hI hB hS2 S T A cap lo _ (hS.below hbA) (cell_kept2 hbA h1) (hN.below hbA)).mono ?_; rintro e3 w3 ⟨rfl, hb3⟩)
  go_ret
  exact ⟨rfl, hbA.trans (hb3.mono hbA.size)⟩
end Go.Proofs.YtkmpbmlcmglmnaaGreatDoor
