/- The commands of the law's own script. -/
import Derived.Test.YtkmpbmlcmglmnaaGreatDoorLiveG
set_option linter.all false
namespace Go.Proofs.YtkmpbmlcmglmnaaGreatDoor
open Go Go.RowKit
/-- a shell's block: its words, its trie. -/
def ShellAt (w : World) (S : Nat) (T A n cap : Nat) : Prop := ∃ q, w.heap[S]? = some (.cells #[.slice (some ⟨A, 1, none⟩) n cap, .pointer (some ⟨T, 0, none⟩), q] 64 (0, 0))
theorem ShellAt.c0 {w : World} {S T A n cap : Nat} (h : ShellAt w S T A n cap) : w.cell? ⟨S, 0, none⟩ = some (.slice (some ⟨A, 1, none⟩) n cap) := by obtain ⟨q, h⟩ := h; simp [World.cell?, h]
theorem ShellAt.c1 {w : World} {S T A n cap : Nat} (h : ShellAt w S T A n cap) : w.cell? ⟨S, 1, none⟩ = some (.pointer (some ⟨T, 0, none⟩)) := by obtain ⟨q, h⟩ := h; simp [World.cell?, h]
theorem ShellAt.lt {w : World} {S T A n cap : Nat} (h : ShellAt w S T A n cap) : S < w.heap.size := by obtain ⟨q, h⟩ := h; exact (Array.getElem?_eq_some_iff.1 h).1
theorem ShellAt.below {w w' : World} {S T A n cap : Nat} (h : ShellAt w S T A n cap) (hb : Below w.heap.size w w') : ShellAt w' S T A n cap := by
  have hl := h.lt
  obtain ⟨q, h⟩ := h
  exact ⟨q, (hb.block S hl).trans h⟩
theorem n_two (hM : MulOk) (hA : AddOk) (S A cap : Nat) (w : World) (h0 : w.cell? ⟨S, 0, none⟩ = some (.slice (some ⟨A, 1, none⟩) 3 cap)) (h2 : w.cell? ⟨A, 2, none⟩ = some (.string ⟨#[50]⟩)) :
    Calls Tryz.prog 60 #[.pointer (some ⟨S, 0, none⟩), .int .i64 1] w fun e w' => e = .returned (.agg #[.int .u64 2, .int .u64 0, .int .u64 0, .int .u64 0]) ∧ Below w.heap.size w w' :=
  n_prog hM hA S A 3 cap 1 2 _ w h0 (by omega) (by omega) h2 (by decide +kernel) (by decide +kernel) (by decide)
theorem n_three (hM : MulOk) (hA : AddOk) (S A cap : Nat) (w : World) (h0 : w.cell? ⟨S, 0, none⟩ = some (.slice (some ⟨A, 1, none⟩) 3 cap)) (h2 : w.cell? ⟨A, 3, none⟩ = some (.string ⟨#[51]⟩)) :
    Calls Tryz.prog 60 #[.pointer (some ⟨S, 0, none⟩), .int .i64 2] w fun e w' => e = .returned (.agg #[.int .u64 3, .int .u64 0, .int .u64 0, .int .u64 0]) ∧ Below w.heap.size w w' :=
  n_prog hM hA S A 3 cap 2 3 _ w h0 (by omega) (by omega) h2 (by decide +kernel) (by decide +kernel) (by decide)
set_option maxRecDepth 100000 in
set_option maxHeartbeats 2000000 in
theorem reck_word (hM : MulOk) (hA : AddOk) (S T A cap : Nat) (w : World) (hS : ShellAt w S T A 3 cap) (h1 : w.cell? ⟨A, 1, none⟩ = some (.string ⟨#[97, 100, 100]⟩)) (h2 : w.cell? ⟨A, 2, none⟩ = some (.string ⟨#[50]⟩)) (h3 : w.cell? ⟨A, 3, none⟩ = some (.string ⟨#[51]⟩)) :
    Calls Tryz.prog 42 #[.pointer (some ⟨S, 0, none⟩), .string ⟨#[119, 111, 114, 100]⟩] w fun e w' => e = .returned (.tuple #[.string ⟨#[53]⟩, .bool true]) ∧ Below w.heap.size w w' := by
  have c0 := hS.c0
  go_enter Tryz.func42, Tryz.ntmps42
  go_wp2_with fail
  go_region_with (first
    | (go_at_call 59; refine (words_add hA _ w2).mono ?_; rintro e3 w3 ⟨rfl, hb3⟩)
    | (go_at_call 60; refine (n_three hM hA S A cap w1 c01 h31).mono ?_; rintro e2 w2 ⟨rfl, hb2⟩; have c02 := cell_kept2 hb2 c01; have h12 := cell_kept2 hb2 h11)
    | (go_at_call 60; refine (n_two hM hA S A cap w.drew c0 h2).mono ?_; rintro e1 w1 ⟨rfl, hb0⟩; have hb1 : Below w.heap.size w w1 := ⟨hb0.os, hb0.tape, hb0.output, hb0.size, hb0.block⟩; clear hb0; have c01 := cell_kept2 hb1 c0; have h11 := cell_kept2 hb1 h1; have h31 := cell_kept2 hb1 h3))
  all_goals
    go_wp2
    go_ret2
    exact ⟨rfl, (hb1.trans (hb2.mono hb1.size)).trans (hb3.mono (Nat.le_trans hb1.size hb2.size))⟩
set_option maxRecDepth 100000 in
set_option maxHeartbeats 2000000 in
theorem reck_put (S : Value) (w : World) : Calls Tryz.prog 42 #[S, .string ⟨#[112, 117, 116]⟩] w fun e w' => e = .returned (.tuple #[.string ⟨#[]⟩, .bool false]) ∧ w = w' := by
  go_enter Tryz.func42, Tryz.ntmps42
  go_wp2
  go_ret2
  exact ⟨rfl, rfl⟩
set_option maxRecDepth 100000 in
set_option maxHeartbeats 2000000 in
theorem reck_get (S : Value) (w : World) : Calls Tryz.prog 42 #[S, .string ⟨#[103, 101, 116]⟩] w fun e w' => e = .returned (.tuple #[.string ⟨#[]⟩, .bool false]) ∧ w = w' := by
  go_enter Tryz.func42, Tryz.ntmps42
  go_wp2
  go_ret2
  exact ⟨rfl, rfl⟩
set_option maxRecDepth 100000 in
set_option maxHeartbeats 2000000 in
theorem signs_put (S : Value) (w : World) : Calls Tryz.prog 43 #[S, .string ⟨#[112, 117, 116]⟩] w fun e w' => e = .returned (.tuple #[.string ⟨#[]⟩, .bool false]) ∧ w = w' := by
  go_enter Tryz.func43, Tryz.ntmps43
  go_wp2
  go_ret2
  exact ⟨rfl, rfl⟩
set_option maxRecDepth 100000 in
set_option maxHeartbeats 2000000 in
theorem signs_get (S : Value) (w : World) : Calls Tryz.prog 43 #[S, .string ⟨#[103, 101, 116]⟩] w fun e w' => e = .returned (.tuple #[.string ⟨#[]⟩, .bool false]) ∧ w = w' := by
  go_enter Tryz.func43, Tryz.ntmps43
  go_wp2
  go_ret2
  exact ⟨rfl, rfl⟩
end Go.Proofs.YtkmpbmlcmglmnaaGreatDoor
