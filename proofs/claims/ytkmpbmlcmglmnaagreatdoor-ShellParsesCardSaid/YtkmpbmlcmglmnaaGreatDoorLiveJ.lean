/- The trie's commands of the law's own script: get. -/
import Derived.Test.YtkmpbmlcmglmnaaGreatDoorLiveI
set_option linter.all false
namespace Go.Proofs.YtkmpbmlcmglmnaaGreatDoor
open Go Go.RowKit
theorem TrieAt.below {w w' : World} {T lo : Nat} (h : TrieAt w T lo) (hb : Below w.heap.size w w') : TrieAt w' T lo := by
  obtain ⟨N, P, V, pc, vc, h1, h2, h3, h4, h5, h6⟩ := h
  exact ⟨N, P, V, pc, vc, (hb.block T (Array.getElem?_eq_some_iff.1 h1).1).trans h1, (hb.block N (Array.getElem?_eq_some_iff.1 h2).1).trans h2, cell_kept2 hb h3, cell_kept2 hb h4, cell_kept2 hb h5, h6⟩
set_option maxRecDepth 100000 in
set_option maxHeartbeats 2000000 in
theorem keeps_get (hT : TrimOk) (hI : IndexOk) (hB : WByteOk) (hS2 : StringOk) (S T A cap lo : Nat) (w : World) (hS : ShellAt w S T A 1 cap) (h1 : w.cell? ⟨A, 1, none⟩ = some (.string ⟨#[54, 49]⟩)) (hN : TrieAt w T lo) :
    Calls Tryz.prog 44 #[.pointer (some ⟨S, 0, none⟩), .string ⟨#[103, 101, 116]⟩] w fun e w' => e = .returned (.tuple #[.string ⟨#[54, 50]⟩, .bool true]) ∧ Below w.heap.size w w' := by
  have c0 := hS.c0
  have c1 := hS.c1
  go_enter Tryz.func44, Tryz.ntmps44
  have hTa := Lib.hid hN
  go_wp2_with fail
  go_region_with (first
    | (go_at_call 78; refine (get_prog T lo K 0 kc w1 hN1 k01).mono ?_; rintro e2 w2 ⟨v2, rfl, hk2, hb2⟩; obtain ⟨V, vc, rfl, hV1, hV2, hVc⟩ := own_cells hk2 (by omega); have v02 : w2.cell? ⟨V, 0, none⟩ = some (.int .u8 98) := hVc 0 (by omega))
    | (go_at_call 61; refine (b_zero hT hI S A 1 cap w.drew (by omega) (by omega) c0 h1).mono ?_; rintro e1 w1 ⟨v1, rfl, hk1, hb0⟩; have hb1 : Below w.heap.size w w1 := ⟨hb0.os, hb0.tape, hb0.output, hb0.size, hb0.block⟩; clear hb0; obtain ⟨K, kc, rfl, hK1, hK2, hKc⟩ := own_cells hk1 (by omega); have c11 := cell_kept2 hb1 c1; have hN1 := hTa.out.below hb1; have k01 : w1.cell? ⟨K, 0, none⟩ = some (.int .u8 97) := hKc 0 (by omega)))
  all_goals
    go_wp2_with (go_at_call 62; refine (hex_one hB hS2 V 0 vc w2 v02).mono ?_; rintro e3 w3 ⟨rfl, hb3⟩)
  all_goals
    go_ret2
    exact ⟨rfl, (hb1.trans (hb2.mono hb1.size)).trans (hb3.mono (Nat.le_trans hb1.size hb2.size))⟩
end Go.Proofs.YtkmpbmlcmglmnaaGreatDoor
