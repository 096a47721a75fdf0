/- The trie's commands of the law's own script. -/
import Derived.Test.YtkmpbmlcmglmnaaGreatDoorLiveH
set_option linter.all false
namespace Go.Proofs.YtkmpbmlcmglmnaaGreatDoor
open Go Go.RowKit
theorem grown_behind {w w2 w3 : World} {row : Option Nat} (hb : Below w.heap.size w w2) (hg : w2.grownBy w3 row) : w.grownBy w3 row :=
  ⟨hg.os.trans hb.os, hg.tape.trans hb.tape, hg.output.trans hb.output, Nat.le_trans hb.size hg.size, fun k hk hne => (hg.block k (Nat.lt_of_lt_of_le hk hb.size) hne).trans (hb.block k hk)⟩
theorem TrieAt.mono {w : World} {T a b : Nat} (h : TrieAt w T b) (hab : a ≤ b) : TrieAt w T a := by
  obtain ⟨N, P, V, pc, vc, h1, h2, h3, h4, h5, h6, h7, h8⟩ := h
  exact ⟨N, P, V, pc, vc, h1, h2, h3, h4, h5, by omega, by omega, by omega⟩
theorem b_zero (hT : TrimOk) (hI : IndexOk) (S A n cap : Nat) (w : World) (hi : 0 < n) (hn : n ≤ 65537) (h0 : w.cell? ⟨S, 0, none⟩ = some (.slice (some ⟨A, 1, none⟩) n cap)) (h1 : w.cell? ⟨A, 1, none⟩ = some (.string ⟨#[54, 49]⟩)) :
    Calls Tryz.prog 61 #[.pointer (some ⟨S, 0, none⟩), .int .i64 0] w fun e w' => ∃ v, e = .returned v ∧ w'.ownsRow w.heap.size 5 1 v 1 [.int .u8 97] ∧ Below w.heap.size w w' :=
  b_prog hT hI S A n cap 0 49 97 (.inl ⟨rfl, rfl⟩) w h0 hi hn h1
theorem b_one (hT : TrimOk) (hI : IndexOk) (S A cap : Nat) (w : World) (h0 : w.cell? ⟨S, 0, none⟩ = some (.slice (some ⟨A, 1, none⟩) 2 cap)) (h1 : w.cell? ⟨A, 2, none⟩ = some (.string ⟨#[54, 50]⟩)) :
    Calls Tryz.prog 61 #[.pointer (some ⟨S, 0, none⟩), .int .i64 1] w fun e w' => ∃ v, e = .returned v ∧ w'.ownsRow w.heap.size 5 1 v 1 [.int .u8 98] ∧ Below w.heap.size w w' :=
  b_prog hT hI S A 2 cap 1 50 98 (.inr ⟨rfl, rfl⟩) w h0 (by omega) (by omega) h1
set_option maxRecDepth 100000 in
set_option maxHeartbeats 2000000 in
theorem keeps_put (hT : TrimOk) (hI : IndexOk) (S T A cap : Nat) (w : World) (hS : ShellAt w S T A 2 cap) (h1 : w.cell? ⟨A, 1, none⟩ = some (.string ⟨#[54, 49]⟩)) (h2 : w.cell? ⟨A, 2, none⟩ = some (.string ⟨#[54, 50]⟩)) (hN : w.heap[T]? = some (.cells #[.pointer none, .int .i64 0] 111 (0, 0))) :
    Calls Tryz.prog 44 #[.pointer (some ⟨S, 0, none⟩), .string ⟨#[112, 117, 116]⟩] w fun e w' => e = .returned (.tuple #[.string ⟨#[111, 107]⟩, .bool true]) ∧ TrieAt w' T w.heap.size ∧ w.grownBy w' (some T) := by
  have c0 := hS.c0
  have c1 := hS.c1
  go_enter Tryz.func44, Tryz.ntmps44
  have hSl := hS.lt
  have hTl := (Array.getElem?_eq_some_iff.1 hN).1
  go_wp2_with fail
  go_region_with (first
    | (go_at_call 67; refine (refused_ok _ _).mono ?_; rintro e4 w4 ⟨rfl, rfl⟩)
    | (go_at_call 75; refine (put_prog T K 0 kc V 0 vc w2 hN2 k02 v02 hTV).mono ?_; rintro e3 w3 ⟨rfl, hta, hgr⟩)
    | (go_at_call 61; refine (b_one hT hI S A cap w1 c01 h21).mono ?_; rintro e2 w2 ⟨v2, rfl, hk2, hb2⟩; obtain ⟨V, vc, rfl, hV1, hV2, hVc⟩ := own_cells hk2 (by omega); have k02 := cell_kept2 hb2 k01; have c12 := cell_kept2 hb2 c11; have hN2 := (hb2.block T (Nat.lt_of_lt_of_le hTl hb1.size)).trans hN1; have v02 : w2.cell? ⟨V, 0, none⟩ = some (.int .u8 98) := hVc 0 (by omega); have hTV : T ≠ V := (by have := hb1.size; omega))
    | (go_at_call 61; refine (b_zero hT hI S A 2 cap w.drew (by omega) (by omega) c0 h1).mono ?_; rintro e1 w1 ⟨v1, rfl, hk1, hb0⟩; have hb1 : Below w.heap.size w w1 := ⟨hb0.os, hb0.tape, hb0.output, hb0.size, hb0.block⟩; clear hb0; obtain ⟨K, kc, rfl, hK1, hK2, hKc⟩ := own_cells hk1 (by omega); have c01 := cell_kept2 hb1 c0; have c11 := cell_kept2 hb1 c1; have h21 := cell_kept2 hb1 h2; have hN1 := (hb1.block T hTl).trans hN; have k01 : w1.cell? ⟨K, 0, none⟩ = some (.int .u8 97) := hKc 0 (by omega)))
  all_goals
    go_wp2
    go_ret2
    exact ⟨rfl, hta.mono (Nat.le_trans hb1.size hb2.size), grown_behind (hb1.trans (hb2.mono hb1.size)) hgr⟩
end Go.Proofs.YtkmpbmlcmglmnaaGreatDoor
