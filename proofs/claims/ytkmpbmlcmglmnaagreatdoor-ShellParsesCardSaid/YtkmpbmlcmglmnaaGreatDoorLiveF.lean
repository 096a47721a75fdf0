/- The trie of the law's own script: one thing put, and had again. -/
import Derived.Test.YtkmpbmlcmglmnaaGreatDoorLiveE
set_option linter.all false
namespace Go.Proofs.YtkmpbmlcmglmnaaGreatDoor
open Go Go.RowKit
theorem own_cells {w : World} {base n : Nat} {v : Value} {xs : List Value} (h : w.ownsRow base 5 1 v n xs) (h0 : 0 < n) :
    ∃ g cap, v = .slice (some ⟨g, 0, none⟩) n cap ∧ base ≤ g ∧ g < w.heap.size ∧ (∀ k, k < n → w.cell? ⟨g, k, none⟩ = xs[k]?) := by
  rcases h.2 with ⟨_, hn⟩ | ⟨g, cap, cur, rfl, hb, hg, hc, hm, _, ht⟩
  · omega
  · refine ⟨g, cap, rfl, hb, (Array.getElem?_eq_some_iff.1 hg).1, fun k hk => ?_⟩
    rw [cell_of_row w g k cur _ _ hg, ← ht, List.getElem?_take, if_pos (by omega)]
    simp
def TrieAt (w : World) (T lo : Nat) : Prop := ∃ N P V pc vc, w.heap[T]? = some (.cells #[.pointer (some ⟨N, 0, none⟩), .int .i64 1] 111 (0, 0)) ∧
  w.heap[N]? = some (.cells #[.slice (some ⟨P, 0, none⟩) 2 pc, .slice (some ⟨V, 0, none⟩) 1 vc, .pointer none, .pointer none] 239 (0, 0)) ∧
  w.cell? ⟨P, 0, none⟩ = some (.int .u8 6) ∧ w.cell? ⟨P, 1, none⟩ = some (.int .u8 1) ∧ w.cell? ⟨V, 0, none⟩ = some (.int .u8 98) ∧ lo ≤ N ∧ lo ≤ P ∧ lo ≤ V
set_option maxRecDepth 100000 in
set_option maxHeartbeats 1000000 in
theorem nibOf (b o cap : Nat) (w : World) (h0 : w.cell? ⟨b, o, none⟩ = some (.int .u8 97)) :
    Calls Tryz.prog 151 #[.slice (some ⟨b, o, none⟩) 1 cap] w fun e w' => ∃ v, e = .returned v ∧ w'.ownsRow w.heap.size 5 1 v 2 [.int .u8 6, .int .u8 1] ∧ Below w.heap.size w w' := by
  go_enter Tryz.func151, Tryz.ntmps151
  go_wp2_with (go_at_call 217; refine (nib_of b o cap _ h0).mono ?_; rintro e1 w1 ⟨k1, rfl, hk1, hb1⟩)
  go_ret
  exact ⟨_, rfl, hk1, hb1⟩
set_option maxRecDepth 100000 in
set_option maxHeartbeats 1000000 in
theorem get_nil (k : Value) (w : World) : Calls Tryz.prog 152 #[.pointer none, k] w fun e w' => e = .returned (.tuple #[.slice none 0 0, .bool false]) ∧ w = w' := by
  go_enter Tryz.func152, Tryz.ntmps152
  go_wp2_with fail
  go_ret2
  exact ⟨rfl, rfl⟩
set_option maxRecDepth 100000 in
set_option maxHeartbeats 1000000 in
theorem check_one (a b : Option Addr) (c d : Nat) (w : World) : Calls Tryz.prog 149 #[.slice a 1 c, .slice b 1 d] w fun e w' => e = .returned (.int .i64 0) ∧ w = w' := by
  go_enter Tryz.func149, Tryz.ntmps149
  go_wp2_with fail
  go_ret
  exact ⟨rfl, rfl⟩
set_option maxRecDepth 100000 in
set_option maxHeartbeats 1000000 in
theorem nput (k v : Value) (w : World) (hk : ∃ a n c, k = .slice a n c) (hv : ∃ a n c, v = .slice a n c) : Calls Tryz.prog 216 #[.pointer none, k, v] w fun e w' => e = .returned (.pointer (some ⟨w.heap.size, 0, none⟩)) ∧ w' = w.alloc (.cells #[k, v, .pointer none, .pointer none] 239) := by
  obtain ⟨a, n, c, rfl⟩ := hk
  obtain ⟨a2, n2, c2, rfl⟩ := hv
  go_enter Tryz.func216, Tryz.ntmps216
  go_wp2_with fail
  go_ret
  exact ⟨rfl, rfl⟩
theorem put_fin {w w1 w4 : World} {T P V pc vcap : Nat} (hTl : T < w.heap.size) (hb1 : Below w.heap.size w w1) (hT1 : w1.heap[T]? = some (.cells #[.pointer none, .int .i64 0] 111 (0, 0)))
    (hb4 : Below (w1.setCell ⟨T, 1, none⟩ (.int .i64 1)).heap.size (w1.setCell ⟨T, 1, none⟩ (.int .i64 1)) w4) (hP1 : w.heap.size ≤ P) (hP2 : P < w1.heap.size) (hPc : ∀ k, k < 2 → w1.cell? ⟨P, k, none⟩ = [Value.int .u8 6, .int .u8 1][k]?)
    (hV1 : (w1.setCell ⟨T, 1, none⟩ (.int .i64 1)).heap.size ≤ V) (hV2 : V < w4.heap.size) (hVc : ∀ k, k < 1 → w4.cell? ⟨V, k, none⟩ = [Value.int .u8 98][k]?) :
    TrieAt ((w4.setCell ⟨T, 0, none⟩ (.pointer (some ⟨w4.heap.size, 0, none⟩))).alloc (.cells #[.slice (some ⟨P, 0, none⟩) 2 pc, .slice (some ⟨V, 0, none⟩) 1 vcap, .pointer none, .pointer none] 239)) T w.heap.size ∧
    w.grownBy ((w4.setCell ⟨T, 0, none⟩ (.pointer (some ⟨w4.heap.size, 0, none⟩))).alloc (.cells #[.slice (some ⟨P, 0, none⟩) 2 pc, .slice (some ⟨V, 0, none⟩) 1 vcap, .pointer none, .pointer none] 239)) (some T) := by
  have hs1 := hb1.size
  have hsW : (w1.setCell ⟨T, 1, none⟩ (.int .i64 1)).heap.size = w1.heap.size := by simp
  have hs4 := hb4.size
  rw [hsW] at hs4 hV1
  have hTc : (w1.setCell ⟨T, 1, none⟩ (.int .i64 1)).heap[T]? = some (.cells #[.pointer none, .int .i64 1] 111 (0, 0)) := by simp [World.setCell, Array.getElem?_modify, hT1]
  have hT4 := (hb4.block T (by omega)).trans hTc
  have hP : ∀ k, k < 2 → w4.cell? ⟨P, k, none⟩ = [Value.int .u8 6, .int .u8 1][k]? := fun k hk => by
    rw [hb4.cell (p := ⟨P, k, none⟩) (by show P < _; omega), World.cell?_setCell_far w1 ⟨T, 1, none⟩ ⟨P, k, none⟩ _ (by show T ≠ P; omega)]
    exact hPc k hk
  have far : ∀ B j, B < w4.heap.size → T ≠ B → ((w4.setCell ⟨T, 0, none⟩ (.pointer (some ⟨w4.heap.size, 0, none⟩))).alloc (.cells #[.slice (some ⟨P, 0, none⟩) 2 pc, .slice (some ⟨V, 0, none⟩) 1 vcap, .pointer none, .pointer none] 239)).cell? ⟨B, j, none⟩ = w4.cell? ⟨B, j, none⟩ := fun B j hB hne => by
    rw [World.cell?_alloc_lt _ _ _ (by show B < _; simp; omega), World.cell?_setCell_far w4 ⟨T, 0, none⟩ ⟨B, j, none⟩ _ hne]
  refine ⟨⟨w4.heap.size, P, V, pc, vcap, ?_, ?_, ?_, ?_, ?_, by omega, hP1, by omega⟩, ?_⟩
  · rw [heap_alloc_at, if_neg (by simp; omega)]
    simp [World.setCell, Array.getElem?_modify, hT4]
  · rw [heap_alloc_at, if_pos (by simp)]
  · rw [far P 0 (by omega) (by omega), hP 0 (by omega)]; rfl
  · rw [far P 1 (by omega) (by omega), hP 1 (by omega)]; rfl
  · rw [far V 0 hV2 (by omega), hVc 0 (by omega)]; rfl
  · refine ⟨?_, ?_, ?_, ?_, ?_⟩
    · exact hb4.os.trans hb1.os
    · exact hb4.tape.trans hb1.tape
    · exact hb4.output.trans hb1.output
    · simp; omega
    · intro k hk hne
      have hkT : k ≠ T := fun e => hne (by rw [e])
      rw [heap_alloc_at, if_neg (by simp; omega), Below.heap_setCell _ _ _ _ hkT, hb4.block k (by omega), Below.heap_setCell _ _ _ _ hkT]
      exact hb1.block k hk
set_option maxRecDepth 100000 in
set_option maxHeartbeats 2000000 in
theorem put0_prog (T kb ko kc vb vo vc : Nat) (w : World) (hT : w.heap[T]? = some (.cells #[.pointer none, .int .i64 0] 111 (0, 0))) (hk : w.cell? ⟨kb, ko, none⟩ = some (.int .u8 97)) (hv : w.cell? ⟨vb, vo, none⟩ = some (.int .u8 98)) (hvT : T ≠ vb) :
    Calls Tryz.prog 150 #[.pointer (some ⟨T, 0, none⟩), .slice (some ⟨kb, ko, none⟩) 1 kc, .slice (some ⟨vb, vo, none⟩) 1 vc] w fun e w' => e = .returned (.tuple #[]) ∧ TrieAt w' T w.heap.size ∧ w.grownBy w' (some T) := by
  have hTl := (Array.getElem?_eq_some_iff.1 hT).1
  have hkl : kb < w.heap.size := World.block_lt_of_cell? w ⟨kb, ko, none⟩ hk
  have hvl : vb < w.heap.size := World.block_lt_of_cell? w ⟨vb, vo, none⟩ hv
  go_enter Tryz.func150, Tryz.ntmps150
  go_wp2_with (first
    | (go_at_call 151; refine (nibOf kb ko kc _ hk).mono ?_; rintro e1 w1 ⟨k1, rfl, hk1, hb1⟩; have hT1 := (hb1.block T hTl).trans hT; have hv1 := cell_kept2 hb1 hv; have t0 : w1.cell? ⟨T, 0, none⟩ = some (.pointer none) := (by simp [World.cell?, hT1]); have t1 : w1.cell? ⟨T, 1, none⟩ = some (.int .i64 0) := (by simp [World.cell?, hT1]); have f0 : w1.frozen? ⟨T, 0, none⟩ = false := (by simp [World.frozen?, hT1]); have f1 : w1.frozen? ⟨T, 1, none⟩ = false := (by simp [World.frozen?, hT1]); have hs1 := hb1.size; obtain ⟨P, pc, rfl, hP1, hP2, hPc⟩ := own_cells hk1 (by omega))
    | (go_at_call 152; refine (get_nil _ _).mono ?_; rintro e3 w3 ⟨rfl, rfl⟩)
    | (go_at_call 38; fail))
  have hvc : (w1.setCell ⟨T, 1, none⟩ (.int .i64 1)).cell? ⟨vb, vo, none⟩ = some (.int .u8 98) := (World.cell?_setCell_far w1 ⟨T, 1, none⟩ ⟨vb, vo, none⟩ _ hvT).trans hv1
  have hTc : (w1.setCell ⟨T, 1, none⟩ (.int .i64 1)).heap[T]? = some (.cells #[.pointer none, .int .i64 1] 111 (0, 0)) := by simp [World.setCell, Array.getElem?_modify, hT1]
  have tc0 : (w1.setCell ⟨T, 1, none⟩ (.int .i64 1)).cell? ⟨T, 0, none⟩ = some (.pointer none) := by simp [World.cell?, hTc]
  have hTW : T < (w1.setCell ⟨T, 1, none⟩ (.int .i64 1)).heap.size := by simp; omega
  go_region_with (first
    | (go_at_call 38; (first | refine (clone_one vb vo vc 98 (w1.setCell ⟨T, 1, none⟩ (.int .i64 1)).drew hvc).mono ?_ | refine (clone_one vb vo vc 98 _ hvc).mono ?_); rintro e4 w4 ⟨v4, rfl, hk4, hb4⟩; obtain ⟨V, vcap, rfl, hV1, hV2, hVc⟩ := own_cells hk4 (by omega); have hT4 := (hb4.block T hTW).trans hTc; have x0 : w4.cell? ⟨T, 0, none⟩ = some (.pointer none) := (by simp [World.cell?, hT4]); have y0 : w4.frozen? ⟨T, 0, none⟩ = false := (by simp [World.frozen?, hT4]); have hT5 : T < w4.heap.size := Nat.lt_of_lt_of_le hTW hb4.size)
    | (go_at_call 216; refine (nput _ _ _ ⟨_, _, _, rfl⟩ ⟨_, _, _, rfl⟩).mono ?_; rintro e5 w5 ⟨rfl, rfl⟩))
  all_goals
    have hb4' : Below (w1.setCell ⟨T, 1, none⟩ (.int .i64 1)).heap.size (w1.setCell ⟨T, 1, none⟩ (.int .i64 1)) w4 := ⟨hb4.os, hb4.tape, hb4.output, hb4.size, hb4.block⟩
    go_wp2
    go_end0
    exact ⟨rfl, put_fin hTl hb1 hT1 hb4' hP1 hP2 hPc hV1 hV2 hVc⟩
end Go.Proofs.YtkmpbmlcmglmnaaGreatDoor
