/- The trie of the law's own script: Put and Get. -/
import Derived.Test.YtkmpbmlcmglmnaaGreatDoorLiveF
set_option linter.all false
namespace Go.Proofs.YtkmpbmlcmglmnaaGreatDoor
open Go Go.RowKit
set_option maxRecDepth 100000 in
set_option maxHeartbeats 2000000 in
theorem put_prog (T kb ko kc vb vo vc : Nat) (w : World) (hT : w.heap[T]? = some (.cells #[.pointer none, .int .i64 0] 111 (0, 0))) (hk : w.cell? ⟨kb, ko, none⟩ = some (.int .u8 97)) (hv : w.cell? ⟨vb, vo, none⟩ = some (.int .u8 98)) (hvT : T ≠ vb) :
    Calls Tryz.prog 75 #[.pointer (some ⟨T, 0, none⟩), .slice (some ⟨kb, ko, none⟩) 1 kc, .slice (some ⟨vb, vo, none⟩) 1 vc] w fun e w' => e = .returned (.int .i64 0) ∧ TrieAt w' T w.heap.size ∧ w.grownBy w' (some T) := by
  go_enter Tryz.func75, Tryz.ntmps75
  go_wp2_with (first
    | (go_at_call 149; refine (check_one _ _ _ _ _).mono ?_; rintro e0 w0 ⟨rfl, rfl⟩)
    | (go_at_call 150; refine (put0_prog T kb ko kc vb vo vc _ hT hk hv hvT).mono ?_; rintro e1 w1 ⟨rfl, ht, hg⟩))
  go_ret
  exact ⟨rfl, ht, hg⟩
theorem conv_two {w : World} {b : Nat} (cap : Nat) (h0 : w.cell? ⟨b, 0, none⟩ = some (.int .u8 6)) (h1 : w.cell? ⟨b, 1, none⟩ = some (.int .u8 1)) : (convert 47 9 (.slice (some ⟨b, 0, none⟩) 2 cap)).run Tryz.prog w = .ok (.string ⟨#[6, 1]⟩) w :=
  run_convert_bytes_back w _ _ _ ⟨b, 0, none⟩ cap [6, 1] Tryz.underlying47 Tryz.underlying5 Tryz.underlying9 (fun j hj => by
    have : j = 0 ∨ j = 1 := by simp at hj; omega
    rcases this with rfl | rfl
    · simpa [Addr.add] using h0
    · simpa [Addr.add] using h1)
set_option maxRecDepth 100000 in
set_option maxHeartbeats 1000000 in
theorem equal_two (a b c d : Nat) (w : World) (h0 : w.cell? ⟨a, 0, none⟩ = some (.int .u8 6)) (h1 : w.cell? ⟨a, 1, none⟩ = some (.int .u8 1)) (g0 : w.cell? ⟨b, 0, none⟩ = some (.int .u8 6)) (g1 : w.cell? ⟨b, 1, none⟩ = some (.int .u8 1)) :
    Calls Tryz.prog 218 #[.slice (some ⟨a, 0, none⟩) 2 c, .slice (some ⟨b, 0, none⟩) 2 d] w fun e w' => e = .returned (.bool true) ∧ w = w' := by
  have k1 := conv_two (w := w) c h0 h1
  have k2 := conv_two (w := w) d g0 g1
  go_enter Tryz.func218, Tryz.ntmps218
  go_wp2
  go_ret
  refine ⟨?_, rfl⟩
  rfl
set_option maxRecDepth 100000 in
set_option maxHeartbeats 1000000 in
theorem nget (N P V pc vc kb kc : Nat) (w : World) (hN : w.heap[N]? = some (.cells #[.slice (some ⟨P, 0, none⟩) 2 pc, .slice (some ⟨V, 0, none⟩) 1 vc, .pointer none, .pointer none] 239 (0, 0)))
    (p0 : w.cell? ⟨P, 0, none⟩ = some (.int .u8 6)) (p1 : w.cell? ⟨P, 1, none⟩ = some (.int .u8 1)) (k0 : w.cell? ⟨kb, 0, none⟩ = some (.int .u8 6)) (k1 : w.cell? ⟨kb, 1, none⟩ = some (.int .u8 1)) :
    Calls Tryz.prog 152 #[.pointer (some ⟨N, 0, none⟩), .slice (some ⟨kb, 0, none⟩) 2 kc] w fun e w' => e = .returned (.tuple #[.slice (some ⟨V, 0, none⟩) 1 vc, .bool true]) ∧ Below w.heap.size w w' := by
  have c0 : w.cell? ⟨N, 0, none⟩ = some (.slice (some ⟨P, 0, none⟩) 2 pc) := by simp [World.cell?, hN]
  have c1 : w.cell? ⟨N, 1, none⟩ = some (.slice (some ⟨V, 0, none⟩) 1 vc) := by simp [World.cell?, hN]
  have c2 : w.cell? ⟨N, 2, none⟩ = some (.pointer none) := by simp [World.cell?, hN]
  have c3 : w.cell? ⟨N, 3, none⟩ = some (.pointer none) := by simp [World.cell?, hN]
  go_enter Tryz.func152, Tryz.ntmps152
  go_wp2_with fail
  go_region_with (first | (go_at_call 218; (first | refine (equal_two kb P kc pc w.drew k0 k1 p0 p1).mono ?_ | refine (equal_two kb P kc pc _ k0 k1 p0 p1).mono ?_); rintro e1 w1 ⟨rfl, rfl⟩))
  all_goals
    go_wp2
    go_ret2
    exact ⟨rfl, by go_grown⟩
set_option maxRecDepth 100000 in
set_option maxHeartbeats 1000000 in
theorem get_prog (T lo kb ko kc : Nat) (w : World) (hT : TrieAt w T lo) (hk : w.cell? ⟨kb, ko, none⟩ = some (.int .u8 97)) :
    Calls Tryz.prog 78 #[.pointer (some ⟨T, 0, none⟩), .slice (some ⟨kb, ko, none⟩) 1 kc] w fun e w' => ∃ v, e = .returned (.tuple #[v, .bool true]) ∧ w'.ownsRow w.heap.size 5 1 v 1 [.int .u8 98] ∧ Below w.heap.size w w' := by
  obtain ⟨N, P, V, pc, vc, hT, hN, p0, p1, v0, _⟩ := hT
  have hNl := (Array.getElem?_eq_some_iff.1 hN).1
  have t0 : w.cell? ⟨T, 0, none⟩ = some (.pointer (some ⟨N, 0, none⟩)) := by simp [World.cell?, hT]
  go_enter Tryz.func78, Tryz.ntmps78
  go_wp2_with fail
  go_region_with (first
    | (go_at_call 151; (first | refine (nibOf kb ko kc w.drew hk).mono ?_ | refine (nibOf kb ko kc _ hk).mono ?_); rintro e1 w1 ⟨k1, rfl, hk1, hb0⟩; have hb1 : Below w.heap.size w w1 := ⟨hb0.os, hb0.tape, hb0.output, hb0.size, hb0.block⟩; clear hb0; obtain ⟨K, kc1, rfl, hK1, hK2, hKc⟩ := own_cells hk1 (by omega); have t1 := cell_kept2 hb1 t0; have hN1 := (hb1.block N hNl).trans hN; have p01 := cell_kept2 hb1 p0; have p11 := cell_kept2 hb1 p1; have v01 := cell_kept2 hb1 v0; have q0 : w1.cell? ⟨K, 0, none⟩ = some (.int .u8 6) := hKc 0 (by omega); have q1 : w1.cell? ⟨K, 1, none⟩ = some (.int .u8 1) := hKc 1 (by omega))
    | (go_at_call 152; (first | refine (nget N P V pc vc K kc1 w1.drew hN1 p01 p11 q0 q1).mono ?_ | refine (nget N P V pc vc K kc1 _ hN1 p01 p11 q0 q1).mono ?_); rintro e2 w2 ⟨rfl, hb0⟩; have hb2 : Below w1.heap.size w1 w2 := ⟨hb0.os, hb0.tape, hb0.output, hb0.size, hb0.block⟩; clear hb0; have v02 := cell_kept2 hb2 v01))
  all_goals
    go_wp2_with (go_at_call 38; (first | refine (clone_one V 0 vc 98 w2.drew v02).mono ?_ | refine (clone_one V 0 vc 98 _ v02).mono ?_); rintro e3 w3 ⟨v3, rfl, hk3, hb0⟩; have hb3 : Below w2.heap.size w2 w3 := ⟨hb0.os, hb0.tape, hb0.output, hb0.size, hb0.block⟩; have hs : w.heap.size ≤ w2.heap.size := Nat.le_trans hb1.size hb2.size; have hk4 : w3.ownsRow w2.heap.size 5 1 v3 1 [.int .u8 98] := hk3)
  all_goals
    go_ret2
    exact ⟨v3, rfl, ⟨hk4.1, hk4.2.imp id (by rintro ⟨g, cap, cur, e, h1, h2⟩; exact ⟨g, cap, cur, e, by omega, h2⟩)⟩, (hb1.trans (hb2.mono hb1.size)).trans (hb3.mono hs)⟩
end Go.Proofs.YtkmpbmlcmglmnaaGreatDoor
