/- Small functions of the program at the words that the law's own script has. -/
import Derived.Test.YtkmpbmlcmglmnaaGreatDoorCodeE
import Derived.Handy
import Derived.LoopN
import Derived.Laws.IdiomStrings
set_option linter.all false
namespace Go.Proofs.YtkmpbmlcmglmnaaGreatDoor
open Go Go.RowKit
theorem nan_no (x : Nat) (w : World) : Calls Tryz.prog 296 #[.int .u64 x] w fun e w' => e = .returned (.bool false) ∧ w' = w := by
  go_enter Tryz.func296, Tryz.ntmps296
  go_wp2
  go_ret
  exact ⟨rfl, rfl⟩
theorem compare_lt (x y : Nat) (w : World) (h : x < y) : Calls Tryz.prog 247 #[.int .u64 x, .int .u64 y] w fun e w' => e = .returned (.int .i64 (-1)) ∧ w' = w := by
  go_enter Tryz.func247, Tryz.ntmps247
  have hI : (x : Int) < (y : Int) := by omega
  go_wp2_with (go_at_call 296; refine (nan_no _ _).mono ?_; rintro e1 w1 ⟨rfl, rfl⟩)
  all_goals
    go_ret
    exact ⟨rfl, rfl⟩
theorem compare_eq (x : Nat) (w : World) : Calls Tryz.prog 247 #[.int .u64 x, .int .u64 x] w fun e w' => e = .returned (.int .i64 0) ∧ w' = w := by
  go_enter Tryz.func247, Tryz.ntmps247
  go_wp2_with (go_at_call 296; refine (nan_no _ _).mono ?_; rintro e1 w1 ⟨rfl, rfl⟩)
  all_goals
    go_ret
    exact ⟨rfl, rfl⟩
def CmpRel (w : World) (i : Value) (wr : World) : Prop :=
  ∃ k : Nat, k ≤ 3 ∧ i = .int .i64 k ∧ Quad wr w.heap.size [5, 0, 0, 0] ∧ Quad wr (w.heap.size + 1) [10, 0, 0, 0] ∧ Below w.heap.size w wr
theorem new_cell (W : World) (vals : Array Value) (t : TypeId) (j : Nat) : (W.alloc (.cells vals t)).cell? ⟨W.heap.size, j, none⟩ = vals[j]? := cell_of_row _ _ j vals _ _ (heap_alloc_new W _)
theorem kept_new3 {w w1 : World} {o1 o2 : Obj} {vals : Array Value} {t : TypeId} (hb : Below (((w.alloc o1).alloc o2).alloc (.cells vals t)).heap.size (((w.alloc o1).alloc o2).alloc (.cells vals t)) w1) :
    (∀ j v, vals[j]? = some v → w1.cell? ⟨w.heap.size + 1 + 1, j, none⟩ = some v) ∧ Soft w1 (w.heap.size + 1 + 1) := by
  have e : ((w.alloc o1).alloc o2).heap.size = w.heap.size + 1 + 1 := by simp
  constructor
  · intro j v hv
    refine cell_kept2 hb ?_
    rw [← e, new_cell]
    exact hv
  · rw [← e]
    exact Soft.below (soft_new _ _ _) (by simp) hb
theorem heap_alloc_at (w : World) (o : Obj) (k : Nat) : (w.alloc o).heap[k]? = if k = w.heap.size then some o else w.heap[k]? := by
  show (w.heap.push o)[k]? = _
  rw [Array.getElem?_push]
theorem keptAt {W w1 : World} (hb : Below W.heap.size W w1) {B : Nat} {vals : Array Value} {t : TypeId} (h : W.heap[B]? = some (.cells vals t (0, 0))) : (∀ j v, vals[j]? = some v → w1.cell? ⟨B, j, none⟩ = some v) ∧ Soft w1 B := by
  have hlt := (Array.getElem?_eq_some_iff.1 h).1
  have h2 : w1.heap[B]? = some (.cells vals t (0, 0)) := (hb.block B hlt).trans h
  refine ⟨fun j v hv => (cell_of_row _ _ j vals _ _ h2).trans hv, fun j => ?_⟩
  simp [World.frozen?, h2]
theorem five_val {r0 r1 r2 r3 c : Nat} (hr : ∀ x ∈ [r0, r1, r2, r3], x < b64) (hv : val b64 [r0, r1, r2, r3] + c * b64 ^ 4 = val b64 [2, 0, 0, 0] + 3) : r0 = 5 ∧ r1 = 0 ∧ r2 = 0 ∧ r3 = 0 ∧ c = 0 := by
  have h0 := hr r0 (by simp)
  simp only [val, b64] at hv h0
  omega
theorem Quad.drew {w : World} {B : Nat} {l : List Nat} (h : Quad w B l) : Quad w.drew B l := h
set_option maxRecDepth 100000 in
set_option maxHeartbeats 1000000 in
theorem cmpr_five (w : World) : Calls Tryz.prog 190 #[.agg #[.int .u64 5, .int .u64 0, .int .u64 0, .int .u64 0], .agg #[.int .u64 10, .int .u64 0, .int .u64 0, .int .u64 0]] w fun e w' => e = .returned (.int .i64 (-1)) ∧ Below w.heap.size w w' := by
  go_enter Tryz.func190, Tryz.ntmps190
  go_wp2
  go_loopw [5] (CmpRel w) (fun i _ => (intOf i).toNat)
  case atStart =>
    refine ⟨3, by omega, rfl, (quad_new w 5 0 0 0 _).alloc _, ?_, ((Below.refl _ _).alloc (Nat.le_refl _) _).alloc (by simp) _⟩
    have := quad_new (w.alloc (.cells #[.int .u64 5, .int .u64 0, .int .u64 0, .int .u64 0] 44)) 10 0 0 0 44
    rw [show (w.alloc (.cells #[.int .u64 5, .int .u64 0, .int .u64 0, .int .u64 0] 44)).heap.size = w.heap.size + 1 by simp] at this
    exact this
  case round =>
    obtain ⟨k, hk, rfl, hq, hr, hb⟩ := hrel
    by_cases h0 : k = 0
    · subst h0
      have c0 := hq 0 (by omega); have d0 := hr 0 (by omega)
      simp only [List.getD_cons_zero] at c0 d0
      go_wp2_with fail
      go_region_with (first | (go_at_call 247; refine (compare_lt 5 10 _ (by omega)).mono ?_; rintro e1 w1 ⟨rfl, rfl⟩))
      all_goals
        go_wp2
        go_ret
        exact ⟨rfl, by first | exact hb | exact hb.drew | exact hb.drew.drew⟩
    · have c0 := hq k (by omega); have d0 := hr k (by omega)
      have e1 : ([5, 0, 0, 0] : List Nat).getD k 0 = 0 := by
        have : k = 1 ∨ k = 2 ∨ k = 3 := by omega
        rcases this with rfl | rfl | rfl <;> rfl
      have e2 : ([10, 0, 0, 0] : List Nat).getD k 0 = 0 := by
        have : k = 1 ∨ k = 2 ∨ k = 3 := by omega
        rcases this with rfl | rfl | rfl <;> rfl
      rw [e1] at c0
      rw [e2] at d0
      clear e1 e2
      have h4 : (k : Int) < 4 := by omega
      go_wp2_with fail
      go_region_with (first | (go_at_call 247; refine (compare_eq 0 _).mono ?_; rintro e1 w1 ⟨rfl, rfl⟩))
      all_goals
        go_wp2
        go_roundw
        case rel => exact ⟨k - 1, by omega, by go_num, by first | exact hq | exact hq.drew | exact hq.drew.drew, by first | exact hr | exact hr.drew | exact hr.drew.drew, by first | exact hb | exact hb.drew | exact hb.drew.drew⟩
        case measure => simp [intOf]; omega
set_option maxRecDepth 100000 in
set_option maxHeartbeats 1000000 in
theorem refused_ok (s : ByteArray) (w : World) : Calls Tryz.prog 67 #[.int .i64 0, .string s] w fun e w' => e = .returned (.string s) ∧ w' = w := by
  go_enter Tryz.func67, Tryz.ntmps67
  go_wp2
  go_ret
  exact ⟨rfl, rfl⟩
set_option maxRecDepth 100000 in
set_option maxHeartbeats 1000000 in
theorem conv_one {w : World} {b : Nat} {c : UInt8} (cap : Nat) (h : w.cell? ⟨b, 0, none⟩ = some (.int .u8 (c.toNat : Int))) : (convert 47 9 (.slice (some ⟨b, 0, none⟩) 1 cap)).run Tryz.prog w = .ok (.string ⟨#[c]⟩) w :=
  run_convert_bytes_back w _ _ _ ⟨b, 0, none⟩ cap [c] Tryz.underlying47 Tryz.underlying5 Tryz.underlying9 (fun j hj => by
    obtain rfl : j = 0 := by simpa using hj
    simpa [Addr.add] using h)
theorem addw_prog (hA : AddOk) (w : World) : Calls Tryz.prog 111 #[.agg #[.int .u64 2, .int .u64 0, .int .u64 0, .int .u64 0], .agg #[.int .u64 3, .int .u64 0, .int .u64 0, .int .u64 0]] w fun e w' => e = .returned (.agg #[.int .u64 5, .int .u64 0, .int .u64 0, .int .u64 0]) ∧ Below w.heap.size w w' := by
  go_enter Tryz.func111, Tryz.ntmps111
  go_wp2_with (go_at_call 53; refine (add_prog hA 2 0 0 0 3 _ (by simp [b64]) (by simp [b64])).mono ?_; rintro e1 w1 ⟨r0, r1, r2, r3, c, rfl, hr, hc, hv, hb⟩; obtain ⟨rfl, rfl, rfl, rfl, rfl⟩ := five_val hr hv.out; have hk := kept_new3 hb; have d0 := hk.1 0 (.int .u64 0) rfl; have d1 := hk.1 1 (.int .u64 0) rfl; have d2 := hk.1 2 (.int .u64 0) rfl; have d3 := hk.1 3 (.int .u64 0) rfl; have f0 := hk.2 0; have f1 := hk.2 1; have f2 := hk.2 2; have f3 := hk.2 3; have hz : w.heap.size + 1 + 1 < w1.heap.size := (by have := hb.size; simp at this; omega); have hn : w.heap.size + 1 + 1 ≠ w1.heap.size := (by omega); have hn2 : ¬ w1.heap.size = w.heap.size + 1 + 1 := (by omega))
  refine bodyPost_ret (v := .agg #[.int .u64 5, .int .u64 0, .int .u64 0, .int .u64 0]) (by simp [results, Tryz.results111, go_sem, d0, d1, d2, d3, hn, hn2, hz]) rfl ⟨rfl, ?_⟩
  have hbx : Below w.heap.size w w1 := ((((Below.refl _ _).alloc (Nat.le_refl _) _).alloc (by simp) _).alloc (by simp; omega) _).trans (hb.mono (by simp; omega))
  go_grown
set_option maxRecDepth 100000 in
set_option maxHeartbeats 1000000 in
theorem div_five (w : World) : Calls Tryz.prog 161 #[.agg #[.int .u64 5, .int .u64 0, .int .u64 0, .int .u64 0], .agg #[.int .u64 10, .int .u64 0, .int .u64 0, .int .u64 0]] w fun e w' => e = .returned (.tuple #[.agg #[.int .u64 0, .int .u64 0, .int .u64 0, .int .u64 0], .agg #[.int .u64 5, .int .u64 0, .int .u64 0, .int .u64 0]]) ∧ Below w.heap.size w w' := by
  go_enter Tryz.func161, Tryz.ntmps161
  have hE : ∀ w, (Op.equalIn 10000 44 (.agg #[.int .u64 10, .int .u64 0, .int .u64 0, .int .u64 0]) (.agg #[.int .u64 0, .int .u64 0, .int .u64 0, .int .u64 0])).run Tryz.prog w = .ok false w := fun _ => by kernel_rfl
  go_wp2_with (go_at_call 190; refine (cmpr_five _).mono ?_; rintro e1 w1 ⟨rfl, hb1⟩; have k0 := keptAt hb1 (B := w.heap.size) (vals := #[.int .u64 5, .int .u64 0, .int .u64 0, .int .u64 0]) (t := 44) (by simp only [heap_alloc_at, World.size_alloc]; repeat (first | rfl | rw [if_pos (by omega)] | rw [if_neg (by omega)])); have k2 := keptAt hb1 (B := w.heap.size + 1 + 1) (vals := #[.int .u64 0, .int .u64 0, .int .u64 0, .int .u64 0]) (t := 44) (by simp only [heap_alloc_at, World.size_alloc]; repeat (first | rfl | rw [if_pos (by omega)] | rw [if_neg (by omega)])); have k3 := keptAt hb1 (B := w.heap.size + 1 + 1 + 1) (vals := #[.int .u64 0, .int .u64 0, .int .u64 0, .int .u64 0]) (t := 44) (by simp only [heap_alloc_at, World.size_alloc]; repeat (first | rfl | rw [if_pos (by omega)] | rw [if_neg (by omega)])); have a0 := k0.1 0 (.int .u64 5) rfl; have a1 := k0.1 1 (.int .u64 0) rfl; have a2 := k0.1 2 (.int .u64 0) rfl; have a3 := k0.1 3 (.int .u64 0) rfl; have b0 := k2.1 0 (.int .u64 0) rfl; have b1 := k2.1 1 (.int .u64 0) rfl; have b2 := k2.1 2 (.int .u64 0) rfl; have b3 := k2.1 3 (.int .u64 0) rfl; have c0 := k3.1 0 (.int .u64 0) rfl; have c1 := k3.1 1 (.int .u64 0) rfl; have c2 := k3.1 2 (.int .u64 0) rfl; have c3 := k3.1 3 (.int .u64 0) rfl; have f0 := k2.2 0; have f1 := k2.2 1; have f2 := k2.2 2; have f3 := k2.2 3; have g0 := k3.2 0; have g1 := k3.2 1; have g2 := k3.2 2; have g3 := k3.2 3; have hz : w.heap.size + 1 + 1 + 1 < w1.heap.size := (by have := hb1.size; simp at this; omega); clear k0 k2 k3)
  go_region
  all_goals go_wp2
  all_goals
    refine bodyPost_ret (v := .tuple #[.agg #[.int .u64 0, .int .u64 0, .int .u64 0, .int .u64 0], .agg #[.int .u64 5, .int .u64 0, .int .u64 0, .int .u64 0]]) (by simp [results, Tryz.results161, go_sem, b0, b1, b2, b3, c0, c1, c2, c3]) rfl ⟨rfl, ?_⟩
    have hbx : Below w.heap.size w w1 := (((((Below.refl _ _).alloc (Nat.le_refl _) _).alloc (by simp) _).alloc (by simp; omega) _).alloc (by simp; omega) _).trans (hb1.mono (by simp; omega))
    go_grown
set_option maxRecDepth 100000 in
set_option maxHeartbeats 1000000 in
theorem reverse_one (a : Option Addr) (c : Nat) (w : World) : Calls Tryz.prog 162 #[.slice a 1 c] w fun e w' => e = .returned (.tuple #[]) ∧ w' = w := by
  go_enter Tryz.func162, Tryz.ntmps162
  go_wp2
  go_rounds 1
  go_end0
  exact ⟨rfl, rfl⟩
set_option maxRecDepth 100000 in
set_option maxHeartbeats 1000000 in
theorem decimal_five (w : World) : Calls Tryz.prog 85 #[.agg #[.int .u64 5, .int .u64 0, .int .u64 0, .int .u64 0]] w fun e w' => e = .returned (.string ⟨#[53]⟩) ∧ Below w.heap.size w w' := by
  have hE : ∀ w, (Op.equalIn 10000 44 (.agg #[.int .u64 0, .int .u64 0, .int .u64 0, .int .u64 0]) (.agg #[.int .u64 0, .int .u64 0, .int .u64 0, .int .u64 0])).run Tryz.prog w = .ok true w := fun _ => by kernel_rfl
  obtain ⟨i0, hi, hz0, hz1, hz2⟩ := info_parts infoU8
  go_enter Tryz.func85, Tryz.ntmps85
  go_wp2
  refine wp_loop_rounds 1 ?_
  rw [rounds_succ]
  go_wp2_with (first | (go_at_call 161; refine (div_five _).mono ?_; rintro e1 w1 ⟨rfl, hb1⟩; have k0 := keptAt hb1 (B := w.heap.size) (vals := #[.int .u64 5, .int .u64 0, .int .u64 0, .int .u64 0]) (t := 44) (by simp only [heap_alloc_at, World.size_alloc]; repeat (first | rfl | rw [if_pos (by omega)] | rw [if_neg (by omega)])); have a0 := k0.1 0 (.int .u64 5) rfl; have a1 := k0.1 1 (.int .u64 0) rfl; have a2 := k0.1 2 (.int .u64 0) rfl; have a3 := k0.1 3 (.int .u64 0) rfl; have f0 := k0.2 0; have f1 := k0.2 1; have f2 := k0.2 2; have f3 := k0.2 3; have hz : w.heap.size < w1.heap.size := (by have := hb1.size; simp at this; omega); have n1 : w.heap.size < w1.heap.size + 1 := (by omega); have n2 : w.heap.size < w1.heap.size + 1 + 1 := (by omega); have n3 : w.heap.size < w1.heap.size + 1 + 1 + 1 := (by omega); have hbx : Below w.heap.size w w1 := ((Below.refl _ _).alloc (Nat.le_refl _) _).trans (hb1.mono (by simp)); clear k0) | (go_at_call 162; refine (reverse_one _ _ _).mono ?_; rintro e2 w2 ⟨rfl, hw2⟩; have y0 : w2.cell? ⟨w1.heap.size + 1 + 1 + 1, 0, none⟩ = some (.int .u8 ((53 : UInt8).toNat : Int)) := (by rw [hw2]; simp [go_sem]; rw [Array.getElem?_append_left (by simp)]; rfl); have hb2 : Below w.heap.size w w2 := (by rw [hw2]; go_grown); clear hw2; have kb := fun cap => conv_one cap y0))
  go_ret
  exact ⟨rfl, by go_grown⟩
end Go.Proofs.YtkmpbmlcmglmnaaGreatDoor
