/- The reference's numbers by digits: a word of digits. -/
import Derived.Test.YtkmpbmlcmglmnaaGreatDoorRefC
import Derived.Deep.RegionHeld
set_option linter.all false
namespace Go.Proofs.YtkmpbmlcmglmnaaGreatDoor
open Go Go.RowKit
def Four (w : World) (B : Nat) : Prop := ∀ j, j < 4 → ∃ v : Int, w.cell? ⟨B, j, none⟩ = some (.int .u64 v)
theorem Four.far {w : World} {B C i : Nat} (h : Four w B) (hne : C ≠ B) (v : Value) : Four (w.setCell ⟨C, i, none⟩ v) B := by
  intro j hj
  obtain ⟨u, hu⟩ := h j hj
  exact ⟨u, (World.cell?_setCell_far w ⟨C, i, none⟩ ⟨B, j, none⟩ v hne).trans hu⟩
theorem four_new (w : World) (t : TypeId) : Four (w.alloc (.cells #[.int .u64 0, .int .u64 0, .int .u64 0, .int .u64 0] t)) w.heap.size := by
  intro j hj
  refine ⟨0, ?_⟩
  rcases (by omega : j = 0 ∨ j = 1 ∨ j = 2 ∨ j = 3) with rfl | rfl | rfl | rfl <;> (unfold World.cell?; rw [show ∀ o : Nat, (⟨w.heap.size, o, none⟩ : Addr).block = w.heap.size from fun _ => rfl, heap_alloc_new]; rfl)
theorem Four.alloc {w : World} {B : Nat} (h : Four w B) (o : Obj) : Four (w.alloc o) B := by
  intro j hj
  obtain ⟨u, hu⟩ := h j hj
  exact ⟨u, Lib.cell?_alloc_some o hu⟩
def Soft (w : World) (B : Nat) : Prop := ∀ j, w.frozen? ⟨B, j, none⟩ = false
theorem Soft.alloc {w : World} {B : Nat} (h : Soft w B) (c : Array Value) (t : TypeId) : Soft (w.alloc (.cells c t)) B := fun j => (frozen?_alloc_cells w c t _).trans (h j)
theorem soft_new (w : World) (c : Array Value) (t : TypeId) : Soft (w.alloc (.cells c t)) w.heap.size := fun j => by
  unfold World.frozen?
  rw [show (⟨w.heap.size, j, none⟩ : Addr).block = w.heap.size from rfl, heap_alloc_new]
  simp
theorem Four.set {w : World} {B i : Nat} (h : Four w B) (v : Int) : Four (w.setCell ⟨B, i, none⟩ (.int .u64 v)) B := by
  intro j hj
  obtain ⟨u, hu⟩ := h j hj
  by_cases e : i = j
  · subst e; exact ⟨v, by rw [World.cell?_setCell_same (h := hu)]⟩
  · exact ⟨u, (World.cell?_setCell_other w ⟨B, i, none⟩ ⟨B, j, none⟩ _ (fun h => e (by cases h; rfl))).trans hu⟩
def WordRel (w : World) (B : Nat) (i : Value) (wr : World) : Prop :=
  ∃ k : Nat, k ≤ 16 ∧ i = .int .i64 k ∧ Four wr B ∧ Soft wr B ∧ Four wr w.heap.size ∧ Soft wr w.heap.size ∧ Below w.heap.size w wr
def WordOut (w : World) (e : Ending) (w' : World) : Prop := ∃ a0 a1 a2 a3 : Int, e = .returned (.agg #[.int .u64 a0, .int .u64 a1, .int .u64 a2, .int .u64 a3]) ∧ Below w.heap.size w w'
set_option maxRecDepth 100000 in
set_option maxHeartbeats 800000 in
theorem word_any (ga ca : Nat) (la : List Nat) (w : World) (ha : Digs w ga la) (hga : ga < w.heap.size) (_hla : la.length ≤ 2000) (hda : ∀ d ∈ la, d < 65536) :
    Calls Tryz.prog 25 #[.slice (some ⟨ga, 0, none⟩) la.length ca] w (WordOut w) := by
  have hga' := Lib.hid hga
  go_enter Tryz.func25, Tryz.ntmps25
  go_wp2
  go_loopw [4] (WordRel w (w.heap.size + 1)) (fun i _ => 16 - (intOf i).toNat)
  case atStart =>
    refine ⟨0, by omega, rfl, ?_, ?_, ?_, ?_, ?_⟩
    · have := four_new (w.alloc (.cells #[.int .u64 0, .int .u64 0, .int .u64 0, .int .u64 0] 44)) 44
      simpa using this
    · have := soft_new (w.alloc (.cells #[.int .u64 0, .int .u64 0, .int .u64 0, .int .u64 0] 44)) #[.int .u64 0, .int .u64 0, .int .u64 0, .int .u64 0] 44
      simpa using this
    · exact (four_new w _).alloc _
    · exact (soft_new w _ _).alloc _ _
    · exact ((Below.refl _ _).alloc (Nat.le_refl _) _).alloc (by simp) _
  case round =>
    obtain ⟨k, hk, rfl, h4, hf, h5, hf5, hbw⟩ := hrel
    by_cases hl : k < 16 ∧ k < la.length
    · obtain ⟨hlt, hl2⟩ := hl
      obtain ⟨v, hv⟩ := h4 (k / 4) (by omega)
      have hfk := hf (k / 4)
      have c1 := (ha.below hga hbw) k hl2
      obtain ⟨x, hx⟩ : ∃ x, x = la.getD k 0 := ⟨_, rfl⟩
      rw [← hx] at c1
      have bx : x < 65536 := by rw [hx]; exact getD_lt hda (by omega) k
      clear hx
      go_wp2
      go_region
      go_wp2
      go_roundw
      case rel => exact ⟨k + 1, by omega, by go_num, fun j hj => (h4.set (i := k / 4) _) j hj, fun j => (World.frozen?_setCell _ _ _ _).trans (hf j), fun j hj => (h5.far (i := k / 4) (by omega) _) j hj, fun j => (World.frozen?_setCell _ _ _ _).trans (hf5 j), (hbw.setCell (by simp) _).drew⟩
      case measure => simp [intOf]; omega
    · obtain ⟨v0, c0⟩ := h4 0 (by omega)
      obtain ⟨v1, c1⟩ := h4 1 (by omega)
      obtain ⟨v2, c2⟩ := h4 2 (by omega)
      obtain ⟨v3, c3⟩ := h4 3 (by omega)
      obtain ⟨u0, d0⟩ := h5 0 (by omega)
      obtain ⟨u1, d1⟩ := h5 1 (by omega)
      obtain ⟨u2, d2⟩ := h5 2 (by omega)
      obtain ⟨u3, d3⟩ := h5 3 (by omega)
      have f0 := hf5 0; have f1 := hf5 1; have f2 := hf5 2; have f3 := hf5 3
      clear h4 h5 hf hf5
      by_cases h16 : k < 16
      · have hl3 : ¬ k < la.length := fun h => hl ⟨h16, h⟩
        clear hl
        go_wp2
        exact bodyPost_ret (v := .agg #[.int .u64 v0, .int .u64 v1, .int .u64 v2, .int .u64 v3]) (by simp [results, Tryz.results25, go_sem, d0, d1, d2, d3]) rfl
          ⟨v0, v1, v2, v3, rfl, (((hbw.setCell (Nat.le_refl _) _).setCell (Nat.le_refl _) _).setCell (Nat.le_refl _) _).setCell (Nat.le_refl _) _⟩
      · clear hl
        go_wp2
        exact bodyPost_ret (v := .agg #[.int .u64 v0, .int .u64 v1, .int .u64 v2, .int .u64 v3]) (by simp [results, Tryz.results25, go_sem, d0, d1, d2, d3]) rfl
          ⟨v0, v1, v2, v3, rfl, (((hbw.setCell (Nat.le_refl _) _).setCell (Nat.le_refl _) _).setCell (Nat.le_refl _) _).setCell (Nat.le_refl _) _⟩
end Go.Proofs.YtkmpbmlcmglmnaaGreatDoor
