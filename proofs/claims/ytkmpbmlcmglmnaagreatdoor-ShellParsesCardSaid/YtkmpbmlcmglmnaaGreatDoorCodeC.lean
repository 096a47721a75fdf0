/- The program's words: a sum. -/
import Derived.Test.YtkmpbmlcmglmnaaGreatDoorGround
import Derived.Test.YtkmpbmlcmglmnaaGreatDoorPlain
import Derived.Test.YtkmpbmlcmglmnaaGreatDoorRefD
import Derived.Deep.RegionHeld
import Derived.Deep.RegionLaw
import Derived.WalkSmall
set_option linter.all false
namespace Go.Proofs.YtkmpbmlcmglmnaaGreatDoor
open Go Go.RowKit
/-- four cells that hold these parts. -/
def Quad (w : World) (B : Nat) (l : List Nat) : Prop := ∀ j, j < 4 → w.cell? ⟨B, j, none⟩ = some (.int .u64 (l.getD j 0 : Nat))
def quadV (l : List Nat) : Value := .agg #[.int .u64 (l.getD 0 0 : Nat), .int .u64 (l.getD 1 0 : Nat), .int .u64 (l.getD 2 0 : Nat), .int .u64 (l.getD 3 0 : Nat)]
def AddRel (l : List Nat) (d : Nat) (w : World) (c u : Value) (wr : World) : Prop :=
  ∃ (k cc : Nat) (r : List Nat), k ≤ 4 ∧ u = .int .i64 k ∧ c = .int .u64 cc ∧ cc ≤ 1 ∧ r.length = 4 ∧ (∀ x ∈ r, x < b64) ∧ Quad wr w.heap.size r ∧ Soft wr w.heap.size ∧ Quad wr (w.heap.size + 1) [d, 0, 0, 0] ∧
    Four wr (w.heap.size + 2) ∧ Soft wr (w.heap.size + 2) ∧ Hid (val b64 (r.take k) + cc * b64 ^ k = val b64 (l.take k) + val b64 (([d, 0, 0, 0] : List Nat).take k) ∧ r.drop k = l.drop k) ∧ Below w.heap.size w wr
theorem take_set_succ (r : List Nat) (k z : Nat) (h : k < r.length) : (r.set k z).take (k + 1) = r.take k ++ [z] := by
  rw [List.take_succ_eq_append_getElem (by simpa using h), List.getElem_set_self, List.take_set_of_le (Nat.le_refl _)]
theorem drop_set_succ (r : List Nat) (k z : Nat) : (r.set k z).drop (k + 1) = r.drop (k + 1) := List.drop_set_of_lt (by omega)
theorem Quad.set {w : World} {B : Nat} {r : List Nat} (h : Quad w B r) (hr : r.length = 4) {k z : Nat} (hk : k < 4) : Quad (w.setCell ⟨B, k, none⟩ (.int .u64 (z : Nat))) B (r.set k z) := by
  intro j hj
  have hu := h j hj
  by_cases e : k = j
  · subst e
    rw [World.cell?_setCell_same (h := hu)]
    simp [hr, hk]
  · rw [World.cell?_setCell_other w ⟨B, k, none⟩ ⟨B, j, none⟩ _ (fun h => e (by cases h; rfl)), hu]
    simp [e]
theorem Quad.far {w : World} {B C i : Nat} {l : List Nat} (h : Quad w B l) (hne : C ≠ B) (v : Value) : Quad (w.setCell ⟨C, i, none⟩ v) B l := fun j hj =>
  (World.cell?_setCell_far w ⟨C, i, none⟩ ⟨B, j, none⟩ v hne).trans (h j hj)
theorem add_rel {l r : List Nat} {d k cc x y z q : Nat} {w wr : World} (hk : k < 4) (hr : r.length = 4) (hb : ∀ x ∈ r, x < b64) (h1 : Quad wr w.heap.size r) (h2 : Soft wr w.heap.size) (h3 : Quad wr (w.heap.size + 1) [d, 0, 0, 0])
    (h4 : Four wr (w.heap.size + 2)) (h5 : Soft wr (w.heap.size + 2)) (H : Hid (val b64 (r.take k) + cc * b64 ^ k = val b64 (l.take k) + val b64 (([d, 0, 0, 0] : List Nat).take k) ∧ r.drop k = l.drop k)) (hbw : Below w.heap.size w wr)
    (HX : Hid (x = r.getD k 0)) (HY : Hid (y = ([d, 0, 0, 0] : List Nat).getD k 0)) (hx : x < b64) (hy : y < b64) (hcc : cc ≤ 1) (hz : z = (x + y + cc) % 18446744073709551616) (hq : q = (x + y + cc) / 18446744073709551616) :
    AddRel l d w (.int .u64 q) (.int .i64 ((k : Int) + 1)) (wr.setCell ⟨w.heap.size, k, none⟩ (.int .u64 (z : Nat))) := by
  obtain ⟨v1, v2⟩ := H.out
  have eb : b64 = 18446744073709551616 := rfl
  rw [← eb] at hz hq
  have hlx : l.getD k 0 = x := by
    have e := congrArg (fun t => t.getD 0 0) v2
    simp only [List.getD_eq_getElem?_getD, List.getElem?_drop, Nat.add_zero] at e
    rw [HX.out, List.getD_eq_getElem?_getD, List.getD_eq_getElem?_getD, e]
  have hq1 : q ≤ 1 := by rw [hq, Nat.div_le_iff_le_mul_add_pred b64_pos]; omega
  refine ⟨k + 1, q, r.set k z, by omega, by go_num, rfl, hq1, by simp [hr], ?_, h1.set hr hk, fun j => (World.frozen?_setCell _ _ _ _).trans (h2 j), h3.far (by omega) _, h4.far (by omega) _, fun j => (World.frozen?_setCell _ _ _ _).trans (h5 j), Lib.hid ⟨?_, ?_⟩, hbw.setCell (Nat.le_refl _) _⟩
  · intro u hu
    rcases List.mem_or_eq_of_mem_set hu with hu | rfl
    · exact hb u hu
    · rw [hz]; exact Nat.mod_lt _ b64_pos
  · have := sum_step b64 k cc x y _ _ (r.take k) (by rw [List.length_take, hr]; omega) v1
    rw [take_set_succ r k z (by omega), val_take_succ, val_take_succ, hlx, ← HY.out]
    rw [show x + y + cc = cc + x + y by omega] at hz hq
    rw [hz, hq]
    exact this
  · rw [drop_set_succ, ← List.drop_drop, v2, List.drop_drop]
theorem AddRel.drew {l : List Nat} {d : Nat} {w wr : World} {c u : Value} (h : AddRel l d w c u wr) : AddRel l d w c u wr.drew := by
  obtain ⟨k, cc, r, a1, a2, a3, a4, a5, a6, a7, a8, a9, b1, b2, b3, b4⟩ := h
  exact ⟨k, cc, r, a1, a2, a3, a4, a5, a6, a7, a8, a9, b1, b2, b3, b4.drew⟩
theorem quad_new (w : World) (a b c d : Nat) (t : TypeId) : Quad (w.alloc (.cells #[.int .u64 a, .int .u64 b, .int .u64 c, .int .u64 d] t)) w.heap.size [a, b, c, d] := by
  intro j hj
  rcases (by omega : j = 0 ∨ j = 1 ∨ j = 2 ∨ j = 3) with rfl | rfl | rfl | rfl <;> (unfold World.cell?; rw [show ∀ o : Nat, (⟨w.heap.size, o, none⟩ : Addr).block = w.heap.size from fun _ => rfl, heap_alloc_new]; rfl)
theorem Quad.alloc {w : World} {B : Nat} {l : List Nat} (h : Quad w B l) (o : Obj) : Quad (w.alloc o) B l := fun j hj => Lib.cell?_alloc_some o (h j hj)
theorem add_start {l0 l1 l2 l3 d : Nat} {w : World} {t1 t2 t3 : TypeId} (_hd : d < b64) (hl : ∀ x ∈ [l0, l1, l2, l3], x < b64) : AddRel [l0, l1, l2, l3] d w (.int .u64 0) (.int .i64 0)
    (((w.alloc (.cells #[.int .u64 l0, .int .u64 l1, .int .u64 l2, .int .u64 l3] t1)).alloc (.cells #[.int .u64 d, .int .u64 0, .int .u64 0, .int .u64 0] t2)).alloc (.cells #[.int .u64 0, .int .u64 0, .int .u64 0, .int .u64 0] t3)) := by
  refine ⟨0, 0, [l0, l1, l2, l3], by omega, rfl, rfl, by omega, rfl, hl, ((quad_new w l0 l1 l2 l3 t1).alloc _).alloc _, ((soft_new w _ _).alloc _ _).alloc _ _, ?_, ?_, ?_, Lib.hid ⟨by simp [val], rfl⟩, ?_⟩
  · have := (quad_new (w.alloc (.cells #[.int .u64 l0, .int .u64 l1, .int .u64 l2, .int .u64 l3] t1)) d 0 0 0 t2).alloc (.cells #[.int .u64 0, .int .u64 0, .int .u64 0, .int .u64 0] t3)
    rw [show (w.alloc (.cells #[.int .u64 l0, .int .u64 l1, .int .u64 l2, .int .u64 l3] t1)).heap.size = w.heap.size + 1 by simp] at this
    exact this
  · have := four_new ((w.alloc (.cells #[.int .u64 l0, .int .u64 l1, .int .u64 l2, .int .u64 l3] t1)).alloc (.cells #[.int .u64 d, .int .u64 0, .int .u64 0, .int .u64 0] t2)) t3
    rw [show ((w.alloc (.cells #[.int .u64 l0, .int .u64 l1, .int .u64 l2, .int .u64 l3] t1)).alloc (.cells #[.int .u64 d, .int .u64 0, .int .u64 0, .int .u64 0] t2)).heap.size = w.heap.size + 2 by simp] at this
    exact this
  · have := soft_new ((w.alloc (.cells #[.int .u64 l0, .int .u64 l1, .int .u64 l2, .int .u64 l3] t1)).alloc (.cells #[.int .u64 d, .int .u64 0, .int .u64 0, .int .u64 0] t2)) #[.int .u64 0, .int .u64 0, .int .u64 0, .int .u64 0] t3
    rw [show ((w.alloc (.cells #[.int .u64 l0, .int .u64 l1, .int .u64 l2, .int .u64 l3] t1)).alloc (.cells #[.int .u64 d, .int .u64 0, .int .u64 0, .int .u64 0] t2)).heap.size = w.heap.size + 2 by simp] at this
    exact this
  · exact (((Below.refl _ _).alloc (Nat.le_refl _) _).alloc (by simp) _).alloc (by simp; omega) _
theorem list4 {r : List Nat} (h : r.length = 4) : r = [r.getD 0 0, r.getD 1 0, r.getD 2 0, r.getD 3 0] := by
  match r, h with
  | [a, b, c, d], _ => rfl
def AddOut (l : List Nat) (d : Nat) (w : World) (e : Ending) (w' : World) : Prop :=
  ∃ r0 r1 r2 r3 c : Nat, e = .returned (.tuple #[.agg #[.int .u64 r0, .int .u64 r1, .int .u64 r2, .int .u64 r3], .int .u64 c]) ∧ (∀ x ∈ [r0, r1, r2, r3], x < b64) ∧ c ≤ 1 ∧ Hid (val b64 [r0, r1, r2, r3] + c * b64 ^ 4 = val b64 l + d) ∧ Below w.heap.size w w'
set_option maxRecDepth 100000 in
set_option maxHeartbeats 1000000 in
theorem add_prog (hA : AddOk) (l0 l1 l2 l3 d : Nat) (w : World) (hl : ∀ x ∈ [l0, l1, l2, l3], x < b64) (hd : d < b64) :
    Calls Tryz.prog 53 #[.agg #[.int .u64 l0, .int .u64 l1, .int .u64 l2, .int .u64 l3], .agg #[.int .u64 d, .int .u64 0, .int .u64 0, .int .u64 0]] w (AddOut [l0, l1, l2, l3] d w) := by
  have HA := Lib.hid hA; have HL := Lib.hid hl; clear hA hl
  go_enter Tryz.func53, Tryz.ntmps53
  go_wp2
  go_loopw [6, 8] (AddRel [l0, l1, l2, l3] d w) (fun _ i _ => 4 - (intOf i).toNat)
  case atStart => exact add_start hd HL.out
  case round =>
    obtain ⟨k, cc, r, hk, rfl, rfl, hcc, hr, hrb, h1, h2, h3, h4, h5, H, hbw⟩ := hrel
    by_cases hlt : k < 4
    · obtain ⟨x, hx⟩ : ∃ x, x = r.getD k 0 := ⟨_, rfl⟩
      obtain ⟨y, hy⟩ : ∃ y, y = ([d, 0, 0, 0] : List Nat).getD k 0 := ⟨_, rfl⟩
      have c1 := h1 k hlt; have c2 := h3 k hlt; have f1 := h2 k
      rw [← hx] at c1; rw [← hy] at c2
      have bx : x < b64 := by rw [hx]; exact getD_lt hrb b64_pos k
      have bY : y < b64 := by rw [hy]; exact getD_lt (by intro e he; simp at he; rcases he with rfl | rfl <;> first | exact hd | exact b64_pos) b64_pos k
      have HX := Lib.hid hx; have HY := Lib.hid hy; clear hx hy
      have hadd := HA.out x y cc bx bY hcc
      go_wp2_with fail
      go_region_law (fail)
      all_goals
        have hrl := add_rel hlt hr hrb h1 h2 h3 h4 h5 H hbw HX HY bx bY hcc rfl rfl
        go_wp2
        go_roundw
        case rel => exact hrl.drew
        case measure => simp [intOf]; omega
    · obtain rfl : k = 4 := by omega
      have d0 := h1 0 (by omega); have d1 := h1 1 (by omega); have d2 := h1 2 (by omega); have d3 := h1 3 (by omega)
      obtain ⟨u0, e0⟩ := h4 0 (by omega)
      obtain ⟨u1, e1⟩ := h4 1 (by omega)
      obtain ⟨u2, e2⟩ := h4 2 (by omega)
      obtain ⟨u3, e3⟩ := h4 3 (by omega)
      have f0 := h5 0; have f1 := h5 1; have f2 := h5 2; have f3 := h5 3
      obtain ⟨v1, _⟩ := H.out
      have hr4 := list4 hr
      rw [hr4] at v1 hrb
      have HV := Lib.hid v1
      generalize r.getD 0 0 = r0 at *
      generalize r.getD 1 0 = r1 at *
      generalize r.getD 2 0 = r2 at *
      generalize r.getD 3 0 = r3 at *
      have HRB := Lib.hid hrb
      clear h1 h2 h3 h4 h5 H v1 hr4 hr hrb
      have hsz : w.heap.size ≤ w.heap.size + 1 + 1 := by omega
      go_wp2
      exact bodyPost_ret (v := .tuple #[.agg #[.int .u64 r0, .int .u64 r1, .int .u64 r2, .int .u64 r3], .int .u64 cc]) (by simp [results, Tryz.results53, go_sem, e0, e1, e2, e3]) rfl
        ⟨r0, r1, r2, r3, cc, rfl, HRB.out, hcc, Lib.hid (by have := HV.out; simp only [List.take_succ_cons, List.take_zero] at this; rw [this]; simp [val]), (((hbw.setCell hsz _).setCell hsz _).setCell hsz _).setCell hsz _⟩
end Go.Proofs.YtkmpbmlcmglmnaaGreatDoor
