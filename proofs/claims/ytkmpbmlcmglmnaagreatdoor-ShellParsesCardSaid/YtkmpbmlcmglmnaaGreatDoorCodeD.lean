/- The program's words: ten times a number. -/
import Derived.Test.YtkmpbmlcmglmnaaGreatDoorCodeC
import Derived.Deep.DeepCutAuto
set_option linter.all false
namespace Go.Proofs.YtkmpbmlcmglmnaaGreatDoor
open Go Go.RowKit
def Oct (w : World) (B : Nat) (l : List Nat) : Prop := ∀ j, j < 8 → w.cell? ⟨B, j, none⟩ = some (.int .u64 (l.getD j 0 : Nat))
def Eight (w : World) (B : Nat) : Prop := ∀ j, j < 8 → ∃ v : Int, w.cell? ⟨B, j, none⟩ = some (.int .u64 v)
theorem Oct.set {w : World} {B : Nat} {r : List Nat} (h : Oct w B r) (hr : r.length = 8) {k z : Nat} (hk : k < 8) : Oct (w.setCell ⟨B, k, none⟩ (.int .u64 (z : Nat))) B (r.set k z) := by
  intro j hj
  have hu := h j hj
  by_cases e : k = j
  · subst e
    rw [World.cell?_setCell_same (h := hu)]
    simp [hr, hk]
  · rw [World.cell?_setCell_other w ⟨B, k, none⟩ ⟨B, j, none⟩ _ (fun h => e (by cases h; rfl)), hu]
    simp [e]
theorem Oct.same {w : World} {B : Nat} {r : List Nat} (h : Oct w B r) {k z : Nat} (hz : r.getD k 0 = z) : Oct (w.setCell ⟨B, k, none⟩ (.int .u64 (z : Nat))) B r := by
  intro j hj
  have hu := h j hj
  by_cases e : k = j
  · subst e
    rw [World.cell?_setCell_same (h := hu), hz]
  · rw [World.cell?_setCell_other w ⟨B, k, none⟩ ⟨B, j, none⟩ _ (fun h => e (by cases h; rfl)), hu]
theorem Eight.far {w : World} {B C i : Nat} (h : Eight w B) (hne : C ≠ B) (v : Value) : Eight (w.setCell ⟨C, i, none⟩ v) B := fun j hj => by
  obtain ⟨u, hu⟩ := h j hj
  exact ⟨u, (World.cell?_setCell_far w ⟨C, i, none⟩ ⟨B, j, none⟩ v hne).trans hu⟩
/-- what lies about the product: the second number, the result's cells, the product's. -/
structure WideW (w : World) (l : List Nat) (wr : World) : Prop where
  ten : Quad wr (w.heap.size + 1) [10, 0, 0, 0]
  res : Eight wr (w.heap.size + 2)
  resS : Soft wr (w.heap.size + 2)
  len : l.length = 8
  lt : ∀ x ∈ l, x < b64
  oct : Oct wr (w.heap.size + 3) l
  octS : Soft wr (w.heap.size + 3)
  sz : w.heap.size + 3 < wr.heap.size
  below : Below w.heap.size w wr
theorem WideW.set {w wr : World} {l : List Nat} (h : WideW w l wr) {k z : Nat} (hk : k < 8) (hz : z < b64) : WideW w (l.set k z) (wr.setCell ⟨w.heap.size + 3, k, none⟩ (.int .u64 (z : Nat))) where
  ten := h.ten.far (by omega) _
  res := h.res.far (by omega) _
  resS := fun j => (World.frozen?_setCell _ _ _ _).trans (h.resS j)
  len := by simp [h.len]
  lt := fun u hu => by
    rcases List.mem_or_eq_of_mem_set hu with hu | rfl
    · exact h.lt u hu
    · exact hz
  oct := h.oct.set h.len hk
  octS := fun j => (World.frozen?_setCell _ _ _ _).trans (h.octS j)
  sz := by simpa using h.sz
  below := h.below.setCell (Nat.le_add_right _ _) _
theorem WideW.same {w wr : World} {l : List Nat} (h : WideW w l wr) {k z : Nat} (hz : l.getD k 0 = z) : WideW w l (wr.setCell ⟨w.heap.size + 3, k, none⟩ (.int .u64 (z : Nat))) where
  ten := h.ten.far (by omega) _
  res := h.res.far (by omega) _
  resS := fun j => (World.frozen?_setCell _ _ _ _).trans (h.resS j)
  len := h.len
  lt := h.lt
  oct := h.oct.same hz
  octS := fun j => (World.frozen?_setCell _ _ _ _).trans (h.octS j)
  sz := by simpa using h.sz
  below := h.below.setCell (Nat.le_add_right _ _) _
/-- the rows done. -/
def Rows (A l : List Nat) (k : Nat) : Prop := val b64 (l.take (k + 1)) = 10 * val b64 (A.take k) ∧ (∀ j, k < j → l.getD j 0 = 0) ∧ l.getD k 0 < 10
def WideRel (A : List Nat) (w : World) (i : Value) (wr : World) : Prop :=
  ∃ (k : Nat) (l : List Nat), k ≤ 4 ∧ i = .int .i64 k ∧ Hid (Rows A l k) ∧ WideW w l wr
/-- what a row does: the k-th place gets s below 2^64, the next what is carried. -/
def lstAt (l : List Nat) (k s j : Nat) : List Nat := if j = 0 then l else if j = 1 then l.set k (s % b64) else (l.set k (s % b64)).set (k + 1) (s / b64)
def carryAt (s j : Nat) : Nat := if j = 1 then s / b64 else 0
def RowRel (l : List Nat) (k s : Nat) (w : World) (c i : Value) (wr : World) : Prop :=
  ∃ j : Nat, j ≤ 4 ∧ i = .int .i64 j ∧ c = .int .u64 (carryAt s j : Nat) ∧ WideW w (lstAt l k s j) wr
theorem rows_step {A l : List Nat} {k x s : Nat} (h : Rows A l k) (hk : k < 4) (hl : l.length = 8) (hx : x = A.getD k 0) (hxb : x < b64) (hs : s = l.getD k 0 + 10 * x) : Rows A (lstAt l k s 4) (k + 1) := by
  obtain ⟨h1, h2, h3⟩ := h
  have hs := hs.symm
  have e : lstAt l k s 4 = (l.set k (s % b64)).set (k + 1) (s / b64) := rfl
  rw [e]
  have hsd := Nat.mod_add_div s b64
  have hsb : s / b64 < 10 := by rw [Nat.div_lt_iff_lt_mul b64_pos]; omega
  refine ⟨?_, ?_, ?_⟩
  · rw [take_set_succ _ (k + 1) _ (by simp [hl]; omega), take_set_succ l k _ (by omega), val_snoc, val_snoc, val_take_succ b64 A k, ← hx]
    rw [List.length_append, List.length_take, hl, Nat.min_eq_left (by omega)]
    rw [val_take_succ b64 l k] at h1
    simp only [List.length_cons, List.length_nil, Nat.zero_add, Nat.pow_succ]
    have e2 : s / b64 * (b64 ^ k * b64) = (b64 * (s / b64)) * b64 ^ k := by rw [Nat.mul_comm (b64 ^ k) b64, ← Nat.mul_assoc, Nat.mul_comm b64]
    rw [e2, Nat.add_assoc, ← Nat.add_mul, hsd, ← hs, Nat.add_mul, ← Nat.add_assoc, h1, Nat.mul_add, Nat.mul_assoc]
  · intro j hj
    have := h2 j (by omega)
    simp only [List.getD_eq_getElem?_getD] at this ⊢
    rw [List.getElem?_set_ne (by omega), List.getElem?_set_ne (by omega)]
    exact this
  · simp only [List.getD_eq_getElem?_getD]
    rw [List.getElem?_set_self (by simp [hl]; omega)]
    exact hsb
theorem idx4 (a0 a1 a2 a3 k : Nat) (hk : k < 4) (w : World) : Sem.run Tryz.prog (Instr.index 44 (.agg #[.int .u64 a0, .int .u64 a1, .int .u64 a2, .int .u64 a3]) (.int .i64 k)) w = .ok (.int .u64 (([a0, a1, a2, a3] : List Nat).getD k 0 : Nat)) w := by
  rcases (by omega : k = 0 ∨ k = 1 ∨ k = 2 ∨ k = 3) with rfl | rfl | rfl | rfl <;> simp [go_sem, Instr.index, part, asIntOf, run_underlying Tryz.underlying44]
theorem idx10 (k : Nat) (hk : k < 4) (w : World) : Sem.run Tryz.prog (Instr.index 44 (.agg #[.int .u64 10, .int .u64 0, .int .u64 0, .int .u64 0]) (.int .i64 k)) w = .ok (.int .u64 (([10, 0, 0, 0] : List Nat).getD k 0 : Nat)) w := idx4 10 0 0 0 k hk w
theorem ten_at (j : Nat) (hj : j < 4) : (([10, 0, 0, 0] : List Nat).getD j 0) = if j = 0 then 10 else 0 := by
  rcases (by omega : j = 0 ∨ j = 1 ∨ j = 2 ∨ j = 3) with rfl | rfl | rfl | rfl <;> rfl
theorem carry_lt {A l : List Nat} {k x s j : Nat} (h : Rows A l k) (hs : s = l.getD k 0 + 10 * x) (hx : x < b64) : carryAt s j < 10 := by
  obtain ⟨_, _, h3⟩ := h
  unfold carryAt
  split
  · rw [Nat.div_lt_iff_lt_mul b64_pos]; omega
  · omega
theorem high_lt {x y j : Nat} (hx : x < b64) (hy : y = if j = 0 then 10 else 0) : x * y / 18446744073709551616 < 10 := by
  unfold b64 at hx
  rw [hy]
  split <;> omega
/-- one place of a row. -/
theorem row_step {A l : List Nat} {k j x y p s h1 m1 q1 c1 q2 c2 : Nat} {w wr : World} (hk : k < 4) (hj : j < 4) (hW : WideW w (lstAt l k s j) wr) (HR : Hid (Rows A l k)) (HS : Hid (s = l.getD k 0 + 10 * x)) (hxb : x < b64)
    (HY : Hid (y = if j = 0 then 10 else 0)) (HP : Hid (p = (lstAt l k s j).getD (k + j) 0)) (HMu : Hid (h1 = x * y / b64 ∧ m1 = x * y % b64)) (HA1 : Hid (q1 = (m1 + p + 0) % b64 ∧ c1 = (m1 + p + 0) / b64))
    (HA2 : Hid (q2 = (q1 + carryAt s j + 0) % b64 ∧ c2 = (q1 + carryAt s j + 0) / b64)) :
    RowRel l k s w (.int .u64 ((h1 : Int) + c1 + c2)) (.int .i64 ((j : Int) + 1)) (wr.setCell ⟨w.heap.size + 3, k + j, none⟩ (.int .u64 (q2 : Nat))) := by
  obtain ⟨R1, R2, R3⟩ := HR.out
  obtain ⟨e1, e2⟩ := HMu.out
  obtain ⟨e3, e4⟩ := HA1.out
  obtain ⟨e5, e6⟩ := HA2.out
  have hs := HS.out; have hy := HY.out; have hp := HP.out
  have hsb : s / b64 < 10 := by rw [Nat.div_lt_iff_lt_mul b64_pos]; omega
  have b1 : (10 : Nat) < b64 := by unfold b64; omega
  have hsm : s % b64 < b64 := Nat.mod_lt _ b64_pos
  have hfar : ∀ i, k + 1 < i → (lstAt l k s 2).getD i 0 = 0 := fun i hi => by
    have h0 := R2 i (by omega)
    show ((l.set k (s % b64)).set (k + 1) (s / b64)).getD i 0 = 0
    simp only [List.getD_eq_getElem?_getD] at h0 ⊢
    rw [List.getElem?_set_ne (by omega), List.getElem?_set_ne (by omega)]
    exact h0
  rcases (by omega : j = 0 ∨ j = 1 ∨ j = 2 ∨ j = 3) with rfl | rfl | rfl | rfl
  · have hy' : y = 10 := hy
    have hp' : p = l.getD k 0 := hp
    have hc0 : carryAt s 0 = 0 := rfl
    rw [hc0] at e5 e6
    have hq1 : q1 < b64 := by rw [e3]; exact Nat.mod_lt _ b64_pos
    simp only [Nat.add_zero] at e5 e6
    rw [Nat.mod_eq_of_lt hq1] at e5
    rw [Nat.div_eq_of_lt hq1] at e6
    simp only [Nat.add_zero] at e3 e4
    have hs2 : s = p + x * y := by rw [hs, hp', hy', Nat.mul_comm 10 x]
    have g1 : (x * y % b64 + p) % b64 = s % b64 := by rw [hs2, Nat.mod_add_mod, Nat.add_comm]
    have g2 : x * y / b64 + (x * y % b64 + p) / b64 = s / b64 := by
      have a1 := Nat.mod_add_div (x * y) b64
      rw [hs2]
      conv => rhs; rw [← a1, ← Nat.add_assoc, Nat.add_mul_div_left _ _ b64_pos, Nat.add_comm p]
      rw [Nat.add_comm]
    rw [← e2] at g1 g2
    rw [← e1, ← e4] at g2
    rw [← e3] at g1
    refine ⟨1, by omega, by go_num, ?_, ?_⟩
    · have : carryAt s 1 = s / b64 := rfl
      rw [this, ← g2, e6]; push_cast; simp
    · have hs := hW.set (k := k) (z := q2) (by omega) (by rw [e5]; exact hq1)
      rw [e5, g1] at hs
      rw [e5, g1]
      exact hs
  · have hy' : y = 0 := hy
    have hp' : p = 0 := by
      rw [hp]
      show (l.set k (s % b64)).getD (k + 1) 0 = 0
      have h0 := R2 (k + 1) (by omega)
      simp only [List.getD_eq_getElem?_getD] at h0 ⊢
      rw [List.getElem?_set_ne (by omega)]
      exact h0
    have hc0 : carryAt s 1 = s / b64 := rfl
    rw [hc0] at e5 e6
    rw [hy', Nat.mul_zero] at e1 e2
    rw [Nat.zero_mod] at e2
    rw [Nat.zero_div] at e1
    rw [e2, hp'] at e3 e4
    rw [Nat.zero_mod] at e3
    rw [Nat.zero_div] at e4
    simp only [e3, Nat.zero_add, Nat.add_zero] at e5 e6
    rw [Nat.mod_eq_of_lt (by omega)] at e5
    rw [Nat.div_eq_of_lt (by omega)] at e6
    refine ⟨2, by omega, by go_num, ?_, ?_⟩
    · rw [e1, e4, e6]; rfl
    · rw [e5]; exact hW.set (k := k + 1) (z := s / b64) (by omega) (by omega)
  all_goals
    have hy' : y = 0 := hy
    have hp' : p = 0 := by rw [hp]; exact hfar _ (by omega)
    rw [hy', Nat.mul_zero] at e1 e2
    rw [Nat.zero_mod] at e2
    rw [Nat.zero_div] at e1
    rw [e2, hp'] at e3 e4
    rw [Nat.zero_mod] at e3
    rw [Nat.zero_div] at e4
    have hc0 : q1 + carryAt s 2 + 0 = 0 := by rw [e3]; rfl
    have hc1 : q1 + carryAt s 3 + 0 = 0 := by rw [e3]; rfl
    first | rw [hc0] at e5 e6 | rw [hc1] at e5 e6
    rw [Nat.zero_mod] at e5
    rw [Nat.zero_div] at e6
  · refine ⟨3, by omega, by go_num, by rw [e1, e4, e6]; rfl, ?_⟩
    rw [e5]; exact WideW.same (l := lstAt l k s 2) hW (hfar _ (by omega))
  · refine ⟨4, by omega, by go_num, by rw [e1, e4, e6]; rfl, ?_⟩
    rw [e5]; exact WideW.same (l := lstAt l k s 2) hW (hfar _ (by omega))
def WideOut (A : List Nat) (w : World) (e : Ending) (w' : World) : Prop :=
  ∃ l0 l1 l2 l3 l4 l5 l6 l7 : Nat, e = .returned (.agg #[.int .u64 l0, .int .u64 l1, .int .u64 l2, .int .u64 l3, .int .u64 l4, .int .u64 l5, .int .u64 l6, .int .u64 l7]) ∧ (∀ x ∈ [l0, l1, l2, l3], x < b64) ∧ l4 < 10 ∧
    Hid (val b64 [l0, l1, l2, l3] + l4 * b64 ^ 4 = 10 * val b64 A) ∧ Below w.heap.size w w'
theorem rows_start {A : List Nat} : Rows A [0, 0, 0, 0, 0, 0, 0, 0] 0 := by
  refine ⟨by simp [val], fun j _ => ?_, by simp⟩
  by_cases hj : j < 8
  · rcases (by omega : j = 0 ∨ j = 1 ∨ j = 2 ∨ j = 3 ∨ j = 4 ∨ j = 5 ∨ j = 6 ∨ j = 7) with rfl | rfl | rfl | rfl | rfl | rfl | rfl | rfl <;> rfl
  · rw [List.getD_eq_getElem?_getD, List.getElem?_eq_none (by simp; omega)]; rfl
theorem oct_new (w : World) (t : TypeId) : Oct (w.alloc (.cells #[.int .u64 0, .int .u64 0, .int .u64 0, .int .u64 0, .int .u64 0, .int .u64 0, .int .u64 0, .int .u64 0] t)) w.heap.size [0, 0, 0, 0, 0, 0, 0, 0] := by
  intro j hj
  rcases (by omega : j = 0 ∨ j = 1 ∨ j = 2 ∨ j = 3 ∨ j = 4 ∨ j = 5 ∨ j = 6 ∨ j = 7) with rfl | rfl | rfl | rfl | rfl | rfl | rfl | rfl <;> (unfold World.cell?; rw [show ∀ o : Nat, (⟨w.heap.size, o, none⟩ : Addr).block = w.heap.size from fun _ => rfl, heap_alloc_new]; rfl)
theorem Oct.alloc {w : World} {B : Nat} {l : List Nat} (h : Oct w B l) (o : Obj) : Oct (w.alloc o) B l := fun j hj => Lib.cell?_alloc_some o (h j hj)
theorem Oct.eight {w : World} {B : Nat} {l : List Nat} (h : Oct w B l) : Eight w B := fun j hj => ⟨_, h j hj⟩
theorem wide_start {w : World} {c1 : Array Value} {t1 t2 t3 t4 : TypeId} : WideW w [0, 0, 0, 0, 0, 0, 0, 0]
    ((((w.alloc (.cells c1 t1)).alloc (.cells #[.int .u64 10, .int .u64 0, .int .u64 0, .int .u64 0] t2)).alloc (.cells #[.int .u64 0, .int .u64 0, .int .u64 0, .int .u64 0, .int .u64 0, .int .u64 0, .int .u64 0, .int .u64 0] t3)).alloc (.cells #[.int .u64 0, .int .u64 0, .int .u64 0, .int .u64 0, .int .u64 0, .int .u64 0, .int .u64 0, .int .u64 0] t4)) := by
  generalize hw1 : w.alloc (.cells c1 t1) = w1
  have s1 : w1.heap.size = w.heap.size + 1 := by rw [← hw1]; simp
  have hb1 : Below w.heap.size w w1 := by rw [← hw1]; exact (Below.refl _ _).alloc (Nat.le_refl _) _
  have q := quad_new w1 10 0 0 0 t2
  have q' : Quad (w1.alloc (.cells #[.int .u64 10, .int .u64 0, .int .u64 0, .int .u64 0] t2)) (w.heap.size + 1) [10, 0, 0, 0] := by rw [← s1]; exact q
  have hb2 : Below w.heap.size w (w1.alloc (.cells #[.int .u64 10, .int .u64 0, .int .u64 0, .int .u64 0] t2)) := hb1.alloc (by omega) _
  have s2 : (w1.alloc (.cells #[.int .u64 10, .int .u64 0, .int .u64 0, .int .u64 0] t2)).heap.size = w.heap.size + 2 := by simp [s1]
  clear q
  generalize w1.alloc (.cells #[.int .u64 10, .int .u64 0, .int .u64 0, .int .u64 0] t2) = w2 at *
  have o3 := oct_new w2 t3
  have f3 := soft_new w2 #[.int .u64 0, .int .u64 0, .int .u64 0, .int .u64 0, .int .u64 0, .int .u64 0, .int .u64 0, .int .u64 0] t3
  have q3 := q'.alloc (.cells #[.int .u64 0, .int .u64 0, .int .u64 0, .int .u64 0, .int .u64 0, .int .u64 0, .int .u64 0, .int .u64 0] t3)
  have s3 : (w2.alloc (.cells #[.int .u64 0, .int .u64 0, .int .u64 0, .int .u64 0, .int .u64 0, .int .u64 0, .int .u64 0, .int .u64 0] t3)).heap.size = w.heap.size + 3 := by simp [s2]
  have hb3 : Below w.heap.size w (w2.alloc (.cells #[.int .u64 0, .int .u64 0, .int .u64 0, .int .u64 0, .int .u64 0, .int .u64 0, .int .u64 0, .int .u64 0] t3)) := hb2.alloc (by omega) _
  rw [s2] at o3 f3
  generalize w2.alloc (.cells #[.int .u64 0, .int .u64 0, .int .u64 0, .int .u64 0, .int .u64 0, .int .u64 0, .int .u64 0, .int .u64 0] t3) = w3 at *
  have o4 := oct_new w3 t4
  have f4 := soft_new w3 #[.int .u64 0, .int .u64 0, .int .u64 0, .int .u64 0, .int .u64 0, .int .u64 0, .int .u64 0, .int .u64 0] t4
  rw [s3] at o4 f4
  exact ⟨q3.alloc _, (o3.alloc _).eight, f3.alloc _ _, rfl, by simp [b64], o4, f4, by simp [s3], hb3.alloc (by omega) _⟩
theorem list8 {r : List Nat} (h : r.length = 8) : r = [r.getD 0 0, r.getD 1 0, r.getD 2 0, r.getD 3 0, r.getD 4 0, r.getD 5 0, r.getD 6 0, r.getD 7 0] := by
  match r, h with
  | [a, b, c, d, e, f, g, i], _ => rfl
theorem wide_val {A : List Nat} {r0 r1 r2 r3 r4 r5 r6 r7 : Nat} {a0 a1 a2 a3 : Nat} (h : val b64 ([r0, r1, r2, r3, r4, r5, r6, r7].take (4 + 1)) = 10 * val b64 ([a0, a1, a2, a3].take 4)) (hA : A = [a0, a1, a2, a3] := by rfl) : val b64 [r0, r1, r2, r3] + r4 * b64 ^ 4 = 10 * val b64 A := by
  rw [hA]
  have e := val_snoc b64 [r0, r1, r2, r3] r4
  simp only [List.cons_append, List.nil_append, List.length_cons, List.length_nil, Nat.zero_add] at e
  simp only [List.take_succ_cons, List.take_zero] at h
  rw [← e]
  exact h
set_option maxRecDepth 100000 in
set_option maxHeartbeats 2000000 in
theorem wide_prog (hM : MulOk) (hA : AddOk) (a0 a1 a2 a3 : Nat) (w : World) (ha : ∀ x ∈ [a0, a1, a2, a3], x < b64) :
    Calls Tryz.prog 52 #[.agg #[.int .u64 a0, .int .u64 a1, .int .u64 a2, .int .u64 a3], .agg #[.int .u64 10, .int .u64 0, .int .u64 0, .int .u64 0]] w (WideOut [a0, a1, a2, a3] w) := by
  have HM := Lib.hid hM; have HA := Lib.hid hA; have HL := Lib.hid ha; clear hM hA ha
  go_enter Tryz.func52, Tryz.ntmps52
  go_wp2
  go_loopw [15] (WideRel [a0, a1, a2, a3] w) (fun i _ => 4 - (intOf i).toNat)
  case atStart => exact ⟨0, [0, 0, 0, 0, 0, 0, 0, 0], by omega, rfl, Lib.hid rows_start, wide_start⟩
  case round =>
    obtain ⟨k, l, hk, rfl, HR, hW⟩ := hrel
    by_cases hlt : k < 4
    · obtain ⟨x, hx⟩ : ∃ x, x = ([a0, a1, a2, a3] : List Nat).getD k 0 := ⟨_, rfl⟩
      have hdk : decide ((k : Int) < 4) = true := by simp; omega
      have hix := idx4 a0 a1 a2 a3 k hlt
      rw [← hx] at hix
      have hxb : x < b64 := by rw [hx]; exact getD_lt HL.out b64_pos k
      have HX := Lib.hid hx; clear hx
      obtain ⟨s, hs⟩ : ∃ s, s = l.getD k 0 + 10 * x := ⟨_, rfl⟩
      have HS := Lib.hid hs; clear hs
      have t0 := hW.ten 0 (by omega); have t1 := hW.ten 1 (by omega); have t2 := hW.ten 2 (by omega); have t3 := hW.ten 3 (by omega)
      simp only [List.getD_cons_zero, List.getD_cons_succ] at t0 t1 t2 t3
      go_wp2
      go_loopw [8, 20] (RowRel l k s w) (fun _ j _ => 4 - (intOf j).toNat)
      case atStart => exact ⟨0, by omega, rfl, rfl, hW⟩
      case round =>
        obtain ⟨j, hj, rfl, rfl, hV⟩ := hrel
        by_cases hjl : j < 4
        · obtain ⟨y, hy⟩ : ∃ y, y = ([10, 0, 0, 0] : List Nat).getD j 0 := ⟨_, rfl⟩
          have hiy := idx10 j hjl
          rw [← hy] at hiy
          have hyb : y < b64 := by rw [hy, ten_at j hjl]; unfold b64; split <;> omega
          have HY := Lib.hid (hy.trans (ten_at j hjl)); clear hy
          obtain ⟨p, hp⟩ : ∃ p, p = (lstAt l k s j).getD (k + j) 0 := ⟨_, rfl⟩
          have c0 := hV.oct (k + j) (by omega)
          rw [← hp] at c0
          have hpb : p < b64 := by rw [hp]; exact getD_lt hV.lt b64_pos _
          have f0 := hV.octS (k + j)
          have HP := Lib.hid hp; clear hp
          obtain ⟨cc, hcc⟩ : ∃ cc, cc = carryAt s j := ⟨_, rfl⟩
          have hcb : cc < 10 := by rw [hcc]; exact carry_lt HR.out HS.out hxb
          rw [← hcc]
          have HCC := Lib.hid hcc; clear hcc
          obtain ⟨h1, eh1⟩ : ∃ h1, h1 = x * y / 18446744073709551616 := ⟨_, rfl⟩
          obtain ⟨m1, em1⟩ : ∃ m1, m1 = x * y % 18446744073709551616 := ⟨_, rfl⟩
          have hh1 : h1 < 10 := by rw [eh1]; exact high_lt hxb HY.out
          have hm1 : m1 < b64 := by rw [em1]; exact Nat.mod_lt _ (by omega)
          have HMu : Hid (h1 = x * y / b64 ∧ m1 = x * y % b64) := Lib.hid ⟨eh1, em1⟩
          obtain ⟨q1, eq1⟩ : ∃ q1, q1 = (m1 + p + 0) % 18446744073709551616 := ⟨_, rfl⟩
          obtain ⟨c1, ec1⟩ : ∃ c1, c1 = (m1 + p + 0) / 18446744073709551616 := ⟨_, rfl⟩
          have hadd1 : ∀ w : World, (callFunc 103 #[.int .u64 (m1 : Nat), .int .u64 (p : Nat), .int .u64 0]).run Tryz.prog w = .ok (.value (.tuple #[.int .u64 (q1 : Nat), .int .u64 (c1 : Nat)])) w := fun w => by
            have := HA.out m1 p 0 hm1 hpb (by omega) w
            rw [← eq1, ← ec1] at this
            exact this
          have hq1 : q1 < b64 := by rw [eq1]; exact Nat.mod_lt _ (by omega)
          have hc1 : c1 ≤ 1 := by rw [ec1]; unfold b64 at hm1 hpb; omega
          have HA1 : Hid (q1 = (m1 + p + 0) % b64 ∧ c1 = (m1 + p + 0) / b64) := Lib.hid ⟨eq1, ec1⟩
          obtain ⟨q2, eq2⟩ : ∃ q2, q2 = (q1 + cc + 0) % 18446744073709551616 := ⟨_, rfl⟩
          obtain ⟨c2, ec2⟩ : ∃ c2, c2 = (q1 + cc + 0) / 18446744073709551616 := ⟨_, rfl⟩
          have hadd2 : ∀ w : World, (callFunc 103 #[.int .u64 (q1 : Nat), .int .u64 (cc : Nat), .int .u64 0]).run Tryz.prog w = .ok (.value (.tuple #[.int .u64 (q2 : Nat), .int .u64 (c2 : Nat)])) w := fun w => by
            have := HA.out q1 cc 0 hq1 (by unfold b64; omega) (by omega) w
            rw [← eq2, ← ec2] at this
            exact this
          have hc2 : c2 ≤ 1 := by rw [ec2]; unfold b64 at hq1; omega
          have HA2 : Hid (q2 = (q1 + carryAt s j + 0) % b64 ∧ c2 = (q1 + carryAt s j + 0) / b64) := by rw [← HCC.out]; exact Lib.hid ⟨eq2, ec2⟩
          have EH := Lib.hid (And.intro eh1 em1)
          clear eh1 em1 eq1 ec1 eq2 ec2 hm1 hq1 hpb hyb
          have eW1 : IntKind.u64.wrap ((h1 : Int) + (c1 : Int)) = (h1 : Int) + c1 := IntWalk.u64_in _ (by omega)
          have eW2 : IntKind.u64.wrap ((h1 : Int) + (c1 : Int) + (c2 : Int)) = (h1 : Int) + c1 + c2 := IntWalk.u64_in _ (by omega)
          have eI : IntKind.i64.wrap ((k : Int) + (j : Int)) = (k : Int) + j := IntWalk.i64_in _ (by omega)
          have eJ : ((k : Int) + (j : Int)).toNat = k + j := by omega
          have eK : (0 : Int) ≤ (k : Int) + (j : Int) := by omega
          have eL : (k : Int) + (j : Int) < 8 := by omega
          go_wp2_with (go_at_call 102; refine (HM.out x y _ hxb (by rw [HY.out]; unfold b64; split <;> omega)).mono ?_; rintro e w' ⟨rfl, rfl⟩; rw [← EH.out.1, ← EH.out.2])
          go_roundw
          case rel => exact row_step hlt hjl hV HR HS hxb HY HP HMu HA1 HA2
          case measure => simp [intOf]; omega
        · obtain rfl : j = 4 := by omega
          have hR2 := rows_step HR.out hlt hW.len HX.out hxb HS.out
          have hz : (lstAt l k s 4).getD (k + 4) 0 = carryAt s 4 := hR2.2.1 (k + 4) (by omega)
          have HR2 := Lib.hid hR2; have HZ := Lib.hid hz
          have c0 := hV.oct (k + 4) (by omega)
          have f0 := hV.octS (k + 4)
          have eI : IntKind.i64.wrap ((k : Int) + 4) = (k : Int) + 4 := IntWalk.i64_in _ (by omega)
          have eJ : ((k : Int) + 4).toNat = k + 4 := by omega
          have eK : (0 : Int) ≤ (k : Int) + 4 := by omega
          have eL : (k : Int) + 4 < 8 := by omega
          clear hR2 hz t0 t1 t2 t3
          go_wp2
          go_roundw
          case rel => exact ⟨k + 1, _, by omega, by go_num, HR2, hV.same HZ.out⟩
          case measure => simp [intOf]; omega
    · obtain rfl : k = 4 := by omega
      have d0 := hW.oct 0 (by omega); have d1 := hW.oct 1 (by omega); have d2 := hW.oct 2 (by omega); have d3 := hW.oct 3 (by omega)
      have d4 := hW.oct 4 (by omega); have d5 := hW.oct 5 (by omega); have d6 := hW.oct 6 (by omega); have d7 := hW.oct 7 (by omega)
      obtain ⟨u0, e0⟩ := hW.res 0 (by omega)
      obtain ⟨u1, e1⟩ := hW.res 1 (by omega)
      obtain ⟨u2, e2⟩ := hW.res 2 (by omega)
      obtain ⟨u3, e3⟩ := hW.res 3 (by omega)
      obtain ⟨u4, e4⟩ := hW.res 4 (by omega)
      obtain ⟨u5, e5⟩ := hW.res 5 (by omega)
      obtain ⟨u6, e6⟩ := hW.res 6 (by omega)
      obtain ⟨u7, e7⟩ := hW.res 7 (by omega)
      have f0 := hW.resS 0; have f1 := hW.resS 1; have f2 := hW.resS 2; have f3 := hW.resS 3
      have f4 := hW.resS 4; have f5 := hW.resS 5; have f6 := hW.resS 6; have f7 := hW.resS 7
      obtain ⟨v1, _, v3⟩ := HR.out
      have hrb := hW.lt
      have hr8 := list8 hW.len
      have hbw := hW.below
      rw [hr8] at v1 hrb
      have HV := Lib.hid v1; have H3 := Lib.hid v3; have HRB := Lib.hid hrb
      clear hW HR v1 v3 hrb hr8
      generalize l.getD 0 0 = r0 at *
      generalize l.getD 1 0 = r1 at *
      generalize l.getD 2 0 = r2 at *
      generalize l.getD 3 0 = r3 at *
      generalize l.getD 4 0 = r4 at *
      generalize l.getD 5 0 = r5 at *
      generalize l.getD 6 0 = r6 at *
      generalize l.getD 7 0 = r7 at *
      have hsz : w.heap.size ≤ w.heap.size + 1 + 1 := by omega
      go_wp2
      exact bodyPost_ret (v := .agg #[.int .u64 r0, .int .u64 r1, .int .u64 r2, .int .u64 r3, .int .u64 r4, .int .u64 r5, .int .u64 r6, .int .u64 r7]) (by simp [results, Tryz.results52, go_sem, e0, e1, e2, e3, e4, e5, e6, e7]) rfl
        ⟨r0, r1, r2, r3, r4, r5, r6, r7, rfl, fun x hx => HRB.out x (by simp at hx ⊢; omega), H3.out, Lib.hid (wide_val HV.out), (((((((hbw.setCell hsz _).setCell hsz _).setCell hsz _).setCell hsz _).setCell hsz _).setCell hsz _).setCell hsz _).setCell hsz _⟩
end Go.Proofs.YtkmpbmlcmglmnaaGreatDoor
