/- A command's words as numbers and bytes; half bytes; a copy. -/
import Derived.Test.YtkmpbmlcmglmnaaGreatDoorLiveB
import Derived.Test.YtkmpbmlcmglmnaaGreatDoorCodeB
import Derived.Laws.AppendOwnNone
import Derived.WideMake
set_option linter.all false
namespace Go.Proofs.YtkmpbmlcmglmnaaGreatDoor
open Go Go.RowKit
theorem kept4 {W w1 : World} (hb : Below W.heap.size W w1) {B : Nat} {t : TypeId} {a b c d : Value} (h : W.heap[B]? = some (.cells #[a, b, c, d] t (0, 0))) :
    w1.cell? ⟨B, 0, none⟩ = some a ∧ w1.cell? ⟨B, 1, none⟩ = some b ∧ w1.cell? ⟨B, 2, none⟩ = some c ∧ w1.cell? ⟨B, 3, none⟩ = some d ∧
    w1.frozen? ⟨B, 0, none⟩ = false ∧ w1.frozen? ⟨B, 1, none⟩ = false ∧ w1.frozen? ⟨B, 2, none⟩ = false ∧ w1.frozen? ⟨B, 3, none⟩ = false ∧ B < w1.heap.size := by
  have k := keptAt hb h
  have hlt := (Array.getElem?_eq_some_iff.1 h).1
  exact ⟨k.1 0 _ rfl, k.1 1 _ rfl, k.1 2 _ rfl, k.1 3 _ rfl, k.2 0, k.2 1, k.2 2, k.2 3, Nat.lt_of_lt_of_le hlt hb.size⟩
theorem one_val {v a0 a1 a2 a3 : Nat} (hr : ∀ x ∈ [a0, a1, a2, a3], x < b64) (hv : val b64 [a0, a1, a2, a3] = v) (h : v < b64) : a0 = v ∧ a1 = 0 ∧ a2 = 0 ∧ a3 = 0 := by
  have h0 := hr a0 (by simp)
  simp only [val, b64] at hv h0 h
  omega
set_option maxRecDepth 100000 in
set_option maxHeartbeats 1000000 in
theorem n_prog (hM : MulOk) (hA : AddOk) (S A n cap i v : Nat) (x : ByteArray) (w : World) (h0 : w.cell? ⟨S, 0, none⟩ = some (.slice (some ⟨A, 1, none⟩) n cap)) (hi : i < n) (hn : n ≤ 65537) (h1 : w.cell? ⟨A, 1 + i, none⟩ = some (.string x)) (he : numErr x = 0) (hv : numVal x.data.toList = v) (hlt : v < b64) :
    Calls Tryz.prog 60 #[.pointer (some ⟨S, 0, none⟩), .int .i64 i] w fun e w' => e = .returned (.agg #[.int .u64 v, .int .u64 0, .int .u64 0, .int .u64 0]) ∧ Below w.heap.size w w' := by
  have hSl : S < w.heap.size := World.block_lt_of_cell? w ⟨S, 0, none⟩ h0
  have hAl : A < w.heap.size := World.block_lt_of_cell? w ⟨A, 1 + i, none⟩ h1
  have hiI : (i : Int) < n := by omega
  have HE := Lib.hid he; have HV := Lib.hid hv; have HT := Lib.hid hlt; clear he hv hlt
  go_enter Tryz.func60, Tryz.ntmps60
  go_wp2_with (go_at_call 35; refine (num_val hM hA _ _).mono ?_; rintro e1 w1 ⟨a0, a1, a2, a3, rfl, hq, hb1⟩; obtain ⟨hq1, hq2⟩ := hq HE.out; obtain ⟨rfl, rfl, rfl, rfl⟩ := one_val hq2 (hq1.trans HV.out) HT.out; clear hq1 hq2; obtain ⟨p0, p1, p2, p3, f0, f1, f2, f3, hz⟩ := kept4 hb1 (B := w.heap.size) (heap_alloc_new w _))
  refine bodyPost_ret (v := .agg #[.int .u64 (a0 : Nat), .int .u64 0, .int .u64 0, .int .u64 0]) (by simp [results, Tryz.results60, go_sem, p0, p1, p2, p3, hz]) rfl ⟨rfl, ?_⟩
  have hbx : Below w.heap.size w w1 := ((Below.refl _ _).alloc (Nat.le_refl _) _).trans (hb1.mono (by simp))
  go_grown
set_option maxRecDepth 100000 in
set_option maxHeartbeats 1000000 in
theorem clone_one (b o cap : Nat) (x : Int) (w : World) (h0 : w.cell? ⟨b, o, none⟩ = some (.int .u8 x)) :
    Calls Tryz.prog 38 #[.slice (some ⟨b, o, none⟩) 1 cap] w fun e w' => ∃ v, e = .returned v ∧ w'.ownsRow w.heap.size 5 1 v 1 [.int .u8 x] ∧ Below w.heap.size w w' := by
  obtain ⟨i0, hi, hz0, hz1, hz2⟩ := info_parts infoU8
  have hbl : b < w.heap.size := World.block_lt_of_cell? w ⟨b, o, none⟩ h0
  have hown0 := World.ownsRow_made (base := w.heap.size) (e := 5) (size := 1) w #[] 0 (Nat.le_refl _) (by simp [maxLen]) (by simp)
  have hsn : ∀ w, (binOp .eql 47 (.slice (some ⟨b, o, none⟩) 1 cap) (.slice none 0 0)).run Tryz.prog w = .ok (.bool false) w := fun _ => by kernel_rfl
  go_enter Tryz.func38, Tryz.ntmps38
  go_wp2_with (at_builtin; refine wpList_append_own _ rfl _ _ 47 rfl w.heap.size 5 i0 (.int .u8 0) 1 1 Tryz.underlying47 hi hz0 hz1 hz2 rfl (by decide) _ _ _ rfl hown0 ⟨b, o, none⟩ 1 cap [.int .u8 x] rfl rfl (by intro j u hj; match j, hj with | 0, hj => simp at hj; subst hj; exact (World.cell?_alloc_lt _ _ _ hbl).trans h0) (by intro u hu; simp at hu; subst hu; rfl) (by unfold maxLen; omega) (by omega) (by simp) ?_; intro v' w1 hown' hgrow _)
  go_ret
  exact ⟨v', rfl, by simpa using hown', ((Below.refl _ _).alloc (Nat.le_refl _) _).grown hgrow (by simp) (fun k hk => (hown0.lt k hk).1)⟩
set_option maxRecDepth 100000 in
set_option maxHeartbeats 1000000 in
theorem nib_of (b o cap : Nat) (w : World) (h0 : w.cell? ⟨b, o, none⟩ = some (.int .u8 97)) :
    Calls Tryz.prog 217 #[.slice (some ⟨b, o, none⟩) 1 cap] w fun e w' => ∃ v, e = .returned v ∧ w'.ownsRow w.heap.size 5 1 v 2 [.int .u8 6, .int .u8 1] ∧ Below w.heap.size w w' := by
  obtain ⟨i0, hi, hz0, hz1, hz2⟩ := info_parts infoU8
  have hbl : b < w.heap.size := World.block_lt_of_cell? w ⟨b, o, none⟩ h0
  obtain ⟨w0, hr, hown, hg⟩ := run_make_own (P := Tryz.prog) w w.heap.size 47 5 i0 (.int .u8 0) 1 Tryz.underlying47 hi hz0 hz1 .i64 .i64 2 (by rw [hz2]; omega) (by simp [maxLen]) (Nat.le_refl _)
  have hb0 : Below w.heap.size w w0 := (Below.refl _ _).grown hg (Nat.le_refl _) (fun k hk => by cases hk)
  have h1 := cell_kept2 hb0 h0
  have hr2 : (Instr.makeSlice 47 (.int .i64 0) (.int .i64 2)).run Tryz.prog w = .ok (.slice (some ⟨w.heap.size, 0, none⟩) 0 2) w0 := hr
  clear hr
  go_enter Tryz.func217, Tryz.ntmps217
  go_wp2
  refine wp_loop_rounds 2 ?_
  rw [rounds_succ]
  go_wp2_with (at_builtin; refine wpList_append_own _ rfl _ _ 47 rfl w.heap.size 5 i0 (.int .u8 0) 1 1 Tryz.underlying47 hi hz0 hz1 hz2 rfl (by decide) _ _ _ rfl (hown.alloc _) ⟨w0.heap.size, 0, none⟩ 2 2 [.int .u8 6, .int .u8 1] rfl rfl (World.news_of_block (heap_alloc_new w0 _)) (by intro u hu; simp only [List.mem_cons, List.not_mem_nil, or_false] at hu; rcases hu with rfl | rfl <;> rfl) (by unfold maxLen; omega) (by omega) (by have := hb0.size; simp; omega) ?_; intro v' w1 hown' hgrow _)
  rw [rounds_succ]
  go_wp2
  go_ret
  exact ⟨v', rfl, by simpa using hown', (hb0.alloc hb0.size _).grown hgrow (by have := hb0.size; simp; omega) (fun k hk => (hown.lt k hk).1)⟩
end Go.Proofs.YtkmpbmlcmglmnaaGreatDoor
