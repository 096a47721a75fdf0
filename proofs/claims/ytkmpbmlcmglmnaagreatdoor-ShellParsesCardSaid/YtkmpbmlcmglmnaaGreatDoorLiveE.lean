/- Bytes as a word; a builder's writing. -/
import Derived.Test.YtkmpbmlcmglmnaaGreatDoorLiveD
import Derived.Lib.Builder
set_option linter.all false
namespace Go.Proofs.YtkmpbmlcmglmnaaGreatDoor
open Go Go.RowKit
def WByteOk : Prop := ∀ (B b : Nat) (bs : List Value) (c : Int) (w : World), Lib.IsBuilder 67 5 B b bs w → bs.length + 1 ≤ 140737488355328 → B ≤ w.heap.size →
  Calls Tryz.prog 126 #[.pointer (some ⟨b, 0, none⟩), .int .u8 c] w fun e w' => e = .returned .nilIface ∧ (Lib.BuilderAt 67 5 B b (.pointer (some ⟨b, 0, none⟩)) (bs ++ [.int .u8 c]) w' ∧ Below B w w')
def StringOk : Prop := ∀ (B b : Nat) (l : List UInt8) (w : World), Lib.IsBuilder 67 5 B b (Lib.byteCells l) w → l ≠ [] →
  Calls Tryz.prog 32 #[.pointer (some ⟨b, 0, none⟩)] w fun e w' => e = .returned (.string ⟨l.toArray⟩) ∧ Below B w w'
set_option maxRecDepth 100000 in
set_option maxHeartbeats 1000000 in
theorem b_prog (hT : TrimOk) (hI : IndexOk) (S A n cap i : Nat) (c d : UInt8) (h : (c = 49 ∧ d = 97) ∨ (c = 50 ∧ d = 98)) (w : World) (h0 : w.cell? ⟨S, 0, none⟩ = some (.slice (some ⟨A, 1, none⟩) n cap)) (hi : i < n) (hn : n ≤ 65537) (h1 : w.cell? ⟨A, 1 + i, none⟩ = some (.string ⟨#[54, c]⟩)) :
    Calls Tryz.prog 61 #[.pointer (some ⟨S, 0, none⟩), .int .i64 i] w fun e w' => ∃ v, e = .returned v ∧ w'.ownsRow w.heap.size 5 1 v 1 [.int .u8 (d.toNat : Int)] ∧ Below w.heap.size w w' := by
  have hiI : (i : Int) < n := by omega
  go_enter Tryz.func61, Tryz.ntmps61
  go_wp2_with (go_at_call 34; refine (bytes_two hT hI c d h _).mono ?_; rintro e1 w1 ⟨v, rfl, hown, hb1⟩)
  go_ret
  exact ⟨v, rfl, hown, hb1⟩
theorem fresh_builder (w : World) (T : TypeId) : Lib.IsBuilder T 5 w.heap.size w.heap.size [] (w.alloc (.cells #[.pointer none, .slice none 0 0] T)) :=
  .inl ⟨Nat.le_refl _, .slice none 0 0, heap_alloc_new w _, World.ownsRow_nil _ _ _ _, by simp [Value.ownBlock]⟩
set_option maxRecDepth 100000 in
set_option maxHeartbeats 1000000 in
theorem hex_one (hB : WByteOk) (hS : StringOk) (b o cap : Nat) (w : World) (h0 : w.cell? ⟨b, o, none⟩ = some (.int .u8 98)) :
    Calls Tryz.prog 62 #[.slice (some ⟨b, o, none⟩) 1 cap] w fun e w' => e = .returned (.string ⟨#[54, 50]⟩) ∧ Below w.heap.size w w' := by
  have hbl : b < w.heap.size := World.block_lt_of_cell? w ⟨b, o, none⟩ h0
  have hf := fresh_builder w 67
  have x6 : ∀ h, ((⟨#[48, 49, 50, 51, 52, 53, 54, 55, 56, 57, 97, 98, 99, 100, 101, 102]⟩ : ByteArray)[6]'h).toNat = 54 := fun _ => rfl
  have x2 : ∀ h, ((⟨#[48, 49, 50, 51, 52, 53, 54, 55, 56, 57, 97, 98, 99, 100, 101, 102]⟩ : ByteArray)[2]'h).toNat = 50 := fun _ => rfl
  go_enter Tryz.func62, Tryz.ntmps62
  go_wp2
  refine wp_loop_rounds 2 ?_
  rw [rounds_succ]
  go_wp2_with (go_at_call 126; refine (hB w.heap.size w.heap.size _ 54 _ hf (by simp) (by simp)).mono ?_; rintro e1 w1 ⟨rfl, hg, hb1⟩; have h1 : w1.cell? ⟨b, o, none⟩ = some (.int .u8 98) := (hb1.cell (p := ⟨b, o, none⟩) hbl).trans ((World.cell?_alloc_lt _ _ _ hbl).trans h0); have hs1 : w.heap.size ≤ w1.heap.size := (by have := hb1.size; simp at this; omega); clear hf)
  go_wp2_with (go_at_call 126; refine (hB w.heap.size w.heap.size _ 50 _ (.inr hg) (by simp) hs1).mono ?_; rintro e2 w2 ⟨rfl, hg2, hb2⟩; clear hg)
  rw [rounds_succ]
  go_wp2_with (go_at_call 32; refine (hS w.heap.size w.heap.size [54, 50] _ (.inr hg2) (by simp)).mono ?_; rintro e3 w3 ⟨rfl, hb3⟩)
  go_ret
  exact ⟨rfl, ((((Below.refl _ _).alloc (Nat.le_refl _) _).trans hb1).trans hb2).trans hb3⟩
/-- a builder's block, with what it holds. -/
def Bld (w : World) (b : Nat) (v : Value) (bs : List Value) : Prop :=
  (∃ p, (p = .pointer none ∨ p = .pointer (some ⟨b, 0, none⟩)) ∧ w.heap[b]? = some (.cells #[p, v] 67 (0, 0))) ∧ w.ownsRow (b + 1) 5 1 v bs.length bs
theorem Bld.is {w : World} {b : Nat} {v : Value} {bs : List Value} (h : Bld w b v bs) : Lib.IsBuilder 67 5 b b bs w := by
  obtain ⟨⟨p, hp, hb⟩, ho⟩ := h
  have ho' : w.ownsRow b 5 1 v bs.length bs := ⟨ho.1, ho.2.imp id (by rintro ⟨g, cap, cur, e, h1, h2⟩; exact ⟨g, cap, cur, e, by omega, h2⟩)⟩
  have hn : v.ownBlock ≠ some b := fun e => by have := (ho.lt b e).1; omega
  rcases hp with rfl | rfl
  · exact .inl ⟨Nat.le_refl _, v, hb, ho', hn⟩
  · exact .inr ⟨Nat.le_refl _, v, hb, ho', hn⟩
def CheckOk : Prop :=
  (∀ (b : Nat) (w : World), w.cell? ⟨b, 0, none⟩ = some (.pointer (some ⟨b, 0, none⟩)) → Calls Tryz.prog 40 #[.pointer (some ⟨b, 0, none⟩)] w fun e w' => e = .returned (.tuple #[]) ∧ w' = w) ∧
  (∀ (b : Nat) (w : World), w.cell? ⟨b, 0, none⟩ = some (.pointer none) → w.shape? b = some (67, 2) → w.frozen? ⟨b, 0, none⟩ = false → Calls Tryz.prog 40 #[.pointer (some ⟨b, 0, none⟩)] w fun e w' => e = .returned (.tuple #[]) ∧ w' = w.setCell ⟨b, 0, none⟩ (.pointer (some ⟨b, 0, none⟩)))
theorem check_any (hK : CheckOk) {w : World} {b : Nat} {v : Value} {bs : List Value} (h : Bld w b v bs) : Calls Tryz.prog 40 #[.pointer (some ⟨b, 0, none⟩)] w fun e w1 => e = .returned (.tuple #[]) ∧
    w1.heap[b]? = some (.cells #[.pointer (some ⟨b, 0, none⟩), v] 67 (0, 0)) ∧ w1.ownsRow (b + 1) 5 1 v bs.length bs ∧ Below b w w1 ∧ w1.heap.size = w.heap.size ∧ ∀ k, k ≠ b → w1.heap[k]? = w.heap[k]? := by
  obtain ⟨⟨p, hp, hb⟩, hown⟩ := h
  have hne : v.ownBlock ≠ some b := fun e => by have := (hown.lt b e).1; omega
  rcases hp with rfl | rfl
  · refine (hK.2 b w (by simp [World.cell?, hb]) (by simp [World.shape?, hb]) (by simp [World.frozen?, hb])).mono ?_
    rintro e w1 ⟨rfl, rfl⟩
    refine ⟨rfl, by simp [World.setCell, Array.getElem?_modify, hb], ?_, (Below.refl b w).setCell (p := ⟨b, 0, none⟩) (Nat.le_refl _) _, by simp, fun k hk => Below.heap_setCell _ _ _ _ hk⟩
    exact hown.kept (row := some b) ⟨rfl, rfl, rfl, by simp [World.setCell], fun k _ hk => Below.heap_setCell _ _ _ _ (fun e => hk (by simp [e]))⟩ (Or.inr hne)
  · refine (hK.1 b w (by simp [World.cell?, hb])).mono ?_
    rintro e w1 ⟨rfl, rfl⟩
    exact ⟨rfl, hb, hown, Below.refl _ _, rfl, fun k _ => rfl⟩
set_option maxRecDepth 100000 in
set_option maxHeartbeats 1000000 in
theorem ws_prog (hK : CheckOk) (b : Nat) (v : Value) (bs : List Value) (s : ByteArray) (w : World) (h : Bld w b v bs) (hlen : bs.length + s.size ≤ 65536) :
    Calls Tryz.prog 29 #[.pointer (some ⟨b, 0, none⟩), .string s] w fun e w' => e = .returned (.tuple #[.int .i64 s.size, .nilIface]) ∧
      ∃ v', Bld w' b v' (bs ++ Lib.strCells s) ∧ Below b w w' ∧ ∀ k, k < w.heap.size → k ≠ b → v.ownBlock ≠ some k → w'.heap[k]? = w.heap[k]? := by
  obtain ⟨i0, hi, hz0, hz1, hz2⟩ := info_parts infoU8
  have hbl : b < w.heap.size := h.is.elim (fun x => x.lt) (fun x => x.lt)
  have HB := Lib.hid h; clear h
  go_enter Tryz.func29, Tryz.ntmps29
  go_wp2_with (first
    | (go_at_call 40; refine (check_any hK HB.out).mono ?_; rintro e1 w1 ⟨rfl, hb1, hown, hbw, hsz, hfr⟩; have c1 : w1.cell? ⟨b, 1, none⟩ = some v := (by simp [World.cell?, hb1]))
    | (at_builtin; refine Lib.wpList_append_own_string _ rfl _ _ 47 9 rfl (b + 1) 5 i0 Tryz.underlying47 Tryz.underlying9 hi hz0 hz1 hz2 _ _ _ rfl hown s rfl (by unfold maxLen; omega) (by omega) (by omega) ?_; intro v' w2 hown' hgrow _; have hne : v.ownBlock ≠ some b := (fun e => by have := (hown.lt b e).1; omega); have hb2 : w2.heap[b]? = some (.cells #[.pointer (some ⟨b, 0, none⟩), v] 67 (0, 0)) := (hgrow.block b (by omega) (fun e => hne e.symm)).trans hb1; have d1 : w2.cell? ⟨b, 1, none⟩ = some v := (by simp [World.cell?, hb2]); have f1 : w2.frozen? ⟨b, 1, none⟩ = false := (by simp [World.frozen?, hb2]); obtain ⟨oa, oc, rfl⟩ := own_slice hown'))
  go_ret2
  have hn2 : (Value.slice oa (bs.length + s.size) oc).ownBlock ≠ some b := fun e => by have := (hown'.lt b e).1; omega
  have ho2 := hown'.kept (w' := w2.setCell ⟨b, 1, none⟩ (.slice oa (bs.length + s.size) oc)) (row := some b) ⟨rfl, rfl, rfl, by simp [World.setCell], fun k _ hk => Below.heap_setCell _ _ _ _ (fun e => hk (by simp [e]))⟩ (Or.inr hn2)
  refine ⟨rfl, .slice oa (bs.length + s.size) oc, ⟨⟨.pointer (some ⟨b, 0, none⟩), .inr rfl, by simp [World.setCell, Array.getElem?_modify, hb2]⟩, by simpa [Lib.strCells_length] using ho2⟩, ?_, ?_⟩
  · exact (hbw.grown hgrow (by omega) (fun k hk => by have := (hown.lt k hk).1; omega)).setCell (p := ⟨b, 1, none⟩) (Nat.le_refl _) _
  · intro k hk hkb hkv
    rw [Below.heap_setCell _ _ _ _ hkb, hgrow.block k (by omega) (fun e => hkv e.symm), hfr k hkb]
end Go.Proofs.YtkmpbmlcmglmnaaGreatDoor
