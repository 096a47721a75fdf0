/- The law's own script, played to its end. -/
import Derived.Test.YtkmpbmlcmglmnaaGreatDoorLiveL
set_option linter.all false
namespace Go.Proofs.YtkmpbmlcmglmnaaGreatDoor
open Go Go.RowKit
def liveOut (k : Nat) : List UInt8 := match k with
  | 0 => []
  | 1 => [49, 32, 53, 10]
  | 2 => [49, 32, 53, 10, 50, 32, 111, 107, 10]
  | _ => [49, 32, 53, 10, 50, 32, 111, 107, 10, 51, 32, 54, 50, 10]
theorem out1 : Lib.byteCells (liveOut 0) ++ Lib.strCells ((⟨#[49]⟩ : ByteArray) ++ (⟨#[32]⟩ : ByteArray) ++ (⟨#[53]⟩ : ByteArray) ++ (⟨#[10]⟩ : ByteArray)) = Lib.byteCells (liveOut 1) := by kernel_rfl
theorem out2 : Lib.byteCells (liveOut 1) ++ Lib.strCells ((⟨#[50]⟩ : ByteArray) ++ (⟨#[32]⟩ : ByteArray) ++ (⟨#[111, 107]⟩ : ByteArray) ++ (⟨#[10]⟩ : ByteArray)) = Lib.byteCells (liveOut 2) := by kernel_rfl
theorem out3 : Lib.byteCells (liveOut 2) ++ Lib.strCells ((⟨#[51]⟩ : ByteArray) ++ (⟨#[32]⟩ : ByteArray) ++ (⟨#[54, 50]⟩ : ByteArray) ++ (⟨#[10]⟩ : ByteArray)) = Lib.byteCells (liveOut 3) := by kernel_rfl
def ItoaOk : Prop := (∀ w, Calls Tryz.prog 30 #[.int .i64 1] w fun e w' => e = .returned (.string ⟨#[49]⟩) ∧ w = w') ∧ (∀ w, Calls Tryz.prog 30 #[.int .i64 2] w fun e w' => e = .returned (.string ⟨#[50]⟩) ∧ w = w') ∧ (∀ w, Calls Tryz.prog 30 #[.int .i64 3] w fun e w' => e = .returned (.string ⟨#[51]⟩) ∧ w = w')
structure RunAt (w2 wr : World) (k : Nat) : Prop where
  below : Below w2.heap.size w2 wr
  sh : ∃ v0 q, wr.heap[w2.heap.size + 1]? = some (.cells #[v0, .pointer (some ⟨w2.heap.size, 0, none⟩), q] 64 (0, 0))
  tr : (k < 2 → wr.heap[w2.heap.size]? = some (.cells #[.pointer none, .int .i64 0] 111 (0, 0))) ∧ (k = 2 → ∃ lo, w2.heap.size + 3 ≤ lo ∧ TrieAt wr w2.heap.size lo)
  bl : ∃ v, Bld wr (w2.heap.size + 1 + 1) v (Lib.byteCells (liveOut k))
def RunRel (w2 : World) (i : Value) (wr : World) : Prop := ∃ k : Nat, k ≤ 3 ∧ i = .int .i64 k ∧ RunAt w2 wr k
theorem run_start (w2 : World) (q : Value) : RunAt w2 (((w2.alloc (.cells #[.pointer none, .int .i64 0] 111)).alloc (.cells #[.slice none 0 0, .pointer (some ⟨w2.heap.size, 0, none⟩), q] 64)).alloc (.cells #[.pointer none, .slice none 0 0] 67)) 0 := by
  refine ⟨by go_grown, ⟨.slice none 0 0, q, ?_⟩, ⟨fun _ => ?_, fun h => by cases h⟩, .slice none 0 0, ⟨.pointer none, .inl rfl, ?_⟩, World.ownsRow_nil _ _ _ _⟩
  · simp only [heap_alloc_at, World.size_alloc]; repeat (first | rfl | rw [if_pos (by omega)] | rw [if_neg (by omega)])
  · simp only [heap_alloc_at, World.size_alloc]; repeat (first | rfl | rw [if_pos (by omega)] | rw [if_neg (by omega)])
  · simp only [heap_alloc_at, World.size_alloc]; repeat (first | rfl | rw [if_pos (by omega)] | rw [if_neg (by omega)])
theorem grown_of_below {w w' : World} (hb : Below w.heap.size w w') (row : Option Nat) : w.grownBy w' row := ⟨hb.os, hb.tape, hb.output, hb.size, fun k hk _ => hb.block k hk⟩
theorem grown_setCell (w : World) (p : Addr) (v : Value) : w.grownBy (w.setCell p v) (some p.block) := ⟨rfl, rfl, rfl, by simp, fun _ _ hne => Below.heap_setCell _ _ _ _ (fun e => hne (by rw [e]))⟩
theorem Bld.grown {w w' : World} {b : Nat} {v : Value} {bs : List Value} {row : Option Nat} (h : Bld w b v bs) (hg : w.grownBy w' row) (hr : ∀ k, row = some k → k < b) : Bld w' b v bs := by
  obtain ⟨⟨p, hp, hb⟩, ho⟩ := h
  have hl := (Array.getElem?_eq_some_iff.1 hb).1
  refine ⟨⟨p, hp, (hg.block b hl (fun e => by have := hr b e.symm; omega)).trans hb⟩, ho.kept hg ?_⟩
  by_cases hn : v.ownBlock = none
  · exact .inl hn
  · refine .inr (fun e => ?_)
    cases hv : v.ownBlock with
    | none => exact hn hv
    | some j =>
      have h1 := (ho.lt j hv).1
      have h2 := hr j (by rw [← e, hv])
      omega
theorem TrieAt.kept {w w' : World} {T lo : Nat} (h : TrieAt w T lo) (hf : ∀ k, k < w.heap.size → (k = T ∨ lo ≤ k) → w'.heap[k]? = w.heap[k]?) : TrieAt w' T lo := by
  obtain ⟨N, P, V, pc, vc, h1, h2, h3, h4, h5, h6, h7, h8⟩ := h
  have hP := World.block_lt_of_cell? w ⟨P, 0, none⟩ h3
  have hV := World.block_lt_of_cell? w ⟨V, 0, none⟩ h5
  exact ⟨N, P, V, pc, vc, (hf T (Array.getElem?_eq_some_iff.1 h1).1 (.inl rfl)).trans h1, (hf N (Array.getElem?_eq_some_iff.1 h2).1 (.inr h6)).trans h2,
    (World.cell?_of_block (a := ⟨P, 0, none⟩) (hf P hP (.inr h7))).trans h3, (World.cell?_of_block (a := ⟨P, 1, none⟩) (hf P hP (.inr h7))).trans h4, (World.cell?_of_block (a := ⟨V, 0, none⟩) (hf V hV (.inr h8))).trans h5, h6, h7, h8⟩
theorem run_store {w2 wr : World} {k : Nat} (h : RunAt w2 wr k) (A n cp : Nat) (c : Array Value) {E : World} (hE : E = (wr.setCell ⟨w2.heap.size + 1, 0, none⟩ (.slice (some ⟨A, 1, none⟩) n cp)).alloc (.cells c 33)) :
    ShellAt E (w2.heap.size + 1) w2.heap.size A n cp ∧ Below w2.heap.size w2 E ∧ (k < 2 → E.heap[w2.heap.size]? = some (.cells #[.pointer none, .int .i64 0] 111 (0, 0))) ∧ (k = 2 → ∃ lo, TrieAt E w2.heap.size lo) ∧
    (∀ v bs, Bld wr (w2.heap.size + 1 + 1) v bs → Bld E (w2.heap.size + 1 + 1) v bs) ∧ E.heap.size = wr.heap.size + 1 := by
  obtain ⟨hb, ⟨v0, q, hsh⟩, ⟨ht1, ht2⟩, _⟩ := h
  have hSl := (Array.getElem?_eq_some_iff.1 hsh).1
  have hg : wr.grownBy E (some (w2.heap.size + 1)) := by
    rw [hE]
    refine ⟨rfl, rfl, rfl, by simp, fun k hk hne => ?_⟩
    rw [heap_alloc_at, if_neg (by simp; omega), Below.heap_setCell _ _ _ _ (fun e => hne (by rw [e]))]
  have hsE : E.heap.size = wr.heap.size + 1 := by rw [hE]; simp
  refine ⟨⟨q, ?_⟩, hb.grown hg (by omega) (fun k e => by injection e with e; omega), fun hk => (hg.block _ (by omega) (by simp)).trans (ht1 hk), fun hk => ?_, fun v bs h => h.grown hg (fun k e => by injection e with e; omega), hsE⟩
  · rw [hE, heap_alloc_at, if_neg (by simp; omega)]
    simp [World.setCell, Array.getElem?_modify, hsh]
  · obtain ⟨lo, hlo, ht⟩ := ht2 hk
    exact ⟨lo, ht.kept (fun j hj hor => hg.block j hj (by rcases hor with rfl | hor <;> simp <;> omega))⟩
theorem run_next {w2 wr E wd we : World} {k A n cp : Nat} {c : Array Value} {v v' : Value} (h : RunAt w2 wr k) (hE : E = (wr.setCell ⟨w2.heap.size + 1, 0, none⟩ (.slice (some ⟨A, 1, none⟩) n cp)).alloc (.cells c 33))
    (hgd : E.grownBy wd (some w2.heap.size)) (htr : k + 1 < 2 → wd.heap[w2.heap.size]? = some (.cells #[.pointer none, .int .i64 0] 111 (0, 0))) (ht2 : k + 1 = 2 → TrieAt wd w2.heap.size E.heap.size)
    (hv : Bld wr (w2.heap.size + 1 + 1) v (Lib.byteCells (liveOut k))) (hbd : Below (w2.heap.size + 1 + 1) wd we) (hfr : ∀ j, j < wd.heap.size → j ≠ w2.heap.size + 1 + 1 → v.ownBlock ≠ some j → we.heap[j]? = wd.heap[j]?)
    (hb' : Bld we (w2.heap.size + 1 + 1) v' (Lib.byteCells (liveOut (k + 1)))) : RunAt w2 we (k + 1) := by
  obtain ⟨⟨q, hs⟩, hbE, _, _, _, hsE⟩ := run_store h A n cp c hE
  have hSl := (Array.getElem?_eq_some_iff.1 hs).1
  have hbl : w2.heap.size + 1 + 1 < wr.heap.size := by
    obtain ⟨⟨p, _, hp⟩, _⟩ := hv
    exact (Array.getElem?_eq_some_iff.1 hp).1
  have hown : ∀ j, v.ownBlock = some j → w2.heap.size + 1 + 1 < j ∧ j < wr.heap.size := fun j e => by
    have := hv.2.lt j e
    omega
  refine ⟨(hbE.grown hgd (by omega) (fun k e => by injection e with e; omega)).trans (hbd.mono (by omega)), ⟨.slice (some ⟨A, 1, none⟩) n cp, q, ?_⟩, ⟨fun hk => ?_, fun hk => ⟨E.heap.size, by omega, (ht2 hk).kept (fun j hj hor => ?_)⟩⟩, v', hb'⟩
  · exact (hbd.block _ (by omega)).trans ((hgd.block _ hSl (by simp)).trans hs)
  · exact (hbd.block _ (by omega)).trans (htr hk)
  · rcases hor with rfl | hor
    · exact hbd.block _ (by omega)
    · exact hfr j hj (by omega) (fun e => by have := hown j e; omega)
set_option maxRecDepth 100000 in
set_option maxHeartbeats 2000000 in
theorem run_live (hC : CutOk) (hF : FieldsOk) (hT : TrimOk) (hI : IndexOk) (hM : MulOk) (hA : AddOk) (hB : WByteOk) (hS2 : StringOk) (hK : CheckOk) (hO : ItoaOk) (w : World) (hw : HasLen w) :
    Calls Tryz.prog 17 #[.string liveS] w fun e w' => e = .returned (.tuple #[.string ⟨#[49, 32, 53, 10, 50, 32, 111, 107, 10, 51, 32, 54, 50, 10]⟩, .int .i64 0, .int .i64 0]) ∧ Below w.heap.size w w' := by
  have HR := Lib.hid liveRead
  go_enter Tryz.func17, Tryz.ntmps17
  go_wp2_with (first
    | (go_at_call 8; refine (script_prog hC hF hT hI hM hA _ _ hw).mono ?_; rintro e1 w1 ⟨_, _, hp, hb1⟩; obtain ⟨v, rfl, hsay, _⟩ := hp (by decide) _ HR.out; clear hp; obtain ⟨la, lc, hv, HC0⟩ := says_cells hsay; have hv3 : v = .slice la 3 lc := hv; subst hv3; have HC := Lib.hid HC0; clear HC0 hv hsay)
    | (go_at_call 27; refine (new_state _).mono ?_; rintro e2 w2 ⟨q, rfl, hb2⟩)
    | (go_at_call 28; refine (new_trie _).mono ?_; rintro e3 w3 ⟨rfl, rfl⟩))
  go_loopw [34] (RunRel w2) (fun i _ => 3 - (intOf i).toNat)
  case atStart => exact ⟨0, by omega, rfl, run_start w2 _⟩
  case round =>
    obtain ⟨k, hk, rfl, hR⟩ := hrel
    have hcs : k = 0 ∨ k = 1 ∨ k = 2 ∨ k = 3 := by omega
    obtain ⟨v0, q0, hsh⟩ := hR.sh
    have hSl := (Array.getElem?_eq_some_iff.1 hsh).1
    have s0 : wr.cell? ⟨w2.heap.size + 1, 0, none⟩ = some v0 := by simp [World.cell?, hsh]
    have s1 : wr.frozen? ⟨w2.heap.size + 1, 0, none⟩ = false := by simp [World.frozen?, hsh]
    rcases hcs with rfl | rfl | rfl | rfl
    · obtain ⟨B, A, x, cp, rfl, c0, c1, c2, hx, _, hws⟩ := HC.out 0 (by decide)
      obtain rfl := hx (by decide)
      have c0 : wr.cell? ⟨B, 0, none⟩ = some (.int .i64 1) := cell_kept2 hR.below (cell_kept2 hb2 c0)
      have c1 : wr.cell? ⟨B, 1, none⟩ = some (.string ⟨#[119, 111, 114, 100]⟩) := cell_kept2 hR.below (cell_kept2 hb2 c1)
      have c2 : wr.cell? ⟨B, 2, none⟩ = some (.slice (some ⟨A, 1, none⟩) 3 cp) := cell_kept2 hR.below (cell_kept2 hb2 c2)
      have hBl : B < wr.heap.size := World.block_lt_of_cell? wr ⟨B, 0, none⟩ c0
      go_wp2_with fail
      obtain ⟨E, hE⟩ : ∃ E, E = (wr.setCell ⟨w2.heap.size + 1, 0, none⟩ (.slice (some ⟨A, 1, none⟩) 3 cp)).alloc (.cells #[.int .i64 1, .string ⟨#[119, 111, 114, 100]⟩, .slice (some ⟨A, 1, none⟩) 3 cp] 33) := ⟨_, rfl⟩
      rw [← hE]
      obtain ⟨hSh, hbE, hT1, hT2, hbl, hsE⟩ := run_store hR A 3 cp _ hE
      obtain ⟨v, hv⟩ := hR.bl
      have hbdE := hbl v _ hv
      have a1 : E.cell? ⟨A, 1, none⟩ = some (.string ⟨#[97, 100, 100]⟩) := cell_kept2 hbE (cell_kept2 hb2 (hws.strs 1 (by decide)))
      have a2 : E.cell? ⟨A, 2, none⟩ = some (.string ⟨#[50]⟩) := cell_kept2 hbE (cell_kept2 hb2 (hws.strs 2 (by decide)))
      have a3 : E.cell? ⟨A, 3, none⟩ = some (.string ⟨#[51]⟩) := cell_kept2 hbE (cell_kept2 hb2 (hws.strs 3 (by decide)))
      have x0 : E.cell? ⟨wr.heap.size, 0, none⟩ = some (.int .i64 1) := by rw [hE]; simp [go_sem]
      have x1 : E.cell? ⟨wr.heap.size, 1, none⟩ = some (.string ⟨#[119, 111, 114, 100]⟩) := by rw [hE]; simp [go_sem]
      have hTl : w2.heap.size < E.heap.size := by have := hSh.lt; omega
      have hwne : w2.heap.size ≠ wr.heap.size := by omega
      have HE := Lib.hid hE; have HB := Lib.hid hbdE
      clear hE hbdE c0 c1 c2 s0 s1 hsh
      go_region_with (first
        | (go_at_call 29; refine (ws_prog hK (w2.heap.size + 1 + 1) v _ ((⟨#[49]⟩ : ByteArray) ++ (⟨#[32]⟩ : ByteArray) ++ (⟨#[53]⟩ : ByteArray) ++ (⟨#[10]⟩ : ByteArray)) wd HW.out (by decide)).mono ?_; rintro e5 we ⟨rfl, v', hb', hbw, hfr⟩)
        | (go_at_call 31; refine (done_word hM hA (w2.heap.size + 1) w2.heap.size A cp E.drew hSh a1 a2 a3).mono ?_; rintro e4 wd ⟨rfl, hb0⟩; have hbd : Below E.heap.size E wd := ⟨hb0.os, hb0.tape, hb0.output, hb0.size, hb0.block⟩; clear hb0; have x0d := cell_kept2 hbd x0; have x1d := cell_kept2 hbd x1; have HW := Lib.hid (HB.out.grown (grown_of_below hbd none) (fun _ e => by cases e)))
        | (go_at_call 30; refine (hO.1 E.drew).mono ?_; rintro e3 w3 ⟨rfl, rfl⟩))
      all_goals
        have hrl : RunRel w2 (.int .i64 1) we := ⟨1, by omega, rfl, run_next hR HE.out (grown_of_below hbd _) (fun _ => (hbd.block _ hTl).trans (hT1 (by omega))) (fun h => by omega) hv hbw hfr (by rw [← out1]; exact hb')⟩
        go_wp2
        go_roundw
        case rel => first | exact hrl | exact ⟨_, _, _, _, _, _, _, _, _, _, _, _, _, _, _, _, _, _, _, _, _, _, hrl, rfl⟩
        case measure => simp [intOf]
    · obtain ⟨B, A, x, cp, rfl, c0, c1, c2, hx, _, hws⟩ := HC.out 1 (by decide)
      obtain rfl := hx (by decide)
      have c0 : wr.cell? ⟨B, 3, none⟩ = some (.int .i64 2) := cell_kept2 hR.below (cell_kept2 hb2 c0)
      have c1 : wr.cell? ⟨B, 4, none⟩ = some (.string ⟨#[112, 117, 116]⟩) := cell_kept2 hR.below (cell_kept2 hb2 c1)
      have c2 : wr.cell? ⟨B, 5, none⟩ = some (.slice (some ⟨A, 1, none⟩) 2 cp) := cell_kept2 hR.below (cell_kept2 hb2 c2)
      have hBl : B < wr.heap.size := World.block_lt_of_cell? wr ⟨B, 3, none⟩ c0
      go_wp2_with fail
      obtain ⟨E, hE⟩ : ∃ E, E = (wr.setCell ⟨w2.heap.size + 1, 0, none⟩ (.slice (some ⟨A, 1, none⟩) 2 cp)).alloc (.cells #[.int .i64 2, .string ⟨#[112, 117, 116]⟩, .slice (some ⟨A, 1, none⟩) 2 cp] 33) := ⟨_, rfl⟩
      rw [← hE]
      obtain ⟨hSh, hbE, hT1, hT2, hbl, hsE⟩ := run_store hR A 2 cp _ hE
      obtain ⟨v, hv⟩ := hR.bl
      have hbdE := hbl v _ hv
      have a1 : E.cell? ⟨A, 1, none⟩ = some (.string ⟨#[54, 49]⟩) := cell_kept2 hbE (cell_kept2 hb2 (hws.strs 1 (by decide)))
      have a2 : E.cell? ⟨A, 2, none⟩ = some (.string ⟨#[54, 50]⟩) := cell_kept2 hbE (cell_kept2 hb2 (hws.strs 2 (by decide)))
      have x0 : E.cell? ⟨wr.heap.size, 0, none⟩ = some (.int .i64 2) := by rw [hE]; simp [go_sem]
      have x1 : E.cell? ⟨wr.heap.size, 1, none⟩ = some (.string ⟨#[112, 117, 116]⟩) := by rw [hE]; simp [go_sem]
      have hTl : w2.heap.size < E.heap.size := by have := hSh.lt; omega
      have hwne : w2.heap.size ≠ wr.heap.size := by omega
      have HE := Lib.hid hE; have HB := Lib.hid hbdE
      clear hE hbdE c0 c1 c2 s0 s1 hsh
      have hT1' := hT1 (by omega)
      go_region_with (first
        | (go_at_call 29; refine (ws_prog hK (w2.heap.size + 1 + 1) v _ ((⟨#[50]⟩ : ByteArray) ++ (⟨#[32]⟩ : ByteArray) ++ (⟨#[111, 107]⟩ : ByteArray) ++ (⟨#[10]⟩ : ByteArray)) wd HW.out (by decide)).mono ?_; rintro e5 we ⟨rfl, v', hb', hbw, hfr⟩)
        | (go_at_call 31; refine (done_put hT hI (w2.heap.size + 1) w2.heap.size A cp E.drew hSh a1 a2 hT1').mono ?_; rintro e4 wd ⟨rfl, hta, hg0⟩; have hgd : E.grownBy wd (some w2.heap.size) := ⟨hg0.os, hg0.tape, hg0.output, hg0.size, hg0.block⟩; clear hg0; have x0d := (World.cell?_of_block (a := ⟨wr.heap.size, 0, none⟩) (hgd.block wr.heap.size (by omega) (fun e => hwne (by injection e with e; exact e.symm)))).trans x0; have x1d := (World.cell?_of_block (a := ⟨wr.heap.size, 1, none⟩) (hgd.block wr.heap.size (by omega) (fun e => hwne (by injection e with e; exact e.symm)))).trans x1; have HW := Lib.hid (HB.out.grown hgd (fun _ e => by injection e with e; omega)))
        | (go_at_call 30; refine (hO.2.1 E.drew).mono ?_; rintro e3 w3 ⟨rfl, rfl⟩))
      all_goals
        have hrl : RunRel w2 (.int .i64 2) we := ⟨2, by omega, rfl, run_next hR HE.out hgd (fun h => by omega) (fun _ => hta) hv hbw hfr (by rw [← out2]; exact hb')⟩
        go_wp2
        go_roundw
        case rel => first | exact hrl | exact ⟨_, _, _, _, _, _, _, _, _, _, _, _, _, _, _, _, _, _, _, _, _, _, hrl, rfl⟩
        case measure => simp [intOf]
    · obtain ⟨B, A, x, cp, rfl, c0, c1, c2, hx, _, hws⟩ := HC.out 2 (by decide)
      obtain rfl := hx (by decide)
      have c0 : wr.cell? ⟨B, 6, none⟩ = some (.int .i64 3) := cell_kept2 hR.below (cell_kept2 hb2 c0)
      have c1 : wr.cell? ⟨B, 7, none⟩ = some (.string ⟨#[103, 101, 116]⟩) := cell_kept2 hR.below (cell_kept2 hb2 c1)
      have c2 : wr.cell? ⟨B, 8, none⟩ = some (.slice (some ⟨A, 1, none⟩) 1 cp) := cell_kept2 hR.below (cell_kept2 hb2 c2)
      have hBl : B < wr.heap.size := World.block_lt_of_cell? wr ⟨B, 6, none⟩ c0
      go_wp2_with fail
      obtain ⟨E, hE⟩ : ∃ E, E = (wr.setCell ⟨w2.heap.size + 1, 0, none⟩ (.slice (some ⟨A, 1, none⟩) 1 cp)).alloc (.cells #[.int .i64 3, .string ⟨#[103, 101, 116]⟩, .slice (some ⟨A, 1, none⟩) 1 cp] 33) := ⟨_, rfl⟩
      rw [← hE]
      obtain ⟨hSh, hbE, hT1, hT2, hbl, hsE⟩ := run_store hR A 1 cp _ hE
      obtain ⟨v, hv⟩ := hR.bl
      have hbdE := hbl v _ hv
      have a1 : E.cell? ⟨A, 1, none⟩ = some (.string ⟨#[54, 49]⟩) := cell_kept2 hbE (cell_kept2 hb2 (hws.strs 1 (by decide)))
      have x0 : E.cell? ⟨wr.heap.size, 0, none⟩ = some (.int .i64 3) := by rw [hE]; simp [go_sem]
      have x1 : E.cell? ⟨wr.heap.size, 1, none⟩ = some (.string ⟨#[103, 101, 116]⟩) := by rw [hE]; simp [go_sem]
      have hTl : w2.heap.size < E.heap.size := by have := hSh.lt; omega
      have hwne : w2.heap.size ≠ wr.heap.size := by omega
      have HE := Lib.hid hE; have HB := Lib.hid hbdE
      clear hE hbdE c0 c1 c2 s0 s1 hsh
      obtain ⟨lo, hTr⟩ := hT2 rfl
      go_region_with (first
        | (go_at_call 29; refine (ws_prog hK (w2.heap.size + 1 + 1) v _ ((⟨#[51]⟩ : ByteArray) ++ (⟨#[32]⟩ : ByteArray) ++ (⟨#[54, 50]⟩ : ByteArray) ++ (⟨#[10]⟩ : ByteArray)) wd HW.out (by decide)).mono ?_; rintro e5 we ⟨rfl, v', hb', hbw, hfr⟩)
        | (go_at_call 31; refine (done_get hT hI hB hS2 (w2.heap.size + 1) w2.heap.size A cp lo E.drew hSh a1 hTr).mono ?_; rintro e4 wd ⟨rfl, hb0⟩; have hbd : Below E.heap.size E wd := ⟨hb0.os, hb0.tape, hb0.output, hb0.size, hb0.block⟩; clear hb0; have x0d := cell_kept2 hbd x0; have x1d := cell_kept2 hbd x1; have HW := Lib.hid (HB.out.grown (grown_of_below hbd none) (fun _ e => by cases e)))
        | (go_at_call 30; refine (hO.2.2 E.drew).mono ?_; rintro e3 w3 ⟨rfl, rfl⟩))
      all_goals
        have hrl : RunRel w2 (.int .i64 3) we := ⟨3, by omega, rfl, run_next hR HE.out (grown_of_below hbd _) (fun h => by omega) (fun h => by omega) hv hbw hfr (by rw [← out3]; exact hb')⟩
        go_wp2
        go_roundw
        case rel => first | exact hrl | exact ⟨_, _, _, _, _, _, _, _, _, _, _, _, _, _, _, _, _, _, _, _, _, _, hrl, rfl⟩
        case measure => simp [intOf]
    · obtain ⟨v, hv⟩ := hR.bl
      have hI2 := hv.is
      go_wp2_with (go_at_call 32; refine (hS2 _ _ (liveOut 3) _ hI2 (by decide)).mono ?_; rintro e6 w6 ⟨rfl, hb6⟩)
      go_ret3
      exact ⟨rfl, ((hb1.trans (hb2.mono hb1.size)).trans (hR.below.mono (Nat.le_trans hb1.size hb2.size))).trans (hb6.mono (by have := hb1.size; have := hb2.size; omega))⟩
end Go.Proofs.YtkmpbmlcmglmnaaGreatDoor
