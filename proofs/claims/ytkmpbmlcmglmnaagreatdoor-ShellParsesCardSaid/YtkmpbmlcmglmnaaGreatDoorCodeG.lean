/- The program's reader of one line. -/
import Derived.Test.YtkmpbmlcmglmnaaGreatDoorCodeF
import Derived.Test.YtkmpbmlcmglmnaaGreatDoorCodeA
import Derived.Test.YtkmpbmlcmglmnaaGreatDoorRefG
import Derived.Deep.RegionWith
set_option linter.all false
namespace Go.Proofs.YtkmpbmlcmglmnaaGreatDoor
open Go Go.RowKit
def noSay : Value := .agg #[.int .i64 0, .string ⟨#[]⟩, .slice none 0 0]
structure PAt (L : List ByteArray) (w : World) (A : Nat) (wr : World) : Prop where
  words : WordsAt wr A L
  c0 : wr.cell? ⟨w.heap.size, 0, none⟩ = some (.int .i64 0)
  c1 : wr.cell? ⟨w.heap.size, 1, none⟩ = some (.string ⟨#[]⟩)
  c2 : wr.cell? ⟨w.heap.size, 2, none⟩ = some (.slice none 0 0)
  soft : Soft wr w.heap.size
  lt : w.heap.size < wr.heap.size
  below : Below w.heap.size w wr
  ne : A ≠ w.heap.size
theorem PAt.step {L : List ByteArray} {w wr w2 : World} {A : Nat} (h : PAt L w A wr) (hb : Below wr.heap.size wr w2) : PAt L w A w2 :=
  ⟨h.words.below hb, cell_kept2 hb h.c0, cell_kept2 hb h.c1, cell_kept2 hb h.c2, h.soft.below h.lt hb, Nat.lt_of_lt_of_le h.lt hb.size, belowStep h.below hb, h.ne⟩
def PRel (L : List ByteArray) (w : World) (A : Nat) (i : Value) (wr : World) : Prop :=
  ∃ k : Nat, k ≤ (shStr (L.getD 0 ByteArray.empty)).size ∧ i = .int .i64 k ∧ Hid (∀ j, j < k → fitsK ((shKinds (L.getD 0 ByteArray.empty)).getD j 0).toNat (L.getD (j + 1) ByteArray.empty) = true) ∧ PAt L w A wr
def ParsedOut (L : List ByteArray) (w : World) (e : Ending) (w' : World) : Prop :=
  (headHash L = true → e = .returned (.tuple #[noSay, .bool true])) ∧
  (headHash L = false → canW L = false → e = .returned (.tuple #[noSay, .bool false])) ∧
  (headHash L = false → canW L = true → ∃ v, e = .returned (.tuple #[.agg #[.int .i64 0, .string (L.getD 0 ByteArray.empty), v], .bool true]) ∧ ArgsAt w' v L) ∧ Below w.heap.size w w'
theorem WordsAt.set {w : World} {A : Nat} {ws : List ByteArray} (h : WordsAt w A ws) {p : Addr} (hp : A ≠ p.block) (u : Value) : WordsAt (w.setCell p u) A ws := by
  obtain ⟨cur, h, h2⟩ := h
  exact ⟨cur, (Below.heap_setCell w p u A hp).trans h, h2⟩
theorem parsed_fin {L : List ByteArray} {w wx : World} {A n cap : Nat} {a : Option Addr} {w0 : ByteArray} (HD : Hid (headHash L = false)) (HC : Hid (canW L = true)) (HW0 : Hid (w0 = L.getD 0 ByteArray.empty)) (hLl : L.length ≤ 65537) (hn : n = L.length - 1) (ha : 2 ≤ L.length → a = some ⟨A, 1, none⟩) (hwq : WordsAt wx A L) (hby : Below w.heap.size w wx) :
    ParsedOut L w (.returned (.tuple #[.agg #[.int .i64 0, .string w0, .slice a n cap], .bool true])) wx :=
  ⟨fun h => (by rw [HD.out] at h; cases h), fun _ h => (by rw [HC.out] at h; cases h), fun _ _ => ⟨_, by rw [HW0.out], A, a, cap, by rw [hn], ha, hLl, hwq⟩, hby⟩
theorem parsed_end {L : List ByteArray} {w wr : World} {A : Nat} {u0 u1 u2 : Value} (hq : PAt L w A wr) :
    WordsAt (((wr.setCell ⟨w.heap.size, 0, none⟩ u0).setCell ⟨w.heap.size, 1, none⟩ u1).setCell ⟨w.heap.size, 2, none⟩ u2).drew A L ∧ Below w.heap.size w (((wr.setCell ⟨w.heap.size, 0, none⟩ u0).setCell ⟨w.heap.size, 1, none⟩ u1).setCell ⟨w.heap.size, 2, none⟩ u2).drew :=
  ⟨(((hq.words.set hq.ne _).set hq.ne _).set hq.ne _).below (Below.drew (Below.refl _ _)), (((hq.below.setCell (Nat.le_refl _) _).setCell (Nat.le_refl _) _).setCell (Nat.le_refl _) _).drew⟩
set_option maxRecDepth 100000 in
set_option maxHeartbeats 2000000 in
theorem parsed_prog (hF : FieldsOk) (hT : TrimOk) (hI : IndexOk) (hM : MulOk) (hA : AddOk) (s : ByteArray) (w : World) (hs : s.size ≤ 65536) :
    Calls Tryz.prog 13 #[.string s] w (ParsedOut (fields s) w) := by
  have HF := Lib.hid hF; have HT := Lib.hid hT; have HI := Lib.hid hI; have HM := Lib.hid hM; have HA := Lib.hid hA; clear hF hT hI hM hA
  obtain ⟨L, hL⟩ : ∃ L, L = fields s := ⟨_, rfl⟩
  have hfs := fields_sizes s
  rw [← hL] at hfs ⊢
  have HS := Lib.hid hfs.2
  have hLl : L.length ≤ 65537 := by omega
  have HLL := Lib.hid hL
  clear hL hfs
  go_enter Tryz.func13, Tryz.ntmps13
  by_cases hne : L = []
  case pos =>
    have HNE := Lib.hid hne; clear hne
    go_wp2_with (go_at_call 19; refine (HF.out _ _ hs).mono ?_; rintro e1 w1 ⟨A, rfl, hw1, hb1⟩; rw [← HLL.out, HNE.out] at hw1; rw [← HLL.out, HNE.out]; clear hw1; simp only [List.length_nil]; have c0 : w1.cell? ⟨w.heap.size, 0, none⟩ = some (.int .i64 0) := cell_kept2 hb1 (by simp); have c1 : w1.cell? ⟨w.heap.size, 1, none⟩ = some (.string ⟨#[]⟩) := cell_kept2 hb1 (by simp); have c2 : w1.cell? ⟨w.heap.size, 2, none⟩ = some (.slice none 0 0) := cell_kept2 hb1 (by simp); have sf := (soft_new w #[.int .i64 0, .string ⟨#[]⟩, .slice none 0 0] 33).below (by simp) hb1; have f0 := sf 0; have f1 := sf 1; have f2 := sf 2; clear sf; have hbz := belowStep ((Below.refl w.heap.size w).alloc (Nat.le_refl _) _) hb1)
    exact bodyPost_ret (v := .tuple #[noSay, .bool true]) (by simp [results, Tryz.results13, go_sem, noSay, c0, c1, c2]) rfl
      ⟨fun _ => rfl, fun h => (by rw [HNE.out] at h; cases h), fun h => (by rw [HNE.out] at h; cases h), ((hbz.setCell (Nat.le_refl _) _).setCell (Nat.le_refl _) _).setCell (Nat.le_refl _) _⟩
  case neg =>
    obtain ⟨w0, hw0⟩ : ∃ x, x = L.getD 0 ByteArray.empty := ⟨_, rfl⟩
    have hL0 : 0 < L.length := List.length_pos_iff.2 hne
    have hw0s := HS.out w0 (by rw [hw0, List.getD_eq_getElem?_getD, List.getElem?_eq_getElem hL0]; exact List.getElem_mem hL0)
    have hpos := hw0s.1
    have hd := head_eq hne hw0 hpos
    have HW0 := Lib.hid hw0
    have HNE := Lib.hid hne
    have bz : ((L.length : Int) == 0) = false := by rw [beq_eq_false_iff_ne]; omega
    clear hw0 hw0s hne
    cases hb : (((w0[0].toNat : Nat) : Int) == 35)
    case true =>
      have HD := Lib.hid (hd.trans hb)
      clear hd
      go_wp2_with (go_at_call 19; refine (HF.out _ _ hs).mono ?_; rintro e1 w1 ⟨A, rfl, hw1, hb1⟩; rw [← HLL.out] at hw1; rw [← HLL.out]; obtain ⟨g, cap, eg, hcap, hmax, hwa⟩ := own_words hw1 HNE.out; cases eg; clear hw1; have d0 := hwa.strs 0 hL0; rw [← HW0.out] at d0; have c0 : w1.cell? ⟨w.heap.size, 0, none⟩ = some (.int .i64 0) := cell_kept2 hb1 (by simp); have c1 : w1.cell? ⟨w.heap.size, 1, none⟩ = some (.string ⟨#[]⟩) := cell_kept2 hb1 (by simp); have c2 : w1.cell? ⟨w.heap.size, 2, none⟩ = some (.slice none 0 0) := cell_kept2 hb1 (by simp); have sf := (soft_new w #[.int .i64 0, .string ⟨#[]⟩, .slice none 0 0] 33).below (by simp) hb1; have f0 := sf 0; have f1 := sf 1; have f2 := sf 2; have hbz := belowStep ((Below.refl w.heap.size w).alloc (Nat.le_refl _) _) hb1; have hszA : w.heap.size < w1.heap.size := (by have := hb1.size; simp at this; omega))
      exact bodyPost_ret (v := .tuple #[noSay, .bool true]) (by simp [results, Tryz.results13, go_sem, noSay, c0, c1, c2]) rfl
        ⟨fun _ => rfl, fun h => (by rw [HD.out] at h; cases h), fun h => (by rw [HD.out] at h; cases h), ((hbz.setCell (Nat.le_refl _) _).setCell (Nat.le_refl _) _).setCell (Nat.le_refl _) _⟩
    case false =>
      have HD := Lib.hid (hd.trans hb)
      clear hd
      cases hok : shOk w0
      case false =>
        have HC := Lib.hid (canW_shape (L := L) (by rw [← HW0.out]; exact hok))
        go_wp2_with (first | (go_at_call 19; refine (HF.out _ _ hs).mono ?_; rintro e1 w1 ⟨A, rfl, hw1, hb1⟩; rw [← HLL.out] at hw1; rw [← HLL.out]; obtain ⟨g, cap, eg, hcap, hmax, hwa⟩ := own_words hw1 HNE.out; cases eg; clear hw1; have d0 := hwa.strs 0 hL0; rw [← HW0.out] at d0; have c0 : w1.cell? ⟨w.heap.size, 0, none⟩ = some (.int .i64 0) := cell_kept2 hb1 (by simp); have c1 : w1.cell? ⟨w.heap.size, 1, none⟩ = some (.string ⟨#[]⟩) := cell_kept2 hb1 (by simp); have c2 : w1.cell? ⟨w.heap.size, 2, none⟩ = some (.slice none 0 0) := cell_kept2 hb1 (by simp); have sf := (soft_new w #[.int .i64 0, .string ⟨#[]⟩, .slice none 0 0] 33).below (by simp) hb1; have f0 := sf 0; have f1 := sf 1; have f2 := sf 2; have hbz := belowStep ((Below.refl w.heap.size w).alloc (Nat.le_refl _) _) hb1; have hszA : w.heap.size < w1.heap.size := (by have := hb1.size; simp at this; omega)) | (go_at_call 21; refine (shape_prog _ _).mono ?_; rintro e2 w2 ⟨rfl, rfl⟩; rw [hok]))
        exact bodyPost_ret (v := .tuple #[noSay, .bool false]) (by simp [results, Tryz.results13, go_sem, noSay, c0, c1, c2]) rfl
          ⟨fun h => (by rw [HD.out] at h; cases h), fun _ _ => rfl, fun _ h => (by rw [HC.out] at h; cases h), ((hbz.setCell (Nat.le_refl _) _).setCell (Nat.le_refl _) _).setCell (Nat.le_refl _) _⟩
      case true =>
        have hm5 : (shStr w0).size ≤ 5 := by rw [shStr_size]; exact (shKinds_are w0).1
        by_cases hlen : L.length = (shStr w0).size + 1
        case neg =>
          have HC := Lib.hid (canW_len (L := L) (by rw [← HW0.out]; exact hlen))
          have bl : (((shStr w0).size : Int) != (L.length : Int) - 1) = true := by rw [bne_iff_ne]; omega
          clear hlen
          go_wp2_with (first | (go_at_call 19; refine (HF.out _ _ hs).mono ?_; rintro e1 w1 ⟨A, rfl, hw1, hb1⟩; rw [← HLL.out] at hw1; rw [← HLL.out]; obtain ⟨g, cap, eg, hcap, hmax, hwa⟩ := own_words hw1 HNE.out; cases eg; clear hw1; have d0 := hwa.strs 0 hL0; rw [← HW0.out] at d0; have c0 : w1.cell? ⟨w.heap.size, 0, none⟩ = some (.int .i64 0) := cell_kept2 hb1 (by simp); have c1 : w1.cell? ⟨w.heap.size, 1, none⟩ = some (.string ⟨#[]⟩) := cell_kept2 hb1 (by simp); have c2 : w1.cell? ⟨w.heap.size, 2, none⟩ = some (.slice none 0 0) := cell_kept2 hb1 (by simp); have sf := (soft_new w #[.int .i64 0, .string ⟨#[]⟩, .slice none 0 0] 33).below (by simp) hb1; have f0 := sf 0; have f1 := sf 1; have f2 := sf 2; have hbz := belowStep ((Below.refl w.heap.size w).alloc (Nat.le_refl _) _) hb1; have hszA : w.heap.size < w1.heap.size := (by have := hb1.size; simp at this; omega)) | (go_at_call 21; refine (shape_prog _ _).mono ?_; rintro e2 w2 ⟨rfl, rfl⟩; rw [hok]))
          exact bodyPost_ret (v := .tuple #[noSay, .bool false]) (by simp [results, Tryz.results13, go_sem, noSay, c0, c1, c2]) rfl
            ⟨fun h => (by rw [HD.out] at h; cases h), fun _ _ => rfl, fun _ h => (by rw [HC.out] at h; cases h), ((hbz.setCell (Nat.le_refl _) _).setCell (Nat.le_refl _) _).setCell (Nat.le_refl _) _⟩
        case pos =>
          have bl : (((shStr w0).size : Int) != (L.length : Int) - 1) = false := by rw [bne_eq_false_iff_eq]; omega
          have HLEN := Lib.hid hlen
          clear hlen
          go_wp2_with (first | (go_at_call 19; refine (HF.out _ _ hs).mono ?_; rintro e1 w1 ⟨A, rfl, hw1, hb1⟩; rw [← HLL.out] at hw1; rw [← HLL.out]; obtain ⟨g, cap, eg, hcap, hmax, hwa⟩ := own_words hw1 HNE.out; cases eg; have hAn : A ≠ w.heap.size := (by have := (hw1.lt A rfl).1; simp at this; omega); clear hw1; have d0 := hwa.strs 0 hL0; rw [← HW0.out] at d0; have c0 : w1.cell? ⟨w.heap.size, 0, none⟩ = some (.int .i64 0) := cell_kept2 hb1 (by simp); have c1 : w1.cell? ⟨w.heap.size, 1, none⟩ = some (.string ⟨#[]⟩) := cell_kept2 hb1 (by simp); have c2 : w1.cell? ⟨w.heap.size, 2, none⟩ = some (.slice none 0 0) := cell_kept2 hb1 (by simp); have sf := (soft_new w #[.int .i64 0, .string ⟨#[]⟩, .slice none 0 0] 33).below (by simp) hb1; have f0 := sf 0; have f1 := sf 1; have f2 := sf 2; have hbz := belowStep ((Below.refl w.heap.size w).alloc (Nat.le_refl _) _) hb1; have hszA : w.heap.size < w1.heap.size := (by have := hb1.size; simp at this; omega)) | (go_at_call 21; refine (shape_prog _ _).mono ?_; rintro e2 w2 ⟨rfl, rfl⟩; rw [hok]))
          have hP : PAt L w A w1 := ⟨hwa, c0, c1, c2, (soft_new w #[.int .i64 0, .string ⟨#[]⟩, .slice none 0 0] 33).below (by simp) hb1, hszA, hbz, hAn⟩
          go_loopw [41] (PRel L w A) (fun i _ => (shStr w0).size - (intOf i).toNat)
          case atStart => exact ⟨0, Nat.zero_le _, rfl, Lib.hid (fun j hj => by omega), hP⟩
          case round =>
            obtain ⟨k, hk, rfl, HFk, hq⟩ := hrel
            rw [← HW0.out] at hk
            by_cases hlt : k < (shStr w0).size
            · have c4 := hq.words.strs (k + 1) (by have := HLEN.out; omega)
              obtain ⟨x, hx⟩ : ∃ x, x = L.getD (k + 1) ByteArray.empty := ⟨_, rfl⟩
              have hxs : x.size ≤ 65536 := by rw [hx]; exact Nat.le_trans (HS.out _ (by have := HLEN.out; simp [show k + 1 < L.length by omega])).2 hs
              rw [← hx] at c4
              have HX := Lib.hid hx; clear hx
              have KC := Lib.hid (shKind_cases w0 k hlt)
              have b2 : (k : Int) + 1 < (L.length : Int) := by have := HLEN.out; omega
              have b3 : (k : Int) < ((shStr w0).size : Int) := by omega
              clear c0 c1 c2 d0 f0 f1 f2 hwa hbz
              have eW : IntKind.i64.wrap ((k : Int) + 1) = (k : Int) + 1 := IntWalk.i64_in _ (by omega)
              have e5 : ((k : Int) + 1).toNat = k + 1 := by omega
              have e6 : (0 : Int) ≤ (k : Int) + 1 := by omega
              go_upto_region 10 with fail
              go_cut [53] (fun c wx => c = .bool (!fitsK (shStr w0)[k].toNat x) ∧ Below wr.heap.size wr wx)
              case first =>
                go_region_with (first | (go_at_call 22; refine (fits_prog HT.out HI.out HM.out HA.out _ x _ hxs KC.out).mono ?_; rintro e3 w3 ⟨rfl, hb3⟩))
                all_goals
                  go_wp2_with fail
                  go_meet
                  exact ⟨rfl, by first | exact hb3 | exact (Below.drew (Below.refl _ _)).trans hb3⟩
              case rest =>
                obtain ⟨rfl, hb3⟩ := hcut
                have hq2 := hq.step hb3
                have eF : fitsK (shStr w0)[k].toNat x = fitsK ((shKinds (L.getD 0 ByteArray.empty)).getD k 0).toNat (L.getD (k + 1) ByteArray.empty) := by
                  rw [shStr_at w0 k hlt, ← HW0.out, ← HX.out]
                have c0 := hq2.c0; have c1 := hq2.c1; have c2 := hq2.c2
                have f0 := hq2.soft 0; have f1 := hq2.soft 1; have f2 := hq2.soft 2
                have hbz := hq2.below
                cases hf : fitsK (shStr w0)[k].toNat x
                case false =>
                  have HC := Lib.hid (canW_fit (L := L) (j := k) (by rw [← HW0.out]; exact hlt) (by rw [← HW0.out]; exact HLEN.out) (by rw [← eF]; exact hf))
                  clear eF hf
                  go_wp2
                  exact bodyPost_ret (v := .tuple #[noSay, .bool false]) (by simp [results, Tryz.results13, go_sem, noSay, c0, c1, c2]) rfl
                    ⟨fun h => (by rw [HD.out] at h; cases h), fun _ _ => rfl, fun _ h => (by rw [HC.out] at h; cases h), ((hbz.setCell (Nat.le_refl _) _).setCell (Nat.le_refl _) _).setCell (Nat.le_refl _) _⟩
                case true =>
                  rw [hf] at eF
                  have EF := Lib.hid eF; clear eF hf
                  go_wp2
                  go_roundw
                  case rel => exact ⟨k + 1, by rw [← HW0.out]; omega, by go_num, Lib.hid (fun j hj => by
                      by_cases hjk : j < k
                      · exact HFk.out j hjk
                      · obtain rfl : j = k := by omega
                        exact EF.out.symm), hq2⟩
                  case measure => simp [intOf]; omega
            · have HC := Lib.hid (canW_all (L := L) hL0 (by rw [← HW0.out]; exact hok) (by rw [← HW0.out]; exact HLEN.out) (fun j hj => HFk.out j (by rw [← HW0.out] at hj; omega)))
              have hwq := hq.words
              have q0 := hwq.strs 0 hL0
              rw [← HW0.out] at q0
              have y0 := hq.c0; have y1 := hq.c1; have y2 := hq.c2
              have g0 := hq.soft 0; have g1 := hq.soft 1; have g2 := hq.soft 2
              have hby := hq.below
              have b1L : (1 : Int) ≤ (L.length : Int) := by omega
              clear c0 c1 c2 d0 f0 f1 f2 hwa hbz
              go_wp2_with fail
              go_region
              all_goals
                go_wp2
              all_goals
                have he := @parsed_end L w wr A (.int .i64 0) (.string w0)
              case inl =>
                skip
                exact bodyPost_ret (v := .tuple #[.agg #[.int .i64 0, .string w0, .slice (some ⟨A, 0, none⟩) 0 0], .bool true]) (by simp [results, Tryz.results13, go_sem, y0, y1, y2]) rfl (parsed_fin HD HC HW0 hLl (by omega) (fun _ => by omega) (he hq).1 (he hq).2)
              all_goals
                refine bodyPost_ret (v := .tuple #[.agg #[.int .i64 0, .string w0, .slice (some ⟨A, 1, none⟩) (L.length - 1) (L.length - 1)], .bool true]) ?_ rfl (parsed_fin HD HC HW0 hLl rfl (fun _ => rfl) (he hq).1 (he hq).2)
                simp [results, Tryz.results13, go_sem, y0, y1, y2]
end Go.Proofs.YtkmpbmlcmglmnaaGreatDoor
