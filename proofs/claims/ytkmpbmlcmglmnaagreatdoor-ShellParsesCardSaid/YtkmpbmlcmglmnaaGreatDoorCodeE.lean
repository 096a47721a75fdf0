/- The program's reader of numbers. -/
import Derived.Test.YtkmpbmlcmglmnaaGreatDoorCodeD
import Derived.Test.YtkmpbmlcmglmnaaGreatDoorRefE
import Derived.Lib.ConvBytes
import Derived.Laws.Cover3
import Derived.Lib.AtoiErrMem
import Derived.Test.YtkmpbmlcmglmnaaGreatDoorLaw
import Derived.Test.YtkmpbmlcmglmnaaGreatDoorRefG
set_option linter.all false
namespace Go.Proofs.YtkmpbmlcmglmnaaGreatDoor
open Go Go.RowKit
/-- the number read so far; b: it is 2^256 or more. -/
def NumInv (s : ByteArray) (k : Nat) (b : Bool) (l : List Nat) : Prop := (b = false → val b64 l = numVal (s.data.toList.take k)) ∧ (b = true → b64 ^ 4 ≤ numVal (s.data.toList.take k))
def NumPRel (s : ByteArray) (w : World) (lg i : Value) (wr : World) : Prop :=
  ∃ (k : Nat) (b : Bool) (l : List Nat), k ≤ s.size ∧ i = .int .i64 k ∧ lg = .bool b ∧ l.length = 4 ∧ (∀ x ∈ l, x < b64) ∧ Quad wr (w.heap.size + 1) l ∧ Soft wr (w.heap.size + 1) ∧ Four wr w.heap.size ∧ Soft wr w.heap.size ∧
    (∀ j, j < s.size → wr.cell? ⟨w.heap.size + 2, j, none⟩ = some (.int .u8 ((s.data.toList.getD j 0).toNat : Nat))) ∧ w.heap.size + 2 < wr.heap.size ∧ Hid (NumInv s k b l) ∧ Hid (∀ j c, j < k → s.data.toList[j]? = some c → isDigB c = true) ∧ Below w.heap.size w wr
theorem num_start {s : ByteArray} {w : World} {t1 t2 e : TypeId} : NumPRel s w (.bool false) (.int .i64 0)
    (Lib.bytesWorld ((w.alloc (.cells #[.int .u64 0, .int .u64 0, .int .u64 0, .int .u64 0] t1)).alloc (.cells #[.int .u64 0, .int .u64 0, .int .u64 0, .int .u64 0] t2)) e s) := by
  have s1 : (w.alloc (.cells #[.int .u64 0, .int .u64 0, .int .u64 0, .int .u64 0] t1)).heap.size = w.heap.size + 1 := by simp
  have f0 : Four ((w.alloc (.cells #[.int .u64 0, .int .u64 0, .int .u64 0, .int .u64 0] t1)).alloc (.cells #[.int .u64 0, .int .u64 0, .int .u64 0, .int .u64 0] t2)) w.heap.size := (four_new w t1).alloc _
  have g0 : Soft ((w.alloc (.cells #[.int .u64 0, .int .u64 0, .int .u64 0, .int .u64 0] t1)).alloc (.cells #[.int .u64 0, .int .u64 0, .int .u64 0, .int .u64 0] t2)) w.heap.size := (soft_new w _ t1).alloc _ _
  have q1 := quad_new (w.alloc (.cells #[.int .u64 0, .int .u64 0, .int .u64 0, .int .u64 0] t1)) 0 0 0 0 t2
  have g1 := soft_new (w.alloc (.cells #[.int .u64 0, .int .u64 0, .int .u64 0, .int .u64 0] t1)) #[.int .u64 0, .int .u64 0, .int .u64 0, .int .u64 0] t2
  have hb : Below w.heap.size w ((w.alloc (.cells #[.int .u64 0, .int .u64 0, .int .u64 0, .int .u64 0] t1)).alloc (.cells #[.int .u64 0, .int .u64 0, .int .u64 0, .int .u64 0] t2)) := ((Below.refl _ _).alloc (Nat.le_refl _) _).alloc (by simp) _
  have s2 : ((w.alloc (.cells #[.int .u64 0, .int .u64 0, .int .u64 0, .int .u64 0] t1)).alloc (.cells #[.int .u64 0, .int .u64 0, .int .u64 0, .int .u64 0] t2)).heap.size = w.heap.size + 2 := by simp
  rw [s1] at q1 g1
  have q1' : Quad ((w.alloc (.cells #[.int .u64 0, .int .u64 0, .int .u64 0, .int .u64 0] t1)).alloc (.cells #[.int .u64 0, .int .u64 0, .int .u64 0, .int .u64 0] t2)) (w.heap.size + 1) [0, 0, 0, 0] := q1
  clear q1
  generalize (w.alloc (.cells #[.int .u64 0, .int .u64 0, .int .u64 0, .int .u64 0] t1)).alloc (.cells #[.int .u64 0, .int .u64 0, .int .u64 0, .int .u64 0] t2) = w2 at *
  have hb2 := Lib.bytesWorld_below w2 e s
  refine ⟨0, false, [0, 0, 0, 0], Nat.zero_le _, rfl, rfl, rfl, by simp [b64], fun j hj => (hb2.cell (p := ⟨_, j, none⟩) (by show w.heap.size + 1 < _; omega)).trans (q1' j hj), g1.below (by omega) hb2, f0.below (by omega) hb2, g0.below (by omega) hb2, ?_, ?_, Lib.hid ⟨fun _ => by simp [val, numVal], fun h => by cases h⟩, Lib.hid (fun j c hj => by omega), belowStep hb hb2⟩
  · intro j hj
    have := Lib.bytesWorld_cell w2 e s j hj
    rw [s2] at this
    exact this
  · rw [Lib.bytesWorld_size]; omega
theorem pow_b64 : b64 ^ 4 = 2 ^ 256 := by rw [show b64 = 2 ^ 64 from rfl, ← Nat.pow_mul]
theorem errP_big {s : ByteArray} {k : Nat} {l : List Nat} (hf : ¬ numForm s = true) (hk : s.size ≤ k) (hd : ∀ j c, j < k → s.data.toList[j]? = some c → isDigB c = true) (h : NumInv s k true l) : numErr s = 2 := by
  have hs : s.data.toList.length = s.size := rfl
  have h2 := h.2 rfl
  rw [List.take_of_length_le (by omega), pow_b64] at h2
  unfold numErr
  rw [if_neg hf, if_pos (all_digs hd hk), if_pos h2]
theorem errP_small {s : ByteArray} {k : Nat} {l : List Nat} (hf : ¬ numForm s = true) (hk : s.size ≤ k) (hd : ∀ j c, j < k → s.data.toList[j]? = some c → isDigB c = true) (h : NumInv s k false l) (hl : l.length = 4) (hlb : ∀ x ∈ l, x < b64) : numErr s = 0 := by
  have hs : s.data.toList.length = s.size := rfl
  have h2 := h.1 rfl
  have h3 := val_lt b64 b64_pos l hlb
  rw [List.take_of_length_le (by omega)] at h2
  rw [hl, pow_b64, h2] at h3
  unfold numErr
  rw [if_neg hf, if_pos (all_digs hd hk), if_neg (Nat.not_le.2 h3)]
theorem inv_step {s : ByteArray} {k x p4 cc : Nat} {b : Bool} {l : List Nat} {p0 p1 p2 p3 r0 r1 r2 r3 : Nat} (h : NumInv s k b l) (hlt : k < s.size) (hx : s[k].toNat = x + 48)
    (hw : val b64 [p0, p1, p2, p3] + p4 * b64 ^ 4 = 10 * val b64 l) (ha : val b64 [r0, r1, r2, r3] + cc * b64 ^ 4 = val b64 [p0, p1, p2, p3] + x) : NumInv s (k + 1) (b || ((p4 : Int) != 0) || ((cc : Int) != 0)) [r0, r1, r2, r3] := by
  have hs : s.data.toList.length = s.size := rfl
  have e : s.data.toList[k] = s[k] := by
    have := byte_at s k hlt
    rw [List.getElem?_eq_getElem (by omega)] at this
    exact Option.some.inj this
  have hv : numVal (s.data.toList.take (k + 1)) = 10 * numVal (s.data.toList.take k) + x := by
    rw [List.take_succ_eq_append_getElem (by omega), numVal_snoc, e, hx]; omega
  have htot : val b64 [r0, r1, r2, r3] + (p4 + cc) * b64 ^ 4 = 10 * val b64 l + x := by rw [Nat.add_mul]; omega
  unfold NumInv at h ⊢
  rw [hv]
  generalize numVal (s.data.toList.take k) = N at *
  generalize val b64 [r0, r1, r2, r3] = R at *
  generalize hV : val b64 l = V at *
  generalize b64 ^ 4 = B at *
  constructor
  · intro hb
    simp only [Bool.or_eq_false_iff, bne_eq_false_iff_eq] at hb
    obtain ⟨⟨hb1, hb2⟩, hb3⟩ := hb
    have h1 := h.1 hb1
    have e1 : p4 = 0 := by omega
    have e2 : cc = 0 := by omega
    rw [e1, e2] at htot
    omega
  · intro hb
    cases b with
    | true => have := h.2 rfl; omega
    | false =>
      have h1 := h.1 rfl
      have h4 : 1 ≤ p4 + cc := by
        rcases Nat.eq_zero_or_pos (p4 + cc) with h0 | h0
        · have e1 : p4 = 0 := by omega
          have e2 : cc = 0 := by omega
          rw [e1, e2] at hb; simp at hb
        · exact h0
      have h5 : 1 * B ≤ (p4 + cc) * B := Nat.mul_le_mul_right B h4
      omega
theorem Soft.set {w : World} {B : Nat} (h : Soft w B) (p : Addr) (v : Value) : Soft (w.setCell p v) B := fun j => (World.frozen?_setCell _ _ _ _).trans (h j)
theorem or_one {b c d : Bool} (h : b = true) : true = (b || c || d) := by rw [h]; rfl
theorem or_two {b d : Bool} {p : Nat} (h : ¬ b = true) (hp : p = 0) : d = (b || ((p : Int) != 0) || d) := by
  cases b
  · rw [hp]; rfl
  · exact absurd rfl h
theorem or_three {b d : Bool} {p : Nat} (hp : ¬ p = 0) : true = (b || ((p : Int) != 0) || d) := by
  have : ((p : Int) != 0) = true := by rw [bne_iff_ne]; omega
  rw [this]; cases b <;> rfl
theorem NumPRel.alloc {s : ByteArray} {w wr : World} {a b : Value} (h : NumPRel s w a b wr) (c : Array Value) (t : TypeId) : NumPRel s w a b (wr.alloc (.cells c t)) := by
  obtain ⟨k, b, l, h1, h2, h3, h4, h5, h6, h7, h8, h9, ha, hb, hc, hd, he⟩ := h
  exact ⟨k, b, l, h1, h2, h3, h4, h5, h6.alloc _, h7.alloc _ _, h8.alloc _, h9.alloc _ _, fun j hj => Lib.cell?_alloc_some _ (ha j hj), by simp; omega, hc, hd, he.alloc he.size _⟩
theorem num_next {s : ByteArray} {w wr w1 w2 : World} {k l0 l1 l2 l3 x p0 p1 p2 p3 p4 r0 r1 r2 r3 cc : Nat} {b b' : Bool} {o : Obj} {c2 : Array Value} {t2 : TypeId} (hlt : k < s.size) (HX : Hid (s[k].toNat = x + 48)) (HDG : Hid (isDigB s[k] = true))
    (h4 : Four wr w.heap.size) (hs4 : Soft wr w.heap.size) (hq : Quad wr (w.heap.size + 1) [l0, l1, l2, l3]) (hs1 : Soft wr (w.heap.size + 1)) (HBY : Hid (∀ j, j < s.size → wr.cell? ⟨w.heap.size + 2, j, none⟩ = some (.int .u8 ((s.data.toList.getD j 0).toNat : Nat)))) (hsz : w.heap.size + 2 < wr.heap.size)
    (HN : Hid (NumInv s k b [l0, l1, l2, l3])) (HD : Hid (∀ j c, j < k → s.data.toList[j]? = some c → isDigB c = true)) (hbw : Below w.heap.size w wr) (hb1 : Below wr.heap.size wr w1) (hb2 : Below (w1.alloc o).heap.size (w1.alloc o) w2)
    (HVW : Hid (val b64 [p0, p1, p2, p3] + p4 * b64 ^ 4 = 10 * val b64 [l0, l1, l2, l3])) (HVA : Hid (val b64 [r0, r1, r2, r3] + cc * b64 ^ 4 = val b64 [p0, p1, p2, p3] + x)) (hrb : ∀ x ∈ [r0, r1, r2, r3], x < b64)
    (hb' : b' = (b || ((p4 : Int) != 0) || ((cc : Int) != 0))) : NumPRel s w (.bool b') (.int .i64 ((k : Int) + 1))
      (((((w2.setCell ⟨w.heap.size + 1, 0, none⟩ (.int .u64 (r0 : Nat))).setCell ⟨w.heap.size + 1, 1, none⟩ (.int .u64 (r1 : Nat))).setCell ⟨w.heap.size + 1, 2, none⟩ (.int .u64 (r2 : Nat))).setCell ⟨w.heap.size + 1, 3, none⟩ (.int .u64 (r3 : Nat))).alloc (.cells c2 t2)) := by
  refine NumPRel.alloc ?_ c2 t2
  have hA : Below wr.heap.size wr (w1.alloc o) := hb1.alloc hb1.size o
  have hW : Below wr.heap.size wr w2 := belowStep hA hb2
  have hsW := hW.size
  have hwW : Below w.heap.size w w2 := belowStep hbw hW
  have hqW : Quad w2 (w.heap.size + 1) [l0, l1, l2, l3] := fun j hj => cell_kept2 hW (hq j hj)
  have hsW1 := hs1.below (by omega) hW
  have h4W := h4.below (by omega) hW
  have hs4W := hs4.below (by omega) hW
  have hbyW : ∀ j, j < s.size → w2.cell? ⟨w.heap.size + 2, j, none⟩ = some (.int .u8 ((s.data.toList.getD j 0).toNat : Nat)) := fun j hj => cell_kept2 hW (HBY.out j hj)
  have far : ∀ (w' : World) (B C i : Nat) (j : Nat) (v u : Value), C ≠ B → w'.cell? ⟨B, j, none⟩ = some u → (w'.setCell ⟨C, i, none⟩ v).cell? ⟨B, j, none⟩ = some u := fun w' B C i j v u hne h => (World.cell?_setCell_far w' ⟨C, i, none⟩ ⟨B, j, none⟩ v hne).trans h
  refine ⟨k + 1, b', [r0, r1, r2, r3], by omega, by go_num, rfl, rfl, hrb, ?_, (((hsW1.set _ _).set _ _).set _ _).set _ _, (((h4W.far (by omega) _).far (by omega) _).far (by omega) _).far (by omega) _, (((hs4W.set _ _).set _ _).set _ _).set _ _, ?_, ?_, Lib.hid ?_, Lib.hid ?_, ?_⟩
  · exact (((hqW.set (k := 0) (z := r0) rfl (by omega)).set (k := 1) (z := r1) rfl (by omega)).set (k := 2) (z := r2) rfl (by omega)).set (k := 3) (z := r3) rfl (by omega)
  · intro j hj
    exact far _ _ _ _ _ _ _ (by omega) (far _ _ _ _ _ _ _ (by omega) (far _ _ _ _ _ _ _ (by omega) (far _ _ _ _ _ _ _ (by omega) (hbyW j hj))))
  · simp; omega
  · rw [hb']; exact inv_step HN.out hlt HX.out HVW.out HVA.out
  · intro j c hj hc
    by_cases hjk : j < k
    · exact HD.out j c hjk hc
    · obtain rfl : j = k := by omega
      rw [byte_at s j hlt] at hc
      obtain rfl := Option.some.inj hc
      exact HDG.out
  · exact (((hwW.setCell (Nat.le_add_right _ _) _).setCell (Nat.le_add_right _ _) _).setCell (Nat.le_add_right _ _) _).setCell (Nat.le_add_right _ _) _
def NumOutV (s : ByteArray) (w : World) (e : Ending) (w' : World) : Prop :=
  ∃ a0 a1 a2 a3 : Nat, e = .returned (.tuple #[.agg #[.int .u64 a0, .int .u64 a1, .int .u64 a2, .int .u64 a3], .int .i64 (numErr s)]) ∧ (numErr s = 0 → val b64 [a0, a1, a2, a3] = numVal s.data.toList ∧ ∀ x ∈ [a0, a1, a2, a3], x < b64) ∧ Below w.heap.size w w'
theorem num_value {s : ByteArray} {k : Nat} {l : List Nat} (hk : s.size ≤ k) (h : NumInv s k false l) : val b64 l = numVal s.data.toList := by
  have hs : s.data.toList.length = s.size := rfl
  have h2 := h.1 rfl
  rw [List.take_of_length_le (by omega)] at h2
  exact h2
set_option maxRecDepth 100000 in
set_option maxHeartbeats 2000000 in
theorem num_val (hM : MulOk) (hA : AddOk) (s : ByteArray) (w : World) :
    Calls Tryz.prog 35 #[.string s] w (NumOutV s w) := by
  have HM := Lib.hid hM; have HA := Lib.hid hA; clear hM hA
  have kc := fun w : World => Lib.run_convert_string_bytes (P := Tryz.prog) w 9 47 5 s Tryz.underlying9 Tryz.underlying47 Tryz.underlying5
  go_enter Tryz.func35, Tryz.ntmps35
  go_upto_region 1 with fail
  go_cut [27] (fun c wx => c = .bool (numForm s) ∧ wx = w.alloc (.cells #[.int .u64 0, .int .u64 0, .int .u64 0, .int .u64 0] 44))
  case first =>
    by_cases hz : s.size = 0
    · have E := Lib.hid (form_zero hz)
      have hl0 : s.toList = [] := by have := isEmpty_size s; rw [hz] at this; simpa using this
      clear hz
      go_wp2_with fail
      go_meet
      exact ⟨by rw [E.out], rfl⟩
    · have hl0 : ¬ s.toList = [] := fun h => by have := isEmpty_size s; rw [h] at this; simp at this; exact hz (by rw [this]; rfl)
      have hl1 : s.toList.isEmpty = false := by rw [isEmpty_size]; exact decide_eq_false hz
      by_cases h78 : 78 < s.size
      · have E := Lib.hid (form_long h78); clear hz
        go_wp2_with fail
        go_meet
        exact ⟨by rw [E.out], rfl⟩
      · have d78 : decide ((78 : Int) < (s.size : Int)) = false := by simp; omega
        by_cases h1 : 1 < s.size
        · have E := Lib.hid (form_more h1 (by omega)); clear hz
          cases hb : ((s[0].toNat : Int) == 48)
          all_goals
            go_wp2_with fail
            go_meet
            exact ⟨by rw [E.out, hb] <;> simp [hl1, d78], rfl⟩
        · have hs1 : s.size = 1 := by omega
          have h0 : 0 < s.size := by omega
          have E := Lib.hid (form_one hs1); clear hz hs1
          go_wp2_with fail
          go_meet
          exact ⟨by rw [E.out] <;> simp [hl1, d78], rfl⟩
  case rest =>
    obtain ⟨rfl, rfl⟩ := hcut
    cases hform : numForm s
    case true =>
      have E := Lib.hid (err_form hform); clear hform
      go_wp2
      exact bodyPost_ret (v := .tuple #[.agg #[.int .u64 0, .int .u64 0, .int .u64 0, .int .u64 0], .int .i64 4]) (by simp [results, Tryz.results35, go_sem]) rfl
        ⟨0, 0, 0, 0, by rw [E.out] <;> rfl, fun h => absurd (E.out.symm.trans h) (by decide), by first | exact (Below.refl _ _).alloc (Nat.le_refl _) _ | exact (((((Below.refl _ _).alloc (Nat.le_refl _) _).setCell (Nat.le_refl _) _).setCell (Nat.le_refl _) _).setCell (Nat.le_refl _) _).setCell (Nat.le_refl _) _⟩
    case false =>
      obtain ⟨h0, h78⟩ := form_bound hform
      have hform' : ¬ numForm s = true := by rw [hform]; decide
      have HF := Lib.hid hform'; clear hform hform'
      go_wp2
      go_loopw [5, 32] (NumPRel s w) (fun _ i _ => s.size - (intOf i).toNat)
      case atStart => exact num_start
      case round =>
        obtain ⟨k, b, l, hk, rfl, rfl, hl, hlb, hq, hs1, h4, hs4, hby, hsz, HN, HD, hbw⟩ := hrel
        have HBY := Lib.hid hby
        by_cases hlt : k < s.size
        · have cb := hby k hlt
          have eb : s.data.toList.getD k 0 = s[k] := by rw [List.getD_eq_getElem?_getD, byte_at s k hlt]; rfl
          rw [eb] at cb
          clear hby eb
          by_cases hdig : isDigB s[k] = true
          · have hx' : ∃ x : Nat, s[k].toNat = x + 48 ∧ x ≤ 9 := by
              unfold isDigB at hdig
              simp at hdig
              exact ⟨s[k].toNat - 48, by omega, by omega⟩
            obtain ⟨x, hx, hx9⟩ := hx'
            have HDG := Lib.hid hdig
            have hl4 := list4 hl
            rw [hl4] at hlb hq HN
            generalize l.getD 0 0 = l0 at *
            generalize l.getD 1 0 = l1 at *
            generalize l.getD 2 0 = l2 at *
            generalize l.getD 3 0 = l3 at *
            have q0 := hq 0 (by omega); have q1 := hq 1 (by omega); have q2 := hq 2 (by omega); have q3 := hq 3 (by omega)
            simp only [List.getD_cons_zero, List.getD_cons_succ] at q0 q1 q2 q3
            have HLB := Lib.hid hlb
            have HHX := Lib.hid hx
            have hc1 : ¬ (s[k].toNat : Int) < 48 := by omega
            have hc2 : ¬ (57 : Int) < (s[k].toNat : Int) := by omega
            clear hlb hl4 hdig
            have ka := fun (a : Option Addr) (w : World) => run_arrayAt (P := Tryz.prog) (w := w) 44 42 4 a 4 8 Tryz.underlying44 (Nat.le_refl 4)
            have hsub : IntKind.u8.wrap ((x : Int) + 48 - 48) = x := by rw [IntKind.wrap_u8]; omega
            have hw64 : IntKind.u64.wrap (x : Int) = x := by rw [IntKind.wrap_u64]; omega
            go_wp2_with (first
              | (go_at_call 52; refine (wide_prog HM.out HA.out l0 l1 l2 l3 _ HLB.out).mono ?_; rintro e w1 ⟨p0, p1, p2, p3, p4, p5, p6, p7, rfl, hpb, hp4, HVW, hb1⟩)
              | (go_at_call 53; refine (add_prog HA.out p0 p1 p2 p3 x _ hpb (by unfold b64; omega)).mono ?_; rintro e w2 ⟨r0, r1, r2, r3, cc, rfl, hrb, hcc, HVA, hb2⟩; have hq2 : Quad w2 (w.heap.size + 1) [l0, l1, l2, l3] := fun j hj => cell_kept2 hb2 (Lib.cell?_alloc_some _ (cell_kept2 hb1 (hq j hj))); have hsb1 := hb1.size; have hs2 : Soft w2 (w.heap.size + 1) := ((hs1.below (by omega) hb1).alloc _ _).below (by simp; omega) hb2; have y0 := hq2 0 (by omega); have y1 := hq2 1 (by omega); have y2 := hq2 2 (by omega); have y3 := hq2 3 (by omega); simp only [List.getD_cons_zero, List.getD_cons_succ] at y0 y1 y2 y3; have z0 := hs2 0; have z1 := hs2 1; have z2 := hs2 2; have z3 := hs2 3; have y4 : w2.cell? ⟨w1.heap.size, 4, none⟩ = some (.int .u64 (p4 : Nat)) := cell_kept2 hb2 (by simp); have hsb2 : w1.heap.size + 1 ≤ w2.heap.size := (by have := hb2.size; simp at this; omega); have hl2 : w.heap.size + 1 < w2.heap.size := (by omega); have hn2 : w.heap.size + 1 ≠ w2.heap.size := (by omega); have hn3 : ¬ w2.heap.size = w.heap.size + 1 := (by omega); have hl4 : w1.heap.size < w2.heap.size := (by omega); have hn4 : ¬ w2.heap.size = w1.heap.size := (by omega); clear hq2 hs2))
            all_goals
              go_roundw
              case rel =>
                refine num_next (b := b) hlt HHX HDG h4 hs4 hq hs1 HBY hsz HN HD hbw hb1 hb2 HVW HVA hrb ?_
                first | exact or_one (by assumption) | exact or_two (by assumption) (by assumption) | exact or_three (by assumption)
              case measure => simp [intOf]; omega
          · have hcc : isDigB s[k] = false := by simpa using hdig
            obtain ⟨u0, d0⟩ := h4 0 (by omega)
            obtain ⟨u1, d1⟩ := h4 1 (by omega)
            obtain ⟨u2, d2⟩ := h4 2 (by omega)
            obtain ⟨u3, d3⟩ := h4 3 (by omega)
            have f0 := hs4 0; have f1 := hs4 1; have f2 := hs4 2; have f3 := hs4 3
            have E := Lib.hid (err_char HF.out hlt hcc); clear h4 hs4 hdig
            have hcs : (s[k].toNat : Int) < 48 ∨ (¬ (s[k].toNat : Int) < 48 ∧ (57 : Int) < (s[k].toNat : Int)) := by
              unfold isDigB at hcc
              simp at hcc
              omega
            clear hcc
            rcases hcs with hc1 | ⟨hc1, hc2⟩
            all_goals
              go_wp2
              exact bodyPost_ret (v := .tuple #[.agg #[.int .u64 0, .int .u64 0, .int .u64 0, .int .u64 0], .int .i64 4]) (by simp [results, Tryz.results35, go_sem, d0, d1, d2, d3]) rfl
                ⟨0, 0, 0, 0, by rw [E.out] <;> rfl, fun h => absurd (E.out.symm.trans h) (by decide), (((hbw.setCell (Nat.le_refl _) _).setCell (Nat.le_refl _) _).setCell (Nat.le_refl _) _).setCell (Nat.le_refl _) _⟩
        · have hge : s.size ≤ k := by omega
          clear hlt hby
          obtain ⟨u0, d0⟩ := h4 0 (by omega)
          obtain ⟨u1, d1⟩ := h4 1 (by omega)
          obtain ⟨u2, d2⟩ := h4 2 (by omega)
          obtain ⟨u3, d3⟩ := h4 3 (by omega)
          have f0 := hs4 0; have f1 := hs4 1; have f2 := hs4 2; have f3 := hs4 3
          have hl4 := list4 hl
          rw [hl4] at hlb hq HN
          generalize l.getD 0 0 = l0 at *
          generalize l.getD 1 0 = l1 at *
          generalize l.getD 2 0 = l2 at *
          generalize l.getD 3 0 = l3 at *
          clear hl4
          have q0 := hq 0 (by omega); have q1 := hq 1 (by omega); have q2 := hq 2 (by omega); have q3 := hq 3 (by omega)
          simp only [List.getD_cons_zero, List.getD_cons_succ] at q0 q1 q2 q3
          cases b
          case true =>
            have E := Lib.hid (errP_big HF.out hge HD.out HN.out)
            have hnl : ¬ k < s.size := by omega
            clear h4 hs4 hq hs1 hlb
            go_wp2
            exact bodyPost_ret (v := .tuple #[.agg #[.int .u64 0, .int .u64 0, .int .u64 0, .int .u64 0], .int .i64 2]) (by simp [results, Tryz.results35, go_sem, d0, d1, d2, d3]) rfl
              ⟨0, 0, 0, 0, by rw [E.out] <;> rfl, fun h => absurd (E.out.symm.trans h) (by decide), (((hbw.setCell (Nat.le_refl _) _).setCell (Nat.le_refl _) _).setCell (Nat.le_refl _) _).setCell (Nat.le_refl _) _⟩
          case false =>
            have E := Lib.hid (errP_small HF.out hge HD.out HN.out rfl hlb)
            have HV := Lib.hid (num_value hge HN.out)
            have HLB2 := Lib.hid hlb
            have hnl : ¬ k < s.size := by omega
            clear h4 hs4 hq hs1 hlb
            go_wp2
            exact bodyPost_ret (v := .tuple #[.agg #[.int .u64 l0, .int .u64 l1, .int .u64 l2, .int .u64 l3], .int .i64 0]) (by simp [results, Tryz.results35, go_sem, d0, d1, d2, d3]) rfl
              ⟨_, _, _, _, by rw [E.out] <;> rfl, fun _ => ⟨HV.out, HLB2.out⟩, (((hbw.setCell (Nat.le_refl _) _).setCell (Nat.le_refl _) _).setCell (Nat.le_refl _) _).setCell (Nat.le_refl _) _⟩
theorem num_prog (hM : MulOk) (hA : AddOk) (s : ByteArray) (w : World) :
    Calls Tryz.prog 35 #[.string s] w (NumOut s w) := by
  refine (num_val hM hA s w).mono ?_
  rintro e w' ⟨a0, a1, a2, a3, he, _, hb⟩
  exact ⟨a0, a1, a2, a3, he, hb⟩
end Go.Proofs.YtkmpbmlcmglmnaaGreatDoor
