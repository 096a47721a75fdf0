/- The reference tells whether words are a command. -/
import Derived.Test.YtkmpbmlcmglmnaaGreatDoorRefE
import Derived.Test.YtkmpbmlcmglmnaaGreatDoorRefF
import Derived.Deep.DeepCutAuto
set_option linter.all false
namespace Go.Proofs.YtkmpbmlcmglmnaaGreatDoor
open Go Go.RowKit
/-- cells that hold these strings. -/
def Strs (w : World) (A : Nat) (L : List ByteArray) : Prop := ∀ k, k < L.length → w.cell? ⟨A, k, none⟩ = some (.string (L.getD k ByteArray.empty))
theorem Strs.below {w w' : World} {g : Nat} {l : List ByteArray} (h : Strs w g l) (hg : g < w.heap.size) (hb : Below w.heap.size w w') : Strs w' g l := fun k hk => (hb.cell (p := ⟨g, k, none⟩) hg).trans (h k hk)
/-- one call's reach after another's. -/
theorem belowStep {w wa wb : World} (h : Below w.heap.size w wa) (h2 : Below wa.heap.size wa wb) : Below w.heap.size w wb := h.trans (h2.mono h.size)
def CanRel (L : List ByteArray) (w : World) (i : Value) (wr : World) : Prop :=
  ∃ k : Nat, k ≤ (shStr (L.getD 0 ByteArray.empty)).size ∧ i = .int .i64 k ∧ Hid (∀ j, j < k → fitsK ((shKinds (L.getD 0 ByteArray.empty)).getD j 0).toNat (L.getD (j + 1) ByteArray.empty) = true) ∧ Below w.heap.size w wr
def CanOut (L : List ByteArray) (w : World) (e : Ending) (w' : World) : Prop := e = .returned (.bool (canW L)) ∧ Below w.heap.size w w'
set_option maxRecDepth 100000 in
set_option maxHeartbeats 1000000 in
theorem can_ref (A cap : Nat) (L : List ByteArray) (w : World) (hL : Strs w A L) (hA : A < w.heap.size) (h0 : 0 < L.length) (hn : L.length ≤ 65537) (hsz : ∀ x ∈ L, x.size ≤ 65536) :
    Calls Tryz.prog 10 #[.slice (some ⟨A, 0, none⟩) L.length cap] w (CanOut L w) := by
  have c0 := hL 0 h0
  go_enter Tryz.func10, Tryz.ntmps10
  obtain ⟨w0, hw0⟩ : ∃ x, x = L.getD 0 ByteArray.empty := ⟨_, rfl⟩
  rw [← hw0] at c0
  have HW0 := Lib.hid hw0; clear hw0
  have hHA := Lib.hid hA
  cases hok : shOk w0
  case false =>
    have E : Hid (canW L = false) := Lib.hid (canW_shape (by rw [← HW0.out]; exact hok))
    go_wp2_with (go_at_call 14; refine (shape_ref _ _).mono ?_; rintro e w' ⟨rfl, rfl⟩; rw [hok])
    go_ret
    exact ⟨by rw [E.out]; rfl, Below.refl _ _⟩
  case true =>
    by_cases hlen : L.length = (shStr w0).size + 1
    · have b1 : ((L.length : Int) != ((shStr w0).size : Int) + 1) = false := by rw [bne_eq_false_iff_eq]; omega
      have HLEN := Lib.hid hlen; clear hlen
      have hm5 : (shStr w0).size ≤ 5 := by rw [shStr_size]; exact (shKinds_are w0).1
      go_wp2_with (go_at_call 14; refine (shape_ref _ _).mono ?_; rintro e w' ⟨rfl, rfl⟩; rw [hok])
      go_loopw [5] (CanRel L w) (fun i _ => (shStr w0).size - (intOf i).toNat)
      case atStart => exact ⟨0, Nat.zero_le _, rfl, Lib.hid (fun j hj => by omega), Below.refl _ _⟩
      case round =>
        obtain ⟨k, hk, rfl, HF, hbw⟩ := hrel
        rw [← HW0.out] at hk
        by_cases hlt : k < (shStr w0).size
        · have c1 := (hL.below hHA.out hbw) (k + 1) (by have := HLEN.out; omega)
          obtain ⟨x, hx⟩ : ∃ x, x = L.getD (k + 1) ByteArray.empty := ⟨_, rfl⟩
          have hxs : x.size ≤ 65536 := by rw [hx]; exact hsz _ (by have := HLEN.out; simp [show k + 1 < L.length by omega])
          rw [← hx] at c1
          have HX := Lib.hid hx; clear hx
          have b2 : (k : Int) + 1 < (L.length : Int) := by have := HLEN.out; omega
          have b3 : (k : Int) < ((shStr w0).size : Int) := by omega
          have kc := shKind_cases w0 k hlt
          have KC := Lib.hid kc; clear kc
          go_wp2_with fail
          go_quiet (fail)
          go_upto_region 10 with (first | (go_at_call 15; refine (num_ref _ _).mono ?_; rintro e w1 ⟨a0, a1, a2, a3, rfl, hb1⟩) | (go_at_call 16; refine (bytes_ref _ _ hxs).mono ?_; rintro e w2 ⟨oa, on, oc, rfl, hon, hb2⟩; have HON := Lib.hid hon; clear hon))
          go_cut [7, 9, 11, 101] (fun k7 e9 h11 c wx => k7 = .int .u8 ((shStr w0)[k].toNat : Nat) ∧ e9 = .int .i64 (numErr x) ∧ h11 = .bool (hexOk x) ∧ c = .bool (!fitsK (shStr w0)[k].toNat x) ∧ wx = w2)
          case first =>
            rcases KC.out with h | h | h | h | h
            case inl =>
              have F : Hid (fitsK (shStr w0)[k].toNat x = hexOk x) := Lib.hid (by rw [h]; simp [fitsK])
              cases hh : hexOk x
              all_goals
                have HH := Lib.hid hh; clear hh
                go_wp2_with fail
                go_meet
                exact ⟨by rw [h] <;> rfl, by first | rfl | rw [HH.out], by first | rfl | rw [HH.out], by rw [F.out, HH.out] <;> rfl, rfl⟩
            case inr.inl =>
              have F : Hid (fitsK (shStr w0)[k].toNat x = (numErr x == 0)) := Lib.hid (by rw [h]; simp [fitsK])
              rcases numErr_cases x with hh | hh | hh
              all_goals
                rw [hh]
                have HH := Lib.hid hh; clear hh
                go_wp2_with fail
                go_meet
                exact ⟨by rw [h] <;> rfl, by first | rfl | rw [HH.out], by first | rfl | rw [HH.out], by rw [F.out, HH.out] <;> rfl, rfl⟩
            case inr.inr.inl =>
              have F : Hid (fitsK (shStr w0)[k].toNat x = (hexOk x && hexLen x == 20)) := Lib.hid (by rw [h]; simp [fitsK])
              cases hh : hexOk x
              case false =>
                have HH := Lib.hid hh; clear hh
                go_wp2_with fail
                go_meet
                exact ⟨by rw [h] <;> rfl, by first | rfl | rw [HH.out], by first | rfl | rw [HH.out], by rw [F.out, HH.out] <;> rfl, rfl⟩
              case true =>
                have hon := HON.out hh
                have HH := Lib.hid hh; clear hh
                have E : Hid (fitsK (shStr w0)[k].toNat x = (on == 20)) := Lib.hid (by rw [F.out, HH.out, hon]; rfl)
                clear hon
                cases hb : ((on : Int) != 20)
                all_goals
                  have HB := Lib.hid hb
                  go_wp2_with fail
                  go_meet
                  refine ⟨by rw [h] <;> rfl, rfl, by first | rfl | rw [HH.out], ?_, rfl⟩
                  rw [E.out]
                  congr 1
                  have := HB.out
                  simp at this
                  simp
                  omega
            case inr.inr.inr.inl =>
              have F : Hid (fitsK (shStr w0)[k].toNat x = decide (x.size ≤ 16)) := Lib.hid (by rw [h]; simp [fitsK])
              by_cases hh : 16 < x.size
              all_goals
                have HH := Lib.hid hh
                go_wp2_with fail
                go_meet
                refine ⟨by rw [h] <;> rfl, rfl, rfl, ?_, rfl⟩
                rw [F.out]
                congr 1
                have := HH.out
                first
                  | (rw [decide_eq_false (show ¬ x.size ≤ 16 by omega)]; first | rfl | (rw [decide_eq_true (show (16 : Int) < (x.size : Int) by omega)]; rfl))
                  | (rw [decide_eq_true (show x.size ≤ 16 by omega)]; first | rfl | (rw [decide_eq_false (show ¬ (16 : Int) < (x.size : Int) by omega)]; rfl))
            case inr.inr.inr.inr =>
              have F : Hid (fitsK (shStr w0)[k].toNat x = (hexOk x && hexLen x == 32)) := Lib.hid (by rw [h]; simp [fitsK])
              cases hh : hexOk x
              case false =>
                have HH := Lib.hid hh; clear hh
                go_wp2_with fail
                go_meet
                exact ⟨by rw [h] <;> rfl, by first | rfl | rw [HH.out], by first | rfl | rw [HH.out], by rw [F.out, HH.out] <;> rfl, rfl⟩
              case true =>
                have hon := HON.out hh
                have HH := Lib.hid hh; clear hh
                have E : Hid (fitsK (shStr w0)[k].toNat x = (on == 32)) := Lib.hid (by rw [F.out, HH.out, hon]; rfl)
                clear hon
                cases hb : ((on : Int) != 32)
                all_goals
                  have HB := Lib.hid hb
                  go_wp2_with fail
                  go_meet
                  refine ⟨by rw [h] <;> rfl, rfl, by first | rfl | rw [HH.out], ?_, rfl⟩
                  rw [E.out]
                  congr 1
                  have := HB.out
                  simp at this
                  simp
                  omega
          case rest =>
            obtain ⟨rfl, rfl, rfl, rfl, rfl⟩ := hcut
            have hs1 := hb1.size
            rw [show (wr.drewN nq).heap.size = wr.heap.size from rfl] at hs1
            have hsw := hbw.size
            have hb1w : Below w.heap.size w w1 := Below.trans (below_drewN hbw nq) (hb1.mono (by rw [show (wr.drewN nq).heap.size = wr.heap.size from rfl]; omega))
            have hbz : Below w.heap.size w wc := belowStep (Below.alloc hb1w (by rw [show (wr.drewN nq).heap.size = wr.heap.size from rfl] at hb1; omega) _) hb2
            clear hs1 hsw
            have eF : fitsK (shStr w0)[k].toNat x = fitsK ((shKinds (L.getD 0 ByteArray.empty)).getD k 0).toNat (L.getD (k + 1) ByteArray.empty) := by
              rw [shStr_at w0 k hlt, ← HW0.out, ← HX.out]
            cases hf : fitsK (shStr w0)[k].toNat x
            case false =>
              have E : Hid (canW L = false) := Lib.hid (canW_fit (j := k) (by rw [← HW0.out]; exact hlt) (by rw [← HW0.out]; exact HLEN.out) (by rw [← eF]; exact hf))
              clear eF hf
              go_wp2
              go_ret
              exact ⟨by rw [E.out]; rfl, hbz⟩
            case true =>
              rw [hf] at eF
              have EF := Lib.hid eF; clear eF hf
              go_wp2
              go_roundw
              case rel => exact ⟨k + 1, by rw [← HW0.out]; omega, by go_num, Lib.hid (fun j hj => by
                  by_cases hjk : j < k
                  · exact HF.out j hjk
                  · obtain rfl : j = k := by omega
                    exact EF.out.symm), hbz⟩
              case measure => simp [intOf]; omega
        · have E : Hid (canW L = true) := Lib.hid (canW_all h0 (by rw [← HW0.out]; exact hok) (by rw [← HW0.out]; exact HLEN.out) (fun j hj => HF.out j (by rw [← HW0.out] at hj; omega)))
          go_wp2
          go_ret
          exact ⟨by rw [E.out]; rfl, hbw⟩
    · have E : Hid (canW L = false) := Lib.hid (canW_len (by rw [← HW0.out]; exact hlen))
      have b1 : ((L.length : Int) != ((shStr w0).size : Int) + 1) = true := by rw [bne_iff_ne]; omega
      have hm5 : (shStr w0).size ≤ 5 := by rw [shStr_size]; exact (shKinds_are w0).1
      clear hlen
      go_wp2_with (go_at_call 14; refine (shape_ref _ _).mono ?_; rintro e w' ⟨rfl, rfl⟩; rw [hok])
      go_ret
      exact ⟨by rw [E.out]; rfl, Below.refl _ _⟩
end Go.Proofs.YtkmpbmlcmglmnaaGreatDoor
