/- The reference's reader of bytes in hexadecimal digits. -/
import Derived.Test.YtkmpbmlcmglmnaaGreatDoorRefA
import Derived.Test.YtkmpbmlcmglmnaaGreatDoorPlain
import Derived.Deep.DeepCutAuto
import Derived.StillTailTactics
set_option linter.all false
namespace Go.Proofs.YtkmpbmlcmglmnaaGreatDoor
open Go Go.RowKit
def HexRel (s : ByteArray) (w : World) (b i : Value) (wr : World) : Prop :=
  ∃ (k p : Nat) (xs : List Value), Hid (p = 2 * k) ∧ k ≤ p ∧ p ≤ s.size + 1 ∧ i = .int .i64 p ∧ wr.ownsRow w.heap.size 5 1 b k xs ∧ Hid (hexUp s p) ∧ Below w.heap.size w wr
theorem hex_rel {s : ByteArray} {w wr w1 : World} {k p : Nat} {xs : List Value} {v v' u : Value} (h0 : p < s.size) (h1 : p + 1 < s.size) (HP : Hid (p = 2 * k)) (a0 : isHexB s[p] = true) (a1 : isHexB s[p + 1] = true)
    (HU : Hid (hexUp s p)) (hown : wr.ownsRow w.heap.size 5 1 v k xs) (hbw : Below w.heap.size w wr) (o : Obj)
    (hown' : w1.ownsRow w.heap.size 5 1 v' (k + 1) (xs ++ [u])) (hgrow : (wr.alloc o).drew.grownBy w1 v.ownBlock) : HexRel s w v' (.int .i64 ((p : Int) + 2)) w1 := by
  have hbs := hbw.size
  have hp := HP.out
  exact ⟨k + 1, p + 2, _, Lib.hid (by omega), by omega, by omega, by go_num, hown', Lib.hid (hexUp_two HU.out h0 h1 a0 a1), ((hbw.alloc hbs _).drew).grown hgrow (by simp; omega) (fun k hk => (hown.lt k hk).1)⟩
def HexOut (s : ByteArray) (w : World) (e : Ending) (w' : World) : Prop :=
  ∃ (a : Option Addr) (n c : Nat), e = .returned (.tuple #[.slice a n c, .bool (hexOk s)]) ∧ (hexOk s = true → n = hexLen s) ∧ Below w.heap.size w w'
theorem dash_ok {s : ByteArray} (h : (s.toList == [45]) = true) : hexOk s = true ∧ hexLen s = 0 := by
  have : isDash s = true := h
  unfold hexOk hexLen; rw [this]; exact ⟨rfl, rfl⟩
theorem nodash_ok {s : ByteArray} (h : (s.toList == [45]) = false) : hexOk s = hexGood s ∧ hexLen s = s.size / 2 := by
  have : isDash s = false := h
  unfold hexOk hexLen; rw [this]; exact ⟨by simp, rfl⟩
set_option maxRecDepth 100000 in
set_option maxHeartbeats 1000000 in
theorem bytes_ref (s : ByteArray) (w : World) (hs : s.size ≤ 65536) :
    Calls Tryz.prog 16 #[.string s] w (HexOut s w) := by
  obtain ⟨i0, hi, hz0, hz1, hz2⟩ := info_parts infoU8
  go_enter Tryz.func16, Tryz.ntmps16
  cases hd : (s.toList == [45])
  case true =>
    obtain ⟨e1, e2⟩ := dash_ok hd
    have E1 := Lib.hid e1; have E2 := Lib.hid e2; clear e1 e2
    go_wp2
    go_ret2
    exact ⟨_, _, _, by rw [E1.out]; rfl, fun _ => E2.out.symm, (Below.refl _ _).alloc (Nat.le_refl _) _⟩
  case false =>
    obtain ⟨e1, e2⟩ := nodash_ok hd
    have E1 := Lib.hid e1; have E2 := Lib.hid e2; clear e1 e2
    go_wp2
    go_loopw [4, 5] (HexRel s w) (fun _ i _ => s.size + 1 - (intOf i).toNat)
    case atStart => exact ⟨0, 0, [], Lib.hid rfl, by omega, by omega, rfl, World.ownsRow_made _ _ _ (Nat.le_refl _) (by simp [maxLen]) (by simp), Lib.hid (hexUp_zero s), (Below.refl _ _).alloc (Nat.le_refl _) _⟩
    case round =>
      obtain ⟨k, p, xs, HP, hkp, hk, rfl, hown, HU, hbw⟩ := hrel
      have hbs := hbw.size
      by_cases hlt : p + 1 < s.size
      · have h0 : p < s.size := by omega
        cases a0 : isHexB s[p]
        case false =>
          have n0 := (dig_hex s[p]).2 a0
          have E3 := Lib.hid (E1.out.trans (hexGood_bad h0 a0))
          clear a0
          have b0 : (s[p].toNat : Int) < 256 := by have := s[p].toNat_lt; omega
          have n1 : dig (s[p].toNat : Nat) < 0 := by omega
          clear n0
          go_wp2_with (go_at_call 26; refine (digit_any _ _ (by omega) (by omega)).mono ?_; rintro e w' ⟨rfl, rfl⟩)
          go_ret2
          exact ⟨_, _, _, by rw [E3.out]; rfl, fun h => (by rw [E3.out] at h; cases h), hbw⟩
        case true =>
          cases a1 : isHexB s[p + 1]
          case false =>
            have n0 := (dig_hex s[p + 1]).2 a1
            obtain ⟨p1, p2⟩ := (dig_hex s[p]).1 a0
            have E3 := Lib.hid (E1.out.trans (hexGood_bad hlt a1))
            clear a0 a1
            have b0 : (s[p].toNat : Int) < 256 := by have := s[p].toNat_lt; omega
            have b1 : (s[p + 1].toNat : Int) < 256 := by have := s[p + 1].toNat_lt; omega
            have n1 : dig (s[p + 1].toNat : Nat) < 0 := by omega
            clear n0
            go_wp2_with (go_at_call 26; refine (digit_any _ _ (by omega) (by omega)).mono ?_; rintro e w' ⟨rfl, rfl⟩)
            go_ret2
            exact ⟨_, _, _, by rw [E3.out]; rfl, fun h => (by rw [E3.out] at h; cases h), hbw⟩
          case true =>
            obtain ⟨p1, p2⟩ := (dig_hex s[p]).1 a0
            obtain ⟨q1, q2⟩ := (dig_hex s[p + 1]).1 a1
            have A0 := Lib.hid a0; have A1 := Lib.hid a1
            clear a0 a1
            have b0 : (s[p].toNat : Int) < 256 := by have := s[p].toNat_lt; omega
            have b1 : (s[p + 1].toNat : Int) < 256 := by have := s[p + 1].toNat_lt; omega
            have w1 : IntKind.i64.wrap (16 * dig (s[p].toNat : Nat)) = 16 * dig (s[p].toNat : Nat) := IntWalk.i64_in _ (by omega)
            have w2 : IntKind.i64.wrap (16 * dig (s[p].toNat : Nat) + dig (s[p + 1].toNat : Nat)) = 16 * dig (s[p].toNat : Nat) + dig (s[p + 1].toNat : Nat) := IntWalk.i64_in _ (by omega)
            have w3 : IntKind.u8.wrap (16 * dig (s[p].toNat : Nat) + dig (s[p + 1].toNat : Nat)) = 16 * dig (s[p].toNat : Nat) + dig (s[p + 1].toNat : Nat) := by rw [IntKind.wrap_u8]; omega
            have W1 := Lib.hid w1; have W2 := Lib.hid w2; have W3 := Lib.hid w3; clear w1 w2 w3
            go_upto_region 9 with (go_at_call 26; refine (digit_any _ _ (by omega) (by omega)).mono ?_; rintro e w' ⟨rfl, rfl⟩)
            have w1 := W1.out; have w2 := W2.out; have w3 := W3.out
            have w4 : IntKind.i64.wrap ((p : Int) + 1) = p + 1 := IntWalk.i64_in _ (by omega)
            have w5 : ((p : Int) + 1).toNat = p + 1 := by omega
            have w6 : (0 : Int) ≤ (p : Int) + 1 := by omega
            have w7 : (p : Int) + 1 < (s.size : Int) := by omega
            go_region_law (first
              | (go_simp; go_at_call 26; refine (digit_any _ _ (by omega) (by omega)).mono ?_; rintro e w' ⟨rfl, rfl⟩)
              | (refine step_append_own rfl (.tmp 30) (.tmp 43) 47 rfl w.heap.size 5 i0 (.int .u8 0) 1 1 Tryz.underlying47 hi hz0 hz1 hz2 rfl (by decide) _ _ _ (by simp [Act.eval]) (own_drew (hown.alloc _)) ⟨w'.heap.size, 0, none⟩ 1 1 [.int .u8 (16 * dig (s[p].toNat : Nat) + dig (s[p + 1].toNat : Nat))] (by simp [Act.eval]) rfl (news_box_drew _ _ _) (by intro u hu; simp at hu; subst hu; rfl) (by unfold maxLen; omega) (by omega) (by simp; omega) ?_; intro v' w1 hown' hgrow))
            all_goals
              go_wp2
              go_roundw
              case rel => exact hex_rel h0 hlt HP A0.out A1.out HU hown hbw _ hown' hgrow
              case measure => simp [intOf]; omega
      · have hg := hexGood_of (k := k) (by rw [← HP.out]; exact HU.out) (by rw [← HP.out]; omega)
        have E3 := Lib.hid (E1.out.trans hg); clear hg
        have hp2 := HP.out
        obtain ⟨oa, oc, rfl⟩ := own_slice hown
        have fin : ∀ b : Bool, b = (decide (0 < s.size) && (s.size % 2 == 0) && decide (s.size ≤ 1200)) → HexOut s w (.returned (.tuple #[.slice oa k oc, .bool b])) wr := fun b hb => by
          refine ⟨oa, k, oc, by rw [E3.out, hb], fun h => ?_, hbw⟩
          rw [E3.out] at h
          simp only [Bool.and_eq_true, decide_eq_true_eq, beq_iff_eq] at h
          have := E2.out
          omega
        have FIN := Lib.hid fin; clear fin hp2
        go_wp2
        · have hm : (s.size : Int) % 2 = 0 := by assumption
          have h0 : 0 < s.size := by assumption
          go_ret2
          refine FIN.out _ ?_
          have e1 : (s.size % 2 == 0) = true := by rw [beq_iff_eq]; omega
          simp [h0, e1]
          omega
        · have hm : ¬ (s.size : Int) % 2 = 0 := by assumption
          go_ret2
          refine FIN.out _ ?_
          have e1 : (s.size % 2 == 0) = false := by rw [beq_eq_false_iff_ne]; omega
          simp [e1]
        · have h0 : ¬ 0 < s.size := by assumption
          go_ret2
          refine FIN.out _ ?_
          simp [h0]
end Go.Proofs.YtkmpbmlcmglmnaaGreatDoor
