/- The program's reader of bytes in hexadecimal digits. -/
import Derived.Test.YtkmpbmlcmglmnaaGreatDoorGround
import Derived.Test.YtkmpbmlcmglmnaaGreatDoorRefF
set_option linter.all false
namespace Go.Proofs.YtkmpbmlcmglmnaaGreatDoor
open Go Go.RowKit
theorem good_empty {s : ByteArray} (h : s.toList = []) : hexGood s = false := by unfold hexGood; rw [h]; rfl
theorem good_odd {s : ByteArray} (h : ¬ (s.size : Int) % 2 = 0) : hexGood s = false := by
  unfold hexGood
  have e : (s.size % 2 == 0) = false := by rw [beq_eq_false_iff_ne]; omega
  rw [e]; simp
theorem good_long {s : ByteArray} (h : (1200 : Int) < (s.size : Int)) : hexGood s = false := by
  unfold hexGood
  rw [decide_eq_false (show ¬ s.size ≤ 1200 by omega)]; simp
theorem good_trim {s : ByteArray} (h2 : (s.size : Int) % 2 = 0) (h3 : (s.size : Int) ≤ 1200) : (s.toList.isEmpty || decide ((1200 : Int) < (s.size : Int)) || !(Lib.trimS s.data.toList hexesL).isEmpty) = !hexGood s := by
  unfold hexGood
  have e : (s.size % 2 == 0) = true := by rw [beq_iff_eq]; omega
  rw [trim_hex, e, decide_eq_true (show s.size ≤ 1200 by omega), decide_eq_false (show ¬ (1200 : Int) < (s.size : Int) by omega)]
  cases s.toList.isEmpty <;> cases s.data.toList.all isHexB <;> rfl
theorem good_parts {s : ByteArray} (h : hexGood s = true) : 0 < s.size ∧ s.size % 2 = 0 ∧ s.size ≤ 1200 ∧ s.data.toList.all isHexB = true := by
  unfold hexGood at h
  simp only [Bool.and_eq_true, isEmpty_size, decide_eq_true_eq, beq_iff_eq, Bool.not_eq_true', decide_eq_false_iff_not] at h
  exact ⟨by omega, h.1.1.2, h.1.2, h.2⟩
theorem hexUp_at {s : ByteArray} (h : s.data.toList.all isHexB = true) {p : Nat} (hp : p < s.size) : isHexB s[p] = true := (List.all_eq_true.1 h) _ (List.mem_of_getElem? (byte_at s p hp))
set_option maxRecDepth 100000 in
set_option maxHeartbeats 1000000 in
theorem bytes_prog (hT : TrimOk) (hI : IndexOk) (s : ByteArray) (w : World) (hs : s.size ≤ 65536) :
    Calls Tryz.prog 34 #[.string s] w (HexOut s w) := by
  have HT := Lib.hid hT; have HI := Lib.hid hI; clear hT hI
  obtain ⟨i0, hi, hz0, hz1, hz2⟩ := info_parts infoU8
  go_enter Tryz.func34, Tryz.ntmps34
  cases hd : (s.toList == [45])
  case true =>
    obtain ⟨e1, e2⟩ := dash_ok hd
    have E1 := Lib.hid e1; have E2 := Lib.hid e2; clear e1 e2
    go_wp2
    go_ret2
    exact ⟨_, _, _, by rw [E1.out]; rfl, fun _ => E2.out.symm, Below.refl _ _⟩
  case false =>
    obtain ⟨e1, e2⟩ := nodash_ok hd
    have E1 := Lib.hid e1; have E2 := Lib.hid e2; clear e1 e2
    go_upto_region 3 with (go_at_call 50; refine (HT.out _ _ hs).mono ?_; rintro e w1 ⟨rfl, hb1⟩)
    go_cut [25] (fun c wx => c = .bool (!hexGood s) ∧ Below w.heap.size w wx)
    case first =>
      go_wp2_with (go_at_call 50; refine (HT.out _ _ hs).mono ?_; rintro e w1 ⟨rfl, hb1⟩)
      all_goals go_meet
      · exact ⟨by rw [good_empty (by assumption)]; rfl, Below.refl _ _⟩
      · exact ⟨by rw [good_trim (by assumption) (by assumption)], hb1⟩
      · exact ⟨by rw [good_long (by assumption)]; rfl, Below.refl _ _⟩
      · exact ⟨by rw [good_odd (by assumption)]; rfl, Below.refl _ _⟩
    case rest =>
      obtain ⟨rfl, hb1⟩ := hcut
      cases hg : hexGood s
      case false =>
        have E3 := Lib.hid (E1.out.trans hg); clear hg
        go_wp2
        go_ret2
        exact ⟨none, 0, 0, by rw [E3.out]; rfl, fun h => (by rw [E3.out] at h; cases h), hb1⟩
      case true =>
        have E3 := Lib.hid (E1.out.trans hg)
        obtain ⟨g1, g2, g3, g4⟩ := good_parts hg
        have G4 := Lib.hid g4; clear hg g4
        have hbs := hb1.size
        go_wp2
        go_loopw [4, 5] (HexRel s w) (fun _ i _ => s.size + 1 - (intOf i).toNat)
        case atStart => exact ⟨0, 0, [], Lib.hid rfl, by omega, by omega, rfl, World.ownsRow_nil _ _ _ _, Lib.hid (hexUp_zero s), hb1⟩
        case round =>
          obtain ⟨k, p, xs, HP, hkp, hk, rfl, hown, HU, hbw⟩ := hrel
          have hbs := hbw.size
          by_cases hlt : p < s.size
          · have hlt1 : p + 1 < s.size := by have := HP.out; omega
            have a0 := hexUp_at G4.out hlt
            have a1 := hexUp_at G4.out hlt1
            have n0 := (dig_hex s[p]).1 a0
            have n1 := (dig_hex s[p + 1]).1 a1
            obtain ⟨x, y, hx, hy, bx, bY⟩ := two_digits _ _ n0.1 n0.2 n1.1 n1.2
            have x0 := (hexes_index _ a0).trans hx
            have x1 := (hexes_index _ a1).trans hy
            have A0 := Lib.hid a0; have A1 := Lib.hid a1
            have X0 := Lib.hid x0; have X1 := Lib.hid x1
            clear n0 n1 hx hy x0 x1 a0 a1
            have eP : IntKind.i64.wrap ((p : Int) + 1) = (p : Int) + 1 := IntWalk.i64_in _ (by omega)
            have eX : IntKind.i64.wrap ((x : Int) * 16) = (x : Int) * 16 := IntWalk.i64_in _ (by omega)
            have hpI : (p : Int) + 1 < (s.size : Int) := by omega
            have w5 : ((p : Int) + 1).toNat = p + 1 := by omega
            have w6 : (0 : Int) ≤ (p : Int) + 1 := by omega
            go_wp2_with fail
            go_region_law (first
              | (go_simp; go_at_call 51; refine (HI.out _ _).mono ?_; rintro e w' ⟨rfl, rfl⟩; first | rw [X0.out] | rw [X1.out])
              | (refine step_append_own rfl (.tmp 32) (.tmp 45) 47 rfl w.heap.size 5 i0 (.int .u8 0) 1 1 Tryz.underlying47 hi hz0 hz1 hz2 rfl (by decide) _ _ _ (by simp [Act.eval]) (own_drew (hown.alloc _)) ⟨_, 0, none⟩ 1 1 [.int .u8 _] (by simp [Act.eval]) rfl (news_box_drew _ _ _) (by intro u hu; simp at hu; subst hu; rfl) (by unfold maxLen; omega) (by omega) (by simp; omega) ?_; intro v' w1 hown' hgrow))
            all_goals
              have hrl := hex_rel hlt hlt1 HP A0.out A1.out HU hown hbw _ hown' hgrow
              go_wp2
              go_roundw
              case rel => first | exact hrl | exact ⟨_, _, _, _, _, _, _, _, _, _, _, _, _, _, _, _, _, _, _, _, _, _, _, hrl, rfl⟩
              case measure => simp [intOf]; omega
          · have E2' := Lib.hid (E2.out)
            have hpk := HP.out
            obtain ⟨oa, oc, rfl⟩ := own_slice hown
            clear hpk
            go_wp2
            go_ret2
            exact ⟨oa, k, oc, by rw [E3.out]; rfl, fun _ => (by rw [E2.out]; have := HP.out; omega), hbw⟩
end Go.Proofs.YtkmpbmlcmglmnaaGreatDoor
