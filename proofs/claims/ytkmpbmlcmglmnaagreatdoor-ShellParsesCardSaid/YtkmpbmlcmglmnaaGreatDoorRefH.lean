/- The reference's reader of scripts. -/
import Derived.Test.YtkmpbmlcmglmnaaGreatDoorRefG
import Derived.Test.YtkmpbmlcmglmnaaGreatDoorGround
set_option linter.all false
namespace Go.Proofs.YtkmpbmlcmglmnaaGreatDoor
open Go Go.RowKit
theorem drop_ne {s : ByteArray} {a : Nat} (h : a < s.size) : s.data.toList.drop a ≠ [] := by
  intro e
  have := congrArg List.length e
  simp at this
  have h2 : s.data.size = s.size := rfl
  omega
theorem drop_all {s : ByteArray} {a : Nat} (h : s.size ≤ a) : s.data.toList.drop a = [] := List.drop_eq_nil_of_le (by simpa using h)
/-- a line between two places. -/
theorem line_ext (s : ByteArray) (a e : Nat) (hae : a ≤ e) (he : e ≤ s.size) (h1 : ∀ j, a ≤ j → j < e → s.data.toList[j]? ≠ some 10) (h2 : e = s.size ∨ s.data.toList[e]? = some 10) :
    s.extract a e = ⟨(lineOf (s.data.toList.drop a)).toArray⟩ ∧ restOf (s.data.toList.drop a) = s.data.toList.drop (e + 1) := by
  have hl : s.data.toList.length = s.size := Array.length_toList
  obtain ⟨e1, e2⟩ := line_at s.data.toList a e hae (by omega) h1 (by rw [hl]; exact h2)
  exact ⟨by rw [extract_list, e1], e2⟩
def ParseRel (s : ByteArray) (w : World) (out fr ln : Value) (wr : World) : Prop :=
  ∃ (a n : Nat) (acc : List Cmd) (xs : List Value), a ≤ s.size + 1 ∧ fr = .int .i64 a ∧ n ≤ a ∧ ln = .int .i64 n ∧ acc.length ≤ 200 ∧ wr.ownsRow w.heap.size 33 3 out acc.length xs ∧ SayVals wr xs acc ∧ Hid (Left s (s.data.toList.drop a) (n + 1) acc) ∧ Below w.heap.size w wr
theorem rel_none {s : ByteArray} {w wo w1 : World} {a e n : Nat} {acc : List Cmd} {xs : List Value} {out : Value} {P : Prop} (hae : a ≤ e) (hes : e ≤ s.size) (hna : n ≤ a) (hacc : acc.length ≤ 200)
    (hown : wo.ownsRow w.heap.size 33 3 out acc.length xs) (hsv : SayVals wo xs acc) (hb1 : Below wo.heap.size wo w1) (hbw : Below w.heap.size w wo)
    (HX : Hid (P ∧ restOf (s.data.toList.drop a) = s.data.toList.drop (e + 1))) (HK : Hid (Left s (restOf (s.data.toList.drop a)) (n + 1 + 1) acc)) : ParseRel s w out (.int .i64 ((e : Int) + 1)) (.int .i64 ((n : Int) + 1)) w1 :=
  ⟨e + 1, n + 1, acc, xs, by omega, by go_num, by omega, by go_num, hacc, own_below hown hb1, hsv.below hb1, Lib.hid (by rw [← HX.out.2]; exact HK.out), belowStep hbw hb1⟩
theorem rel_cmd {s : ByteArray} {w w2 w3 : World} {a e n : Nat} {acc : List Cmd} {L : List ByteArray} {xs : List Value} {out v' u : Value} {P : Prop} {o : Obj} (hae : a ≤ e) (hes : e ≤ s.size) (hna : n ≤ a) (hacc : acc.length < 200)
    (hown : w2.ownsRow w.heap.size 33 3 out acc.length xs) (hsv : SayVals w2 xs acc) (ha : ArgsAt w2 u L) (hbw : Below w.heap.size w w2) (hg : (w2.alloc o).drew.grownBy w3 out.ownBlock)
    (hown' : w3.ownsRow w.heap.size 33 3 v' (acc.length + 1) (xs ++ [.int .i64 ((n : Int) + 1), .string (L.getD 0 ByteArray.empty), u]))
    (HX : Hid (P ∧ restOf (s.data.toList.drop a) = s.data.toList.drop (e + 1))) (HK : Hid (Left s (restOf (s.data.toList.drop a)) (n + 1 + 1) (acc ++ [(n + 1, L)]))) : ParseRel s w v' (.int .i64 ((e : Int) + 1)) (.int .i64 ((n : Int) + 1)) w3 := by
  have hsz := hbw.size
  obtain ⟨ys, h1, h2⟩ := says_step (n := n + 1) hown hsv ha (((Below.refl w2.heap.size w2).alloc (Nat.le_refl _) o).drew) hg hown'
  exact ⟨e + 1, n + 1, _, ys, by omega, by go_num, by omega, by go_num, by simp; omega, h1, h2, Lib.hid (by rw [← HX.out.2]; exact HK.out),
    ((hbw.alloc hsz o).drew).grown hg (by simp; omega) (fun k hk => (hown.lt k hk).1)⟩
def EndRel (s : ByteArray) (a : Nat) (wo : World) (i : Value) (wr : World) : Prop :=
  ∃ e : Nat, a ≤ e ∧ e ≤ s.size ∧ i = .int .i64 e ∧ Hid (∀ j, a ≤ j → j < e → s.data.toList[j]? ≠ some 10) ∧ wr = wo
theorem at_nl (s : ByteArray) (e : Nat) (h : e < s.size) : (((s[e].toNat : Nat) : Int) != 10) = false ∧ s.data.toList[e]? = some 10 ∨ (((s[e].toNat : Nat) : Int) != 10) = true ∧ s.data.toList[e]? ≠ some 10 := by
  have hb := byte_at s e h
  rw [hb]
  by_cases hx : s[e] = 10
  · left; rw [hx]; exact ⟨rfl, rfl⟩
  · right
    refine ⟨?_, fun h2 => hx (Option.some.inj h2)⟩
    rw [bne_iff_ne]
    intro h3
    apply hx
    apply UInt8.toNat.inj
    show s[e].toNat = 10
    omega
set_option maxRecDepth 100000 in
set_option maxHeartbeats 2000000 in
theorem parse_ref (s : ByteArray) (w : World) :
    Calls Tryz.prog 5 #[.string s] w (ParseOut s w) := by
  obtain ⟨i0, hi, hz0, hz1, hz2⟩ := info_parts infoSay
  go_enter Tryz.func5, Tryz.ntmps5
  by_cases hbig : 65536 < s.size
  · go_wp2
    go_ret3
    exact out_long hbig
  · have hs : s.size ≤ 65536 := by omega
    go_wp2
    go_loopw [5, 6, 7] (ParseRel s w) (fun _ fr _ _ => s.size + 1 - (intOf fr).toNat)
    case atStart =>
      exact ⟨0, 0, [], [], by omega, rfl, Nat.le_refl _, rfl, by simp, World.ownsRow_made _ _ _ (Nat.le_refl _) (by simp [maxLen]) (by simp), fun k hk => absurd hk (Nat.not_lt_zero k), Lib.hid (left_start s), (Below.refl _ _).alloc (Nat.le_refl _) _⟩
    case round =>
      obtain ⟨a, n, acc, xs, ha, rfl, hna, rfl, hacc, hown, hsv, HL, hbw⟩ := hrel
      by_cases hlt : a < s.size
      · obtain ⟨wo, rfl⟩ : ∃ wo : World, wo = wr := ⟨_, rfl⟩
        go_wp2
        go_loopw [8] (EndRel s a wo) (fun e _ => s.size - (intOf e).toNat)
        case atStart => exact ⟨a, Nat.le_refl _, by omega, rfl, Lib.hid (fun j h1 h2 => by omega), rfl⟩
        case round =>
          obtain ⟨e, hae, hes, rfl, HE, rfl⟩ := hrel
          have hcs : (s.size ≤ e ∧ Hid (e = s.size)) ∨ ∃ h : e < s.size, ((((s[e].toNat : Nat) : Int) != 10) = false ∧ s.data.toList[e]? = some 10) ∨ ((((s[e].toNat : Nat) : Int) != 10) = true ∧ s.data.toList[e]? ≠ some 10) := by
            by_cases h : e = s.size
            · exact .inl ⟨by omega, Lib.hid h⟩
            · exact .inr ⟨by omega, at_nl s e (by omega)⟩
          rcases hcs with ⟨hge, hend⟩ | ⟨hle, ⟨b1, hend⟩ | ⟨b1, hno⟩⟩
          case inr.inr =>
            have HN := Lib.hid hno; clear hno
            go_wp2
            go_roundw
            case rel => exact ⟨e + 1, by omega, by omega, by go_num, Lib.hid (fun j h1 h2 => by
                by_cases hj : j = e
                · rw [hj]; exact HN.out
                · exact HE.out j h1 (by omega)), rfl⟩
            case measure => simp [intOf]; omega
          all_goals
            have hxt := line_ext s a e hae hes HE.out (by first | exact .inl hend.out | exact .inr hend)
            have HX := Lib.hid hxt; clear hxt
            obtain ⟨L, hL⟩ : ∃ L, L = fields (s.extract a e) := ⟨_, rfl⟩
            have hXs : (s.extract a e).size ≤ 65536 := by rw [ByteArray.size_extract]; omega
            have hfs := fields_sizes (s.extract a e)
            rw [← hL] at hfs
            have hLl : L.length ≤ 65537 := by omega
            have HS := Lib.hid hfs.2
            clear hfs
            have HLf : Hid (L = fields ⟨(lineOf (s.data.toList.drop a)).toArray⟩) := Lib.hid (hL.trans (congrArg fields HX.out.1))
            have HLL := Lib.hid hL
            clear hL hend
            by_cases hne : L = []
            case pos =>
              have hk : headHash L = true := by rw [hne]; rfl
              have HK := Lib.hid (left_none HL.out (drop_ne hlt) HLf.out hk)
              have HNE := Lib.hid hne
              clear hk hne
              go_wp2_with (go_at_call 9; refine (words_any _ _ hXs).mono ?_; rintro e1 w1 ⟨v, rfl, hw1, hb1⟩; rw [← HLL.out, HNE.out] at hw1; obtain ⟨oa, oc, rfl⟩ := own_slice hw1; clear hw1; simp only [List.length_nil])
              go_roundw
              case rel => exact rel_none hae hes hna hacc hown hsv hb1 hbw HX HK
              case measure => simp [intOf]; omega
            case neg =>
              obtain ⟨w0, hw0⟩ : ∃ x, x = L.getD 0 ByteArray.empty := ⟨_, rfl⟩
              have hL0 : 0 < L.length := List.length_pos_iff.2 hne
              have hw0s := HS.out w0 (by rw [hw0, List.getD_eq_getElem?_getD, List.getElem?_eq_getElem hL0]; exact List.getElem_mem hL0)
              have hpos := hw0s.1
              have hd := head_eq hne hw0 hpos
              have HW0 := Lib.hid hw0
              have HNE := Lib.hid hne
              have bz : ((L.length : Int) == 0) = false := by rw [beq_eq_false_iff_ne]; omega
              obtain ⟨oa, oc, rfl⟩ := own_slice hown
              clear hw0 hw0s hne
              cases hb : (((w0[0].toNat : Nat) : Int) == 35)
              case true =>
                have HK := Lib.hid (left_none HL.out (drop_ne hlt) HLf.out (hd.trans hb))
                clear hd
                go_wp2_with (go_at_call 9; refine (words_any _ _ hXs).mono ?_; rintro e1 w1 ⟨v, rfl, hw1, hb1⟩; rw [← HLL.out] at hw1; obtain ⟨g, cap, rfl, hcap, hmax, hwa⟩ := own_words hw1 HNE.out; have c0 := hwa.strs 0 hL0; rw [← HW0.out] at c0; clear hw1)
                go_roundw
                case rel => exact rel_none hae hes hna hacc hown hsv hb1 hbw HX HK
                case measure => simp [intOf]; omega
              case false =>
                have HD := Lib.hid (hd.trans hb)
                clear hd
                have hsz : ∀ x ∈ L, x.size ≤ 65536 := fun x hx => Nat.le_trans (HS.out x hx).2 hXs
                have HSZ := Lib.hid hsz; clear hsz
                cases hc : canW L
                case false =>
                  have HB := Lib.hid (left_bad HL.out (drop_ne hlt) HLf.out HD.out hc)
                  have HC := Lib.hid hc; clear hc
                  go_wp2_with (first
                    | (go_at_call 9; refine (words_any _ _ hXs).mono ?_; rintro e1 w1 ⟨v, rfl, hw1, hb1⟩; rw [← HLL.out] at hw1; obtain ⟨g, cap, rfl, hcap, hmax, hwa⟩ := own_words hw1 HNE.out; have c0 := hwa.strs 0 hL0; rw [← HW0.out] at c0; clear hw1)
                    | (go_at_call 10; refine (can_ref _ _ L _ hwa.strs hwa.lt hL0 hLl HSZ.out).mono ?_; rintro e2 w2 ⟨rfl, hb2⟩; rw [HC.out]))
                  go_ret3
                  exact out_badS hs HB (belowStep (belowStep hbw hb1) hb2)
                case true =>
                  by_cases hm : acc.length = 200
                  case pos =>
                    have HB := Lib.hid (left_many HL.out (drop_ne hlt) HLf.out HD.out (by omega))
                    have HC := Lib.hid hc; clear hc
                    have bm : ((acc.length : Int) == 200) = true := by rw [beq_iff_eq]; omega
                    clear hm
                    go_wp2_with (first
                      | (go_at_call 9; refine (words_any _ _ hXs).mono ?_; rintro e1 w1 ⟨v, rfl, hw1, hb1⟩; rw [← HLL.out] at hw1; obtain ⟨g, cap, rfl, hcap, hmax, hwa⟩ := own_words hw1 HNE.out; have c0 := hwa.strs 0 hL0; rw [← HW0.out] at c0; clear hw1)
                      | (go_at_call 10; refine (can_ref _ _ L _ hwa.strs hwa.lt hL0 hLl HSZ.out).mono ?_; rintro e2 w2 ⟨rfl, hb2⟩; rw [HC.out]))
                    go_ret3
                    exact out_badS hs HB (belowStep (belowStep hbw hb1) hb2)
                  case neg =>
                    have HK := Lib.hid (left_cmd HL.out (drop_ne hlt) HLf.out HD.out hc (by omega))
                    have HC := Lib.hid hc; clear hc
                    have bm : ((acc.length : Int) == 200) = false := by rw [beq_eq_false_iff_ne]; omega
                    have hm2 : acc.length < 200 := by omega
                    clear hm
                    go_wp2_with (first
                      | (go_at_call 9; refine (words_any _ _ hXs).mono ?_; rintro e1 w1 ⟨v, rfl, hw1, hb1⟩; rw [← HLL.out] at hw1; obtain ⟨g, cap, rfl, hcap, hmax, hwa⟩ := own_words hw1 HNE.out; have c0 := hwa.strs 0 hL0; rw [← HW0.out] at c0; clear hw1)
                      | (go_at_call 10; refine (can_ref _ _ L _ hwa.strs hwa.lt hL0 hLl HSZ.out).mono ?_; rintro e2 w2 ⟨rfl, hb2⟩; rw [HC.out]; have c1 := (hwa.below hb2).strs 0 hL0; rw [← HW0.out] at c1))
                    have hown2 := own_below hown (hb1.trans (hb2.mono hb1.size))
                    have hsv2 := hsv.below (hb1.trans (hb2.mono hb1.size))
                    have hbw2 := belowStep (belowStep hbw hb1) hb2
                    have hwa2 := hwa.below hb2
                    have hsz2 := hbw2.size
                    clear hb1 hb2 hwa c0 hsv hown hbw
                    have b1L : (1 : Int) ≤ (L.length : Int) := by omega
                    go_region_law (refine step_append_own rfl (.tmp 59) (.tmp 67) 22 rfl w.heap.size 33 i0 (.agg #[.int .i64 0, .string ⟨#[]⟩, .slice none 0 0]) 3 48 Tryz.underlying22 hi hz0 hz1 hz2 rfl (by decide) _ _ _ (by simp [Act.eval]) (own_drew (hown2.alloc _)) ⟨w2.heap.size, 0, none⟩ 1 1 _ (by simp [Act.eval]) (by rfl) (news_three _ _ _ _) (by intro u hu; simp only [List.mem_cons, List.not_mem_nil, or_false] at hu; rcases hu with rfl | rfl | rfl <;> rfl) (by unfold maxLen; omega) (by omega) (by simp; omega) ?_; intro v' w3 hown' hgrow)
                    all_goals
                      go_wp2
                    all_goals
                      have hrl := rel_cmd hae hes hna hm2 hown2 hsv2 (args_of hwa2 hLl hcap) hbw2 hgrow (by rw [← HW0.out]; exact hown') HX HK
                      go_roundw
                      case rel => first | exact hrl | exact ⟨_, _, _, _, _, _, hrl, rfl, rfl, rfl, rfl, rfl, rfl⟩
                      case measure => simp [intOf]; omega
      · have E := Lib.hid (left_done (drop_all (s := s) (a := a) (by omega) ▸ HL.out))
        go_wp2
        go_ret3
        exact out_ok hs E.out ⟨xs, hown, hsv⟩ hacc hbw
end Go.Proofs.YtkmpbmlcmglmnaaGreatDoor
