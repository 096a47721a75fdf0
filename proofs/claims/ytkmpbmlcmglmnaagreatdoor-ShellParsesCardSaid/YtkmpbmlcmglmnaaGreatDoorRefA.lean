/- The reference's reader of scripts: what its small functions answer. -/
import Derived.Test.YtkmpbmlcmglmnaaGreatDoorGround
set_option linter.all false
namespace Go.Proofs.YtkmpbmlcmglmnaaGreatDoor
open Go Go.RowKit
set_option maxHeartbeats 400000 in
theorem digit_any (c : Int) (w : World) (h0 : 0 ≤ c) (h1 : c < 256) :
    Calls Tryz.prog 26 #[.int .u8 c] w fun e w' => e = .returned (.int .i64 (dig c)) ∧ w' = w := by
  go_enter Tryz.func26, Tryz.ntmps26
  go_wp2
  all_goals
    go_ret
    refine ⟨ret_int ?_, rfl⟩
    unfold dig
    (repeat' split) <;> omega

set_option maxRecDepth 100000 in
set_option maxHeartbeats 400000 in
theorem words_any (s : ByteArray) (w : World) (hs : s.size ≤ 65536) :
    Calls Tryz.prog 9 #[.string s] w fun e w' => ∃ v, e = .returned v ∧ w'.ownsRow w.heap.size 9 1 v (fields s).length ((fields s).map Value.string) ∧ Below w.heap.size w w' := by
  obtain ⟨i0, hi, hz0, hz1, hz2⟩ := info_parts infoStr
  go_enter Tryz.func9, Tryz.ntmps9
  go_wp2
  go_loopw [3, 4, 5] (fun l fr i wr => ∃ (k f : Nat) (L : List ByteArray), k ≤ s.size + 1 ∧ i = .int .i64 k ∧ fr = .int .i64 f ∧ Hid (wordsTo s k = (L, f)) ∧ f ≤ k ∧ wr.ownsRow w.heap.size 9 1 l L.length (L.map Value.string) ∧ L.length ≤ k ∧ Below w.heap.size w wr)
    (fun _ _ i _ => s.size + 1 - (intOf i).toNat)
  case atStart => exact ⟨0, 0, [], by omega, rfl, rfl, Lib.hid rfl, by omega, World.ownsRow_made _ _ _ (Nat.le_refl _) (by simp [maxLen]) (by simp), by simp, (Below.refl _ _).alloc (Nat.le_refl _) _⟩
  case round =>
    obtain ⟨k, f, L, hk, rfl, rfl, HW, hf, hown, hlen, hb⟩ := hrel
    by_cases hlt : k ≤ s.size
    · have hbs := hb.size
      rcases isSep_cases s k hlt with ⟨e1, hsep⟩ | ⟨hl2, e1, e2, hsep⟩ | ⟨hl2, e1, e2, hsep⟩
      case inr.inr =>
        have HS := Lib.hid hsep; clear hsep
        go_wp2
        go_roundw
        case rel => exact ⟨k + 1, f, L, by omega, by go_num, by go_num, Lib.hid (by rw [wordsTo_on s k HS.out, HW.out]), by omega, hown, by omega, hb⟩
        case measure => simp [intOf]; omega
      all_goals
        have HS := Lib.hid hsep; clear hsep
        by_cases hfk : f < k
        · go_wp2_with (at_builtin; refine wpList_append_own _ rfl _ _ 29 rfl w.heap.size 9 i0 (.string ⟨#[]⟩) 1 16 Tryz.underlying29 hi hz0 hz1 hz2 rfl (by decide) _ _ _ rfl (hown.alloc _) ⟨wr.heap.size, 0, none⟩ 1 1 [.string (s.extract f k)] rfl rfl ?c1 ?c2 ?c3 ?c4 ?c5 ?_)
          case c1 =>
            intro j u hj
            match j, hj with
            | 0, hj => simp at hj; subst hj; simp [Addr.add]
          case c2 => intro u hu; simp at hu; subst hu; rfl
          case c3 => unfold maxLen; omega
          case c4 => omega
          case c5 => simp; omega
          intro v' w1 hown' hgrow _
          have hb1 : Below w.heap.size w w1 := (hb.alloc hbs _).grown hgrow (by simp; omega) (fun k hk => (hown.lt k hk).1)
          go_wp2
          go_roundw
          case rel => exact ⟨k + 1, k + 1, L ++ [s.extract f k], by omega, by go_num, by go_num, Lib.hid (by rw [wordsTo_word s k HS.out (by rw [HW.out]; exact hfk), HW.out]), by omega, by simpa using hown', by simp; omega, hb1⟩
          case measure => simp [intOf]; omega
        · go_wp2
          go_roundw
          case rel => exact ⟨k + 1, k + 1, L, by omega, by go_num, by go_num, Lib.hid (by rw [wordsTo_none s k HS.out (by rw [HW.out]; exact hfk), HW.out]), by omega, hown, by omega, hb⟩
          case measure => simp [intOf]; omega
    · go_wp2
      go_ret
      obtain rfl : k = s.size + 1 := by omega
      have e : fields s = L := by unfold fields; rw [HW.out]
      rw [e]
      exact ⟨_, rfl, hown, hb⟩

set_option maxHeartbeats 800000 in
theorem shape_ref (s : ByteArray) (w : World) :
    Calls Tryz.prog 14 #[.string s] w fun e w' => e = .returned (.tuple #[.string (shStr s), .bool (shOk s)]) ∧ w = w' := by
  go_enter Tryz.func14, Tryz.ntmps14
  go_wp2
  all_goals
    go_ret2
    refine ⟨?_, rfl⟩
    first
      | (simp [shStr, shOk, shKinds, shapeOf, shapes, List.lookup, *]; done)
      | (exfalso; simp_all; done)
end Go.Proofs.YtkmpbmlcmglmnaaGreatDoor
