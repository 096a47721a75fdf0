/- The law: which commands a script of any text has, or which of its lines can't be. -/
import Derived.Test.YtkmpbmlcmglmnaaGreatDoorLiveN
import Derived.Test.YtkmpbmlcmglmnaaGreatDoorRefH
import Derived.Test.YtkmpbmlcmglmnaaGreatDoorLaw
import Derived.Test.YtkmpbmlcmglmnaaGreatDoorShelfB
import Derived.Test.YtkmpbmlcmglmnaaGreatDoorShelfP
set_option linter.all false
namespace Go.Proofs.YtkmpbmlcmglmnaaGreatDoor
open Go Go.RowKit
theorem parse_full (s : ByteArray) : ∃ (n f : Int) (l : List Cmd), l.length ≤ 200 ∧ ∀ w e w', ParseOut s w e w' → ∃ v, e = .returned (.tuple #[v, .int .i64 n, .int .i64 f]) ∧ Says w' w.heap.size v l ∧ Below w.heap.size w w' := by
  by_cases hb : 65536 < s.size
  · exact ⟨0, 2, [], by simp, fun w e w' h => ⟨_, h.1 hb, Says.nil _ _, h.2.2.2⟩⟩
  · cases hp : parseS s with
    | bad n => exact ⟨n, 290, [], by simp, fun w e w' h => ⟨_, h.2.1 (by omega) n hp, Says.nil _ _, h.2.2.2⟩⟩
    | ok l =>
      by_cases hl : l.length ≤ 200
      · exact ⟨0, 0, l, hl, fun w e w' h => by
          obtain ⟨v, he, hs, _⟩ := h.2.2.1 (by omega) l hp
          exact ⟨v, he, hs, h.2.2.2⟩⟩
      · exact ⟨0, 0, [], by simp, fun w e w' h => by
          obtain ⟨v, he, hs, h2⟩ := h.2.2.1 (by omega) l hp
          exact absurd h2 hl⟩
set_option maxRecDepth 100000 in
set_option maxHeartbeats 1000000 in
theorem law_true (s : ByteArray) (w : World) (hw : HasLen w) :
    Calls Tryz.prog 3 #[.string s] w fun e w' => e = .returned (.bool true) ∧ Below w.heap.size w w' := by
  obtain ⟨n, f, l, hl, hP⟩ := parse_full s
  have HP := Lib.hid hP; clear hP
  go_enter Tryz.func3, Tryz.ntmps3
  go_wp2_with (first
    | (go_at_call 4; refine (parse_prog cut_ok fields_ok trim_ok index_ok mul_ok add_ok s w hw).mono ?_; intro e1 w1 hp; obtain ⟨v, rfl, hs1, hb1⟩ := HP.out _ _ _ hp; clear hp)
    | (go_at_call 5; refine (parse_ref s w1).mono ?_; intro e2 w2 hp; obtain ⟨u, rfl, hs2, hb2⟩ := HP.out _ _ _ hp; clear hp)
    | (go_at_call 6; refine (same_true v u l _ _ w2 hl (hs1.below hb2) hs2).mono ?_; rintro e3 w3 ⟨rfl, hb3⟩; have hbA := (hb1.trans (hb2.mono hb1.size)).trans (hb3.mono (Nat.le_trans hb1.size hb2.size)))
    | (go_at_call 7; refine (lives_true cut_ok fields_ok trim_ok index_ok mul_ok add_ok wbyte_ok string_ok check_ok itoa_ok w3 (hw.below hbA)).mono ?_; rintro e4 w4 ⟨rfl, hb4⟩))
  go_ret
  exact ⟨rfl, hbA.trans (hb4.mono hbA.size)⟩
end Go.Proofs.YtkmpbmlcmglmnaaGreatDoor
