/- The bytes of a word of two digits. -/
import Derived.Test.YtkmpbmlcmglmnaaGreatDoorLiveC
set_option linter.all false
namespace Go.Proofs.YtkmpbmlcmglmnaaGreatDoor
open Go Go.RowKit
set_option maxRecDepth 100000 in
set_option maxHeartbeats 2000000 in
theorem bytes_two (hT : TrimOk) (hI : IndexOk) (c d : UInt8) (h : (c = 49 ∧ d = 97) ∨ (c = 50 ∧ d = 98)) (w : World) :
    Calls Tryz.prog 34 #[.string ⟨#[54, c]⟩] w fun e w' => ∃ v, e = .returned (.tuple #[v, .bool true]) ∧ w'.ownsRow w.heap.size 5 1 v 1 [.int .u8 (d.toNat : Int)] ∧ Below w.heap.size w w' := by
  have HT := Lib.hid hT; have HI := Lib.hid hI; clear hT hI
  obtain ⟨i0, hi, hz0, hz1, hz2⟩ := info_parts infoU8
  rcases h with ⟨rfl, rfl⟩ | ⟨rfl, rfl⟩
  case inl =>
    have et : Lib.trimS (⟨#[54, 49]⟩ : ByteArray).data.toList hexesL = [] := by decide +kernel
    have ei : Lib.indexByte hexesL 54 = 6 := by decide +kernel
    have ej : Lib.indexByte hexesL 49 = 1 := by decide +kernel
    have ET := Lib.hid et; have EI := Lib.hid ei; have EJ := Lib.hid ej; clear et ei ej
    go_enter Tryz.func34, Tryz.ntmps34
    go_wp2_with (go_at_call 50; refine (HT.out _ _ (by decide)).mono ?_; rintro e w1 ⟨rfl, hb1⟩; rw [ET.out])
    have q1 : IntKind.i64.wrap 1 = 1 := rfl
    have q96 : IntKind.i64.wrap 96 = 96 := rfl
    have qor : bits .or .i64 96 1 = 97 := rfl
    have qu : IntKind.u8.wrap 97 = 97 := rfl
    have hs1 := hb1.size
    have hown := World.ownsRow_nil w1 w.heap.size 5 1
    refine wp_loop_rounds 2 ?_
    rw [rounds_succ]
    go_wp2_with fail
    go_region_law (first
      | (go_simp; go_at_call 51; first | (refine (HI.out 54 _).mono ?_; rintro e w' ⟨rfl, rfl⟩; rw [EI.out]) | (refine (HI.out 49 _).mono ?_; rintro e w' ⟨rfl, rfl⟩; rw [EJ.out]))
      | (refine step_append_own rfl (.tmp 32) (.tmp 45) 47 rfl w.heap.size 5 i0 (.int .u8 0) 1 1 Tryz.underlying47 hi hz0 hz1 hz2 rfl (by decide) _ _ _ (by simp [Act.eval]) (own_drew (hown.alloc _)) ⟨_, 0, none⟩ 1 1 [.int .u8 97] (by simp [Act.eval]) rfl (news_box_drew _ _ _) (by intro u hu; simp at hu; subst hu; rfl) (by unfold maxLen; omega) (by omega) (by simp; omega) ?_; intro v' w2 hown' hgrow))
    all_goals
      have hb2 : Below w.heap.size w w2 := by first | exact ((hb1.alloc (by omega) _).drew).grown hgrow (by simp; omega) (fun k hk => by simp [Value.ownBlock] at hk) | exact (((hb1.drew).alloc (by simp; omega) _).drew).grown hgrow (by simp; omega) (fun k hk => by simp [Value.ownBlock] at hk)
      obtain ⟨oa, oc, rfl⟩ := own_slice hown'
      go_wp2
      rw [rounds_succ]
      go_wp2
      go_ret2
      exact ⟨_, rfl, by simpa using hown', hb2⟩
  case inr =>
    have et : Lib.trimS (⟨#[54, 50]⟩ : ByteArray).data.toList hexesL = [] := by decide +kernel
    have ei : Lib.indexByte hexesL 54 = 6 := by decide +kernel
    have ej : Lib.indexByte hexesL 50 = 2 := by decide +kernel
    have ET := Lib.hid et; have EI := Lib.hid ei; have EJ := Lib.hid ej; clear et ei ej
    go_enter Tryz.func34, Tryz.ntmps34
    go_wp2_with (go_at_call 50; refine (HT.out _ _ (by decide)).mono ?_; rintro e w1 ⟨rfl, hb1⟩; rw [ET.out])
    have q1 : IntKind.i64.wrap 1 = 1 := rfl
    have q96 : IntKind.i64.wrap 96 = 96 := rfl
    have qor : bits .or .i64 96 2 = 98 := rfl
    have qu : IntKind.u8.wrap 98 = 98 := rfl
    have hs1 := hb1.size
    have hown := World.ownsRow_nil w1 w.heap.size 5 1
    refine wp_loop_rounds 2 ?_
    rw [rounds_succ]
    go_wp2_with fail
    go_region_law (first
      | (go_simp; go_at_call 51; first | (refine (HI.out 54 _).mono ?_; rintro e w' ⟨rfl, rfl⟩; rw [EI.out]) | (refine (HI.out 50 _).mono ?_; rintro e w' ⟨rfl, rfl⟩; rw [EJ.out]))
      | (refine step_append_own rfl (.tmp 32) (.tmp 45) 47 rfl w.heap.size 5 i0 (.int .u8 0) 1 1 Tryz.underlying47 hi hz0 hz1 hz2 rfl (by decide) _ _ _ (by simp [Act.eval]) (own_drew (hown.alloc _)) ⟨_, 0, none⟩ 1 1 [.int .u8 98] (by simp [Act.eval]) rfl (news_box_drew _ _ _) (by intro u hu; simp at hu; subst hu; rfl) (by unfold maxLen; omega) (by omega) (by simp; omega) ?_; intro v' w2 hown' hgrow))
    all_goals
      have hb2 : Below w.heap.size w w2 := by first | exact ((hb1.alloc (by omega) _).drew).grown hgrow (by simp; omega) (fun k hk => by simp [Value.ownBlock] at hk) | exact (((hb1.drew).alloc (by simp; omega) _).drew).grown hgrow (by simp; omega) (fun k hk => by simp [Value.ownBlock] at hk)
      obtain ⟨oa, oc, rfl⟩ := own_slice hown'
      go_wp2
      rw [rounds_succ]
      go_wp2
      go_ret2
      exact ⟨_, rfl, by simpa using hown', hb2⟩
end Go.Proofs.YtkmpbmlcmglmnaaGreatDoor
