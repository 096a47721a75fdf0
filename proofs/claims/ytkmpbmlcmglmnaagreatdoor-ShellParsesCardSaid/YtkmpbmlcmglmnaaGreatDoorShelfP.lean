/- What this proof asks of library functions, out of contracts that hold of every program. -/
import Derived.Test.YtkmpbmlcmglmnaaGreatDoorGround
import Derived.Test.YtkmpbmlcmglmnaaGreatDoorLiveM
import Derived.Test.YtkmpbmlcmglmnaaGreatDoorLays
import Derived.Test.YtkmpbmlcmglmnaaGreatDoorCodeA
import Derived.Shelf.Strings.SlTrimAscii
import Derived.Laws.Externs
set_option linter.all false
namespace Go.Proofs.YtkmpbmlcmglmnaaGreatDoor
open Go Go.RowKit
theorem trim_ok : TrimOk := fun s w hs =>
  Any.strings_Trim_laid Tryz.lays160 (by kernel_rfl) s ⟨#[48, 49, 50, 51, 52, 53, 54, 55, 56, 57, 97, 98, 99, 100, 101, 102]⟩ w (by omega) (by decide) (ascii_of_all (by decide))
theorem index_ok : IndexOk := fun c w => by
  refine (Any.strings_IndexByte Tryz.lays137 ⟨#[48, 49, 50, 51, 52, 53, 54, 55, 56, 57, 97, 98, 99, 100, 101, 102]⟩ (c.toNat : Nat) w).mono ?_
  rintro e w' ⟨rfl, rfl⟩
  refine ⟨?_, rfl⟩
  rw [show ((c.toNat : Nat) : Int).toNat.toUInt8 = c by simp]
  rfl
theorem below_drews (w : World) : ∀ n, Below w.heap.size w (w.drewN n)
  | 0 => Below.refl _ _
  | n + 1 => (below_drews w n).drew
theorem cut_ok : CutOk := fun s w hs hw => by
  obtain ⟨m, hm⟩ := hw
  refine (Any.strings_Cut Tryz.lays145 s ⟨#[10]⟩ m w (by omega) hm).mono ?_
  rintro e w' ⟨rfl, n, rfl⟩
  obtain ⟨h1, h2⟩ := cut_nl s.data.toList
  refine ⟨⟨(Lib.cut s.data.toList [10]).2.2, ?_⟩, below_drews w n⟩
  rw [← h1, ← h2]
theorem fields_ok : FieldsOk := fun s w hs => by
  have eg : ∀ args w, (callFunc 20 args).run Tryz.prog w = .ok (.enter 20 args) w := enters_of Tryz.func20 (by kernel_rfl) rfl
  refine (Any.strings_FieldsFunc_grows Tryz.lays229 20 #[] eg (· == 32) s w (by omega) ?_ (by kernel_rfl) (by kernel_rfl)).mono ?_
  · intro W x hx _
    refine (space_prog (x : Nat) W).mono ?_
    rintro e w' ⟨rfl, rfl⟩
    refine ⟨?_, Below.refl _ _⟩
    show Ending.returned (.bool (((x : Nat) : Int) == 32)) = Ending.returned (.bool (x == 32))
    by_cases h : x = 32
    · rw [h]; rfl
    · rw [beq_eq_false_iff_ne.2 h, beq_eq_false_iff_ne.2 (show ((x : Nat) : Int) ≠ 32 by omega)]
  · rintro e w' ⟨A, rfl, _, ho, hb⟩
    rw [goFields_eq] at ho ⊢
    exact ⟨A, rfl, ho, hb⟩
theorem mul_ok : MulOk := fun x y w hx hy => Any.bits_Mul64 Tryz.lays264 x y hx hy w
theorem add_ok : AddOk := fun x y c hx hy hc w => by
  unfold b64 at hx hy
  rw [run_callFunc_extern Tryz.func103 (by kernel_rfl) (by kernel_rfl) (by kernel_rfl) (e := add64Entry) (by kernel_rfl), run_add64 x y c (by omega) (by omega) (by omega) (by omega)]
  simp only [Result.andThen]
  congr 5 <;> omega
theorem string_ok : StringOk := fun B b l w h h0 => Any.Builder_String Tryz.lays169 Tryz.Builder_Extra_169 B b l w h h0
theorem itoa_ok : ItoaOk := by
  refine ⟨fun w => ?_, fun w => ?_, fun w => ?_⟩
  · refine (Any.strconv_Itoa_small Tryz.lays171 1 (by omega) w).mono ?_
    rintro e w' ⟨rfl, rfl⟩
    exact ⟨by rw [show Lib.decDigits 1 = [49] by simp [Lib.decDigits]], rfl⟩
  · refine (Any.strconv_Itoa_small Tryz.lays171 2 (by omega) w).mono ?_
    rintro e w' ⟨rfl, rfl⟩
    exact ⟨by rw [show Lib.decDigits 2 = [50] by simp [Lib.decDigits]], rfl⟩
  · refine (Any.strconv_Itoa_small Tryz.lays171 3 (by omega) w).mono ?_
    rintro e w' ⟨rfl, rfl⟩
    exact ⟨by rw [show Lib.decDigits 3 = [51] by simp [Lib.decDigits]], rfl⟩
end Go.Proofs.YtkmpbmlcmglmnaaGreatDoor
