/- One start that fits the row, with the listed variables laid: no conditions. -/
import Derived.Test.YtkmpbmlcmglmnaaGreatDoorRows
import Derived.Lay
import Derived.ProofKit
set_option linter.all false

namespace Go.Proofs.YtkmpbmlcmglmnaaGreatDoor
open Go
theorem wit_fits (os : Os) : (World.holding Tryz.prog os ⟨#[], #[], []⟩).layFits Tryz.prog Rows.shellParsesRow.laid [] = true := by kernel_rfl
end Go.Proofs.YtkmpbmlcmglmnaaGreatDoor

namespace Go.Proofs.YtkmpbmlcmglmnaaGreatDoor
open Go
theorem wit_ifaces (os : Os) : (World.holding Tryz.prog os ⟨#[], #[], []⟩).layIfaces Tryz.prog Rows.shellParsesRow.laid (World.laidAll Tryz.prog os Rows.shellParsesRow.laid) = true := by kernel_rfl
end Go.Proofs.YtkmpbmlcmglmnaaGreatDoor

namespace Go.Proofs.YtkmpbmlcmglmnaaGreatDoor
open Go
theorem wit_shaped (os : Os) : ((World.laidAll Tryz.prog os Rows.shellParsesRow.laid).forCall (fun _ _ => 0) ⟨#[], #[.string ByteArray.empty], []⟩).Shaped Tryz.prog := World.shaped_of_ZipB (by kernel_rfl) (by kernel_rfl)
end Go.Proofs.YtkmpbmlcmglmnaaGreatDoor

namespace Go.Proofs.YtkmpbmlcmglmnaaGreatDoor
open Go
theorem wit_okay (os : Os) : Input.okWideB Tryz.prog ((World.laidAll Tryz.prog os Rows.shellParsesRow.laid).forCall (fun _ _ => 0) ⟨#[], #[.string ByteArray.empty], []⟩) 3 ⟨#[], #[.string ByteArray.empty], []⟩ = true := by kernel_rfl
theorem wit_pre (os : Os) (H : Type) (enc : TypeId × Value → H) : Rows.shellParsesSpec.preB enc Tryz.prog Tryz.f3 [] false ((World.laidAll Tryz.prog os Rows.shellParsesRow.laid).forCall (fun _ _ => 0) ⟨#[], #[.string ByteArray.empty], []⟩).memory #[.string ByteArray.empty] 8 = true := by kernel_rfl
theorem wit_sized (os : Os) (H : Type) (enc : TypeId × Value → H) : Rows.shellParsesSpec.sizedB enc Tryz.prog Tryz.f3 false ((World.laidAll Tryz.prog os Rows.shellParsesRow.laid).forCall (fun _ _ => 0) ⟨#[], #[.string ByteArray.empty], []⟩).memory #[.string ByteArray.empty] 8 = true := by kernel_rfl
theorem wit_plain : (Rows.shellParsesRow.laid.all fun x => x.2.handleName?.isNone) = true := by kernel_rfl
end Go.Proofs.YtkmpbmlcmglmnaaGreatDoor
