/- Whatever the script's text: the two readers agree on which commands it has or on which of its lines can't be: the card of bailiwicklaw29.ShellParses. Conditions: the package-level variables that the row lists start as the program's text lays them (tied to that text here). -/
import Derived.Test.YtkmpbmlcmglmnaaGreatDoorRow
import Derived.Test.YtkmpbmlcmglmnaaGreatDoorTied
import Derived.Test.YtkmpbmlcmglmnaaGreatDoorCardF
import Derived.Test.YtkmpbmlcmglmnaaGreatDoorCards
set_option linter.all false
namespace Go.Proofs.YtkmpbmlcmglmnaaGreatDoor
open Go
theorem shellParses_card : Rows.ShellParsesCardSaid :=
  Claim7.holds_tied_plain_at .later [] [.pinned, .data, .data, .data, .data, .data, .data, .data, .data, .data, .data, .data, .data, .data, .data, .data, .listed, .data, .data] true (true, "c96609625aed1b4591597e33fe63defd2f4edcf1a00ae91b9ef6bd8c5e4ca2fc") true
    over (fun _ h => by cases h) card_wf (fun _ h => by cases h) shellParses_row_tie rfl ⟨rfl, rfl⟩ card_main rfl
    (fun f fn hf hfn => by
      obtain rfl : f = 3 := Option.some.inj (row_named.symm.trans hf) |>.symm
      obtain rfl : fn = Tryz.f3 := (Option.some.inj (Tryz.func3.symm.trans hfn)).symm
      exact ⟨card_looks, fun j t ht => by
        rw [Tryz.params3] at ht
        have h3 : t = 9 := by
          rcases j with _ | j
          · simpa using ht.symm
          · simp at ht
        subst h3
        exact card_stand⟩)
    card_goes
#print axioms shellParses_card
end Go.Proofs.YtkmpbmlcmglmnaaGreatDoor
