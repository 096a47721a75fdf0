/- The rows are plain: the first names. -/
import Derived.Test.YtkmpbmlcmglmnaaGreatDoorKnot
set_option linter.all false
namespace Go.Proofs.YtkmpbmlcmglmnaaGreatDoor
open Go
/-- What is laid by a list of names, out of what its two parts lay. -/
theorem laidRun_app (P : Program) (w : World) (fuel : Nat) : ∀ (a b : List String) (x : List (String × DataW Unit) × List MemPlace), DataW.laidRun P w fuel (a ++ b) = some x →
    ∃ y z, DataW.laidRun P w fuel a = some y ∧ DataW.laidRun P w fuel b = some z ∧ x.2 = y.2 ++ z.2
  | [], b, x, h => ⟨([], []), x, rfl, h, rfl⟩
  | n :: a, b, x, h => by
    simp only [List.cons_append, DataW.laidRun] at h ⊢
    split at h
    · split at h
      · split at h
        · rename_i u v hu hv
          obtain ⟨y, z, hy, hz, e⟩ := laidRun_app P w fuel a b v hv
          simp only [Option.some.injEq] at h
          subst h
          rw [hu, hy]
          exact ⟨_, z, rfl, hz, by simp [e]⟩
        · cases h
      · cases h
    · cases h
theorem rows_app {P : Program} {w : World} {fuel : Nat} {a b : List String} (ha : (DataW.laidRun P w fuel a).map (fun x => laidRowsB P w x.2) = some true) (hb : (DataW.laidRun P w fuel b).map (fun x => laidRowsB P w x.2) = some true)
    {x : List (String × DataW Unit) × List MemPlace} (h : DataW.laidRun P w fuel (a ++ b) = some x) : laidRowsB P w x.2 = true := by
  obtain ⟨y, z, hy, hz, e⟩ := laidRun_app P w fuel a b x h
  rw [hy] at ha
  rw [hz] at hb
  simp only [Option.map_some, Option.some.injEq] at ha hb
  rw [e]
  unfold laidRowsB at ha hb ⊢
  rw [List.all_append, ha, hb]; rfl
theorem names_parts : tied.map (·.1) = ((tied.take 9).map (·.1) ++ ((tied.drop 9).take 5).map (·.1)) ++ (tied.drop 14).map (·.1) := by kernel_rfl
theorem rows_one : ∀ os tape, (DataW.laidRun Tryz.prog (varsWorld Tryz.prog 400 (varsId Tryz.prog) os tape).memory 8 ((tied.take 9).map (·.1))).map (fun x => laidRowsB Tryz.prog (varsWorld Tryz.prog 400 (varsId Tryz.prog) os tape).memory x.2) = some true := fun _ _ => by kernel_rfl
end Go.Proofs.YtkmpbmlcmglmnaaGreatDoor
