/- No place is met twice. -/
import Derived.Test.YtkmpbmlcmglmnaaGreatDoorKnot
set_option linter.all false
namespace Go.Proofs.YtkmpbmlcmglmnaaGreatDoor
open Go
/-- Numbers that come in rows of step two, each row apart from the rows before it. -/
def chunkB : Nat → Nat → List (Nat × Nat) → List Nat → Bool
  | _, _, _, [] => true
  | lo, hi, acc, c :: t =>
    (acc.all fun p => Nat.blt c p.1 || Nat.blt p.2 c) &&
      (match Nat.beq c (hi + 2) with
        | true => chunkB lo c acc t
        | false => (Nat.blt c lo || Nat.blt hi c) && chunkB c c ((lo, hi) :: acc) t)
def apartB : List Nat → Bool
  | [] => true
  | c :: t => chunkB c c [] t
theorem blt_iff {a b : Nat} : Nat.blt a b = true ↔ a < b := by simp [Nat.blt, Nat.ble_eq]; omega
theorem chunk_apart : ∀ (l : List Nat) (lo hi : Nat) (acc : List (Nat × Nat)), lo ≤ hi → chunkB lo hi acc l = true → l.Nodup ∧ ∀ x ∈ l, ¬ (lo ≤ x ∧ x ≤ hi) ∧ ∀ p ∈ acc, ¬ (p.1 ≤ x ∧ x ≤ p.2)
  | [], _, _, _, _, _ => ⟨List.nodup_nil, fun x hx => by cases hx⟩
  | c :: t, lo, hi, acc, hlo, h => by
    simp only [chunkB, Bool.and_eq_true] at h
    obtain ⟨h1, h2⟩ := h
    have hacc : ∀ p ∈ acc, ¬ (p.1 ≤ c ∧ c ≤ p.2) := fun p hp => by
      have := List.all_eq_true.1 h1 p hp
      simp only [Bool.or_eq_true, blt_iff] at this
      omega
    cases hb : Nat.beq c (hi + 2) with
    | true =>
      rw [hb] at h2
      have e := Nat.eq_of_beq_eq_true hb
      obtain ⟨i1, i2⟩ := chunk_apart t lo c acc (by omega) h2
      refine ⟨List.nodup_cons.2 ⟨fun hc => (i2 c hc).1 ⟨by omega, Nat.le_refl _⟩, i1⟩, fun x hx => ?_⟩
      rcases List.mem_cons.1 hx with rfl | hx
      · exact ⟨by omega, hacc⟩
      · have := i2 x hx
        exact ⟨fun hh => this.1 ⟨hh.1, by omega⟩, this.2⟩
    | false =>
      rw [hb] at h2
      simp only [Bool.and_eq_true, Bool.or_eq_true, blt_iff] at h2
      obtain ⟨h3, h4⟩ := h2
      obtain ⟨i1, i2⟩ := chunk_apart t c c ((lo, hi) :: acc) (Nat.le_refl _) h4
      refine ⟨List.nodup_cons.2 ⟨fun hc => (i2 c hc).1 ⟨Nat.le_refl _, Nat.le_refl _⟩, i1⟩, fun x hx => ?_⟩
      rcases List.mem_cons.1 hx with rfl | hx
      · exact ⟨by omega, hacc⟩
      · have := i2 x hx
        exact ⟨this.2 (lo, hi) (List.mem_cons_self ..), fun p hp => this.2 p (List.mem_cons_of_mem _ hp)⟩
theorem apart_nodup : ∀ {l : List Nat}, apartB l = true → l.Nodup
  | [], _ => List.nodup_nil
  | c :: t, h => by
    obtain ⟨i1, i2⟩ := chunk_apart t c c [] (Nat.le_refl _) h
    exact List.nodup_cons.2 ⟨fun hc => (i2 c hc).1 ⟨Nat.le_refl _, Nat.le_refl _⟩, i1⟩
theorem apart_places {ps : List MemPlace} (h : apartB (ps.map MemPlace.codeOf) = true) : ps.Nodup :=
  List.Pairwise.of_map MemPlace.codeOf (fun _ _ apart same => apart (congrArg MemPlace.codeOf same)) (apart_nodup h)
theorem knot_apart : ∀ os tape, (DataW.laidRun Tryz.prog (varsWorld Tryz.prog 400 (varsId Tryz.prog) os tape).memory 8 (tied.map (·.1))).map (fun x => apartB (x.2.map MemPlace.codeOf)) = some true := fun _ _ => by kernel_rfl
end Go.Proofs.YtkmpbmlcmglmnaaGreatDoor
