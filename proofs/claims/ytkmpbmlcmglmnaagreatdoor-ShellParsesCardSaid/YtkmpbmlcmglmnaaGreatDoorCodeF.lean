/- The program tells whether a word is of a kind. -/
import Derived.Test.YtkmpbmlcmglmnaaGreatDoorCodeB
import Derived.Test.YtkmpbmlcmglmnaaGreatDoorCodeE
set_option linter.all false
namespace Go.Proofs.YtkmpbmlcmglmnaaGreatDoor
open Go Go.RowKit
theorem fit_h {x : ByteArray} : hexOk x = fitsK 72 x := by simp [fitsK]
theorem fit_n {x : ByteArray} : (numErr x == 0) = fitsK 78 x := by simp [fitsK]
theorem fit_w {x : ByteArray} : decide ((x.size : Int) ≤ 16) = fitsK 87 x := by
  have e : fitsK 87 x = decide (x.size ≤ 16) := rfl
  rw [e, decide_eq_decide]; omega
theorem int_eq (n m : Nat) : ((n : Int) == (m : Int)) = (n == m) := by rw [Bool.eq_iff_iff]; simp only [beq_iff_eq]; omega
theorem fit_a {x : ByteArray} {n : Nat} (h : hexOk x = true) (hn : hexOk x = true → n = hexLen x) : ((n : Int) == 20) = fitsK 65 x := by
  have e := int_eq n 20
  simp only [fitsK, h, hn h] at e ⊢
  simpa using e
theorem fit_a' {x : ByteArray} (h : ¬ hexOk x = true) : false = fitsK 65 x := by
  have : hexOk x = false := by simpa using h
  simp [fitsK, this]
theorem fit_k {x : ByteArray} {n : Nat} (h : hexOk x = true) (hn : hexOk x = true → n = hexLen x) : ((n : Int) == 32) = fitsK 75 x := by
  have e := int_eq n 32
  simp only [fitsK, h, hn h] at e ⊢
  simpa using e
theorem fit_k' {x : ByteArray} (h : ¬ hexOk x = true) : false = fitsK 75 x := by
  have : hexOk x = false := by simpa using h
  simp [fitsK, this]
def FitOut (k : Nat) (x : ByteArray) (w : World) (e : Ending) (w' : World) : Prop := e = .returned (.bool (fitsK k x)) ∧ Below w.heap.size w w'
set_option maxRecDepth 100000 in
set_option maxHeartbeats 1000000 in
theorem fits_prog (hT : TrimOk) (hI : IndexOk) (hM : MulOk) (hA : AddOk) (k : Nat) (x : ByteArray) (w : World) (hx : x.size ≤ 65536) (hk : k = 72 ∨ k = 78 ∨ k = 65 ∨ k = 87 ∨ k = 75) :
    Calls Tryz.prog 22 #[.int .u8 k, .string x] w (FitOut k x w) := by
  have HT := Lib.hid hT; have HI := Lib.hid hI; have HM := Lib.hid hM; have HA := Lib.hid hA; clear hT hI hM hA
  go_enter Tryz.func22, Tryz.ntmps22
  rcases hk with rfl | rfl | rfl | rfl | rfl
  all_goals
    go_wp2_with (first
      | (go_at_call 34; refine (bytes_prog HT.out HI.out _ _ hx).mono ?_; rintro e w1 ⟨oa, on, oc, rfl, hon, hb1⟩; have HON := Lib.hid hon; clear hon)
      | (go_at_call 35; refine (num_prog HM.out HA.out _ _).mono ?_; rintro e w2 ⟨a0, a1, a2, a3, rfl, hb2⟩))
    all_goals
      go_ret
      refine ⟨ret_bool ?_, ?_⟩
      · first
          | exact fit_h | exact fit_n | exact fit_w
          | exact fit_a (by assumption) HON.out | exact fit_a' (by assumption)
          | exact fit_k (by assumption) HON.out | exact fit_k' (by assumption)
      · first
          | exact hb1
          | exact (belowStep hb1 hb2).alloc (belowStep hb1 hb2).size _
end Go.Proofs.YtkmpbmlcmglmnaaGreatDoor
