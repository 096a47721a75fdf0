/- The law's own: two lists of commands are the same. -/
import Derived.Test.YtkmpbmlcmglmnaaGreatDoorGround
import Derived.WalkSmall
set_option linter.all false
namespace Go.Proofs.YtkmpbmlcmglmnaaGreatDoor
open Go Go.RowKit
/-- cells of a list of commands. -/
theorem says_cells {w : World} {base : Nat} {v : Value} {l : List Cmd} (h : Says w base v l) :
    ∃ (a : Option Addr) (cap : Nat), v = .slice a l.length cap ∧ ∀ k, (hk : k < l.length) → ∃ (B A : Nat) (x : Option Addr) (cp : Nat), a = some ⟨B, 0, none⟩ ∧
      w.cell? ⟨B, 3 * k, none⟩ = some (.int .i64 l[k].1) ∧ w.cell? ⟨B, 3 * k + 1, none⟩ = some (.string (l[k].2.getD 0 ByteArray.empty)) ∧
      w.cell? ⟨B, 3 * k + 2, none⟩ = some (.slice x (l[k].2.length - 1) cp) ∧ (2 ≤ l[k].2.length → x = some ⟨A, 1, none⟩) ∧ l[k].2.length ≤ 65537 ∧ WordsAt w A l[k].2 := by
  obtain ⟨xs, h1, h2⟩ := h
  rcases h1.2 with ⟨rfl, hn⟩ | ⟨g, cap, cur, rfl, _, hg, hc, _, _, ht⟩
  · exact ⟨none, 0, by rw [hn], fun k hk => by omega⟩
  · refine ⟨some ⟨g, 0, none⟩, cap, rfl, fun k hk => ?_⟩
    obtain ⟨a, b, u, c, A, x, cp, rfl, d, en, e⟩ := h2 k hk
    have at_ : ∀ j y, j < 3 * l.length → xs[j]? = some y → w.cell? ⟨g, j, none⟩ = some y := by
      intro j y hj hy
      rw [cell_of_row w g j cur _ _ hg]
      rw [← ht, List.getElem?_take, if_pos (by omega)] at hy
      simpa using hy
    exact ⟨g, A, x, cp, rfl, at_ _ _ (by omega) a, at_ _ _ (by omega) b, at_ _ _ (by omega) c, d, en, e⟩
theorem cell_kept2 {w wr : World} (hb : Below w.heap.size w wr) {p : Addr} {v : Value} (h : w.cell? p = some v) : wr.cell? p = some v := (hb.cell (p := p) (World.block_lt_of_cell? w p h)).trans h
def SameRel (w : World) (n : Nat) (i : Value) (wr : World) : Prop := ∃ k : Nat, k ≤ n ∧ i = .int .i64 k ∧ Below w.heap.size w wr
set_option maxRecDepth 100000 in
set_option maxHeartbeats 1000000 in
theorem same_true (v u : Value) (l : List Cmd) (b1 b2 : Nat) (w : World) (hl : l.length ≤ 200) (hv : Says w b1 v l) (hu : Says w b2 u l) :
    Calls Tryz.prog 6 #[v, u] w fun e w' => e = .returned (.bool true) ∧ Below w.heap.size w w' := by
  obtain ⟨a, ca, rfl, HA⟩ := says_cells hv
  obtain ⟨b, cb, rfl, HB⟩ := says_cells hu
  have HA := Lib.hid HA; have HB := Lib.hid HB
  go_enter Tryz.func6, Tryz.ntmps6
  go_wp2
  go_loopw [5] (SameRel w l.length) (fun i _ => l.length - (intOf i).toNat)
  case atStart => exact ⟨0, Nat.zero_le _, rfl, Below.refl _ _⟩
  case round =>
    obtain ⟨k, hk, rfl, hbw⟩ := hrel
    by_cases hlt : k < l.length
    · obtain ⟨B, A, x, cp, ea, c0, c1, c2, hx, hLn, hw⟩ := HA.out k hlt
      obtain ⟨B2, A2, x2, cp2, eb, d0, d1, d2, hx2, _, hw2⟩ := HB.out k hlt
      obtain ⟨n1, h1⟩ : ∃ n, n = l[k].1 := ⟨_, rfl⟩
      obtain ⟨L, h2⟩ : ∃ L, L = l[k].2 := ⟨_, rfl⟩
      rw [← h1] at c0 d0
      rw [← h2] at c1 c2 d1 d2 hx hw hx2 hw2 hLn
      have hm6 : L.length - 1 ≤ 65537 := by omega
      clear h1 h2 hLn
      obtain ⟨m, hm⟩ : ∃ m, m = L.length - 1 := ⟨_, rfl⟩
      rw [← hm] at c2 d2 hm6
      obtain ⟨w0, h0⟩ : ∃ x, x = L.getD 0 ByteArray.empty := ⟨_, rfl⟩
      rw [← h0] at c1 d1
      clear h0
      subst ea eb
      rw [Nat.mul_comm 3 k] at c0 c1 c2 d0 d1 d2
      have HC2 := Lib.hid c2; have HD2 := Lib.hid d2
      have c0 := cell_kept2 hbw c0; have c1 := cell_kept2 hbw c1; have c2 := cell_kept2 hbw c2
      have d0 := cell_kept2 hbw d0; have d1 := cell_kept2 hbw d1; have d2 := cell_kept2 hbw d2
      have HM := Lib.hid hm; have HX := Lib.hid hx; have HX2 := Lib.hid hx2
      clear hm hx hx2
      have HW := Lib.hid hw; have HW2 := Lib.hid hw2
      clear hw hw2
      go_wp2
      go_quiet (fail)
      have hbq := below_drewN hbw nq
      obtain ⟨wq, hwq⟩ : ∃ wq, wq = wr.drewN nq := ⟨_, rfl⟩
      rw [← hwq] at hbq ⊢
      clear hwq c0 c1 c2 d0 d1 d2 hbw
      go_wp2
      go_loopw [6] (SameRel w m) (fun i _ => m - (intOf i).toNat)
      case atStart => exact ⟨0, Nat.zero_le _, rfl, hbq⟩
      case round =>
        obtain ⟨j, hj, rfl, hbj⟩ := hrel
        have c2 := cell_kept2 hbj HC2.out; have d2 := cell_kept2 hbj HD2.out
        by_cases hjm : j < m
        · have ex := HX.out (by have := HM.out; omega)
          have ex2 := HX2.out (by have := HM.out; omega)
          subst ex ex2
          have e1 := cell_kept2 hbj (HW.out.strs (1 + j) (by have := HM.out; omega))
          have e2 := cell_kept2 hbj (HW2.out.strs (1 + j) (by have := HM.out; omega))
          obtain ⟨y, hy⟩ : ∃ y, y = L.getD (1 + j) ByteArray.empty := ⟨_, rfl⟩
          rw [← hy] at e1 e2
          clear hy
          go_wp2
          go_quiet (fail)
          have hbq2 := below_drewN hbj nq
          go_wp2
          go_roundw
          case rel => exact ⟨j + 1, by omega, by go_num, hbq2⟩
          case measure => simp [intOf]; omega
        · go_wp2
          go_roundw
          case rel => exact ⟨k + 1, by omega, by go_num, hbj⟩
          case measure => simp [intOf]; omega
    · go_wp2
      go_ret
      exact ⟨rfl, hbw⟩
end Go.Proofs.YtkmpbmlcmglmnaaGreatDoor
