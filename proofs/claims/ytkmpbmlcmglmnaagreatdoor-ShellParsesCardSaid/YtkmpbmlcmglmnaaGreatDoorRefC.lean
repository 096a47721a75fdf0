/- The reference's numbers by digits: products by one digit. -/
import Derived.Test.YtkmpbmlcmglmnaaGreatDoorRefB
import Derived.WalkSmall
set_option linter.all false
namespace Go.Proofs.YtkmpbmlcmglmnaaGreatDoor
open Go Go.RowKit
theorem own_drewN {w : World} {base e size n : Nat} {v : Value} {xs : List Value} (h : w.ownsRow base e size v n xs) (m : Nat) : (w.drewN m).ownsRow base e size v n xs :=
  h.kept (row := none) ⟨rfl, rfl, rfl, Nat.le_refl _, fun _ _ _ => rfl⟩ (Classical.em _)
def dv (l : List Nat) : List Value := l.map fun d => Value.int .u64 (d : Nat)
theorem dv_set (l : List Nat) (i x : Nat) : (dv l).set i (.int .u64 (x : Nat)) = dv (l.set i x) := by simp [dv, List.map_set]
theorem dv_length (l : List Nat) : (dv l).length = l.length := by simp [dv]
theorem own_cellAt {w : World} {base e g n cap : Nat} {l : List Nat} (h : w.ownsRow base e 1 (.slice (some ⟨g, 0, none⟩) n cap) n (dv l)) (j : Nat) (hj : j < l.length) :
    w.cell? ⟨g, j, none⟩ = some (.int .u64 (l.getD j 0 : Nat)) := by
  have := h.cells (g := g) rfl j (.int .u64 (l.getD j 0 : Nat)) (by simp [dv, hj])
  by_cases h0 : j = 0
  · subst h0; simpa [Addr.add] using this
  · simpa [Addr.add, h0] using this
theorem own_len {w : World} {base e n : Nat} {v : Value} {l : List Nat} (h : w.ownsRow base e 1 v n (dv l)) : l.length = n := by
  have := h.1; rw [dv_length] at this; omega

/-- after i places: the product of the digits behind them, and noughts above. -/
structure ProdAt (la : List Nat) (m : Nat) (L : List Nat) (i : Nat) : Prop where
  digs : ∀ d ∈ L, d < 65536
  value : val 65536 L = m * val 65536 (la.take i)
  zero : ∀ k, i < k → L.getD k 0 = 0
def prodStep (la : List Nat) (m : Nat) (L : List Nat) (i : Nat) : List Nat :=
  (L.set i ((L.getD i 0 + la.getD i 0 * m) % 65536)).set (i + 1) ((L.getD i 0 + la.getD i 0 * m) / 65536)
theorem getD_set_ne (l : List Nat) (i k x : Nat) (h : i ≠ k) : (l.set i x).getD k 0 = l.getD k 0 := by simp [List.getD, h]
theorem ProdAt.step {la L : List Nat} {m i : Nat} (h : ProdAt la m L i) (hL : i + 1 < L.length) (hm : m < 65536) (ha : ∀ d ∈ la, d < 65536) :
    ProdAt la m (prodStep la m L i) (i + 1) := by
  have b1 : L.getD i 0 < 65536 := getD_lt h.digs (by omega) i
  have b2 : la.getD i 0 < 65536 := getD_lt ha (by omega) i
  have b3 : la.getD i 0 * m ≤ 65535 * 65535 := Nat.mul_le_mul (by omega) (by omega)
  refine ⟨?_, ?_, ?_⟩
  · intro d hd
    rcases List.mem_or_eq_of_mem_set hd with hd | rfl
    · rcases List.mem_or_eq_of_mem_set hd with hd | rfl
      · exact h.digs d hd
      · exact Nat.mod_lt _ (by omega)
    · omega
  · have s1 := val_set 65536 L i ((L.getD i 0 + la.getD i 0 * m) % 65536) (by omega)
    have s2 := val_set 65536 (L.set i ((L.getD i 0 + la.getD i 0 * m) % 65536)) (i + 1) ((L.getD i 0 + la.getD i 0 * m) / 65536) (by simpa using hL)
    rw [getD_set_ne _ _ _ _ (by omega), h.zero (i + 1) (by omega), Nat.zero_mul, Nat.add_zero] at s2
    unfold prodStep
    rw [s2, val_take_succ, Nat.mul_add, ← h.value]
    have e := Nat.mod_add_div (L.getD i 0 + la.getD i 0 * m) 65536
    generalize (L.getD i 0 + la.getD i 0 * m) % 65536 = p at s1 e ⊢
    generalize (L.getD i 0 + la.getD i 0 * m) / 65536 = q at e ⊢
    generalize L.getD i 0 = x at s1 e ⊢
    generalize la.getD i 0 = y at e ⊢
    rw [Nat.pow_succ]
    generalize 65536 ^ i = P at s1 ⊢
    have e1 : q * (P * 65536) = 65536 * q * P := by rw [Nat.mul_comm P, ← Nat.mul_assoc, Nat.mul_comm q]
    have e2 : m * (y * P) = y * m * P := by rw [← Nat.mul_assoc, Nat.mul_comm m]
    have e3 : (p + 65536 * q) * P = (x + y * m) * P := by rw [e]
    rw [Nat.add_mul, Nat.add_mul] at e3
    rw [e1, e2]
    omega
  · intro k hk
    unfold prodStep
    rw [getD_set_ne _ _ _ _ (by omega), getD_set_ne _ _ _ _ (by omega)]
    exact h.zero k (by omega)
theorem prodStep_length (la L : List Nat) (m i : Nat) : (prodStep la m L i).length = L.length := by simp [prodStep]

def ProdRel (la : List Nat) (m : Nat) (w : World) (G n : Nat) (i : Value) (wr : World) : Prop :=
  ∃ (k : Nat) (L : List Nat), k ≤ la.length ∧ i = .int .i64 k ∧ wr.ownsRow w.heap.size 42 1 (.slice (some ⟨G, 0, none⟩) n n) n (dv L) ∧ Hid (ProdAt la m L k) ∧ Below w.heap.size w wr
def InRel (L : List Nat) (i X : Nat) (w : World) (G n : Nat) (c j _x : Value) (wv : World) : Prop :=
  Below w.heap.size w wv ∧
  ((j = .int .i64 0 ∧ c = .int .u64 0 ∧ wv.ownsRow w.heap.size 42 1 (.slice (some ⟨G, 0, none⟩) n n) n (dv L)) ∨
   (j = .int .i64 1 ∧ c = .int .u64 ((X / 65536 : Nat) : Int) ∧ wv.ownsRow w.heap.size 42 1 (.slice (some ⟨G, 0, none⟩) n n) n (dv (L.set i (X % 65536)))))
theorem below_own_store {w wv : World} {G n j : Nat} {l : List Nat} {u : Value} (hb : Below w.heap.size w wv) (ho : wv.ownsRow w.heap.size 42 1 (.slice (some ⟨G, 0, none⟩) n n) n (dv l)) (nq : Nat) :
    Below w.heap.size w ((wv.drewN nq).setCell ⟨G, j, none⟩ u) := by
  have h1 := ho.lt G rfl
  have h2 := ((own_drewN ho nq).stored j u).2
  exact (below_drewN hb nq).grown h2 (by have := hb.size; simpa using this) (fun k hk => by cases hk; exact h1.1)
theorem in_rel {L : List Nat} {k x y m : Nat} {w wv : World} {G n : Nat} {sx : Value} (hb : Below w.heap.size w wv) (ho : wv.ownsRow w.heap.size 42 1 (.slice (some ⟨G, 0, none⟩) n n) n (dv L)) (nq : Nat)
    (hx : x * m ≤ 4294836225) (hy : y < 65536) :
    InRel L k (y + x * m) w G n (.int .u64 (((y : Int) + (x : Int) * (m : Int)) / 65536)) (.int .i64 1) sx
      ((wv.drewN nq).setCell ⟨G, k, none⟩ (.int .u64 (bits .and .u64 ((y : Int) + (x : Int) * (m : Int)) 65535))) := by
  have e0 : (y : Int) + (x : Int) * (m : Int) = ((y + x * m : Nat) : Int) := by rw [Int.natCast_add, Int.natCast_mul]
  rw [e0, and65 _ (by omega)]
  refine ⟨below_own_store hb ho nq, .inr ⟨rfl, by go_num, ?_⟩⟩
  rw [← dv_set]
  exact ((own_drewN ho nq).stored k _).1
theorem prod_rel {la L : List Nat} {k x y m : Nat} {w wv : World} (HP : Hid (ProdAt la m L k)) (HX : Hid (x = la.getD k 0)) (HY : Hid (y = L.getD k 0)) (hb : Below w.heap.size w wv)
    (ho : wv.ownsRow w.heap.size 42 1 (.slice (some ⟨w.heap.size, 0, none⟩) (la.length + 1) (la.length + 1)) (la.length + 1) (dv (L.set k ((y + x * m) % 65536)))) (hlt : k < la.length)
    (hm : m < 65536) (hda : ∀ d ∈ la, d < 65536) :
    ProdRel la m w w.heap.size (la.length + 1) (.int .i64 ((k : Int) + 1)) (wv.setCell ⟨w.heap.size, k + 1, none⟩ (.int .u64 (((y : Int) + (x : Int) * (m : Int)) / 65536))) := by
  have hl := own_len ho
  rw [List.length_set] at hl
  have e0 : ((y : Int) + (x : Int) * (m : Int)) / 65536 = (((y + x * m) / 65536 : Nat) : Int) := by rw [Int.natCast_ediv, Int.natCast_add, Int.natCast_mul]; rfl
  rw [e0]
  have hb2 := below_own_store (j := k + 1) (u := .int .u64 (((y + x * m) / 65536 : Nat) : Int)) hb ho 0
  refine ⟨k + 1, prodStep la m L k, by omega, by go_num, ?_, Lib.hid (HP.out.step (by omega) hm hda), hb2⟩
  unfold prodStep
  rw [← HX.out, ← HY.out, ← dv_set]
  exact (ho.stored (k + 1) _).1
set_option maxRecDepth 100000 in
set_option maxHeartbeats 800000 in
theorem prod_any (ga ca gb cb m : Nat) (la : List Nat) (w : World) (ha : Digs w ga la) (hb : w.cell? ⟨gb, 0, none⟩ = some (.int .u64 (m : Nat))) (hga : ga < w.heap.size) (hgb : gb < w.heap.size)
    (hla : la.length ≤ 1000) (hda : ∀ d ∈ la, d < 65536) (hm : m < 65536) :
    Calls Tryz.prog 24 #[.slice (some ⟨ga, 0, none⟩) la.length ca, .slice (some ⟨gb, 0, none⟩) 1 cb] w fun e w' =>
      ∃ (g cap : Nat) (r : List Nat), e = .returned (.slice (some ⟨g, 0, none⟩) r.length cap) ∧ w.heap.size ≤ g ∧ g < w'.heap.size ∧ Digs w' g r ∧ (∀ d ∈ r, d < 65536) ∧
        val 65536 r = m * val 65536 la ∧ r.length = la.length + 1 ∧ Below w.heap.size w w' := by
  obtain ⟨i0, hi, hz0, hz1, hz2⟩ := info_parts infoU64
  have hga' := Lib.hid hga; have hgb' := Lib.hid hgb
  go_enter Tryz.func24, Tryz.ntmps24
  go_wp2_with (at_make; refine wpList_make_full _ rfl _ _ 53 rfl w.heap.size 42 i0 (.int .u64 0) 1 Tryz.underlying53 hi hz0 hz1 .i64 .i64 _ _ (la.length + 1) rfl rfl ?c1 ?c2 ?c3 ?c4 ?c5 ?_)
  case c1 => go_num
  case c2 => go_num
  case c3 => rw [hz2]; omega
  case c4 => unfold maxLen; omega
  case c5 => exact Nat.le_refl _
  intro w1 hown1 hgrow1
  have hb1 : Below w.heap.size w w1 := (Below.refl _ w).grown hgrow1 (Nat.le_refl _) (fun k hk => by cases hk)
  go_wp2
  go_loopw [6, 7, 8, 9] (fun i _ _ _ wr => ProdRel la m w w.heap.size (la.length + 1) i wr)
    (fun i _ _ _ _ => la.length - (intOf i).toNat)
  case atStart => exact ⟨0, List.replicate (la.length + 1) 0, Nat.zero_le _, rfl, by simpa [dv, toList_madeCells_one] using hown1, Lib.hid ⟨fun d hd => by rw [List.eq_of_mem_replicate hd]; omega, by rw [val_zero _ _ (fun d hd => List.eq_of_mem_replicate hd)]; rfl, fun k _ => by simp [List.getD, List.getElem?_replicate]; split <;> rfl⟩, hb1⟩
  case round =>
    obtain ⟨k, L, hk, rfl, hown, HP, hbw⟩ := hrel
    by_cases hlt : k < la.length
    · obtain ⟨x, hx⟩ : ∃ x, x = la.getD k 0 := ⟨_, rfl⟩
      obtain ⟨y, hy⟩ : ∃ y, y = L.getD k 0 := ⟨_, rfl⟩
      have bx : x < 65536 := by rw [hx]; exact getD_lt hda (by omega) k
      have bY : y < 65536 := by rw [hy]; exact getD_lt HP.out.digs (by omega) k
      have bz : x * m ≤ 65535 * 65535 := Nat.mul_le_mul (by omega) (by omega)
      have HX := Lib.hid hx; have HY := Lib.hid hy
      have hbs := hbw.size
      clear hx hy
      obtain ⟨wo, rfl⟩ : ∃ wo : World, wo = wr := ⟨_, rfl⟩
      go_wp2
      go_loopw [7, 8, 9] (InRel L k (y + x * m) w w.heap.size (la.length + 1)) (fun _ j _ _ => 1 - (intOf j).toNat)
      case atStart => exact ⟨hbw, .inl ⟨rfl, rfl, hown⟩⟩
      case round =>
        obtain ⟨hbv, hr⟩ := hrel
        rcases hr with ⟨rfl, rfl, hov⟩ | ⟨rfl, rfl, hov⟩
        · have hl := own_len hov
          have c1 : wr.cell? ⟨w.heap.size, k, none⟩ = some (.int .u64 (y : Nat)) := by rw [HY.out]; exact own_cellAt hov k (by omega)
          have c2 : wr.cell? ⟨ga, k, none⟩ = some (.int .u64 (x : Nat)) := by rw [HX.out]; exact (ha.below hga'.out hbv) k hlt
          have c3 : wr.cell? ⟨gb, 0, none⟩ = some (.int .u64 (m : Nat)) := (hbv.cell (p := ⟨gb, 0, none⟩) hgb'.out).trans hb
          have f1 := hov.frozenAt k
          have HL := Lib.hid hl; clear hl
          have b1 : (0 : Int) ≤ x * m := Int.mul_nonneg (by omega) (by omega)
          have b2 : (x : Int) * m ≤ 4294836225 := by have h : ((x * m : Nat) : Int) ≤ 65535 * 65535 := by omega
                                                     rw [Int.natCast_mul] at h; omega
          go_wp2
          go_quiet (fail)
          go_wp2
          go_roundw
          case rel => exact in_rel hbv hov nq bz bY
          case measure => simp [intOf]
        · have hl := own_len hov
          have c1 : wr.cell? ⟨w.heap.size, k + 1, none⟩ = some (.int .u64 (((L.set k ((y + x * m) % 65536)).getD (k + 1) 0 : Nat) : Int)) := own_cellAt hov (k + 1) (by omega)
          have f1 := hov.frozenAt (k + 1)
          have HL := Lib.hid hl; clear hl
          go_wp2
          go_roundw
          case rel => exact prod_rel HP HX HY hbv hov hlt hm hda
          case measure => simp [intOf]; omega
    · have hk2 : k = la.length := by omega
      have HK := Lib.hid hk2; clear hk2
      go_wp2
      go_ret
      have hP := HP.out
      have ek := HK.out
      subst ek
      have hl := own_len hown
      refine ⟨w.heap.size, L.length, L, by rw [hl]; rfl, Nat.le_refl _, (hown.lt _ rfl).2, fun j hj => own_cellAt hown j hj, hP.digs, ?_, hl, hbw⟩
      rw [hP.value, List.take_of_length_le (Nat.le_refl _)]
end Go.Proofs.YtkmpbmlcmglmnaaGreatDoor
