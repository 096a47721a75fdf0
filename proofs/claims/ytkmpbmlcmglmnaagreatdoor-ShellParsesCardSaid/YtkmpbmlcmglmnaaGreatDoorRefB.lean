/- The reference's numbers by digits: sums, products, and what a text's number is. -/
import Derived.Test.YtkmpbmlcmglmnaaGreatDoorGround
import Derived.Test.YtkmpbmlcmglmnaaGreatDoorPlain
set_option linter.all false
namespace Go.Proofs.YtkmpbmlcmglmnaaGreatDoor
open Go Go.RowKit
/-- a slice whose n cells hold these digits. -/
def Digs (w : World) (g : Nat) (l : List Nat) : Prop := ∀ k, k < l.length → w.cell? ⟨g, k, none⟩ = some (.int .u64 (l.getD k 0 : Nat))
theorem Digs.below {w w' : World} {g : Nat} {l : List Nat} (h : Digs w g l) (hg : g < w.heap.size) (hb : Below w.heap.size w w') : Digs w' g l := fun k hk => (hb.cell (p := ⟨g, k, none⟩) hg).trans (h k hk)
theorem own_digs {w : World} {base e : Nat} {v : Value} {l : List Nat} (h : w.ownsRow base e 1 v l.length (l.map fun d => Value.int .u64 (d : Nat))) (h0 : 0 < l.length) :
    ∃ g cap, v = .slice (some ⟨g, 0, none⟩) l.length cap ∧ base ≤ g ∧ g < w.heap.size ∧ Digs w g l := by
  have hl := h.lt
  have hc := fun g hg => h.cells (g := g) hg
  rcases h.2 with ⟨h1, h2⟩ | ⟨g, cap, cur, rfl, hb, hg, rest⟩
  · omega
  · refine ⟨g, cap, rfl, hb, (hl g rfl).2, fun k hk => ?_⟩
    have := hc g rfl k (.int .u64 (l.getD k 0 : Nat)) (by simp [hk])
    by_cases h0 : k = 0
    · subst h0; simpa [Addr.add] using this
    · simpa [Addr.add, h0] using this

theorem and65 (n : Nat) (h : n < 18446744073709551616) : bits .and .u64 (n : Int) 65535 = ((n % 65536 : Nat) : Int) := by
  have h1 := bits_and_u64_nat n 65535 h (by omega)
  have e : n &&& 65535 = n % 65536 := Nat.and_two_pow_sub_one_eq_mod n 16
  rw [e] at h1
  exact h1
theorem shr16 (n : Nat) (_h : n < 18446744073709551616) : ((n : Int) / 65536) = ((n / 65536 : Nat) : Int) := by omega
def SumRel (la lb : List Nat) (w : World) (o c i _x : Value) (wr : World) : Prop :=
  ∃ (k cc : Nat) (r : List Nat), k ≤ max la.length lb.length ∧ i = .int .i64 k ∧ c = .int .u64 cc ∧ cc ≤ 1 ∧
      wr.ownsRow w.heap.size 42 1 o r.length (r.map fun d => Value.int .u64 (d : Nat)) ∧ Hid (r.length = k) ∧ (∀ d ∈ r, d < 65536) ∧
      Hid (val 65536 r + cc * 65536 ^ k = val 65536 (la.take k) + val 65536 (lb.take k)) ∧ Below w.heap.size w wr
theorem sum_rel {la lb : List Nat} {w wr w1 : World} {k cc x y : Nat} {z cz : Int} {r : List Nat} {v v' sx : Value}
    (hk : k < max la.length lb.length) (hcc : cc ≤ 1) (HRL : Hid (r.length = k)) (hrd : ∀ d ∈ r, d < 65536)
    (HV : Hid (val 65536 r + cc * 65536 ^ k = val 65536 (la.take k) + val 65536 (lb.take k)))
    (HX : Hid (x = la.getD k 0)) (HY : Hid (y = lb.getD k 0)) (bx : x < 65536) (bY : y < 65536) (hz : z = ((cc + x + y : Nat) : Int)) (hcz : cz = z / 65536)
    (hown : wr.ownsRow w.heap.size 42 1 v r.length (r.map fun d => Value.int .u64 (d : Nat)))
    (hown' : w1.ownsRow w.heap.size 42 1 v' (r.length + 1) ((r.map fun d => Value.int .u64 (d : Nat)) ++ [.int .u64 (bits .and .u64 z 65535)]))
    (hbw : Below w.heap.size w wr) (o : Obj) (hgrow : (wr.alloc o).grownBy w1 v.ownBlock) :
    SumRel la lb w v' (.int .u64 cz) (.int .i64 ((k : Int) + 1)) sx w1 := by
  have hrl := HRL.out
  have hbs := hbw.size
  have hb1 : Below w.heap.size w w1 := (hbw.alloc hbs _).grown hgrow (by simp; omega) (fun k hk => (hown.lt k hk).1)
  have ez : bits .and .u64 z 65535 = (((cc + x + y) % 65536 : Nat) : Int) := by rw [hz]; exact and65 _ (by omega)
  have ec : cz = (((cc + x + y) / 65536 : Nat) : Int) := by omega
  rw [ez] at hown'
  rw [ec]
  refine ⟨k + 1, (cc + x + y) / 65536, r ++ [(cc + x + y) % 65536], by omega, by go_num, rfl, by omega, by simpa using hown', Lib.hid (by simp; omega), ?_, Lib.hid ?_, hb1⟩
  · intro d hd
    simp only [List.mem_append, List.mem_singleton] at hd
    rcases hd with hd | rfl
    · exact hrd d hd
    · exact Nat.mod_lt _ (by omega)
  · have := sum_step 65536 k cc x y _ _ r hrl HV.out
    rw [val_take_succ, val_take_succ, ← HX.out, ← HY.out]
    exact this

set_option maxRecDepth 100000 in
set_option maxHeartbeats 800000 in
theorem sum_any (ga ca gb cb : Nat) (la lb : List Nat) (w : World) (ha : Digs w ga la) (hb : Digs w gb lb) (hga : ga < w.heap.size) (hgb : gb < w.heap.size)
    (hla : la.length ≤ 1000) (hlb : lb.length ≤ 1000) (hda : ∀ d ∈ la, d < 65536) (hdb : ∀ d ∈ lb, d < 65536) :
    Calls Tryz.prog 23 #[.slice (some ⟨ga, 0, none⟩) la.length ca, .slice (some ⟨gb, 0, none⟩) lb.length cb] w fun e w' =>
      ∃ (g cap : Nat) (r : List Nat), e = .returned (.slice (some ⟨g, 0, none⟩) r.length cap) ∧ w.heap.size ≤ g ∧ g < w'.heap.size ∧ Digs w' g r ∧ (∀ d ∈ r, d < 65536) ∧
        val 65536 r = val 65536 la + val 65536 lb ∧ r.length = max la.length lb.length + 1 ∧ Below w.heap.size w w' := by
  obtain ⟨i0, hi, hz0, hz1, hz2⟩ := info_parts infoU64
  have hga' := Lib.hid hga; have hgb' := Lib.hid hgb
  go_enter Tryz.func23, Tryz.ntmps23
  go_wp2
  go_loopw [5, 6, 7, 8] (SumRel la lb w)
    (fun _ _ i _ _ => max la.length lb.length - (intOf i).toNat)
  case atStart => exact ⟨0, 0, [], Nat.zero_le _, rfl, rfl, by omega, World.ownsRow_made _ _ _ (Nat.le_refl _) (by simp [maxLen]) (by simp), Lib.hid rfl, by simp, Lib.hid (by simp [val]), (Below.refl _ _).alloc (Nat.le_refl _) _⟩
  case round =>
    obtain ⟨k, cc, r, hk, rfl, rfl, hcc, hown, HRL, hrd, HV, hbw⟩ := hrel
    have hrl1 : r.length ≤ k := Nat.le_of_eq HRL.out
    obtain ⟨x, hx⟩ : ∃ x, x = la.getD k 0 := ⟨_, rfl⟩
    obtain ⟨y, hy⟩ : ∃ y, y = lb.getD k 0 := ⟨_, rfl⟩
    have bx : x < 65536 := by rw [hx]; exact getD_lt hda (by omega) k
    have bY : y < 65536 := by rw [hy]; exact getD_lt hdb (by omega) k
    have cx : k < la.length → wr.cell? ⟨ga, k, none⟩ = some (.int .u64 (x : Nat)) := fun h => hx ▸ (ha.below hga hbw) k h
    have cy : k < lb.length → wr.cell? ⟨gb, k, none⟩ = some (.int .u64 (y : Nat)) := fun h => hy ▸ (hb.below hgb hbw) k h
    have x0 : ¬ k < la.length → x = 0 := fun h => by rw [hx]; simp [h]
    have y0 : ¬ k < lb.length → y = 0 := fun h => by rw [hy]; simp [h]
    have hbs := hbw.size
    have HX := Lib.hid hx; have HY := Lib.hid hy
    clear hx hy hga hgb
    by_cases hlt : k < max la.length lb.length
    · have Hx0 := Lib.hid x0; have Hy0 := Lib.hid y0
      clear x0 y0
      rcases (by omega : (k < la.length ∧ k < lb.length) ∨ (k < la.length ∧ ¬ k < lb.length) ∨ (¬ k < la.length ∧ k < lb.length)) with ⟨h1, h2⟩ | ⟨h1, h2⟩ | ⟨h1, h2⟩
      · have cx' := cx h1; have cy' := cy h2
        clear cx cy
        go_wp2_with (at_builtin; refine wpList_append_own _ rfl _ _ 53 rfl w.heap.size 42 i0 (.int .u64 0) 1 8 Tryz.underlying53 hi hz0 hz1 hz2 rfl (by decide) _ _ _ rfl (hown.alloc _) ⟨wr.heap.size, 0, none⟩ 1 1 [.int .u64 (bits .and .u64 ((cc : Int) + x + y) 65535)] rfl rfl ?c1 ?c2 ?c3 ?c4 ?c5 ?_)
        case c1 => exact news_box _ _ _
        case c2 => intro u hu; simp at hu; subst hu; rfl
        case c3 => unfold maxLen; omega
        case c4 => omega
        case c5 => simp; omega
        intro v' w1 hown' hgrow _
        go_wp2
        go_roundw
        case rel => exact sum_rel (z := (cc : Int) + x + y) hlt hcc HRL hrd HV HX HY bx bY (by omega) rfl hown hown' hbw _ hgrow
        case measure => simp [intOf]; omega
      · have cx' := cx h1
        clear cx cy
        go_wp2_with (at_builtin; refine wpList_append_own _ rfl _ _ 53 rfl w.heap.size 42 i0 (.int .u64 0) 1 8 Tryz.underlying53 hi hz0 hz1 hz2 rfl (by decide) _ _ _ rfl (hown.alloc _) ⟨wr.heap.size, 0, none⟩ 1 1 [.int .u64 (bits .and .u64 ((cc : Int) + x) 65535)] rfl rfl ?c1 ?c2 ?c3 ?c4 ?c5 ?_)
        case c1 => exact news_box _ _ _
        case c2 => intro u hu; simp at hu; subst hu; rfl
        case c3 => unfold maxLen; omega
        case c4 => omega
        case c5 => simp; omega
        intro v' w1 hown' hgrow _
        go_wp2
        go_roundw
        case rel => exact sum_rel (z := (cc : Int) + x) hlt hcc HRL hrd HV HX HY bx bY (by have := Hy0.out h2; omega) rfl hown hown' hbw _ hgrow
        case measure => simp [intOf]; omega
      · have cy' := cy h2
        clear cx cy
        go_wp2_with (at_builtin; refine wpList_append_own _ rfl _ _ 53 rfl w.heap.size 42 i0 (.int .u64 0) 1 8 Tryz.underlying53 hi hz0 hz1 hz2 rfl (by decide) _ _ _ rfl (hown.alloc _) ⟨wr.heap.size, 0, none⟩ 1 1 [.int .u64 (bits .and .u64 ((cc : Int) + y) 65535)] rfl rfl ?c1 ?c2 ?c3 ?c4 ?c5 ?_)
        case c1 => exact news_box _ _ _
        case c2 => intro u hu; simp at hu; subst hu; rfl
        case c3 => unfold maxLen; omega
        case c4 => omega
        case c5 => simp; omega
        intro v' w1 hown' hgrow _
        go_wp2
        go_roundw
        case rel => exact sum_rel (z := (cc : Int) + y) hlt hcc HRL hrd HV HX HY bx bY (by have := Hx0.out h1; omega) rfl hown hown' hbw _ hgrow
        case measure => simp [intOf]; omega
    · have hge : ¬ k < la.length := by omega
      have hge2 : ¬ k < lb.length := by omega
      have hk2 : k = max la.length lb.length := by omega
      have HK := Lib.hid hk2; clear hk2 cx cy x0 y0
      go_wp2_with (at_builtin; refine wpList_append_own _ rfl _ _ 53 rfl w.heap.size 42 i0 (.int .u64 0) 1 8 Tryz.underlying53 hi hz0 hz1 hz2 rfl (by decide) _ _ _ rfl (hown.alloc _) ⟨wr.heap.size, 0, none⟩ 1 1 [.int .u64 (cc : Nat)] rfl rfl ?c1 ?c2 ?c3 ?c4 ?c5 ?_)
      case c1 => exact news_box _ _ _
      case c2 => intro u hu; simp at hu; subst hu; rfl
      case c3 => unfold maxLen; omega
      case c4 => omega
      case c5 => simp; omega
      intro v' w1 hown' hgrow _
      have hb1 : Below w.heap.size w w1 := (hbw.alloc hbs _).grown hgrow (by simp; omega) (fun k hk => (hown.lt k hk).1)
      go_wp2
      go_ret
      have ho : w1.ownsRow w.heap.size 42 1 v' (r ++ [cc]).length ((r ++ [cc]).map fun d => Value.int .u64 (d : Nat)) := by simpa using hown'
      obtain ⟨g, cap, rfl, hb2, hb3, hd⟩ := own_digs ho (by simp)
      refine ⟨g, cap, r ++ [cc], rfl, hb2, hb3, hd, ?_, ?_, ?_, hb1⟩
      · intro d hd
        simp only [List.mem_append, List.mem_singleton] at hd
        rcases hd with hd | rfl
        · exact hrd d hd
        · omega
      · have hv := HV.out
        rw [List.take_of_length_le (by omega), List.take_of_length_le (by omega)] at hv
        rw [val_snoc, HRL.out, hv]
      · have := HRL.out; have := HK.out; simp; omega
end Go.Proofs.YtkmpbmlcmglmnaaGreatDoor
