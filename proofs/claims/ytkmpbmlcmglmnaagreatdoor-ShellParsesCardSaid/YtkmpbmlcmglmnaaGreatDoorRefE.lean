/- The reference's reader of numbers: whether a text is a number below 2^256. -/
import Derived.Test.YtkmpbmlcmglmnaaGreatDoorRefD
import Derived.Test.YtkmpbmlcmglmnaaGreatDoorPlain
import Derived.Deep.RegionWith
import Derived.Deep.DeepCutAuto
set_option linter.all false
namespace Go.Proofs.YtkmpbmlcmglmnaaGreatDoor
open Go Go.RowKit
theorem Digs.alloc {w : World} {g : Nat} {l : List Nat} (h : Digs w g l) (o : Obj) : Digs (w.alloc o) g l := fun k hk => Lib.cell?_alloc_some o (h k hk)
def ProdOut (m : Nat) (la : List Nat) (w : World) (e : Ending) (w' : World) : Prop :=
  ∃ (g cap : Nat) (r : List Nat), e = .returned (.slice (some ⟨g, 0, none⟩) r.length cap) ∧ w.heap.size ≤ g ∧ g < w'.heap.size ∧ Digs w' g r ∧ (∀ d ∈ r, d < 65536) ∧
        Hid (val 65536 r = m * val 65536 la ∧ r.length = la.length + 1) ∧ Below w.heap.size w w'
def SumOut (la lb : List Nat) (w : World) (e : Ending) (w' : World) : Prop :=
  ∃ (g cap : Nat) (r : List Nat), e = .returned (.slice (some ⟨g, 0, none⟩) r.length cap) ∧ w.heap.size ≤ g ∧ g < w'.heap.size ∧ Digs w' g r ∧ (∀ d ∈ r, d < 65536) ∧
        Hid (val 65536 r = val 65536 la + val 65536 lb ∧ r.length = max la.length lb.length + 1) ∧ Below w.heap.size w w'
/-- the number read so far. -/
def NumRel (s : ByteArray) (w : World) (d i : Value) (wr : World) : Prop :=
  ∃ (k g cap : Nat) (l : List Nat), k ≤ s.size ∧ i = .int .i64 k ∧ d = .slice (some ⟨g, 0, none⟩) l.length cap ∧ g < wr.heap.size ∧ Digs wr g l ∧ (∀ x ∈ l, x < 65536) ∧ l.length ≤ 2 * k ∧
    Hid (val 65536 l = numVal (s.data.toList.take k)) ∧ Hid (∀ j c, j < k → s.data.toList[j]? = some c → isDigB c = true) ∧ Below w.heap.size w wr ∧ Four wr w.heap.size ∧ Soft wr w.heap.size ∧ w.heap.size < wr.heap.size
theorem Four.below {w w' : World} {B : Nat} (h : Four w B) (hB : B < w.heap.size) (hb : Below w.heap.size w w') : Four w' B := fun j hj => by
  obtain ⟨v, hv⟩ := h j hj
  exact ⟨v, (hb.cell (p := ⟨B, j, none⟩) hB).trans hv⟩
theorem Soft.below {w w' : World} {B : Nat} (h : Soft w B) (hB : B < w.heap.size) (hb : Below w.heap.size w w') : Soft w' B := fun j => (hb.frozen (p := ⟨B, j, none⟩) hB).trans (h j)
theorem num_rel {s : ByteArray} {w wr w2 : World} {k x g2 cap2 : Nat} {l r1 r2 : List Nat} (hlt : k < s.size) (hx : s[k].toNat = x + 48) (hx9 : x ≤ 9) (hll : l.length ≤ 2 * k)
    (HV : Hid (val 65536 l = numVal (s.data.toList.take k))) (HD : Hid (∀ j c, j < k → s.data.toList[j]? = some c → isDigB c = true))
    (hbw : Below w.heap.size w wr) (h4 : Four wr w.heap.size) (hs4 : Soft wr w.heap.size) (hsz : w.heap.size < wr.heap.size)
    (HH1 : Hid (val 65536 r1 = 10 * val 65536 l ∧ r1.length = l.length + 1)) (HH2 : Hid (val 65536 r2 = val 65536 r1 + val 65536 [x] ∧ r2.length = max r1.length [x].length + 1))
    (hg2' : g2 < w2.heap.size) (hd2 : Digs w2 g2 r2) (hr2 : ∀ d ∈ r2, d < 65536) (hb : Below wr.heap.size wr w2) :
    NumRel s w (.slice (some ⟨g2, 0, none⟩) r2.length cap2) (.int .i64 ((k : Int) + 1)) w2 := by
  obtain ⟨v1, l1⟩ := HH1.out
  obtain ⟨v2, l2⟩ := HH2.out
  have hbs := hb.size
  have hbA := byte_at s k hlt
  refine ⟨k + 1, g2, cap2, r2, by omega, by go_num, rfl, hg2', hd2, hr2, ?_, Lib.hid ?_, Lib.hid ?_, hbw.trans (hb.mono hbw.size), h4.below hsz hb, hs4.below hsz hb, by omega⟩
  · rw [l2, l1]; simp; omega
  · have hs : s.data.toList.length = s.size := rfl
    rw [List.take_succ_eq_append_getElem (by omega), numVal_snoc, v2, v1, HV.out]
    have e : s.data.toList[k] = s[k] := by
      have := hbA
      rw [List.getElem?_eq_getElem (by omega)] at this
      exact Option.some.inj this
    rw [e, hx]; simp [val]
  · intro j c hj hc
    by_cases hjk : j < k
    · exact HD.out j c hjk hc
    · obtain rfl : j = k := by omega
      rw [hbA] at hc
      obtain rfl := Option.some.inj hc
      unfold isDigB
      simp only [Bool.and_eq_true, decide_eq_true_eq]
      omega
theorem form_zero {s : ByteArray} (h : s.size = 0) : numForm s = true := by unfold numForm; rw [isEmpty_size]; simp [h]
theorem form_long {s : ByteArray} (h : 78 < s.size) : numForm s = true := by unfold numForm; simp [h]
theorem form_one {s : ByteArray} (h : s.size = 1) : numForm s = false := by unfold numForm; rw [isEmpty_size]; simp [h]
theorem form_more {s : ByteArray} (h1 : 1 < s.size) (h2 : s.size ≤ 78) : numForm s = ((s[0].toNat : Int) == 48) := by
  unfold numForm
  rw [isEmpty_size, byte_at s 0 (by omega)]
  have e1 : ¬ 78 < s.size := by omega
  have e2 : ¬ s.size = 0 := by omega
  have e3 : (s[0].toNat == 48) = ((s[0].toNat : Int) == 48) := by rw [Bool.eq_iff_iff]; simp only [beq_iff_eq]; omega
  simp only [e1, e2, h1, decide_false, decide_true, Bool.false_or, Bool.true_and, Option.getD_some]
  exact e3
theorem err_form {s : ByteArray} (h : numForm s = true) : numErr s = 4 := by unfold numErr; rw [if_pos h]
theorem err_char {s : ByteArray} {k : Nat} (hf : ¬ numForm s = true) (hk : k < s.size) (hc : isDigB s[k] = false) : numErr s = 4 := by
  unfold numErr
  rw [if_neg hf, if_neg]
  intro h
  have := (List.all_eq_true.1 h) s[k] (List.mem_of_getElem? (byte_at s k hk))
  rw [hc] at this; cases this
theorem form_bound {s : ByteArray} (h : numForm s = false) : 0 < s.size ∧ s.size ≤ 78 := by
  constructor
  · rcases Nat.eq_zero_or_pos s.size with h0 | h0
    · rw [form_zero h0] at h; cases h
    · exact h0
  · rcases Nat.lt_or_ge 78 s.size with h0 | h0
    · rw [form_long h0] at h; cases h
    · exact h0
theorem pow_big : (65536 : Nat) ^ 16 = 2 ^ 256 := by rw [show (65536 : Nat) = 2 ^ 16 from rfl, ← Nat.pow_mul]
theorem all_digs {s : ByteArray} {k : Nat} (h : ∀ j c, j < k → s.data.toList[j]? = some c → isDigB c = true) (hk : s.size ≤ k) : s.data.toList.all isDigB = true := by
  rw [List.all_eq_true]
  intro c hc
  obtain ⟨i, hi⟩ := List.getElem?_of_mem hc
  have hlt := (List.getElem?_eq_some_iff.1 hi).1
  have hs : s.data.toList.length = s.size := rfl
  exact h i c (by omega) hi
theorem err_fits {s : ByteArray} {k : Nat} {l : List Nat} (hf : ¬ numForm s = true) (hk : s.size ≤ k) (hd : ∀ j c, j < k → s.data.toList[j]? = some c → isDigB c = true)
    (hv : val 65536 l = numVal (s.data.toList.take k)) (hl : ∀ x ∈ l, x < 65536) (h0 : ∀ j, 16 ≤ j → j < l.length → l.getD j 0 = 0) : numErr s = 0 := by
  have hs : s.data.toList.length = s.size := rfl
  rw [List.take_of_length_le (by omega)] at hv
  unfold numErr
  rw [if_neg hf, if_pos (all_digs hd hk), if_neg]
  have : val 65536 l < 65536 ^ 16 := (val_small 65536 (by omega) l 16 hl).2 (fun d hd => by
    obtain ⟨i, hi⟩ := List.getElem?_of_mem hd
    rw [List.getElem?_drop] at hi
    have hlt := (List.getElem?_eq_some_iff.1 hi).1
    have := h0 (16 + i) (by omega) hlt
    rw [List.getD_eq_getElem?_getD, hi] at this
    exact this)
  rw [pow_big, hv] at this
  exact Nat.not_le.2 this
theorem err_long {s : ByteArray} {k m : Nat} {l : List Nat} (hf : ¬ numForm s = true) (hk : s.size ≤ k) (hd : ∀ j c, j < k → s.data.toList[j]? = some c → isDigB c = true)
    (hv : val 65536 l = numVal (s.data.toList.take k)) (hl : ∀ x ∈ l, x < 65536) (h16 : 16 ≤ m) (hm : m < l.length) (h0 : l.getD m 0 ≠ 0) : numErr s = 2 := by
  have hs : s.data.toList.length = s.size := rfl
  rw [List.take_of_length_le (by omega)] at hv
  unfold numErr
  rw [if_neg hf, if_pos (all_digs hd hk), if_pos]
  refine Nat.not_lt.1 fun hlt => h0 ?_
  rw [← hv, ← pow_big] at hlt
  refine (val_small 65536 (by omega) l 16 hl).1 hlt _ ?_
  have e : l.getD m 0 = (l.drop 16)[m - 16]'(by simp; omega) := by
    rw [List.getElem_drop]
    simp only [List.getD_eq_getElem?_getD, show 16 + (m - 16) = m from by omega]
    rw [List.getElem?_eq_getElem hm]; rfl
  rw [e]; exact List.getElem_mem _
def NumOut (s : ByteArray) (w : World) (e : Ending) (w' : World) : Prop :=
  ∃ a0 a1 a2 a3 : Int, e = .returned (.tuple #[.agg #[.int .u64 a0, .int .u64 a1, .int .u64 a2, .int .u64 a3], .int .i64 (numErr s)]) ∧ Below w.heap.size w w'
set_option maxRecDepth 100000 in
set_option maxHeartbeats 1000000 in
theorem num_ref (s : ByteArray) (w : World) :
    Calls Tryz.prog 15 #[.string s] w (NumOut s w) := by
  go_enter Tryz.func15, Tryz.ntmps15
  go_upto_region 1 with fail
  go_cut [24] (fun c wx => c = .bool (numForm s) ∧ wx = w.alloc (.cells #[.int .u64 0, .int .u64 0, .int .u64 0, .int .u64 0] 44))
  case first =>
    by_cases hz : s.size = 0
    · have e0 : ((s.size : Int) == 0) = true := by simp [hz]
      have e := form_zero hz
      have E := Lib.hid e; clear e hz
      go_wp2_with fail
      go_meet
      exact ⟨by rw [E.out], rfl⟩
    · have e0 : ((s.size : Int) == 0) = false := by rw [beq_eq_false_iff_ne]; omega
      by_cases h78 : 78 < s.size
      · have E := Lib.hid (form_long h78); clear hz
        go_wp2_with fail
        go_meet
        exact ⟨by rw [E.out], rfl⟩
      · have d78 : decide ((78 : Int) < (s.size : Int)) = false := by simp; omega
        by_cases h1 : 1 < s.size
        · have E := Lib.hid (form_more h1 (by omega)); clear hz
          cases hb : ((s[0].toNat : Int) == 48)
          all_goals
            go_wp2_with fail
            go_meet
            exact ⟨by rw [E.out, hb], rfl⟩
        · have hs1 : s.size = 1 := by omega
          have h0 : 0 < s.size := by omega
          have E := Lib.hid (form_one hs1); clear hz hs1
          go_wp2_with fail
          go_meet
          exact ⟨by rw [E.out], rfl⟩
  case rest =>
    obtain ⟨rfl, rfl⟩ := hcut
    cases hform : numForm s
    case true =>
      have E := Lib.hid (err_form hform); clear hform
      go_wp2
      exact bodyPost_ret (v := .tuple #[.agg #[.int .u64 0, .int .u64 0, .int .u64 0, .int .u64 0], .int .i64 4]) (by simp [results, Tryz.results15, go_sem]) rfl
        ⟨0, 0, 0, 0, by rw [E.out], (Below.refl _ _).alloc (Nat.le_refl _) _⟩
    case false =>
      obtain ⟨h0, h78⟩ := form_bound hform
      have hform' : ¬ numForm s = true := by rw [hform]; decide
      have HF := Lib.hid hform'; clear hform hform'
      go_wp2
      go_loopw [4, 5] (NumRel s w) (fun _ i _ => s.size - (intOf i).toNat)
      case atStart =>
        refine ⟨0, w.heap.size + 1, 0, [], Nat.zero_le _, rfl, rfl, by simp, fun k hk => by simp at hk, by simp, by simp, Lib.hid (by simp [val, numVal]), Lib.hid (fun j c hj => by omega), ((Below.refl _ _).alloc (Nat.le_refl _) _).alloc (by simp) _, (four_new w _).alloc _, (soft_new w _ _).alloc _ _, by simp <;> omega⟩
      case round =>
        obtain ⟨k, g, cap, l, hk, rfl, rfl, hg, hd, hld, hll, HV, HD, hbw, h4, hs4, hsz4⟩ := hrel
        by_cases hlt : k < s.size
        · by_cases hc1 : (s[k].toNat : Int) < 48
          · have hcc : isDigB s[k] = false := by unfold isDigB; simp; omega
            obtain ⟨u0, d0⟩ := h4 0 (by omega)
            obtain ⟨u1, d1⟩ := h4 1 (by omega)
            obtain ⟨u2, d2⟩ := h4 2 (by omega)
            obtain ⟨u3, d3⟩ := h4 3 (by omega)
            have f0 := hs4 0; have f1 := hs4 1; have f2 := hs4 2; have f3 := hs4 3
            have E := Lib.hid (err_char HF.out hlt hcc); clear hcc h4 hs4
            go_wp2
            exact bodyPost_ret (v := .tuple #[.agg #[.int .u64 0, .int .u64 0, .int .u64 0, .int .u64 0], .int .i64 4]) (by simp [results, Tryz.results15, go_sem, d0, d1, d2, d3]) rfl
              ⟨0, 0, 0, 0, by rw [E.out], (((hbw.setCell (Nat.le_refl _) _).setCell (Nat.le_refl _) _).setCell (Nat.le_refl _) _).setCell (Nat.le_refl _) _⟩
          · by_cases hc2 : (57 : Int) < (s[k].toNat : Int)
            · have hcc : isDigB s[k] = false := by unfold isDigB; simp; omega
              obtain ⟨u0, d0⟩ := h4 0 (by omega)
              obtain ⟨u1, d1⟩ := h4 1 (by omega)
              obtain ⟨u2, d2⟩ := h4 2 (by omega)
              obtain ⟨u3, d3⟩ := h4 3 (by omega)
              have f0 := hs4 0; have f1 := hs4 1; have f2 := hs4 2; have f3 := hs4 3
              have E := Lib.hid (err_char HF.out hlt hcc); clear hcc h4 hs4
              go_wp2
              exact bodyPost_ret (v := .tuple #[.agg #[.int .u64 0, .int .u64 0, .int .u64 0, .int .u64 0], .int .i64 4]) (by simp [results, Tryz.results15, go_sem, d0, d1, d2, d3]) rfl
                ⟨0, 0, 0, 0, by rw [E.out], (((hbw.setCell (Nat.le_refl _) _).setCell (Nat.le_refl _) _).setCell (Nat.le_refl _) _).setCell (Nat.le_refl _) _⟩
            · have cP : ∀ W gb, Below wr.heap.size wr W → W.cell? ⟨gb, 0, none⟩ = some (.int .u64 (10 : Nat)) → gb < W.heap.size →
                  Calls Tryz.prog 24 #[.slice (some ⟨g, 0, none⟩) l.length cap, .slice (some ⟨gb, 0, none⟩) 1 1] W (ProdOut 10 l W) := fun W gb hb hc hgb =>
                (prod_any g cap gb 1 10 l W (hd.below hg hb) hc (Nat.lt_of_lt_of_le hg hb.size) hgb (by omega) hld (by omega)).mono fun e w' ⟨a1, a2, a3, a4, a5, a6, a7, a8, a9, a10, a11⟩ => ⟨a1, a2, a3, a4, a5, a6, a7, a8, Lib.hid ⟨a9, a10⟩, a11⟩
              obtain ⟨x, hx⟩ : ∃ x : Nat, s[k].toNat = x + 48 := ⟨s[k].toNat - 48, by omega⟩
              have hx9 : x ≤ 9 := by omega
              have hw8 : IntKind.u8.wrap (x : Int) = x := by rw [IntKind.wrap_u8]; omega
              have hw64 : IntKind.u64.wrap (x : Int) = x := by rw [IntKind.wrap_u64]; omega
              have cS : ∀ W g1 cap1 r1 gb, Digs W g1 r1 → g1 < W.heap.size → (∀ d ∈ r1, d < 65536) → r1.length ≤ 1000 → W.cell? ⟨gb, 0, none⟩ = some (.int .u64 (x : Nat)) → gb < W.heap.size →
                  Calls Tryz.prog 23 #[.slice (some ⟨g1, 0, none⟩) r1.length cap1, .slice (some ⟨gb, 0, none⟩) 1 1] W (SumOut r1 [x] W) := fun W g1 cap1 r1 gb h1 h2 h3 h4 h5 h6 =>
                (sum_any g1 cap1 gb 1 r1 [x] W h1 (fun j hj => by
                  obtain rfl : j = 0 := by simpa using hj
                  exact h5) h2 h6 h4 (by simp) h3 (by simp; omega)).mono fun e w' ⟨a1, a2, a3, a4, a5, a6, a7, a8, a9, a10, a11⟩ => ⟨a1, a2, a3, a4, a5, a6, a7, a8, Lib.hid ⟨a9, a10⟩, a11⟩
              go_wp2
              go_region_with (first
                | (go_at_call 24; refine (cP _ _ (by repeat (first | exact Below.refl _ _ | apply Below.drew | (refine Below.alloc ?_ (by simp <;> omega) _))) (by simp <;> omega) (by simp <;> omega)).mono ?_; rintro e w1 ⟨g1, cap1, r1, rfl, hg1, hg1', hd1, hr1, HH1, hb1⟩)
                | (go_at_call 23; go_must (refine (cS _ _ _ _ _ (by first | exact hd1 | exact hd1.alloc _) (by first | exact hg1' | (simp; omega)) hr1 (by have := HH1.out.2; omega) (by first | (simp; done) | exact (hb1.cell (by simp <;> omega)).trans (by simp)) (by first | (simp; done) | (have := hb1.size; simp at this; simp; omega))).mono ?_); rintro e w2 ⟨g2, cap2, r2, rfl, hg2, hg2', hd2, hr2, HH2, hb2⟩))
              all_goals
                have hB : Below wr.heap.size wr w2 := by
                  refine Below.trans ?_ (hb2.mono (by have := hb1.size; simp at this; simp <;> omega))
                  (try refine Below.alloc ?_ (by have := hb1.size; simp at this; omega) _)
                  refine Below.trans ?_ (hb1.mono (by simp <;> omega))
                  repeat (first | exact Below.refl _ _ | apply Below.drew | (refine Below.alloc ?_ (by simp <;> omega) _))
                go_wp2
                go_roundw
                case rel => exact num_rel hlt hx hx9 hll HV HD hbw h4 hs4 hsz4 HH1 HH2 hg2' hd2 hr2 hB
                case measure => simp [intOf]; omega
        · obtain ⟨u0, d0⟩ := h4 0 (by omega)
          obtain ⟨u1, d1⟩ := h4 1 (by omega)
          obtain ⟨u2, d2⟩ := h4 2 (by omega)
          obtain ⟨u3, d3⟩ := h4 3 (by omega)
          have f0 := hs4 0; have f1 := hs4 1; have f2 := hs4 2; have f3 := hs4 3
          have hge : s.size ≤ k := by omega
          have HG := Lib.hid hge
          go_wp2
          go_loop [6] (fun i => ∃ m : Nat, 16 ≤ m ∧ i = .int .i64 m ∧ Hid (∀ j, 16 ≤ j → j < m → l.getD j 0 = 0)) (fun i => l.length - (intOf i).toNat)
          case atStart => exact ⟨16, by omega, rfl, Lib.hid (fun j h1 h2 => by omega)⟩
          case round =>
            obtain ⟨m, hm, rfl, H0⟩ := hrel
            by_cases hml : m < l.length
            · have c1 := hd m hml
              obtain ⟨x, hx⟩ : ∃ x, x = l.getD m 0 := ⟨_, rfl⟩
              rw [← hx] at c1
              have bx : x < 65536 := by rw [hx]; exact getD_lt hld (by omega) m
              have HX := Lib.hid hx; clear hx
              by_cases hx0 : x = 0
              · have b0 : ((x : Int) != 0) = false := by simp [hx0]
                have HZ := Lib.hid hx0; clear hx0
                go_wp2
                go_round
                case rel => exact ⟨m + 1, by omega, by go_num, Lib.hid (fun j h1 h2 => by
                    by_cases hj : j < m
                    · exact H0.out j h1 hj
                    · obtain rfl : j = m := by omega
                      rw [← HX.out, HZ.out])⟩
                case measure => simp [intOf]; omega
              · have b0 : ((x : Int) != 0) = true := by rw [bne_iff_ne]; omega
                have E := Lib.hid (err_long HF.out hge HD.out HV.out hld hm hml (by rw [← HX.out]; exact hx0))
                clear hx0 h4 hs4
                go_wp2
                exact bodyPost_ret (v := .tuple #[.agg #[.int .u64 0, .int .u64 0, .int .u64 0, .int .u64 0], .int .i64 2]) (by simp [results, Tryz.results15, go_sem, d0, d1, d2, d3]) rfl
                  ⟨0, 0, 0, 0, by rw [E.out], (((hbw.setCell (Nat.le_refl _) _).setCell (Nat.le_refl _) _).setCell (Nat.le_refl _) _).setCell (Nat.le_refl _) _⟩
            · have E := Lib.hid (err_fits HF.out hge HD.out HV.out hld (fun j h1 h2 => H0.out j h1 (by omega)))
              have cW : Calls Tryz.prog 25 #[.slice (some ⟨g, 0, none⟩) l.length cap] wr (WordOut wr) := word_any g cap l wr hd hg (by omega) hld
              go_wp2_with (go_at_call 25; refine cW.mono ?_; rintro e w1 ⟨a0, a1, a2, a3, rfl, hb1⟩; have d0' := (hb1.cell (p := ⟨w.heap.size, 0, none⟩) hsz4).trans d0; have d1' := (hb1.cell (p := ⟨w.heap.size, 1, none⟩) hsz4).trans d1; have d2' := (hb1.cell (p := ⟨w.heap.size, 2, none⟩) hsz4).trans d2; have d3' := (hb1.cell (p := ⟨w.heap.size, 3, none⟩) hsz4).trans d3; have f0' := (hb1.frozen (p := ⟨w.heap.size, 0, none⟩) hsz4).trans f0; have f1' := (hb1.frozen (p := ⟨w.heap.size, 1, none⟩) hsz4).trans f1; have f2' := (hb1.frozen (p := ⟨w.heap.size, 2, none⟩) hsz4).trans f2; have f3' := (hb1.frozen (p := ⟨w.heap.size, 3, none⟩) hsz4).trans f3)
              have hbz := hbw.trans (hb1.mono hbw.size)
              exact bodyPost_ret (v := .tuple #[.agg #[.int .u64 a0, .int .u64 a1, .int .u64 a2, .int .u64 a3], .int .i64 0]) (by simp [results, Tryz.results15, go_sem, d0', d1', d2', d3']) rfl
                ⟨a0, a1, a2, a3, by rw [E.out], (((hbz.setCell (Nat.le_refl _) _).setCell (Nat.le_refl _) _).setCell (Nat.le_refl _) _).setCell (Nat.le_refl _) _⟩
end Go.Proofs.YtkmpbmlcmglmnaaGreatDoor
