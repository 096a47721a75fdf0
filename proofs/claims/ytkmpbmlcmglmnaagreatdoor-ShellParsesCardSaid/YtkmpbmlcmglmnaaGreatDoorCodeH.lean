/- The program's reader of scripts. -/
import Derived.Test.YtkmpbmlcmglmnaaGreatDoorCodeG
set_option linter.all false
namespace Go.Proofs.YtkmpbmlcmglmnaaGreatDoor
open Go Go.RowKit
def lenOf : Value → Nat
  | .string s => s.size
  | _ => 0
def ScriptRel (s : ByteArray) (w : World) (tx out ln : Value) (wr : World) : Prop :=
  ∃ (t : ByteArray) (n : Nat) (acc : List Cmd) (xs : List Value), t.size + n ≤ s.size ∧ tx = .string t ∧ ln = .int .i64 ((n : Int) + 1) ∧ acc.length ≤ 200 ∧ wr.ownsRow w.heap.size 33 3 out acc.length xs ∧ SayVals wr xs acc ∧ Hid (Left s t.data.toList (n + 1) acc) ∧ Below w.heap.size w wr
theorem line_sizes {l : List UInt8} {ln rs : ByteArray} (h : l ≠ []) (h1 : ln = ⟨(lineOf l).toArray⟩) (h2 : rs = ⟨(restOf l).toArray⟩) : ln.size ≤ l.length ∧ rs.size < l.length := by
  subst h1 h2
  refine ⟨?_, ?_⟩
  · show (lineOf l).toArray.size ≤ _
    simp only [List.size_toArray, lineOf]
    exact (List.takeWhile_sublist _).length_le
  · show (restOf l).toArray.size < _
    simp only [List.size_toArray]
    exact restOf_lt l h
theorem script_none {s t rs : ByteArray} {w wr wx : World} {n : Nat} {acc : List Cmd} {xs : List Value} {out : Value} (htn : t.size + n ≤ s.size) (hrs : rs.size < t.size) (hacc : acc.length ≤ 200)
    (hown : wr.ownsRow w.heap.size 33 3 out acc.length xs) (hsv : SayVals wr xs acc) (hbw : Below w.heap.size w wr) (hbx : Below wr.heap.size wr wx)
    (HK : Hid (Left s (restOf t.data.toList) (n + 1 + 1) acc)) (HRS : Hid (rs = ⟨(restOf t.data.toList).toArray⟩)) : ScriptRel s w (.string rs) out (.int .i64 ((n : Int) + 1 + 1)) wx := by
  have e : rs.data.toList = restOf t.data.toList := by rw [HRS.out]
  exact ⟨rs, n + 1, acc, xs, by omega, rfl, by go_num, hacc, own_below hown hbx, hsv.below hbx, Lib.hid (by rw [e]; exact HK.out), belowStep hbw hbx⟩
theorem news_three2 (w : World) (o : Obj) (x y z : Value) (t : TypeId) : ∀ (j : Nat) u, [x, y, z][j]? = some u → ((w.alloc o).alloc (.cells #[x, y, z] t)).cell? ((⟨w.heap.size + 1, 0, none⟩ : Addr).add j) = some u := by
  have h := World.news_of_block (w := (w.alloc o).alloc (.cells #[x, y, z] t)) (heap_alloc_new (w.alloc o) _)
  rw [show (w.alloc o).heap.size = w.heap.size + 1 by simp] at h
  exact h
theorem script_cmd {s t rs : ByteArray} {w w2 w3 : World} {n : Nat} {acc : List Cmd} {xs : List Value} {L : List ByteArray} {out v' u : Value} {o1 o2 : Obj} (htn : t.size + n ≤ s.size) (hrs : rs.size < t.size) (hacc : acc.length < 200)
    (hown : w2.ownsRow w.heap.size 33 3 out acc.length xs) (hsv : SayVals w2 xs acc) (ha : ArgsAt w2 u L) (hbw : Below w.heap.size w w2) (hg : ((w2.alloc o1).alloc o2).grownBy w3 out.ownBlock)
    (hown' : w3.ownsRow w.heap.size 33 3 v' (acc.length + 1) (xs ++ [.int .i64 ((n : Int) + 1), .string (L.getD 0 ByteArray.empty), u]))
    (HK : Hid (Left s (restOf t.data.toList) (n + 1 + 1) (acc ++ [(n + 1, L)]))) (HRS : Hid (rs = ⟨(restOf t.data.toList).toArray⟩)) : ScriptRel s w (.string rs) v' (.int .i64 ((n : Int) + 1 + 1)) w3 := by
  have e : rs.data.toList = restOf t.data.toList := by rw [HRS.out]
  have hsz := hbw.size
  obtain ⟨ys, h1, h2⟩ := says_step (n := n + 1) hown hsv ha (((Below.refl w2.heap.size w2).alloc (Nat.le_refl _) o1).alloc (by simp) o2) hg hown'
  exact ⟨rs, n + 1, _, ys, by omega, rfl, by go_num, by simp; omega, h1, h2, Lib.hid (by rw [e]; exact HK.out),
    ((hbw.alloc hsz o1).alloc (by simp; omega) o2).grown hg (by simp; omega) (fun k hk => (hown.lt k hk).1)⟩
set_option maxRecDepth 100000 in
set_option maxHeartbeats 2000000 in
theorem script_prog (hC : CutOk) (hF : FieldsOk) (hT : TrimOk) (hI : IndexOk) (hM : MulOk) (hA : AddOk) (s : ByteArray) (w : World) (hw : HasLen w) :
    Calls Tryz.prog 8 #[.string s] w (ParseOut s w) := by
  have HC := Lib.hid hC; have HF := Lib.hid hF; have HT := Lib.hid hT; have HI := Lib.hid hI; have HM := Lib.hid hM; have HA := Lib.hid hA; have HW := Lib.hid hw; clear hC hF hT hI hM hA hw
  obtain ⟨i0, hi, hz0, hz1, hz2⟩ := info_parts infoSay
  go_enter Tryz.func8, Tryz.ntmps8
  by_cases hbig : 65536 < s.size
  · go_wp2
    go_ret3
    exact out_long hbig
  · have hs : s.size ≤ 65536 := by omega
    go_wp2
    go_loopw [0, 5, 6] (ScriptRel s w) (fun tx _ _ _ => lenOf tx)
    case atStart => exact ⟨s, 0, [], [], by omega, rfl, rfl, by simp, World.ownsRow_nil _ _ _ _, fun k hk => absurd hk (Nat.not_lt_zero k), Lib.hid (left_start s), Below.refl _ _⟩
    case round =>
      obtain ⟨t, n, acc, xs, htn, rfl, rfl, hacc, hown, hsv, HL, hbw⟩ := hrel
      cases hE : t.toList.isEmpty
      case true =>
        have e0 : t.data.toList = [] := by
          rw [isEmpty_size] at hE
          exact List.eq_nil_of_length_eq_zero (of_decide_eq_true hE)
        have E := Lib.hid (left_done (e0 ▸ HL.out))
        clear e0
        go_wp2
        go_ret3
        exact out_ok hs E.out ⟨xs, hown, hsv⟩ hacc hbw
      case false =>
        have e0 : t.data.toList ≠ [] := by
          intro e0
          rw [isEmpty_size] at hE
          exact of_decide_eq_false hE (congrArg List.length e0)
        have HNE := Lib.hid e0
        obtain ⟨ln, hln⟩ : ∃ x : ByteArray, x = ⟨(lineOf t.data.toList).toArray⟩ := ⟨_, rfl⟩
        obtain ⟨rs, hrs⟩ : ∃ x : ByteArray, x = ⟨(restOf t.data.toList).toArray⟩ := ⟨_, rfl⟩
        obtain ⟨hls, hrs2⟩ := line_sizes e0 hln hrs
        have htl : t.data.toList.length = t.size := Array.length_toList
        rw [htl] at hls hrs2
        clear htl
        have hls2 : ln.size ≤ 65536 := by omega
        have HLN := Lib.hid hln; have HRS := Lib.hid hrs
        clear hln hrs e0
        obtain ⟨L, hL⟩ : ∃ L, L = fields ln := ⟨_, rfl⟩
        have hfs := fields_sizes ln
        rw [← hL] at hfs
        have hLl : L.length ≤ 65537 := by omega
        have HLf : Hid (L = fields ⟨(lineOf t.data.toList).toArray⟩) := Lib.hid (hL.trans (congrArg fields HLN.out))
        have HS := Lib.hid hfs.2
        have HLL := Lib.hid hL
        clear hL hfs
        cases hk : headHash L
        case true =>
          have HK := Lib.hid (left_none HL.out HNE.out HLf.out hk)
          have HK0 := Lib.hid hk; clear hk
          go_wp2_with (first
            | (go_at_call 12; refine (HC.out _ _ (by omega) (HW.out.below hbw)).mono ?_; rintro e1 w1 ⟨⟨ob, rfl⟩, hb1⟩; rw [← HLN.out, ← HRS.out])
            | (go_at_call 13; refine (parsed_prog HF.out HT.out HI.out HM.out HA.out _ _ hls2).mono ?_; rintro e2 w2 ⟨hp, _, _, hb2⟩; rw [← HLL.out] at hp; obtain rfl := hp HK0.out; clear hp; simp only [noSay]))
          go_roundw
          case rel => exact script_none htn hrs2 hacc hown hsv hbw ((belowStep hb1 hb2).alloc (belowStep hb1 hb2).size _) HK HRS
          case measure => exact hrs2
        case false =>
          cases hc : canW L
          case false =>
            have HB := Lib.hid (left_bad HL.out HNE.out HLf.out hk hc)
            have HK0 := Lib.hid hk; clear hk
            have HC0 := Lib.hid hc; clear hc
            go_wp2_with (first
              | (go_at_call 12; refine (HC.out _ _ (by omega) (HW.out.below hbw)).mono ?_; rintro e1 w1 ⟨⟨ob, rfl⟩, hb1⟩; rw [← HLN.out, ← HRS.out])
              | (go_at_call 13; refine (parsed_prog HF.out HT.out HI.out HM.out HA.out _ _ hls2).mono ?_; rintro e2 w2 ⟨_, hp, _, hb2⟩; rw [← HLL.out] at hp; obtain rfl := hp HK0.out HC0.out; clear hp; simp only [noSay]))
            go_ret3
            exact out_badS hs HB ((belowStep (belowStep hbw hb1) hb2).alloc (belowStep (belowStep hbw hb1) hb2).size _)
          case true =>
            obtain ⟨w0, hw0⟩ : ∃ x, x = L.getD 0 ByteArray.empty := ⟨_, rfl⟩
            have hL0 : 0 < L.length := by cases L with | nil => simp [canW] at hc | cons x t => simp
            have hw0s := (HS.out w0 (by rw [hw0, List.getD_eq_getElem?_getD, List.getElem?_eq_getElem hL0]; exact List.getElem_mem hL0)).1
            have hwE : w0.toList.isEmpty = false := by rw [isEmpty_size]; exact decide_eq_false (by omega)
            have HW0 := Lib.hid hw0; clear hw0
            by_cases hm : acc.length = 200
            case pos =>
              have HB := Lib.hid (left_many HL.out HNE.out HLf.out hk (by omega))
              have HK0 := Lib.hid hk; clear hk
              have HC0 := Lib.hid hc; clear hc
              obtain ⟨oa, oc, rfl⟩ := own_slice hown
              go_wp2_with (first
                | (go_at_call 12; refine (HC.out _ _ (by omega) (HW.out.below hbw)).mono ?_; rintro e1 w1 ⟨⟨ob, rfl⟩, hb1⟩; rw [← HLN.out, ← HRS.out])
                | (go_at_call 13; refine (parsed_prog HF.out HT.out HI.out HM.out HA.out _ _ hls2).mono ?_; rintro e2 w2 ⟨_, _, hp, hb2⟩; rw [← HLL.out] at hp; obtain ⟨v, rfl, hav⟩ := hp HK0.out HC0.out; clear hp; rw [← HW0.out]; obtain ⟨wA, wa, wcap, rfl, hwa, _, hwq⟩ := hav))
              go_ret3
              exact out_badS hs HB ((belowStep (belowStep hbw hb1) hb2).alloc (belowStep (belowStep hbw hb1) hb2).size _)
            case neg =>
              have HK := Lib.hid (left_cmd HL.out HNE.out HLf.out hk hc (by omega))
              have HK0 := Lib.hid hk; clear hk
              have HC0 := Lib.hid hc; clear hc
              obtain ⟨oa, oc, rfl⟩ := own_slice hown
              have hm2 : acc.length < 200 := by omega
              go_wp2_with (first
                | (go_at_call 12; refine (HC.out _ _ (by omega) (HW.out.below hbw)).mono ?_; rintro e1 w1 ⟨⟨ob, rfl⟩, hb1⟩; rw [← HLN.out, ← HRS.out])
                | (go_at_call 13; refine (parsed_prog HF.out HT.out HI.out HM.out HA.out _ _ hls2).mono ?_; rintro e2 w2 ⟨_, _, hp, hb2⟩; rw [← HLL.out] at hp; obtain ⟨v, rfl, hav⟩ := hp HK0.out HC0.out; clear hp; rw [← HW0.out]; obtain ⟨wA, wa, wcap, rfl, hwa, hwn, hwq⟩ := hav; have hbx := belowStep hb1 hb2; have hown2 := own_below hown hbx; have hsv2 := hsv.below hbx; have hbw2 := belowStep hbw hbx; have hsz2 := hbw2.size)
                | (at_builtin; refine wpList_append_own _ rfl _ _ 22 rfl w.heap.size 33 i0 (.agg #[.int .i64 0, .string ⟨#[]⟩, .slice none 0 0]) 3 48 Tryz.underlying22 hi hz0 hz1 hz2 rfl (by decide) _ _ _ rfl ((hown2.alloc _).alloc _) ⟨w2.heap.size + 1, 0, none⟩ 1 1 _ rfl (by rfl) (news_three2 _ _ _ _ _ _) (by intro u hu; simp only [List.mem_cons, List.not_mem_nil, or_false] at hu; rcases hu with rfl | rfl | rfl <;> rfl) (by unfold maxLen; omega) (by omega) (by simp; omega) ?_; intro v' w3 hown' hgrow _))
              go_roundw
              case rel => exact script_cmd htn hrs2 hm2 hown2 hsv2 ⟨wA, wa, wcap, rfl, hwa, hwn, hwq⟩ hbw2 hgrow (by rw [← HW0.out]; exact hown') HK HRS
              case measure => exact hrs2
theorem parse_shape {s : ByteArray} {w w' : World} {e : Ending} (h : ParseOut s w e w') : ∃ (v : Value) (n f : Int), e = .returned (.tuple #[v, .int .i64 n, .int .i64 f]) := by
  obtain ⟨h1, h2, h3, _⟩ := h
  by_cases hb : 65536 < s.size
  · exact ⟨_, _, _, h1 hb⟩
  · cases hp : parseS s with
    | bad n => exact ⟨_, _, _, h2 (by omega) n hp⟩
    | ok l =>
      obtain ⟨v, e, _⟩ := h3 (by omega) l hp
      exact ⟨v, _, _, e⟩
set_option maxHeartbeats 1000000 in
theorem parse_prog (hC : CutOk) (hF : FieldsOk) (hT : TrimOk) (hI : IndexOk) (hM : MulOk) (hA : AddOk) (s : ByteArray) (w : World) (hw : HasLen w) :
    Calls Tryz.prog 4 #[.string s] w (ParseOut s w) := by
  go_enter Tryz.func4, Tryz.ntmps4
  go_wp2_with (go_at_call 8; refine (script_prog hC hF hT hI hM hA _ _ hw).mono ?_; intro e1 w1 hp; obtain ⟨v, n, f, rfl⟩ := parse_shape hp)
  go_ret3
  exact hp
end Go.Proofs.YtkmpbmlcmglmnaaGreatDoor
