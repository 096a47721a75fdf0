/- Two words reckoned with: the table of functions, and the sum of the law's own script. -/
import Derived.Test.YtkmpbmlcmglmnaaGreatDoorLiveA
import Derived.WideMake
set_option linter.all false
namespace Go.Proofs.YtkmpbmlcmglmnaaGreatDoor
open Go Go.RowKit
theorem upd_new {w : World} {r clock : Nat} {es : Array MapEntry} (hb : w.heap[r]? = some (.map es clock)) (s : ByteArray) (val : Value) (hf : Instr.findNow .string (.string s) es.toList 0 = some none) :
    ∃ w1, (Instr.mapUpdate 204 (.map (some r)) (.string s) val).run Tryz.prog w = .ok () w1 ∧ w1.heap[r]? = some (.map (es.push { key := .string s, val := val, born := clock }) (clock + 1)) ∧ Below r w w1 := by
  have hm := Tryz.underlying204
  have hk := Tryz.underlying9
  have hc : (Instr.checkKey false 10000 9 (.string s)).run Tryz.prog w = .ok () w := MapKept.run_checkKey (k := .string s) hk (by simp [MapKept.IsKey]) false 9999
  refine ⟨{ w with heap := w.heap.setIfInBounds r (.map (es.push { key := .string s, val := val, born := clock }) (clock + 1)) }, ?_, ?_, ?_⟩
  · simp [Instr.mapUpdate, run_underlying hm, MapKept.run_getObj_map hb, hc, MapKept.run_findKey hk hf, MapKept.run_setObj_map _ hb, Result.andThen]
  · have := (Array.getElem?_eq_some_iff.1 hb).1
    simp [Array.getElem?_setIfInBounds, this]
  · refine ⟨rfl, rfl, rfl, by simp, fun k hk => ?_⟩
    rw [Array.getElem?_setIfInBounds, if_neg (by omega)]
theorem look_at {w : World} {r clock : Nat} {es : Array MapEntry} (hb : w.heap[r]? = some (.map es clock)) (s : ByteArray) {i : Nat} {v : Value} (hf : Instr.findNow .string (.string s) es.toList 0 = some (some (i, v))) :
    (Instr.lookup 204 (.map (some r)) (.string s) false).run Tryz.prog w = .ok v w := by
  have hm := Tryz.underlying204
  have hk := Tryz.underlying9
  have hc : ∀ b, (Instr.checkKey b 10000 9 (.string s)).run Tryz.prog w = .ok () w := fun b => MapKept.run_checkKey (k := .string s) hk (by simp [MapKept.IsKey]) b 9999
  simp [Instr.lookup, run_underlying hm, MapKept.run_getObj_map hb, hc, MapKept.run_findKey hk hf, Result.andThen]
set_option maxRecDepth 100000 in
set_option maxHeartbeats 2000000 in
theorem words_add (hA : AddOk) (S : Value) (w : World) : Calls Tryz.prog 59 #[S, .string ⟨#[97, 100, 100]⟩, .agg #[.int .u64 2, .int .u64 0, .int .u64 0, .int .u64 0], .agg #[.int .u64 3, .int .u64 0, .int .u64 0, .int .u64 0]] w fun e w' => e = .returned (.string ⟨#[53]⟩) ∧ Below w.heap.size w w' := by
  go_enter Tryz.func59, Tryz.ntmps59
  have hmk := fun w : World => run_makeMap_plain (P := Tryz.prog) w 204
  have h0 : (((w.alloc (.cells #[.int .u64 2, .int .u64 0, .int .u64 0, .int .u64 0] 44)).alloc (.cells #[.int .u64 3, .int .u64 0, .int .u64 0, .int .u64 0] 44)).alloc (.map #[] 0)).heap[w.heap.size + 1 + 1]? = some (.map #[] 0) := by
    rw [heap_alloc_at, if_pos (by simp)]
  obtain ⟨m1, u1, h1, g1⟩ := upd_new h0 ⟨#[97, 100, 100]⟩ (.func (.func 111) #[] #[]) (by rfl)
  obtain ⟨m2, u2, h2, g2⟩ := upd_new h1 ⟨#[115, 117, 98]⟩ (.func (.func 112) #[] #[]) (by rfl)
  obtain ⟨m3, u3, h3, g3⟩ := upd_new h2 ⟨#[109, 117, 108]⟩ (.func (.func 113) #[] #[]) (by rfl)
  obtain ⟨m4, u4, h4, g4⟩ := upd_new h3 ⟨#[100, 105, 118]⟩ (.func (.func 114) #[] #[]) (by rfl)
  obtain ⟨m5, u5, h5, g5⟩ := upd_new h4 ⟨#[109, 111, 100]⟩ (.func (.func 115) #[] #[]) (by rfl)
  obtain ⟨m6, u6, h6, g6⟩ := upd_new h5 ⟨#[115, 100, 105, 118]⟩ (.func (.func 116) #[] #[]) (by rfl)
  obtain ⟨m7, u7, h7, g7⟩ := upd_new h6 ⟨#[115, 109, 111, 100]⟩ (.func (.func 117) #[] #[]) (by rfl)
  obtain ⟨m8, u8, h8, g8⟩ := upd_new h7 ⟨#[101, 120, 112]⟩ (.func (.func 118) #[] #[]) (by rfl)
  obtain ⟨m9, u9, h9, g9⟩ := upd_new h8 ⟨#[115, 104, 108]⟩ (.func (.func 119) #[] #[]) (by rfl)
  obtain ⟨m10, u10, h10, g10⟩ := upd_new h9 ⟨#[115, 104, 114]⟩ (.func (.func 120) #[] #[]) (by rfl)
  obtain ⟨m11, u11, h11, g11⟩ := upd_new h10 ⟨#[115, 97, 114]⟩ (.func (.func 121) #[] #[]) (by rfl)
  obtain ⟨m12, u12, h12, g12⟩ := upd_new h11 ⟨#[115, 105, 103, 110]⟩ (.func (.func 122) #[] #[]) (by rfl)
  obtain ⟨m13, u13, h13, g13⟩ := upd_new h12 ⟨#[98, 121, 116, 101]⟩ (.func (.func 123) #[] #[]) (by rfl)
  have hlk := look_at h13 ⟨#[97, 100, 100]⟩ (i := 0) (v := .func (.func 111) #[] #[]) (by rfl)
  have hbW := ((((((((((((g1.trans g2).trans g3).trans g4).trans g5).trans g6).trans g7).trans g8).trans g9).trans g10).trans g11).trans g12).trans g13)
  have hbM : Below w.heap.size w m13 := by
    have b0 : Below w.heap.size w (((w.alloc (.cells #[.int .u64 2, .int .u64 0, .int .u64 0, .int .u64 0] 44)).alloc (.cells #[.int .u64 3, .int .u64 0, .int .u64 0, .int .u64 0] 44)).alloc (.map #[] 0)) := by go_grown
    exact b0.trans (Below.mono hbW (by omega))
  have p0 : m13.cell? ⟨w.heap.size, 0, none⟩ = some (.int .u64 2) := by rw [hbW.cell (p := ⟨w.heap.size, 0, none⟩) (by show w.heap.size < _; omega)]; simp [go_sem]
  have p1 : m13.cell? ⟨w.heap.size, 1, none⟩ = some (.int .u64 0) := by rw [hbW.cell (p := ⟨w.heap.size, 1, none⟩) (by show w.heap.size < _; omega)]; simp [go_sem]
  have p2 : m13.cell? ⟨w.heap.size, 2, none⟩ = some (.int .u64 0) := by rw [hbW.cell (p := ⟨w.heap.size, 2, none⟩) (by show w.heap.size < _; omega)]; simp [go_sem]
  have p3 : m13.cell? ⟨w.heap.size, 3, none⟩ = some (.int .u64 0) := by rw [hbW.cell (p := ⟨w.heap.size, 3, none⟩) (by show w.heap.size < _; omega)]; simp [go_sem]
  have q0 : m13.cell? ⟨w.heap.size + 1, 0, none⟩ = some (.int .u64 3) := by rw [hbW.cell (p := ⟨w.heap.size + 1, 0, none⟩) (by show w.heap.size + 1 < _; omega)]; simp [go_sem]
  have q1 : m13.cell? ⟨w.heap.size + 1, 1, none⟩ = some (.int .u64 0) := by rw [hbW.cell (p := ⟨w.heap.size + 1, 1, none⟩) (by show w.heap.size + 1 < _; omega)]; simp [go_sem]
  have q2 : m13.cell? ⟨w.heap.size + 1, 2, none⟩ = some (.int .u64 0) := by rw [hbW.cell (p := ⟨w.heap.size + 1, 2, none⟩) (by show w.heap.size + 1 < _; omega)]; simp [go_sem]
  have q3 : m13.cell? ⟨w.heap.size + 1, 3, none⟩ = some (.int .u64 0) := by rw [hbW.cell (p := ⟨w.heap.size + 1, 3, none⟩) (by show w.heap.size + 1 < _; omega)]; simp [go_sem]
  have hlt : w.heap.size + 1 + 1 < m13.heap.size := by have := hbW.size; simp at this; omega
  have hfn : ∀ w, (binOp .neq 203 (.func (.func 111) #[] #[]) .nilFunc).run Tryz.prog w = .ok (.bool true) w := fun _ => by kernel_rfl
  clear h0 h1 h2 h3 h4 h5 h6 h7 h8 h9 h10 h11 h12 h13 g1 g2 g3 g4 g5 g6 g7 g8 g9 g10 g11 g12 g13 hbW
  go_wp2_with (first | (go_at_call 111; refine (addw_prog hA _).mono ?_; rintro e1 w1 ⟨rfl, hb1⟩) | (go_at_call 85; refine (decimal_five _).mono ?_; rintro e2 w2 ⟨rfl, hb2⟩))
  go_ret
  exact ⟨rfl, (hbM.trans (hb1.mono (by omega))).trans (hb2.mono (by have := hb1.size; omega))⟩
end Go.Proofs.YtkmpbmlcmglmnaaGreatDoor
