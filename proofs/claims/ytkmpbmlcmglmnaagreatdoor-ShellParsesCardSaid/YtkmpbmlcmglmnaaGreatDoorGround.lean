/- Small lemmas on worlds; what a list of read commands is in memory; what is asked of library functions: no conditions. -/
import Derived.Test.YtkmpbmlcmglmnaaGreatDoorProg
import Derived.Test.YtkmpbmlcmglmnaaGreatDoorPlain
import Derived.WalkKit
import Derived.ProofKit
import Derived.WalkSpells
import Derived.BigQuiet
import Derived.Deep.QuietTactic
import Derived.StillTailTactics
import Derived.Lib.Hide
import Derived.Deep.RegionLaw
import Derived.Deep.AppendLies
import Derived.Lib.SlTrimSet
set_option linter.all false

namespace Go.Proofs.YtkmpbmlcmglmnaaGreatDoor
open Go Go.RowKit
theorem infoStr : (Tryz.prog.info? 9).map (fun i => (i.zero, i.size, i.bytes)) = some (some (.string ⟨#[]⟩), 1, 16) := by kernel_rfl
theorem infoU8 : (Tryz.prog.info? 5).map (fun i => (i.zero, i.size, i.bytes)) = some (some (.int .u8 0), 1, 1) := by kernel_rfl
theorem infoU64 : (Tryz.prog.info? 42).map (fun i => (i.zero, i.size, i.bytes)) = some (some (.int .u64 0), 1, 8) := by kernel_rfl
theorem own_below {W W' : World} {B e size n : Nat} {v : Value} {xs : List Value} (h : W.ownsRow B e size v n xs) (hb : Below W.heap.size W W') : W'.ownsRow B e size v n xs :=
  h.kept (row := none) ⟨hb.os, hb.tape, hb.output, hb.size, fun k hk _ => hb.block k hk⟩ (Classical.em _)
theorem ret_int {k : IntKind} {a b : Int} (h : a = b) : Ending.returned (.int k a) = .returned (.int k b) := by rw [h]
theorem ret_bool {a b : Bool} (h : a = b) : Ending.returned (.bool a) = .returned (.bool b) := by rw [h]
/-- the cells of one value that a one-element append hands over. -/
theorem news_one {w : World} {x : Value} (h : w.cell? ⟨w.heap.size - 1, 0, none⟩ = some x) : ∀ (j : Nat) u, [x][j]? = some u → w.cell? ((⟨w.heap.size - 1, 0, none⟩ : Addr).add j) = some u := by
  intro j u hj
  match j, hj with
  | 0, hj => simp at hj; subst hj; simpa [Addr.add] using h
theorem news_box (w : World) (x : Value) (t : TypeId) : ∀ (j : Nat) u, [x][j]? = some u → (w.alloc (.cells #[x] t)).cell? ((⟨w.heap.size, 0, none⟩ : Addr).add j) = some u := by
  intro j u hj
  match j, hj with
  | 0, hj => simp at hj; subst hj; simp [Addr.add]
theorem news_box_drew (w : World) (x : Value) (t : TypeId) : ∀ (j : Nat) u, [x][j]? = some u → (w.alloc (.cells #[x] t)).drew.cell? ((⟨w.heap.size, 0, none⟩ : Addr).add j) = some u := news_box w x t
theorem own_drew {w : World} {base e size n : Nat} {v : Value} {xs : List Value} (h : w.ownsRow base e size v n xs) : w.drew.ownsRow base e size v n xs :=
  h.kept (row := none) ⟨rfl, rfl, rfl, Nat.le_refl _, fun _ _ _ => rfl⟩ (Classical.em _)
theorem own_slice {w : World} {base e size n : Nat} {v : Value} {xs : List Value} (h : w.ownsRow base e size v n xs) : ∃ a c, v = .slice a n c := by
  rcases h.2 with ⟨rfl, rfl⟩ | ⟨g, cap, cur, rfl, _⟩
  · exact ⟨none, 0, rfl⟩
  · exact ⟨some ⟨g, 0, none⟩, cap, rfl⟩
theorem getD_lt {l : List Nat} {B : Nat} (h : ∀ d ∈ l, d < B) (hB : 0 < B) (k : Nat) : l.getD k 0 < B := by
  by_cases hk : k < l.length
  · exact h _ (by simp [hk])
  · simpa [hk] using hB
/-- an append to a row of the call's own, as one step of a region that draws its order. -/
theorem step_append_own {P : Program} {ops : Array Oper} {o : Oper} {a : Act} {w : World} {K : Act → World → Prop} {Q : Exit → Act → World → Prop} {E : Prop} (hgd : o.guard = none) (s x : Operand) (t : TypeId)
    (ho : o.op = .call { callee := .builtin .append, args := #[s, x], argTypes := #[t, t] })
    (base : Nat) (e : TypeId) (i : TypeInfo) (z : Value) (size bytes : Nat) (ht : P.underlying t = some (.slice e)) (hi : P.info? e = some i) (hz : i.zero = some z)
    (hsize : i.size = size) (hby : i.bytes = bytes) (hzs : z.cells.size = size) (hsz : 0 < size)
    (v : Value) (n : Nat) (xs : List Value) (hs : a.eval s = v) (hown : w.ownsRow base e size v n xs)
    (ad : Addr) (m c : Nat) (news : List Value) (hx : a.eval x = .slice (some ad) m c) (hl : news.length = m * size) (hnews : ∀ j u, news[j]? = some u → w.cell? (ad.add j) = some u) (h1 : ∀ u ∈ news, u.oneCell' = true)
    (h63 : n + m ≤ maxLen) (hbytes : (n + m) * bytes ≤ 140737488355328) (hbase : base ≤ w.heap.size)
    (h : ∀ v' w', w'.ownsRow base e size v' (n + m) (xs ++ news) → w.grownBy w' v.ownBlock → K (a.put o.dst v') w') : if Region.wanted o (yielded ops a.tmps) = true then Oper.wp P o a w K Q else E := by
  have hw : Region.wanted o (yielded ops a.tmps) = true := by simp [Region.wanted, hgd]
  rw [if_pos hw]
  exact wp_append_own w s x t ho base e i z size bytes ht hi hz hsize hby hzs hsz v n xs hs hown ad m c news hx hl hnews h1 h63 hbytes hbase fun v' w' h2 h3 _ => h v' w' h2 h3
end Go.Proofs.YtkmpbmlcmglmnaaGreatDoor

namespace Go.Proofs.YtkmpbmlcmglmnaaGreatDoor
open Go Go.RowKit
theorem infoSay : (Tryz.prog.info? 33).map (fun i => (i.zero, i.size, i.bytes)) = some (some (.agg #[.int .i64 0, .string ⟨#[]⟩, .slice none 0 0]), 3, 48) := by kernel_rfl
def WordsAt (w : World) (A : Nat) (ws : List ByteArray) : Prop := ∃ cur, w.heap[A]? = some (.cells cur 9 (0, 0)) ∧ cur.toList.take ws.length = ws.map Value.string
def ArgsAt (w : World) (v : Value) (ws : List ByteArray) : Prop := ∃ (A : Nat) (a : Option Addr) (cap : Nat), v = .slice a (ws.length - 1) cap ∧ (2 ≤ ws.length → a = some ⟨A, 1, none⟩) ∧ ws.length ≤ 65537 ∧ WordsAt w A ws
theorem WordsAt.lt {w : World} {A : Nat} {ws : List ByteArray} (h : WordsAt w A ws) : A < w.heap.size := by
  obtain ⟨cur, h, _⟩ := h; exact (Array.getElem?_eq_some_iff.1 h).1
theorem WordsAt.strs {w : World} {A : Nat} {ws : List ByteArray} (h : WordsAt w A ws) : ∀ k, k < ws.length → w.cell? ⟨A, k, none⟩ = some (.string (ws.getD k ByteArray.empty)) := by
  obtain ⟨cur, h, h2⟩ := h
  intro k hk
  have h3 : (cur.toList.take ws.length)[k]? = (ws.map Value.string)[k]? := by rw [h2]
  rw [cell_of_row w A k cur _ _ h]
  rw [List.getElem?_take, if_pos hk, List.getElem?_map, List.getElem?_eq_getElem hk] at h3
  rw [List.getD_eq_getElem?_getD, List.getElem?_eq_getElem hk]
  simpa using h3
theorem WordsAt.below {w w' : World} {A : Nat} {ws : List ByteArray} (h : WordsAt w A ws) (hb : Below w.heap.size w w') : WordsAt w' A ws := by
  have := h.lt
  obtain ⟨cur, h, h2⟩ := h
  exact ⟨cur, (hb.block A this).trans h, h2⟩
theorem ArgsAt.below {w w' : World} {v : Value} {ws : List ByteArray} (h : ArgsAt w v ws) (hb : Below w.heap.size w w') : ArgsAt w' v ws := by
  obtain ⟨A, a, cap, h1, h2, hn, h3⟩ := h; exact ⟨A, a, cap, h1, h2, hn, h3.below hb⟩
theorem WordsAt.grown {w w' : World} {A : Nat} {ws : List ByteArray} (h : WordsAt w A ws) {base size n : Nat} {v : Value} {xs : List Value} (ho : w.ownsRow base 33 size v n xs) (hg : w.grownBy w' v.ownBlock) : WordsAt w' A ws := by
  have hl := h.lt
  obtain ⟨cur, h, h2⟩ := h
  refine ⟨cur, (hg.block A hl ?_).trans h, h2⟩
  rcases ho.2 with ⟨rfl, _⟩ | ⟨g, cap, cu, rfl, _, hgb, _⟩
  · simp [Value.ownBlock]
  · intro e
    obtain rfl : A = g := by simpa [Value.ownBlock] using e
    have := h.symm.trans hgb
    simp at this
theorem ArgsAt.grown {w w' : World} {u : Value} {ws : List ByteArray} (h : ArgsAt w u ws) {base size n : Nat} {v : Value} {xs : List Value} (ho : w.ownsRow base 33 size v n xs) (hg : w.grownBy w' v.ownBlock) : ArgsAt w' u ws := by
  obtain ⟨A, a, cap, h1, h2, hn, h3⟩ := h; exact ⟨A, a, cap, h1, h2, hn, h3.grown ho hg⟩
/-- cells that hold these commands. -/
def SayVals (w : World) (xs : List Value) (l : List Cmd) : Prop :=
  ∀ k, (hk : k < l.length) → xs[3 * k]? = some (.int .i64 l[k].1) ∧ xs[3 * k + 1]? = some (.string (l[k].2.getD 0 ByteArray.empty)) ∧ ∃ v, xs[3 * k + 2]? = some v ∧ ArgsAt w v l[k].2
def Says (w : World) (base : Nat) (v : Value) (l : List Cmd) : Prop := ∃ xs, w.ownsRow base 33 3 v l.length xs ∧ SayVals w xs l
theorem SayVals.below {w w' : World} {xs : List Value} {l : List Cmd} (h : SayVals w xs l) (hb : Below w.heap.size w w') : SayVals w' xs l := fun k hk => by
  obtain ⟨a, b, v, c, d⟩ := h k hk
  exact ⟨a, b, v, c, d.below hb⟩
theorem head_eq {L : List ByteArray} (h0 : L ≠ []) {w0 : ByteArray} (hw : w0 = L.getD 0 ByteArray.empty) (h : 0 < w0.size) : headHash L = (((w0[0].toNat : Nat) : Int) == 35) := by
  cases L with
  | nil => exact absurd rfl h0
  | cons x t =>
    simp only [List.getD_cons_zero] at hw
    subst hw
    have hb := byte_at w0 0 h
    simp only [headHash, hb, Option.getD_some]
    by_cases hx : w0[0].toNat = 35
    · rw [hx]; rfl
    · rw [beq_eq_false_iff_ne.2 hx, beq_eq_false_iff_ne.2 (by omega)]
theorem Says.below {w w' : World} {base : Nat} {v : Value} {l : List Cmd} (h : Says w base v l) (hb : Below w.heap.size w w') : Says w' base v l := by
  obtain ⟨xs, h1, h2⟩ := h
  refine ⟨xs, own_below h1 hb, fun k hk => ?_⟩
  obtain ⟨a, b, v, c, d⟩ := h2 k hk
  exact ⟨a, b, v, c, d.below hb⟩
theorem Says.nil (w : World) (base : Nat) : Says w base (.slice none 0 0) [] := ⟨[], World.ownsRow_nil _ _ _ _, fun k hk => absurd hk (Nat.not_lt_zero k)⟩
/-- one more command behind a list. -/
theorem says_step {w wa w' : World} {base n : Nat} {v v' u : Value} {acc : List Cmd} {ws : List ByteArray} {xs : List Value}
    (ho : w.ownsRow base 33 3 v acc.length xs) (hv : SayVals w xs acc) (ha : ArgsAt w u ws) (hb : Below w.heap.size w wa) (hg : wa.grownBy w' v.ownBlock)
    (ho' : w'.ownsRow base 33 3 v' (acc.length + 1) (xs ++ [.int .i64 n, .string (ws.getD 0 ByteArray.empty), u])) : Says w' base v' (acc ++ [(n, ws)]) := by
  have hoa := own_below ho hb
  have hl : xs.length = 3 * acc.length := by rw [ho.1]; omega
  refine ⟨_, by simpa using ho', fun k hk => ?_⟩
  by_cases hlt : k < acc.length
  · obtain ⟨a, b, x, c, d⟩ := hv k hlt
    have e : (acc ++ [(n, ws)])[k] = acc[k] := List.getElem_append_left hlt
    rw [e]
    refine ⟨?_, ?_, x, ?_, (d.below hb).grown hoa hg⟩
    · rw [List.getElem?_append_left (by omega)]; exact a
    · rw [List.getElem?_append_left (by omega)]; exact b
    · rw [List.getElem?_append_left (by omega)]; exact c
  · obtain rfl : k = acc.length := by simp at hk; omega
    have e : (acc ++ [(n, ws)])[acc.length] = (n, ws) := by simp
    rw [e]
    refine ⟨?_, ?_, u, ?_, (ha.below hb).grown hoa hg⟩
    · rw [List.getElem?_append_right (by omega), show 3 * acc.length - xs.length = 0 by omega]; rfl
    · rw [List.getElem?_append_right (by omega), show 3 * acc.length + 1 - xs.length = 1 by omega]; rfl
    · rw [List.getElem?_append_right (by omega), show 3 * acc.length + 2 - xs.length = 2 by omega]; rfl
/-- a slice of the words behind the first. -/
theorem args_of {w : World} {g cap : Nat} {ws : List ByteArray} (h : WordsAt w g ws) (hn : ws.length ≤ 65537) (hcap : ws.length ≤ cap) : ArgsAt w (.slice (if cap = 1 then some ⟨g, 0, none⟩ else some ⟨g, 1, none⟩) (ws.length - 1) (cap - 1)) ws :=
  ⟨g, _, _, rfl, fun h2 => if_neg (by omega), hn, h⟩
theorem own_words {w : World} {base : Nat} {v : Value} {L : List ByteArray} (h : w.ownsRow base 9 1 v L.length (L.map Value.string)) (h0 : L ≠ []) :
    ∃ g cap, v = .slice (some ⟨g, 0, none⟩) L.length cap ∧ L.length ≤ cap ∧ cap ≤ maxLen ∧ WordsAt w g L := by
  rcases h.2 with ⟨_, hn⟩ | ⟨g, cap, cur, rfl, _, hg, hc, hm, _, ht⟩
  · exact absurd (List.length_eq_zero_iff.1 hn) h0
  · exact ⟨g, cap, rfl, hc, hm, cur, hg, by simpa using ht⟩
/-- a reader's answer. -/
def ParseOut (s : ByteArray) (w : World) (e : Ending) (w' : World) : Prop :=
  (65536 < s.size → e = .returned (.tuple #[.slice none 0 0, .int .i64 0, .int .i64 2])) ∧
  (s.size ≤ 65536 → ∀ n, parseS s = .bad n → e = .returned (.tuple #[.slice none 0 0, .int .i64 n, .int .i64 290])) ∧
  (s.size ≤ 65536 → ∀ l, parseS s = .ok l → ∃ v, e = .returned (.tuple #[v, .int .i64 0, .int .i64 0]) ∧ Says w' w.heap.size v l ∧ l.length ≤ 200) ∧ Below w.heap.size w w'
theorem out_long {s : ByteArray} {w : World} (h : 65536 < s.size) : ParseOut s w (.returned (.tuple #[.slice none 0 0, .int .i64 0, .int .i64 2])) w :=
  ⟨fun _ => rfl, fun h2 => by omega, fun h2 => by omega, Below.refl _ _⟩
theorem out_bad {s : ByteArray} {w w' : World} {n : Nat} (h : s.size ≤ 65536) (hp : parseS s = .bad n) (hb : Below w.heap.size w w') : ParseOut s w (.returned (.tuple #[.slice none 0 0, .int .i64 n, .int .i64 290])) w' :=
  ⟨fun h2 => by omega, fun _ m hm => by rw [hp] at hm; cases hm; rfl, fun _ l hl => (by rw [hp] at hl; cases hl), hb⟩
theorem out_badS {s : ByteArray} {w w' : World} {n : Nat} (h : s.size ≤ 65536) (hp : Hid (parseS s = .bad (n + 1))) (hb : Below w.heap.size w w') : ParseOut s w (.returned (.tuple #[.slice none 0 0, .int .i64 ((n : Int) + 1), .int .i64 290])) w' := out_bad h hp.out hb
theorem news_three {w : World} (x y z : Value) (t : TypeId) : ∀ (j : Nat) u, [x, y, z][j]? = some u → (w.alloc (.cells #[x, y, z] t)).drew.cell? ((⟨w.heap.size, 0, none⟩ : Addr).add j) = some u :=
  World.news_of_block (w := (w.alloc (.cells #[x, y, z] t)).drew) (heap_alloc_new w _)
theorem out_ok {s : ByteArray} {w w' : World} {v : Value} {l : List Cmd} (h : s.size ≤ 65536) (hp : parseS s = .ok l) (hs : Says w' w.heap.size v l) (hn : l.length ≤ 200) (hb : Below w.heap.size w w') : ParseOut s w (.returned (.tuple #[v, .int .i64 0, .int .i64 0])) w' :=
  ⟨fun h2 => by omega, fun _ m hm => (by rw [hp] at hm; cases hm), fun _ k hk => by rw [hp] at hk; cases hk; exact ⟨v, rfl, hs, hn⟩, hb⟩
/-- what is still to be read. -/
def Left (s : ByteArray) (l : List UInt8) (n : Nat) (acc : List Cmd) : Prop := ∃ f, l.length ≤ f ∧ parseS s = parseL f l n acc
theorem left_start (s : ByteArray) : Left s s.data.toList 1 [] := ⟨s.size, Nat.le_of_eq (Array.length_toList), rfl⟩
theorem left_done {s : ByteArray} {n : Nat} {acc : List Cmd} (h : Left s [] n acc) : parseS s = .ok acc := by obtain ⟨f, _, h⟩ := h; rw [h, parseL_done]
theorem left_split {s : ByteArray} {l : List UInt8} {n : Nat} {acc : List Cmd} (h : Left s l n acc) (hl : l ≠ []) : ∃ f, (restOf l).length ≤ f ∧ parseS s = parseL (f + 1) l n acc := by
  obtain ⟨f, h1, h2⟩ := h
  have := restOf_lt l hl
  cases f with
  | zero => omega
  | succ f => exact ⟨f, by omega, h2⟩
theorem left_none {s : ByteArray} {l : List UInt8} {n : Nat} {acc : List Cmd} {L : List ByteArray} (h : Left s l n acc) (hl : l ≠ []) (hL : L = fields ⟨(lineOf l).toArray⟩) (hk : headHash L = true) : Left s (restOf l) (n + 1) acc := by
  obtain ⟨f, h1, h2⟩ := left_split h hl
  exact ⟨f, h1, by rw [h2, parseL_none _ _ _ _ hl (hL ▸ hk)]⟩
theorem left_bad {s : ByteArray} {l : List UInt8} {n : Nat} {acc : List Cmd} {L : List ByteArray} (h : Left s l n acc) (hl : l ≠ []) (hL : L = fields ⟨(lineOf l).toArray⟩) (hk : headHash L = false) (hc : canW L = false) : parseS s = .bad n := by
  obtain ⟨f, h1, h2⟩ := left_split h hl
  rw [h2, parseL_bad _ _ _ _ hl (hL ▸ hk) (hL ▸ hc)]
theorem left_many {s : ByteArray} {l : List UInt8} {n : Nat} {acc : List Cmd} {L : List ByteArray} (h : Left s l n acc) (hl : l ≠ []) (hL : L = fields ⟨(lineOf l).toArray⟩) (hk : headHash L = false) (hm : 200 ≤ acc.length) : parseS s = .bad n := by
  obtain ⟨f, h1, h2⟩ := left_split h hl
  rw [h2, parseL_many _ _ _ _ hl (hL ▸ hk) hm]
theorem left_cmd {s : ByteArray} {l : List UInt8} {n : Nat} {acc : List Cmd} {L : List ByteArray} (h : Left s l n acc) (hl : l ≠ []) (hL : L = fields ⟨(lineOf l).toArray⟩) (hk : headHash L = false) (hc : canW L = true) (hm : acc.length < 200) : Left s (restOf l) (n + 1) (acc ++ [(n, L)]) := by
  obtain ⟨f, h1, h2⟩ := left_split h hl
  exact ⟨f, h1, by rw [h2, parseL_cmd _ _ _ _ hl (hL ▸ hk) (hL ▸ hc) hm, ← hL]⟩
end Go.Proofs.YtkmpbmlcmglmnaaGreatDoor

namespace Go.Proofs.YtkmpbmlcmglmnaaGreatDoor
open Go Go.RowKit
def hexes : ByteArray := ⟨#[48, 49, 50, 51, 52, 53, 54, 55, 56, 57, 97, 98, 99, 100, 101, 102]⟩
def TrimOk : Prop := ∀ (s : ByteArray) (w : World), s.size ≤ 65536 → Calls Tryz.prog 50 #[.string s, .string ⟨#[48, 49, 50, 51, 52, 53, 54, 55, 56, 57, 97, 98, 99, 100, 101, 102]⟩] w fun e w' => e = .returned (.string ⟨(Lib.trimS s.data.toList hexesL).toArray⟩) ∧ Below w.heap.size w w'
def IndexOk : Prop := ∀ (c : UInt8) (w : World), Calls Tryz.prog 51 #[.string ⟨#[48, 49, 50, 51, 52, 53, 54, 55, 56, 57, 97, 98, 99, 100, 101, 102]⟩, .int .u8 (c.toNat : Nat)] w fun e w' => e = .returned (.int .i64 (Lib.indexByte hexesL c)) ∧ w' = w
/-- the variable that strings.Cut reads on its way is an int's cell. -/
def HasLen (w : World) : Prop := ∃ m : Int, w.cell? ⟨0, 0, none⟩ = some (.int .i64 m)
theorem HasLen.below {w w' : World} (h : HasLen w) (hb : Below w.heap.size w w') : HasLen w' := by
  obtain ⟨m, h⟩ := h
  exact ⟨m, (hb.cell (p := ⟨0, 0, none⟩) (World.block_lt_of_cell? w _ h)).trans h⟩
def CutOk : Prop := ∀ (s : ByteArray) (w : World), s.size ≤ 65536 → HasLen w → Calls Tryz.prog 12 #[.string s, .string ⟨#[10]⟩] w fun e w' => (∃ b : Bool, e = .returned (.tuple #[.string ⟨(lineOf s.data.toList).toArray⟩, .string ⟨(restOf s.data.toList).toArray⟩, .bool b])) ∧ Below w.heap.size w w'
def FieldsOk : Prop := ∀ (s : ByteArray) (w : World), s.size ≤ 65536 → Calls Tryz.prog 19 #[.string s, .func (.func 20) #[] #[]] w fun e w' => ∃ A, e = .returned (.slice (some ⟨A, 0, none⟩) (fields s).length (fields s).length) ∧
  w'.ownsRow w.heap.size 9 1 (.slice (some ⟨A, 0, none⟩) (fields s).length (fields s).length) (fields s).length ((fields s).map Value.string) ∧ Below w.heap.size w w'
def MulOk : Prop := ∀ (x y : Nat) (w : World), x < b64 → y < b64 → Calls Tryz.prog 102 #[.int .u64 x, .int .u64 y] w fun e w' => e = .returned (.tuple #[.int .u64 ((x * y / 18446744073709551616 : Nat) : Int), .int .u64 ((x * y % 18446744073709551616 : Nat) : Int)]) ∧ w' = w
def AddOk : Prop := ∀ (x y c : Nat), x < b64 → y < b64 → c ≤ 1 → ∀ w : World, (callFunc 103 #[.int .u64 x, .int .u64 y, .int .u64 c]).run Tryz.prog w = .ok (.value (.tuple #[.int .u64 (((x + y + c) % 18446744073709551616 : Nat) : Int), .int .u64 (((x + y + c) / 18446744073709551616 : Nat) : Int)])) w
end Go.Proofs.YtkmpbmlcmglmnaaGreatDoor
